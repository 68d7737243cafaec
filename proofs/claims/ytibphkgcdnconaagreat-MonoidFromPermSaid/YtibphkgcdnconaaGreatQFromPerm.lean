import Derived.Test.YtibphkgcdnconaaGreatProg
import Derived.Test.YtibphkgcdnconaaGreatVd
import Derived.Test.YtibphkgcdnconaaGreatMFromPerm
namespace Go.Proofs.YtibphkgcdnconaaGreat.V
open Go
set_option linter.unusedVariables false
set_option linter.all false
theorem wz0 {α : Type _} {p : α → Prop} : ∀ x ∈ ([] : List α),p x := fun _ h => absurd h List.not_mem_nil
theorem wz1 {a b : Nat} (h : Nat.ble a b = true) : a ≤ b := Nat.le_of_ble_eq_true h
theorem wz2 {E : Env} {ns nt : Nat} (hT : TTok E) (hE : EnvOK E) {s : FS} {fn : Func} {body : Code} {L : List Spec} {n : Nat} {h : Hint} {rs : List RV} (hL : LoopsOK E ns nt L n body) (hM : ∀ d,evC E L n h body [] (ent ns nt s.as (s.io ++ s.own) d) (finR E s.t s.m s.io rs) = s.M d) (hf : E.P.funcs[s.f]? = some fn := by kernel_rfl) (hb : fn.body = some body := by kernel_rfl) (hname : (fn.name == "runtime.NumGoroutine") = false := by kernel_rfl) (hres : fn.results = (rs.map RV.to).toArray := by kernel_rfl) (hnt : fn.ntmps = nt := by kernel_rfl) (hlen : Nat.ble s.as.length nt = true := by kernel_rfl) (hio : E.io = s.io.length := by kernel_rfl) (hns : Nat.ble (s.io ++ s.own).length ns = true := by kernel_rfl) : s.OK E.P := fs_ok hT hE hf hb hname hres hnt (Nat.le_of_ble_eq_true hlen) hio (Nat.le_of_ble_eq_true hns) hL hM
abbrev qU0 : Ty := (.sl (.int .i64))
abbrev qU1 : Ty := (.pair (.int .i64) (.pair (.sl (.pair (.int .i64) (.pair (.int .i64) (.pair (.int .i64) .unit)))) (.pair qU0 .unit)))
abbrev qU2 : Ty := (.pair (.int .i64) (.pair (.int .i64) (.pair (.sl (.pair (.int .i64) (.pair qU0 (.pair qU0 .unit)))) (.pair qU0 .unit))))
abbrev qU3 : Ty := (.pair (.int .i64) (.pair (.sl .bool) .unit))
abbrev qU4 : Ty := (.pair (.int .i64) .unit)
abbrev qU5 : Ty := (.arr 7 (.int .i8))
abbrev qU6 : Ty := (.pair .bool .unit)
abbrev qU7 : Ty := (.pair (.int .i64) (.pair qU0 (.pair qU0 .unit)))
abbrev qU8 : Ty := (.pair (.int .i64) (.pair (.int .i64) qU4))
abbrev qU9 : Ty := (.mp qU5 .bool)
abbrev qU10 : Ty := (.pair (.sl qU0) .unit)
abbrev qU11 : Ty := (.pair qU0 .unit)

noncomputable def tys : Tab := [(3,(.int .i64),8),(4,.bool,1),(5,(.int .u8),1),(9,.str,16),(21,(.int .i32),4),(22,(.sl qU7),24),(23,qU0,24),(24,qU0,24),(26,qU2,64),(29,(.int .i64),8),(30,(.sl qU0),24),(33,qU7,56),(35,(.sl qU0),24),(36,(.sl qU0),24),(37,(.sl qU8),24),(39,qU1,56),(49,qU8,24),(50,(.sl .bool),24),(95,qU3,32),(100,(.mp .str .bool),8),(136,(.ex .ptr (.int .i64) .unit),8),(183,(.int .i8),1),(185,qU5,7),(187,(.int .u64),8),(210,qU9,8),(212,qU5,7),(216,(.int .i64),8),(224,(.int .u32),4),(226,(.int .u64),8),(228,(.int .u64),8),(238,(.ex .ptr (.int .u64) .unit),8)]
theorem tysOK : tys.all (entB Tryz.prog tys) = true := by kernel_rfl
noncomputable def qiu (n : Nat) : FS := ⟨7,[(.val qU2)],[],[],qU6,.im,fun d => qac n d.1⟩
noncomputable def qiv (n : Nat) : Env := ⟨Tryz.prog,tys.tt,mkΓ [],0,mkGp []⟩
noncomputable def qiw (n : Nat) : Spec := ⟨[0,0,1,0,1,1],(.seq (.seq (.join [(.norm,⟨[(1,(.iadr qU2)),(3,(.val (.int .i64))),(4,(.val (.int .i64))),(20,(.val .bool))],[],[]⟩)] (.reg [])) (.cond .leaf .leaf)) (.seq (.blk (.reg [{},{},{ an := 2 },{},{ an := 14 },{ an := 30 },{ an := 62 },{ an := 126 },{ an := 254 },{},{ an := 512 },{},{ an := 3584 },{ an := 7680 },{ an := 15872 },{ an := 32256 },{ an := 65024 },{ an := 131070 },{ an := 262143 },{ an := 524287 }])) (.reg []))),⟨[(1,(.iadr qU2)),(3,(.val (.int .i64))),(4,(.val (.int .i64)))],[],[]⟩,[(.exit 0,⟨[(3,(.val (.int .i64)))],[],[]⟩)],qab n⟩
noncomputable def qix (n : Nat) : List Spec := [qiw n]
noncomputable def qiy : Code := Tryz.f7.body.getD .skip
theorem qiz (n : Nat) : ∀ d,((codeAt qiy (qiw n).path).bind fun c => evC (qiv n) (qix n) n (qiw n).h c (qiw n).path ((qiw n).inp.mk_ 1 44 d) (finL (qiw n))) = (qiw n).body d := fun d => by kernel_rfl
theorem qi0 (n : Nat) : ∀ d,evC (qiv n) (qix n) n (.seq (.reg [{ sl := [0],fl := 1 }]) (.seq (.reg []) (.seq (.seq (.reg []) (.blk (.loop 0))) (.seq (.reg []) .leaf)))) qiy [] (ent 1 44 (qiu n).as ((qiu n).io ++ (qiu n).own) d) (finR (qiv n) (qiu n).t (qiu n).m (qiu n).io [(2,none)]) = (qiu n).M d := fun d => by kernel_rfl
theorem qi1 (n : Nat) : (qiu n).OK Tryz.prog :=
  wz2 (E := qiv n) (L := qix n) (n := n) (ns := 1) (nt := 44) (rs := [(2,none)]) (ttOK tysOK _ _ _) (envOK wz0 wz0) (fn := Tryz.f7) (body := qiy) (all_cons (qiz n) wz0) (qi0 n)
noncomputable def qi2 (n : Nat) : FS := ⟨48,[],[],[],qU10,.im,fun d => qad n ⟩
noncomputable def qi3 (n : Nat) : Env := ⟨Tryz.prog,tys.tt,mkΓ [],0,mkGp []⟩
noncomputable def qi4 (n : Nat) : List Spec := []
noncomputable def qi5 : Code := Tryz.f48.body.getD .skip
theorem qi6 (n : Nat) : ∀ d,evC (qi3 n) (qi4 n) n (.seq (.reg []) (.seq (.reg [{ sl := [0] },{ sl := [1] },{ sl := [2] }]) .leaf)) qi5 [] (ent 3 4 (qi2 n).as ((qi2 n).io ++ (qi2 n).own) d) (finR (qi3 n) (qi2 n).t (qi2 n).m (qi2 n).io [(0,none)]) = (qi2 n).M d := fun d => by kernel_rfl
theorem qi7 (n : Nat) : (qi2 n).OK Tryz.prog :=
  wz2 (E := qi3 n) (L := qi4 n) (n := n) (ns := 3) (nt := 4) (rs := [(0,none)]) (ttOK tysOK _ _ _) (envOK wz0 wz0) (fn := Tryz.f48) (body := qi5) wz0 (qi6 n)
noncomputable def qi8 (n : Nat) : FS := ⟨126,[(.val (.int .i64)),(.iadr (.int .i64))],[],[],qU6,.im,fun d => qae n d.1 d.2.1⟩
noncomputable def qi9 (n : Nat) : Env := ⟨Tryz.prog,tys.tt,mkΓ [],0,mkGp []⟩
noncomputable def qja (n : Nat) : List Spec := []
noncomputable def qjb : Code := Tryz.f126.body.getD .skip
theorem qjc (n : Nat) : ∀ d,evC (qi9 n) (qja n) n (.seq (.reg []) (.seq (.reg []) .leaf)) qjb [] (ent 0 11 (qi8 n).as ((qi8 n).io ++ (qi8 n).own) d) (finR (qi9 n) (qi8 n).t (qi8 n).m (qi8 n).io [(3,none)]) = (qi8 n).M d := fun d => by kernel_rfl
theorem qjd (n : Nat) : (qi8 n).OK Tryz.prog :=
  wz2 (E := qi9 n) (L := qja n) (n := n) (ns := 0) (nt := 11) (rs := [(3,none)]) (ttOK tysOK _ _ _) (envOK wz0 wz0) (fn := Tryz.f126) (body := qjb) wz0 (qjc n)
noncomputable def qje (n : Nat) : FS := ⟨77,[(.val qU0),(.fn 126 (.tc (.iadr (.int .i64)) .tn))],[],[],qU4,.im,fun d => qah n d.1 d.2.1⟩
noncomputable def qjf (n : Nat) : Env := ⟨Tryz.prog,tys.tt,mkΓ [qi8 n],0,mkGp []⟩
noncomputable def qjg (n : Nat) : Spec := ⟨[0,0,1,0,1],(.seq (.reg []) (.seq (.cond .leaf .leaf) (.seq (.blk (.seq (.reg []) (.seq (.reg []) (.cond (.seq (.reg []) .leaf) .leaf)))) (.reg [])))),⟨[(0,(.val qU0)),(1,(.fn 126 (.tc (.iadr (.int .i64)) .tn))),(7,(.val (.int .i64))),(8,(.val (.int .i64)))],[],[]⟩,[(.ret,⟨[(4,(.val (.int .i64)))],[],[]⟩),(.exit 0,⟨[],[],[]⟩)],qag n⟩
noncomputable def qjh (n : Nat) : List Spec := [qjg n]
noncomputable def qji : Code := Tryz.f77.body.getD .skip
theorem qjj (n : Nat) : ∀ d,((codeAt qji (qjg n).path).bind fun c => evC (qjf n) (qjh n) n (qjg n).h c (qjg n).path ((qjg n).inp.mk_ 0 19 d) (finL (qjg n))) = (qjg n).body d := fun d => by kernel_rfl
theorem qjk (n : Nat) : ∀ d,evC (qjf n) (qjh n) n (.seq (.reg []) (.seq (.seq (.reg []) (.blk (.loop 0))) (.seq (.reg []) .leaf))) qji [] (ent 0 19 (qje n).as ((qje n).io ++ (qje n).own) d) (finR (qjf n) (qje n).t (qje n).m (qje n).io [(4,none)]) = (qje n).M d := fun d => by kernel_rfl
theorem qjl (n : Nat) : (qje n).OK Tryz.prog :=
  wz2 (E := qjf n) (L := qjh n) (n := n) (ns := 0) (nt := 19) (rs := [(4,none)]) (ttOK tysOK _ _ _) (envOK (all_cons (qjd n) wz0) wz0) (fn := Tryz.f77) (body := qji) (all_cons (qjj n) wz0) (qjk n)
noncomputable def qjm (n : Nat) : FS := ⟨125,[(.val qU0),(.fn 126 (.tc (.iadr (.int .i64)) .tn))],[],[],qU6,.im,fun d => qai n d.1 d.2.1⟩
noncomputable def qjn (n : Nat) : Env := ⟨Tryz.prog,tys.tt,mkΓ [qje n],0,mkGp []⟩
noncomputable def qjo (n : Nat) : List Spec := []
noncomputable def qjp : Code := Tryz.f125.body.getD .skip
theorem qjq (n : Nat) : ∀ d,evC (qjn n) (qjo n) n (.seq (.reg []) (.seq (.reg []) .leaf)) qjp [] (ent 0 9 (qjm n).as ((qjm n).io ++ (qjm n).own) d) (finR (qjn n) (qjm n).t (qjm n).m (qjm n).io [(4,none)]) = (qjm n).M d := fun d => by kernel_rfl
theorem qjr (n : Nat) : (qjm n).OK Tryz.prog :=
  wz2 (E := qjn n) (L := qjo n) (n := n) (ns := 0) (nt := 9) (rs := [(4,none)]) (ttOK tysOK _ _ _) (envOK (all_cons (qjl n) wz0) wz0) (fn := Tryz.f125) (body := qjp) wz0 (qjq n)
noncomputable def qjs (n : Nat) : FS := ⟨70,[(.val (.sl qU0))],[],[],qU6,.im,fun d => qar n d.1⟩
noncomputable def qjt (n : Nat) : Env := ⟨Tryz.prog,tys.tt,mkΓ [qjm n],0,mkGp []⟩
noncomputable def qju (n : Nat) : Spec := ⟨[0,0,1,0,1,1,1],(.seq (.reg []) (.seq (.cond .leaf .leaf) (.seq (.blk (.seq (.reg []) (.seq (.join [(.norm,⟨[(0,(.val (.sl qU0))),(17,(.val (.sl qU0))),(18,(.val (.int .i64))),(19,(.val (.int .i64))),(49,(.val .bool))],[(3,0,some ((.int .i64),false))],[(0,true,(.int .i64),.im)]⟩)] (.reg [])) (.cond (.seq (.reg []) .leaf) .leaf)))) (.reg [])))),⟨[(0,(.val (.sl qU0))),(17,(.val (.sl qU0))),(18,(.val (.int .i64))),(19,(.val (.int .i64)))],[(3,0,some ((.int .i64),false))],[(0,true,(.int .i64),.im)]⟩,[(.ret,⟨[(2,(.val .bool))],[],[]⟩),(.exit 0,⟨[(0,(.val (.sl qU0)))],[],[]⟩)],qaq n⟩
noncomputable def qjv (n : Nat) : Spec := ⟨[0,0,1,1,0,0,1,1,0,0,1,1,0,0,1,1,0,0,1,0,1,1,1,1],(.seq (.reg []) (.seq (.cond .leaf .leaf) (.seq (.blk (.seq (.reg []) (.seq (.reg [{},{},{},{ an := 6 },{ an := 14 },{},{ an := 62 },{ an := 126 },{ an := 255 },{ an := 511 },{},{ an := 2047 },{ an := 4095 },{},{},{ an := 24576 },{ an := 57344 },{},{},{ an := 393216 },{ an := 917504 },{},{ an := 4063232 },{ an := 8257536 },{ an := 16769024 },{ an := 33546240 },{ an := 67108863 }]) (.cond (.seq (.reg []) .leaf) .leaf)))) (.reg [])))),⟨[(0,(.val (.sl qU0))),(6,(.val (.int .i64))),(7,(.val (.int .i64))),(52,(.val (.int .i64))),(53,(.val (.int .i64))),(57,(.val (.int .i64))),(58,(.val (.int .i64))),(62,(.val (.int .i64))),(63,(.val (.int .i64)))],[],[]⟩,[(.ret,⟨[(2,(.val .bool))],[],[]⟩),(.exit 6,⟨[(0,(.val (.sl qU0))),(6,(.val (.int .i64))),(52,(.val (.int .i64))),(53,(.val (.int .i64))),(57,(.val (.int .i64))),(58,(.val (.int .i64)))],[],[]⟩)],qak n⟩
noncomputable def qjw (n : Nat) : Spec := ⟨[0,0,1,1,0,0,1,1,0,0,1,0,1,1,1,1],(.seq (.reg []) (.seq (.cond .leaf .leaf) (.seq (.blk (.seq (.reg []) (.seq (.reg []) (.blk (.loop 1))))) (.reg [])))),⟨[(0,(.val (.sl qU0))),(6,(.val (.int .i64))),(52,(.val (.int .i64))),(53,(.val (.int .i64))),(57,(.val (.int .i64))),(58,(.val (.int .i64)))],[],[]⟩,[(.ret,⟨[(2,(.val .bool))],[],[]⟩),(.exit 4,⟨[(0,(.val (.sl qU0))),(52,(.val (.int .i64))),(53,(.val (.int .i64)))],[],[]⟩)],qam n⟩
noncomputable def qjx (n : Nat) : Spec := ⟨[0,0,1,0,1,1,1,1],(.seq (.reg []) (.seq (.cond .leaf .leaf) (.seq (.blk (.seq (.reg []) (.seq (.reg []) (.blk (.loop 2))))) (.reg [])))),⟨[(0,(.val (.sl qU0))),(52,(.val (.int .i64))),(53,(.val (.int .i64)))],[],[]⟩,[(.ret,⟨[(2,(.val .bool))],[],[]⟩),(.exit 2,⟨[],[],[]⟩)],qao n⟩
noncomputable def qjy (n : Nat) : List Spec := [qju n,qjv n,qjw n,qjx n]
noncomputable def qjz : Code := Tryz.f70.body.getD .skip
theorem qj0 (n : Nat) : ∀ d,((codeAt qjz (qju n).path).bind fun c => evC (qjt n) (qjy n) n (qju n).h c (qju n).path ((qju n).inp.mk_ 1 96 d) (finL (qju n))) = (qju n).body d := fun d => by kernel_rfl
theorem qj1 (n : Nat) : ∀ d,((codeAt qjz (qjv n).path).bind fun c => evC (qjt n) (qjy n) n (qjv n).h c (qjv n).path ((qjv n).inp.mk_ 1 96 d) (finL (qjv n))) = (qjv n).body d := fun d => by kernel_rfl
theorem qj2 (n : Nat) : ∀ d,((codeAt qjz (qjw n).path).bind fun c => evC (qjt n) (qjy n) n (qjw n).h c (qjw n).path ((qjw n).inp.mk_ 1 96 d) (finL (qjw n))) = (qjw n).body d := fun d => by kernel_rfl
theorem qj3 (n : Nat) : ∀ d,((codeAt qjz (qjx n).path).bind fun c => evC (qjt n) (qjy n) n (qjx n).h c (qjx n).path ((qjx n).inp.mk_ 1 96 d) (finL (qjx n))) = (qjx n).body d := fun d => by kernel_rfl
theorem qj4 (n : Nat) : ∀ d,evC (qjt n) (qjy n) n (.seq (.reg []) (.seq (.reg [{},{},{ sl := [0],fl := 1 }]) (.seq (.seq (.join [(.norm,⟨[(0,(.val (.sl qU0))),(16,(.val .bool))],[(3,0,some ((.int .i64),false))],[(0,true,(.int .i64),.im)]⟩)] (.reg [])) (.cond (.seq (.reg []) .leaf) .leaf)) (.seq (.seq (.reg []) (.blk (.loop 0))) (.seq (.seq (.reg []) (.blk (.loop 3))) (.seq (.reg []) .leaf)))))) qjz [] (ent 1 96 (qjs n).as ((qjs n).io ++ (qjs n).own) d) (finR (qjt n) (qjs n).t (qjs n).m (qjs n).io [(2,none)]) = (qjs n).M d := fun d => by kernel_rfl
theorem qj5 (n : Nat) : (qjs n).OK Tryz.prog :=
  wz2 (E := qjt n) (L := qjy n) (n := n) (ns := 1) (nt := 96) (rs := [(2,none)]) (ttOK tysOK _ _ _) (envOK (all_cons (qjr n) wz0) wz0) (fn := Tryz.f70) (body := qjz) (all_cons (qj0 n) (all_cons (qj1 n) (all_cons (qj2 n) (all_cons (qj3 n) wz0)))) (qj4 n)
noncomputable def qj6 (n : Nat) : FS := ⟨130,[(.val (.int .i64)),(.iadr (.sl qU0)),(.iadr (.int .i64)),(.iadr (.int .i64))],[],[],qU6,.im,fun d => qas n d.1 d.2.1 d.2.2.1 d.2.2.2.1⟩
noncomputable def qj7 (n : Nat) : Env := ⟨Tryz.prog,tys.tt,mkΓ [],0,mkGp []⟩
noncomputable def qj8 (n : Nat) : List Spec := []
noncomputable def qj9 : Code := Tryz.f130.body.getD .skip
theorem qka (n : Nat) : ∀ d,evC (qj7 n) (qj8 n) n (.seq (.reg []) (.seq (.reg [{},{},{ an := 3 },{ an := 7 },{},{ an := 31 },{ an := 63 },{},{ an := 255 },{ an := 511 },{ an := 1023 },{ an := 1023 },{ an := 4095 },{ an := 8191 },{ an := 1023 },{ an := 32767 },{ an := 65535 },{ an := 1023 },{ an := 262143 },{ an := 524287 },{ an := 1048575 }]) .leaf)) qj9 [] (ent 0 26 (qj6 n).as ((qj6 n).io ++ (qj6 n).own) d) (finR (qj7 n) (qj6 n).t (qj6 n).m (qj6 n).io [(5,none)]) = (qj6 n).M d := fun d => by kernel_rfl
theorem qkb (n : Nat) : (qj6 n).OK Tryz.prog :=
  wz2 (E := qj7 n) (L := qj8 n) (n := n) (ns := 0) (nt := 26) (rs := [(5,none)]) (ttOK tysOK _ _ _) (envOK wz0 wz0) (fn := Tryz.f130) (body := qj9) wz0 (qka n)
noncomputable def qkc (n : Nat) : FS := ⟨77,[(.val qU0),(.fn 130 (.tc (.iadr (.sl qU0)) (.tc (.iadr (.int .i64)) (.tc (.iadr (.int .i64)) .tn))))],[],[],qU4,.im,fun d => qav n d.1 d.2.1⟩
noncomputable def qkd (n : Nat) : Env := ⟨Tryz.prog,tys.tt,mkΓ [qj6 n],0,mkGp []⟩
noncomputable def qke (n : Nat) : Spec := ⟨[0,0,1,0,1],(.seq (.reg []) (.seq (.cond .leaf .leaf) (.seq (.blk (.seq (.reg []) (.seq (.reg []) (.cond (.seq (.reg []) .leaf) .leaf)))) (.reg [])))),⟨[(0,(.val qU0)),(1,(.fn 130 (.tc (.iadr (.sl qU0)) (.tc (.iadr (.int .i64)) (.tc (.iadr (.int .i64)) .tn))))),(7,(.val (.int .i64))),(8,(.val (.int .i64)))],[],[]⟩,[(.ret,⟨[(4,(.val (.int .i64)))],[],[]⟩),(.exit 0,⟨[],[],[]⟩)],qau n⟩
noncomputable def qkf (n : Nat) : List Spec := [qke n]
noncomputable def qkg : Code := Tryz.f77.body.getD .skip
theorem qkh (n : Nat) : ∀ d,((codeAt qkg (qke n).path).bind fun c => evC (qkd n) (qkf n) n (qke n).h c (qke n).path ((qke n).inp.mk_ 0 19 d) (finL (qke n))) = (qke n).body d := fun d => by kernel_rfl
theorem qki (n : Nat) : ∀ d,evC (qkd n) (qkf n) n (.seq (.reg []) (.seq (.seq (.reg []) (.blk (.loop 0))) (.seq (.reg []) .leaf))) qkg [] (ent 0 19 (qkc n).as ((qkc n).io ++ (qkc n).own) d) (finR (qkd n) (qkc n).t (qkc n).m (qkc n).io [(4,none)]) = (qkc n).M d := fun d => by kernel_rfl
theorem qkj (n : Nat) : (qkc n).OK Tryz.prog :=
  wz2 (E := qkd n) (L := qkf n) (n := n) (ns := 0) (nt := 19) (rs := [(4,none)]) (ttOK tysOK _ _ _) (envOK (all_cons (qkb n) wz0) wz0) (fn := Tryz.f77) (body := qkg) (all_cons (qkh n) wz0) (qki n)
noncomputable def qkk (n : Nat) : FS := ⟨125,[(.val qU0),(.fn 130 (.tc (.iadr (.sl qU0)) (.tc (.iadr (.int .i64)) (.tc (.iadr (.int .i64)) .tn))))],[],[],qU6,.im,fun d => qaw n d.1 d.2.1⟩
noncomputable def qkl (n : Nat) : Env := ⟨Tryz.prog,tys.tt,mkΓ [qkc n],0,mkGp []⟩
noncomputable def qkm (n : Nat) : List Spec := []
noncomputable def qkn : Code := Tryz.f125.body.getD .skip
theorem qko (n : Nat) : ∀ d,evC (qkl n) (qkm n) n (.seq (.reg []) (.seq (.reg []) .leaf)) qkn [] (ent 0 9 (qkk n).as ((qkk n).io ++ (qkk n).own) d) (finR (qkl n) (qkk n).t (qkk n).m (qkk n).io [(4,none)]) = (qkk n).M d := fun d => by kernel_rfl
theorem qkp (n : Nat) : (qkk n).OK Tryz.prog :=
  wz2 (E := qkl n) (L := qkm n) (n := n) (ns := 0) (nt := 9) (rs := [(4,none)]) (ttOK tysOK _ _ _) (envOK (all_cons (qkj n) wz0) wz0) (fn := Tryz.f125) (body := qkn) wz0 (qko n)
noncomputable def qkq (n : Nat) : FS := ⟨73,[(.val (.sl qU0))],[],[],qU10,.im,fun d => qa3 n d.1⟩
noncomputable def qkr (n : Nat) : Env := ⟨Tryz.prog,tys.tt,mkΓ [qkk n],0,mkGp []⟩
noncomputable def qks (n : Nat) : Spec := ⟨[0,0,1,0,1,1,1,0,0,1,1,0,0,1,0,1,1],(.seq (.reg []) (.seq (.cond .leaf .leaf) (.seq (.join [(.norm,⟨[(1,(.iadr (.sl qU0))),(11,(.val (.int .i64))),(12,(.val (.int .i64))),(25,(.val (.int .i64))),(26,(.val (.int .i64)))],[(3,1,none),(4,2,some ((.int .i64),false)),(5,3,none)],[(1,false,(.sl qU0),(.ow .im)),(2,true,(.int .i64),.im),(3,false,qU0,(.ow .im))]⟩)] (.blk (.seq (.reg []) (.seq (.join [(.norm,⟨[(1,(.iadr (.sl qU0))),(6,(.val (.int .i64))),(11,(.val (.int .i64))),(12,(.val (.int .i64))),(25,(.val (.int .i64))),(26,(.val (.int .i64))),(48,(.val .bool))],[(3,1,none),(4,2,some ((.int .i64),false)),(5,3,none)],[(1,false,(.sl qU0),(.ow .im)),(2,true,(.int .i64),.im),(3,false,qU0,(.ow .im))]⟩)] (.reg [{},{},{ an := 3 },{ an := 7 },{ rd := [2] },{ an := 31 },{ an := 63 },{},{ an := 255 },{ an := 511 },{ an := 1023 },{ rd := [2],an := 1023 },{ an := 4095 },{ an := 8191 },{ an := 1023 },{ an := 32767 },{ an := 65535 },{ an := 1023 },{ an := 262143 },{ an := 524287 }])) (.cond (.reg [{},{},{ sl := [4] }]) .leaf))))) (.reg [])))),⟨[(1,(.iadr (.sl qU0))),(11,(.val (.int .i64))),(12,(.val (.int .i64))),(25,(.val (.int .i64))),(26,(.val (.int .i64)))],[(3,1,none),(4,2,some ((.int .i64),false)),(5,3,none)],[(1,false,(.sl qU0),(.ow .im)),(2,true,(.int .i64),.im),(3,false,qU0,(.ow .im))]⟩,[(.exit 2,⟨[(1,(.iadr (.sl qU0))),(11,(.val (.int .i64))),(12,(.val (.int .i64)))],[(3,1,none),(4,2,some ((.int .i64),false)),(5,3,none)],[(1,false,(.sl qU0),(.ow .im)),(2,true,(.int .i64),.im),(3,false,qU0,(.ow .im))]⟩)],qa0 n⟩
noncomputable def qkt (n : Nat) : Spec := ⟨[0,0,1,0,1,1,1,1,1,0,0,1,1,0,0,1,0,1,1],(.seq (.reg []) (.seq (.cond .leaf .leaf) (.seq (.join [(.norm,⟨[(1,(.iadr (.sl qU0))),(11,(.val (.int .i64))),(12,(.val (.int .i64))),(55,(.val (.int .i64))),(56,(.val (.int .i64)))],[(3,1,none),(4,2,some ((.int .i64),false)),(5,3,none),(7,5,none),(54,3,none)],[(1,false,(.sl qU0),(.ow .im)),(2,true,(.int .i64),.im),(3,false,qU0,(.ow .im)),(5,false,qU0,(.ow .im))]⟩)] (.blk (.seq (.reg [{},{},{ sl := [6],fl := 1 }]) (.seq (.reg []) (.cond (.reg [{},{},{ sl := [7] }]) .leaf))))) (.reg [])))),⟨[(1,(.iadr (.sl qU0))),(11,(.val (.int .i64))),(12,(.val (.int .i64))),(55,(.val (.int .i64))),(56,(.val (.int .i64)))],[(3,1,none),(4,2,some ((.int .i64),false)),(5,3,none),(7,5,none),(54,3,none)],[(1,false,(.sl qU0),(.ow .im)),(2,true,(.int .i64),.im),(3,false,qU0,(.ow .im)),(5,false,qU0,(.ow .im))]⟩,[(.exit 4,⟨[(1,(.iadr (.sl qU0))),(11,(.val (.int .i64))),(12,(.val (.int .i64)))],[(3,1,none),(7,5,none)],[(1,false,(.sl qU0),(.ow .im)),(5,false,qU0,(.ow .im))]⟩)],qay n⟩
noncomputable def qku (n : Nat) : Spec := ⟨[0,0,1,0,1,1],(.seq (.reg []) (.seq (.cond .leaf .leaf) (.seq (.join [(.norm,⟨[(1,(.iadr (.sl qU0))),(11,(.val (.int .i64))),(12,(.val (.int .i64)))],[(3,1,none)],[(1,false,(.sl qU0),(.ow .im))]⟩)] (.blk (.seq (.reg [{},{ sl := [2],fl := 1 }]) (.seq (.seq (.reg [{},{ rd := [2] },{ an := 3 },{ an := 7 },{ rd := [2] },{ an := 31 },{ an := 63 },{ rd := [2] },{ an := 255 }]) (.cond .leaf .leaf)) (.seq (.reg [{ sl := [3] }]) (.seq (.seq (.reg []) (.blk (.loop 0))) (.seq (.reg [{ sl := [5] }]) (.seq (.seq (.reg []) (.blk (.loop 1))) (.reg [{},{},{ sl := [8] }]))))))))) (.reg [])))),⟨[(1,(.iadr (.sl qU0))),(11,(.val (.int .i64))),(12,(.val (.int .i64)))],[(3,1,none)],[(1,false,(.sl qU0),(.ow .im))]⟩,[(.exit 0,⟨[],[(3,1,none)],[(1,false,(.sl qU0),(.ow .im))]⟩)],qa2 n⟩
noncomputable def qkv (n : Nat) : List Spec := [qks n,qkt n,qku n]
noncomputable def qkw : Code := Tryz.f73.body.getD .skip
theorem qkx (n : Nat) : ∀ d,((codeAt qkw (qks n).path).bind fun c => evC (qkr n) (qkv n) n (qks n).h c (qks n).path ((qks n).inp.mk_ 9 74 d) (finL (qks n))) = (qks n).body d := fun d => by kernel_rfl
theorem qky (n : Nat) : ∀ d,((codeAt qkw (qkt n).path).bind fun c => evC (qkr n) (qkv n) n (qkt n).h c (qkt n).path ((qkt n).inp.mk_ 9 74 d) (finL (qkt n))) = (qkt n).body d := fun d => by kernel_rfl
theorem qkz (n : Nat) : ∀ d,((codeAt qkw (qku n).path).bind fun c => evC (qkr n) (qkv n) n (qku n).h c (qku n).path ((qku n).inp.mk_ 9 74 d) (finL (qku n))) = (qku n).body d := fun d => by kernel_rfl
theorem qk0 (n : Nat) : ∀ d,evC (qkr n) (qkv n) n (.seq (.reg [{ sl := [0],fl := 1 }]) (.seq (.reg [{ sl := [1] }]) (.seq (.seq (.reg []) (.blk (.loop 2))) (.seq (.reg []) .leaf)))) qkw [] (ent 9 74 (qkq n).as ((qkq n).io ++ (qkq n).own) d) (finR (qkr n) (qkq n).t (qkq n).m (qkq n).io [(2,none)]) = (qkq n).M d := fun d => by kernel_rfl
theorem qk1 (n : Nat) : (qkq n).OK Tryz.prog :=
  wz2 (E := qkr n) (L := qkv n) (n := n) (ns := 9) (nt := 74) (rs := [(2,none)]) (ttOK tysOK _ _ _) (envOK (all_cons (qkp n) wz0) wz0) (fn := Tryz.f73) (body := qkw) (all_cons (qkx n) (all_cons (qky n) (all_cons (qkz n) wz0))) (qk0 n)
noncomputable def qk2 (n : Nat) : FS := ⟨41,[(.val (.sl qU0))],[],[],(.pair (.sl qU0) qU4),.im,fun d => qa4 n d.1⟩
noncomputable def qk3 (n : Nat) : Env := ⟨Tryz.prog,tys.tt,mkΓ [qjs n,qkq n],0,mkGp []⟩
noncomputable def qk4 (n : Nat) : List Spec := []
noncomputable def qk5 : Code := Tryz.f41.body.getD .skip
theorem qk6 (n : Nat) : ∀ d,evC (qk3 n) (qk4 n) n (.seq (.reg []) (.seq (.seq (.reg []) (.cond (.seq (.reg []) .leaf) .leaf)) (.seq (.reg []) .leaf))) qk5 [] (ent 0 9 (qk2 n).as ((qk2 n).io ++ (qk2 n).own) d) (finR (qk3 n) (qk2 n).t (qk2 n).m (qk2 n).io [(2,none),(3,none)]) = (qk2 n).M d := fun d => by kernel_rfl
theorem qk7 (n : Nat) : (qk2 n).OK Tryz.prog :=
  wz2 (E := qk3 n) (L := qk4 n) (n := n) (ns := 0) (nt := 9) (rs := [(2,none),(3,none)]) (ttOK tysOK _ _ _) (envOK (all_cons (qj5 n) (all_cons (qk1 n) wz0)) wz0) (fn := Tryz.f41) (body := qk5) wz0 (qk6 n)
noncomputable def qk8 (n : Nat) : FS := ⟨105,[(.val qU0)],[],[],qU6,.im,fun d => qa5 n d.1⟩
noncomputable def qk9 (n : Nat) : Env := ⟨Tryz.prog,tys.tt,mkΓ [],0,mkGp []⟩
noncomputable def qla (n : Nat) : List Spec := []
noncomputable def qlb : Code := Tryz.f105.body.getD .skip
theorem qlc (n : Nat) : ∀ d,evC (qk9 n) (qla n) n (.seq (.reg []) (.seq (.reg []) .leaf)) qlb [] (ent 0 6 (qk8 n).as ((qk8 n).io ++ (qk8 n).own) d) (finR (qk9 n) (qk8 n).t (qk8 n).m (qk8 n).io [(2,none)]) = (qk8 n).M d := fun d => by kernel_rfl
theorem qld (n : Nat) : (qk8 n).OK Tryz.prog :=
  wz2 (E := qk9 n) (L := qla n) (n := n) (ns := 0) (nt := 6) (rs := [(2,none)]) (ttOK tysOK _ _ _) (envOK wz0 wz0) (fn := Tryz.f105) (body := qlb) wz0 (qlc n)
noncomputable def qle (n : Nat) : FS := ⟨146,[(.val (.sl qU0)),(.fn 105 .tn)],[],[],qU4,.im,fun d => qa8 n d.1⟩
noncomputable def qlf (n : Nat) : Env := ⟨Tryz.prog,tys.tt,mkΓ [qk8 n],0,mkGp []⟩
noncomputable def qlg (n : Nat) : Spec := ⟨[0,0,1,0,1],(.seq (.reg []) (.seq (.cond .leaf .leaf) (.seq (.blk (.seq (.reg []) (.seq (.reg []) (.cond (.seq (.reg []) .leaf) .leaf)))) (.reg [])))),⟨[(0,(.val (.sl qU0))),(1,(.fn 105 .tn)),(7,(.val (.int .i64))),(8,(.val (.int .i64)))],[],[]⟩,[(.ret,⟨[(4,(.val (.int .i64)))],[],[]⟩),(.exit 0,⟨[],[],[]⟩)],qa7 n⟩
noncomputable def qlh (n : Nat) : List Spec := [qlg n]
noncomputable def qli : Code := Tryz.f146.body.getD .skip
theorem qlj (n : Nat) : ∀ d,((codeAt qli (qlg n).path).bind fun c => evC (qlf n) (qlh n) n (qlg n).h c (qlg n).path ((qlg n).inp.mk_ 0 19 d) (finL (qlg n))) = (qlg n).body d := fun d => by kernel_rfl
theorem qlk (n : Nat) : ∀ d,evC (qlf n) (qlh n) n (.seq (.reg []) (.seq (.seq (.reg []) (.blk (.loop 0))) (.seq (.reg []) .leaf))) qli [] (ent 0 19 (qle n).as ((qle n).io ++ (qle n).own) d) (finR (qlf n) (qle n).t (qle n).m (qle n).io [(4,none)]) = (qle n).M d := fun d => by kernel_rfl
theorem qll (n : Nat) : (qle n).OK Tryz.prog :=
  wz2 (E := qlf n) (L := qlh n) (n := n) (ns := 0) (nt := 19) (rs := [(4,none)]) (ttOK tysOK _ _ _) (envOK (all_cons (qld n) wz0) wz0) (fn := Tryz.f146) (body := qli) (all_cons (qlj n) wz0) (qlk n)
noncomputable def qlm (n : Nat) : FS := ⟨104,[(.val (.sl qU0)),(.fn 105 .tn)],[],[],qU6,.im,fun d => qa9 n d.1⟩
noncomputable def qln (n : Nat) : Env := ⟨Tryz.prog,tys.tt,mkΓ [qle n],0,mkGp []⟩
noncomputable def qlo (n : Nat) : List Spec := []
noncomputable def qlp : Code := Tryz.f104.body.getD .skip
theorem qlq (n : Nat) : ∀ d,evC (qln n) (qlo n) n (.seq (.reg []) (.seq (.reg []) .leaf)) qlp [] (ent 0 9 (qlm n).as ((qlm n).io ++ (qlm n).own) d) (finR (qln n) (qlm n).t (qlm n).m (qlm n).io [(4,none)]) = (qlm n).M d := fun d => by kernel_rfl
theorem qlr (n : Nat) : (qlm n).OK Tryz.prog :=
  wz2 (E := qln n) (L := qlo n) (n := n) (ns := 0) (nt := 9) (rs := [(4,none)]) (ttOK tysOK _ _ _) (envOK (all_cons (qll n) wz0) wz0) (fn := Tryz.f104) (body := qlp) wz0 (qlq n)
noncomputable def qls (n : Nat) : FS := ⟨49,[(.val (.sl qU0))],[],[],(.pair .bool qU4),.im,fun d => qba n d.1⟩
noncomputable def qlt (n : Nat) : Env := ⟨Tryz.prog,tys.tt,mkΓ [qjs n,qkq n,qlm n],0,mkGp []⟩
noncomputable def qlu (n : Nat) : List Spec := []
noncomputable def qlv : Code := Tryz.f49.body.getD .skip
theorem qlw (n : Nat) : ∀ d,evC (qlt n) (qlu n) n (.seq (.reg []) (.seq (.seq (.reg []) (.cond (.seq (.reg []) .leaf) .leaf)) (.seq (.reg []) .leaf))) qlv [] (ent 0 11 (qls n).as ((qls n).io ++ (qls n).own) d) (finR (qlt n) (qls n).t (qls n).m (qls n).io [(2,none),(3,none)]) = (qls n).M d := fun d => by kernel_rfl
theorem qlx (n : Nat) : (qls n).OK Tryz.prog :=
  wz2 (E := qlt n) (L := qlu n) (n := n) (ns := 0) (nt := 11) (rs := [(2,none),(3,none)]) (ttOK tysOK _ _ _) (envOK (all_cons (qj5 n) (all_cons (qk1 n) (all_cons (qlr n) wz0))) wz0) (fn := Tryz.f49) (body := qlv) wz0 (qlw n)
noncomputable def qly (n : Nat) : FS := ⟨50,[(.val (.int .i64))],[],[],(.pair (.sl qU0) qU4),.im,fun d => qbf n d.1⟩
noncomputable def qlz (n : Nat) : Env := ⟨Tryz.prog,tys.tt,mkΓ [],0,mkGp []⟩
noncomputable def ql0 (n : Nat) : Spec := ⟨[0,0,1,1,0,0,1,1,0,0,1,0,1,1,1],(.seq (.reg []) (.seq (.cond .leaf .leaf) (.seq (.blk (.seq (.reg []) (.reg [{},{},{},{},{ rd := [0],an := 12 },{ rd := [0],an := 28 },{},{},{ an := 192 },{},{ an := 960 },{ sl := [1],rd := [1],wr := [1],an := 1984 },{ rd := [0,1],wr := [0],an := 4092 },{ rd := [0],an := 8191 },{ rd := [0],wr := [0],an := 16383 }]))) (.reg [])))),⟨[(0,(.val (.int .i64))),(5,(.val (.int .i64))),(16,(.val (.int .i64))),(17,(.val (.int .i64))),(20,(.val (.int .i64))),(21,(.val (.int .i64)))],[(4,0,none)],[(0,false,(.sl qU0),(.ow (.ow .im)))]⟩,[(.exit 2,⟨[(0,(.val (.int .i64))),(16,(.val (.int .i64))),(17,(.val (.int .i64)))],[(4,0,none)],[(0,false,(.sl qU0),(.ow (.ow .im)))]⟩)],qbc n⟩
noncomputable def ql1 (n : Nat) : Spec := ⟨[0,0,1,0,1,1,1],(.seq (.reg []) (.seq (.cond .leaf .leaf) (.seq (.blk (.seq (.reg []) (.seq (.reg []) (.blk (.loop 0))))) (.reg [])))),⟨[(0,(.val (.int .i64))),(16,(.val (.int .i64))),(17,(.val (.int .i64)))],[(4,0,none)],[(0,false,(.sl qU0),(.ow (.ow .im)))]⟩,[(.exit 0,⟨[],[(4,0,none)],[(0,false,(.sl qU0),(.ow (.ow .im)))]⟩)],qbe n⟩
noncomputable def ql2 (n : Nat) : List Spec := [ql0 n,ql1 n]
noncomputable def ql3 : Code := Tryz.f50.body.getD .skip
theorem ql4 (n : Nat) : ∀ d,((codeAt ql3 (ql0 n).path).bind fun c => evC (qlz n) (ql2 n) n (ql0 n).h c (ql0 n).path ((ql0 n).inp.mk_ 2 41 d) (finL (ql0 n))) = (ql0 n).body d := fun d => by kernel_rfl
theorem ql5 (n : Nat) : ∀ d,((codeAt ql3 (ql1 n).path).bind fun c => evC (qlz n) (ql2 n) n (ql1 n).h c (ql1 n).path ((ql1 n).inp.mk_ 2 41 d) (finL (ql1 n))) = (ql1 n).body d := fun d => by kernel_rfl
theorem ql6 (n : Nat) : ∀ d,evC (qlz n) (ql2 n) n (.seq (.reg []) (.seq (.seq (.join [(.norm,⟨[(0,(.val (.int .i64))),(12,(.val .bool))],[],[]⟩)] (.reg [])) (.cond (.seq (.reg []) .leaf) .leaf)) (.seq (.reg [{},{ m := (.ow .im),sl := [0] }]) (.seq (.seq (.reg []) (.blk (.loop 1))) (.seq (.reg []) .leaf))))) ql3 [] (ent 2 41 (qly n).as ((qly n).io ++ (qly n).own) d) (finR (qlz n) (qly n).t (qly n).m (qly n).io [(2,none),(3,none)]) = (qly n).M d := fun d => by kernel_rfl
theorem ql7 (n : Nat) : (qly n).OK Tryz.prog :=
  wz2 (E := qlz n) (L := ql2 n) (n := n) (ns := 2) (nt := 41) (rs := [(2,none),(3,none)]) (ttOK tysOK _ _ _) (envOK wz0 wz0) (fn := Tryz.f50) (body := ql3) (all_cons (ql4 n) (all_cons (ql5 n) wz0)) (ql6 n)
noncomputable def ql8 (n : Nat) : FS := ⟨51,[(.val (.int .i64)),(.val (.int .i64))],[],[],(.pair qU1 qU4),.im,fun d => qbi n d.1 d.2.1⟩
noncomputable def ql9 (n : Nat) : Env := ⟨Tryz.prog,tys.tt,mkΓ [],0,mkGp []⟩
noncomputable def qma (n : Nat) : Spec := ⟨[0,0,1,0,1,1,1],(.seq (.reg []) (.seq (.cond .leaf .leaf) (.seq (.blk (.seq (.reg []) (.reg [{ rd := [2] },{ rd := [2],an := 1 },{},{},{ an := 8 },{ an := 28 },{ sl := [3],rd := [3],wr := [3],an := 60 },{ rd := [2,3],wr := [2],an := 127 },{ rd := [2],an := 255 },{ rd := [2],wr := [2],an := 511 }]))) (.reg [])))),⟨[(1,(.val (.int .i64))),(26,(.val (.int .i64))),(27,(.val (.int .i64)))],[(4,0,some (qU1,false)),(6,2,some (qU1,false))],[(0,true,qU1,.im),(2,true,qU1,(.pr .im (.pr (.ow .im) .im)))]⟩,[(.exit 0,⟨[],[(4,0,some (qU1,false)),(6,2,some (qU1,false))],[(0,true,qU1,.im),(2,true,qU1,(.pr .im (.pr (.ow .im) .im)))]⟩)],qbh n⟩
noncomputable def qmb (n : Nat) : List Spec := [qma n]
noncomputable def qmc : Code := Tryz.f51.body.getD .skip
theorem qmd (n : Nat) : ∀ d,((codeAt qmc (qma n).path).bind fun c => evC (ql9 n) (qmb n) n (qma n).h c (qma n).path ((qma n).inp.mk_ 4 41 d) (finL (qma n))) = (qma n).body d := fun d => by kernel_rfl
theorem qme (n : Nat) : ∀ d,evC (ql9 n) (qmb n) n (.seq (.reg [{ sl := [0],fl := 1 }]) (.seq (.seq (.join [(.norm,⟨[(0,(.val (.int .i64))),(1,(.val (.int .i64))),(21,(.val .bool))],[(4,0,some (qU1,false))],[(0,true,qU1,.im)]⟩)] (.reg [])) (.cond (.seq (.reg []) .leaf) .leaf)) (.seq (.reg [{},{ sl := [1] },{},{ m := (.pr .im (.pr (.ow .im) .im)),sl := [2],fl := 1 }]) (.seq (.seq (.reg []) (.blk (.loop 0))) (.seq (.reg []) .leaf))))) qmc [] (ent 4 41 (ql8 n).as ((ql8 n).io ++ (ql8 n).own) d) (finR (ql9 n) (ql8 n).t (ql8 n).m (ql8 n).io [(4,some 39),(5,none)]) = (ql8 n).M d := fun d => by kernel_rfl
theorem qmf (n : Nat) : (ql8 n).OK Tryz.prog :=
  wz2 (E := ql9 n) (L := qmb n) (n := n) (ns := 4) (nt := 41) (rs := [(4,some 39),(5,none)]) (ttOK tysOK _ _ _) (envOK wz0 wz0) (fn := Tryz.f51) (body := qmc) (all_cons (qmd n) wz0) (qme n)
noncomputable def qmg (n : Nat) : FS := ⟨165,[(.val (.int .i64)),(.iadr (.sl qU0))],[],[],qU6,.im,fun d => qbj n d.1 d.2.1⟩
noncomputable def qmh (n : Nat) : Env := ⟨Tryz.prog,tys.tt,mkΓ [],0,mkGp []⟩
noncomputable def qmi (n : Nat) : List Spec := []
noncomputable def qmj : Code := Tryz.f165.body.getD .skip
theorem qmk (n : Nat) : ∀ d,evC (qmh n) (qmi n) n (.seq (.reg []) (.seq (.reg []) .leaf)) qmj [] (ent 0 12 (qmg n).as ((qmg n).io ++ (qmg n).own) d) (finR (qmh n) (qmg n).t (qmg n).m (qmg n).io [(3,none)]) = (qmg n).M d := fun d => by kernel_rfl
theorem qml (n : Nat) : (qmg n).OK Tryz.prog :=
  wz2 (E := qmh n) (L := qmi n) (n := n) (ns := 0) (nt := 12) (rs := [(3,none)]) (ttOK tysOK _ _ _) (envOK wz0 wz0) (fn := Tryz.f165) (body := qmj) wz0 (qmk n)
noncomputable def qmm (n : Nat) : FS := ⟨167,[(.val qU8),(.iadr qU1),(.icl (.fn 165 (.tc (.iadr (.sl qU0)) .tn)))],[],[],qU6,.im,fun d => qbk n d.1 d.2.1 d.2.2.1⟩
noncomputable def qmn (n : Nat) : Env := ⟨Tryz.prog,tys.tt,mkΓ [qmg n],0,mkGp []⟩
noncomputable def qmo (n : Nat) : List Spec := []
noncomputable def qmp : Code := Tryz.f167.body.getD .skip
theorem qmq (n : Nat) : ∀ d,evC (qmn n) (qmo n) n (.seq (.reg [{ sl := [0],fl := 1 }]) (.seq (.reg []) .leaf)) qmp [] (ent 1 29 (qmm n).as ((qmm n).io ++ (qmm n).own) d) (finR (qmn n) (qmm n).t (qmm n).m (qmm n).io [(4,none)]) = (qmm n).M d := fun d => by kernel_rfl
theorem qmr (n : Nat) : (qmm n).OK Tryz.prog :=
  wz2 (E := qmn n) (L := qmo n) (n := n) (ns := 1) (nt := 29) (rs := [(4,none)]) (ttOK tysOK _ _ _) (envOK (all_cons (qml n) wz0) wz0) (fn := Tryz.f167) (body := qmp) wz0 (qmq n)
noncomputable def qms (n : Nat) : FS := ⟨182,[(.val (.sl qU8)),(.fn 167 (.tc (.iadr qU1) (.tc (.icl (.fn 165 (.tc (.iadr (.sl qU0)) .tn))) .tn)))],[],[],qU4,.im,fun d => qbn n d.1 d.2.1⟩
noncomputable def qmt (n : Nat) : Env := ⟨Tryz.prog,tys.tt,mkΓ [qmm n],0,mkGp []⟩
noncomputable def qmu (n : Nat) : Spec := ⟨[0,0,1,0,1],(.seq (.reg []) (.seq (.cond .leaf .leaf) (.seq (.blk (.seq (.reg []) (.seq (.reg []) (.cond (.seq (.reg []) .leaf) .leaf)))) (.reg [])))),⟨[(0,(.val (.sl qU8))),(1,(.fn 167 (.tc (.iadr qU1) (.tc (.icl (.fn 165 (.tc (.iadr (.sl qU0)) .tn))) .tn)))),(7,(.val (.int .i64))),(8,(.val (.int .i64)))],[],[]⟩,[(.ret,⟨[(4,(.val (.int .i64)))],[],[]⟩),(.exit 0,⟨[],[],[]⟩)],qbm n⟩
noncomputable def qmv (n : Nat) : List Spec := [qmu n]
noncomputable def qmw : Code := Tryz.f182.body.getD .skip
theorem qmx (n : Nat) : ∀ d,((codeAt qmw (qmu n).path).bind fun c => evC (qmt n) (qmv n) n (qmu n).h c (qmu n).path ((qmu n).inp.mk_ 0 19 d) (finL (qmu n))) = (qmu n).body d := fun d => by kernel_rfl
theorem qmy (n : Nat) : ∀ d,evC (qmt n) (qmv n) n (.seq (.reg []) (.seq (.seq (.reg []) (.blk (.loop 0))) (.seq (.reg []) .leaf))) qmw [] (ent 0 19 (qms n).as ((qms n).io ++ (qms n).own) d) (finR (qmt n) (qms n).t (qms n).m (qms n).io [(4,none)]) = (qms n).M d := fun d => by kernel_rfl
theorem qmz (n : Nat) : (qms n).OK Tryz.prog :=
  wz2 (E := qmt n) (L := qmv n) (n := n) (ns := 0) (nt := 19) (rs := [(4,none)]) (ttOK tysOK _ _ _) (envOK (all_cons (qmr n) wz0) wz0) (fn := Tryz.f182) (body := qmw) (all_cons (qmx n) wz0) (qmy n)
noncomputable def qm0 (n : Nat) : FS := ⟨166,[(.val (.sl qU8)),(.fn 167 (.tc (.iadr qU1) (.tc (.icl (.fn 165 (.tc (.iadr (.sl qU0)) .tn))) .tn)))],[],[],qU6,.im,fun d => qbo n d.1 d.2.1⟩
noncomputable def qm1 (n : Nat) : Env := ⟨Tryz.prog,tys.tt,mkΓ [qms n],0,mkGp []⟩
noncomputable def qm2 (n : Nat) : List Spec := []
noncomputable def qm3 : Code := Tryz.f166.body.getD .skip
theorem qm4 (n : Nat) : ∀ d,evC (qm1 n) (qm2 n) n (.seq (.reg []) (.seq (.reg []) .leaf)) qm3 [] (ent 0 9 (qm0 n).as ((qm0 n).io ++ (qm0 n).own) d) (finR (qm1 n) (qm0 n).t (qm0 n).m (qm0 n).io [(4,none)]) = (qm0 n).M d := fun d => by kernel_rfl
theorem qm5 (n : Nat) : (qm0 n).OK Tryz.prog :=
  wz2 (E := qm1 n) (L := qm2 n) (n := n) (ns := 0) (nt := 9) (rs := [(4,none)]) (ttOK tysOK _ _ _) (envOK (all_cons (qmz n) wz0) wz0) (fn := Tryz.f166) (body := qm3) wz0 (qm4 n)
noncomputable def qm6 (n : Nat) : FS := ⟨145,[(.val (.sl qU0)),(.val qU1)],[],[],qU6,.im,fun d => qbr n d.1 d.2.1⟩
noncomputable def qm7 (n : Nat) : Env := ⟨Tryz.prog,tys.tt,mkΓ [qmg n,qm0 n],0,mkGp []⟩
noncomputable def qm8 (n : Nat) : Spec := ⟨[0,0,1,0,1,1,1],(.seq (.reg []) (.seq (.cond .leaf .leaf) (.seq (.blk (.seq (.reg []) (.seq (.join [(.norm,⟨[(3,(.iadr qU1)),(5,(.icl (.fn 165 (.tc (.iadr (.sl qU0)) .tn)))),(24,(.val qU0)),(25,(.val (.int .i64))),(26,(.val (.int .i64))),(48,(.val .bool))],[],[]⟩)] (.reg [])) (.cond (.seq (.reg []) .leaf) .leaf)))) (.reg [])))),⟨[(3,(.iadr qU1)),(5,(.icl (.fn 165 (.tc (.iadr (.sl qU0)) .tn)))),(24,(.val qU0)),(25,(.val (.int .i64))),(26,(.val (.int .i64)))],[],[]⟩,[(.ret,⟨[(4,(.val .bool))],[],[]⟩),(.exit 0,⟨[(3,(.iadr qU1)),(5,(.icl (.fn 165 (.tc (.iadr (.sl qU0)) .tn))))],[],[]⟩)],qbq n⟩
noncomputable def qm9 (n : Nat) : List Spec := [qm8 n]
noncomputable def qna : Code := Tryz.f145.body.getD .skip
theorem qnb (n : Nat) : ∀ d,((codeAt qna (qm8 n).path).bind fun c => evC (qm7 n) (qm9 n) n (qm8 n).h c (qm8 n).path ((qm8 n).inp.mk_ 2 55 d) (finL (qm8 n))) = (qm8 n).body d := fun d => by kernel_rfl
theorem qnc (n : Nat) : ∀ d,evC (qm7 n) (qm9 n) n (.seq (.reg [{ sl := [0],fl := 1 },{ sl := [1],fl := 1 }]) (.seq (.reg [{},{ fl := 3 }]) (.seq (.seq (.join [(.norm,⟨[(3,(.iadr qU1)),(5,(.icl (.fn 165 (.tc (.iadr (.sl qU0)) .tn)))),(22,(.val .bool))],[],[]⟩)] (.reg [])) (.cond (.seq (.reg []) .leaf) .leaf)) (.seq (.seq (.reg []) (.blk (.loop 0))) (.seq (.reg []) .leaf))))) qna [] (ent 2 55 (qm6 n).as ((qm6 n).io ++ (qm6 n).own) d) (finR (qm7 n) (qm6 n).t (qm6 n).m (qm6 n).io [(4,none)]) = (qm6 n).M d := fun d => by kernel_rfl
theorem qnd (n : Nat) : (qm6 n).OK Tryz.prog :=
  wz2 (E := qm7 n) (L := qm9 n) (n := n) (ns := 2) (nt := 55) (rs := [(4,none)]) (ttOK tysOK _ _ _) (envOK (all_cons (qml n) (all_cons (qm5 n) wz0)) wz0) (fn := Tryz.f145) (body := qna) (all_cons (qnb n) wz0) (qnc n)
noncomputable def qne (n : Nat) : FS := ⟨96,[(.val (.sl qU0)),(.val qU1)],[],[],qU6,.im,fun d => qbs n d.1 d.2.1⟩
noncomputable def qnf (n : Nat) : Env := ⟨Tryz.prog,tys.tt,mkΓ [qjs n,qm6 n],0,mkGp []⟩
noncomputable def qng (n : Nat) : List Spec := []
noncomputable def qnh : Code := Tryz.f96.body.getD .skip
theorem qni (n : Nat) : ∀ d,evC (qnf n) (qng n) n (.seq (.reg [{ sl := [0],fl := 1 }]) (.seq (.reg []) .leaf)) qnh [] (ent 1 12 (qne n).as ((qne n).io ++ (qne n).own) d) (finR (qnf n) (qne n).t (qne n).m (qne n).io [(4,none)]) = (qne n).M d := fun d => by kernel_rfl
theorem qnj (n : Nat) : (qne n).OK Tryz.prog :=
  wz2 (E := qnf n) (L := qng n) (n := n) (ns := 1) (nt := 12) (rs := [(4,none)]) (ttOK tysOK _ _ _) (envOK (all_cons (qj5 n) (all_cons (qnd n) wz0)) wz0) (fn := Tryz.f96) (body := qnh) wz0 (qni n)
noncomputable def qnk (n : Nat) : FS := ⟨108,[(.val (.int .i64)),(.val (.int .i64))],[],[],(.pair (.sl .bool) .unit),.im,fun d => qbv n d.1 d.2.1⟩
noncomputable def qnl (n : Nat) : Env := ⟨Tryz.prog,tys.tt,mkΓ [],0,mkGp []⟩
noncomputable def qnm (n : Nat) : Spec := ⟨[0,0,1,0,1,1],(.seq (.reg []) (.seq (.cond .leaf .leaf) (.seq (.blk (.seq (.reg []) (.reg []))) (.reg [])))),⟨[(0,(.val (.int .i64))),(10,(.val (.int .i64))),(11,(.val (.int .i64)))],[(5,0,none)],[(0,false,(.sl .bool),(.ow .im))]⟩,[(.exit 0,⟨[],[(5,0,none)],[(0,false,(.sl .bool),(.ow .im))]⟩)],qbu n⟩
noncomputable def qnn (n : Nat) : List Spec := [qnm n]
noncomputable def qno : Code := Tryz.f108.body.getD .skip
theorem qnp (n : Nat) : ∀ d,((codeAt qno (qnm n).path).bind fun c => evC (qnl n) (qnn n) n (qnm n).h c (qnm n).path ((qnm n).inp.mk_ 1 24 d) (finL (qnm n))) = (qnm n).body d := fun d => by kernel_rfl
theorem qnq (n : Nat) : ∀ d,evC (qnl n) (qnn n) n (.seq (.reg []) (.seq (.reg [{},{ sl := [0] }]) (.seq (.seq (.reg []) (.blk (.loop 0))) (.seq (.reg []) .leaf)))) qno [] (ent 1 24 (qnk n).as ((qnk n).io ++ (qnk n).own) d) (finR (qnl n) (qnk n).t (qnk n).m (qnk n).io [(4,none)]) = (qnk n).M d := fun d => by kernel_rfl
theorem qnr (n : Nat) : (qnk n).OK Tryz.prog :=
  wz2 (E := qnl n) (L := qnn n) (n := n) (ns := 1) (nt := 24) (rs := [(4,none)]) (ttOK tysOK _ _ _) (envOK wz0 wz0) (fn := Tryz.f108) (body := qno) (all_cons (qnp n) wz0) (qnq n)
noncomputable def qns (n : Nat) : FS := ⟨107,[(.val (.sl qU0)),(.val qU1),(.val (.sl .bool))],[],[],qU4,.im,fun d => qby n d.1 d.2.1 d.2.2.1⟩
noncomputable def qnt (n : Nat) : Env := ⟨Tryz.prog,tys.tt,mkΓ [],0,mkGp []⟩
noncomputable def qnu (n : Nat) : Spec := ⟨[0,0,1,0,1,1],(.seq (.reg []) (.seq (.cond .leaf .leaf) (.seq (.join [(.norm,⟨[(0,(.val (.sl qU0))),(2,(.val (.sl .bool))),(7,(.val (.int .i64))),(11,(.val (.sl qU8))),(12,(.val (.int .i64))),(13,(.val (.int .i64)))],[],[]⟩)] (.blk (.seq (.reg [{},{},{ sl := [1],fl := 1 }]) (.seq (.reg []) (.cond (.reg [{},{},{ an := 3 },{ an := 7 },{ rd := [1] },{ rd := [1],an := 16 },{ an := 63 },{ an := 127 },{ an := 255 }]) (.reg [{},{},{ an := 3 },{ an := 7 },{ rd := [1] },{ rd := [1],an := 16 },{ an := 63 },{ an := 127 },{ an := 255 }])))))) (.reg [])))),⟨[(0,(.val (.sl qU0))),(2,(.val (.sl .bool))),(7,(.val (.int .i64))),(11,(.val (.sl qU8))),(12,(.val (.int .i64))),(13,(.val (.int .i64)))],[],[]⟩,[(.exit 0,⟨[(7,(.val (.int .i64)))],[],[]⟩)],qbx n⟩
noncomputable def qnv (n : Nat) : List Spec := [qnu n]
noncomputable def qnw : Code := Tryz.f107.body.getD .skip
theorem qnx (n : Nat) : ∀ d,((codeAt qnw (qnu n).path).bind fun c => evC (qnt n) (qnv n) n (qnu n).h c (qnu n).path ((qnu n).inp.mk_ 2 40 d) (finL (qnu n))) = (qnu n).body d := fun d => by kernel_rfl
theorem qny (n : Nat) : ∀ d,evC (qnt n) (qnv n) n (.seq (.reg [{ sl := [0],fl := 1 }]) (.seq (.reg []) (.seq (.seq (.reg []) (.blk (.loop 0))) (.seq (.reg []) .leaf)))) qnw [] (ent 2 40 (qns n).as ((qns n).io ++ (qns n).own) d) (finR (qnt n) (qns n).t (qns n).m (qns n).io [(6,none)]) = (qns n).M d := fun d => by kernel_rfl
theorem qnz (n : Nat) : (qns n).OK Tryz.prog :=
  wz2 (E := qnt n) (L := qnv n) (n := n) (ns := 2) (nt := 40) (rs := [(6,none)]) (ttOK tysOK _ _ _) (envOK wz0 wz0) (fn := Tryz.f107) (body := qnw) (all_cons (qnx n) wz0) (qny n)
noncomputable def qn0 (n : Nat) : FS := ⟨147,[(.val qU0),(.val (.int .i64))],[],[],qU4,.im,fun d => qb1 n d.1 d.2.1⟩
noncomputable def qn1 (n : Nat) : Env := ⟨Tryz.prog,tys.tt,mkΓ [],0,mkGp []⟩
noncomputable def qn2 (n : Nat) : Spec := ⟨[0,0,1,0,1],(.seq (.reg []) (.seq (.cond .leaf .leaf) (.seq (.blk (.seq (.reg []) (.seq (.reg []) (.cond (.seq (.reg []) .leaf) .leaf)))) (.reg [])))),⟨[(0,(.val qU0)),(1,(.val (.int .i64))),(7,(.val (.int .i64))),(8,(.val (.int .i64)))],[],[]⟩,[(.ret,⟨[(4,(.val (.int .i64)))],[],[]⟩),(.exit 0,⟨[],[],[]⟩)],qb0 n⟩
noncomputable def qn3 (n : Nat) : List Spec := [qn2 n]
noncomputable def qn4 : Code := Tryz.f147.body.getD .skip
theorem qn5 (n : Nat) : ∀ d,((codeAt qn4 (qn2 n).path).bind fun c => evC (qn1 n) (qn3 n) n (qn2 n).h c (qn2 n).path ((qn2 n).inp.mk_ 0 19 d) (finL (qn2 n))) = (qn2 n).body d := fun d => by kernel_rfl
theorem qn6 (n : Nat) : ∀ d,evC (qn1 n) (qn3 n) n (.seq (.reg []) (.seq (.seq (.reg []) (.blk (.loop 0))) (.seq (.reg []) .leaf))) qn4 [] (ent 0 19 (qn0 n).as ((qn0 n).io ++ (qn0 n).own) d) (finR (qn1 n) (qn0 n).t (qn0 n).m (qn0 n).io [(4,none)]) = (qn0 n).M d := fun d => by kernel_rfl
theorem qn7 (n : Nat) : (qn0 n).OK Tryz.prog :=
  wz2 (E := qn1 n) (L := qn3 n) (n := n) (ns := 0) (nt := 19) (rs := [(4,none)]) (ttOK tysOK _ _ _) (envOK wz0 wz0) (fn := Tryz.f147) (body := qn4) (all_cons (qn5 n) wz0) (qn6 n)
noncomputable def qn8 (n : Nat) : FS := ⟨106,[(.val qU0),(.val (.int .i64))],[],[],qU6,.im,fun d => qb2 n d.1 d.2.1⟩
noncomputable def qn9 (n : Nat) : Env := ⟨Tryz.prog,tys.tt,mkΓ [qn0 n],0,mkGp []⟩
noncomputable def qoa (n : Nat) : List Spec := []
noncomputable def qob : Code := Tryz.f106.body.getD .skip
theorem qoc (n : Nat) : ∀ d,evC (qn9 n) (qoa n) n (.seq (.reg []) (.seq (.reg []) .leaf)) qob [] (ent 0 9 (qn8 n).as ((qn8 n).io ++ (qn8 n).own) d) (finR (qn9 n) (qn8 n).t (qn8 n).m (qn8 n).io [(4,none)]) = (qn8 n).M d := fun d => by kernel_rfl
theorem qod (n : Nat) : (qn8 n).OK Tryz.prog :=
  wz2 (E := qn9 n) (L := qoa n) (n := n) (ns := 0) (nt := 9) (rs := [(4,none)]) (ttOK tysOK _ _ _) (envOK (all_cons (qn7 n) wz0) wz0) (fn := Tryz.f106) (body := qob) wz0 (qoc n)
noncomputable def qoe (n : Nat) : FS := ⟨52,[(.val (.sl qU0)),(.val qU1)],[],[],(.pair (.sl .bool) qU4),.im,fun d => qb5 n d.1 d.2.1⟩
noncomputable def qof (n : Nat) : Env := ⟨Tryz.prog,tys.tt,mkΓ [qne n,qnk n,qns n,qn8 n],0,mkGp []⟩
noncomputable def qog (n : Nat) : Spec := ⟨[0,0,1,0,1,1,1],(.seq (.reg []) (.seq (.cond .leaf .leaf) (.seq (.blk (.seq (.reg []) (.reg [{},{},{},{ an := 4 },{},{},{},{},{ an := 128 },{ an := 448 },{ an := 1008 },{ an := 2044 },{ rd := [1],an := 4095 },{ rd := [1],wr := [1],an := 8191 }]))) (.reg [])))),⟨[(0,(.val (.sl qU0))),(3,(.iadr qU1)),(32,(.val (.int .i64))),(33,(.val (.int .i64)))],[(6,1,none)],[(1,false,(.sl .bool),(.ow .im))]⟩,[(.exit 1,⟨[],[(6,1,none)],[(1,false,(.sl .bool),(.ow .im))]⟩)],qb4 n⟩
noncomputable def qoh (n : Nat) : List Spec := [qog n]
noncomputable def qoi : Code := Tryz.f52.body.getD .skip
theorem qoj (n : Nat) : ∀ d,((codeAt qoi (qog n).path).bind fun c => evC (qof n) (qoh n) n (qog n).h c (qog n).path ((qog n).inp.mk_ 2 51 d) (finL (qog n))) = (qog n).body d := fun d => by kernel_rfl
theorem qok (n : Nat) : ∀ d,evC (qof n) (qoh n) n (.seq (.reg [{ sl := [0],fl := 1 }]) (.seq (.blk (.seq (.reg []) (.cond (.seq (.reg []) .leaf) (.seq (.join [(.norm,⟨[(0,(.val (.sl qU0))),(3,(.iadr qU1)),(13,(.val .bool))],[],[]⟩)] (.reg [])) (.cond (.seq (.reg []) .leaf) .leaf))))) (.seq (.reg [{},{},{},{ sl := [1] }]) (.seq (.seq (.reg []) (.blk (.loop 0))) (.seq (.reg []) .leaf))))) qoi [] (ent 2 51 (qoe n).as ((qoe n).io ++ (qoe n).own) d) (finR (qof n) (qoe n).t (qoe n).m (qoe n).io [(4,none),(5,none)]) = (qoe n).M d := fun d => by kernel_rfl
theorem qol (n : Nat) : (qoe n).OK Tryz.prog :=
  wz2 (E := qof n) (L := qoh n) (n := n) (ns := 2) (nt := 51) (rs := [(4,none),(5,none)]) (ttOK tysOK _ _ _) (envOK (all_cons (qnj n) (all_cons (qnr n) (all_cons (qnz n) (all_cons (qod n) wz0)))) wz0) (fn := Tryz.f52) (body := qoi) (all_cons (qoj n) wz0) (qok n)
noncomputable def qom (n : Nat) : FS := ⟨109,[(.val qU0),(.val qU0)],[],[],qU6,.im,fun d => qb8 n d.1 d.2.1⟩
noncomputable def qon (n : Nat) : Env := ⟨Tryz.prog,tys.tt,mkΓ [],0,mkGp []⟩
noncomputable def qoo (n : Nat) : Spec := ⟨[0,0,1,0,1,1],(.seq (.seq (.reg []) (.cond .leaf .leaf)) (.seq (.blk (.seq (.reg [{},{},{ an := 3 },{ an := 7 },{},{},{ an := 48 },{ an := 112 },{ an := 255 }]) (.cond (.seq (.reg []) .leaf) .leaf))) (.reg []))),⟨[(0,(.val qU0)),(1,(.val qU0)),(5,(.val (.int .i64)))],[],[]⟩,[(.ret,⟨[(4,(.val .bool))],[],[]⟩),(.exit 0,⟨[],[],[]⟩)],qb7 n⟩
noncomputable def qop (n : Nat) : List Spec := [qoo n]
noncomputable def qoq : Code := Tryz.f109.body.getD .skip
theorem qor (n : Nat) : ∀ d,((codeAt qoq (qoo n).path).bind fun c => evC (qon n) (qop n) n (qoo n).h c (qoo n).path ((qoo n).inp.mk_ 0 26 d) (finL (qoo n))) = (qoo n).body d := fun d => by kernel_rfl
theorem qos (n : Nat) : ∀ d,evC (qon n) (qop n) n (.seq (.reg []) (.seq (.seq (.reg []) (.cond (.seq (.reg []) .leaf) .leaf)) (.seq (.seq (.reg []) (.blk (.loop 0))) (.seq (.reg []) .leaf)))) qoq [] (ent 0 26 (qom n).as ((qom n).io ++ (qom n).own) d) (finR (qon n) (qom n).t (qom n).m (qom n).io [(4,none)]) = (qom n).M d := fun d => by kernel_rfl
theorem qot (n : Nat) : (qom n).OK Tryz.prog :=
  wz2 (E := qon n) (L := qop n) (n := n) (ns := 0) (nt := 26) (rs := [(4,none)]) (ttOK tysOK _ _ _) (envOK wz0 wz0) (fn := Tryz.f109) (body := qoq) (all_cons (qor n) wz0) (qos n)
noncomputable def qou (n : Nat) : FS := ⟨53,[(.val (.sl qU0)),(.val (.sl qU0))],[],[],qU6,.im,fun d => qcb n d.1 d.2.1⟩
noncomputable def qov (n : Nat) : Env := ⟨Tryz.prog,tys.tt,mkΓ [qom n],0,mkGp []⟩
noncomputable def qow (n : Nat) : Spec := ⟨[0,0,1,0,1,1],(.seq (.seq (.reg []) (.cond .leaf .leaf)) (.seq (.blk (.seq (.reg [{},{},{ an := 3 },{ an := 7 },{},{},{ an := 48 },{ an := 112 },{ an := 255 },{ an := 511 }]) (.cond (.seq (.reg []) .leaf) .leaf))) (.reg []))),⟨[(0,(.val (.sl qU0))),(1,(.val (.sl qU0))),(5,(.val (.int .i64)))],[],[]⟩,[(.ret,⟨[(4,(.val .bool))],[],[]⟩),(.exit 0,⟨[],[],[]⟩)],qca n⟩
noncomputable def qox (n : Nat) : List Spec := [qow n]
noncomputable def qoy : Code := Tryz.f53.body.getD .skip
theorem qoz (n : Nat) : ∀ d,((codeAt qoy (qow n).path).bind fun c => evC (qov n) (qox n) n (qow n).h c (qow n).path ((qow n).inp.mk_ 0 27 d) (finL (qow n))) = (qow n).body d := fun d => by kernel_rfl
theorem qo0 (n : Nat) : ∀ d,evC (qov n) (qox n) n (.seq (.reg []) (.seq (.seq (.reg []) (.cond (.seq (.reg []) .leaf) .leaf)) (.seq (.seq (.reg []) (.blk (.loop 0))) (.seq (.reg []) .leaf)))) qoy [] (ent 0 27 (qou n).as ((qou n).io ++ (qou n).own) d) (finR (qov n) (qou n).t (qou n).m (qou n).io [(4,none)]) = (qou n).M d := fun d => by kernel_rfl
theorem qo1 (n : Nat) : (qou n).OK Tryz.prog :=
  wz2 (E := qov n) (L := qox n) (n := n) (ns := 0) (nt := 27) (rs := [(4,none)]) (ttOK tysOK _ _ _) (envOK (all_cons (qot n) wz0) wz0) (fn := Tryz.f53) (body := qoy) (all_cons (qoz n) wz0) (qo0 n)
noncomputable def qo2 (n : Nat) : FS := ⟨54,[(.val (.sl .bool)),(.val (.sl .bool))],[],[],qU6,.im,fun d => qce n d.1 d.2.1⟩
noncomputable def qo3 (n : Nat) : Env := ⟨Tryz.prog,tys.tt,mkΓ [],0,mkGp []⟩
noncomputable def qo4 (n : Nat) : Spec := ⟨[0,0,1,0,1,1],(.seq (.seq (.reg []) (.cond .leaf .leaf)) (.seq (.blk (.seq (.reg [{},{},{ an := 3 },{ an := 7 },{},{},{ an := 48 },{ an := 112 },{ an := 255 }]) (.cond (.seq (.reg []) .leaf) .leaf))) (.reg []))),⟨[(0,(.val (.sl .bool))),(1,(.val (.sl .bool))),(5,(.val (.int .i64)))],[],[]⟩,[(.ret,⟨[(4,(.val .bool))],[],[]⟩),(.exit 0,⟨[],[],[]⟩)],qcd n⟩
noncomputable def qo5 (n : Nat) : List Spec := [qo4 n]
noncomputable def qo6 : Code := Tryz.f54.body.getD .skip
theorem qo7 (n : Nat) : ∀ d,((codeAt qo6 (qo4 n).path).bind fun c => evC (qo3 n) (qo5 n) n (qo4 n).h c (qo4 n).path ((qo4 n).inp.mk_ 0 26 d) (finL (qo4 n))) = (qo4 n).body d := fun d => by kernel_rfl
theorem qo8 (n : Nat) : ∀ d,evC (qo3 n) (qo5 n) n (.seq (.reg []) (.seq (.seq (.reg []) (.cond (.seq (.reg []) .leaf) .leaf)) (.seq (.seq (.reg []) (.blk (.loop 0))) (.seq (.reg []) .leaf)))) qo6 [] (ent 0 26 (qo2 n).as ((qo2 n).io ++ (qo2 n).own) d) (finR (qo3 n) (qo2 n).t (qo2 n).m (qo2 n).io [(4,none)]) = (qo2 n).M d := fun d => by kernel_rfl
theorem qo9 (n : Nat) : (qo2 n).OK Tryz.prog :=
  wz2 (E := qo3 n) (L := qo5 n) (n := n) (ns := 0) (nt := 26) (rs := [(4,none)]) (ttOK tysOK _ _ _) (envOK wz0 wz0) (fn := Tryz.f54) (body := qo6) (all_cons (qo7 n) wz0) (qo8 n)
noncomputable def qpa (n : Nat) : FS := ⟨8,[],[],[],qU6,.im,fun d => qcf n ⟩
noncomputable def qpb (n : Nat) : Env := ⟨Tryz.prog,tys.tt,mkΓ [qi2 n,qk2 n,qls n,qly n,ql8 n,qoe n,qou n,qo2 n],0,mkGp []⟩
noncomputable def qpc (n : Nat) : List Spec := []
noncomputable def qpd : Code := Tryz.f8.body.getD .skip
theorem qpe (n : Nat) : ∀ d,evC (qpb n) (qpc n) n (.seq (.reg []) (.seq (.reg []) (.seq (.reg []) (.seq (.reg []) (.seq (.reg [{},{},{},{},{ sl := [0],fl := 1 }]) (.seq (.reg []) (.seq (.reg [{},{},{},{},{},{},{},{},{},{},{},{},{},{},{},{},{},{},{},{},{},{},{},{ sl := [1] },{ sl := [2] },{ sl := [3] },{},{},{},{},{ sl := [4] }]) .leaf))))))) qpd [] (ent 5 68 (qpa n).as ((qpa n).io ++ (qpa n).own) d) (finR (qpb n) (qpa n).t (qpa n).m (qpa n).io [(0,none)]) = (qpa n).M d := fun d => by kernel_rfl
theorem qpf (n : Nat) : (qpa n).OK Tryz.prog :=
  wz2 (E := qpb n) (L := qpc n) (n := n) (ns := 5) (nt := 68) (rs := [(0,none)]) (ttOK tysOK _ _ _) (envOK (all_cons (qi7 n) (all_cons (qk7 n) (all_cons (qlx n) (all_cons (ql7 n) (all_cons (qmf n) (all_cons (qol n) (all_cons (qo1 n) (all_cons (qo9 n) wz0)))))))) wz0) (fn := Tryz.f8) (body := qpd) wz0 (qpe n)
noncomputable def qpg (n : Nat) : FS := ⟨110,[(.val qU0)],[],[],qU6,.im,fun d => qck n d.1⟩
noncomputable def qph (n : Nat) : Env := ⟨Tryz.prog,tys.tt,mkΓ [],0,mkGp []⟩
noncomputable def qpi (n : Nat) : Spec := ⟨[0,0,1,1,0,0,1,0,0,1,0,1,1],(.seq (.seq (.reg []) (.cond .leaf .leaf)) (.seq (.blk (.seq (.reg [{},{},{ an := 3 },{ an := 7 },{},{},{ an := 48 },{ an := 112 },{ an := 255 }]) (.cond (.seq (.reg []) .leaf) .leaf))) (.reg []))),⟨[(0,(.val qU0)),(3,(.val (.int .i64))),(4,(.val (.int .i64)))],[],[]⟩,[(.ret,⟨[(2,(.val .bool))],[],[]⟩),(.exit 2,⟨[(0,(.val qU0)),(3,(.val (.int .i64)))],[],[]⟩)],qch n⟩
noncomputable def qpj (n : Nat) : Spec := ⟨[0,0,1,0,1,1],(.seq (.seq (.reg []) (.cond .leaf .leaf)) (.seq (.blk (.seq (.seq (.join [(.norm,⟨[(0,(.val qU0)),(3,(.val (.int .i64))),(32,(.val .bool))],[],[]⟩)] (.reg [])) (.cond (.seq (.reg []) .leaf) .leaf)) (.seq (.reg []) (.blk (.loop 0))))) (.reg []))),⟨[(0,(.val qU0)),(3,(.val (.int .i64)))],[],[]⟩,[(.ret,⟨[(2,(.val .bool))],[],[]⟩),(.exit 0,⟨[],[],[]⟩)],qcj n⟩
noncomputable def qpk (n : Nat) : List Spec := [qpi n,qpj n]
noncomputable def qpl : Code := Tryz.f110.body.getD .skip
theorem qpm (n : Nat) : ∀ d,((codeAt qpl (qpi n).path).bind fun c => evC (qph n) (qpk n) n (qpi n).h c (qpi n).path ((qpi n).inp.mk_ 0 47 d) (finL (qpi n))) = (qpi n).body d := fun d => by kernel_rfl
theorem qpn (n : Nat) : ∀ d,((codeAt qpl (qpj n).path).bind fun c => evC (qph n) (qpk n) n (qpj n).h c (qpj n).path ((qpj n).inp.mk_ 0 47 d) (finL (qpj n))) = (qpj n).body d := fun d => by kernel_rfl
theorem qpo (n : Nat) : ∀ d,evC (qph n) (qpk n) n (.seq (.reg []) (.seq (.seq (.join [(.norm,⟨[(0,(.val qU0)),(12,(.val .bool))],[],[]⟩)] (.reg [])) (.cond (.seq (.reg []) .leaf) .leaf)) (.seq (.seq (.reg []) (.blk (.loop 1))) (.seq (.reg []) .leaf)))) qpl [] (ent 0 47 (qpg n).as ((qpg n).io ++ (qpg n).own) d) (finR (qph n) (qpg n).t (qpg n).m (qpg n).io [(2,none)]) = (qpg n).M d := fun d => by kernel_rfl
theorem qpp (n : Nat) : (qpg n).OK Tryz.prog :=
  wz2 (E := qph n) (L := qpk n) (n := n) (ns := 0) (nt := 47) (rs := [(2,none)]) (ttOK tysOK _ _ _) (envOK wz0 wz0) (fn := Tryz.f110) (body := qpl) (all_cons (qpm n) (all_cons (qpn n) wz0)) (qpo n)
noncomputable def qpq (n : Nat) : FS := ⟨55,[(.val qU0),(.val (.int .i64))],[],[],qU6,.im,fun d => qcl n d.1 d.2.1⟩
noncomputable def qpr (n : Nat) : Env := ⟨Tryz.prog,tys.tt,mkΓ [qpg n],0,mkGp []⟩
noncomputable def qps (n : Nat) : List Spec := []
noncomputable def qpt : Code := Tryz.f55.body.getD .skip
theorem qpu (n : Nat) : ∀ d,evC (qpr n) (qps n) n (.seq (.reg []) (.seq (.reg []) .leaf)) qpt [] (ent 0 13 (qpq n).as ((qpq n).io ++ (qpq n).own) d) (finR (qpr n) (qpq n).t (qpq n).m (qpq n).io [(4,none)]) = (qpq n).M d := fun d => by kernel_rfl
theorem qpv (n : Nat) : (qpq n).OK Tryz.prog :=
  wz2 (E := qpr n) (L := qps n) (n := n) (ns := 0) (nt := 13) (rs := [(4,none)]) (ttOK tysOK _ _ _) (envOK (all_cons (qpp n) wz0) wz0) (fn := Tryz.f55) (body := qpt) wz0 (qpu n)
noncomputable def qpw (n : Nat) : FS := ⟨56,[(.val (.int .i64))],[],[],qU11,.im,fun d => qco n d.1⟩
noncomputable def qpx (n : Nat) : Env := ⟨Tryz.prog,tys.tt,mkΓ [],0,mkGp []⟩
noncomputable def qpy (n : Nat) : Spec := ⟨[0,0,1,0,1,1],(.seq (.seq (.reg []) (.cond .leaf .leaf)) (.seq (.blk (.reg [])) (.reg []))),⟨[(0,(.val (.int .i64))),(4,(.val (.int .i64)))],[(3,0,none)],[(0,false,qU0,(.ow .im))]⟩,[(.exit 0,⟨[],[(3,0,none)],[(0,false,qU0,(.ow .im))]⟩)],qcn n⟩
noncomputable def qpz (n : Nat) : List Spec := [qpy n]
noncomputable def qp0 : Code := Tryz.f56.body.getD .skip
theorem qp1 (n : Nat) : ∀ d,((codeAt qp0 (qpy n).path).bind fun c => evC (qpx n) (qpz n) n (qpy n).h c (qpy n).path ((qpy n).inp.mk_ 1 17 d) (finL (qpy n))) = (qpy n).body d := fun d => by kernel_rfl
theorem qp2 (n : Nat) : ∀ d,evC (qpx n) (qpz n) n (.seq (.reg []) (.seq (.reg [{},{ sl := [0] }]) (.seq (.seq (.reg []) (.blk (.loop 0))) (.seq (.reg []) .leaf)))) qp0 [] (ent 1 17 (qpw n).as ((qpw n).io ++ (qpw n).own) d) (finR (qpx n) (qpw n).t (qpw n).m (qpw n).io [(2,none)]) = (qpw n).M d := fun d => by kernel_rfl
theorem qp3 (n : Nat) : (qpw n).OK Tryz.prog :=
  wz2 (E := qpx n) (L := qpz n) (n := n) (ns := 1) (nt := 17) (rs := [(2,none)]) (ttOK tysOK _ _ _) (envOK wz0 wz0) (fn := Tryz.f56) (body := qp0) (all_cons (qp1 n) wz0) (qp2 n)
noncomputable def qp4 (n : Nat) : FS := ⟨18,[(.val qU0),(.val qU0)],[],[],qU6,.im,fun d => qcr n d.1 d.2.1⟩
noncomputable def qp5 (n : Nat) : Env := ⟨Tryz.prog,tys.tt,mkΓ [],0,mkGp []⟩
noncomputable def qp6 (n : Nat) : Spec := ⟨[0,0,1,0,1,1],(.seq (.seq (.reg []) (.cond .leaf .leaf)) (.seq (.blk (.seq (.reg [{},{},{ an := 3 },{ an := 7 },{},{},{ an := 48 },{ an := 112 },{ an := 255 }]) (.cond (.seq (.reg []) .leaf) .leaf))) (.reg []))),⟨[(0,(.val qU0)),(1,(.val qU0)),(5,(.val (.int .i64)))],[],[]⟩,[(.ret,⟨[(4,(.val .bool))],[],[]⟩),(.exit 0,⟨[],[],[]⟩)],qcq n⟩
noncomputable def qp7 (n : Nat) : List Spec := [qp6 n]
noncomputable def qp8 : Code := Tryz.f18.body.getD .skip
theorem qp9 (n : Nat) : ∀ d,((codeAt qp8 (qp6 n).path).bind fun c => evC (qp5 n) (qp7 n) n (qp6 n).h c (qp6 n).path ((qp6 n).inp.mk_ 0 26 d) (finL (qp6 n))) = (qp6 n).body d := fun d => by kernel_rfl
theorem qqa (n : Nat) : ∀ d,evC (qp5 n) (qp7 n) n (.seq (.reg []) (.seq (.seq (.reg []) (.cond (.seq (.reg []) .leaf) .leaf)) (.seq (.seq (.reg []) (.blk (.loop 0))) (.seq (.reg []) .leaf)))) qp8 [] (ent 0 26 (qp4 n).as ((qp4 n).io ++ (qp4 n).own) d) (finR (qp5 n) (qp4 n).t (qp4 n).m (qp4 n).io [(4,none)]) = (qp4 n).M d := fun d => by kernel_rfl
theorem qqb (n : Nat) : (qp4 n).OK Tryz.prog :=
  wz2 (E := qp5 n) (L := qp7 n) (n := n) (ns := 0) (nt := 26) (rs := [(4,none)]) (ttOK tysOK _ _ _) (envOK wz0 wz0) (fn := Tryz.f18) (body := qp8) (all_cons (qp9 n) wz0) (qqa n)
noncomputable def qqc (n : Nat) : FS := ⟨9,[(.val qU2)],[],[],qU6,.im,fun d => qcu n d.1⟩
noncomputable def qqd (n : Nat) : Env := ⟨Tryz.prog,tys.tt,mkΓ [qpq n,qpw n,qp4 n],0,mkGp []⟩
noncomputable def qqe (n : Nat) : Spec := ⟨[0,0,1,0,1,1],(.seq (.seq (.reg []) (.cond .leaf .leaf)) (.seq (.blk (.seq (.reg [{},{},{},{},{},{ sl := [1],fl := 1 }]) (.seq (.join [(.norm,⟨[(1,(.iadr qU2)),(3,(.val (.int .i64))),(82,(.val .bool))],[],[]⟩)] (.reg [])) (.cond (.seq (.reg []) .leaf) .leaf)))) (.reg []))),⟨[(1,(.iadr qU2)),(3,(.val (.int .i64)))],[],[]⟩,[(.ret,⟨[(2,(.val .bool))],[],[]⟩),(.exit 0,⟨[],[],[]⟩)],qct n⟩
noncomputable def qqf (n : Nat) : List Spec := [qqe n]
noncomputable def qqg : Code := Tryz.f9.body.getD .skip
theorem qqh (n : Nat) : ∀ d,((codeAt qqg (qqe n).path).bind fun c => evC (qqd n) (qqf n) n (qqe n).h c (qqe n).path ((qqe n).inp.mk_ 2 83 d) (finL (qqe n))) = (qqe n).body d := fun d => by kernel_rfl
theorem qqi (n : Nat) : ∀ d,evC (qqd n) (qqf n) n (.seq (.reg [{ sl := [0],fl := 1 }]) (.seq (.seq (.join [(.norm,⟨[(1,(.iadr qU2)),(44,(.val .bool))],[],[]⟩)] (.reg [{ rd := [0] },{ rd := [0],an := 1 },{ an := 3 },{ an := 7 },{ rd := [0],an := 15 },{ rd := [0],an := 31 },{ an := 63 },{ an := 127 },{ an := 255 },{ rd := [0],an := 511 },{ rd := [0],an := 1023 },{ an := 2047 },{ an := 4095 },{ an := 8191 },{ rd := [0],an := 16383 },{ rd := [0],an := 32767 },{ an := 65535 },{ an := 131071 },{ an := 262143 },{ rd := [0],an := 524287 },{ rd := [0],an := 1048575 },{ an := 2097151 },{ an := 4194303 },{ an := 8388607 },{ an := 16777215 },{ rd := [0],an := 33554431 },{ rd := [0],an := 67108863 },{ rd := [0],an := 33554431 },{ rd := [0],an := 167772159 },{ an := 536870911 },{ an := 1073741823 },{ an := 2147483647 },{ an := 4294967295 },{ rd := [0],an := 8589934591 },{ rd := [0],an := 17179869183 },{ rd := [0],an := 8589934591 },{ rd := [0],an := 42949672959 },{ an := 111669149695 },{ an := 274877906943 },{ an := 549755813887 }])) (.cond (.seq (.reg []) .leaf) .leaf)) (.seq (.seq (.reg []) (.blk (.loop 0))) (.seq (.reg []) .leaf)))) qqg [] (ent 2 83 (qqc n).as ((qqc n).io ++ (qqc n).own) d) (finR (qqd n) (qqc n).t (qqc n).m (qqc n).io [(2,none)]) = (qqc n).M d := fun d => by kernel_rfl
theorem qqj (n : Nat) : (qqc n).OK Tryz.prog :=
  wz2 (E := qqd n) (L := qqf n) (n := n) (ns := 2) (nt := 83) (rs := [(2,none)]) (ttOK tysOK _ _ _) (envOK (all_cons (qpv n) (all_cons (qp3 n) (all_cons (qqb n) wz0))) wz0) (fn := Tryz.f9) (body := qqg) (all_cons (qqh n) wz0) (qqi n)
noncomputable def qqk (n : Nat) : FS := ⟨10,[(.val (.sl qU0)),(.val qU0)],[],[],qU6,.im,fun d => qcx n d.1 d.2.1⟩
noncomputable def qql (n : Nat) : Env := ⟨Tryz.prog,tys.tt,mkΓ [qp4 n],0,mkGp []⟩
noncomputable def qqm (n : Nat) : Spec := ⟨[0,0,1,0,1],(.seq (.seq (.reg []) (.cond .leaf .leaf)) (.seq (.blk (.seq (.reg []) (.cond (.seq (.reg []) .leaf) .leaf))) (.reg []))),⟨[(0,(.val (.sl qU0))),(1,(.val qU0)),(5,(.val (.int .i64)))],[],[]⟩,[(.ret,⟨[(4,(.val .bool))],[],[]⟩),(.exit 0,⟨[],[],[]⟩)],qcw n⟩
noncomputable def qqn (n : Nat) : List Spec := [qqm n]
noncomputable def qqo : Code := Tryz.f10.body.getD .skip
theorem qqp (n : Nat) : ∀ d,((codeAt qqo (qqm n).path).bind fun c => evC (qql n) (qqn n) n (qqm n).h c (qqm n).path ((qqm n).inp.mk_ 0 18 d) (finL (qqm n))) = (qqm n).body d := fun d => by kernel_rfl
theorem qqq (n : Nat) : ∀ d,evC (qql n) (qqn n) n (.seq (.reg []) (.seq (.seq (.reg []) (.blk (.loop 0))) (.seq (.reg []) .leaf))) qqo [] (ent 0 18 (qqk n).as ((qqk n).io ++ (qqk n).own) d) (finR (qql n) (qqk n).t (qqk n).m (qqk n).io [(4,none)]) = (qqk n).M d := fun d => by kernel_rfl
theorem qqr (n : Nat) : (qqk n).OK Tryz.prog :=
  wz2 (E := qql n) (L := qqn n) (n := n) (ns := 0) (nt := 18) (rs := [(4,none)]) (ttOK tysOK _ _ _) (envOK (all_cons (qqb n) wz0) wz0) (fn := Tryz.f10) (body := qqo) (all_cons (qqp n) wz0) (qqq n)
noncomputable def qqs (n : Nat) : FS := ⟨111,[(.val (.int .i64))],[],[],qU4,.im,fun d => qcz n d.1⟩
noncomputable def qqt (n : Nat) : Env := ⟨Tryz.prog,tys.tt,mkΓ [qqs n],0,mkGp []⟩
noncomputable def qqu (n : Nat) : List Spec := []
noncomputable def qqv : Code := Tryz.f111.body.getD .skip
theorem qqw (n : Nat) : ∀ d,evC (qqt n) (qqu n) n (.seq (.reg []) (.seq (.seq (.reg []) (.cond (.seq (.reg []) .leaf) .leaf)) (.seq (.reg []) .leaf))) qqv [] (ent 0 10 (qqs (n + 1)).as ((qqs (n + 1)).io ++ (qqs (n + 1)).own) d) (finR (qqt n) (qqs (n + 1)).t (qqs (n + 1)).m (qqs (n + 1)).io [(2,none)]) = (qqs (n + 1)).M d := fun d => by kernel_rfl
theorem qqx : ∀ n : Nat,(qqs n).OK Tryz.prog
  | 0 => fs_zero (s := qqs 0) (fn := Tryz.f111) (body := qqv) (by kernel_rfl) (by kernel_rfl) (by kernel_rfl) (fun _ => rfl)
  | n + 1 => have ih := qqx n
    wz2 (E := qqt n) (L := qqu n) (n := n) (ns := 0) (nt := 10) (rs := [(2,none)]) (ttOK tysOK _ _ _) (envOK (all_cons (ih) wz0) wz0) (fn := Tryz.f111) (body := qqv) wz0 (qqw n)
theorem qqy (n : Nat) : (qqs n).OK Tryz.prog := (qqx n)
noncomputable def qqz (n : Nat) : FS := ⟨59,[(.val qU0)],[],[],qU4,.im,fun d => qc4 n d.1⟩
noncomputable def qq0 (n : Nat) : Env := ⟨Tryz.prog,tys.tt,mkΓ [qqs n],0,mkGp []⟩
noncomputable def qq1 (n : Nat) : Spec := ⟨[0,0,1,0,1,0,0,1,0,0,1,0,1,1],(.seq (.seq (.reg []) (.cond .leaf .leaf)) (.seq (.join [(.norm,⟨[(0,(.val qU0)),(3,(.val (.int .i64))),(4,(.val (.int .i64))),(5,(.val (.int .i64))),(6,(.val (.int .i64)))],[],[]⟩)] (.blk (.seq (.reg [{},{},{ an := 3 },{ an := 7 },{},{},{ an := 48 },{ an := 112 },{ an := 255 }]) (.cond (.reg []) .leaf)))) (.reg []))),⟨[(0,(.val qU0)),(3,(.val (.int .i64))),(4,(.val (.int .i64))),(5,(.val (.int .i64))),(6,(.val (.int .i64)))],[],[]⟩,[(.exit 2,⟨[(0,(.val qU0)),(3,(.val (.int .i64))),(4,(.val (.int .i64))),(5,(.val (.int .i64)))],[],[]⟩)],qc1 n⟩
noncomputable def qq2 (n : Nat) : Spec := ⟨[0,0,1,0,1,1],(.seq (.seq (.reg []) (.cond .leaf .leaf)) (.seq (.blk (.seq (.reg []) (.seq (.seq (.reg []) (.blk (.loop 0))) (.reg [])))) (.reg []))),⟨[(0,(.val qU0)),(3,(.val (.int .i64))),(4,(.val (.int .i64)))],[],[]⟩,[(.exit 0,⟨[(3,(.val (.int .i64)))],[],[]⟩)],qc3 n⟩
noncomputable def qq3 (n : Nat) : List Spec := [qq1 n,qq2 n]
noncomputable def qq4 : Code := Tryz.f59.body.getD .skip
theorem qq5 (n : Nat) : ∀ d,((codeAt qq4 (qq1 n).path).bind fun c => evC (qq0 n) (qq3 n) n (qq1 n).h c (qq1 n).path ((qq1 n).inp.mk_ 0 43 d) (finL (qq1 n))) = (qq1 n).body d := fun d => by kernel_rfl
theorem qq6 (n : Nat) : ∀ d,((codeAt qq4 (qq2 n).path).bind fun c => evC (qq0 n) (qq3 n) n (qq2 n).h c (qq2 n).path ((qq2 n).inp.mk_ 0 43 d) (finL (qq2 n))) = (qq2 n).body d := fun d => by kernel_rfl
theorem qq7 (n : Nat) : ∀ d,evC (qq0 n) (qq3 n) n (.seq (.reg []) (.seq (.reg []) (.seq (.seq (.reg []) (.blk (.loop 1))) (.seq (.reg []) .leaf)))) qq4 [] (ent 0 43 (qqz n).as ((qqz n).io ++ (qqz n).own) d) (finR (qq0 n) (qqz n).t (qqz n).m (qqz n).io [(2,none)]) = (qqz n).M d := fun d => by kernel_rfl
theorem qq8 (n : Nat) : (qqz n).OK Tryz.prog :=
  wz2 (E := qq0 n) (L := qq3 n) (n := n) (ns := 0) (nt := 43) (rs := [(2,none)]) (ttOK tysOK _ _ _) (envOK (all_cons (qqy n) wz0) wz0) (fn := Tryz.f59) (body := qq4) (all_cons (qq5 n) (all_cons (qq6 n) wz0)) (qq7 n)
noncomputable def qq9 (n : Nat) : FS := ⟨57,[(.val (.int .i64)),(.val (.sl qU0))],[],[],(.pair qU3 .unit),(.pr (.pr .im (.pr (.ow .im) .im)) .im),fun d => qc7 n d.1 d.2.1⟩
noncomputable def qra (n : Nat) : Env := ⟨Tryz.prog,tys.tt,mkΓ [qqs n,qqz n],0,mkGp []⟩
noncomputable def qrb (n : Nat) : Spec := ⟨[0,0,1,0,1,1],(.seq (.seq (.reg []) (.cond .leaf .leaf)) (.seq (.blk (.reg [{ rd := [2] },{ rd := [2],an := 1 },{},{},{ an := 12 },{ an := 28 },{ an := 60 },{ rd := [2],an := 127 },{ rd := [2],wr := [2],an := 255 }])) (.reg []))),⟨[(1,(.val (.sl qU0))),(6,(.val (.int .i64)))],[(4,0,some (qU3,false)),(5,2,some (qU3,false))],[(0,true,qU3,(.pr .im (.pr (.ow .im) .im))),(2,true,qU3,(.pr .im (.pr (.ow .im) .im)))]⟩,[(.exit 0,⟨[],[(4,0,some (qU3,false)),(5,2,some (qU3,false))],[(0,true,qU3,(.pr .im (.pr (.ow .im) .im))),(2,true,qU3,(.pr .im (.pr (.ow .im) .im)))]⟩)],qc6 n⟩
noncomputable def qrc (n : Nat) : List Spec := [qrb n]
noncomputable def qrd : Code := Tryz.f57.body.getD .skip
theorem qre (n : Nat) : ∀ d,((codeAt qrd (qrb n).path).bind fun c => evC (qra n) (qrc n) n (qrb n).h c (qrb n).path ((qrb n).inp.mk_ 3 27 d) (finL (qrb n))) = (qrb n).body d := fun d => by kernel_rfl
theorem qrf (n : Nat) : ∀ d,evC (qra n) (qrc n) n (.seq (.reg [{ m := (.pr .im (.pr (.ow .im) .im)),sl := [0],fl := 1 }]) (.seq (.reg [{},{},{},{ sl := [1] },{},{ m := (.pr .im (.pr (.ow .im) .im)),sl := [2],fl := 1 }]) (.seq (.seq (.reg []) (.blk (.loop 0))) (.seq (.reg []) .leaf)))) qrd [] (ent 3 27 (qq9 n).as ((qq9 n).io ++ (qq9 n).own) d) (finR (qra n) (qq9 n).t (qq9 n).m (qq9 n).io [(4,some 95)]) = (qq9 n).M d := fun d => by kernel_rfl
theorem qrg (n : Nat) : (qq9 n).OK Tryz.prog :=
  wz2 (E := qra n) (L := qrc n) (n := n) (ns := 3) (nt := 27) (rs := [(4,some 95)]) (ttOK tysOK _ _ _) (envOK (all_cons (qqy n) (all_cons (qq8 n) wz0)) wz0) (fn := Tryz.f57) (body := qrd) (all_cons (qre n) wz0) (qrf n)
noncomputable def qrh (n : Nat) : FS := ⟨58,[(.val qU0),(.val qU0)],[],[],qU11,.im,fun d => qda n d.1 d.2.1⟩
noncomputable def qri (n : Nat) : Env := ⟨Tryz.prog,tys.tt,mkΓ [],0,mkGp []⟩
noncomputable def qrj (n : Nat) : Spec := ⟨[0,0,1,0,1,1],(.seq (.seq (.reg []) (.cond .leaf .leaf)) (.seq (.blk (.reg [])) (.reg []))),⟨[(0,(.val qU0)),(1,(.val qU0)),(6,(.val (.int .i64)))],[(5,0,none)],[(0,false,qU0,(.ow .im))]⟩,[(.exit 0,⟨[],[(5,0,none)],[(0,false,qU0,(.ow .im))]⟩)],qc9 n⟩
noncomputable def qrk (n : Nat) : List Spec := [qrj n]
noncomputable def qrl : Code := Tryz.f58.body.getD .skip
theorem qrm (n : Nat) : ∀ d,((codeAt qrl (qrj n).path).bind fun c => evC (qri n) (qrk n) n (qrj n).h c (qrj n).path ((qrj n).inp.mk_ 1 27 d) (finL (qrj n))) = (qrj n).body d := fun d => by kernel_rfl
theorem qrn (n : Nat) : ∀ d,evC (qri n) (qrk n) n (.seq (.reg []) (.seq (.reg [{},{},{ sl := [0] }]) (.seq (.seq (.reg []) (.blk (.loop 0))) (.seq (.reg []) .leaf)))) qrl [] (ent 1 27 (qrh n).as ((qrh n).io ++ (qrh n).own) d) (finR (qri n) (qrh n).t (qrh n).m (qrh n).io [(4,none)]) = (qrh n).M d := fun d => by kernel_rfl
theorem qro (n : Nat) : (qrh n).OK Tryz.prog :=
  wz2 (E := qri n) (L := qrk n) (n := n) (ns := 1) (nt := 27) (rs := [(4,none)]) (ttOK tysOK _ _ _) (envOK wz0 wz0) (fn := Tryz.f58) (body := qrl) (all_cons (qrm n) wz0) (qrn n)
noncomputable def qrp (n : Nat) : FS := ⟨112,[(.val (.int .i64)),(.val (.int .i64))],[],[],qU11,.im,fun d => qdd n d.1 d.2.1⟩
noncomputable def qrq (n : Nat) : Env := ⟨Tryz.prog,tys.tt,mkΓ [qpw n,qqs n],0,mkGp []⟩
noncomputable def qrr (n : Nat) : Spec := ⟨[0,0,1,0,1,1,1],(.seq (.seq (.reg []) (.cond .leaf .leaf)) (.seq (.blk (.seq (.reg []) (.seq (.reg []) (.seq (.reg []) (.seq (.reg [{},{},{},{},{},{ sl := [1] }]) (.reg [{ sl := [2],rd := [2],wr := [2] },{},{},{ fl := 4,an := 6 },{ rd := [2],wr := [2],an := 15 },{},{},{ an := 64 },{ fl := 4,an := 224 },{ rd := [2],wr := [2],an := 511 },{ an := 1023 }])))))) (.reg []))),⟨[(0,(.val (.int .i64))),(1,(.val (.int .i64))),(5,(.val qU0)),(7,(.val (.int .i64)))],[(6,0,none)],[(0,false,qU0,(.ow .im))]⟩,[(.exit 0,⟨[],[(6,0,none)],[(0,false,qU0,(.ow .im))]⟩)],qdc n⟩
noncomputable def qrs (n : Nat) : List Spec := [qrr n]
noncomputable def qrt : Code := Tryz.f112.body.getD .skip
theorem qru (n : Nat) : ∀ d,((codeAt qrt (qrr n).path).bind fun c => evC (qrq n) (qrs n) n (qrr n).h c (qrr n).path ((qrr n).inp.mk_ 3 46 d) (finL (qrr n))) = (qrr n).body d := fun d => by kernel_rfl
theorem qrv (n : Nat) : ∀ d,evC (qrq n) (qrs n) n (.seq (.reg []) (.seq (.reg []) (.seq (.reg [{ sl := [0] }]) (.seq (.seq (.reg []) (.blk (.loop 0))) (.seq (.reg []) .leaf))))) qrt [] (ent 3 46 (qrp n).as ((qrp n).io ++ (qrp n).own) d) (finR (qrq n) (qrp n).t (qrp n).m (qrp n).io [(4,none)]) = (qrp n).M d := fun d => by kernel_rfl
theorem qrw (n : Nat) : (qrp n).OK Tryz.prog :=
  wz2 (E := qrq n) (L := qrs n) (n := n) (ns := 3) (nt := 46) (rs := [(4,none)]) (ttOK tysOK _ _ _) (envOK (all_cons (qp3 n) (all_cons (qqy n) wz0)) wz0) (fn := Tryz.f112) (body := qrt) (all_cons (qru n) wz0) (qrv n)
noncomputable def qrx (n : Nat) : FS := ⟨60,[(.val qU3)],[],[],qU10,.im,fun d => qdg n d.1⟩
noncomputable def qry (n : Nat) : Env := ⟨Tryz.prog,tys.tt,mkΓ [qrp n],0,mkGp []⟩
noncomputable def qrz (n : Nat) : Spec := ⟨[0,0,1,0,1,1],(.seq (.seq (.reg []) (.cond .leaf .leaf)) (.seq (.join [(.norm,⟨[(1,(.iadr qU3)),(4,(.val (.int .i64)))],[(3,1,none)],[(1,false,(.sl qU0),(.ow .im))]⟩)] (.blk (.seq (.reg []) (.cond (.reg [{},{},{},{},{},{ sl := [2] }]) .leaf)))) (.reg []))),⟨[(1,(.iadr qU3)),(4,(.val (.int .i64)))],[(3,1,none)],[(1,false,(.sl qU0),(.ow .im))]⟩,[(.exit 0,⟨[],[(3,1,none)],[(1,false,(.sl qU0),(.ow .im))]⟩)],qdf n⟩
noncomputable def qr0 (n : Nat) : List Spec := [qrz n]
noncomputable def qr1 : Code := Tryz.f60.body.getD .skip
theorem qr2 (n : Nat) : ∀ d,((codeAt qr1 (qrz n).path).bind fun c => evC (qry n) (qr0 n) n (qrz n).h c (qrz n).path ((qrz n).inp.mk_ 3 25 d) (finL (qrz n))) = (qrz n).body d := fun d => by kernel_rfl
theorem qr3 (n : Nat) : ∀ d,evC (qry n) (qr0 n) n (.seq (.reg [{ sl := [0],fl := 1 }]) (.seq (.reg [{ sl := [1] }]) (.seq (.seq (.reg []) (.blk (.loop 0))) (.seq (.reg []) .leaf)))) qr1 [] (ent 3 25 (qrx n).as ((qrx n).io ++ (qrx n).own) d) (finR (qry n) (qrx n).t (qrx n).m (qrx n).io [(2,none)]) = (qrx n).M d := fun d => by kernel_rfl
theorem qr4 (n : Nat) : (qrx n).OK Tryz.prog :=
  wz2 (E := qry n) (L := qr0 n) (n := n) (ns := 3) (nt := 25) (rs := [(2,none)]) (ttOK tysOK _ _ _) (envOK (all_cons (qrw n) wz0) wz0) (fn := Tryz.f60) (body := qr1) (all_cons (qr2 n) wz0) (qr3 n)
noncomputable def qr5 (n : Nat) : FS := ⟨11,[(.val (.sl qU0))],[],[],qU10,.im,fun d => qdl n d.1⟩
noncomputable def qr6 (n : Nat) : Env := ⟨Tryz.prog,tys.tt,mkΓ [qq9 n,qpw n,qrh n,qqz n,qrx n],0,mkGp []⟩
noncomputable def qr7 (n : Nat) : Spec := ⟨[0,0,1,1,1,0,1,0,0,0,1,1,1,1,1],(.seq (.seq (.reg []) (.cond .leaf .leaf)) (.seq (.join [(.norm,⟨[(0,(.val (.sl qU0))),(6,(.val qU0)),(7,(.val (.int .i64)))],[(4,1,some (qU3,false)),(5,2,none)],[(1,true,qU3,(.pr .im (.pr (.ow .im) .im))),(2,false,(.sl qU0),(.ow .im))]⟩)] (.blk (.seq (.reg []) (.seq (.reg []) (.seq (.reg []) (.cond (.seq (.reg []) (.reg [{},{},{ sl := [3] }])) .leaf)))))) (.reg []))),⟨[(0,(.val (.sl qU0))),(6,(.val qU0)),(7,(.val (.int .i64)))],[(4,1,some (qU3,false)),(5,2,none)],[(1,true,qU3,(.pr .im (.pr (.ow .im) .im))),(2,false,(.sl qU0),(.ow .im))]⟩,[(.exit 2,⟨[(0,(.val (.sl qU0)))],[(4,1,some (qU3,false)),(5,2,none)],[(1,true,qU3,(.pr .im (.pr (.ow .im) .im))),(2,false,(.sl qU0),(.ow .im))]⟩)],qdi n⟩
noncomputable def qr8 (n : Nat) : Spec := ⟨[0,0,0,1,1,1,1,1],(.seq (.seq (.reg []) (.cond .leaf .leaf)) (.blk (.seq (.reg []) (.seq (.reg [{},{ fl := 5 }]) (.seq (.reg []) (.blk (.loop 0))))))),⟨[(0,(.val (.sl qU0)))],[(4,1,some (qU3,false)),(5,2,none)],[(1,true,qU3,(.pr .im (.pr (.ow .im) .im))),(2,false,(.sl qU0),(.ow .im))]⟩,[(.exit 0,⟨[],[(4,1,some (qU3,false))],[(1,true,qU3,(.pr .im (.pr (.ow .im) .im)))]⟩)],qdk n⟩
noncomputable def qr9 (n : Nat) : List Spec := [qr7 n,qr8 n]
noncomputable def qsa : Code := Tryz.f11.body.getD .skip
theorem qsb (n : Nat) : ∀ d,((codeAt qsa (qr7 n).path).bind fun c => evC (qr6 n) (qr9 n) n (qr7 n).h c (qr7 n).path ((qr7 n).inp.mk_ 4 60 d) (finL (qr7 n))) = (qr7 n).body d := fun d => by kernel_rfl
theorem qsc (n : Nat) : ∀ d,((codeAt qsa (qr8 n).path).bind fun c => evC (qr6 n) (qr9 n) n (qr8 n).h c (qr8 n).path ((qr8 n).inp.mk_ 4 60 d) (finL (qr8 n))) = (qr8 n).body d := fun d => by kernel_rfl
theorem qsd (n : Nat) : ∀ d,evC (qr6 n) (qr9 n) n (.seq (.reg []) (.seq (.reg []) (.seq (.reg [{},{ sl := [0] },{ m := (.pr .im (.pr (.ow .im) .im)),sl := [1],fl := 1 }]) (.seq (.reg [{},{},{ sl := [2] }]) (.seq (.reg []) (.seq (.blk (.loop 1)) (.seq (.reg []) .leaf))))))) qsa [] (ent 4 60 (qr5 n).as ((qr5 n).io ++ (qr5 n).own) d) (finR (qr6 n) (qr5 n).t (qr5 n).m (qr5 n).io [(2,none)]) = (qr5 n).M d := fun d => by kernel_rfl
theorem qse (n : Nat) : (qr5 n).OK Tryz.prog :=
  wz2 (E := qr6 n) (L := qr9 n) (n := n) (ns := 4) (nt := 60) (rs := [(2,none)]) (ttOK tysOK _ _ _) (envOK (all_cons (qrg n) (all_cons (qp3 n) (all_cons (qro n) (all_cons (qq8 n) (all_cons (qr4 n) wz0))))) wz0) (fn := Tryz.f11) (body := qsa) (all_cons (qsb n) (all_cons (qsc n) wz0)) (qsd n)
noncomputable def qsf (n : Nat) : FS := ⟨13,[(.val qU2)],[],[],(.pair qU2 .unit),.im,fun d => qdo n d.1⟩
noncomputable def qsg (n : Nat) : Env := ⟨Tryz.prog,tys.tt,mkΓ [],0,mkGp []⟩
noncomputable def qsh (n : Nat) : Spec := ⟨[0,0,1,0,1,1],(.seq (.seq (.reg []) (.cond .leaf .leaf)) (.seq (.blk (.seq (.reg [{},{},{},{},{},{ sl := [4],fl := 1 }]) (.reg [{ rd := [3] },{ rd := [3],an := 1 },{ rd := [4] },{ rd := [4],an := 4 },{ sl := [5],rd := [5],wr := [5] },{ rd := [4] },{ rd := [4],an := 32 },{ rd := [5],wr := [5],an := 112 },{ sl := [6],rd := [6],wr := [6] },{ rd := [4] },{ rd := [4],an := 512 },{ rd := [6],wr := [6],an := 2032 },{ rd := [5,6],an := 4092 },{ sl := [7],rd := [5,6,7],wr := [5,6,7],an := 8188 },{ rd := [3,7],wr := [3,7],an := 16383 },{ rd := [3],an := 32767 },{ rd := [3],wr := [3],an := 65535 }]))) (.reg []))),⟨[(1,(.iadr qU2)),(4,(.val (.int .i64)))],[(2,1,some (qU2,false)),(3,3,some (qU2,false))],[(1,true,qU2,.im),(3,true,qU2,(.pr .im (.pr .im (.pr (.ow .im) .im))))]⟩,[(.exit 0,⟨[],[(2,1,some (qU2,false)),(3,3,some (qU2,false))],[(1,true,qU2,.im),(3,true,qU2,(.pr .im (.pr .im (.pr (.ow .im) .im))))]⟩)],qdn n⟩
noncomputable def qsi (n : Nat) : List Spec := [qsh n]
noncomputable def qsj : Code := Tryz.f13.body.getD .skip
theorem qsk (n : Nat) : ∀ d,((codeAt qsj (qsh n).path).bind fun c => evC (qsg n) (qsi n) n (qsh n).h c (qsh n).path ((qsh n).inp.mk_ 8 44 d) (finL (qsh n))) = (qsh n).body d := fun d => by kernel_rfl
theorem qsl (n : Nat) : ∀ d,evC (qsg n) (qsi n) n (.seq (.reg [{ sl := [0],fl := 1 },{ sl := [1],fl := 1 }]) (.seq (.reg [{ rd := [0] },{ rd := [0],an := 1 },{ rd := [0] },{ rd := [0],an := 4 },{ sl := [2],rd := [2],wr := [2] },{ rd := [0] },{ rd := [0],an := 32 },{ rd := [2],wr := [2],an := 112 },{ rd := [2],an := 255 },{ m := (.pr .im (.pr .im (.pr (.ow .im) .im))),sl := [3],fl := 1,rd := [3],wr := [3] },{ rd := [2,3],wr := [2,3],an := 1023 }]) (.seq (.seq (.reg []) (.blk (.loop 0))) (.seq (.reg []) .leaf)))) qsj [] (ent 8 44 (qsf n).as ((qsf n).io ++ (qsf n).own) d) (finR (qsg n) (qsf n).t (qsf n).m (qsf n).io [(2,some 26)]) = (qsf n).M d := fun d => by kernel_rfl
theorem qsm (n : Nat) : (qsf n).OK Tryz.prog :=
  wz2 (E := qsg n) (L := qsi n) (n := n) (ns := 8) (nt := 44) (rs := [(2,some 26)]) (ttOK tysOK _ _ _) (envOK wz0 wz0) (fn := Tryz.f13) (body := qsj) (all_cons (qsk n) wz0) (qsl n)
noncomputable def qsn (n : Nat) : FS := ⟨114,[(.val qU0)],[],[],qU6,.im,fun d => qdr n d.1⟩
noncomputable def qso (n : Nat) : Env := ⟨Tryz.prog,tys.tt,mkΓ [],0,mkGp []⟩
noncomputable def qsp (n : Nat) : Spec := ⟨[0,0,1,0,1,1,1],(.seq (.reg []) (.seq (.cond .leaf .leaf) (.seq (.blk (.seq (.reg []) (.seq (.seq (.join [(.norm,⟨[(0,(.val qU0)),(5,(.val (.int .i64))),(14,(.val qU0)),(15,(.val (.int .i64))),(16,(.val (.int .i64))),(33,(.val .bool))],[(3,0,some (qU5,false))],[(0,true,qU5,.im)]⟩)] (.reg [{},{},{},{},{},{},{},{},{},{},{ fl := 4 }])) (.cond (.seq (.reg []) .leaf) .leaf)) (.reg [{},{ fl := 4 },{},{},{ fl := 4 }])))) (.reg [])))),⟨[(0,(.val qU0)),(14,(.val qU0)),(15,(.val (.int .i64))),(16,(.val (.int .i64)))],[(3,0,some (qU5,false))],[(0,true,qU5,.im)]⟩,[(.ret,⟨[(2,(.val .bool))],[],[]⟩),(.exit 0,⟨[],[],[]⟩)],qdq n⟩
noncomputable def qsq (n : Nat) : List Spec := [qsp n]
noncomputable def qsr : Code := Tryz.f114.body.getD .skip
theorem qss (n : Nat) : ∀ d,((codeAt qsr (qsp n).path).bind fun c => evC (qso n) (qsq n) n (qsp n).h c (qsp n).path ((qsp n).inp.mk_ 1 40 d) (finL (qsp n))) = (qsp n).body d := fun d => by kernel_rfl
theorem qst (n : Nat) : ∀ d,evC (qso n) (qsq n) n (.seq (.reg []) (.seq (.seq (.join [(.norm,⟨[(0,(.val qU0)),(13,(.val .bool))],[],[]⟩)] (.reg [])) (.cond (.seq (.reg []) .leaf) .leaf)) (.seq (.reg [{ sl := [0],fl := 1 }]) (.seq (.seq (.reg []) (.blk (.loop 0))) (.seq (.reg []) .leaf))))) qsr [] (ent 1 40 (qsn n).as ((qsn n).io ++ (qsn n).own) d) (finR (qso n) (qsn n).t (qsn n).m (qsn n).io [(2,none)]) = (qsn n).M d := fun d => by kernel_rfl
theorem qsu (n : Nat) : (qsn n).OK Tryz.prog :=
  wz2 (E := qso n) (L := qsq n) (n := n) (ns := 1) (nt := 40) (rs := [(2,none)]) (ttOK tysOK _ _ _) (envOK wz0 wz0) (fn := Tryz.f114) (body := qsr) (all_cons (qss n) wz0) (qst n)
noncomputable def qsv (n : Nat) : FS := ⟨113,[(.val qU0),(.iadr qU2)],[],[],qU6,.im,fun d => qds n d.1 d.2.1⟩
noncomputable def qsw (n : Nat) : Env := ⟨Tryz.prog,tys.tt,mkΓ [qsn n],0,mkGp []⟩
noncomputable def qsx (n : Nat) : List Spec := []
noncomputable def qsy : Code := Tryz.f113.body.getD .skip
theorem qsz (n : Nat) : ∀ d,evC (qsw n) (qsx n) n (.seq (.reg []) (.seq (.reg []) .leaf)) qsy [] (ent 0 13 (qsv n).as ((qsv n).io ++ (qsv n).own) d) (finR (qsw n) (qsv n).t (qsv n).m (qsv n).io [(3,none)]) = (qsv n).M d := fun d => by kernel_rfl
theorem qs0 (n : Nat) : (qsv n).OK Tryz.prog :=
  wz2 (E := qsw n) (L := qsx n) (n := n) (ns := 0) (nt := 13) (rs := [(3,none)]) (ttOK tysOK _ _ _) (envOK (all_cons (qsu n) wz0) wz0) (fn := Tryz.f113) (body := qsy) wz0 (qsz n)
noncomputable def qs1 (n : Nat) : FS := ⟨116,[(.val (.int .i64))],[],[],qU11,.im,fun d => qdv n d.1⟩
noncomputable def qs2 (n : Nat) : Env := ⟨Tryz.prog,tys.tt,mkΓ [],0,mkGp []⟩
noncomputable def qs3 (n : Nat) : Spec := ⟨[0,0,1,0,1,1],(.seq (.reg []) (.seq (.cond .leaf .leaf) (.seq (.blk (.seq (.reg []) (.reg []))) (.reg [])))),⟨[(8,(.val (.int .i64))),(9,(.val (.int .i64)))],[(3,0,none)],[(0,false,qU0,(.ow .im))]⟩,[(.exit 0,⟨[],[(3,0,none)],[(0,false,qU0,(.ow .im))]⟩)],qdu n⟩
noncomputable def qs4 (n : Nat) : List Spec := [qs3 n]
noncomputable def qs5 : Code := Tryz.f116.body.getD .skip
theorem qs6 (n : Nat) : ∀ d,((codeAt qs5 (qs3 n).path).bind fun c => evC (qs2 n) (qs4 n) n (qs3 n).h c (qs3 n).path ((qs3 n).inp.mk_ 1 18 d) (finL (qs3 n))) = (qs3 n).body d := fun d => by kernel_rfl
theorem qs7 (n : Nat) : ∀ d,evC (qs2 n) (qs4 n) n (.seq (.reg []) (.seq (.reg [{},{ sl := [0] }]) (.seq (.seq (.reg []) (.blk (.loop 0))) (.seq (.reg []) .leaf)))) qs5 [] (ent 1 18 (qs1 n).as ((qs1 n).io ++ (qs1 n).own) d) (finR (qs2 n) (qs1 n).t (qs1 n).m (qs1 n).io [(2,none)]) = (qs1 n).M d := fun d => by kernel_rfl
theorem qs8 (n : Nat) : (qs1 n).OK Tryz.prog :=
  wz2 (E := qs2 n) (L := qs4 n) (n := n) (ns := 1) (nt := 18) (rs := [(2,none)]) (ttOK tysOK _ _ _) (envOK wz0 wz0) (fn := Tryz.f116) (body := qs5) (all_cons (qs6 n) wz0) (qs7 n)
noncomputable def qs9 (n : Nat) : FS := ⟨115,[(.val qU0),(.val qU0)],[],[],qU6,.im,fun d => qdy n d.1 d.2.1⟩
noncomputable def qta (n : Nat) : Env := ⟨Tryz.prog,tys.tt,mkΓ [],0,mkGp []⟩
noncomputable def qtb (n : Nat) : Spec := ⟨[0,0,1,0,1,1],(.seq (.reg []) (.seq (.cond .leaf .leaf) (.seq (.blk (.seq (.reg []) (.seq (.reg [{},{},{ an := 3 },{ an := 7 },{},{},{ an := 48 },{ an := 112 },{ an := 255 }]) (.cond (.seq (.reg []) .leaf) .leaf)))) (.reg [])))),⟨[(0,(.val qU0)),(1,(.val qU0)),(12,(.val (.int .i64))),(13,(.val (.int .i64)))],[],[]⟩,[(.ret,⟨[(4,(.val .bool))],[],[]⟩),(.exit 0,⟨[],[],[]⟩)],qdx n⟩
noncomputable def qtc (n : Nat) : List Spec := [qtb n]
noncomputable def qtd : Code := Tryz.f115.body.getD .skip
theorem qte (n : Nat) : ∀ d,((codeAt qtd (qtb n).path).bind fun c => evC (qta n) (qtc n) n (qtb n).h c (qtb n).path ((qtb n).inp.mk_ 0 26 d) (finL (qtb n))) = (qtb n).body d := fun d => by kernel_rfl
theorem qtf (n : Nat) : ∀ d,evC (qta n) (qtc n) n (.seq (.reg []) (.seq (.seq (.reg []) (.cond (.seq (.reg []) .leaf) .leaf)) (.seq (.seq (.reg []) (.blk (.loop 0))) (.seq (.reg []) .leaf)))) qtd [] (ent 0 26 (qs9 n).as ((qs9 n).io ++ (qs9 n).own) d) (finR (qta n) (qs9 n).t (qs9 n).m (qs9 n).io [(4,none)]) = (qs9 n).M d := fun d => by kernel_rfl
theorem qtg (n : Nat) : (qs9 n).OK Tryz.prog :=
  wz2 (E := qta n) (L := qtc n) (n := n) (ns := 0) (nt := 26) (rs := [(4,none)]) (ttOK tysOK _ _ _) (envOK wz0 wz0) (fn := Tryz.f115) (body := qtd) (all_cons (qte n) wz0) (qtf n)
noncomputable def qth (n : Nat) : FS := ⟨118,[(.val qU7),(.iadr qU2),(.icl (.fn 113 (.tc (.iadr qU2) .tn)))],[],[],qU6,.im,fun d => qdz n d.1 d.2.1 d.2.2.1⟩
noncomputable def qti (n : Nat) : Env := ⟨Tryz.prog,tys.tt,mkΓ [qsv n],0,mkGp []⟩
noncomputable def qtj (n : Nat) : List Spec := []
noncomputable def qtk : Code := Tryz.f118.body.getD .skip
theorem qtl (n : Nat) : ∀ d,evC (qti n) (qtj n) n (.seq (.reg [{ sl := [0],fl := 1 }]) (.seq (.reg []) .leaf)) qtk [] (ent 1 29 (qth n).as ((qth n).io ++ (qth n).own) d) (finR (qti n) (qth n).t (qth n).m (qth n).io [(4,none)]) = (qth n).M d := fun d => by kernel_rfl
theorem qtm (n : Nat) : (qth n).OK Tryz.prog :=
  wz2 (E := qti n) (L := qtj n) (n := n) (ns := 1) (nt := 29) (rs := [(4,none)]) (ttOK tysOK _ _ _) (envOK (all_cons (qs0 n) wz0) wz0) (fn := Tryz.f118) (body := qtk) wz0 (qtl n)
noncomputable def qtn (n : Nat) : FS := ⟨148,[(.val (.sl qU7)),(.fn 118 (.tc (.iadr qU2) (.tc (.icl (.fn 113 (.tc (.iadr qU2) .tn))) .tn)))],[],[],qU4,.im,fun d => qd2 n d.1 d.2.1⟩
noncomputable def qto (n : Nat) : Env := ⟨Tryz.prog,tys.tt,mkΓ [qth n],0,mkGp []⟩
noncomputable def qtp (n : Nat) : Spec := ⟨[0,0,1,0,1],(.seq (.reg []) (.seq (.cond .leaf .leaf) (.seq (.blk (.seq (.reg []) (.seq (.reg []) (.cond (.seq (.reg []) .leaf) .leaf)))) (.reg [])))),⟨[(0,(.val (.sl qU7))),(1,(.fn 118 (.tc (.iadr qU2) (.tc (.icl (.fn 113 (.tc (.iadr qU2) .tn))) .tn)))),(7,(.val (.int .i64))),(8,(.val (.int .i64)))],[],[]⟩,[(.ret,⟨[(4,(.val (.int .i64)))],[],[]⟩),(.exit 0,⟨[],[],[]⟩)],qd1 n⟩
noncomputable def qtq (n : Nat) : List Spec := [qtp n]
noncomputable def qtr : Code := Tryz.f148.body.getD .skip
theorem qts (n : Nat) : ∀ d,((codeAt qtr (qtp n).path).bind fun c => evC (qto n) (qtq n) n (qtp n).h c (qtp n).path ((qtp n).inp.mk_ 0 19 d) (finL (qtp n))) = (qtp n).body d := fun d => by kernel_rfl
theorem qtt (n : Nat) : ∀ d,evC (qto n) (qtq n) n (.seq (.reg []) (.seq (.seq (.reg []) (.blk (.loop 0))) (.seq (.reg []) .leaf))) qtr [] (ent 0 19 (qtn n).as ((qtn n).io ++ (qtn n).own) d) (finR (qto n) (qtn n).t (qtn n).m (qtn n).io [(4,none)]) = (qtn n).M d := fun d => by kernel_rfl
theorem qtu (n : Nat) : (qtn n).OK Tryz.prog :=
  wz2 (E := qto n) (L := qtq n) (n := n) (ns := 0) (nt := 19) (rs := [(4,none)]) (ttOK tysOK _ _ _) (envOK (all_cons (qtm n) wz0) wz0) (fn := Tryz.f148) (body := qtr) (all_cons (qts n) wz0) (qtt n)
noncomputable def qtv (n : Nat) : FS := ⟨117,[(.val (.sl qU7)),(.fn 118 (.tc (.iadr qU2) (.tc (.icl (.fn 113 (.tc (.iadr qU2) .tn))) .tn)))],[],[],qU6,.im,fun d => qd3 n d.1 d.2.1⟩
noncomputable def qtw (n : Nat) : Env := ⟨Tryz.prog,tys.tt,mkΓ [qtn n],0,mkGp []⟩
noncomputable def qtx (n : Nat) : List Spec := []
noncomputable def qty : Code := Tryz.f117.body.getD .skip
theorem qtz (n : Nat) : ∀ d,evC (qtw n) (qtx n) n (.seq (.reg []) (.seq (.reg []) .leaf)) qty [] (ent 0 9 (qtv n).as ((qtv n).io ++ (qtv n).own) d) (finR (qtw n) (qtv n).t (qtv n).m (qtv n).io [(4,none)]) = (qtv n).M d := fun d => by kernel_rfl
theorem qt0 (n : Nat) : (qtv n).OK Tryz.prog :=
  wz2 (E := qtw n) (L := qtx n) (n := n) (ns := 0) (nt := 9) (rs := [(4,none)]) (ttOK tysOK _ _ _) (envOK (all_cons (qtu n) wz0) wz0) (fn := Tryz.f117) (body := qty) wz0 (qtz n)
noncomputable def qt1 (n : Nat) : FS := ⟨61,[(.val qU2)],[],[],qU6,.im,fun d => qd4 n d.1⟩
noncomputable def qt2 (n : Nat) : Env := ⟨Tryz.prog,tys.tt,mkΓ [qsv n,qs1 n,qs9 n,qtv n],0,mkGp []⟩
noncomputable def qt3 (n : Nat) : List Spec := []
noncomputable def qt4 : Code := Tryz.f61.body.getD .skip
theorem qt5 (n : Nat) : ∀ d,evC (qt2 n) (qt3 n) n (.seq (.reg [{ sl := [0],fl := 1 }]) (.seq (.seq (.join [(.norm,⟨[(1,(.iadr qU2)),(27,(.val .bool))],[],[]⟩)] (.reg [])) (.cond (.seq (.reg []) .leaf) .leaf)) (.seq (.reg [{},{ fl := 3 }]) (.seq (.seq (.join [(.norm,⟨[(1,(.iadr qU2)),(3,(.icl (.fn 113 (.tc (.iadr qU2) .tn)))),(41,(.val .bool))],[],[]⟩)] (.reg [{},{},{ an := 2 },{ an := 7 },{ an := 15 },{ an := 31 },{ an := 63 },{ an := 127 },{ an := 63 },{ an := 319 },{ an := 831 },{ an := 2047 },{ an := 4095 }])) (.cond (.seq (.reg []) .leaf) .leaf)) (.seq (.reg []) .leaf))))) qt4 [] (ent 1 47 (qt1 n).as ((qt1 n).io ++ (qt1 n).own) d) (finR (qt2 n) (qt1 n).t (qt1 n).m (qt1 n).io [(2,none)]) = (qt1 n).M d := fun d => by kernel_rfl
theorem qt6 (n : Nat) : (qt1 n).OK Tryz.prog :=
  wz2 (E := qt2 n) (L := qt3 n) (n := n) (ns := 1) (nt := 47) (rs := [(2,none)]) (ttOK tysOK _ _ _) (envOK (all_cons (qs0 n) (all_cons (qs8 n) (all_cons (qtg n) (all_cons (qt0 n) wz0)))) wz0) (fn := Tryz.f61) (body := qt4) wz0 (qt5 n)
noncomputable def qt7 (n : Nat) : FS := ⟨159,[(.val qU0),(.iadr (.sl qU0))],[],[],qU6,.im,fun d => qd5 n d.1 d.2.1⟩
noncomputable def qt8 (n : Nat) : Env := ⟨Tryz.prog,tys.tt,mkΓ [qsn n],0,mkGp []⟩
noncomputable def qt9 (n : Nat) : List Spec := []
noncomputable def qua : Code := Tryz.f159.body.getD .skip
theorem qub (n : Nat) : ∀ d,evC (qt8 n) (qt9 n) n (.seq (.reg []) (.seq (.reg []) .leaf)) qua [] (ent 0 16 (qt7 n).as ((qt7 n).io ++ (qt7 n).own) d) (finR (qt8 n) (qt7 n).t (qt7 n).m (qt7 n).io [(3,none)]) = (qt7 n).M d := fun d => by kernel_rfl
theorem quc (n : Nat) : (qt7 n).OK Tryz.prog :=
  wz2 (E := qt8 n) (L := qt9 n) (n := n) (ns := 0) (nt := 16) (rs := [(3,none)]) (ttOK tysOK _ _ _) (envOK (all_cons (qsu n) wz0) wz0) (fn := Tryz.f159) (body := qua) wz0 (qub n)
noncomputable def qud (n : Nat) : FS := ⟨173,[(.val (.sl qU0)),(.fn 159 (.tc (.iadr (.sl qU0)) .tn))],[],[],qU4,.im,fun d => qd8 n d.1 d.2.1⟩
noncomputable def que (n : Nat) : Env := ⟨Tryz.prog,tys.tt,mkΓ [qt7 n],0,mkGp []⟩
noncomputable def quf (n : Nat) : Spec := ⟨[0,0,1,0,1],(.seq (.reg []) (.seq (.cond .leaf .leaf) (.seq (.blk (.seq (.reg []) (.seq (.reg []) (.cond (.seq (.reg []) .leaf) .leaf)))) (.reg [])))),⟨[(0,(.val (.sl qU0))),(1,(.fn 159 (.tc (.iadr (.sl qU0)) .tn))),(7,(.val (.int .i64))),(8,(.val (.int .i64)))],[],[]⟩,[(.ret,⟨[(4,(.val (.int .i64)))],[],[]⟩),(.exit 0,⟨[],[],[]⟩)],qd7 n⟩
noncomputable def qug (n : Nat) : List Spec := [quf n]
noncomputable def quh : Code := Tryz.f173.body.getD .skip
theorem qui (n : Nat) : ∀ d,((codeAt quh (quf n).path).bind fun c => evC (que n) (qug n) n (quf n).h c (quf n).path ((quf n).inp.mk_ 0 19 d) (finL (quf n))) = (quf n).body d := fun d => by kernel_rfl
theorem quj (n : Nat) : ∀ d,evC (que n) (qug n) n (.seq (.reg []) (.seq (.seq (.reg []) (.blk (.loop 0))) (.seq (.reg []) .leaf))) quh [] (ent 0 19 (qud n).as ((qud n).io ++ (qud n).own) d) (finR (que n) (qud n).t (qud n).m (qud n).io [(4,none)]) = (qud n).M d := fun d => by kernel_rfl
theorem quk (n : Nat) : (qud n).OK Tryz.prog :=
  wz2 (E := que n) (L := qug n) (n := n) (ns := 0) (nt := 19) (rs := [(4,none)]) (ttOK tysOK _ _ _) (envOK (all_cons (quc n) wz0) wz0) (fn := Tryz.f173) (body := quh) (all_cons (qui n) wz0) (quj n)
noncomputable def qul (n : Nat) : FS := ⟨158,[(.val (.sl qU0)),(.fn 159 (.tc (.iadr (.sl qU0)) .tn))],[],[],qU6,.im,fun d => qd9 n d.1 d.2.1⟩
noncomputable def qum (n : Nat) : Env := ⟨Tryz.prog,tys.tt,mkΓ [qud n],0,mkGp []⟩
noncomputable def qun (n : Nat) : List Spec := []
noncomputable def qup : Code := Tryz.f158.body.getD .skip
theorem quq (n : Nat) : ∀ d,evC (qum n) (qun n) n (.seq (.reg []) (.seq (.reg []) .leaf)) qup [] (ent 0 9 (qul n).as ((qul n).io ++ (qul n).own) d) (finR (qum n) (qul n).t (qul n).m (qul n).io [(4,none)]) = (qul n).M d := fun d => by kernel_rfl
theorem qur (n : Nat) : (qul n).OK Tryz.prog :=
  wz2 (E := qum n) (L := qun n) (n := n) (ns := 0) (nt := 9) (rs := [(4,none)]) (ttOK tysOK _ _ _) (envOK (all_cons (quk n) wz0) wz0) (fn := Tryz.f158) (body := qup) wz0 (quq n)
noncomputable def qus (n : Nat) : FS := ⟨140,[(.val (.sl qU0))],[],[],qU6,.im,fun d => qea n d.1⟩
noncomputable def qut (n : Nat) : Env := ⟨Tryz.prog,tys.tt,mkΓ [qul n],0,mkGp []⟩
noncomputable def quu (n : Nat) : List Spec := []
noncomputable def quv : Code := Tryz.f140.body.getD .skip
theorem quw (n : Nat) : ∀ d,evC (qut n) (quu n) n (.seq (.reg [{ sl := [0],fl := 1 }]) (.seq (.reg []) .leaf)) quv [] (ent 1 17 (qus n).as ((qus n).io ++ (qus n).own) d) (finR (qut n) (qus n).t (qus n).m (qus n).io [(2,none)]) = (qus n).M d := fun d => by kernel_rfl
theorem qux (n : Nat) : (qus n).OK Tryz.prog :=
  wz2 (E := qut n) (L := quu n) (n := n) (ns := 1) (nt := 17) (rs := [(2,none)]) (ttOK tysOK _ _ _) (envOK (all_cons (qur n) wz0) wz0) (fn := Tryz.f140) (body := quv) wz0 (quw n)
noncomputable def quy (n : Nat) : FS := ⟨195,[(.val (.int .i64))],[],[],qU11,.im,fun d => qed n d.1⟩
noncomputable def quz (n : Nat) : Env := ⟨Tryz.prog,tys.tt,mkΓ [],0,mkGp []⟩
noncomputable def qu0 (n : Nat) : Spec := ⟨[0,0,1,0,1,1],(.seq (.reg []) (.seq (.cond .leaf .leaf) (.seq (.blk (.seq (.reg []) (.reg []))) (.reg [])))),⟨[(8,(.val (.int .i64))),(9,(.val (.int .i64)))],[(3,0,none)],[(0,false,qU0,(.ow .im))]⟩,[(.exit 0,⟨[],[(3,0,none)],[(0,false,qU0,(.ow .im))]⟩)],qec n⟩
noncomputable def qu1 (n : Nat) : List Spec := [qu0 n]
noncomputable def qu2 : Code := Tryz.f195.body.getD .skip
theorem qu3 (n : Nat) : ∀ d,((codeAt qu2 (qu0 n).path).bind fun c => evC (quz n) (qu1 n) n (qu0 n).h c (qu0 n).path ((qu0 n).inp.mk_ 1 18 d) (finL (qu0 n))) = (qu0 n).body d := fun d => by kernel_rfl
theorem qu4 (n : Nat) : ∀ d,evC (quz n) (qu1 n) n (.seq (.reg []) (.seq (.reg [{},{ sl := [0] }]) (.seq (.seq (.reg []) (.blk (.loop 0))) (.seq (.reg []) .leaf)))) qu2 [] (ent 1 18 (quy n).as ((quy n).io ++ (quy n).own) d) (finR (quz n) (quy n).t (quy n).m (quy n).io [(2,none)]) = (quy n).M d := fun d => by kernel_rfl
theorem qu5 (n : Nat) : (quy n).OK Tryz.prog :=
  wz2 (E := quz n) (L := qu1 n) (n := n) (ns := 1) (nt := 18) (rs := [(2,none)]) (ttOK tysOK _ _ _) (envOK wz0 wz0) (fn := Tryz.f195) (body := qu2) (all_cons (qu3 n) wz0) (qu4 n)
noncomputable def qu6 (n : Nat) : FS := ⟨176,[(.val (.int .i64))],[],[],(.pair qU0 qU4),.im,fun d => qee n d.1⟩
noncomputable def qu7 (n : Nat) : Env := ⟨Tryz.prog,tys.tt,mkΓ [quy n],0,mkGp []⟩
noncomputable def qu8 (n : Nat) : List Spec := []
noncomputable def qu9 : Code := Tryz.f176.body.getD .skip
theorem qva (n : Nat) : ∀ d,evC (qu7 n) (qu8 n) n (.seq (.reg []) (.seq (.seq (.join [(.norm,⟨[(0,(.val (.int .i64))),(9,(.val .bool))],[],[]⟩)] (.reg [])) (.cond (.seq (.reg []) .leaf) .leaf)) (.seq (.reg []) .leaf))) qu9 [] (ent 0 12 (qu6 n).as ((qu6 n).io ++ (qu6 n).own) d) (finR (qu7 n) (qu6 n).t (qu6 n).m (qu6 n).io [(2,none),(3,none)]) = (qu6 n).M d := fun d => by kernel_rfl
theorem qvb (n : Nat) : (qu6 n).OK Tryz.prog :=
  wz2 (E := qu7 n) (L := qu8 n) (n := n) (ns := 0) (nt := 12) (rs := [(2,none),(3,none)]) (ttOK tysOK _ _ _) (envOK (all_cons (qu5 n) wz0) wz0) (fn := Tryz.f176) (body := qu9) wz0 (qva n)
noncomputable def qvc (n : Nat) : FS := ⟨179,[(.val qU0)],[],[],(.pair qU5 .unit),.im,fun d => qej n d.1⟩
noncomputable def qvd (n : Nat) : Env := ⟨Tryz.prog,tys.tt,mkΓ [],0,mkGp []⟩
noncomputable def qve (n : Nat) : Spec := ⟨[0,0,1,0,1,1],(.seq (.reg []) (.seq (.cond .leaf .leaf) (.seq (.blk (.seq (.reg []) (.reg [{},{ fl := 4 }]))) (.reg [])))),⟨[(0,(.val qU0)),(7,(.val (.int .i64)))],[(2,0,some (qU5,false)),(3,1,some (qU5,false))],[(0,true,qU5,.im),(1,true,qU5,.im)]⟩,[(.exit 0,⟨[(0,(.val qU0))],[(2,0,some (qU5,false)),(3,1,some (qU5,false))],[(0,true,qU5,.im),(1,true,qU5,.im)]⟩)],qei n⟩
noncomputable def qvf (n : Nat) : Spec := ⟨[0,0,1,0,1,1,1],(.seq (.reg []) (.seq (.cond .leaf .leaf) (.seq (.blk (.seq (.reg []) (.reg [{},{},{},{ fl := 4 }]))) (.reg [])))),⟨[(13,(.val qU0)),(14,(.val (.int .i64))),(15,(.val (.int .i64)))],[(2,0,some (qU5,false)),(3,1,some (qU5,false))],[(0,true,qU5,.im),(1,true,qU5,.im)]⟩,[(.exit 2,⟨[],[(2,0,some (qU5,false)),(3,1,some (qU5,false))],[(0,true,qU5,.im),(1,true,qU5,.im)]⟩)],qeg n⟩
noncomputable def qvg (n : Nat) : List Spec := [qve n,qvf n]
noncomputable def qvh : Code := Tryz.f179.body.getD .skip
theorem qvi (n : Nat) : ∀ d,((codeAt qvh (qve n).path).bind fun c => evC (qvd n) (qvg n) n (qve n).h c (qve n).path ((qve n).inp.mk_ 2 26 d) (finL (qve n))) = (qve n).body d := fun d => by kernel_rfl
theorem qvj (n : Nat) : ∀ d,((codeAt qvh (qvf n).path).bind fun c => evC (qvd n) (qvg n) n (qvf n).h c (qvf n).path ((qvf n).inp.mk_ 2 26 d) (finL (qvf n))) = (qvf n).body d := fun d => by kernel_rfl
theorem qvk (n : Nat) : ∀ d,evC (qvd n) (qvg n) n (.seq (.reg [{ sl := [0],fl := 1 }]) (.seq (.reg [{ sl := [1],fl := 1 }]) (.seq (.seq (.reg []) (.blk (.loop 0))) (.seq (.seq (.reg []) (.blk (.loop 1))) (.seq (.reg []) .leaf))))) qvh [] (ent 2 26 (qvc n).as ((qvc n).io ++ (qvc n).own) d) (finR (qvd n) (qvc n).t (qvc n).m (qvc n).io [(2,some 212)]) = (qvc n).M d := fun d => by kernel_rfl
theorem qvl (n : Nat) : (qvc n).OK Tryz.prog :=
  wz2 (E := qvd n) (L := qvg n) (n := n) (ns := 2) (nt := 26) (rs := [(2,some 212)]) (ttOK tysOK _ _ _) (envOK wz0 wz0) (fn := Tryz.f179) (body := qvh) (all_cons (qvi n) (all_cons (qvj n) wz0)) (qvk n)
noncomputable def qvm (n : Nat) : FS := ⟨177,[(.val (.sl qU0))],[],[],(.pair qU9 .unit),(.pr (.ow .im) .im),fun d => qem n d.1⟩
noncomputable def qvn (n : Nat) : Env := ⟨Tryz.prog,tys.tt,mkΓ [qvc n],0,mkGp []⟩
noncomputable def qvo (n : Nat) : Spec := ⟨[0,0,1,0,1,1],(.seq (.reg []) (.seq (.cond .leaf .leaf) (.seq (.blk (.seq (.reg []) (.reg [{},{},{},{ fl := 4 }]))) (.reg [])))),⟨[(7,(.val (.sl qU0))),(8,(.val (.int .i64))),(9,(.val (.int .i64)))],[(3,0,none)],[(0,false,qU9,(.ow .im))]⟩,[(.exit 0,⟨[],[(3,0,none)],[(0,false,qU9,(.ow .im))]⟩)],qel n⟩
noncomputable def qvp (n : Nat) : List Spec := [qvo n]
noncomputable def qvq : Code := Tryz.f177.body.getD .skip
theorem qvr (n : Nat) : ∀ d,((codeAt qvq (qvo n).path).bind fun c => evC (qvn n) (qvp n) n (qvo n).h c (qvo n).path ((qvo n).inp.mk_ 1 18 d) (finL (qvo n))) = (qvo n).body d := fun d => by kernel_rfl
theorem qvs (n : Nat) : ∀ d,evC (qvn n) (qvp n) n (.seq (.reg []) (.seq (.reg [{ sl := [0],fl := 4 }]) (.seq (.seq (.reg []) (.blk (.loop 0))) (.seq (.reg []) .leaf)))) qvq [] (ent 1 18 (qvm n).as ((qvm n).io ++ (qvm n).own) d) (finR (qvn n) (qvm n).t (qvm n).m (qvm n).io [(2,none)]) = (qvm n).M d := fun d => by kernel_rfl
theorem qvt (n : Nat) : (qvm n).OK Tryz.prog :=
  wz2 (E := qvn n) (L := qvp n) (n := n) (ns := 1) (nt := 18) (rs := [(2,none)]) (ttOK tysOK _ _ _) (envOK (all_cons (qvl n) wz0) wz0) (fn := Tryz.f177) (body := qvq) (all_cons (qvr n) wz0) (qvs n)
noncomputable def qvu (n : Nat) : FS := ⟨180,[(.val qU0),(.val qU0)],[],[],qU11,.im,fun d => qep n d.1 d.2.1⟩
noncomputable def qvv (n : Nat) : Env := ⟨Tryz.prog,tys.tt,mkΓ [],0,mkGp []⟩
noncomputable def qvw (n : Nat) : Spec := ⟨[0,0,1,0,1,1],(.seq (.reg []) (.seq (.cond .leaf .leaf) (.seq (.blk (.seq (.reg []) (.reg []))) (.reg [])))),⟨[(1,(.val qU0)),(11,(.val qU0)),(12,(.val (.int .i64))),(13,(.val (.int .i64)))],[(5,0,none)],[(0,false,qU0,(.ow .im))]⟩,[(.exit 0,⟨[],[(5,0,none)],[(0,false,qU0,(.ow .im))]⟩)],qeo n⟩
noncomputable def qvx (n : Nat) : List Spec := [qvw n]
noncomputable def qvy : Code := Tryz.f180.body.getD .skip
theorem qvz (n : Nat) : ∀ d,((codeAt qvy (qvw n).path).bind fun c => evC (qvv n) (qvx n) n (qvw n).h c (qvw n).path ((qvw n).inp.mk_ 1 27 d) (finL (qvw n))) = (qvw n).body d := fun d => by kernel_rfl
theorem qv0 (n : Nat) : ∀ d,evC (qvv n) (qvx n) n (.seq (.reg []) (.seq (.reg [{},{},{ sl := [0] }]) (.seq (.seq (.reg []) (.blk (.loop 0))) (.seq (.reg []) .leaf)))) qvy [] (ent 1 27 (qvu n).as ((qvu n).io ++ (qvu n).own) d) (finR (qvv n) (qvu n).t (qvu n).m (qvu n).io [(4,none)]) = (qvu n).M d := fun d => by kernel_rfl
theorem qv1 (n : Nat) : (qvu n).OK Tryz.prog :=
  wz2 (E := qvv n) (L := qvx n) (n := n) (ns := 1) (nt := 27) (rs := [(4,none)]) (ttOK tysOK _ _ _) (envOK wz0 wz0) (fn := Tryz.f180) (body := qvy) (all_cons (qvz n) wz0) (qv0 n)
noncomputable def qv2 (n : Nat) : FS := ⟨178,[(.val qU0),(.ptr 0 qU9),(.ptr 1 (.sl qU0)),(.ptr 2 (.sl qU0))],[(true,qU9,(.ow .im)),(true,(.sl qU0),(.ow .im)),(true,(.sl qU0),(.ow .im))],[],.unit,.im,fun d => qeu n d.1 d.2.2.2.2.1 d.2.2.2.2.2.1 d.2.2.2.2.2.2.1⟩
noncomputable def qv3 (n : Nat) : Env := ⟨Tryz.prog,tys.tt,mkΓ [qvc n,qvu n],3,mkGp []⟩
noncomputable def qv4 (n : Nat) : Spec := ⟨[0,0,1,0,0,1,0,0,1,1,1],(.seq (.reg []) (.seq (.cond .leaf .leaf) (.seq (.join [(.norm,⟨[(5,(.val (.int .i64))),(25,(.val (.int .i64))),(26,(.val (.int .i64)))],[(1,0,some (qU9,false)),(2,1,some ((.sl qU0),false)),(3,2,some ((.sl qU0),false)),(24,1,some ((.sl qU0),true))],[(0,true,qU9,(.ow .im)),(1,true,(.sl qU0),(.ow .im)),(2,true,(.sl qU0),(.ow .im))]⟩)] (.blk (.seq (.reg []) (.seq (.reg []) (.seq (.reg [{},{},{ sl := [4],fl := 1 }]) (.seq (.reg [{},{},{ fl := 5 }]) (.cond (.seq (.reg [{},{},{ fl := 5 }]) (.reg [{},{},{ sl := [5] }])) .leaf))))))) (.reg [])))),⟨[(5,(.val (.int .i64))),(25,(.val (.int .i64))),(26,(.val (.int .i64)))],[(1,0,some (qU9,false)),(2,1,some ((.sl qU0),false)),(3,2,some ((.sl qU0),false)),(24,1,some ((.sl qU0),true))],[(0,true,qU9,(.ow .im)),(1,true,(.sl qU0),(.ow .im)),(2,true,(.sl qU0),(.ow .im))]⟩,[(.exit 2,⟨[(5,(.val (.int .i64)))],[(1,0,some (qU9,false)),(2,1,some ((.sl qU0),false)),(3,2,some ((.sl qU0),false))],[(0,true,qU9,(.ow .im)),(1,true,(.sl qU0),(.ow .im)),(2,true,(.sl qU0),(.ow .im))]⟩)],qer n⟩
noncomputable def qv5 (n : Nat) : Spec := ⟨[0,0,1,1,1],(.seq (.seq (.reg []) (.cond .leaf .leaf)) (.seq (.blk (.seq (.reg []) (.blk (.loop 0)))) (.reg []))),⟨[(5,(.val (.int .i64)))],[(1,0,some (qU9,false)),(2,1,some ((.sl qU0),false)),(3,2,some ((.sl qU0),false))],[(0,true,qU9,(.ow .im)),(1,true,(.sl qU0),(.ow .im)),(2,true,(.sl qU0),(.ow .im))]⟩,[(.exit 0,⟨[],[],[(0,true,qU9,(.ow .im)),(1,true,(.sl qU0),(.ow .im)),(2,true,(.sl qU0),(.ow .im))]⟩)],qet n⟩
noncomputable def qv6 (n : Nat) : List Spec := [qv4 n,qv5 n]
noncomputable def qv7 : Code := Tryz.f178.body.getD .skip
theorem qv8 (n : Nat) : ∀ d,((codeAt qv7 (qv4 n).path).bind fun c => evC (qv3 n) (qv6 n) n (qv4 n).h c (qv4 n).path ((qv4 n).inp.mk_ 6 49 d) (finL (qv4 n))) = (qv4 n).body d := fun d => by kernel_rfl
theorem qv9 (n : Nat) : ∀ d,((codeAt qv7 (qv5 n).path).bind fun c => evC (qv3 n) (qv6 n) n (qv5 n).h c (qv5 n).path ((qv5 n).inp.mk_ 6 49 d) (finL (qv5 n))) = (qv5 n).body d := fun d => by kernel_rfl
theorem qwa (n : Nat) : ∀ d,evC (qv3 n) (qv6 n) n (.seq (.seq (.reg [{ rd := [0] },{},{ an := 2 },{ fl := 5,rd := [0],an := 7 }]) (.cond .leaf .leaf)) (.seq (.reg [{},{},{ sl := [3] }]) (.seq (.reg []) (.blk (.loop 1))))) qv7 [] (ent 6 49 (qv2 n).as ((qv2 n).io ++ (qv2 n).own) d) (finR (qv3 n) (qv2 n).t (qv2 n).m (qv2 n).io []) = (qv2 n).M d := fun d => by kernel_rfl
theorem qwb (n : Nat) : (qv2 n).OK Tryz.prog :=
  wz2 (E := qv3 n) (L := qv6 n) (n := n) (ns := 6) (nt := 49) (rs := []) (ttOK tysOK _ _ _) (envOK (all_cons (qvl n) (all_cons (qv1 n) wz0)) wz0) (fn := Tryz.f178) (body := qv7) (all_cons (qv8 n) (all_cons (qv9 n) wz0)) (qwa n)
noncomputable def qwc (n : Nat) : FS := ⟨163,[(.fn 178 (.tc (.ptr 0 qU9) (.tc (.ptr 1 (.sl qU0)) (.tc (.ptr 2 (.sl qU0)) .tn)))),(.iadr (.sl qU0))],[(true,qU9,(.ow .im)),(true,(.sl qU0),(.ow .im)),(true,(.sl qU0),(.ow .im))],[],.unit,.im,fun d => qex n d.2.1 d.2.2.1 d.2.2.2.1 d.2.2.2.2.1⟩
noncomputable def qwd (n : Nat) : Env := ⟨Tryz.prog,tys.tt,mkΓ [qv2 n],3,mkGp []⟩
noncomputable def qwe (n : Nat) : Spec := ⟨[0,0,1],(.seq (.reg []) (.seq (.cond .leaf .leaf) (.seq (.blk (.seq (.reg []) (.reg [{},{},{ mu := [0,1,2] }]))) (.reg [])))),⟨[(0,(.fn 178 (.tc (.ptr 0 qU9) (.tc (.ptr 1 (.sl qU0)) (.tc (.ptr 2 (.sl qU0)) .tn))))),(5,(.val (.sl qU0))),(6,(.val (.int .i64))),(7,(.val (.int .i64)))],[],[(0,true,qU9,(.ow .im)),(1,true,(.sl qU0),(.ow .im)),(2,true,(.sl qU0),(.ow .im))]⟩,[(.exit 0,⟨[],[],[(0,true,qU9,(.ow .im)),(1,true,(.sl qU0),(.ow .im)),(2,true,(.sl qU0),(.ow .im))]⟩)],qew n⟩
noncomputable def qwf (n : Nat) : List Spec := [qwe n]
noncomputable def qwg : Code := Tryz.f163.body.getD .skip
theorem qwh (n : Nat) : ∀ d,((codeAt qwg (qwe n).path).bind fun c => evC (qwd n) (qwf n) n (qwe n).h c (qwe n).path ((qwe n).inp.mk_ 3 15 d) (finL (qwe n))) = (qwe n).body d := fun d => by kernel_rfl
theorem qwi (n : Nat) : ∀ d,evC (qwd n) (qwf n) n (.seq (.reg []) (.blk (.loop 0))) qwg [] (ent 3 15 (qwc n).as ((qwc n).io ++ (qwc n).own) d) (finR (qwd n) (qwc n).t (qwc n).m (qwc n).io []) = (qwc n).M d := fun d => by kernel_rfl
theorem qwj (n : Nat) : (qwc n).OK Tryz.prog :=
  wz2 (E := qwd n) (L := qwf n) (n := n) (ns := 3) (nt := 15) (rs := []) (ttOK tysOK _ _ _) (envOK (all_cons (qwb n) wz0) wz0) (fn := Tryz.f163) (body := qwg) (all_cons (qwh n) wz0) (qwi n)
noncomputable def qwk (n : Nat) : FS := ⟨162,[(.val (.int .i64)),(.fn 163 (.tc (.iadr (.sl qU0)) .tn))],[],[],qU10,(.pr (.ow .im) .im),fun d => qey n d.1 d.2.1⟩
noncomputable def qwl (n : Nat) : Env := ⟨Tryz.prog,tys.tt,mkΓ [qu6 n,qvm n,qwc n],0,mkGp []⟩
noncomputable def qwm (n : Nat) : List Spec := []
noncomputable def qwn : Code := Tryz.f162.body.getD .skip
theorem qwo (n : Nat) : ∀ d,evC (qwl n) (qwm n) n (.seq (.reg [{ sl := [0] }]) (.seq (.reg []) (.seq (.reg [{},{ sl := [1] },{},{ sl := [2] },{ sl := [3] },{ m := (.ow .im),sl := [4],fl := 1 },{ m := (.ow .im),sl := [5],fl := 1 }]) (.seq (.reg [{ m := (.ow .im),sl := [6],fl := 1 }]) (.seq (.reg [{},{},{ mu := [5,6,4] }]) (.seq (.reg []) .leaf)))))) qwn [] (ent 7 24 (qwk n).as ((qwk n).io ++ (qwk n).own) d) (finR (qwl n) (qwk n).t (qwk n).m (qwk n).io [(4,none)]) = (qwk n).M d := fun d => by kernel_rfl
theorem qwp (n : Nat) : (qwk n).OK Tryz.prog :=
  wz2 (E := qwl n) (L := qwm n) (n := n) (ns := 7) (nt := 24) (rs := [(4,none)]) (ttOK tysOK _ _ _) (envOK (all_cons (qvb n) (all_cons (qvt n) (all_cons (qwj n) wz0))) wz0) (fn := Tryz.f162) (body := qwn) wz0 (qwo n)
noncomputable def qwq (n : Nat) : FS := ⟨193,[(.val (.int .u64))],[],[],qU4,.im,fun d => qez n d.1⟩
noncomputable def qwr (n : Nat) : Env := ⟨Tryz.prog,tys.tt,mkΓ [],0,mkGp []⟩
noncomputable def qws (n : Nat) : List Spec := []
noncomputable def qwt : Code := Tryz.f193.body.getD .skip
theorem qwu (n : Nat) : ∀ d,evC (qwr n) (qws n) n (.seq (.reg []) (.seq (.join [(.norm,⟨[(0,(.val (.int .u64))),(2,(.val (.int .i64)))],[],[]⟩)] (.seq (.reg []) (.cond (.seq (.reg []) (.reg [])) .leaf))) (.seq (.join [(.norm,⟨[(0,(.val (.int .u64))),(2,(.val (.int .i64)))],[],[]⟩)] (.seq (.reg []) (.cond (.seq (.reg []) (.reg [])) .leaf))) (.seq (.join [(.norm,⟨[(0,(.val (.int .u64))),(2,(.val (.int .i64)))],[],[]⟩)] (.seq (.reg []) (.cond (.seq (.reg []) (.reg [])) .leaf))) (.seq (.reg [{},{},{},{ fl := 4 }]) .leaf))))) qwt [] (ent 0 25 (qwq n).as ((qwq n).io ++ (qwq n).own) d) (finR (qwr n) (qwq n).t (qwq n).m (qwq n).io [(2,none)]) = (qwq n).M d := fun d => by kernel_rfl
theorem qwv (n : Nat) : (qwq n).OK Tryz.prog :=
  wz2 (E := qwr n) (L := qws n) (n := n) (ns := 0) (nt := 25) (rs := [(2,none)]) (ttOK tysOK _ _ _) (envOK wz0 wz0) (fn := Tryz.f193) (body := qwt) wz0 (qwu n)
noncomputable def qww (n : Nat) : FS := ⟨171,[(.val (.int .u64))],[],[],qU4,.im,fun d => qe0 n d.1⟩
noncomputable def qwx (n : Nat) : Env := ⟨Tryz.prog,tys.tt,mkΓ [qwq n],0,mkGp []⟩
noncomputable def qwy (n : Nat) : List Spec := []
noncomputable def qwz : Code := Tryz.f171.body.getD .skip
theorem qw0 (n : Nat) : ∀ d,evC (qwx n) (qwy n) n (.seq (.reg []) (.seq (.cond (.seq (.reg []) .leaf) .leaf) (.seq (.reg []) .leaf))) qwz [] (ent 0 8 (qww n).as ((qww n).io ++ (qww n).own) d) (finR (qwx n) (qww n).t (qww n).m (qww n).io [(2,none)]) = (qww n).M d := fun d => by kernel_rfl
theorem qw1 (n : Nat) : (qww n).OK Tryz.prog :=
  wz2 (E := qwx n) (L := qwy n) (n := n) (ns := 0) (nt := 8) (rs := [(2,none)]) (ttOK tysOK _ _ _) (envOK (all_cons (qwv n) wz0) wz0) (fn := Tryz.f171) (body := qwz) wz0 (qw0 n)
noncomputable def qw2 (n : Nat) : FS := ⟨168,[(.val (.int .i64))],[],[],qU6,.im,fun d => qe1 n d.1⟩
noncomputable def qw3 (n : Nat) : Env := ⟨Tryz.prog,tys.tt,mkΓ [],0,mkGp []⟩
noncomputable def qw4 (n : Nat) : List Spec := []
noncomputable def qw5 : Code := Tryz.f168.body.getD .skip
theorem qw6 (n : Nat) : ∀ d,evC (qw3 n) (qw4 n) n (.seq (.reg []) (.seq (.reg []) .leaf)) qw5 [] (ent 0 6 (qw2 n).as ((qw2 n).io ++ (qw2 n).own) d) (finR (qw3 n) (qw2 n).t (qw2 n).m (qw2 n).io [(2,none)]) = (qw2 n).M d := fun d => by kernel_rfl
theorem qw7 (n : Nat) : (qw2 n).OK Tryz.prog :=
  wz2 (E := qw3 n) (L := qw4 n) (n := n) (ns := 0) (nt := 6) (rs := [(2,none)]) (ttOK tysOK _ _ _) (envOK wz0 wz0) (fn := Tryz.f168) (body := qw5) wz0 (qw6 n)
noncomputable def qw8 (n : Nat) : FS := ⟨149,[(.val (.int .i64)),(.val (.int .i64))],[],[],qU4,.im,fun d => qe2 n d.1 d.2.1⟩
noncomputable def qw9 (n : Nat) : Env := ⟨Tryz.prog,tys.tt,mkΓ [qw2 n],0,mkGp []⟩
noncomputable def qxa (n : Nat) : List Spec := []
noncomputable def qxb : Code := Tryz.f149.body.getD .skip
theorem qxc (n : Nat) : ∀ d,evC (qw9 n) (qxa n) n (.seq (.reg []) (.seq (.reg []) (.seq (.reg []) (.seq (.seq (.reg []) (.cond (.seq (.seq (.reg []) (.cond (.seq (.reg []) .leaf) .leaf)) (.seq (.reg []) .leaf)) .leaf)) (.seq (.seq (.reg []) (.cond (.seq (.reg []) .leaf) .leaf)) (.seq (.seq (.reg []) (.cond (.seq (.reg []) .leaf) .leaf)) (.seq (.seq (.reg []) (.cond (.seq (.reg []) .leaf) .leaf)) (.seq (.reg []) .leaf)))))))) qxb [] (ent 0 20 (qw8 n).as ((qw8 n).io ++ (qw8 n).own) d) (finR (qw9 n) (qw8 n).t (qw8 n).m (qw8 n).io [(4,none)]) = (qw8 n).M d := fun d => by kernel_rfl
theorem qxd (n : Nat) : (qw8 n).OK Tryz.prog :=
  wz2 (E := qw9 n) (L := qxa n) (n := n) (ns := 0) (nt := 20) (rs := [(4,none)]) (ttOK tysOK _ _ _) (envOK (all_cons (qw7 n) wz0) wz0) (fn := Tryz.f149) (body := qxb) wz0 (qxc n)
noncomputable def qxe (n : Nat) : FS := ⟨121,[(.val qU0),(.val qU0)],[],[],qU4,.im,fun d => qe5 n d.1 d.2.1⟩
noncomputable def qxf (n : Nat) : Env := ⟨Tryz.prog,tys.tt,mkΓ [qw8 n],0,mkGp []⟩
noncomputable def qxg (n : Nat) : Spec := ⟨[0,0,1,0,1],(.seq (.reg []) (.seq (.cond .leaf .leaf) (.seq (.blk (.seq (.reg []) (.seq (.seq (.reg []) (.cond (.seq (.reg []) .leaf) .leaf)) (.seq (.reg []) (.seq (.reg []) (.seq (.reg []) (.cond (.seq (.reg []) .leaf) .leaf))))))) (.reg [])))),⟨[(0,(.val qU0)),(1,(.val qU0)),(9,(.val qU0)),(10,(.val (.int .i64))),(11,(.val (.int .i64)))],[],[]⟩,[(.ret,⟨[(4,(.val (.int .i64)))],[],[]⟩),(.exit 0,⟨[(0,(.val qU0)),(1,(.val qU0))],[],[]⟩)],qe4 n⟩
noncomputable def qxh (n : Nat) : List Spec := [qxg n]
noncomputable def qxi : Code := Tryz.f121.body.getD .skip
theorem qxj (n : Nat) : ∀ d,((codeAt qxi (qxg n).path).bind fun c => evC (qxf n) (qxh n) n (qxg n).h c (qxg n).path ((qxg n).inp.mk_ 0 36 d) (finL (qxg n))) = (qxg n).body d := fun d => by kernel_rfl
theorem qxk (n : Nat) : ∀ d,evC (qxf n) (qxh n) n (.seq (.reg []) (.seq (.seq (.reg []) (.blk (.loop 0))) (.seq (.seq (.reg []) (.cond (.seq (.reg []) .leaf) .leaf)) (.seq (.reg []) .leaf)))) qxi [] (ent 0 36 (qxe n).as ((qxe n).io ++ (qxe n).own) d) (finR (qxf n) (qxe n).t (qxe n).m (qxe n).io [(4,none)]) = (qxe n).M d := fun d => by kernel_rfl
theorem qxl (n : Nat) : (qxe n).OK Tryz.prog :=
  wz2 (E := qxf n) (L := qxh n) (n := n) (ns := 0) (nt := 36) (rs := [(4,none)]) (ttOK tysOK _ _ _) (envOK (all_cons (qxd n) wz0) wz0) (fn := Tryz.f121) (body := qxi) (all_cons (qxj n) wz0) (qxk n)
noncomputable def qxm (n : Nat) : FS := ⟨175,[(.val qU0),(.val qU0)],[],[],qU4,.im,fun d => qe6 n d.1 d.2.1⟩
noncomputable def qxn (n : Nat) : Env := ⟨Tryz.prog,tys.tt,mkΓ [qxe n],0,mkGp []⟩
noncomputable def qxo (n : Nat) : List Spec := []
noncomputable def qxp : Code := Tryz.f175.body.getD .skip
theorem qxq (n : Nat) : ∀ d,evC (qxn n) (qxo n) n (.seq (.reg []) (.seq (.reg []) .leaf)) qxp [] (ent 0 8 (qxm n).as ((qxm n).io ++ (qxm n).own) d) (finR (qxn n) (qxm n).t (qxm n).m (qxm n).io [(4,none)]) = (qxm n).M d := fun d => by kernel_rfl
theorem qxr (n : Nat) : (qxm n).OK Tryz.prog :=
  wz2 (E := qxn n) (L := qxo n) (n := n) (ns := 0) (nt := 8) (rs := [(4,none)]) (ttOK tysOK _ _ _) (envOK (all_cons (qxl n) wz0) wz0) (fn := Tryz.f175) (body := qxp) wz0 (qxq n)
noncomputable def qxs (n : Nat) : FS := ⟨202,[(.root 0),(.val (.int .i64)),(.val (.int .i64)),(.fn 175 .tn)],[(false,(.sl qU0),(.ow .im))],[],.unit,.im,fun d => qfb n d.2.1 d.2.2.1 d.2.2.2.2.1⟩
noncomputable def qxt (n : Nat) : Env := ⟨Tryz.prog,tys.tt,mkΓ [qxm n],1,mkGp []⟩
noncomputable def qxu (n : Nat) : Spec := ⟨[0,0,1,0,0,1,0,0,1],(.seq (.seq (.join [(.norm,⟨[(1,(.val (.int .i64))),(2,(.val (.int .i64))),(3,(.fn 175 .tn)),(8,(.val (.int .i64))),(9,(.val (.int .i64))),(34,(.val .bool))],[(0,0,none)],[(0,false,(.sl qU0),(.ow .im))]⟩)] (.reg [{},{},{ an := 3 },{ an := 7 },{ an := 15 },{ an := 15 },{ an := 15 },{ rd := [0],an := 111 },{ rd := [0],an := 239 },{ an := 15 },{ an := 15 },{ an := 1039 },{ rd := [0],an := 3599 },{ rd := [0],an := 7695 },{ an := 16383 },{ an := 32767 },{ an := 65535 }])) (.cond .leaf .leaf)) (.seq (.blk (.reg [{},{},{},{},{ an := 8 },{},{},{ an := 64 },{ rd := [0],an := 224 },{ rd := [0],an := 480 },{},{},{ rd := [0],an := 3072 },{ rd := [0],an := 7168 },{ rd := [0],an := 16355 },{ rd := [0],wr := [0],an := 32739 },{ rd := [0],an := 65535 },{ rd := [0],wr := [0],an := 131071 }])) (.reg []))),⟨[(1,(.val (.int .i64))),(2,(.val (.int .i64))),(3,(.fn 175 .tn)),(8,(.val (.int .i64))),(9,(.val (.int .i64)))],[(0,0,none)],[(0,false,(.sl qU0),(.ow .im))]⟩,[(.exit 2,⟨[(1,(.val (.int .i64))),(2,(.val (.int .i64))),(3,(.fn 175 .tn)),(8,(.val (.int .i64)))],[(0,0,none)],[(0,false,(.sl qU0),(.ow .im))]⟩)],qe8 n⟩
noncomputable def qxv (n : Nat) : Spec := ⟨[0,0,1],(.seq (.seq (.reg []) (.cond .leaf .leaf)) (.seq (.blk (.seq (.reg []) (.blk (.loop 0)))) (.reg []))),⟨[(1,(.val (.int .i64))),(2,(.val (.int .i64))),(3,(.fn 175 .tn)),(8,(.val (.int .i64)))],[(0,0,none)],[(0,false,(.sl qU0),(.ow .im))]⟩,[(.exit 0,⟨[],[],[(0,false,(.sl qU0),(.ow .im))]⟩)],qfa n⟩
noncomputable def qxw (n : Nat) : List Spec := [qxu n,qxv n]
noncomputable def qxx : Code := Tryz.f202.body.getD .skip
theorem qxy (n : Nat) : ∀ d,((codeAt qxx (qxu n).path).bind fun c => evC (qxt n) (qxw n) n (qxu n).h c (qxu n).path ((qxu n).inp.mk_ 1 53 d) (finL (qxu n))) = (qxu n).body d := fun d => by kernel_rfl
theorem qxz (n : Nat) : ∀ d,((codeAt qxx (qxv n).path).bind fun c => evC (qxt n) (qxw n) n (qxv n).h c (qxv n).path ((qxv n).inp.mk_ 1 53 d) (finL (qxv n))) = (qxv n).body d := fun d => by kernel_rfl
theorem qx0 (n : Nat) : ∀ d,evC (qxt n) (qxw n) n (.seq (.reg []) (.blk (.loop 1))) qxx [] (ent 1 53 (qxs n).as ((qxs n).io ++ (qxs n).own) d) (finR (qxt n) (qxs n).t (qxs n).m (qxs n).io []) = (qxs n).M d := fun d => by kernel_rfl
theorem qx1 (n : Nat) : (qxs n).OK Tryz.prog :=
  wz2 (E := qxt n) (L := qxw n) (n := n) (ns := 1) (nt := 53) (rs := []) (ttOK tysOK _ _ _) (envOK (all_cons (qxr n) wz0) wz0) (fn := Tryz.f202) (body := qxx) (all_cons (qxy n) (all_cons (qxz n) wz0)) (qx0 n)
noncomputable def qx2 (n : Nat) : FS := ⟨211,[(.root 0),(.val (.int .i64)),(.val (.int .i64)),(.val (.int .i64)),(.fn 175 .tn)],[(false,(.sl qU0),(.ow .im))],[],.unit,.im,fun d => qfe n d.2.1 d.2.2.1 d.2.2.2.1 d.2.2.2.2.2.1⟩
noncomputable def qx3 (n : Nat) : Env := ⟨Tryz.prog,tys.tt,mkΓ [qxm n],1,mkGp []⟩
noncomputable def qx4 (n : Nat) : Spec := ⟨[0,0,1],(.blk (.seq (.reg []) (.seq (.seq (.reg []) (.cond .leaf .leaf)) (.seq (.join [(.norm,⟨[(2,(.val (.int .i64))),(3,(.val (.int .i64))),(4,(.fn 175 .tn)),(10,(.val (.int .i64))),(11,(.val (.int .i64)))],[(0,0,none)],[(0,false,(.sl qU0),(.ow .im))]⟩)] (.seq (.join [(.norm,⟨[(2,(.val (.int .i64))),(3,(.val (.int .i64))),(4,(.fn 175 .tn)),(10,(.val (.int .i64))),(11,(.val (.int .i64))),(40,(.val .bool))],[(0,0,none)],[(0,false,(.sl qU0),(.ow .im))]⟩)] (.reg [{},{ an := 1 },{},{ an := 7 },{ an := 15 },{ an := 31 },{ an := 31 },{ an := 31 },{ an := 31 },{ an := 415 },{ rd := [0],an := 991 },{ rd := [0],an := 2015 },{ an := 31 },{ an := 31 },{ an := 31 },{ an := 24607 },{ an := 57375 },{ rd := [0],an := 127007 },{ rd := [0],an := 258079 },{ an := 524287 },{ an := 1048575 },{ an := 2097151 }])) (.cond (.reg []) .leaf))) (.seq (.seq (.reg [{},{},{},{},{ an := 12 },{ rd := [0],an := 30 },{ rd := [0],an := 62 },{},{},{},{ an := 768 },{ rd := [0],an := 1920 },{ rd := [0],an := 3968 },{ an := 8191 },{ an := 16383 },{ an := 32767 }]) (.cond .leaf .leaf)) (.seq (.reg [{},{},{},{ an := 6 },{},{},{},{ an := 96 },{},{},{},{ an := 1536 },{ rd := [0],an := 3840 },{ rd := [0],an := 7936 },{},{},{},{ an := 98304 },{ rd := [0],an := 245760 },{ rd := [0],an := 507904 },{ rd := [0],an := 1048335 },{ rd := [0],wr := [0],an := 2096911 },{ rd := [0],an := 4194303 },{ rd := [0],wr := [0],an := 8388607 }]) (.reg []))))))),⟨[(2,(.val (.int .i64))),(3,(.val (.int .i64))),(4,(.fn 175 .tn)),(10,(.val (.int .i64)))],[(0,0,none)],[(0,false,(.sl qU0),(.ow .im))]⟩,[(.exit 0,⟨[],[],[(0,false,(.sl qU0),(.ow .im))]⟩),(.ret,⟨[],[],[(0,false,(.sl qU0),(.ow .im))]⟩)],qfd n⟩
noncomputable def qx5 (n : Nat) : List Spec := [qx4 n]
noncomputable def qx6 : Code := Tryz.f211.body.getD .skip
theorem qx7 (n : Nat) : ∀ d,((codeAt qx6 (qx4 n).path).bind fun c => evC (qx3 n) (qx5 n) n (qx4 n).h c (qx4 n).path ((qx4 n).inp.mk_ 1 82 d) (finL (qx4 n))) = (qx4 n).body d := fun d => by kernel_rfl
theorem qx8 (n : Nat) : ∀ d,evC (qx3 n) (qx5 n) n (.seq (.reg []) (.blk (.loop 0))) qx6 [] (ent 1 82 (qx2 n).as ((qx2 n).io ++ (qx2 n).own) d) (finR (qx3 n) (qx2 n).t (qx2 n).m (qx2 n).io []) = (qx2 n).M d := fun d => by kernel_rfl
theorem qx9 (n : Nat) : (qx2 n).OK Tryz.prog :=
  wz2 (E := qx3 n) (L := qx5 n) (n := n) (ns := 1) (nt := 82) (rs := []) (ttOK tysOK _ _ _) (envOK (all_cons (qxr n) wz0) wz0) (fn := Tryz.f211) (body := qx6) (all_cons (qx7 n) wz0) (qx8 n)
noncomputable def qya (n : Nat) : FS := ⟨203,[(.root 0),(.val (.int .i64)),(.val (.int .i64)),(.fn 175 .tn)],[(false,(.sl qU0),(.ow .im))],[],.unit,.im,fun d => qfj n d.2.1 d.2.2.1 d.2.2.2.2.1⟩
noncomputable def qyb (n : Nat) : Env := ⟨Tryz.prog,tys.tt,mkΓ [qx2 n],1,mkGp []⟩
noncomputable def qyc (n : Nat) : Spec := ⟨[0,0,1,0,1,1,1],(.seq (.seq (.reg []) (.cond .leaf .leaf)) (.seq (.blk (.reg [{},{},{},{},{},{ mu := [0] }])) (.reg []))),⟨[(3,(.fn 175 .tn)),(8,(.val (.int .i64))),(9,(.val (.int .i64))),(10,(.val (.int .i64))),(11,(.val (.int .i64)))],[(0,0,none)],[(0,false,(.sl qU0),(.ow .im))]⟩,[(.exit 0,⟨[(3,(.fn 175 .tn)),(8,(.val (.int .i64))),(9,(.val (.int .i64))),(10,(.val (.int .i64)))],[(0,0,none)],[(0,false,(.sl qU0),(.ow .im))]⟩)],qfg n⟩
noncomputable def qyd (n : Nat) : Spec := ⟨[0,0,1,1,1,1,1],(.seq (.seq (.reg []) (.cond .leaf .leaf)) (.seq (.blk (.seq (.reg [{},{},{},{},{},{ an := 24 },{},{},{},{ an := 384 },{ rd := [0],an := 960 },{ rd := [0],an := 1984 },{},{},{ rd := [0],an := 12288 },{ rd := [0],an := 28672 },{ rd := [0],an := 65475 },{ rd := [0],wr := [0],an := 131011 },{ rd := [0],an := 262143 },{ rd := [0],wr := [0],an := 524287 }]) (.reg [{},{},{},{},{},{ mu := [0] }]))) (.reg []))),⟨[(3,(.fn 175 .tn)),(8,(.val (.int .i64))),(9,(.val (.int .i64))),(12,(.val (.int .i64)))],[(0,0,none)],[(0,false,(.sl qU0),(.ow .im))]⟩,[(.exit 2,⟨[],[],[(0,false,(.sl qU0),(.ow .im))]⟩)],qfi n⟩
noncomputable def qye (n : Nat) : List Spec := [qyc n,qyd n]
noncomputable def qyf : Code := Tryz.f203.body.getD .skip
theorem qyg (n : Nat) : ∀ d,((codeAt qyf (qyc n).path).bind fun c => evC (qyb n) (qye n) n (qyc n).h c (qyc n).path ((qyc n).inp.mk_ 1 60 d) (finL (qyc n))) = (qyc n).body d := fun d => by kernel_rfl
theorem qyh (n : Nat) : ∀ d,((codeAt qyf (qyd n).path).bind fun c => evC (qyb n) (qye n) n (qyd n).h c (qyd n).path ((qyd n).inp.mk_ 1 60 d) (finL (qyd n))) = (qyd n).body d := fun d => by kernel_rfl
theorem qyi (n : Nat) : ∀ d,evC (qyb n) (qye n) n (.seq (.reg []) (.seq (.reg []) (.seq (.reg []) (.seq (.seq (.reg []) (.blk (.loop 0))) (.seq (.reg []) (.blk (.loop 1))))))) qyf [] (ent 1 60 (qya n).as ((qya n).io ++ (qya n).own) d) (finR (qyb n) (qya n).t (qya n).m (qya n).io []) = (qya n).M d := fun d => by kernel_rfl
theorem qyj (n : Nat) : (qya n).OK Tryz.prog :=
  wz2 (E := qyb n) (L := qye n) (n := n) (ns := 1) (nt := 60) (rs := []) (ttOK tysOK _ _ _) (envOK (all_cons (qx9 n) wz0) wz0) (fn := Tryz.f203) (body := qyf) (all_cons (qyg n) (all_cons (qyh n) wz0)) (qyi n)
noncomputable def qyk (n : Nat) : FS := ⟨198,[(.val (.int .i64))],[],[],(.pair (.int .u64) .unit),.im,fun d => qfk n d.1⟩
noncomputable def qyl (n : Nat) : Env := ⟨Tryz.prog,tys.tt,mkΓ [qww n],0,mkGp []⟩
noncomputable def qym (n : Nat) : List Spec := []
noncomputable def qyn : Code := Tryz.f198.body.getD .skip
theorem qyo (n : Nat) : ∀ d,evC (qyl n) (qym n) n (.seq (.reg []) (.seq (.reg []) .leaf)) qyn [] (ent 0 7 (qyk n).as ((qyk n).io ++ (qyk n).own) d) (finR (qyl n) (qyk n).t (qyk n).m (qyk n).io [(2,none)]) = (qyk n).M d := fun d => by kernel_rfl
theorem qyp (n : Nat) : (qyk n).OK Tryz.prog :=
  wz2 (E := qyl n) (L := qym n) (n := n) (ns := 0) (nt := 7) (rs := [(2,none)]) (ttOK tysOK _ _ _) (envOK (all_cons (qw1 n) wz0) wz0) (fn := Tryz.f198) (body := qyn) wz0 (qyo n)
noncomputable def qyq (n : Nat) : FS := ⟨199,[(.ptr 0 (.int .u64))],[(true,(.int .u64),.im)],[],(.pair (.int .u64) .unit),.im,fun d => qfl n d.2.1⟩
noncomputable def qyr (n : Nat) : Env := ⟨Tryz.prog,tys.tt,mkΓ [],1,mkGp []⟩
noncomputable def qys (n : Nat) : List Spec := []
noncomputable def qyt : Code := Tryz.f199.body.getD .skip
theorem qyu (n : Nat) : ∀ d,evC (qyr n) (qys n) n (.seq (.reg []) (.seq (.reg [{},{ rd := [0],an := 1 },{ rd := [0],an := 3 },{},{ rd := [0],an := 8 },{ rd := [0],an := 24 },{ an := 56 },{ an := 127 },{ rd := [0],an := 255 },{ rd := [0],wr := [0],an := 511 }]) (.seq (.reg [{},{ rd := [0],an := 1 },{ rd := [0],an := 3 },{},{ rd := [0],an := 8 },{ rd := [0],an := 24 },{ an := 56 },{ an := 127 },{ rd := [0],an := 255 },{ rd := [0],wr := [0],an := 511 }]) (.seq (.reg [{},{ rd := [0],an := 1 },{ rd := [0],an := 3 },{},{ rd := [0],an := 8 },{ rd := [0],an := 24 },{ an := 56 },{ an := 127 },{ rd := [0],an := 255 },{ rd := [0],wr := [0],an := 511 }]) (.seq (.reg []) .leaf))))) qyt [] (ent 1 33 (qyq n).as ((qyq n).io ++ (qyq n).own) d) (finR (qyr n) (qyq n).t (qyq n).m (qyq n).io [(2,none)]) = (qyq n).M d := fun d => by kernel_rfl
theorem qyv (n : Nat) : (qyq n).OK Tryz.prog :=
  wz2 (E := qyr n) (L := qys n) (n := n) (ns := 1) (nt := 33) (rs := [(2,none)]) (ttOK tysOK _ _ _) (envOK wz0 wz0) (fn := Tryz.f199) (body := qyt) wz0 (qyu n)
noncomputable def qyw (n : Nat) : FS := ⟨204,[(.root 0),(.val (.int .i64)),(.val (.int .i64)),(.fn 175 .tn)],[(false,(.sl qU0),(.ow .im))],[],.unit,.im,fun d => qfo n d.2.1 d.2.2.1 d.2.2.2.2.1⟩
noncomputable def qyx (n : Nat) : Env := ⟨Tryz.prog,tys.tt,mkΓ [qyk n,qyq n],1,mkGp []⟩
noncomputable def qyy (n : Nat) : Spec := ⟨[0,0,1,1,1,0,1,1],(.seq (.seq (.reg []) (.cond .leaf .leaf)) (.seq (.blk (.seq (.reg [{ mu := [1] }]) (.seq (.join [(.norm,⟨[(1,(.val (.int .i64))),(8,(.val (.int .i64))),(10,(.val (.int .u64))),(11,(.val (.int .i64))),(12,(.val (.int .i64)))],[(0,0,none),(9,1,some ((.int .u64),false))],[(0,false,(.sl qU0),(.ow .im)),(1,true,(.int .u64),.im)]⟩)] (.seq (.reg []) (.cond (.reg []) .leaf))) (.reg [{},{},{},{},{},{ an := 24 },{},{},{},{ an := 384 },{ rd := [0],an := 960 },{ rd := [0],an := 1984 },{},{},{ rd := [0],an := 12288 },{ rd := [0],an := 28672 },{ rd := [0],an := 65475 },{ rd := [0],wr := [0],an := 131011 },{ rd := [0],an := 262143 },{ rd := [0],wr := [0],an := 524287 }])))) (.reg []))),⟨[(1,(.val (.int .i64))),(8,(.val (.int .i64))),(10,(.val (.int .u64))),(11,(.val (.int .i64)))],[(0,0,none),(9,1,some ((.int .u64),false))],[(0,false,(.sl qU0),(.ow .im)),(1,true,(.int .u64),.im)]⟩,[(.exit 0,⟨[],[],[(0,false,(.sl qU0),(.ow .im))]⟩)],qfn n⟩
noncomputable def qyz (n : Nat) : List Spec := [qyy n]
noncomputable def qy0 : Code := Tryz.f204.body.getD .skip
theorem qy1 (n : Nat) : ∀ d,((codeAt qy0 (qyy n).path).bind fun c => evC (qyx n) (qyz n) n (qyy n).h c (qyy n).path ((qyy n).inp.mk_ 2 67 d) (finL (qyy n))) = (qyy n).body d := fun d => by kernel_rfl
theorem qy2 (n : Nat) : ∀ d,evC (qyx n) (qyz n) n (.seq (.reg []) (.seq (.reg []) (.cond (.seq (.reg [{},{},{ sl := [1],fl := 1 }]) (.seq (.reg []) (.seq (.reg []) (.blk (.loop 0))))) .leaf))) qy0 [] (ent 2 67 (qyw n).as ((qyw n).io ++ (qyw n).own) d) (finR (qyx n) (qyw n).t (qyw n).m (qyw n).io []) = (qyw n).M d := fun d => by kernel_rfl
theorem qy3 (n : Nat) : (qyw n).OK Tryz.prog :=
  wz2 (E := qyx n) (L := qyz n) (n := n) (ns := 2) (nt := 67) (rs := []) (ttOK tysOK _ _ _) (envOK (all_cons (qyp n) (all_cons (qyv n) wz0)) wz0) (fn := Tryz.f204) (body := qy0) (all_cons (qy1 n) wz0) (qy2 n)
noncomputable def qy4 (n : Nat) : FS := ⟨214,[(.val (.sl qU0)),(.val (.int .i64)),(.val (.int .i64)),(.ptr 0 (.int .i64)),(.fn 175 .tn)],[(true,(.int .i64),.im)],[],(.pair (.int .i64) qU4),.im,fun d => qfp n d.1 d.2.1 d.2.2.1 d.2.2.2.2.2.1⟩
noncomputable def qy5 (n : Nat) : Env := ⟨Tryz.prog,tys.tt,mkΓ [qxm n],1,mkGp []⟩
noncomputable def qy6 (n : Nat) : List Spec := []
noncomputable def qy7 : Code := Tryz.f214.body.getD .skip
theorem qy8 (n : Nat) : ∀ d,evC (qy5 n) (qy6 n) n (.seq (.reg []) (.seq (.seq (.reg [{},{},{},{ an := 6 },{ an := 14 },{},{},{ an := 96 },{ an := 224 },{ an := 511 },{ an := 1023 }]) (.cond (.seq (.reg []) (.seq (.reg []) .leaf)) .leaf)) (.seq (.reg []) .leaf))) qy7 [] (ent 1 32 (qy4 n).as ((qy4 n).io ++ (qy4 n).own) d) (finR (qy5 n) (qy4 n).t (qy4 n).m (qy4 n).io [(10,none),(11,none)]) = (qy4 n).M d := fun d => by kernel_rfl
theorem qy9 (n : Nat) : (qy4 n).OK Tryz.prog :=
  wz2 (E := qy5 n) (L := qy6 n) (n := n) (ns := 1) (nt := 32) (rs := [(10,none),(11,none)]) (ttOK tysOK _ _ _) (envOK (all_cons (qxr n) wz0) wz0) (fn := Tryz.f214) (body := qy7) wz0 (qy8 n)
noncomputable def qza (n : Nat) : FS := ⟨213,[(.val (.sl qU0)),(.val (.int .i64)),(.val (.int .i64)),(.val (.int .i64)),(.ptr 0 (.int .i64)),(.fn 175 .tn)],[(true,(.int .i64),.im)],[],qU4,.im,fun d => qfq n d.1 d.2.1 d.2.2.1 d.2.2.2.1 d.2.2.2.2.2.2.1⟩
noncomputable def qzb (n : Nat) : Env := ⟨Tryz.prog,tys.tt,mkΓ [qy4 n],1,mkGp []⟩
noncomputable def qzc (n : Nat) : List Spec := []
noncomputable def qzd : Code := Tryz.f213.body.getD .skip
theorem qze (n : Nat) : ∀ d,evC (qzb n) (qzc n) n (.seq (.reg []) (.seq (.reg [{},{},{},{},{},{ mu := [0] }]) (.seq (.reg [{},{},{},{},{},{ mu := [0] }]) (.seq (.reg [{},{},{},{},{},{ mu := [0] }]) (.seq (.reg []) .leaf))))) qzd [] (ent 1 41 (qza n).as ((qza n).io ++ (qza n).own) d) (finR (qzb n) (qza n).t (qza n).m (qza n).io [(12,none)]) = (qza n).M d := fun d => by kernel_rfl
theorem qzf (n : Nat) : (qza n).OK Tryz.prog :=
  wz2 (E := qzb n) (L := qzc n) (n := n) (ns := 1) (nt := 41) (rs := [(12,none)]) (ttOK tysOK _ _ _) (envOK (all_cons (qy9 n) wz0) wz0) (fn := Tryz.f213) (body := qzd) wz0 (qze n)
noncomputable def qzg (n : Nat) : FS := ⟨212,[(.val (.sl qU0)),(.val (.int .i64)),(.ptr 0 (.int .i64)),(.fn 175 .tn)],[(true,(.int .i64),.im)],[],qU4,.im,fun d => qfr n d.1 d.2.1 d.2.2.2.2.1⟩
noncomputable def qzh (n : Nat) : Env := ⟨Tryz.prog,tys.tt,mkΓ [qza n],1,mkGp []⟩
noncomputable def qzi (n : Nat) : List Spec := []
noncomputable def qzj : Code := Tryz.f212.body.getD .skip
theorem qzk (n : Nat) : ∀ d,evC (qzh n) (qzi n) n (.seq (.reg []) (.seq (.reg [{},{},{},{},{},{},{},{},{ mu := [0] }]) .leaf)) qzj [] (ent 1 18 (qzg n).as ((qzg n).io ++ (qzg n).own) d) (finR (qzh n) (qzg n).t (qzg n).m (qzg n).io [(8,none)]) = (qzg n).M d := fun d => by kernel_rfl
theorem qzl (n : Nat) : (qzg n).OK Tryz.prog :=
  wz2 (E := qzh n) (L := qzi n) (n := n) (ns := 1) (nt := 18) (rs := [(8,none)]) (ttOK tysOK _ _ _) (envOK (all_cons (qzf n) wz0) wz0) (fn := Tryz.f212) (body := qzj) wz0 (qzk n)
noncomputable def qzm (n : Nat) : FS := ⟨205,[(.val (.sl qU0)),(.val (.int .i64)),(.val (.int .i64)),(.fn 175 .tn)],[],[],(.pair (.int .i64) qU4),.im,fun d => qfs n d.1 d.2.1 d.2.2.1⟩
noncomputable def qzn (n : Nat) : Env := ⟨Tryz.prog,tys.tt,mkΓ [qzg n,qza n],0,mkGp []⟩
noncomputable def qzo (n : Nat) : List Spec := []
noncomputable def qzp : Code := Tryz.f205.body.getD .skip
theorem qzq (n : Nat) : ∀ d,evC (qzn n) (qzo n) n (.seq (.reg []) (.seq (.reg []) (.seq (.reg [{ sl := [0],fl := 1 }]) (.seq (.reg []) (.seq (.reg []) (.seq (.reg []) (.seq (.join [(.norm,⟨[(13,(.val (.int .i64)))],[(11,0,some ((.int .i64),false))],[(0,true,(.int .i64),.im)]⟩)] (.seq (.reg []) (.cond (.seq (.join [(.norm,⟨[(0,(.val (.sl qU0))),(3,(.fn 175 .tn)),(12,(.val (.int .i64))),(13,(.val (.int .i64))),(14,(.val (.int .i64)))],[(11,0,some ((.int .i64),false))],[(0,true,(.int .i64),.im)]⟩)] (.seq (.reg []) (.cond (.seq (.reg [{},{},{},{ mu := [0] }]) (.seq (.reg [{},{},{},{ mu := [0] }]) (.reg [{},{},{},{ mu := [0] }]))) .leaf))) (.reg [{},{},{},{},{},{ mu := [0] }])) .leaf))) (.seq (.reg []) (.blk (.seq (.reg []) (.cond (.seq (.reg []) .leaf) (.seq (.reg []) (.cond (.seq (.reg []) .leaf) (.seq (.reg []) .leaf)))))))))))))) qzp [] (ent 1 63 (qzm n).as ((qzm n).io ++ (qzm n).own) d) (finR (qzn n) (qzm n).t (qzm n).m (qzm n).io [(8,none),(9,none)]) = (qzm n).M d := fun d => by kernel_rfl
theorem qzr (n : Nat) : (qzm n).OK Tryz.prog :=
  wz2 (E := qzn n) (L := qzo n) (n := n) (ns := 1) (nt := 63) (rs := [(8,none),(9,none)]) (ttOK tysOK _ _ _) (envOK (all_cons (qzl n) (all_cons (qzf n) wz0)) wz0) (fn := Tryz.f205) (body := qzp) wz0 (qzq n)
noncomputable def qzs (n : Nat) : FS := ⟨206,[(.root 0),(.val (.int .i64)),(.val (.int .i64)),(.fn 175 .tn)],[(false,(.sl qU0),(.ow .im))],[],.unit,.im,fun d => qfv n d.2.1 d.2.2.1 d.2.2.2.2.1⟩
noncomputable def qzt (n : Nat) : Env := ⟨Tryz.prog,tys.tt,mkΓ [],1,mkGp []⟩
noncomputable def qzu (n : Nat) : Spec := ⟨[0,0,1,1],(.seq (.seq (.reg []) (.cond .leaf .leaf)) (.blk (.seq (.reg [{},{},{},{},{},{},{ rd := [0],an := 48 },{ rd := [0],an := 112 },{},{},{ rd := [0],an := 768 },{ rd := [0],an := 1792 },{ rd := [0],an := 4083 },{ rd := [0],wr := [0],an := 8179 },{ rd := [0],an := 16383 },{ rd := [0],wr := [0],an := 32767 }]) (.seq (.reg []) (.reg []))))),⟨[(8,(.val (.int .i64))),(9,(.val (.int .i64)))],[(0,0,none)],[(0,false,(.sl qU0),(.ow .im))]⟩,[(.exit 0,⟨[],[],[(0,false,(.sl qU0),(.ow .im))]⟩)],qfu n⟩
noncomputable def qzv (n : Nat) : List Spec := [qzu n]
noncomputable def qzw : Code := Tryz.f206.body.getD .skip
theorem qzx (n : Nat) : ∀ d,((codeAt qzw (qzu n).path).bind fun c => evC (qzt n) (qzv n) n (qzu n).h c (qzu n).path ((qzu n).inp.mk_ 1 34 d) (finL (qzu n))) = (qzu n).body d := fun d => by kernel_rfl
theorem qzy (n : Nat) : ∀ d,evC (qzt n) (qzv n) n (.seq (.reg []) (.seq (.reg []) (.blk (.loop 0)))) qzw [] (ent 1 34 (qzs n).as ((qzs n).io ++ (qzs n).own) d) (finR (qzt n) (qzs n).t (qzs n).m (qzs n).io []) = (qzs n).M d := fun d => by kernel_rfl
theorem qzz (n : Nat) : (qzs n).OK Tryz.prog :=
  wz2 (E := qzt n) (L := qzv n) (n := n) (ns := 1) (nt := 34) (rs := []) (ttOK tysOK _ _ _) (envOK wz0 wz0) (fn := Tryz.f206) (body := qzw) (all_cons (qzx n) wz0) (qzy n)
noncomputable def qz0 (n : Nat) : FS := ⟨207,[(.root 0),(.val (.int .i64)),(.val (.int .i64)),(.fn 175 .tn)],[(false,(.sl qU0),(.ow .im))],[],qU6,.im,fun d => qf4 n d.2.1 d.2.2.1 d.2.2.2.2.1⟩
noncomputable def qz1 (n : Nat) : Env := ⟨Tryz.prog,tys.tt,mkΓ [qxm n],1,mkGp []⟩
noncomputable def qz2 (n : Nat) : Spec := ⟨[0,0,0,0,0,1,0,0,1,0,1,1],(.seq (.seq (.join [(.norm,⟨[(1,(.val (.int .i64))),(2,(.val (.int .i64))),(3,(.fn 175 .tn)),(9,(.val (.int .i64))),(10,(.val (.int .i64))),(36,(.val .bool))],[(0,0,none)],[(0,false,(.sl qU0),(.ow .im))]⟩)] (.reg [{},{},{ an := 3 },{ an := 7 },{ an := 15 },{ an := 15 },{ an := 15 },{ rd := [0],an := 111 },{ rd := [0],an := 239 },{ an := 15 },{ an := 15 },{ an := 1039 },{ rd := [0],an := 3599 },{ rd := [0],an := 7695 },{ an := 16383 },{ an := 32767 },{ an := 65535 },{ an := 131071 }])) (.cond .leaf .leaf)) (.blk (.reg []))),⟨[(1,(.val (.int .i64))),(2,(.val (.int .i64))),(3,(.fn 175 .tn)),(9,(.val (.int .i64))),(10,(.val (.int .i64)))],[(0,0,none)],[(0,false,(.sl qU0),(.ow .im))]⟩,[(.exit 2,⟨[(1,(.val (.int .i64))),(2,(.val (.int .i64))),(3,(.fn 175 .tn)),(9,(.val (.int .i64))),(10,(.val (.int .i64)))],[(0,0,none)],[(0,false,(.sl qU0),(.ow .im))]⟩)],qf1 n⟩
noncomputable def qz3 (n : Nat) : Spec := ⟨[0,0,1,0,1,0,1,1,1,1,0,0,1,0,0,1,0,1,1],(.seq (.seq (.reg []) (.cond .leaf .leaf)) (.seq (.blk (.seq (.seq (.reg [{},{},{},{ rd := [0],an := 6 },{ rd := [0],an := 14 },{},{},{ an := 64 },{ rd := [0],an := 224 },{ rd := [0],an := 480 },{ an := 1023 },{ an := 2047 },{ an := 4095 }]) (.cond .leaf .leaf)) (.reg [{},{},{},{},{ an := 8 },{},{},{ an := 64 },{ rd := [0],an := 224 },{ rd := [0],an := 480 },{},{},{ rd := [0],an := 3072 },{ rd := [0],an := 7168 },{ rd := [0],an := 16355 },{ rd := [0],wr := [0],an := 32739 },{ rd := [0],an := 65535 },{ rd := [0],wr := [0],an := 131071 }]))) (.reg []))),⟨[(1,(.val (.int .i64))),(2,(.val (.int .i64))),(3,(.fn 175 .tn)),(9,(.val (.int .i64))),(10,(.val (.int .i64))),(11,(.val (.int .i64)))],[(0,0,none)],[(0,false,(.sl qU0),(.ow .im))]⟩,[(.exit 4,⟨[(1,(.val (.int .i64))),(2,(.val (.int .i64))),(3,(.fn 175 .tn)),(9,(.val (.int .i64))),(10,(.val (.int .i64)))],[(0,0,none)],[(0,false,(.sl qU0),(.ow .im))]⟩)],qfx n⟩
noncomputable def qz4 (n : Nat) : Spec := ⟨[0,0,1,0,1,1,1,1,1,1,0,0,1,0,0,1,0,1,1],(.seq (.seq (.reg []) (.cond .leaf .leaf)) (.seq (.blk (.seq (.seq (.reg [{},{},{},{ rd := [0],an := 6 },{ rd := [0],an := 14 },{},{},{ an := 64 },{ rd := [0],an := 224 },{ rd := [0],an := 480 },{ an := 1023 },{ an := 2047 },{ an := 4095 }]) (.cond .leaf .leaf)) (.reg [{},{},{},{},{ an := 8 },{},{},{ an := 64 },{ rd := [0],an := 224 },{ rd := [0],an := 480 },{},{},{ rd := [0],an := 3072 },{ rd := [0],an := 7168 },{ rd := [0],an := 16355 },{ rd := [0],wr := [0],an := 32739 },{ rd := [0],an := 65535 },{ rd := [0],wr := [0],an := 131071 }]))) (.reg []))),⟨[(1,(.val (.int .i64))),(2,(.val (.int .i64))),(3,(.fn 175 .tn)),(9,(.val (.int .i64))),(10,(.val (.int .i64))),(12,(.val (.int .i64)))],[(0,0,none)],[(0,false,(.sl qU0),(.ow .im))]⟩,[(.exit 6,⟨[(1,(.val (.int .i64))),(2,(.val (.int .i64))),(3,(.fn 175 .tn)),(9,(.val (.int .i64))),(10,(.val (.int .i64)))],[(0,0,none)],[(0,false,(.sl qU0),(.ow .im))]⟩)],qfz n⟩
noncomputable def qz5 (n : Nat) : Spec := ⟨[0,0,1,0,1,1],(.seq (.seq (.reg []) (.cond .leaf .leaf)) (.seq (.join [(.ret,⟨[(8,(.val .bool))],[],[(0,false,(.sl qU0),(.ow .im))]⟩),(.norm,⟨[(1,(.val (.int .i64))),(2,(.val (.int .i64))),(3,(.fn 175 .tn)),(9,(.val (.int .i64))),(10,(.val (.int .i64)))],[(0,0,none)],[(0,false,(.sl qU0),(.ow .im))]⟩)] (.blk (.seq (.blk (.loop 0)) (.seq (.seq (.reg []) (.cond (.seq (.reg []) .leaf) .leaf)) (.seq (.seq (.reg []) (.cond (.seq (.reg []) .leaf) .leaf)) (.seq (.reg [{},{},{},{},{ an := 8 },{},{},{ an := 64 },{ rd := [0],an := 224 },{ rd := [0],an := 480 },{},{},{ rd := [0],an := 3072 },{ rd := [0],an := 7168 },{ rd := [0],an := 16355 },{ rd := [0],wr := [0],an := 32739 },{ rd := [0],an := 65535 },{ rd := [0],wr := [0],an := 131071 }]) (.seq (.join [(.norm,⟨[(1,(.val (.int .i64))),(2,(.val (.int .i64))),(3,(.fn 175 .tn)),(9,(.val (.int .i64))),(10,(.val (.int .i64)))],[(0,0,none)],[(0,false,(.sl qU0),(.ow .im))]⟩)] (.seq (.reg []) (.cond (.seq (.reg []) (.blk (.loop 1))) .leaf))) (.seq (.reg []) (.cond (.seq (.reg []) (.blk (.loop 2))) .leaf))))))))) (.reg []))),⟨[(1,(.val (.int .i64))),(2,(.val (.int .i64))),(3,(.fn 175 .tn)),(9,(.val (.int .i64))),(10,(.val (.int .i64)))],[(0,0,none)],[(0,false,(.sl qU0),(.ow .im))]⟩,[(.ret,⟨[(8,(.val .bool))],[],[(0,false,(.sl qU0),(.ow .im))]⟩),(.exit 0,⟨[],[],[(0,false,(.sl qU0),(.ow .im))]⟩)],qf3 n⟩
noncomputable def qz6 (n : Nat) : List Spec := [qz2 n,qz3 n,qz4 n,qz5 n]
noncomputable def qz7 : Code := Tryz.f207.body.getD .skip
theorem qz8 (n : Nat) : ∀ d,((codeAt qz7 (qz2 n).path).bind fun c => evC (qz1 n) (qz6 n) n (qz2 n).h c (qz2 n).path ((qz2 n).inp.mk_ 1 141 d) (finL (qz2 n))) = (qz2 n).body d := fun d => by kernel_rfl
theorem qz9 (n : Nat) : ∀ d,((codeAt qz7 (qz3 n).path).bind fun c => evC (qz1 n) (qz6 n) n (qz3 n).h c (qz3 n).path ((qz3 n).inp.mk_ 1 141 d) (finL (qz3 n))) = (qz3 n).body d := fun d => by kernel_rfl
theorem q0a (n : Nat) : ∀ d,((codeAt qz7 (qz4 n).path).bind fun c => evC (qz1 n) (qz6 n) n (qz4 n).h c (qz4 n).path ((qz4 n).inp.mk_ 1 141 d) (finL (qz4 n))) = (qz4 n).body d := fun d => by kernel_rfl
theorem q0b (n : Nat) : ∀ d,((codeAt qz7 (qz5 n).path).bind fun c => evC (qz1 n) (qz6 n) n (qz5 n).h c (qz5 n).path ((qz5 n).inp.mk_ 1 141 d) (finL (qz5 n))) = (qz5 n).body d := fun d => by kernel_rfl
theorem q0c (n : Nat) : ∀ d,evC (qz1 n) (qz6 n) n (.seq (.reg []) (.seq (.reg []) (.seq (.seq (.reg []) (.blk (.loop 3))) (.seq (.reg []) .leaf)))) qz7 [] (ent 1 141 (qz0 n).as ((qz0 n).io ++ (qz0 n).own) d) (finR (qz1 n) (qz0 n).t (qz0 n).m (qz0 n).io [(8,none)]) = (qz0 n).M d := fun d => by kernel_rfl
theorem q0d (n : Nat) : (qz0 n).OK Tryz.prog :=
  wz2 (E := qz1 n) (L := qz6 n) (n := n) (ns := 1) (nt := 141) (rs := [(8,none)]) (ttOK tysOK _ _ _) (envOK (all_cons (qxr n) wz0) wz0) (fn := Tryz.f207) (body := qz7) (all_cons (qz8 n) (all_cons (qz9 n) (all_cons (q0a n) (all_cons (q0b n) wz0)))) (q0c n)
noncomputable def q0e (n : Nat) : FS := ⟨208,[(.root 0),(.val (.int .i64)),(.val (.int .i64)),(.val (.int .i64)),(.fn 175 .tn)],[(false,(.sl qU0),(.ow .im))],[],qU4,.im,fun d => qgb n d.2.1 d.2.2.1 d.2.2.2.1 d.2.2.2.2.2.1⟩
noncomputable def q0f (n : Nat) : Env := ⟨Tryz.prog,tys.tt,mkΓ [qxm n],1,mkGp []⟩
noncomputable def q0g (n : Nat) : Spec := ⟨[0,0,0,0,0,0,0,1,1,1],(.seq (.seq (.join [(.norm,⟨[(1,(.val (.int .i64))),(4,(.fn 175 .tn)),(11,(.val (.int .i64))),(12,(.val (.int .i64))),(47,(.val .bool))],[(0,0,none)],[(0,false,(.sl qU0),(.ow .im))]⟩)] (.reg [{},{},{ an := 3 },{ an := 7 },{ an := 15 },{ an := 15 },{ an := 15 },{ rd := [0],an := 111 },{ rd := [0],an := 239 },{ an := 15 },{ an := 15 },{ rd := [0],an := 1551 },{ rd := [0],an := 3599 },{ an := 8191 },{ an := 16383 },{ an := 32767 },{ an := 65535 }])) (.cond .leaf .leaf)) (.blk (.reg []))),⟨[(1,(.val (.int .i64))),(4,(.fn 175 .tn)),(11,(.val (.int .i64))),(12,(.val (.int .i64)))],[(0,0,none)],[(0,false,(.sl qU0),(.ow .im))]⟩,[(.exit 2,⟨[(1,(.val (.int .i64))),(4,(.fn 175 .tn)),(11,(.val (.int .i64))),(12,(.val (.int .i64)))],[(0,0,none)],[(0,false,(.sl qU0),(.ow .im))]⟩)],qf8 n⟩
noncomputable def q0h (n : Nat) : Spec := ⟨[0,0,0,1,0,0,0,0,1,1,1],(.seq (.seq (.join [(.norm,⟨[(1,(.val (.int .i64))),(4,(.fn 175 .tn)),(11,(.val (.int .i64))),(12,(.val (.int .i64))),(65,(.val .bool))],[(0,0,none)],[(0,false,(.sl qU0),(.ow .im))]⟩)] (.reg [{},{},{ an := 3 },{ an := 7 },{ an := 15 },{ an := 15 },{ an := 15 },{ rd := [0],an := 111 },{ rd := [0],an := 239 },{ an := 15 },{ an := 15 },{ rd := [0],an := 1551 },{ rd := [0],an := 3599 },{ an := 8191 },{ an := 16383 },{ an := 32767 }])) (.cond .leaf .leaf)) (.blk (.reg []))),⟨[(1,(.val (.int .i64))),(4,(.fn 175 .tn)),(11,(.val (.int .i64))),(12,(.val (.int .i64)))],[(0,0,none)],[(0,false,(.sl qU0),(.ow .im))]⟩,[(.exit 4,⟨[(1,(.val (.int .i64))),(4,(.fn 175 .tn)),(11,(.val (.int .i64))),(12,(.val (.int .i64)))],[(0,0,none)],[(0,false,(.sl qU0),(.ow .im))]⟩)],qf6 n⟩
noncomputable def q0i (n : Nat) : Spec := ⟨[0,0,0,1,1,1],(.blk (.seq (.blk (.loop 0)) (.seq (.blk (.loop 1)) (.seq (.seq (.reg []) (.cond .leaf .leaf)) (.seq (.reg [{},{},{},{},{},{},{ rd := [0],an := 48 },{ rd := [0],an := 112 },{},{},{ rd := [0],an := 768 },{ rd := [0],an := 1792 },{ rd := [0],an := 4083 },{ rd := [0],wr := [0],an := 8179 },{ rd := [0],an := 16383 },{ rd := [0],wr := [0],an := 32767 }]) (.seq (.reg []) (.reg []))))))),⟨[(1,(.val (.int .i64))),(4,(.fn 175 .tn)),(11,(.val (.int .i64))),(12,(.val (.int .i64)))],[(0,0,none)],[(0,false,(.sl qU0),(.ow .im))]⟩,[(.exit 0,⟨[(11,(.val (.int .i64)))],[],[(0,false,(.sl qU0),(.ow .im))]⟩)],qga n⟩
noncomputable def q0j (n : Nat) : List Spec := [q0g n,q0h n,q0i n]
noncomputable def q0k : Code := Tryz.f208.body.getD .skip
theorem q0l (n : Nat) : ∀ d,((codeAt q0k (q0g n).path).bind fun c => evC (q0f n) (q0j n) n (q0g n).h c (q0g n).path ((q0g n).inp.mk_ 1 90 d) (finL (q0g n))) = (q0g n).body d := fun d => by kernel_rfl
theorem q0m (n : Nat) : ∀ d,((codeAt q0k (q0h n).path).bind fun c => evC (q0f n) (q0j n) n (q0h n).h c (q0h n).path ((q0h n).inp.mk_ 1 90 d) (finL (q0h n))) = (q0h n).body d := fun d => by kernel_rfl
theorem q0n (n : Nat) : ∀ d,((codeAt q0k (q0i n).path).bind fun c => evC (q0f n) (q0j n) n (q0i n).h c (q0i n).path ((q0i n).inp.mk_ 1 90 d) (finL (q0i n))) = (q0i n).body d := fun d => by kernel_rfl
theorem q0o (n : Nat) : ∀ d,evC (q0f n) (q0j n) n (.seq (.reg []) (.seq (.reg [{},{},{},{},{},{},{ rd := [0],an := 48 },{ rd := [0],an := 112 },{},{},{ rd := [0],an := 768 },{ rd := [0],an := 1792 },{ rd := [0],an := 4083 },{ rd := [0],wr := [0],an := 8179 },{ rd := [0],an := 16383 },{ rd := [0],wr := [0],an := 32767 }]) (.seq (.reg []) (.seq (.blk (.loop 2)) (.seq (.reg []) .leaf))))) q0k [] (ent 1 90 (q0e n).as ((q0e n).io ++ (q0e n).own) d) (finR (q0f n) (q0e n).t (q0e n).m (q0e n).io [(10,none)]) = (q0e n).M d := fun d => by kernel_rfl
theorem q0p (n : Nat) : (q0e n).OK Tryz.prog :=
  wz2 (E := q0f n) (L := q0j n) (n := n) (ns := 1) (nt := 90) (rs := [(10,none)]) (ttOK tysOK _ _ _) (envOK (all_cons (qxr n) wz0) wz0) (fn := Tryz.f208) (body := q0k) (all_cons (q0l n) (all_cons (q0m n) (all_cons (q0n n) wz0))) (q0o n)
noncomputable def q0q (n : Nat) : FS := ⟨209,[(.root 0),(.val (.int .i64)),(.val (.int .i64)),(.val (.int .i64)),(.fn 175 .tn)],[(false,(.sl qU0),(.ow .im))],[],(.pair (.int .i64) qU6),.im,fun d => qgm n d.2.1 d.2.2.1 d.2.2.2.1 d.2.2.2.2.2.1⟩
noncomputable def q0r (n : Nat) : Env := ⟨Tryz.prog,tys.tt,mkΓ [qxm n],1,mkGp []⟩
noncomputable def q0s (n : Nat) : Spec := ⟨[0,0,0,1,1,1],(.seq (.seq (.join [(.norm,⟨[(1,(.val (.int .i64))),(4,(.fn 175 .tn)),(12,(.val (.int .i64))),(13,(.val (.int .i64))),(47,(.val .bool))],[(0,0,none)],[(0,false,(.sl qU0),(.ow .im))]⟩)] (.reg [{},{},{ an := 3 },{ an := 7 },{ an := 15 },{ an := 15 },{ an := 15 },{ rd := [0],an := 111 },{ rd := [0],an := 239 },{ an := 15 },{ an := 15 },{ rd := [0],an := 1551 },{ rd := [0],an := 3599 },{ an := 8191 },{ an := 16383 },{ an := 32767 }])) (.cond .leaf .leaf)) (.blk (.reg []))),⟨[(1,(.val (.int .i64))),(4,(.fn 175 .tn)),(12,(.val (.int .i64))),(13,(.val (.int .i64)))],[(0,0,none)],[(0,false,(.sl qU0),(.ow .im))]⟩,[(.exit 0,⟨[(1,(.val (.int .i64))),(4,(.fn 175 .tn)),(12,(.val (.int .i64))),(13,(.val (.int .i64)))],[(0,0,none)],[(0,false,(.sl qU0),(.ow .im))]⟩)],qgl n⟩
noncomputable def q0t (n : Nat) : Spec := ⟨[0,0,0,1,1,1,1],(.seq (.seq (.join [(.norm,⟨[(1,(.val (.int .i64))),(4,(.fn 175 .tn)),(12,(.val (.int .i64))),(13,(.val (.int .i64))),(66,(.val .bool))],[(0,0,none)],[(0,false,(.sl qU0),(.ow .im))]⟩)] (.reg [{},{},{ an := 3 },{ an := 7 },{ an := 15 },{ an := 15 },{ an := 15 },{ rd := [0],an := 111 },{ rd := [0],an := 239 },{ an := 15 },{ an := 15 },{ rd := [0],an := 1551 },{ rd := [0],an := 3599 },{ an := 8191 },{ an := 16383 },{ an := 32767 },{ an := 65535 }])) (.cond .leaf .leaf)) (.blk (.reg []))),⟨[(1,(.val (.int .i64))),(4,(.fn 175 .tn)),(12,(.val (.int .i64))),(13,(.val (.int .i64)))],[(0,0,none)],[(0,false,(.sl qU0),(.ow .im))]⟩,[(.exit 2,⟨[(1,(.val (.int .i64))),(4,(.fn 175 .tn)),(12,(.val (.int .i64))),(13,(.val (.int .i64)))],[(0,0,none)],[(0,false,(.sl qU0),(.ow .im))]⟩)],qgj n⟩
noncomputable def q0u (n : Nat) : Spec := ⟨[0,0,0,0,0,0,0,1,1,1,1,1,1,1,1,1],(.seq (.seq (.join [(.norm,⟨[(1,(.val (.int .i64))),(4,(.fn 175 .tn)),(12,(.val (.int .i64))),(13,(.val (.int .i64))),(120,(.val .bool))],[(0,0,none)],[(0,false,(.sl qU0),(.ow .im))]⟩)] (.reg [{},{},{ an := 3 },{ an := 7 },{ an := 15 },{ an := 15 },{ an := 15 },{ rd := [0],an := 111 },{ rd := [0],an := 239 },{ an := 15 },{ an := 15 },{ rd := [0],an := 1551 },{ rd := [0],an := 3599 },{ an := 8191 },{ an := 16383 },{ an := 32767 }])) (.cond .leaf .leaf)) (.blk (.reg []))),⟨[(1,(.val (.int .i64))),(4,(.fn 175 .tn)),(12,(.val (.int .i64))),(13,(.val (.int .i64)))],[(0,0,none)],[(0,false,(.sl qU0),(.ow .im))]⟩,[(.exit 6,⟨[(1,(.val (.int .i64))),(4,(.fn 175 .tn)),(12,(.val (.int .i64))),(13,(.val (.int .i64)))],[(0,0,none)],[(0,false,(.sl qU0),(.ow .im))]⟩)],qgf n⟩
noncomputable def q0v (n : Nat) : Spec := ⟨[0,0,0,1,0,0,0,0,1,1,1,1,1,1,1,1,1],(.seq (.seq (.join [(.norm,⟨[(1,(.val (.int .i64))),(4,(.fn 175 .tn)),(12,(.val (.int .i64))),(13,(.val (.int .i64))),(139,(.val .bool))],[(0,0,none)],[(0,false,(.sl qU0),(.ow .im))]⟩)] (.reg [{},{},{ an := 3 },{ an := 7 },{ an := 15 },{ an := 15 },{ an := 15 },{ rd := [0],an := 111 },{ rd := [0],an := 239 },{ an := 15 },{ an := 15 },{ rd := [0],an := 1551 },{ rd := [0],an := 3599 },{ an := 8191 },{ an := 16383 },{ an := 32767 },{ an := 65535 }])) (.cond .leaf .leaf)) (.blk (.reg []))),⟨[(1,(.val (.int .i64))),(4,(.fn 175 .tn)),(12,(.val (.int .i64))),(13,(.val (.int .i64)))],[(0,0,none)],[(0,false,(.sl qU0),(.ow .im))]⟩,[(.exit 8,⟨[(1,(.val (.int .i64))),(4,(.fn 175 .tn)),(12,(.val (.int .i64))),(13,(.val (.int .i64)))],[(0,0,none)],[(0,false,(.sl qU0),(.ow .im))]⟩)],qgd n⟩
noncomputable def q0w (n : Nat) : Spec := ⟨[0,0,0,1,1,1,1,1,1,1,1,1],(.blk (.seq (.blk (.loop 2)) (.seq (.blk (.loop 3)) (.seq (.seq (.reg []) (.cond .leaf .leaf)) (.seq (.reg [{},{},{},{},{},{},{ rd := [0],an := 48 },{ rd := [0],an := 112 },{},{},{ rd := [0],an := 768 },{ rd := [0],an := 1792 },{ rd := [0],an := 4083 },{ rd := [0],wr := [0],an := 8179 },{ rd := [0],an := 16383 },{ rd := [0],wr := [0],an := 32767 }]) (.seq (.reg []) (.reg []))))))),⟨[(1,(.val (.int .i64))),(4,(.fn 175 .tn)),(12,(.val (.int .i64))),(13,(.val (.int .i64)))],[(0,0,none)],[(0,false,(.sl qU0),(.ow .im))]⟩,[(.exit 4,⟨[(1,(.val (.int .i64))),(13,(.val (.int .i64)))],[(0,0,none)],[(0,false,(.sl qU0),(.ow .im))]⟩)],qgh n⟩
noncomputable def q0x (n : Nat) : List Spec := [q0s n,q0t n,q0u n,q0v n,q0w n]
noncomputable def q0y : Code := Tryz.f209.body.getD .skip
theorem q0z (n : Nat) : ∀ d,((codeAt q0y (q0s n).path).bind fun c => evC (q0r n) (q0x n) n (q0s n).h c (q0s n).path ((q0s n).inp.mk_ 1 178 d) (finL (q0s n))) = (q0s n).body d := fun d => by kernel_rfl
theorem q00 (n : Nat) : ∀ d,((codeAt q0y (q0t n).path).bind fun c => evC (q0r n) (q0x n) n (q0t n).h c (q0t n).path ((q0t n).inp.mk_ 1 178 d) (finL (q0t n))) = (q0t n).body d := fun d => by kernel_rfl
theorem q01 (n : Nat) : ∀ d,((codeAt q0y (q0u n).path).bind fun c => evC (q0r n) (q0x n) n (q0u n).h c (q0u n).path ((q0u n).inp.mk_ 1 178 d) (finL (q0u n))) = (q0u n).body d := fun d => by kernel_rfl
theorem q02 (n : Nat) : ∀ d,((codeAt q0y (q0v n).path).bind fun c => evC (q0r n) (q0x n) n (q0v n).h c (q0v n).path ((q0v n).inp.mk_ 1 178 d) (finL (q0v n))) = (q0v n).body d := fun d => by kernel_rfl
theorem q03 (n : Nat) : ∀ d,((codeAt q0y (q0w n).path).bind fun c => evC (q0r n) (q0x n) n (q0w n).h c (q0w n).path ((q0w n).inp.mk_ 1 178 d) (finL (q0w n))) = (q0w n).body d := fun d => by kernel_rfl
theorem q04 (n : Nat) : ∀ d,evC (q0r n) (q0x n) n (.seq (.reg []) (.seq (.reg [{},{},{},{},{},{},{ rd := [0],an := 48 },{ rd := [0],an := 112 },{},{},{ rd := [0],an := 768 },{ rd := [0],an := 1792 },{ rd := [0],an := 4083 },{ rd := [0],wr := [0],an := 8179 },{ rd := [0],an := 16383 },{ rd := [0],wr := [0],an := 32767 }]) (.seq (.reg []) (.seq (.blk (.loop 0)) (.seq (.blk (.loop 1)) (.seq (.seq (.reg []) (.cond (.seq (.reg [{},{},{},{},{},{},{ rd := [0],an := 48 },{ rd := [0],an := 112 },{},{},{ rd := [0],an := 768 },{ rd := [0],an := 1792 },{ rd := [0],an := 4083 },{ rd := [0],wr := [0],an := 8179 },{ rd := [0],an := 16383 },{ rd := [0],wr := [0],an := 32767 }]) (.seq (.reg []) .leaf)) .leaf)) (.seq (.reg [{},{},{},{},{},{},{ rd := [0],an := 48 },{ rd := [0],an := 112 },{},{},{ rd := [0],an := 768 },{ rd := [0],an := 1792 },{ rd := [0],an := 4083 },{ rd := [0],wr := [0],an := 8179 },{ rd := [0],an := 16383 },{ rd := [0],wr := [0],an := 32767 }]) (.seq (.reg []) (.seq (.reg []) (.seq (.blk (.loop 4)) (.seq (.reg [{},{},{},{},{},{},{ rd := [0],an := 48 },{ rd := [0],an := 112 },{},{},{ rd := [0],an := 768 },{ rd := [0],an := 1792 },{ rd := [0],an := 4083 },{ rd := [0],wr := [0],an := 8179 },{ rd := [0],an := 16383 },{ rd := [0],wr := [0],an := 32767 }]) (.seq (.reg []) .leaf)))))))))))) q0y [] (ent 1 178 (q0q n).as ((q0q n).io ++ (q0q n).own) d) (finR (q0r n) (q0q n).t (q0q n).m (q0q n).io [(10,none),(11,none)]) = (q0q n).M d := fun d => by kernel_rfl
theorem q05 (n : Nat) : (q0q n).OK Tryz.prog :=
  wz2 (E := q0r n) (L := q0x n) (n := n) (ns := 1) (nt := 178) (rs := [(10,none),(11,none)]) (ttOK tysOK _ _ _) (envOK (all_cons (qxr n) wz0) wz0) (fn := Tryz.f209) (body := q0y) (all_cons (q0z n) (all_cons (q00 n) (all_cons (q01 n) (all_cons (q02 n) (all_cons (q03 n) wz0))))) (q04 n)
noncomputable def q06 (n : Nat) : FS := ⟨194,[(.root 0),(.val (.int .i64)),(.val (.int .i64)),(.val (.int .i64)),(.fn 175 .tn)],[(false,(.sl qU0),(.ow .im))],[],.unit,.im,fun d => qgq n d.2.1 d.2.2.1 d.2.2.2.1 d.2.2.2.2.2.1⟩
noncomputable def q07 (n : Nat) : Env := ⟨Tryz.prog,tys.tt,mkΓ [qxs n,qya n,qyw n,qzm n,qzs n,qz0 n,qxm n,q0e n,q0q n,q06 n],1,mkGp []⟩
noncomputable def q08 (n : Nat) : Spec := ⟨[0,0,1,1],(.blk (.seq (.reg []) (.seq (.seq (.reg []) (.cond (.seq (.reg [{},{},{},{},{ mu := [0] }]) .leaf) .leaf)) (.seq (.seq (.reg []) (.cond (.seq (.reg [{},{},{},{},{ mu := [0] }]) .leaf) .leaf)) (.seq (.join [(.norm,⟨[(1,(.val (.int .i64))),(2,(.val (.int .i64))),(3,(.val (.int .i64))),(4,(.fn 175 .tn)),(10,(.val .bool)),(11,(.val .bool)),(12,(.val (.int .i64)))],[(0,0,none)],[(0,false,(.sl qU0),(.ow .im))]⟩)] (.seq (.reg []) (.cond (.seq (.reg [{},{},{},{},{ mu := [0] }]) (.reg [])) .leaf))) (.seq (.reg []) (.seq (.join [(.norm,⟨[(1,(.val (.int .i64))),(2,(.val (.int .i64))),(3,(.val (.int .i64))),(4,(.fn 175 .tn)),(10,(.val .bool)),(11,(.val .bool)),(12,(.val (.int .i64))),(13,(.val (.int .i64))),(14,(.val (.int .i64)))],[(0,0,none)],[(0,false,(.sl qU0),(.ow .im))]⟩)] (.seq (.reg []) (.cond (.seq (.reg [{},{},{},{},{ mu := [0] }]) (.seq (.reg []) (.reg []))) .leaf))) (.seq (.join [(.ret,⟨[],[],[(0,false,(.sl qU0),(.ow .im))]⟩),(.norm,⟨[(1,(.val (.int .i64))),(2,(.val (.int .i64))),(3,(.val (.int .i64))),(4,(.fn 175 .tn)),(10,(.val .bool)),(11,(.val .bool)),(12,(.val (.int .i64))),(13,(.val (.int .i64)))],[(0,0,none)],[(0,false,(.sl qU0),(.ow .im))]⟩)] (.seq (.join [(.norm,⟨[(1,(.val (.int .i64))),(2,(.val (.int .i64))),(3,(.val (.int .i64))),(4,(.fn 175 .tn)),(10,(.val .bool)),(11,(.val .bool)),(12,(.val (.int .i64))),(13,(.val (.int .i64))),(75,(.val .bool))],[(0,0,none)],[(0,false,(.sl qU0),(.ow .im))]⟩)] (.reg [])) (.cond (.seq (.reg [{},{},{},{},{ mu := [0] }]) (.cond .leaf .leaf)) .leaf))) (.seq (.seq (.join [(.norm,⟨[(1,(.val (.int .i64))),(2,(.val (.int .i64))),(3,(.val (.int .i64))),(4,(.fn 175 .tn)),(10,(.val .bool)),(11,(.val .bool)),(12,(.val (.int .i64))),(13,(.val (.int .i64))),(97,(.val .bool))],[(0,0,none)],[(0,false,(.sl qU0),(.ow .im))]⟩)] (.reg [{},{ an := 1 },{ an := 3 },{ an := 7 },{ an := 7 },{ an := 7 },{ an := 39 },{ rd := [0],an := 119 },{ rd := [0],an := 247 },{ an := 7 },{ an := 7 },{ rd := [0],an := 1543 },{ rd := [0],an := 3591 },{ an := 8191 },{ an := 16383 },{ an := 32767 },{ an := 65535 }])) (.cond (.seq (.reg [{},{},{},{},{},{ mu := [0] }]) (.seq (.reg []) .leaf)) .leaf)) (.seq (.reg [{},{},{},{},{},{ mu := [0] }]) (.seq (.reg []) (.seq (.reg []) (.seq (.reg []) (.seq (.reg []) (.cond (.seq (.reg []) (.seq (.reg [{},{},{},{},{},{ mu := [0] }]) (.reg []))) (.seq (.reg []) (.seq (.reg [{},{},{},{},{},{},{ mu := [0] }]) (.reg [])))))))))))))))))),⟨[(1,(.val (.int .i64))),(2,(.val (.int .i64))),(3,(.val (.int .i64))),(4,(.fn 175 .tn)),(10,(.val .bool)),(11,(.val .bool))],[(0,0,none)],[(0,false,(.sl qU0),(.ow .im))]⟩,[(.ret,⟨[],[],[(0,false,(.sl qU0),(.ow .im))]⟩)],qgo (qgq n) n⟩
noncomputable def q09 (n : Nat) : List Spec := [q08 n]
noncomputable def q1a : Code := Tryz.f194.body.getD .skip
theorem q1b (n : Nat) : ∀ d,((codeAt q1a (q08 n).path).bind fun c => evC (q07 n) (q09 n) n (q08 n).h c (q08 n).path ((q08 n).inp.mk_ 1 148 d) (finL (q08 n))) = (q08 n).body d := fun d => by kernel_rfl
theorem q1c (n : Nat) : ∀ d,evC (q07 n) (q09 n) n (.seq (.reg []) (.seq (.reg []) (.blk (.loop 0)))) q1a [] (ent 1 148 (q06 (n + 1)).as ((q06 (n + 1)).io ++ (q06 (n + 1)).own) d) (finR (q07 n) (q06 (n + 1)).t (q06 (n + 1)).m (q06 (n + 1)).io []) = (q06 (n + 1)).M d := fun d => by kernel_rfl
theorem q1d : ∀ n : Nat,(q06 n).OK Tryz.prog
  | 0 => fs_zero (s := q06 0) (fn := Tryz.f194) (body := q1a) (by kernel_rfl) (by kernel_rfl) (by kernel_rfl) (fun _ => rfl)
  | n + 1 => have ih := q1d n
    wz2 (E := q07 n) (L := q09 n) (n := n) (ns := 1) (nt := 148) (rs := []) (ttOK tysOK _ _ _) (envOK (all_cons (qx1 n) (all_cons (qyj n) (all_cons (qy3 n) (all_cons (qzr n) (all_cons (qzz n) (all_cons (q0d n) (all_cons (qxr n) (all_cons (q0p n) (all_cons (q05 n) (all_cons (ih) wz0)))))))))) wz0) (fn := Tryz.f194) (body := q1a) (all_cons (q1b n) wz0) (q1c n)
theorem q1e (n : Nat) : (q06 n).OK Tryz.prog := (q1d n)
noncomputable def q1f (n : Nat) : FS := ⟨174,[(.root 0),(.fn 175 .tn)],[(false,(.sl qU0),(.ow .im))],[],.unit,.im,fun d => qgr n d.2.2.1⟩
noncomputable def q1g (n : Nat) : Env := ⟨Tryz.prog,tys.tt,mkΓ [qww n,q06 n],1,mkGp []⟩
noncomputable def q1h (n : Nat) : List Spec := []
noncomputable def q1i : Code := Tryz.f174.body.getD .skip
theorem q1j (n : Nat) : ∀ d,evC (q1g n) (q1h n) n (.seq (.reg []) (.reg [{},{},{},{},{},{},{ mu := [0] }])) q1i [] (ent 1 14 (q1f n).as ((q1f n).io ++ (q1f n).own) d) (finR (q1g n) (q1f n).t (q1f n).m (q1f n).io []) = (q1f n).M d := fun d => by kernel_rfl
theorem q1k (n : Nat) : (q1f n).OK Tryz.prog :=
  wz2 (E := q1g n) (L := q1h n) (n := n) (ns := 1) (nt := 14) (rs := []) (ttOK tysOK _ _ _) (envOK (all_cons (qw1 n) (all_cons (q1e n) wz0)) wz0) (fn := Tryz.f174) (body := q1i) wz0 (q1j n)
noncomputable def q1l (n : Nat) : FS := ⟨161,[(.root 0)],[],[(false,(.sl qU0),(.ow .im))],qU10,.im,fun d => qgs n d.2.1⟩
noncomputable def q1m (n : Nat) : Env := ⟨Tryz.prog,tys.tt,mkΓ [q1f n],0,mkGp []⟩
noncomputable def q1n (n : Nat) : List Spec := []
noncomputable def q1o : Code := Tryz.f161.body.getD .skip
theorem q1p (n : Nat) : ∀ d,evC (q1m n) (q1n n) n (.seq (.reg []) (.seq (.reg [{},{ mu := [0] }]) (.seq (.reg []) .leaf))) q1o [] (ent 1 6 (q1l n).as ((q1l n).io ++ (q1l n).own) d) (finR (q1m n) (q1l n).t (q1l n).m (q1l n).io [(2,none)]) = (q1l n).M d := fun d => by kernel_rfl
theorem q1q (n : Nat) : (q1l n).OK Tryz.prog :=
  wz2 (E := q1m n) (L := q1n n) (n := n) (ns := 1) (nt := 6) (rs := [(2,none)]) (ttOK tysOK _ _ _) (envOK (all_cons (q1k n) wz0) wz0) (fn := Tryz.f161) (body := q1o) wz0 (q1p n)
noncomputable def q1r (n : Nat) : FS := ⟨142,[(.val (.sl qU0))],[],[],qU10,.im,fun d => qgt n d.1⟩
noncomputable def q1s (n : Nat) : Env := ⟨Tryz.prog,tys.tt,mkΓ [qwk n,q1l n],0,mkGp []⟩
noncomputable def q1t (n : Nat) : List Spec := []
noncomputable def q1u : Code := Tryz.f142.body.getD .skip
theorem q1v (n : Nat) : ∀ d,evC (q1s n) (q1t n) n (.seq (.reg [{ sl := [0],fl := 1 }]) (.seq (.reg [{},{},{},{},{},{ sl := [1] },{ mu := [1] }]) .leaf)) q1u [] (ent 2 10 (q1r n).as ((q1r n).io ++ (q1r n).own) d) (finR (q1s n) (q1r n).t (q1r n).m (q1r n).io [(2,none)]) = (q1r n).M d := fun d => by kernel_rfl
theorem q1w (n : Nat) : (q1r n).OK Tryz.prog :=
  wz2 (E := q1s n) (L := q1t n) (n := n) (ns := 2) (nt := 10) (rs := [(2,none)]) (ttOK tysOK _ _ _) (envOK (all_cons (qwp n) (all_cons (q1q n) wz0)) wz0) (fn := Tryz.f142) (body := q1u) wz0 (q1v n)
noncomputable def q1x (n : Nat) : FS := ⟨160,[(.val qU0)],[],[],qU11,.im,fun d => qgv n d.1⟩
noncomputable def q1y (n : Nat) : Env := ⟨Tryz.prog,tys.tt,mkΓ [],0,mkGp []⟩
noncomputable def q1z (n : Nat) : List Spec := []
noncomputable def q11 : Code := Tryz.f160.body.getD .skip
theorem q12 (n : Nat) : ∀ b d,evC (q1y n) (q1z n) n (.seq (.reg []) (.seq (.seq (.reg []) (.cond (.seq (.reg []) .leaf) .leaf)) (.seq (.reg [{ sl := [0] }]) .leaf))) q11 [] (entN 1 8 (.int .i64) [] [] d b) (finR (q1y n) (q1x n).t (q1x n).m [] [(2,none)]) = qgu n b d.1 := fun b d => by kernel_rfl
theorem q13 (n : Nat) : (q1x n).OK Tryz.prog :=
  fs_okN (E := q1y n) (L := q1z n) (n := n) (ns := 1) (nt := 8) (rs := [(2,none)]) (f := 160) (t := (.int .i64)) (T := qU11) («as» := []) (io := []) (own := []) (m := .im) (M := (fun d => qgv n d.1 )) (ttOK tysOK _ _ _) (envOK wz0 wz0) (fn := Tryz.f160) (body := q11) (by kernel_rfl) (by kernel_rfl) (by kernel_rfl) (by kernel_rfl) (by kernel_rfl) (wz1 (by kernel_rfl)) (by kernel_rfl) (wz1 (by kernel_rfl)) wz0 (fun d b r hb hr => by
    cases b with
    | false => exact (q12 n false d).trans hr
    | true =>
      obtain ⟨x,d⟩ := d
      obtain rfl := (hb rfl : x = [])
      exact (q12 n true ([],d)).trans hr)
noncomputable def q14 (n : Nat) : FS := ⟨141,[(.val (.sl qU0))],[],[],qU10,.im,fun d => qgy n d.1⟩
noncomputable def q15 (n : Nat) : Env := ⟨Tryz.prog,tys.tt,mkΓ [q1x n],0,mkGp []⟩
noncomputable def q16 (n : Nat) : Spec := ⟨[0,0,1,0,1,1],(.seq (.reg []) (.seq (.cond .leaf .leaf) (.seq (.blk (.seq (.reg []) (.reg [{},{},{},{ sl := [1] }]))) (.reg [])))),⟨[(6,(.val (.sl qU0))),(7,(.val (.int .i64))),(8,(.val (.int .i64)))],[(3,0,none)],[(0,false,(.sl qU0),(.ow .im))]⟩,[(.exit 0,⟨[],[(3,0,none)],[(0,false,(.sl qU0),(.ow .im))]⟩)],qgx n⟩
noncomputable def q17 (n : Nat) : List Spec := [q16 n]
noncomputable def q18 : Code := Tryz.f141.body.getD .skip
theorem q19 (n : Nat) : ∀ d,((codeAt q18 (q16 n).path).bind fun c => evC (q15 n) (q17 n) n (q16 n).h c (q16 n).path ((q16 n).inp.mk_ 2 19 d) (finL (q16 n))) = (q16 n).body d := fun d => by kernel_rfl
theorem q2a (n : Nat) : ∀ d,evC (q15 n) (q17 n) n (.seq (.reg []) (.seq (.reg [{ sl := [0] }]) (.seq (.seq (.reg []) (.blk (.loop 0))) (.seq (.reg []) .leaf)))) q18 [] (ent 2 19 (q14 n).as ((q14 n).io ++ (q14 n).own) d) (finR (q15 n) (q14 n).t (q14 n).m (q14 n).io [(2,none)]) = (q14 n).M d := fun d => by kernel_rfl
theorem q2b (n : Nat) : (q14 n).OK Tryz.prog :=
  wz2 (E := q15 n) (L := q17 n) (n := n) (ns := 2) (nt := 19) (rs := [(2,none)]) (ttOK tysOK _ _ _) (envOK (all_cons (q13 n) wz0) wz0) (fn := Tryz.f141) (body := q18) (all_cons (q19 n) wz0) (q2a n)
noncomputable def q2c (n : Nat) : FS := ⟨86,[(.val (.sl qU0))],[],[],(.pair (.sl qU0) qU4),.im,fun d => qgz n d.1⟩
noncomputable def q2d (n : Nat) : Env := ⟨Tryz.prog,tys.tt,mkΓ [qus n,q1r n,q14 n],0,mkGp []⟩
noncomputable def q2e (n : Nat) : List Spec := []
noncomputable def q2f : Code := Tryz.f86.body.getD .skip
theorem q2g (n : Nat) : ∀ d,evC (q2d n) (q2e n) n (.seq (.reg []) (.seq (.seq (.reg []) (.cond (.seq (.reg []) .leaf) .leaf)) (.seq (.reg []) .leaf))) q2f [] (ent 0 10 (q2c n).as ((q2c n).io ++ (q2c n).own) d) (finR (q2d n) (q2c n).t (q2c n).m (q2c n).io [(2,none),(3,none)]) = (q2c n).M d := fun d => by kernel_rfl
theorem q2h (n : Nat) : (q2c n).OK Tryz.prog :=
  wz2 (E := q2d n) (L := q2e n) (n := n) (ns := 0) (nt := 10) (rs := [(2,none),(3,none)]) (ttOK tysOK _ _ _) (envOK (all_cons (qux n) (all_cons (q1w n) (all_cons (q2b n) wz0))) wz0) (fn := Tryz.f86) (body := q2f) wz0 (q2g n)
noncomputable def q2i (n : Nat) : FS := ⟨87,[(.val qU0),(.val qU0)],[],[],qU11,.im,fun d => qg2 n d.1 d.2.1⟩
noncomputable def q2j (n : Nat) : Env := ⟨Tryz.prog,tys.tt,mkΓ [],0,mkGp []⟩
noncomputable def q2k (n : Nat) : Spec := ⟨[0,0,1,0,1,1],(.seq (.reg []) (.seq (.cond .leaf .leaf) (.seq (.blk (.seq (.reg []) (.reg []))) (.reg [])))),⟨[(1,(.val qU0)),(11,(.val qU0)),(12,(.val (.int .i64))),(13,(.val (.int .i64)))],[(5,0,none)],[(0,false,qU0,(.ow .im))]⟩,[(.exit 0,⟨[],[(5,0,none)],[(0,false,qU0,(.ow .im))]⟩)],qg1 n⟩
noncomputable def q2l (n : Nat) : List Spec := [q2k n]
noncomputable def q2m : Code := Tryz.f87.body.getD .skip
theorem q2n (n : Nat) : ∀ d,((codeAt q2m (q2k n).path).bind fun c => evC (q2j n) (q2l n) n (q2k n).h c (q2k n).path ((q2k n).inp.mk_ 1 27 d) (finL (q2k n))) = (q2k n).body d := fun d => by kernel_rfl
theorem q2o (n : Nat) : ∀ d,evC (q2j n) (q2l n) n (.seq (.reg []) (.seq (.reg [{},{},{ sl := [0] }]) (.seq (.seq (.reg []) (.blk (.loop 0))) (.seq (.reg []) .leaf)))) q2m [] (ent 1 27 (q2i n).as ((q2i n).io ++ (q2i n).own) d) (finR (q2j n) (q2i n).t (q2i n).m (q2i n).io [(4,none)]) = (q2i n).M d := fun d => by kernel_rfl
theorem q2p (n : Nat) : (q2i n).OK Tryz.prog :=
  wz2 (E := q2j n) (L := q2l n) (n := n) (ns := 1) (nt := 27) (rs := [(4,none)]) (ttOK tysOK _ _ _) (envOK wz0 wz0) (fn := Tryz.f87) (body := q2m) (all_cons (q2n n) wz0) (q2o n)
noncomputable def q2q (n : Nat) : FS := ⟨120,[(.val qU0),(.val qU0)],[],[],qU4,.im,fun d => qg3 n d.1 d.2.1⟩
noncomputable def q2r (n : Nat) : Env := ⟨Tryz.prog,tys.tt,mkΓ [qxe n],0,mkGp []⟩
noncomputable def q2s (n : Nat) : List Spec := []
noncomputable def q2t : Code := Tryz.f120.body.getD .skip
theorem q2u (n : Nat) : ∀ d,evC (q2r n) (q2s n) n (.seq (.reg []) (.seq (.reg []) .leaf)) q2t [] (ent 0 8 (q2q n).as ((q2q n).io ++ (q2q n).own) d) (finR (q2r n) (q2q n).t (q2q n).m (q2q n).io [(4,none)]) = (q2q n).M d := fun d => by kernel_rfl
theorem q2v (n : Nat) : (q2q n).OK Tryz.prog :=
  wz2 (E := q2r n) (L := q2s n) (n := n) (ns := 0) (nt := 8) (rs := [(4,none)]) (ttOK tysOK _ _ _) (envOK (all_cons (qxl n) wz0) wz0) (fn := Tryz.f120) (body := q2t) wz0 (q2u n)
noncomputable def q2w (n : Nat) : FS := ⟨119,[(.val (.sl qU0)),(.val qU0),(.fn 120 .tn)],[],[],(.pair (.int .i64) qU6),.im,fun d => qg6 n d.1 d.2.1⟩
noncomputable def q2x (n : Nat) : Env := ⟨Tryz.prog,tys.tt,mkΓ [q2q n],0,mkGp []⟩
noncomputable def q2y (n : Nat) : Spec := ⟨[0,0,0,1,1,1],(.seq (.seq (.reg []) (.cond .leaf .leaf)) (.blk (.seq (.reg []) (.seq (.reg []) (.cond (.reg []) (.reg [])))))),⟨[(0,(.val (.sl qU0))),(1,(.val qU0)),(2,(.fn 120 .tn)),(8,(.val (.int .i64))),(9,(.val (.int .i64))),(10,(.val (.int .i64)))],[],[]⟩,[(.exit 0,⟨[(0,(.val (.sl qU0))),(1,(.val qU0)),(2,(.fn 120 .tn)),(8,(.val (.int .i64))),(9,(.val (.int .i64)))],[],[]⟩)],qg5 n⟩
noncomputable def q2z (n : Nat) : List Spec := [q2y n]
noncomputable def q20 : Code := Tryz.f119.body.getD .skip
theorem q21 (n : Nat) : ∀ d,((codeAt q20 (q2y n).path).bind fun c => evC (q2x n) (q2z n) n (q2y n).h c (q2y n).path ((q2y n).inp.mk_ 0 49 d) (finL (q2y n))) = (q2y n).body d := fun d => by kernel_rfl
theorem q22 (n : Nat) : ∀ d,evC (q2x n) (q2z n) n (.seq (.reg []) (.seq (.reg []) (.seq (.reg []) (.seq (.blk (.loop 0)) (.seq (.reg []) .leaf))))) q20 [] (ent 0 49 (q2w n).as ((q2w n).io ++ (q2w n).own) d) (finR (q2x n) (q2w n).t (q2w n).m (q2w n).io [(6,none),(7,none)]) = (q2w n).M d := fun d => by kernel_rfl
theorem q23 (n : Nat) : (q2w n).OK Tryz.prog :=
  wz2 (E := q2x n) (L := q2z n) (n := n) (ns := 0) (nt := 49) (rs := [(6,none),(7,none)]) (ttOK tysOK _ _ _) (envOK (all_cons (q2v n) wz0) wz0) (fn := Tryz.f119) (body := q20) (all_cons (q21 n) wz0) (q22 n)
noncomputable def q24 (n : Nat) : FS := ⟨62,[(.val (.sl qU0)),(.val qU0)],[],[],(.pair (.int .i64) qU6),.im,fun d => qg7 n d.1 d.2.1⟩
noncomputable def q25 (n : Nat) : Env := ⟨Tryz.prog,tys.tt,mkΓ [q2w n],0,mkGp []⟩
noncomputable def q26 (n : Nat) : List Spec := []
noncomputable def q27 : Code := Tryz.f62.body.getD .skip
theorem q28 (n : Nat) : ∀ d,evC (q25 n) (q26 n) n (.seq (.reg []) (.seq (.reg []) .leaf)) q27 [] (ent 0 11 (q24 n).as ((q24 n).io ++ (q24 n).own) d) (finR (q25 n) (q24 n).t (q24 n).m (q24 n).io [(4,none),(5,none)]) = (q24 n).M d := fun d => by kernel_rfl
theorem q29 (n : Nat) : (q24 n).OK Tryz.prog :=
  wz2 (E := q25 n) (L := q26 n) (n := n) (ns := 0) (nt := 11) (rs := [(4,none),(5,none)]) (ttOK tysOK _ _ _) (envOK (all_cons (q23 n) wz0) wz0) (fn := Tryz.f62) (body := q27) wz0 (q28 n)
noncomputable def q3a (n : Nat) : FS := ⟨38,[(.val (.sl qU0))],[],[],(.pair (.sl qU0) (.pair (.sl qU0) qU4)),.im,fun d => qhc n d.1⟩
noncomputable def q3b (n : Nat) : Env := ⟨Tryz.prog,tys.tt,mkΓ [q2c n,q2i n,q24 n],0,mkGp []⟩
noncomputable def q3c (n : Nat) : Spec := ⟨[0,0,1,1,0,0,1,1,0,0,1,0,1,1,1,1],(.seq (.reg []) (.seq (.cond .leaf .leaf) (.seq (.blk (.seq (.reg []) (.seq (.reg []) (.reg [{},{},{},{},{},{},{},{ sl := [1] }])))) (.reg [])))),⟨[(5,(.val (.sl qU0))),(8,(.val (.int .i64))),(9,(.val qU0)),(30,(.val (.sl qU0))),(31,(.val (.int .i64))),(32,(.val (.int .i64))),(37,(.val (.sl qU0))),(38,(.val (.int .i64))),(39,(.val (.int .i64)))],[(7,0,none)],[(0,false,(.sl qU0),(.ow (.ow .im)))]⟩,[(.exit 3,⟨[(5,(.val (.sl qU0))),(30,(.val (.sl qU0))),(31,(.val (.int .i64))),(32,(.val (.int .i64)))],[(7,0,none)],[(0,false,(.sl qU0),(.ow (.ow .im)))]⟩)],qg9 n⟩
noncomputable def q3d (n : Nat) : Spec := ⟨[0,0,1,0,1,1,1,1],(.seq (.reg []) (.seq (.cond .leaf .leaf) (.seq (.blk (.seq (.reg []) (.seq (.reg []) (.blk (.loop 0))))) (.reg [])))),⟨[(5,(.val (.sl qU0))),(30,(.val (.sl qU0))),(31,(.val (.int .i64))),(32,(.val (.int .i64)))],[(7,0,none)],[(0,false,(.sl qU0),(.ow (.ow .im)))]⟩,[(.exit 1,⟨[(5,(.val (.sl qU0)))],[(7,0,none)],[(0,false,(.sl qU0),(.ow (.ow .im)))]⟩)],qhb n⟩
noncomputable def q3e (n : Nat) : List Spec := [q3c n,q3d n]
noncomputable def q3f : Code := Tryz.f38.body.getD .skip
theorem q3g (n : Nat) : ∀ d,((codeAt q3f (q3c n).path).bind fun c => evC (q3b n) (q3e n) n (q3c n).h c (q3c n).path ((q3c n).inp.mk_ 2 65 d) (finL (q3c n))) = (q3c n).body d := fun d => by kernel_rfl
theorem q3h (n : Nat) : ∀ d,((codeAt q3f (q3d n).path).bind fun c => evC (q3b n) (q3e n) n (q3d n).h c (q3d n).path ((q3d n).inp.mk_ 2 65 d) (finL (q3d n))) = (q3d n).body d := fun d => by kernel_rfl
theorem q3i (n : Nat) : ∀ d,evC (q3b n) (q3e n) n (.seq (.reg []) (.seq (.reg []) (.seq (.blk (.seq (.reg []) (.cond (.seq (.reg []) .leaf) (.seq (.reg []) (.cond (.seq (.reg []) .leaf) .leaf))))) (.seq (.reg [{},{},{ m := (.ow .im),sl := [0] }]) (.seq (.seq (.reg []) (.blk (.loop 1))) (.seq (.reg []) .leaf)))))) q3f [] (ent 2 65 (q3a n).as ((q3a n).io ++ (q3a n).own) d) (finR (q3b n) (q3a n).t (q3a n).m (q3a n).io [(2,none),(3,none),(4,none)]) = (q3a n).M d := fun d => by kernel_rfl
theorem q3j (n : Nat) : (q3a n).OK Tryz.prog :=
  wz2 (E := q3b n) (L := q3e n) (n := n) (ns := 2) (nt := 65) (rs := [(2,none),(3,none),(4,none)]) (ttOK tysOK _ _ _) (envOK (all_cons (q2h n) (all_cons (q2p n) (all_cons (q29 n) wz0))) wz0) (fn := Tryz.f38) (body := q3f) (all_cons (q3g n) (all_cons (q3h n) wz0)) (q3i n)
noncomputable def q3k (n : Nat) : FS := ⟨12,[(.val qU2)],[],[],(.pair (.sl qU0) (.pair qU1 qU4)),.im,fun d => qhl n d.1⟩
noncomputable def q3l (n : Nat) : Env := ⟨Tryz.prog,tys.tt,mkΓ [qt1 n,q3a n,q24 n],0,mkGp []⟩
noncomputable def q3m (n : Nat) : Spec := ⟨[0,0,1,0,1,1,0,0,1,1,0,0,1,1,0,0,1,1,0,0,1,0,1,1,1,1],(.seq (.reg []) (.seq (.cond .leaf .leaf) (.seq (.blk (.seq (.reg []) (.reg [{},{},{},{},{ fl := 15 }]))) (.reg [])))),⟨[(1,(.iadr qU2)),(10,(.val qU0)),(11,(.val .str)),(35,(.val (.sl qU7))),(36,(.val (.int .i64))),(37,(.val (.int .i64))),(45,(.val (.sl qU0))),(46,(.val (.int .i64))),(47,(.val (.int .i64))),(51,(.val qU0)),(52,(.val (.int .i64))),(53,(.val (.int .i64)))],[(3,1,some (qU1,false)),(5,2,none),(6,3,none)],[(1,true,qU1,.im),(2,false,(.sl qU0),(.ow .im)),(3,false,(.mp .str .bool),(.ow .im))]⟩,[(.exit 4,⟨[(1,(.iadr qU2)),(10,(.val qU0)),(11,(.val .str)),(35,(.val (.sl qU7))),(36,(.val (.int .i64))),(37,(.val (.int .i64))),(45,(.val (.sl qU0))),(46,(.val (.int .i64))),(47,(.val (.int .i64)))],[(3,1,some (qU1,false)),(5,2,none),(6,3,none)],[(1,true,qU1,.im),(2,false,(.sl qU0),(.ow .im)),(3,false,(.mp .str .bool),(.ow .im))]⟩)],qhe n⟩
noncomputable def q3n (n : Nat) : Spec := ⟨[0,0,1,1,0,0,1,1,0,0,1,0,1,1,1,1],(.seq (.reg []) (.seq (.cond .leaf .leaf) (.seq (.join [(.norm,⟨[(1,(.iadr qU2)),(35,(.val (.sl qU7))),(36,(.val (.int .i64))),(37,(.val (.int .i64))),(45,(.val (.sl qU0))),(46,(.val (.int .i64))),(47,(.val (.int .i64)))],[(3,1,some (qU1,false)),(5,2,none),(6,3,none)],[(1,true,qU1,.im),(2,false,(.sl qU0),(.ow .im)),(3,false,(.mp .str .bool),(.ow .im))]⟩)] (.blk (.seq (.reg []) (.seq (.reg []) (.seq (.seq (.reg []) (.blk (.loop 0))) (.seq (.reg [{},{},{ fl := 4 }]) (.cond (.seq (.reg [{},{},{ fl := 4 }]) (.reg [{},{},{ sl := [6] }])) .leaf))))))) (.reg [])))),⟨[(1,(.iadr qU2)),(35,(.val (.sl qU7))),(36,(.val (.int .i64))),(37,(.val (.int .i64))),(45,(.val (.sl qU0))),(46,(.val (.int .i64))),(47,(.val (.int .i64)))],[(3,1,some (qU1,false)),(5,2,none),(6,3,none)],[(1,true,qU1,.im),(2,false,(.sl qU0),(.ow .im)),(3,false,(.mp .str .bool),(.ow .im))]⟩,[(.exit 2,⟨[(1,(.iadr qU2)),(35,(.val (.sl qU7))),(36,(.val (.int .i64))),(37,(.val (.int .i64)))],[(3,1,some (qU1,false)),(5,2,none),(6,3,none)],[(1,true,qU1,.im),(2,false,(.sl qU0),(.ow .im)),(3,false,(.mp .str .bool),(.ow .im))]⟩)],qhg n⟩
noncomputable def q3o (n : Nat) : Spec := ⟨[0,0,1,0,1,1,1,1],(.seq (.reg []) (.seq (.cond .leaf .leaf) (.seq (.blk (.seq (.reg [{},{},{ sl := [4],fl := 1 }]) (.seq (.reg [{},{},{},{},{ sl := [5] }]) (.blk (.loop 1))))) (.reg [])))),⟨[(1,(.iadr qU2)),(35,(.val (.sl qU7))),(36,(.val (.int .i64))),(37,(.val (.int .i64)))],[(3,1,some (qU1,false)),(5,2,none),(6,3,none)],[(1,true,qU1,.im),(2,false,(.sl qU0),(.ow .im)),(3,false,(.mp .str .bool),(.ow .im))]⟩,[(.exit 0,⟨[(1,(.iadr qU2))],[(3,1,some (qU1,false)),(5,2,none)],[(1,true,qU1,.im),(2,false,(.sl qU0),(.ow .im))]⟩)],qhk n⟩
noncomputable def q3p (n : Nat) : Spec := ⟨[0,0,1,0,1,1,1,1,1,1,1,1,1,1],(.seq (.reg []) (.seq (.cond .leaf .leaf) (.seq (.blk (.seq (.reg [{},{},{ sl := [9],fl := 1 }]) (.seq (.reg []) (.seq (.reg []) (.reg [{},{},{},{},{},{},{},{ sl := [10] }]))))) (.reg [])))),⟨[(14,(.val (.sl qU0))),(15,(.val (.sl qU0))),(102,(.val (.sl qU7))),(103,(.val (.int .i64))),(104,(.val (.int .i64)))],[(3,1,some (qU1,false)),(19,8,some (qU1,false))],[(1,true,qU1,.im),(8,true,qU1,(.pr .im (.pr (.ow .im) .im)))]⟩,[(.exit 6,⟨[(14,(.val (.sl qU0)))],[(3,1,some (qU1,false)),(19,8,some (qU1,false))],[(1,true,qU1,.im),(8,true,qU1,(.pr .im (.pr (.ow .im) .im)))]⟩)],qhi n⟩
noncomputable def q3q (n : Nat) : List Spec := [q3m n,q3n n,q3o n,q3p n]
noncomputable def q3r : Code := Tryz.f12.body.getD .skip
theorem q3s (n : Nat) : ∀ d,((codeAt q3r (q3m n).path).bind fun c => evC (q3l n) (q3q n) n (q3m n).h c (q3m n).path ((q3m n).inp.mk_ 11 135 d) (finL (q3m n))) = (q3m n).body d := fun d => by kernel_rfl
theorem q3t (n : Nat) : ∀ d,((codeAt q3r (q3n n).path).bind fun c => evC (q3l n) (q3q n) n (q3n n).h c (q3n n).path ((q3n n).inp.mk_ 11 135 d) (finL (q3n n))) = (q3n n).body d := fun d => by kernel_rfl
theorem q3u (n : Nat) : ∀ d,((codeAt q3r (q3o n).path).bind fun c => evC (q3l n) (q3q n) n (q3o n).h c (q3o n).path ((q3o n).inp.mk_ 11 135 d) (finL (q3o n))) = (q3o n).body d := fun d => by kernel_rfl
theorem q3v (n : Nat) : ∀ d,((codeAt q3r (q3p n).path).bind fun c => evC (q3l n) (q3q n) n (q3p n).h c (q3p n).path ((q3p n).inp.mk_ 11 135 d) (finL (q3p n))) = (q3p n).body d := fun d => by kernel_rfl
theorem q3w (n : Nat) : ∀ d,evC (q3l n) (q3q n) n (.seq (.reg [{ sl := [0],fl := 1 },{},{ sl := [1],fl := 1 }]) (.seq (.seq (.reg []) (.cond (.seq (.reg []) .leaf) .leaf)) (.seq (.reg [{},{},{ sl := [2] }]) (.seq (.reg [{ sl := [3],fl := 4 }]) (.seq (.seq (.reg []) (.blk (.loop 2))) (.seq (.seq (.reg []) (.cond (.seq (.reg []) .leaf) .leaf)) (.seq (.reg []) (.seq (.seq (.reg []) (.cond (.seq (.reg []) .leaf) .leaf)) (.seq (.reg []) (.seq (.reg [{},{},{},{ sl := [7] },{},{ m := (.pr .im (.pr (.ow .im) .im)),sl := [8],fl := 1 }]) (.seq (.seq (.reg []) (.blk (.loop 3))) (.seq (.reg [{},{ rd := [8] },{ an := 1 },{ rd := [1,8],wr := [1,8],an := 7 },{ an := 15 }]) .leaf)))))))))))) q3r [] (ent 11 135 (q3k n).as ((q3k n).io ++ (q3k n).own) d) (finR (q3l n) (q3k n).t (q3k n).m (q3k n).io [(2,none),(3,some 39),(4,none)]) = (q3k n).M d := fun d => by kernel_rfl
theorem q3x (n : Nat) : (q3k n).OK Tryz.prog :=
  wz2 (E := q3l n) (L := q3q n) (n := n) (ns := 11) (nt := 135) (rs := [(2,none),(3,some 39),(4,none)]) (ttOK tysOK _ _ _) (envOK (all_cons (qt6 n) (all_cons (q3j n) (all_cons (q29 n) wz0))) wz0) (fn := Tryz.f12) (body := q3r) (all_cons (q3s n) (all_cons (q3t n) (all_cons (q3u n) (all_cons (q3v n) wz0)))) (q3w n)
noncomputable def q3y (n : Nat) : FS := ⟨14,[(.val qU1)],[],[],qU6,.im,fun d => qhm n d.1⟩
noncomputable def q3z (n : Nat) : Env := ⟨Tryz.prog,tys.tt,mkΓ [],0,mkGp []⟩
noncomputable def q30 (n : Nat) : List Spec := []
noncomputable def q31 : Code := Tryz.f14.body.getD .skip
theorem q32 (n : Nat) : ∀ d,evC (q3z n) (q30 n) n (.seq (.reg [{ sl := [0],fl := 1 }]) (.seq (.reg []) .leaf)) q31 [] (ent 1 18 (q3y n).as ((q3y n).io ++ (q3y n).own) d) (finR (q3z n) (q3y n).t (q3y n).m (q3y n).io [(2,none)]) = (q3y n).M d := fun d => by kernel_rfl
theorem q33 (n : Nat) : (q3y n).OK Tryz.prog :=
  wz2 (E := q3z n) (L := q30 n) (n := n) (ns := 1) (nt := 18) (rs := [(2,none)]) (ttOK tysOK _ _ _) (envOK wz0 wz0) (fn := Tryz.f14) (body := q31) wz0 (q32 n)
noncomputable def q34 (n : Nat) : FS := ⟨16,[(.val (.sl qU0))],[],[],qU10,.im,fun d => qht n d.1⟩
noncomputable def q35 (n : Nat) : Env := ⟨Tryz.prog,tys.tt,mkΓ [qrh n,qp4 n],0,mkGp []⟩
noncomputable def q36 (n : Nat) : Spec := ⟨[0,0,0,1,1,0,0,1,0,0,1,0,1,0,0,1,0,0,1,0,1,1],(.seq (.seq (.reg []) (.cond .leaf .leaf)) (.blk (.reg []))),⟨[(0,(.val (.sl qU0))),(4,(.val (.int .i64))),(6,(.val (.int .i64))),(7,(.val qU0)),(8,(.val (.int .i64)))],[(3,0,none),(5,1,none)],[(0,false,(.sl qU0),(.ow .im)),(1,false,qU0,(.ow .im))]⟩,[(.exit 4,⟨[(0,(.val (.sl qU0))),(4,(.val (.int .i64))),(6,(.val (.int .i64))),(8,(.val (.int .i64)))],[(3,0,none),(5,1,none)],[(0,false,(.sl qU0),(.ow .im)),(1,false,qU0,(.ow .im))]⟩)],qho n⟩
noncomputable def q37 (n : Nat) : Spec := ⟨[0,0,1,0,1,0,0,1,0,0,1,0,1,1],(.seq (.seq (.reg []) (.cond .leaf .leaf)) (.seq (.blk (.seq (.reg [{},{},{ an := 3 },{ an := 7 },{},{},{ an := 48 },{ an := 112 },{ an := 255 },{ an := 511 }]) (.seq (.reg []) (.seq (.blk (.loop 0)) (.reg [{},{},{ sl := [2] }]))))) (.reg []))),⟨[(0,(.val (.sl qU0))),(4,(.val (.int .i64))),(6,(.val (.int .i64)))],[(3,0,none),(5,1,none)],[(0,false,(.sl qU0),(.ow .im)),(1,false,qU0,(.ow .im))]⟩,[(.exit 2,⟨[(0,(.val (.sl qU0))),(4,(.val (.int .i64)))],[(3,0,none),(5,1,none)],[(0,false,(.sl qU0),(.ow .im)),(1,false,qU0,(.ow .im))]⟩)],qhq n⟩
noncomputable def q38 (n : Nat) : Spec := ⟨[0,0,1,0,1,1],(.seq (.seq (.reg []) (.cond .leaf .leaf)) (.seq (.blk (.seq (.reg [{ sl := [1] }]) (.seq (.seq (.reg []) (.blk (.loop 1))) (.reg [{},{},{ sl := [3] }])))) (.reg []))),⟨[(0,(.val (.sl qU0))),(4,(.val (.int .i64)))],[(3,0,none)],[(0,false,(.sl qU0),(.ow .im))]⟩,[(.exit 0,⟨[],[(3,0,none)],[(0,false,(.sl qU0),(.ow .im))]⟩)],qhs n⟩
noncomputable def q39 (n : Nat) : List Spec := [q36 n,q37 n,q38 n]
noncomputable def q4a : Code := Tryz.f16.body.getD .skip
theorem q4b (n : Nat) : ∀ d,((codeAt q4a (q36 n).path).bind fun c => evC (q35 n) (q39 n) n (q36 n).h c (q36 n).path ((q36 n).inp.mk_ 4 48 d) (finL (q36 n))) = (q36 n).body d := fun d => by kernel_rfl
theorem q4c (n : Nat) : ∀ d,((codeAt q4a (q37 n).path).bind fun c => evC (q35 n) (q39 n) n (q37 n).h c (q37 n).path ((q37 n).inp.mk_ 4 48 d) (finL (q37 n))) = (q37 n).body d := fun d => by kernel_rfl
theorem q4d (n : Nat) : ∀ d,((codeAt q4a (q38 n).path).bind fun c => evC (q35 n) (q39 n) n (q38 n).h c (q38 n).path ((q38 n).inp.mk_ 4 48 d) (finL (q38 n))) = (q38 n).body d := fun d => by kernel_rfl
theorem q4e (n : Nat) : ∀ d,evC (q35 n) (q39 n) n (.seq (.reg []) (.seq (.reg [{ sl := [0] }]) (.seq (.seq (.reg []) (.blk (.loop 2))) (.seq (.reg []) .leaf)))) q4a [] (ent 4 48 (q34 n).as ((q34 n).io ++ (q34 n).own) d) (finR (q35 n) (q34 n).t (q34 n).m (q34 n).io [(2,none)]) = (q34 n).M d := fun d => by kernel_rfl
theorem q4f (n : Nat) : (q34 n).OK Tryz.prog :=
  wz2 (E := q35 n) (L := q39 n) (n := n) (ns := 4) (nt := 48) (rs := [(2,none)]) (ttOK tysOK _ _ _) (envOK (all_cons (qro n) (all_cons (qqb n) wz0)) wz0) (fn := Tryz.f16) (body := q4a) (all_cons (q4b n) (all_cons (q4c n) (all_cons (q4d n) wz0))) (q4e n)
noncomputable def q4g (n : Nat) : FS := ⟨15,[(.val (.sl qU0)),(.val (.sl qU0))],[],[],qU6,.im,fun d => qhy n d.1 d.2.1⟩
noncomputable def q4h (n : Nat) : Env := ⟨Tryz.prog,tys.tt,mkΓ [],0,mkGp []⟩
noncomputable def q4i (n : Nat) : Spec := ⟨[0,0,1,1,0,0,1,0,0,1,0,1,1],(.seq (.seq (.reg []) (.cond .leaf .leaf)) (.seq (.blk (.seq (.reg [{},{},{ an := 3 },{ an := 7 },{},{ an := 31 },{ an := 63 },{},{},{ an := 384 },{ an := 896 },{},{ an := 3968 },{ an := 8064 },{ an := 16383 }]) (.cond (.seq (.reg []) .leaf) .leaf))) (.reg []))),⟨[(0,(.val (.sl qU0))),(1,(.val (.sl qU0))),(5,(.val (.int .i64))),(6,(.val (.int .i64)))],[],[]⟩,[(.ret,⟨[(4,(.val .bool))],[],[]⟩),(.exit 2,⟨[(0,(.val (.sl qU0))),(1,(.val (.sl qU0))),(5,(.val (.int .i64)))],[],[]⟩)],qhv n⟩
noncomputable def q4j (n : Nat) : Spec := ⟨[0,0,1,0,1,1],(.seq (.seq (.reg []) (.cond .leaf .leaf)) (.seq (.blk (.seq (.seq (.reg [{},{},{ an := 3 },{ an := 7 },{ an := 15 },{},{},{ an := 96 },{ an := 224 },{ an := 480 },{ an := 1023 }]) (.cond (.seq (.reg []) .leaf) .leaf)) (.seq (.reg []) (.blk (.loop 0))))) (.reg []))),⟨[(0,(.val (.sl qU0))),(1,(.val (.sl qU0))),(5,(.val (.int .i64)))],[],[]⟩,[(.ret,⟨[(4,(.val .bool))],[],[]⟩),(.exit 0,⟨[],[],[]⟩)],qhx n⟩
noncomputable def q4k (n : Nat) : List Spec := [q4i n,q4j n]
noncomputable def q4l : Code := Tryz.f15.body.getD .skip
theorem q4m (n : Nat) : ∀ d,((codeAt q4l (q4i n).path).bind fun c => evC (q4h n) (q4k n) n (q4i n).h c (q4i n).path ((q4i n).inp.mk_ 0 53 d) (finL (q4i n))) = (q4i n).body d := fun d => by kernel_rfl
theorem q4n (n : Nat) : ∀ d,((codeAt q4l (q4j n).path).bind fun c => evC (q4h n) (q4k n) n (q4j n).h c (q4j n).path ((q4j n).inp.mk_ 0 53 d) (finL (q4j n))) = (q4j n).body d := fun d => by kernel_rfl
theorem q4o (n : Nat) : ∀ d,evC (q4h n) (q4k n) n (.seq (.reg []) (.seq (.seq (.reg []) (.cond (.seq (.reg []) .leaf) .leaf)) (.seq (.seq (.reg []) (.blk (.loop 1))) (.seq (.reg []) .leaf)))) q4l [] (ent 0 53 (q4g n).as ((q4g n).io ++ (q4g n).own) d) (finR (q4h n) (q4g n).t (q4g n).m (q4g n).io [(4,none)]) = (q4g n).M d := fun d => by kernel_rfl
theorem q4p (n : Nat) : (q4g n).OK Tryz.prog :=
  wz2 (E := q4h n) (L := q4k n) (n := n) (ns := 0) (nt := 53) (rs := [(4,none)]) (ttOK tysOK _ _ _) (envOK wz0 wz0) (fn := Tryz.f15) (body := q4l) (all_cons (q4m n) (all_cons (q4n n) wz0)) (q4o n)
noncomputable def q4q (n : Nat) : FS := ⟨17,[(.val (.sl qU0)),(.val qU1)],[],[],qU6,.im,fun d => qh3 n d.1 d.2.1⟩
noncomputable def q4r (n : Nat) : Env := ⟨Tryz.prog,tys.tt,mkΓ [],0,mkGp []⟩
noncomputable def q4s (n : Nat) : Spec := ⟨[0,0,1,0,1,1,1],(.seq (.seq (.reg []) (.cond .leaf .leaf)) (.seq (.blk (.seq (.reg [{},{},{},{},{},{ sl := [1],fl := 1 }]) (.seq (.join [(.norm,⟨[(3,(.iadr qU1)),(5,(.val (.int .i64))),(6,(.val (.int .i64))),(68,(.val .bool))],[],[]⟩)] (.reg [])) (.cond (.seq (.reg []) .leaf) .leaf)))) (.reg []))),⟨[(3,(.iadr qU1)),(5,(.val (.int .i64))),(6,(.val (.int .i64)))],[],[]⟩,[(.ret,⟨[(4,(.val .bool))],[],[]⟩),(.exit 0,⟨[(3,(.iadr qU1)),(5,(.val (.int .i64)))],[],[]⟩)],qh2 n⟩
noncomputable def q4t (n : Nat) : Spec := ⟨[0,0,1,0,1,1,1,1],(.seq (.seq (.reg []) (.cond .leaf .leaf)) (.seq (.blk (.seq (.join [(.norm,⟨[(3,(.iadr qU1)),(5,(.val (.int .i64))),(8,(.val (.int .i64))),(108,(.val .bool))],[],[]⟩)] (.reg [{},{ an := 1 },{},{ an := 7 },{ an := 15 },{ an := 31 },{ an := 63 },{ an := 127 },{ an := 255 },{ an := 127 },{ an := 1023 },{ an := 2047 },{ an := 127 },{ an := 8191 },{ an := 16383 },{ an := 32767 },{ an := 65535 },{ an := 131071 },{ an := 262143 },{ an := 524287 },{ an := 1048575 },{ an := 524287 },{ an := 4194303 },{ an := 8388607 },{ an := 524287 },{ an := 17301503 },{ an := 524287 },{ an := 67633151 },{ an := 252182527 },{ an := 520617983 },{ an := 1073741823 },{ an := 2147483647 },{ an := 4294967295 }])) (.cond (.seq (.reg []) .leaf) .leaf))) (.reg []))),⟨[(3,(.iadr qU1)),(5,(.val (.int .i64))),(8,(.val (.int .i64)))],[],[]⟩,[(.ret,⟨[(4,(.val .bool))],[],[]⟩),(.exit 2,⟨[],[],[]⟩)],qh0 n⟩
noncomputable def q4u (n : Nat) : List Spec := [q4s n,q4t n]
noncomputable def q4v : Code := Tryz.f17.body.getD .skip
theorem q4w (n : Nat) : ∀ d,((codeAt q4v (q4s n).path).bind fun c => evC (q4r n) (q4u n) n (q4s n).h c (q4s n).path ((q4s n).inp.mk_ 2 109 d) (finL (q4s n))) = (q4s n).body d := fun d => by kernel_rfl
theorem q4x (n : Nat) : ∀ d,((codeAt q4v (q4t n).path).bind fun c => evC (q4r n) (q4u n) n (q4t n).h c (q4t n).path ((q4t n).inp.mk_ 2 109 d) (finL (q4t n))) = (q4t n).body d := fun d => by kernel_rfl
theorem q4y (n : Nat) : ∀ d,evC (q4r n) (q4u n) n (.seq (.reg [{ sl := [0],fl := 1 }]) (.seq (.reg []) (.seq (.seq (.join [(.norm,⟨[(3,(.iadr qU1)),(5,(.val (.int .i64))),(24,(.val .bool))],[],[]⟩)] (.reg [])) (.cond (.seq (.reg []) .leaf) .leaf)) (.seq (.seq (.reg []) (.blk (.loop 0))) (.seq (.seq (.reg []) (.blk (.loop 1))) (.seq (.reg []) .leaf)))))) q4v [] (ent 2 109 (q4q n).as ((q4q n).io ++ (q4q n).own) d) (finR (q4r n) (q4q n).t (q4q n).m (q4q n).io [(4,none)]) = (q4q n).M d := fun d => by kernel_rfl
theorem q4z (n : Nat) : (q4q n).OK Tryz.prog :=
  wz2 (E := q4r n) (L := q4u n) (n := n) (ns := 2) (nt := 109) (rs := [(4,none)]) (ttOK tysOK _ _ _) (envOK wz0 wz0) (fn := Tryz.f17) (body := q4v) (all_cons (q4w n) (all_cons (q4x n) wz0)) (q4y n)
noncomputable def q40 (n : Nat) : FS := ⟨19,[(.val (.int .i64)),(.val (.int .i64))],[],[],(.pair (.sl .bool) .unit),.im,fun d => qh6 n d.1 d.2.1⟩
noncomputable def q41 (n : Nat) : Env := ⟨Tryz.prog,tys.tt,mkΓ [],0,mkGp []⟩
noncomputable def q42 (n : Nat) : Spec := ⟨[0,0,1,0,1,1],(.seq (.seq (.reg []) (.cond .leaf .leaf)) (.seq (.blk (.reg [])) (.reg []))),⟨[(0,(.val (.int .i64))),(1,(.val (.int .i64))),(6,(.val (.int .i64)))],[(5,0,none)],[(0,false,(.sl .bool),(.ow .im))]⟩,[(.exit 0,⟨[],[(5,0,none)],[(0,false,(.sl .bool),(.ow .im))]⟩)],qh5 n⟩
noncomputable def q43 (n : Nat) : List Spec := [q42 n]
noncomputable def q44 : Code := Tryz.f19.body.getD .skip
theorem q45 (n : Nat) : ∀ d,((codeAt q44 (q42 n).path).bind fun c => evC (q41 n) (q43 n) n (q42 n).h c (q42 n).path ((q42 n).inp.mk_ 1 23 d) (finL (q42 n))) = (q42 n).body d := fun d => by kernel_rfl
theorem q46 (n : Nat) : ∀ d,evC (q41 n) (q43 n) n (.seq (.reg []) (.seq (.reg [{},{ sl := [0] }]) (.seq (.seq (.reg []) (.blk (.loop 0))) (.seq (.reg []) .leaf)))) q44 [] (ent 1 23 (q40 n).as ((q40 n).io ++ (q40 n).own) d) (finR (q41 n) (q40 n).t (q40 n).m (q40 n).io [(4,none)]) = (q40 n).M d := fun d => by kernel_rfl
theorem q47 (n : Nat) : (q40 n).OK Tryz.prog :=
  wz2 (E := q41 n) (L := q43 n) (n := n) (ns := 1) (nt := 23) (rs := [(4,none)]) (ttOK tysOK _ _ _) (envOK wz0 wz0) (fn := Tryz.f19) (body := q44) (all_cons (q45 n) wz0) (q46 n)
noncomputable def q48 (n : Nat) : FS := ⟨64,[(.val (.sl qU0)),(.val qU1),(.val (.sl .bool))],[],[],qU4,.im,fun d => qh9 n d.1 d.2.1 d.2.2.1⟩
noncomputable def q49 (n : Nat) : Env := ⟨Tryz.prog,tys.tt,mkΓ [],0,mkGp []⟩
noncomputable def q5a (n : Nat) : Spec := ⟨[0,0,1,0,1,1],(.seq (.seq (.reg []) (.cond .leaf .leaf)) (.seq (.join [(.norm,⟨[(0,(.val (.sl qU0))),(2,(.val (.sl .bool))),(4,(.iadr qU1)),(7,(.val (.int .i64))),(8,(.val (.int .i64)))],[],[]⟩)] (.blk (.seq (.reg []) (.cond (.reg [{},{},{ an := 3 },{ an := 7 },{},{ an := 16 },{},{ an := 112 },{ an := 240 },{ an := 496 },{ an := 1023 },{ an := 2047 },{ an := 4095 }]) (.reg [{},{},{ an := 3 },{ an := 7 },{},{ an := 16 },{},{ an := 112 },{ an := 240 },{ an := 496 },{ an := 1023 },{ an := 2047 },{ an := 4095 }]))))) (.reg []))),⟨[(0,(.val (.sl qU0))),(2,(.val (.sl .bool))),(4,(.iadr qU1)),(7,(.val (.int .i64))),(8,(.val (.int .i64)))],[],[]⟩,[(.exit 0,⟨[(7,(.val (.int .i64)))],[],[]⟩)],qh8 n⟩
noncomputable def q5b (n : Nat) : List Spec := [q5a n]
noncomputable def q5c : Code := Tryz.f64.body.getD .skip
theorem q5d (n : Nat) : ∀ d,((codeAt q5c (q5a n).path).bind fun c => evC (q49 n) (q5b n) n (q5a n).h c (q5a n).path ((q5a n).inp.mk_ 1 50 d) (finL (q5a n))) = (q5a n).body d := fun d => by kernel_rfl
theorem q5e (n : Nat) : ∀ d,evC (q49 n) (q5b n) n (.seq (.reg [{ sl := [0],fl := 1 }]) (.seq (.reg []) (.seq (.seq (.reg []) (.blk (.loop 0))) (.seq (.reg []) .leaf)))) q5c [] (ent 1 50 (q48 n).as ((q48 n).io ++ (q48 n).own) d) (finR (q49 n) (q48 n).t (q48 n).m (q48 n).io [(6,none)]) = (q48 n).M d := fun d => by kernel_rfl
theorem q5f (n : Nat) : (q48 n).OK Tryz.prog :=
  wz2 (E := q49 n) (L := q5b n) (n := n) (ns := 1) (nt := 50) (rs := [(6,none)]) (ttOK tysOK _ _ _) (envOK wz0 wz0) (fn := Tryz.f64) (body := q5c) (all_cons (q5d n) wz0) (q5e n)
noncomputable def q5g (n : Nat) : FS := ⟨63,[(.val qU0),(.val (.int .i64))],[],[],qU6,.im,fun d => qic n d.1 d.2.1⟩
noncomputable def q5h (n : Nat) : Env := ⟨Tryz.prog,tys.tt,mkΓ [],0,mkGp []⟩
noncomputable def q5i (n : Nat) : Spec := ⟨[0,0,1,0,1],(.seq (.seq (.reg []) (.cond .leaf .leaf)) (.seq (.blk (.seq (.reg []) (.cond (.seq (.reg []) .leaf) .leaf))) (.reg []))),⟨[(0,(.val qU0)),(1,(.val (.int .i64))),(5,(.val (.int .i64)))],[],[]⟩,[(.ret,⟨[(4,(.val .bool))],[],[]⟩),(.exit 0,⟨[],[],[]⟩)],qib n⟩
noncomputable def q5j (n : Nat) : List Spec := [q5i n]
noncomputable def q5k : Code := Tryz.f63.body.getD .skip
theorem q5l (n : Nat) : ∀ d,((codeAt q5k (q5i n).path).bind fun c => evC (q5h n) (q5j n) n (q5i n).h c (q5i n).path ((q5i n).inp.mk_ 0 18 d) (finL (q5i n))) = (q5i n).body d := fun d => by kernel_rfl
theorem q5m (n : Nat) : ∀ d,evC (q5h n) (q5j n) n (.seq (.reg []) (.seq (.seq (.reg []) (.blk (.loop 0))) (.seq (.reg []) .leaf))) q5k [] (ent 0 18 (q5g n).as ((q5g n).io ++ (q5g n).own) d) (finR (q5h n) (q5g n).t (q5g n).m (q5g n).io [(4,none)]) = (q5g n).M d := fun d => by kernel_rfl
theorem q5n (n : Nat) : (q5g n).OK Tryz.prog :=
  wz2 (E := q5h n) (L := q5j n) (n := n) (ns := 0) (nt := 18) (rs := [(4,none)]) (ttOK tysOK _ _ _) (envOK wz0 wz0) (fn := Tryz.f63) (body := q5k) (all_cons (q5l n) wz0) (q5m n)
noncomputable def q5o (n : Nat) : FS := ⟨20,[(.val (.sl qU0)),(.val qU1),(.val (.sl .bool))],[],[],qU6,.im,fun d => qid n d.1 d.2.1 d.2.2.1⟩
noncomputable def q5p (n : Nat) : Env := ⟨Tryz.prog,tys.tt,mkΓ [q48 n,q5g n],0,mkGp []⟩
noncomputable def q5q (n : Nat) : List Spec := []
noncomputable def q5r : Code := Tryz.f20.body.getD .skip
theorem q5s (n : Nat) : ∀ d,evC (q5p n) (q5q n) n (.seq (.reg [{ sl := [0],fl := 1 }]) (.seq (.reg [{ rd := [0] },{ rd := [0],an := 1 },{},{ rd := [0] },{},{ an := 28 },{ an := 63 },{ an := 127 }]) .leaf)) q5r [] (ent 1 14 (q5o n).as ((q5o n).io ++ (q5o n).own) d) (finR (q5p n) (q5o n).t (q5o n).m (q5o n).io [(6,none)]) = (q5o n).M d := fun d => by kernel_rfl
theorem q5t (n : Nat) : (q5o n).OK Tryz.prog :=
  wz2 (E := q5p n) (L := q5q n) (n := n) (ns := 1) (nt := 14) (rs := [(6,none)]) (ttOK tysOK _ _ _) (envOK (all_cons (q5f n) (all_cons (q5n n) wz0)) wz0) (fn := Tryz.f20) (body := q5r) wz0 (q5s n)
noncomputable def q5u (n : Nat) : FS := ⟨56,[(.val (.int .i64))],[],[],qU11,(.pr (.ow .im) .im),fun d => qig n d.1⟩
noncomputable def q5v (n : Nat) : Env := ⟨Tryz.prog,tys.tt,mkΓ [],0,mkGp []⟩
noncomputable def q5w (n : Nat) : Spec := ⟨[0,0,1,0,1,1],(.seq (.seq (.reg []) (.cond .leaf .leaf)) (.seq (.blk (.reg [])) (.reg []))),⟨[(0,(.val (.int .i64))),(4,(.val (.int .i64)))],[(3,1,none)],[(1,false,qU0,(.ow .im))]⟩,[(.exit 0,⟨[],[(3,1,none)],[(1,false,qU0,(.ow .im))]⟩)],qif n⟩
noncomputable def q5x (n : Nat) : List Spec := [q5w n]
noncomputable def q5y : Code := Tryz.f56.body.getD .skip
theorem q5z (n : Nat) : ∀ d,((codeAt q5y (q5w n).path).bind fun c => evC (q5v n) (q5x n) n (q5w n).h c (q5w n).path ((q5w n).inp.mk_ 2 17 d) (finL (q5w n))) = (q5w n).body d := fun d => by kernel_rfl
theorem q50 (n : Nat) : ∀ d,evC (q5v n) (q5x n) n (.seq (.reg [{ sl := [0] }]) (.seq (.reg [{},{ sl := [1] }]) (.seq (.seq (.reg []) (.blk (.loop 0))) (.seq (.reg []) .leaf)))) q5y [] (ent 2 17 (q5u n).as ((q5u n).io ++ (q5u n).own) d) (finR (q5v n) (q5u n).t (q5u n).m (q5u n).io [(2,none)]) = (q5u n).M d := fun d => by kernel_rfl
theorem q51 (n : Nat) : (q5u n).OK Tryz.prog :=
  wz2 (E := q5v n) (L := q5x n) (n := n) (ns := 2) (nt := 17) (rs := [(2,none)]) (ttOK tysOK _ _ _) (envOK wz0 wz0) (fn := Tryz.f56) (body := q5y) (all_cons (q5z n) wz0) (q50 n)
noncomputable def q52 (n : Nat) : FS := ⟨65,[(.val qU2),(.val (.sl .bool))],[],[],qU11,.im,fun d => qil n d.1 d.2.1⟩
noncomputable def q53 (n : Nat) : Env := ⟨Tryz.prog,tys.tt,mkΓ [q5u n],0,mkGp []⟩
noncomputable def q54 (n : Nat) : Spec := ⟨[0,0,1,1,1,0,0,1,0,0,1,0,1,1],(.seq (.seq (.reg []) (.cond .leaf .leaf)) (.seq (.blk (.reg [])) (.reg []))),⟨[(1,(.val (.sl .bool))),(2,(.iadr qU2)),(6,(.val (.int .i64))),(7,(.val qU0)),(8,(.val (.int .i64)))],[(5,1,none)],[(1,false,qU0,(.ow .im))]⟩,[(.exit 2,⟨[(1,(.val (.sl .bool))),(2,(.iadr qU2)),(6,(.val (.int .i64)))],[(5,1,none)],[(1,false,qU0,(.ow .im))]⟩)],qii n⟩
noncomputable def q55 (n : Nat) : Spec := ⟨[0,0,1,0,1,1],(.seq (.seq (.reg []) (.cond .leaf .leaf)) (.seq (.blk (.seq (.reg []) (.seq (.join [(.norm,⟨[(1,(.val (.sl .bool))),(2,(.iadr qU2)),(6,(.val (.int .i64))),(7,(.val qU0))],[(5,1,none)],[(1,false,qU0,(.ow .im))]⟩)] (.seq (.reg []) (.cond (.reg []) .leaf))) (.seq (.reg []) (.blk (.loop 0)))))) (.reg []))),⟨[(1,(.val (.sl .bool))),(2,(.iadr qU2)),(6,(.val (.int .i64)))],[(5,1,none)],[(1,false,qU0,(.ow .im))]⟩,[(.exit 0,⟨[],[(5,1,none)],[(1,false,qU0,(.ow .im))]⟩)],qik n⟩
noncomputable def q56 (n : Nat) : List Spec := [q54 n,q55 n]
noncomputable def q57 : Code := Tryz.f65.body.getD .skip
theorem q58 (n : Nat) : ∀ d,((codeAt q57 (q54 n).path).bind fun c => evC (q53 n) (q56 n) n (q54 n).h c (q54 n).path ((q54 n).inp.mk_ 2 57 d) (finL (q54 n))) = (q54 n).body d := fun d => by kernel_rfl
theorem q59 (n : Nat) : ∀ d,((codeAt q57 (q55 n).path).bind fun c => evC (q53 n) (q56 n) n (q55 n).h c (q55 n).path ((q55 n).inp.mk_ 2 57 d) (finL (q55 n))) = (q55 n).body d := fun d => by kernel_rfl
theorem q6a (n : Nat) : ∀ d,evC (q53 n) (q56 n) n (.seq (.reg [{ sl := [0],fl := 1 }]) (.seq (.reg [{},{},{ sl := [1] }]) (.seq (.seq (.reg []) (.blk (.loop 1))) (.seq (.reg []) .leaf)))) q57 [] (ent 2 57 (q52 n).as ((q52 n).io ++ (q52 n).own) d) (finR (q53 n) (q52 n).t (q52 n).m (q52 n).io [(4,none)]) = (q52 n).M d := fun d => by kernel_rfl
theorem q6b (n : Nat) : (q52 n).OK Tryz.prog :=
  wz2 (E := q53 n) (L := q56 n) (n := n) (ns := 2) (nt := 57) (rs := [(4,none)]) (ttOK tysOK _ _ _) (envOK (all_cons (q51 n) wz0) wz0) (fn := Tryz.f65) (body := q57) (all_cons (q58 n) (all_cons (q59 n) wz0)) (q6a n)
noncomputable def q6c (n : Nat) : FS := ⟨21,[(.val qU2),(.val (.sl .bool))],[],[],qU4,.im,fun d => qim n d.1 d.2.1⟩
noncomputable def q6d (n : Nat) : Env := ⟨Tryz.prog,tys.tt,mkΓ [q52 n,qp4 n,qpw n],0,mkGp []⟩
noncomputable def q6e (n : Nat) : List Spec := []
noncomputable def q6f : Code := Tryz.f21.body.getD .skip
theorem q6g (n : Nat) : ∀ d,evC (q6d n) (q6e n) n (.seq (.reg [{ sl := [0],fl := 1 }]) (.seq (.reg []) (.seq (.blk (.seq (.reg []) (.cond (.seq (.reg []) .leaf) (.seq (.reg []) (.cond (.seq (.reg []) .leaf) .leaf))))) (.seq (.reg []) .leaf)))) q6f [] (ent 1 20 (q6c n).as ((q6c n).io ++ (q6c n).own) d) (finR (q6d n) (q6c n).t (q6c n).m (q6c n).io [(4,none)]) = (q6c n).M d := fun d => by kernel_rfl
theorem q6h (n : Nat) : (q6c n).OK Tryz.prog :=
  wz2 (E := q6d n) (L := q6e n) (n := n) (ns := 1) (nt := 20) (rs := [(4,none)]) (ttOK tysOK _ _ _) (envOK (all_cons (q6b n) (all_cons (qqb n) (all_cons (qp3 n) wz0))) wz0) (fn := Tryz.f21) (body := q6f) wz0 (q6g n)
noncomputable def q6i (n : Nat) : FS := ⟨3,[(.val qU2),(.val qU0)],[],[],qU6,.im,fun d => qit n d.1 d.2.1⟩
noncomputable def q6j (n : Nat) : Env := ⟨Tryz.prog,tys.tt,mkΓ [qiu n,qpa n,qqc n,qqk n,qr5 n,qsf n,q3k n,q3y n,q34 n,q4g n,q4q n,qp4 n,q40 n,q5o n,q6c n],0,mkGp []⟩
noncomputable def q6k (n : Nat) : Spec := ⟨[0,0,1,0,1,1,1,0,1,1,1,1],(.seq (.seq (.reg []) (.cond .leaf .leaf)) (.seq (.blk (.seq (.join [(.norm,⟨[(1,(.val qU0)),(2,(.iadr qU2)),(5,(.val (.int .i64))),(8,(.val (.int .i64)))],[(7,1,none)],[(1,false,(.sl qU0),(.ow .im))]⟩)] (.seq (.reg []) (.cond (.reg [{},{},{},{},{},{},{},{ sl := [2] }]) .leaf))) (.seq (.join [(.norm,⟨[(1,(.val qU0)),(2,(.iadr qU2)),(5,(.val (.int .i64))),(8,(.val (.int .i64)))],[(7,1,none)],[(1,false,(.sl qU0),(.ow .im))]⟩)] (.seq (.reg []) (.cond (.reg [{},{},{},{},{},{},{},{ sl := [3] }]) .leaf))) (.seq (.reg []) (.cond (.seq (.reg []) .leaf) .leaf))))) (.reg []))),⟨[(1,(.val qU0)),(2,(.iadr qU2)),(5,(.val (.int .i64))),(8,(.val (.int .i64)))],[(7,1,none)],[(1,false,(.sl qU0),(.ow .im))]⟩,[(.ret,⟨[(4,(.val .bool))],[],[]⟩),(.exit 0,⟨[(1,(.val qU0)),(2,(.iadr qU2)),(5,(.val (.int .i64)))],[(7,1,none)],[(1,false,(.sl qU0),(.ow .im))]⟩)],qiq n⟩
noncomputable def q6l (n : Nat) : Spec := ⟨[0,0,1,0,1,1,1,1,1,1,1,1],(.seq (.seq (.reg []) (.cond .leaf .leaf)) (.seq (.blk (.seq (.join [(.norm,⟨[(1,(.val qU0)),(2,(.iadr qU2)),(6,(.val (.sl qU0))),(9,(.val (.sl qU0))),(12,(.val (.int .i64))),(221,(.val .bool))],[(10,4,some (qU1,false))],[(4,true,qU1,.im)]⟩)] (.reg [{ rd := [4] },{ rd := [4],an := 1 },{},{ an := 7 },{ an := 15 },{ an := 31 },{},{ an := 64 },{},{ an := 448 },{ an := 960 },{ an := 1984 },{ an := 4095 },{ an := 8191 },{ an := 16383 },{ rd := [4],an := 16383 },{ rd := [4],an := 49151 },{ an := 16383 },{ an := 245759 },{ an := 507903 },{ an := 1032191 },{ an := 2097151 },{ an := 4194303 },{ an := 16383 },{ an := 8404991 },{ an := 16383 },{ an := 58736639 },{ an := 125845503 },{ an := 260063231 },{ an := 536870911 },{ an := 1073741823 },{ an := 2147483647 },{ an := 4294967295 },{ an := 8589934591 },{ rd := [4],an := 8589934591 },{ rd := [4],an := 25769803775 },{ an := 8589934591 },{ an := 128849018879 },{ an := 266287972351 },{ an := 541165879295 },{ an := 1099511627775 },{ an := 2199023255551 },{ an := 8589934591 },{ an := 4406636445695 },{ an := 8589934591 },{ an := 30794915512319 },{ an := 65979287601151 },{ an := 136348031778815 },{ an := 281474976710655 },{ an := 562949953421311 },{ an := 1125899906842623 }])) (.cond (.seq (.reg []) .leaf) .leaf))) (.reg []))),⟨[(1,(.val qU0)),(2,(.iadr qU2)),(6,(.val (.sl qU0))),(9,(.val (.sl qU0))),(12,(.val (.int .i64)))],[(10,4,some (qU1,false))],[(4,true,qU1,.im)]⟩,[(.ret,⟨[(4,(.val .bool))],[],[]⟩),(.exit 2,⟨[(1,(.val qU0)),(2,(.iadr qU2)),(9,(.val (.sl qU0)))],[(10,4,some (qU1,false))],[(4,true,qU1,.im)]⟩)],qis n⟩
noncomputable def q6m (n : Nat) : Spec := ⟨[0,0,1,0,1,1,1,1,1,1,1,1,1,1,1,1],(.seq (.seq (.reg []) (.cond .leaf .leaf)) (.seq (.blk (.seq (.reg []) (.seq (.join [(.norm,⟨[(1,(.val qU0)),(2,(.iadr qU2)),(9,(.val (.sl qU0))),(13,(.val (.int .i64))),(14,(.val .bool)),(15,(.val (.int .i64))),(16,(.val (.int .i64)))],[(10,4,some (qU1,false))],[(4,true,qU1,.im)]⟩)] (.seq (.reg []) (.cond (.reg []) .leaf))) (.seq (.reg []) (.seq (.reg [{},{ rd := [4] },{},{ an := 7 },{},{},{ an := 63 },{ an := 127 },{ an := 255 }]) (.cond (.seq (.reg []) .leaf) .leaf)))))) (.reg []))),⟨[(1,(.val qU0)),(2,(.iadr qU2)),(9,(.val (.sl qU0))),(13,(.val (.int .i64))),(14,(.val .bool)),(15,(.val (.int .i64)))],[(10,4,some (qU1,false))],[(4,true,qU1,.im)]⟩,[(.ret,⟨[(4,(.val .bool))],[],[]⟩),(.exit 4,⟨[],[],[]⟩)],qio n⟩
noncomputable def q6n (n : Nat) : List Spec := [q6k n,q6l n,q6m n]
noncomputable def q6o : Code := Tryz.f3.body.getD .skip
theorem q6p (n : Nat) : ∀ d,((codeAt q6o (q6k n).path).bind fun c => evC (q6j n) (q6n n) n (q6k n).h c (q6k n).path ((q6k n).inp.mk_ 5 265 d) (finL (q6k n))) = (q6k n).body d := fun d => by kernel_rfl
theorem q6q (n : Nat) : ∀ d,((codeAt q6o (q6l n).path).bind fun c => evC (q6j n) (q6n n) n (q6l n).h c (q6l n).path ((q6l n).inp.mk_ 5 265 d) (finL (q6l n))) = (q6l n).body d := fun d => by kernel_rfl
theorem q6r (n : Nat) : ∀ d,((codeAt q6o (q6m n).path).bind fun c => evC (q6j n) (q6n n) n (q6m n).h c (q6m n).path ((q6m n).inp.mk_ 5 265 d) (finL (q6m n))) = (q6m n).body d := fun d => by kernel_rfl
theorem q6s (n : Nat) : ∀ d,evC (q6j n) (q6n n) n (.seq (.reg [{ sl := [0],fl := 1 }]) (.seq (.seq (.join [(.norm,⟨[(1,(.val qU0)),(2,(.iadr qU2)),(30,(.val .bool))],[],[]⟩)] (.reg [])) (.cond (.seq (.reg []) .leaf) .leaf)) (.seq (.reg []) (.seq (.reg []) (.seq (.join [(.norm,⟨[(1,(.val qU0)),(2,(.iadr qU2)),(5,(.val (.int .i64))),(6,(.val (.sl qU0)))],[],[]⟩),(.ret,⟨[(4,(.val .bool))],[],[]⟩)] (.seq (.reg []) (.cond (.reg []) (.seq (.reg [{},{},{ sl := [1] }]) (.seq (.seq (.reg []) (.blk (.loop 0))) (.seq (.reg []) (.seq (.reg []) (.cond (.reg []) .leaf)))))))) (.seq (.reg [{},{},{},{},{},{},{},{ sl := [4],fl := 1 }]) (.seq (.seq (.reg []) (.cond (.seq (.reg []) .leaf) .leaf)) (.seq (.seq (.join [(.norm,⟨[(1,(.val qU0)),(2,(.iadr qU2)),(6,(.val (.sl qU0))),(9,(.val (.sl qU0))),(163,(.val .bool))],[(10,4,some (qU1,false))],[(4,true,qU1,.im)]⟩)] (.reg [{},{ an := 1 },{ an := 3 },{ an := 7 },{ an := 7 },{ an := 23 },{ an := 63 },{ an := 127 },{ an := 255 },{ an := 511 },{ an := 1023 },{ rd := [4],an := 1023 },{ an := 4095 },{ an := 8191 },{ an := 16383 },{ an := 32767 },{ rd := [4],an := 65535 },{ rd := [4],an := 131071 },{ an := 65535 },{ an := 327679 },{ an := 1048575 },{ an := 2097151 },{ an := 4194303 },{ rd := [4],an := 8388607 },{ rd := [4],an := 16777215 },{ an := 33554431 },{ an := 8388607 },{ an := 75497471 },{ an := 209715199 },{ an := 536870911 },{ an := 1073741823 },{ an := 2147483647 },{ rd := [4],an := 4294967295 },{ rd := [4],an := 8589934591 },{ an := 17179869183 },{ an := 34359738367 },{ an := 68719476735 },{ an := 137438953471 },{ an := 274877906943 },{ rd := [4],an := 274877906943 },{ rd := [4],an := 824633720831 },{ an := 1924145348607 },{ an := 4123168604159 },{ an := 8796093022207 },{ an := 17592186044415 },{ an := 274877906943 },{ an := 35459249995775 },{ an := 140737488355327 },{ an := 281474976710655 },{ an := 562949953421311 }])) (.cond (.seq (.reg []) .leaf) .leaf)) (.seq (.seq (.reg []) (.blk (.loop 1))) (.seq (.reg []) (.seq (.reg [{},{ an := 1 },{ an := 3 },{},{ an := 8 },{ an := 24 },{ an := 56 },{ an := 120 },{ an := 255 },{ an := 511 },{ an := 1023 }]) (.seq (.join [(.norm,⟨[(1,(.val qU0)),(2,(.iadr qU2)),(9,(.val (.sl qU0))),(13,(.val (.int .i64))),(14,(.val .bool))],[(10,4,some (qU1,false))],[(4,true,qU1,.im)]⟩)] (.seq (.reg []) (.cond (.reg []) .leaf))) (.seq (.seq (.reg []) (.blk (.loop 2))) (.seq (.reg []) .leaf)))))))))))))) q6o [] (ent 5 265 (q6i n).as ((q6i n).io ++ (q6i n).own) d) (finR (q6j n) (q6i n).t (q6i n).m (q6i n).io [(4,none)]) = (q6i n).M d := fun d => by kernel_rfl
theorem q6t (n : Nat) : (q6i n).OK Tryz.prog :=
  wz2 (E := q6j n) (L := q6n n) (n := n) (ns := 5) (nt := 265) (rs := [(4,none)]) (ttOK tysOK _ _ _) (envOK (all_cons (qi1 n) (all_cons (qpf n) (all_cons (qqj n) (all_cons (qqr n) (all_cons (qse n) (all_cons (qsm n) (all_cons (q3x n) (all_cons (q33 n) (all_cons (q4f n) (all_cons (q4p n) (all_cons (q4z n) (all_cons (qqb n) (all_cons (q47 n) (all_cons (q5t n) (all_cons (q6h n) wz0))))))))))))))) wz0) (fn := Tryz.f3) (body := q6o) (all_cons (q6p n) (all_cons (q6q n) (all_cons (q6r n) wz0))) (q6s n)
end Go.Proofs.YtibphkgcdnconaaGreat.V
