import Derived.Test.YtmidcfjmchpcnaaGreatProg
import Derived.Test.YtmidcfjmchpcnaaGreatVd
import Derived.Test.YtmidcfjmchpcnaaGreatMInverse
namespace Go.Proofs.YtmidcfjmchpcnaaGreat.V
open Go
set_option linter.unusedVariables false
set_option linter.all false
theorem wz0 {α : Type _} {p : α → Prop} : ∀ x ∈ ([] : List α),p x := fun _ h => absurd h List.not_mem_nil
theorem wz1 {a b : Nat} (h : Nat.ble a b = true) : a ≤ b := Nat.le_of_ble_eq_true h
theorem wz2 {E : Env} {ns nt : Nat} (hT : TTok E) (hE : EnvOK E) {s : FS} {fn : Func} {body : Code} {L : List Spec} {n : Nat} {h : Hint} {rs : List RV} (hL : LoopsOK E ns nt L n body) (hM : ∀ d,evC E L n h body [] (ent ns nt s.as (s.io ++ s.own) d) (finR E s.t s.m s.io rs) = s.M d) (hf : E.P.funcs[s.f]? = some fn := by kernel_rfl) (hb : fn.body = some body := by kernel_rfl) (hname : (fn.name == "runtime.NumGoroutine") = false := by kernel_rfl) (hres : fn.results = (rs.map RV.to).toArray := by kernel_rfl) (hnt : fn.ntmps = nt := by kernel_rfl) (hlen : Nat.ble s.as.length nt = true := by kernel_rfl) (hio : E.io = s.io.length := by kernel_rfl) (hns : Nat.ble (s.io ++ s.own).length ns = true := by kernel_rfl) : s.OK E.P := fs_ok hT hE hf hb hname hres hnt (Nat.le_of_ble_eq_true hlen) hio (Nat.le_of_ble_eq_true hns) hL hM
abbrev qU0 : Ty := (.pair (.pair (.int .i64) (.pair (.int .i64) .unit)) (.pair (.int .i64) (.pair (.int .i64) (.pair (.sl (.sl (.pair (.int .i64) (.pair (.sl (.int .i64)) .unit)))) (.pair (.sl (.ex .tree (.pair (.int .i64) (.pair (.int .i64) (.pair (.int .i64) (.pair (.int .i64) (.pair (.int .i64) (.pair (.sl (.pair .bool (.pair (.int .i64) .unit))) .unit)))))) .unit)) .unit)))))
abbrev qU1 : Ty := (.ex .tree (.pair (.int .i64) (.pair (.int .i64) (.pair (.int .i64) (.pair (.int .i64) (.pair (.int .i64) (.pair (.sl (.pair .bool (.pair (.int .i64) .unit))) .unit)))))) .unit)
abbrev qU2 : Ty := (.pair (.int .i64) (.pair (.int .i64) .unit))
abbrev qU3 : Ty := (.pair (.int .i64) (.pair (.int .i64) (.pair (.int .i64) (.pair (.int .i64) (.pair (.int .i64) (.pair (.sl (.pair .bool (.pair (.int .i64) .unit))) (.pair (.sl qU1) .unit)))))))
abbrev qU4 : Ty := (.sl (.pair (.int .i64) (.pair (.sl (.int .i64)) .unit)))
abbrev qU5 : Ty := (.sl (.int .i64))
abbrev qU6 : Ty := (.pair (.int .i64) (.pair (.int .i64) qU2))
abbrev qU7 : Ty := (.ex .ptr (.pair qU2 qU2) .unit)
abbrev qU8 : Ty := (.pair (.int .i64) .unit)
abbrev qU9 : Ty := (.pair qU6 (.pair (.sl qU4) (.pair qU5 (.pair qU5 .unit))))
abbrev qU10 : Ty := (.pair .bool .unit)
abbrev qU11 : Ty := (.pair qU7 (.pair qU0 (.pair (.sl (.mp .str (.int .i64))) qU2)))
abbrev qU12 : Ty := (.pair qU0 qU2)
abbrev qU13 : Ty := (.pair .bool qU8)
abbrev qU14 : Ty := (.pair (.int .i64) (.pair qU5 .unit))
abbrev qU15 : Ty := (.ex (.ifc 239 241) qU8 qU2)

noncomputable def tys : Tab := [(3,(.int .i64),8),(4,.bool,1),(5,(.int .u8),1),(9,.str,16),(20,(.ex (.ifc 196 196) .unit .unit),16),(23,qU2,16),(24,(.sl qU4),24),(25,(.sl qU1),24),(27,qU0,80),(28,qU5,24),(31,(.int .i64),8),(44,qU6,32),(48,qU4,24),(50,(.pair (.int .i64) qU2),24),(67,(.pair qU0 (.pair qU0 .unit)),160),(70,(.sl qU5),24),(94,(.sl .bool),24),(108,(.ex .ptr (.int .i64) .unit),8),(110,qU14,32),(116,(.ex .ptr qU9 .unit),8),(118,qU9,104),(124,qU7,8),(130,(.pair qU2 qU2),32),(134,(.ex .ptr qU12 .unit),8),(136,qU12,96),(141,(.sl qU13),24),(143,qU1,88),(160,qU13,16),(163,(.sl (.int .u8)),24),(189,(.ex .ptr qU11 .unit),8),(190,(.sl (.mp .str (.int .i64))),24),(192,qU11,128),(193,(.mp .str (.int .i64)),8),(196,.unit,0),(206,(.ex (.fn1 210) (.sl qU1) .unit),8),(207,(.ex (.fn1 210) (.sl qU1) .unit),8),(216,qU15,16),(239,qU8,8),(241,qU2,16),(244,(.arr 15 (.int .i64)),120)]
theorem tysOK : tys.all (entB Tryz.prog tys) = true := by kernel_rfl
noncomputable def qhm (n : Nat) : FS := ⟨75,[(.val (.sl qU1)),(.val (.int .i64)),(.ptr 0 (.int .i64))],[(true,(.int .i64),.im)],[],qU10,.im,fun d => qad n d.1 d.2.1 d.2.2.2.1⟩
noncomputable def qhn (n : Nat) : Env := ⟨Tryz.prog,tys.tt,mkΓ [qhm n],1,mkGp []⟩
noncomputable def qho (n : Nat) : Spec := ⟨[0,0,1,0,1,1,1],(.seq (.seq (.reg []) (.cond .leaf .leaf)) (.seq (.blk (.seq (.reg [{},{ rd := [0],an := 1 },{ rd := [0],an := 3 },{},{},{ an := 24 },{ an := 56 },{ an := 120 },{ an := 248 },{ an := 504 },{ an := 1023 },{ rd := [0],an := 2047 },{ rd := [0],wr := [0],an := 4095 }]) (.seq (.join [(.norm,⟨[(0,(.val (.sl qU1))),(1,(.val (.int .i64))),(7,(.val (.int .i64))),(55,(.val .bool))],[(2,0,some ((.int .i64),false))],[(0,true,(.int .i64),.im)]⟩)] (.reg [{},{},{},{},{},{},{},{},{},{},{},{},{},{ mu := [0] }])) (.cond (.seq (.reg []) .leaf) .leaf)))) (.reg []))),⟨[(0,(.val (.sl qU1))),(1,(.val (.int .i64))),(7,(.val (.int .i64)))],[(2,0,some ((.int .i64),false))],[(0,true,(.int .i64),.im)]⟩,[(.ret,⟨[(6,(.val .bool))],[],[(0,true,(.int .i64),.im)]⟩),(.exit 0,⟨[],[],[(0,true,(.int .i64),.im)]⟩)],qab (qad n) n⟩
noncomputable def qhp (n : Nat) : List Spec := [qho n]
noncomputable def qhq : Code := Tryz.f75.body.getD .skip
theorem qhr (n : Nat) : ∀ d,((codeAt qhq (qho n).path).bind fun c => evC (qhn n) (qhp n) n (qho n).h c (qho n).path ((qho n).inp.mk_ 1 56 d) (finL (qho n))) = (qho n).body d := fun d => by kernel_rfl
theorem qhs (n : Nat) : ∀ d,evC (qhn n) (qhp n) n (.seq (.reg []) (.seq (.reg []) (.seq (.seq (.join [(.norm,⟨[(0,(.val (.sl qU1))),(1,(.val (.int .i64))),(22,(.val .bool))],[(2,0,some ((.int .i64),false))],[(0,true,(.int .i64),.im)]⟩)] (.reg [])) (.cond (.seq (.reg []) .leaf) .leaf)) (.seq (.seq (.reg []) (.blk (.loop 0))) (.seq (.reg []) .leaf))))) qhq [] (ent 1 56 (qhm (n + 1)).as ((qhm (n + 1)).io ++ (qhm (n + 1)).own) d) (finR (qhn n) (qhm (n + 1)).t (qhm (n + 1)).m (qhm (n + 1)).io [(6,none)]) = (qhm (n + 1)).M d := fun d => by kernel_rfl
theorem qht : ∀ n : Nat,(qhm n).OK Tryz.prog
  | 0 => fs_zero (s := qhm 0) (fn := Tryz.f75) (body := qhq) (by kernel_rfl) (by kernel_rfl) (by kernel_rfl) (fun _ => rfl)
  | n + 1 => have ih := qht n
    wz2 (E := qhn n) (L := qhp n) (n := n) (ns := 1) (nt := 56) (rs := [(6,none)]) (ttOK tysOK _ _ _) (envOK (all_cons (ih) wz0) wz0) (fn := Tryz.f75) (body := qhq) (all_cons (qhr n) wz0) (qhs n)
theorem qhu (n : Nat) : (qhm n).OK Tryz.prog := (qht n)
noncomputable def qhv (n : Nat) : FS := ⟨16,[(.val qU0)],[],[],qU10,.im,fun d => qai n d.1⟩
noncomputable def qhw (n : Nat) : Env := ⟨Tryz.prog,tys.tt,mkΓ [qhm n],0,mkGp []⟩
noncomputable def qhx (n : Nat) : Spec := ⟨[0,0,1,0,0,1,0,0,1,0,1,1,1,1],(.seq (.seq (.join [(.norm,⟨[(1,(.iadr qU0)),(4,(.val (.int .i64))),(5,(.val (.int .i64))),(33,(.val .bool))],[(3,1,some ((.int .i64),false))],[(1,true,(.int .i64),.im)]⟩)] (.reg [])) (.cond .leaf .leaf)) (.seq (.blk (.reg [{ rd := [1] },{},{ an := 2 },{},{ an := 14 },{ an := 30 },{},{ an := 126 },{ an := 254 },{ an := 510 },{ an := 1022 },{ an := 2046 },{ an := 4095 },{ rd := [1],wr := [1],an := 8191 }])) (.reg []))),⟨[(1,(.iadr qU0)),(4,(.val (.int .i64))),(5,(.val (.int .i64)))],[(3,1,some ((.int .i64),false))],[(1,true,(.int .i64),.im)]⟩,[(.exit 2,⟨[(1,(.iadr qU0)),(4,(.val (.int .i64)))],[(3,1,some ((.int .i64),false))],[(1,true,(.int .i64),.im)]⟩)],qaf n⟩
noncomputable def qhy (n : Nat) : Spec := ⟨[0,0,1,0,1,1,1,1],(.seq (.seq (.reg []) (.cond .leaf .leaf)) (.seq (.blk (.seq (.reg []) (.blk (.loop 0)))) (.reg []))),⟨[(1,(.iadr qU0)),(4,(.val (.int .i64)))],[(3,1,some ((.int .i64),false))],[(1,true,(.int .i64),.im)]⟩,[(.exit 0,⟨[],[(3,1,some ((.int .i64),false))],[(1,true,(.int .i64),.im)]⟩)],qah n⟩
noncomputable def qhz (n : Nat) : List Spec := [qhx n,qhy n]
noncomputable def qh0 : Code := Tryz.f16.body.getD .skip
theorem qh1 (n : Nat) : ∀ d,((codeAt qh0 (qhx n).path).bind fun c => evC (qhw n) (qhz n) n (qhx n).h c (qhx n).path ((qhx n).inp.mk_ 2 51 d) (finL (qhx n))) = (qhx n).body d := fun d => by kernel_rfl
theorem qh2 (n : Nat) : ∀ d,((codeAt qh0 (qhy n).path).bind fun c => evC (qhw n) (qhz n) n (qhy n).h c (qhy n).path ((qhy n).inp.mk_ 2 51 d) (finL (qhy n))) = (qhy n).body d := fun d => by kernel_rfl
theorem qh3 (n : Nat) : ∀ d,evC (qhw n) (qhz n) n (.seq (.reg [{ sl := [0],fl := 1 }]) (.seq (.reg [{ sl := [1],fl := 1 }]) (.seq (.seq (.join [(.norm,⟨[(1,(.iadr qU0)),(14,(.val .bool))],[(3,1,some ((.int .i64),false))],[(1,true,(.int .i64),.im)]⟩)] (.reg [{},{},{},{},{},{},{},{ mu := [1] }])) (.cond (.seq (.reg []) .leaf) .leaf)) (.seq (.reg []) (.seq (.seq (.reg []) (.blk (.loop 1))) (.seq (.reg []) .leaf)))))) qh0 [] (ent 2 51 (qhv n).as ((qhv n).io ++ (qhv n).own) d) (finR (qhw n) (qhv n).t (qhv n).m (qhv n).io [(2,none)]) = (qhv n).M d := fun d => by kernel_rfl
theorem qh4 (n : Nat) : (qhv n).OK Tryz.prog :=
  wz2 (E := qhw n) (L := qhz n) (n := n) (ns := 2) (nt := 51) (rs := [(2,none)]) (ttOK tysOK _ _ _) (envOK (all_cons (qhu n) wz0) wz0) (fn := Tryz.f16) (body := qh0) (all_cons (qh1 n) (all_cons (qh2 n) wz0)) (qh3 n)
noncomputable def qh5 (n : Nat) : FS := ⟨147,[(.val (.int .i64))],[],[],(.pair qU13 .unit),.im,fun d => qaj n d.1⟩
noncomputable def qh6 (n : Nat) : Env := ⟨Tryz.prog,tys.tt,mkΓ [],0,mkGp []⟩
noncomputable def qh7 (n : Nat) : List Spec := []
noncomputable def qh8 : Code := Tryz.f147.body.getD .skip
theorem qh9 (n : Nat) : ∀ d,evC (qh6 n) (qh7 n) n (.seq (.reg [{ sl := [0],fl := 1 }]) (.seq (.reg []) .leaf)) qh8 [] (ent 1 5 (qh5 n).as ((qh5 n).io ++ (qh5 n).own) d) (finR (qh6 n) (qh5 n).t (qh5 n).m (qh5 n).io [(2,some 160)]) = (qh5 n).M d := fun d => by kernel_rfl
theorem qia (n : Nat) : (qh5 n).OK Tryz.prog :=
  wz2 (E := qh6 n) (L := qh7 n) (n := n) (ns := 1) (nt := 5) (rs := [(2,some 160)]) (ttOK tysOK _ _ _) (envOK wz0 wz0) (fn := Tryz.f147) (body := qh8) wz0 (qh9 n)
noncomputable def qib (n : Nat) : FS := ⟨148,[(.val (.int .i64))],[],[],(.pair qU13 .unit),.im,fun d => qak n d.1⟩
noncomputable def qic (n : Nat) : Env := ⟨Tryz.prog,tys.tt,mkΓ [],0,mkGp []⟩
noncomputable def qid (n : Nat) : List Spec := []
noncomputable def qie : Code := Tryz.f148.body.getD .skip
theorem qif (n : Nat) : ∀ d,evC (qic n) (qid n) n (.seq (.reg [{ sl := [0],fl := 1 }]) (.seq (.reg []) .leaf)) qie [] (ent 1 5 (qib n).as ((qib n).io ++ (qib n).own) d) (finR (qic n) (qib n).t (qib n).m (qib n).io [(2,some 160)]) = (qib n).M d := fun d => by kernel_rfl
theorem qig (n : Nat) : (qib n).OK Tryz.prog :=
  wz2 (E := qic n) (L := qid n) (n := n) (ns := 1) (nt := 5) (rs := [(2,some 160)]) (ttOK tysOK _ _ _) (envOK wz0 wz0) (fn := Tryz.f148) (body := qie) wz0 (qif n)
noncomputable def qih (n : Nat) : FS := ⟨76,[],[],[],(.pair qU0 .unit),.im,fun d => qal n ⟩
noncomputable def qii (n : Nat) : Env := ⟨Tryz.prog,tys.tt,mkΓ [qh5 n,qib n],0,mkGp []⟩
noncomputable def qij (n : Nat) : List Spec := []
noncomputable def qik : Code := Tryz.f76.body.getD .skip
theorem qil (n : Nat) : ∀ d,evC (qii n) (qij n) n (.seq (.reg [{ sl := [0],fl := 1 }]) (.seq (.reg []) (.seq (.reg []) (.seq (.reg [{},{},{},{},{ sl := [1] },{},{ sl := [2],fl := 1 }]) (.seq (.reg [{},{},{},{},{ sl := [3] },{},{ sl := [4],fl := 1 }]) (.seq (.reg [{},{ sl := [5] },{},{ sl := [6] },{ sl := [7] },{},{},{},{},{ sl := [8] }]) .leaf)))))) qik [] (ent 9 28 (qih n).as ((qih n).io ++ (qih n).own) d) (finR (qii n) (qih n).t (qih n).m (qih n).io [(0,some 27)]) = (qih n).M d := fun d => by kernel_rfl
theorem qim (n : Nat) : (qih n).OK Tryz.prog :=
  wz2 (E := qii n) (L := qij n) (n := n) (ns := 9) (nt := 28) (rs := [(0,some 27)]) (ttOK tysOK _ _ _) (envOK (all_cons (qia n) (all_cons (qig n) wz0)) wz0) (fn := Tryz.f76) (body := qik) wz0 (qil n)
noncomputable def qin (n : Nat) : FS := ⟨164,[(.val (.int .i64))],[],[],qU10,.im,fun d => qao n d.1⟩
noncomputable def qio (n : Nat) : Env := ⟨Tryz.prog,tys.tt,mkΓ [],0,mkGp []⟩
noncomputable def qip (n : Nat) : Spec := ⟨[0,0,1,0,1],(.seq (.seq (.reg []) (.cond .leaf .leaf)) (.seq (.blk (.seq (.reg []) (.cond (.seq (.reg []) .leaf) .leaf))) (.reg []))),⟨[(0,(.val (.int .i64))),(3,(.val (.int .i64)))],[],[]⟩,[(.ret,⟨[(2,(.val .bool))],[],[]⟩),(.exit 0,⟨[(0,(.val (.int .i64)))],[],[]⟩)],qan n⟩
noncomputable def qiq (n : Nat) : List Spec := [qip n]
noncomputable def qir : Code := Tryz.f164.body.getD .skip
theorem qis (n : Nat) : ∀ d,((codeAt qir (qip n).path).bind fun c => evC (qio n) (qiq n) n (qip n).h c (qip n).path ((qip n).inp.mk_ 0 17 d) (finL (qip n))) = (qip n).body d := fun d => by kernel_rfl
theorem qit (n : Nat) : ∀ d,evC (qio n) (qiq n) n (.seq (.reg []) (.seq (.seq (.reg []) (.blk (.loop 0))) (.seq (.reg []) .leaf))) qir [] (ent 0 17 (qin n).as ((qin n).io ++ (qin n).own) d) (finR (qio n) (qin n).t (qin n).m (qin n).io [(2,none)]) = (qin n).M d := fun d => by kernel_rfl
theorem qiu (n : Nat) : (qin n).OK Tryz.prog :=
  wz2 (E := qio n) (L := qiq n) (n := n) (ns := 0) (nt := 17) (rs := [(2,none)]) (ttOK tysOK _ _ _) (envOK wz0 wz0) (fn := Tryz.f164) (body := qir) (all_cons (qis n) wz0) (qit n)
noncomputable def qiv (n : Nat) : FS := ⟨97,[(.val qU2)],[],[],qU10,.im,fun d => qap n d.1⟩
noncomputable def qiw (n : Nat) : Env := ⟨Tryz.prog,tys.tt,mkΓ [qin n],0,mkGp []⟩
noncomputable def qix (n : Nat) : List Spec := []
noncomputable def qiy : Code := Tryz.f97.body.getD .skip
theorem qiz (n : Nat) : ∀ d,evC (qiw n) (qix n) n (.seq (.reg [{ sl := [0],fl := 1 }]) (.seq (.seq (.join [(.norm,⟨[(1,(.iadr qU2)),(30,(.val .bool))],[],[]⟩)] (.reg [])) (.cond (.seq (.reg []) .leaf) .leaf)) (.seq (.reg []) .leaf))) qiy [] (ent 1 34 (qiv n).as ((qiv n).io ++ (qiv n).own) d) (finR (qiw n) (qiv n).t (qiv n).m (qiv n).io [(2,none)]) = (qiv n).M d := fun d => by kernel_rfl
theorem qi0 (n : Nat) : (qiv n).OK Tryz.prog :=
  wz2 (E := qiw n) (L := qix n) (n := n) (ns := 1) (nt := 34) (rs := [(2,none)]) (ttOK tysOK _ _ _) (envOK (all_cons (qiu n) wz0) wz0) (fn := Tryz.f97) (body := qiy) wz0 (qiz n)
noncomputable def qi1 (n : Nat) : FS := ⟨98,[(.val qU4)],[],[],(.pair (.int .i64) qU10),.im,fun d => qaq n d.1⟩
noncomputable def qi2 (n : Nat) : Env := ⟨Tryz.prog,tys.tt,mkΓ [],0,mkGp []⟩
noncomputable def qi3 (n : Nat) : List Spec := []
noncomputable def qi4 : Code := Tryz.f98.body.getD .skip
theorem qi5 (n : Nat) : ∀ d,evC (qi2 n) (qi3 n) n (.seq (.reg []) (.seq (.seq (.reg []) (.cond (.seq (.reg []) .leaf) .leaf)) (.seq (.reg []) .leaf))) qi4 [] (ent 0 12 (qi1 n).as ((qi1 n).io ++ (qi1 n).own) d) (finR (qi2 n) (qi1 n).t (qi1 n).m (qi1 n).io [(2,none),(3,none)]) = (qi1 n).M d := fun d => by kernel_rfl
theorem qi6 (n : Nat) : (qi1 n).OK Tryz.prog :=
  wz2 (E := qi2 n) (L := qi3 n) (n := n) (ns := 0) (nt := 12) (rs := [(2,none),(3,none)]) (ttOK tysOK _ _ _) (envOK wz0 wz0) (fn := Tryz.f98) (body := qi4) wz0 (qi5 n)
noncomputable def qi7 (n : Nat) : FS := ⟨81,[(.val qU2)],[],[],qU8,.im,fun d => qar n d.1⟩
noncomputable def qi8 (n : Nat) : Env := ⟨Tryz.prog,tys.tt,mkΓ [qiv n],0,mkGp []⟩
noncomputable def qi9 (n : Nat) : List Spec := []
noncomputable def qja : Code := Tryz.f81.body.getD .skip
theorem qjb (n : Nat) : ∀ d,evC (qi8 n) (qi9 n) n (.seq (.reg [{ sl := [0],fl := 1 }]) (.seq (.seq (.reg []) (.cond (.seq (.reg []) .leaf) .leaf)) (.seq (.seq (.reg []) (.cond (.seq (.reg []) .leaf) .leaf)) (.seq (.reg []) .leaf)))) qja [] (ent 1 14 (qi7 n).as ((qi7 n).io ++ (qi7 n).own) d) (finR (qi8 n) (qi7 n).t (qi7 n).m (qi7 n).io [(2,none)]) = (qi7 n).M d := fun d => by kernel_rfl
theorem qjc (n : Nat) : (qi7 n).OK Tryz.prog :=
  wz2 (E := qi8 n) (L := qi9 n) (n := n) (ns := 1) (nt := 14) (rs := [(2,none)]) (ttOK tysOK _ _ _) (envOK (all_cons (qi0 n) wz0) wz0) (fn := Tryz.f81) (body := qja) wz0 (qjb n)
noncomputable def qjd (n : Nat) : FS := ⟨227,[(.val (.int .i64))],[],[],qU10,.im,fun d => qas n d.1⟩
noncomputable def qje (n : Nat) : Env := ⟨Tryz.prog,tys.tt,mkΓ [],0,mkGp []⟩
noncomputable def qjf (n : Nat) : List Spec := []
noncomputable def qjg : Code := Tryz.f227.body.getD .skip
theorem qjh (n : Nat) : ∀ d,evC (qje n) (qjf n) n (.seq (.reg []) (.seq (.reg []) .leaf)) qjg [] (ent 0 6 (qjd n).as ((qjd n).io ++ (qjd n).own) d) (finR (qje n) (qjd n).t (qjd n).m (qjd n).io [(2,none)]) = (qjd n).M d := fun d => by kernel_rfl
theorem qji (n : Nat) : (qjd n).OK Tryz.prog :=
  wz2 (E := qje n) (L := qjf n) (n := n) (ns := 0) (nt := 6) (rs := [(2,none)]) (ttOK tysOK _ _ _) (envOK wz0 wz0) (fn := Tryz.f227) (body := qjg) wz0 (qjh n)
noncomputable def qjj (n : Nat) : FS := ⟨202,[(.val (.int .i64)),(.val (.int .i64))],[],[],qU8,.im,fun d => qat n d.1 d.2.1⟩
noncomputable def qjk (n : Nat) : Env := ⟨Tryz.prog,tys.tt,mkΓ [qjd n],0,mkGp []⟩
noncomputable def qjl (n : Nat) : List Spec := []
noncomputable def qjm : Code := Tryz.f202.body.getD .skip
theorem qjn (n : Nat) : ∀ d,evC (qjk n) (qjl n) n (.seq (.reg []) (.seq (.reg []) (.seq (.reg []) (.seq (.seq (.reg []) (.cond (.seq (.seq (.reg []) (.cond (.seq (.reg []) .leaf) .leaf)) (.seq (.reg []) .leaf)) .leaf)) (.seq (.seq (.reg []) (.cond (.seq (.reg []) .leaf) .leaf)) (.seq (.seq (.reg []) (.cond (.seq (.reg []) .leaf) .leaf)) (.seq (.seq (.reg []) (.cond (.seq (.reg []) .leaf) .leaf)) (.seq (.reg []) .leaf)))))))) qjm [] (ent 0 20 (qjj n).as ((qjj n).io ++ (qjj n).own) d) (finR (qjk n) (qjj n).t (qjj n).m (qjj n).io [(4,none)]) = (qjj n).M d := fun d => by kernel_rfl
theorem qjo (n : Nat) : (qjj n).OK Tryz.prog :=
  wz2 (E := qjk n) (L := qjl n) (n := n) (ns := 0) (nt := 20) (rs := [(4,none)]) (ttOK tysOK _ _ _) (envOK (all_cons (qji n) wz0) wz0) (fn := Tryz.f202) (body := qjm) wz0 (qjn n)
noncomputable def qjp (n : Nat) : FS := ⟨162,[(.val qU5),(.val qU5)],[],[],qU8,.im,fun d => qaw n d.1 d.2.1⟩
noncomputable def qjq (n : Nat) : Env := ⟨Tryz.prog,tys.tt,mkΓ [qjj n],0,mkGp []⟩
noncomputable def qjr (n : Nat) : Spec := ⟨[0,0,1,0,1],(.seq (.reg []) (.seq (.cond .leaf .leaf) (.seq (.blk (.seq (.reg []) (.seq (.seq (.reg []) (.cond (.seq (.reg []) .leaf) .leaf)) (.seq (.reg []) (.seq (.reg []) (.seq (.reg []) (.cond (.seq (.reg []) .leaf) .leaf))))))) (.reg [])))),⟨[(0,(.val qU5)),(1,(.val qU5)),(9,(.val qU5)),(10,(.val (.int .i64))),(11,(.val (.int .i64)))],[],[]⟩,[(.ret,⟨[(4,(.val (.int .i64)))],[],[]⟩),(.exit 0,⟨[(0,(.val qU5)),(1,(.val qU5))],[],[]⟩)],qav n⟩
noncomputable def qjs (n : Nat) : List Spec := [qjr n]
noncomputable def qjt : Code := Tryz.f162.body.getD .skip
theorem qju (n : Nat) : ∀ d,((codeAt qjt (qjr n).path).bind fun c => evC (qjq n) (qjs n) n (qjr n).h c (qjr n).path ((qjr n).inp.mk_ 0 36 d) (finL (qjr n))) = (qjr n).body d := fun d => by kernel_rfl
theorem qjv (n : Nat) : ∀ d,evC (qjq n) (qjs n) n (.seq (.reg []) (.seq (.seq (.reg []) (.blk (.loop 0))) (.seq (.seq (.reg []) (.cond (.seq (.reg []) .leaf) .leaf)) (.seq (.reg []) .leaf)))) qjt [] (ent 0 36 (qjp n).as ((qjp n).io ++ (qjp n).own) d) (finR (qjq n) (qjp n).t (qjp n).m (qjp n).io [(4,none)]) = (qjp n).M d := fun d => by kernel_rfl
theorem qjw (n : Nat) : (qjp n).OK Tryz.prog :=
  wz2 (E := qjq n) (L := qjs n) (n := n) (ns := 0) (nt := 36) (rs := [(4,none)]) (ttOK tysOK _ _ _) (envOK (all_cons (qjo n) wz0) wz0) (fn := Tryz.f162) (body := qjt) (all_cons (qju n) wz0) (qjv n)
noncomputable def qjx (n : Nat) : FS := ⟨165,[(.val qU14),(.val qU14)],[],[],qU8,.im,fun d => qax n d.1 d.2.1⟩
noncomputable def qjy (n : Nat) : Env := ⟨Tryz.prog,tys.tt,mkΓ [qjp n],0,mkGp []⟩
noncomputable def qjz (n : Nat) : List Spec := []
noncomputable def qj0 : Code := Tryz.f165.body.getD .skip
theorem qj1 (n : Nat) : ∀ d,evC (qjy n) (qjz n) n (.seq (.reg [{ sl := [0],fl := 1 },{ sl := [1],fl := 1 }]) (.seq (.reg []) .leaf)) qj0 [] (ent 2 10 (qjx n).as ((qjx n).io ++ (qjx n).own) d) (finR (qjy n) (qjx n).t (qjx n).m (qjx n).io [(4,none)]) = (qjx n).M d := fun d => by kernel_rfl
theorem qj2 (n : Nat) : (qjx n).OK Tryz.prog :=
  wz2 (E := qjy n) (L := qjz n) (n := n) (ns := 2) (nt := 10) (rs := [(4,none)]) (ttOK tysOK _ _ _) (envOK (all_cons (qjw n) wz0) wz0) (fn := Tryz.f165) (body := qj0) wz0 (qj1 n)
noncomputable def qj3 (n : Nat) : FS := ⟨166,[(.val (.int .i64))],[],[],qU10,.im,fun d => qay n d.1⟩
noncomputable def qj4 (n : Nat) : Env := ⟨Tryz.prog,tys.tt,mkΓ [],0,mkGp []⟩
noncomputable def qj5 (n : Nat) : List Spec := []
noncomputable def qj6 : Code := Tryz.f166.body.getD .skip
theorem qj7 (n : Nat) : ∀ d,evC (qj4 n) (qj5 n) n (.seq (.reg []) (.seq (.reg []) .leaf)) qj6 [] (ent 0 9 (qj3 n).as ((qj3 n).io ++ (qj3 n).own) d) (finR (qj4 n) (qj3 n).t (qj3 n).m (qj3 n).io [(2,none)]) = (qj3 n).M d := fun d => by kernel_rfl
theorem qj8 (n : Nat) : (qj3 n).OK Tryz.prog :=
  wz2 (E := qj4 n) (L := qj5 n) (n := n) (ns := 0) (nt := 9) (rs := [(2,none)]) (ttOK tysOK _ _ _) (envOK wz0 wz0) (fn := Tryz.f166) (body := qj6) wz0 (qj7 n)
noncomputable def qj9 (n : Nat) : FS := ⟨150,[(.val qU5),(.fn 166 .tn)],[],[],qU8,.im,fun d => qa1 n d.1⟩
noncomputable def qka (n : Nat) : Env := ⟨Tryz.prog,tys.tt,mkΓ [qj3 n],0,mkGp []⟩
noncomputable def qkb (n : Nat) : Spec := ⟨[0,0,1,0,1],(.seq (.reg []) (.seq (.cond .leaf .leaf) (.seq (.blk (.seq (.reg []) (.seq (.reg []) (.cond (.seq (.reg []) .leaf) .leaf)))) (.reg [])))),⟨[(0,(.val qU5)),(1,(.fn 166 .tn)),(7,(.val (.int .i64))),(8,(.val (.int .i64)))],[],[]⟩,[(.ret,⟨[(4,(.val (.int .i64)))],[],[]⟩),(.exit 0,⟨[],[],[]⟩)],qa0 n⟩
noncomputable def qkc (n : Nat) : List Spec := [qkb n]
noncomputable def qkd : Code := Tryz.f150.body.getD .skip
theorem qke (n : Nat) : ∀ d,((codeAt qkd (qkb n).path).bind fun c => evC (qka n) (qkc n) n (qkb n).h c (qkb n).path ((qkb n).inp.mk_ 0 19 d) (finL (qkb n))) = (qkb n).body d := fun d => by kernel_rfl
theorem qkf (n : Nat) : ∀ d,evC (qka n) (qkc n) n (.seq (.reg []) (.seq (.seq (.reg []) (.blk (.loop 0))) (.seq (.reg []) .leaf))) qkd [] (ent 0 19 (qj9 n).as ((qj9 n).io ++ (qj9 n).own) d) (finR (qka n) (qj9 n).t (qj9 n).m (qj9 n).io [(4,none)]) = (qj9 n).M d := fun d => by kernel_rfl
theorem qkg (n : Nat) : (qj9 n).OK Tryz.prog :=
  wz2 (E := qka n) (L := qkc n) (n := n) (ns := 0) (nt := 19) (rs := [(4,none)]) (ttOK tysOK _ _ _) (envOK (all_cons (qj8 n) wz0) wz0) (fn := Tryz.f150) (body := qkd) (all_cons (qke n) wz0) (qkf n)
noncomputable def qkh (n : Nat) : FS := ⟨83,[(.val qU5),(.fn 166 .tn)],[],[],qU10,.im,fun d => qa2 n d.1⟩
noncomputable def qki (n : Nat) : Env := ⟨Tryz.prog,tys.tt,mkΓ [qj9 n],0,mkGp []⟩
noncomputable def qkj (n : Nat) : List Spec := []
noncomputable def qkk : Code := Tryz.f83.body.getD .skip
theorem qkl (n : Nat) : ∀ d,evC (qki n) (qkj n) n (.seq (.reg []) (.seq (.reg []) .leaf)) qkk [] (ent 0 9 (qkh n).as ((qkh n).io ++ (qkh n).own) d) (finR (qki n) (qkh n).t (qkh n).m (qkh n).io [(4,none)]) = (qkh n).M d := fun d => by kernel_rfl
theorem qkm (n : Nat) : (qkh n).OK Tryz.prog :=
  wz2 (E := qki n) (L := qkj n) (n := n) (ns := 0) (nt := 9) (rs := [(4,none)]) (ttOK tysOK _ _ _) (envOK (all_cons (qkg n) wz0) wz0) (fn := Tryz.f83) (body := qkk) wz0 (qkl n)
noncomputable def qkn (n : Nat) : FS := ⟨99,[(.val qU2),(.val (.int .i64)),(.val qU4)],[],[],qU10,.im,fun d => qa5 n d.1 d.2.1 d.2.2.1⟩
noncomputable def qko (n : Nat) : Env := ⟨Tryz.prog,tys.tt,mkΓ [qi7 n,qjx n,qkh n],0,mkGp []⟩
noncomputable def qkp (n : Nat) : Spec := ⟨[0,0,1,0,1,1,1],(.seq (.reg []) (.seq (.cond .leaf .leaf) (.seq (.blk (.seq (.reg [{},{},{},{ sl := [1],fl := 1 }]) (.seq (.seq (.join [(.norm,⟨[(1,(.val (.int .i64))),(2,(.val qU4)),(7,(.val (.int .i64))),(27,(.val qU4)),(28,(.val (.int .i64))),(29,(.val (.int .i64))),(63,(.val .bool))],[(9,1,some (qU14,false))],[(1,true,qU14,.im)]⟩)] (.reg [{ rd := [1] },{ rd := [1],an := 1 },{ an := 3 },{ an := 7 },{ rd := [1],an := 15 },{ rd := [1],an := 31 },{ an := 15 },{ an := 127 },{ an := 255 },{ an := 511 },{ rd := [1],an := 1023 },{ rd := [1],an := 2047 },{ an := 4095 },{ an := 1023 },{ an := 16383 },{ an := 32767 },{ an := 65535 },{ an := 131071 },{ an := 262143 },{ an := 524287 },{ an := 1048575 },{ an := 1048575 },{ an := 3145727 },{ an := 8388607 },{ an := 16777215 },{ rd := [1],an := 1048575 },{ an := 67108863 },{ an := 134217727 },{ an := 268435455 },{ an := 536870911 }])) (.cond (.seq (.reg []) .leaf) .leaf)) (.seq (.reg []) (.cond (.seq (.reg []) .leaf) .leaf))))) (.reg [])))),⟨[(1,(.val (.int .i64))),(2,(.val qU4)),(7,(.val (.int .i64))),(27,(.val qU4)),(28,(.val (.int .i64))),(29,(.val (.int .i64)))],[],[]⟩,[(.ret,⟨[(6,(.val .bool))],[],[]⟩),(.exit 0,⟨[],[],[]⟩)],qa4 n⟩
noncomputable def qkq (n : Nat) : List Spec := [qkp n]
noncomputable def qkr : Code := Tryz.f99.body.getD .skip
theorem qks (n : Nat) : ∀ d,((codeAt qkr (qkp n).path).bind fun c => evC (qko n) (qkq n) n (qkp n).h c (qkp n).path ((qkp n).inp.mk_ 2 68 d) (finL (qkp n))) = (qkp n).body d := fun d => by kernel_rfl
theorem qkt (n : Nat) : ∀ d,evC (qko n) (qkq n) n (.seq (.reg [{ sl := [0],fl := 1 }]) (.seq (.reg []) (.seq (.seq (.join [(.norm,⟨[(1,(.val (.int .i64))),(2,(.val qU4)),(7,(.val (.int .i64))),(26,(.val .bool))],[],[]⟩)] (.reg [])) (.cond (.seq (.reg []) .leaf) .leaf)) (.seq (.seq (.reg []) (.blk (.loop 0))) (.seq (.reg []) .leaf))))) qkr [] (ent 2 68 (qkn n).as ((qkn n).io ++ (qkn n).own) d) (finR (qko n) (qkn n).t (qkn n).m (qkn n).io [(6,none)]) = (qkn n).M d := fun d => by kernel_rfl
theorem qku (n : Nat) : (qkn n).OK Tryz.prog :=
  wz2 (E := qko n) (L := qkq n) (n := n) (ns := 2) (nt := 68) (rs := [(6,none)]) (ttOK tysOK _ _ _) (envOK (all_cons (qjc n) (all_cons (qj2 n) (all_cons (qkm n) wz0))) wz0) (fn := Tryz.f99) (body := qkr) (all_cons (qks n) wz0) (qkt n)
noncomputable def qkv (n : Nat) : FS := ⟨206,[(.val (.int .i64)),(.icl (.iadr qU12))],[],[],qU10,.im,fun d => qa6 n d.1 d.2.1⟩
noncomputable def qkw (n : Nat) : Env := ⟨Tryz.prog,tys.tt,mkΓ [],0,mkGp []⟩
noncomputable def qkx (n : Nat) : List Spec := []
noncomputable def qky : Code := Tryz.f206.body.getD .skip
theorem qkz (n : Nat) : ∀ d,evC (qkw n) (qkx n) n (.seq (.reg []) (.seq (.reg []) .leaf)) qky [] (ent 0 15 (qkv n).as ((qkv n).io ++ (qkv n).own) d) (finR (qkw n) (qkv n).t (qkv n).m (qkv n).io [(3,none)]) = (qkv n).M d := fun d => by kernel_rfl
theorem qk0 (n : Nat) : (qkv n).OK Tryz.prog :=
  wz2 (E := qkw n) (L := qkx n) (n := n) (ns := 0) (nt := 15) (rs := [(3,none)]) (ttOK tysOK _ _ _) (envOK wz0 wz0) (fn := Tryz.f206) (body := qky) wz0 (qkz n)
noncomputable def qk1 (n : Nat) : FS := ⟨207,[(.iadr qU12),(.val (.int .i64))],[],[],qU10,.im,fun d => qa7 n d.1 d.2.1⟩
noncomputable def qk2 (n : Nat) : Env := ⟨Tryz.prog,tys.tt,mkΓ [],0,mkGp []⟩
noncomputable def qk3 (n : Nat) : List Spec := []
noncomputable def qk4 : Code := Tryz.f207.body.getD .skip
theorem qk5 (n : Nat) : ∀ d,evC (qk2 n) (qk3 n) n (.seq (.reg []) (.seq (.reg []) .leaf)) qk4 [] (ent 0 15 (qk1 n).as ((qk1 n).io ++ (qk1 n).own) d) (finR (qk2 n) (qk1 n).t (qk1 n).m (qk1 n).io [(4,none)]) = (qk1 n).M d := fun d => by kernel_rfl
theorem qk6 (n : Nat) : (qk1 n).OK Tryz.prog :=
  wz2 (E := qk2 n) (L := qk3 n) (n := n) (ns := 0) (nt := 15) (rs := [(4,none)]) (ttOK tysOK _ _ _) (envOK wz0 wz0) (fn := Tryz.f207) (body := qk4) wz0 (qk5 n)
noncomputable def qk7 (n : Nat) : FS := ⟨209,[(.val qU13),(.icl (.iadr qU12)),(.icl (.fn 206 (.tc (.icl (.iadr qU12)) .tn))),(.iadr qU3)],[],[],qU10,.im,fun d => qa8 n d.1 d.2.1 d.2.2.1 d.2.2.2.1⟩
noncomputable def qk8 (n : Nat) : Env := ⟨Tryz.prog,tys.tt,mkΓ [qkv n],0,mkGp []⟩
noncomputable def qk9 (n : Nat) : List Spec := []
noncomputable def qla : Code := Tryz.f209.body.getD .skip
theorem qlb (n : Nat) : ∀ d,evC (qk8 n) (qk9 n) n (.seq (.reg [{ sl := [0],fl := 1 }]) (.seq (.seq (.reg []) (.cond (.seq (.reg [{ rd := [0] },{ rd := [0],an := 1 },{ an := 3 },{ an := 7 },{ rd := [0],an := 15 },{ rd := [0],an := 31 },{ an := 15 },{ an := 79 },{ an := 207 },{ an := 463 },{ an := 975 },{ an := 2047 },{ an := 4095 },{ an := 8191 }]) .leaf) .leaf)) (.seq (.reg []) .leaf))) qla [] (ent 1 33 (qk7 n).as ((qk7 n).io ++ (qk7 n).own) d) (finR (qk8 n) (qk7 n).t (qk7 n).m (qk7 n).io [(5,none)]) = (qk7 n).M d := fun d => by kernel_rfl
theorem qlc (n : Nat) : (qk7 n).OK Tryz.prog :=
  wz2 (E := qk8 n) (L := qk9 n) (n := n) (ns := 1) (nt := 33) (rs := [(5,none)]) (ttOK tysOK _ _ _) (envOK (all_cons (qk0 n) wz0) wz0) (fn := Tryz.f209) (body := qla) wz0 (qlb n)
noncomputable def qld (n : Nat) : FS := ⟨228,[(.val (.sl qU13)),(.fn 209 (.tc (.icl (.iadr qU12)) (.tc (.icl (.fn 206 (.tc (.icl (.iadr qU12)) .tn))) (.tc (.iadr qU3) .tn))))],[],[],qU8,.im,fun d => qbb n d.1 d.2.1⟩
noncomputable def qle (n : Nat) : Env := ⟨Tryz.prog,tys.tt,mkΓ [qk7 n],0,mkGp []⟩
noncomputable def qlf (n : Nat) : Spec := ⟨[0,0,1,0,1],(.seq (.reg []) (.seq (.cond .leaf .leaf) (.seq (.blk (.seq (.reg []) (.seq (.reg []) (.cond (.seq (.reg []) .leaf) .leaf)))) (.reg [])))),⟨[(0,(.val (.sl qU13))),(1,(.fn 209 (.tc (.icl (.iadr qU12)) (.tc (.icl (.fn 206 (.tc (.icl (.iadr qU12)) .tn))) (.tc (.iadr qU3) .tn))))),(7,(.val (.int .i64))),(8,(.val (.int .i64)))],[],[]⟩,[(.ret,⟨[(4,(.val (.int .i64)))],[],[]⟩),(.exit 0,⟨[],[],[]⟩)],qba n⟩
noncomputable def qlg (n : Nat) : List Spec := [qlf n]
noncomputable def qlh : Code := Tryz.f228.body.getD .skip
theorem qli (n : Nat) : ∀ d,((codeAt qlh (qlf n).path).bind fun c => evC (qle n) (qlg n) n (qlf n).h c (qlf n).path ((qlf n).inp.mk_ 0 19 d) (finL (qlf n))) = (qlf n).body d := fun d => by kernel_rfl
theorem qlj (n : Nat) : ∀ d,evC (qle n) (qlg n) n (.seq (.reg []) (.seq (.seq (.reg []) (.blk (.loop 0))) (.seq (.reg []) .leaf))) qlh [] (ent 0 19 (qld n).as ((qld n).io ++ (qld n).own) d) (finR (qle n) (qld n).t (qld n).m (qld n).io [(4,none)]) = (qld n).M d := fun d => by kernel_rfl
theorem qlk (n : Nat) : (qld n).OK Tryz.prog :=
  wz2 (E := qle n) (L := qlg n) (n := n) (ns := 0) (nt := 19) (rs := [(4,none)]) (ttOK tysOK _ _ _) (envOK (all_cons (qlc n) wz0) wz0) (fn := Tryz.f228) (body := qlh) (all_cons (qli n) wz0) (qlj n)
noncomputable def qll (n : Nat) : FS := ⟨208,[(.val (.sl qU13)),(.fn 209 (.tc (.icl (.iadr qU12)) (.tc (.icl (.fn 206 (.tc (.icl (.iadr qU12)) .tn))) (.tc (.iadr qU3) .tn))))],[],[],qU10,.im,fun d => qbc n d.1 d.2.1⟩
noncomputable def qlm (n : Nat) : Env := ⟨Tryz.prog,tys.tt,mkΓ [qld n],0,mkGp []⟩
noncomputable def qln (n : Nat) : List Spec := []
noncomputable def qlo : Code := Tryz.f208.body.getD .skip
theorem qlp (n : Nat) : ∀ d,evC (qlm n) (qln n) n (.seq (.reg []) (.seq (.reg []) .leaf)) qlo [] (ent 0 9 (qll n).as ((qll n).io ++ (qll n).own) d) (finR (qlm n) (qll n).t (qll n).m (qll n).io [(4,none)]) = (qll n).M d := fun d => by kernel_rfl
theorem qlq (n : Nat) : (qll n).OK Tryz.prog :=
  wz2 (E := qlm n) (L := qln n) (n := n) (ns := 0) (nt := 9) (rs := [(4,none)]) (ttOK tysOK _ _ _) (envOK (all_cons (qlk n) wz0) wz0) (fn := Tryz.f208) (body := qlo) wz0 (qlp n)
noncomputable def qlr (n : Nat) : FS := ⟨169,[(.ptr 0 qU12),(.val qU1),(.val (.int .i64))],[(true,qU12,.im)],[],qU10,.im,fun d => qbl n d.2.1 d.2.2.1 d.2.2.2.1⟩
noncomputable def qls (n : Nat) : FS := ⟨168,[(.val qU1),(.icl (.ptr 0 qU12)),(.iadr (.int .i64))],[(true,qU12,.im)],[],qU10,.im,fun d => qbm n d.1 d.2.2.1 d.2.2.2.1⟩
noncomputable def qlt (n : Nat) : FS := ⟨205,[(.val (.sl qU1)),(.fn 168 (.tc (.icl (.ptr 0 qU12)) (.tc (.iadr (.int .i64)) .tn)))],[(true,qU12,.im)],[],qU8,.im,fun d => qbn n d.1 d.2.1 d.2.2.1⟩
noncomputable def qlu (n : Nat) : FS := ⟨167,[(.val (.sl qU1)),(.fn 168 (.tc (.icl (.ptr 0 qU12)) (.tc (.iadr (.int .i64)) .tn)))],[(true,qU12,.im)],[],qU10,.im,fun d => qbo n d.1 d.2.1 d.2.2.1⟩
noncomputable def qlv (n : Nat) : FS := ⟨100,[(.ptr 0 qU12),(.val (.sl qU1)),(.val (.int .i64))],[(true,qU12,.im)],[],qU10,.im,fun d => qbp n d.2.1 d.2.2.1 d.2.2.2.1⟩
noncomputable def qlw (n : Nat) : Env := ⟨Tryz.prog,tys.tt,mkΓ [qkv n,qk1 n,qi1 n,qll n,qlv n],1,mkGp []⟩
noncomputable def qlx (n : Nat) : List Spec := []
noncomputable def qly : Code := Tryz.f169.body.getD .skip
theorem qlz (n : Nat) : ∀ d,evC (qlw n) (qlx n) n (.seq (.reg [{ fl := 2 },{ sl := [1],fl := 1 }]) (.seq (.reg [{},{ fl := 3 }]) (.seq (.seq (.reg []) (.blk (.seq (.reg []) (.cond (.seq (.seq (.join [(.norm,⟨[(3,(.icl (.ptr 0 qU12))),(4,(.iadr qU3)),(7,(.icl (.fn 206 (.tc (.icl (.ptr 0 qU12)) .tn)))),(59,(.val .bool))],[],[(0,true,qU12,.im)]⟩)] (.reg [{ rd := [1] },{ rd := [1],an := 1 },{ an := 3 },{ an := 7 },{ rd := [1],an := 15 },{ rd := [1],an := 31 },{ an := 63 },{ an := 127 },{ an := 255 },{ an := 511 },{ rd := [0],an := 1023 },{ rd := [1],an := 1023 },{ rd := [1],an := 3071 },{ rd := [0],an := 8191 },{ an := 16383 },{ an := 32767 },{ an := 65535 },{ rd := [0],an := 131071 },{ rd := [1],an := 131071 },{ rd := [1],an := 393215 },{ rd := [0],an := 1048575 },{ an := 2097151 },{ an := 4194303 },{ an := 8388607 },{ rd := [1],an := 16777215 },{ rd := [1],an := 33554431 },{ an := 67108863 },{ an := 134217727 },{ an := 268435455 },{ rd := [1],an := 536870911 },{ rd := [1],an := 1073741823 },{ rd := [0],an := 536870911 },{ rd := [0],an := 2684354559 },{ rd := [0],an := 6979321855 },{ rd := [0],an := 15569256447 },{ rd := [0],an := 32749125631 },{ an := 67108863999 },{ an := 137438953471 },{ an := 274877906943 },{ an := 549755813887 },{ rd := [1],an := 1099511627775 },{ rd := [1],an := 2199023255551 },{ an := 4398046511103 },{ an := 8796093022207 },{ an := 17592186044415 }])) (.cond (.seq (.reg []) .leaf) .leaf)) (.seq (.seq (.reg [{ rd := [0] },{ rd := [0],an := 1 },{ rd := [0],an := 3 },{ rd := [0],an := 7 },{ rd := [0],an := 15 },{},{ an := 32 },{ an := 127 },{ an := 255 },{ an := 511 },{ an := 1023 },{ an := 2047 },{ an := 2047 },{ an := 4095 },{ an := 16383 }]) (.seq (.join [(.norm,⟨[(3,(.icl (.ptr 0 qU12))),(4,(.iadr qU3)),(7,(.icl (.fn 206 (.tc (.icl (.ptr 0 qU12)) .tn)))),(80,(.val .bool))],[],[(0,true,qU12,.im)]⟩)] (.reg [])) (.cond (.seq (.reg []) .leaf) .leaf))) (.seq (.reg []) .leaf))) (.seq (.reg []) (.cond (.seq (.reg []) .leaf) (.seq (.reg []) (.cond (.seq (.reg [{},{},{},{},{},{},{},{},{},{},{},{},{},{},{},{},{},{},{},{},{},{},{},{},{},{},{},{},{},{},{},{},{},{},{},{ mu := [0] }]) .leaf) .leaf)))))))) (.seq (.reg []) .leaf)))) qly [] (ent 2 164 (qlr (n + 1)).as ((qlr (n + 1)).io ++ (qlr (n + 1)).own) d) (finR (qlw n) (qlr (n + 1)).t (qlr (n + 1)).m (qlr (n + 1)).io [(6,none)]) = (qlr (n + 1)).M d := fun d => by kernel_rfl
noncomputable def ql0 (n : Nat) : Env := ⟨Tryz.prog,tys.tt,mkΓ [qlr n],1,mkGp []⟩
noncomputable def ql1 (n : Nat) : List Spec := []
noncomputable def ql2 : Code := Tryz.f168.body.getD .skip
theorem ql3 (n : Nat) : ∀ d,evC (ql0 n) (ql1 n) n (.seq (.reg [{ sl := [1],fl := 1 }]) (.seq (.reg [{},{},{},{ mu := [0] }]) .leaf)) ql2 [] (ent 2 10 (qls (n + 1)).as ((qls (n + 1)).io ++ (qls (n + 1)).own) d) (finR (ql0 n) (qls (n + 1)).t (qls (n + 1)).m (qls (n + 1)).io [(4,none)]) = (qls (n + 1)).M d := fun d => by kernel_rfl
noncomputable def ql4 (n : Nat) : Env := ⟨Tryz.prog,tys.tt,mkΓ [qls n],1,mkGp []⟩
noncomputable def ql5 (n : Nat) : Spec := ⟨[0,0,1,0,1],(.seq (.reg []) (.seq (.cond .leaf .leaf) (.seq (.blk (.seq (.reg []) (.seq (.reg [{},{},{},{},{},{ mu := [0] }]) (.cond (.seq (.reg []) .leaf) .leaf)))) (.reg [])))),⟨[(0,(.val (.sl qU1))),(1,(.fn 168 (.tc (.icl (.ptr 0 qU12)) (.tc (.iadr (.int .i64)) .tn)))),(7,(.val (.int .i64))),(8,(.val (.int .i64)))],[],[(0,true,qU12,.im)]⟩,[(.ret,⟨[(4,(.val (.int .i64)))],[],[(0,true,qU12,.im)]⟩),(.exit 0,⟨[],[],[(0,true,qU12,.im)]⟩)],qbg (qbl n) (qbm n) (qbn n) (qbo n) (qbp n) n⟩
noncomputable def ql6 (n : Nat) : List Spec := [ql5 n]
noncomputable def ql7 : Code := Tryz.f205.body.getD .skip
theorem ql8 (n : Nat) : ∀ d,((codeAt ql7 (ql5 n).path).bind fun c => evC (ql4 n) (ql6 n) n (ql5 n).h c (ql5 n).path ((ql5 n).inp.mk_ 1 19 d) (finL (ql5 n))) = (ql5 n).body d := fun d => by kernel_rfl
theorem ql9 (n : Nat) : ∀ d,evC (ql4 n) (ql6 n) n (.seq (.reg []) (.seq (.seq (.reg []) (.blk (.loop 0))) (.seq (.reg []) .leaf))) ql7 [] (ent 1 19 (qlt (n + 1)).as ((qlt (n + 1)).io ++ (qlt (n + 1)).own) d) (finR (ql4 n) (qlt (n + 1)).t (qlt (n + 1)).m (qlt (n + 1)).io [(4,none)]) = (qlt (n + 1)).M d := fun d => by kernel_rfl
noncomputable def qma (n : Nat) : Env := ⟨Tryz.prog,tys.tt,mkΓ [qlt n],1,mkGp []⟩
noncomputable def qmb (n : Nat) : List Spec := []
noncomputable def qmc : Code := Tryz.f167.body.getD .skip
theorem qmd (n : Nat) : ∀ d,evC (qma n) (qmb n) n (.seq (.reg []) (.seq (.reg [{},{},{ mu := [0] }]) .leaf)) qmc [] (ent 1 9 (qlu (n + 1)).as ((qlu (n + 1)).io ++ (qlu (n + 1)).own) d) (finR (qma n) (qlu (n + 1)).t (qlu (n + 1)).m (qlu (n + 1)).io [(4,none)]) = (qlu (n + 1)).M d := fun d => by kernel_rfl
noncomputable def qme (n : Nat) : Env := ⟨Tryz.prog,tys.tt,mkΓ [qlu n],1,mkGp []⟩
noncomputable def qmf (n : Nat) : List Spec := []
noncomputable def qmg : Code := Tryz.f100.body.getD .skip
theorem qmh (n : Nat) : ∀ d,evC (qme n) (qmf n) n (.seq (.reg [{ fl := 2 },{ sl := [1],fl := 1 }]) (.seq (.seq (.reg []) (.seq (.join [(.norm,⟨[(1,(.val (.sl qU1))),(3,(.icl (.ptr 0 qU12))),(5,(.iadr (.int .i64))),(24,(.val .bool))],[],[(0,true,qU12,.im)]⟩)] (.reg [])) (.cond (.seq (.reg []) .leaf) .leaf))) (.seq (.reg [{},{},{ mu := [0] }]) .leaf))) qmg [] (ent 2 29 (qlv (n + 1)).as ((qlv (n + 1)).io ++ (qlv (n + 1)).own) d) (finR (qme n) (qlv (n + 1)).t (qlv (n + 1)).m (qlv (n + 1)).io [(6,none)]) = (qlv (n + 1)).M d := fun d => by kernel_rfl
theorem qmi : ∀ n : Nat,(qlr n).OK Tryz.prog ∧ (qls n).OK Tryz.prog ∧ (qlt n).OK Tryz.prog ∧ (qlu n).OK Tryz.prog ∧ (qlv n).OK Tryz.prog
  | 0 => ⟨fs_zero (s := qlr 0) (fn := Tryz.f169) (body := qly) (by kernel_rfl) (by kernel_rfl) (by kernel_rfl) (fun _ => rfl),fs_zero (s := qls 0) (fn := Tryz.f168) (body := ql2) (by kernel_rfl) (by kernel_rfl) (by kernel_rfl) (fun _ => rfl),fs_zero (s := qlt 0) (fn := Tryz.f205) (body := ql7) (by kernel_rfl) (by kernel_rfl) (by kernel_rfl) (fun _ => rfl),fs_zero (s := qlu 0) (fn := Tryz.f167) (body := qmc) (by kernel_rfl) (by kernel_rfl) (by kernel_rfl) (fun _ => rfl),fs_zero (s := qlv 0) (fn := Tryz.f100) (body := qmg) (by kernel_rfl) (by kernel_rfl) (by kernel_rfl) (fun _ => rfl)⟩
  | n + 1 => have ih := qmi n
    ⟨wz2 (E := qlw n) (L := qlx n) (n := n) (ns := 2) (nt := 164) (rs := [(6,none)]) (ttOK tysOK _ _ _) (envOK (all_cons (qk0 n) (all_cons (qk6 n) (all_cons (qi6 n) (all_cons (qlq n) (all_cons (ih.2.2.2.2) wz0))))) wz0) (fn := Tryz.f169) (body := qly) wz0 (qlz n),
    wz2 (E := ql0 n) (L := ql1 n) (n := n) (ns := 2) (nt := 10) (rs := [(4,none)]) (ttOK tysOK _ _ _) (envOK (all_cons (ih.1) wz0) wz0) (fn := Tryz.f168) (body := ql2) wz0 (ql3 n),
    wz2 (E := ql4 n) (L := ql6 n) (n := n) (ns := 1) (nt := 19) (rs := [(4,none)]) (ttOK tysOK _ _ _) (envOK (all_cons (ih.2.1) wz0) wz0) (fn := Tryz.f205) (body := ql7) (all_cons (ql8 n) wz0) (ql9 n),
    wz2 (E := qma n) (L := qmb n) (n := n) (ns := 1) (nt := 9) (rs := [(4,none)]) (ttOK tysOK _ _ _) (envOK (all_cons (ih.2.2.1) wz0) wz0) (fn := Tryz.f167) (body := qmc) wz0 (qmd n),
    wz2 (E := qme n) (L := qmf n) (n := n) (ns := 2) (nt := 29) (rs := [(6,none)]) (ttOK tysOK _ _ _) (envOK (all_cons (ih.2.2.2.1) wz0) wz0) (fn := Tryz.f100) (body := qmg) wz0 (qmh n)⟩
theorem qmj (n : Nat) : (qlr n).OK Tryz.prog := (qmi n).1
theorem qmk (n : Nat) : (qls n).OK Tryz.prog := (qmi n).2.1
theorem qml (n : Nat) : (qlt n).OK Tryz.prog := (qmi n).2.2.1
theorem qmm (n : Nat) : (qlu n).OK Tryz.prog := (qmi n).2.2.2.1
theorem qmn (n : Nat) : (qlv n).OK Tryz.prog := (qmi n).2.2.2.2
noncomputable def qmo (n : Nat) : FS := ⟨33,[(.val qU0)],[],[],qU10,.im,fun d => qbs n d.1⟩
noncomputable def qmp (n : Nat) : Env := ⟨Tryz.prog,tys.tt,mkΓ [qiv n,qi1 n,qkn n,qi7 n,qlv n],0,mkGp []⟩
noncomputable def qmq (n : Nat) : Spec := ⟨[0,0,1,0,1,1],(.seq (.reg []) (.seq (.cond .leaf .leaf) (.seq (.blk (.seq (.reg []) (.seq (.reg []) (.seq (.reg []) (.cond (.seq (.reg []) .leaf) .leaf))))) (.reg [])))),⟨[(1,(.iadr qU0)),(39,(.val (.sl qU4))),(40,(.val (.int .i64))),(41,(.val (.int .i64)))],[],[]⟩,[(.ret,⟨[(2,(.val .bool))],[],[]⟩),(.exit 0,⟨[(1,(.iadr qU0))],[],[]⟩)],qbr n⟩
noncomputable def qmr (n : Nat) : List Spec := [qmq n]
noncomputable def qms : Code := Tryz.f33.body.getD .skip
theorem qmt (n : Nat) : ∀ d,((codeAt qms (qmq n).path).bind fun c => evC (qmp n) (qmr n) n (qmq n).h c (qmq n).path ((qmq n).inp.mk_ 2 67 d) (finL (qmq n))) = (qmq n).body d := fun d => by kernel_rfl
theorem qmu (n : Nat) : ∀ d,evC (qmp n) (qmr n) n (.seq (.reg [{ sl := [0],fl := 1 }]) (.seq (.seq (.join [(.norm,⟨[(1,(.iadr qU0)),(37,(.val .bool))],[],[]⟩)] (.reg [])) (.cond (.seq (.reg []) .leaf) .leaf)) (.seq (.seq (.reg []) (.blk (.loop 0))) (.seq (.reg [{},{},{ an := 2 },{ an := 6 },{ an := 15 },{ sl := [1],fl := 1,rd := [1],wr := [1],an := 31 },{ an := 63 }]) (.seq (.reg [{},{},{},{ mu := [1] }]) .leaf))))) qms [] (ent 2 67 (qmo n).as ((qmo n).io ++ (qmo n).own) d) (finR (qmp n) (qmo n).t (qmo n).m (qmo n).io [(2,none)]) = (qmo n).M d := fun d => by kernel_rfl
theorem qmv (n : Nat) : (qmo n).OK Tryz.prog :=
  wz2 (E := qmp n) (L := qmr n) (n := n) (ns := 2) (nt := 67) (rs := [(2,none)]) (ttOK tysOK _ _ _) (envOK (all_cons (qi0 n) (all_cons (qi6 n) (all_cons (qku n) (all_cons (qjc n) (all_cons (qmn n) wz0))))) wz0) (fn := Tryz.f33) (body := qms) (all_cons (qmt n) wz0) (qmu n)
noncomputable def qmw (n : Nat) : FS := ⟨84,[(.val (.sl qU1))],[],[],qU8,.im,fun d => qbw n d.1⟩
noncomputable def qmx (n : Nat) : Env := ⟨Tryz.prog,tys.tt,mkΓ [qmw n],0,mkGp []⟩
noncomputable def qmy (n : Nat) : Spec := ⟨[0,0,1,0,1,1],(.seq (.reg []) (.seq (.cond .leaf .leaf) (.seq (.blk (.seq (.reg [{},{},{ sl := [0],fl := 1 }]) (.seq (.reg []) (.seq (.join [(.norm,⟨[(3,(.val (.int .i64))),(6,(.val (.int .i64))),(7,(.val (.sl qU1))),(8,(.val (.int .i64))),(9,(.val (.int .i64)))],[],[]⟩)] (.seq (.reg []) (.cond (.seq (.reg []) (.seq (.join [(.norm,⟨[(3,(.val (.int .i64))),(6,(.val (.int .i64))),(7,(.val (.sl qU1))),(8,(.val (.int .i64))),(9,(.val (.int .i64))),(28,(.val .bool))],[(5,0,some (qU3,false))],[(0,true,qU3,.im)]⟩)] (.reg [])) (.cond (.reg []) (.reg [])))) .leaf))) (.reg []))))) (.reg [])))),⟨[(3,(.val (.int .i64))),(7,(.val (.sl qU1))),(8,(.val (.int .i64))),(9,(.val (.int .i64)))],[],[]⟩,[(.exit 0,⟨[(3,(.val (.int .i64)))],[],[]⟩)],qbu (qbw n) n⟩
noncomputable def qmz (n : Nat) : List Spec := [qmy n]
noncomputable def qm0 : Code := Tryz.f84.body.getD .skip
theorem qm1 (n : Nat) : ∀ d,((codeAt qm0 (qmy n).path).bind fun c => evC (qmx n) (qmz n) n (qmy n).h c (qmy n).path ((qmy n).inp.mk_ 1 39 d) (finL (qmy n))) = (qmy n).body d := fun d => by kernel_rfl
theorem qm2 (n : Nat) : ∀ d,evC (qmx n) (qmz n) n (.seq (.reg []) (.seq (.reg []) (.seq (.seq (.reg []) (.blk (.loop 0))) (.seq (.reg []) .leaf)))) qm0 [] (ent 1 39 (qmw (n + 1)).as ((qmw (n + 1)).io ++ (qmw (n + 1)).own) d) (finR (qmx n) (qmw (n + 1)).t (qmw (n + 1)).m (qmw (n + 1)).io [(2,none)]) = (qmw (n + 1)).M d := fun d => by kernel_rfl
theorem qm3 : ∀ n : Nat,(qmw n).OK Tryz.prog
  | 0 => fs_zero (s := qmw 0) (fn := Tryz.f84) (body := qm0) (by kernel_rfl) (by kernel_rfl) (by kernel_rfl) (fun _ => rfl)
  | n + 1 => have ih := qm3 n
    wz2 (E := qmx n) (L := qmz n) (n := n) (ns := 1) (nt := 39) (rs := [(2,none)]) (ttOK tysOK _ _ _) (envOK (all_cons (ih) wz0) wz0) (fn := Tryz.f84) (body := qm0) (all_cons (qm1 n) wz0) (qm2 n)
theorem qm4 (n : Nat) : (qmw n).OK Tryz.prog := (qm3 n)
noncomputable def qm5 (n : Nat) : FS := ⟨34,[(.val qU0)],[],[],qU2,.im,fun d => qbx n d.1⟩
noncomputable def qm6 (n : Nat) : Env := ⟨Tryz.prog,tys.tt,mkΓ [qmo n,qmw n],0,mkGp []⟩
noncomputable def qm7 (n : Nat) : List Spec := []
noncomputable def qm8 : Code := Tryz.f34.body.getD .skip
theorem qm9 (n : Nat) : ∀ d,evC (qm6 n) (qm7 n) n (.seq (.reg [{ sl := [0],fl := 1 }]) (.seq (.seq (.reg []) (.cond (.seq (.reg []) .leaf) .leaf)) (.seq (.reg []) (.seq (.seq (.reg []) (.cond (.seq (.reg []) .leaf) .leaf)) (.seq (.reg []) .leaf))))) qm8 [] (ent 1 14 (qm5 n).as ((qm5 n).io ++ (qm5 n).own) d) (finR (qm6 n) (qm5 n).t (qm5 n).m (qm5 n).io [(2,none),(3,none)]) = (qm5 n).M d := fun d => by kernel_rfl
theorem qna (n : Nat) : (qm5 n).OK Tryz.prog :=
  wz2 (E := qm6 n) (L := qm7 n) (n := n) (ns := 1) (nt := 14) (rs := [(2,none),(3,none)]) (ttOK tysOK _ _ _) (envOK (all_cons (qmv n) (all_cons (qm4 n) wz0)) wz0) (fn := Tryz.f34) (body := qm8) wz0 (qm9 n)
noncomputable def qnb (n : Nat) : FS := ⟨82,[(.val (.int .i64)),(.iadr (.int .i64))],[],[],qU10,.im,fun d => qby n d.1 d.2.1⟩
noncomputable def qnc (n : Nat) : Env := ⟨Tryz.prog,tys.tt,mkΓ [],0,mkGp []⟩
noncomputable def qnd (n : Nat) : List Spec := []
noncomputable def qne : Code := Tryz.f82.body.getD .skip
theorem qnf (n : Nat) : ∀ d,evC (qnc n) (qnd n) n (.seq (.reg []) (.seq (.reg []) .leaf)) qne [] (ent 0 11 (qnb n).as ((qnb n).io ++ (qnb n).own) d) (finR (qnc n) (qnb n).t (qnb n).m (qnb n).io [(3,none)]) = (qnb n).M d := fun d => by kernel_rfl
theorem qng (n : Nat) : (qnb n).OK Tryz.prog :=
  wz2 (E := qnc n) (L := qnd n) (n := n) (ns := 0) (nt := 11) (rs := [(3,none)]) (ttOK tysOK _ _ _) (envOK wz0 wz0) (fn := Tryz.f82) (body := qne) wz0 (qnf n)
noncomputable def qnh (n : Nat) : FS := ⟨150,[(.val qU5),(.fn 82 (.tc (.iadr (.int .i64)) .tn))],[],[],qU8,.im,fun d => qb1 n d.1 d.2.1⟩
noncomputable def qni (n : Nat) : Env := ⟨Tryz.prog,tys.tt,mkΓ [qnb n],0,mkGp []⟩
noncomputable def qnj (n : Nat) : Spec := ⟨[0,0,1,0,1],(.seq (.reg []) (.seq (.cond .leaf .leaf) (.seq (.blk (.seq (.reg []) (.seq (.reg []) (.cond (.seq (.reg []) .leaf) .leaf)))) (.reg [])))),⟨[(0,(.val qU5)),(1,(.fn 82 (.tc (.iadr (.int .i64)) .tn))),(7,(.val (.int .i64))),(8,(.val (.int .i64)))],[],[]⟩,[(.ret,⟨[(4,(.val (.int .i64)))],[],[]⟩),(.exit 0,⟨[],[],[]⟩)],qb0 n⟩
noncomputable def qnk (n : Nat) : List Spec := [qnj n]
noncomputable def qnl : Code := Tryz.f150.body.getD .skip
theorem qnm (n : Nat) : ∀ d,((codeAt qnl (qnj n).path).bind fun c => evC (qni n) (qnk n) n (qnj n).h c (qnj n).path ((qnj n).inp.mk_ 0 19 d) (finL (qnj n))) = (qnj n).body d := fun d => by kernel_rfl
theorem qnn (n : Nat) : ∀ d,evC (qni n) (qnk n) n (.seq (.reg []) (.seq (.seq (.reg []) (.blk (.loop 0))) (.seq (.reg []) .leaf))) qnl [] (ent 0 19 (qnh n).as ((qnh n).io ++ (qnh n).own) d) (finR (qni n) (qnh n).t (qnh n).m (qnh n).io [(4,none)]) = (qnh n).M d := fun d => by kernel_rfl
theorem qno (n : Nat) : (qnh n).OK Tryz.prog :=
  wz2 (E := qni n) (L := qnk n) (n := n) (ns := 0) (nt := 19) (rs := [(4,none)]) (ttOK tysOK _ _ _) (envOK (all_cons (qng n) wz0) wz0) (fn := Tryz.f150) (body := qnl) (all_cons (qnm n) wz0) (qnn n)
noncomputable def qnp (n : Nat) : FS := ⟨83,[(.val qU5),(.fn 82 (.tc (.iadr (.int .i64)) .tn))],[],[],qU10,.im,fun d => qb2 n d.1 d.2.1⟩
noncomputable def qnq (n : Nat) : Env := ⟨Tryz.prog,tys.tt,mkΓ [qnh n],0,mkGp []⟩
noncomputable def qnr (n : Nat) : List Spec := []
noncomputable def qns : Code := Tryz.f83.body.getD .skip
theorem qnt (n : Nat) : ∀ d,evC (qnq n) (qnr n) n (.seq (.reg []) (.seq (.reg []) .leaf)) qns [] (ent 0 9 (qnp n).as ((qnp n).io ++ (qnp n).own) d) (finR (qnq n) (qnp n).t (qnp n).m (qnp n).io [(4,none)]) = (qnp n).M d := fun d => by kernel_rfl
theorem qnu (n : Nat) : (qnp n).OK Tryz.prog :=
  wz2 (E := qnq n) (L := qnr n) (n := n) (ns := 0) (nt := 9) (rs := [(4,none)]) (ttOK tysOK _ _ _) (envOK (all_cons (qno n) wz0) wz0) (fn := Tryz.f83) (body := qns) wz0 (qnt n)
noncomputable def qnv (n : Nat) : FS := ⟨85,[(.val qU5)],[],[],(.pair qU5 .unit),(.pr (.ow .im) .im),fun d => qb4 n d.1⟩
noncomputable def qnw (n : Nat) : Env := ⟨Tryz.prog,tys.tt,mkΓ [],0,mkGp []⟩
noncomputable def qnx (n : Nat) : List Spec := []
noncomputable def qny : Code := Tryz.f85.body.getD .skip
theorem qnz (n : Nat) : ∀ b d,evC (qnw n) (qnx n) n (.seq (.reg [{ sl := [0] }]) (.seq (.seq (.reg []) (.cond (.seq (.reg [{ sl := [1] }]) .leaf) .leaf)) (.seq (.reg [{ sl := [2] }]) .leaf))) qny [] (entN 3 8 (.int .i64) [] [] d b) (finR (qnw n) (qnv n).t (qnv n).m [] [(2,none)]) = qb3 n b d.1 := fun b d => by kernel_rfl
theorem qn0 (n : Nat) : (qnv n).OK Tryz.prog :=
  fs_okN (E := qnw n) (L := qnx n) (n := n) (ns := 3) (nt := 8) (rs := [(2,none)]) (f := 85) (t := (.int .i64)) (T := (.pair qU5 .unit)) («as» := []) (io := []) (own := []) (m := (.pr (.ow .im) .im)) (M := (fun d => qb4 n d.1 )) (ttOK tysOK _ _ _) (envOK wz0 wz0) (fn := Tryz.f85) (body := qny) (by kernel_rfl) (by kernel_rfl) (by kernel_rfl) (by kernel_rfl) (by kernel_rfl) (wz1 (by kernel_rfl)) (by kernel_rfl) (wz1 (by kernel_rfl)) wz0 (fun d b r hb hr => by
    cases b with
    | false => exact (qnz n false d).trans hr
    | true =>
      obtain ⟨x,d⟩ := d
      obtain rfl := (hb rfl : x = [])
      exact (qnz n true ([],d)).trans hr)
noncomputable def qn1 (n : Nat) : FS := ⟨194,[(.val (.int .i64))],[],[],qU8,.im,fun d => qb5 n d.1⟩
noncomputable def qn2 (n : Nat) : Env := ⟨Tryz.prog,tys.tt,mkΓ [],0,mkGp []⟩
noncomputable def qn3 (n : Nat) : List Spec := []
noncomputable def qn4 : Code := Tryz.f194.body.getD .skip
theorem qn5 (n : Nat) : ∀ d,evC (qn2 n) (qn3 n) n (.seq (.reg []) (.seq (.reg [{ fl := 4 },{},{},{ fl := 4 }]) .leaf)) qn4 [] (ent 0 7 (qn1 n).as ((qn1 n).io ++ (qn1 n).own) d) (finR (qn2 n) (qn1 n).t (qn1 n).m (qn1 n).io [(2,none)]) = (qn1 n).M d := fun d => by kernel_rfl
theorem qn6 (n : Nat) : (qn1 n).OK Tryz.prog :=
  wz2 (E := qn2 n) (L := qn3 n) (n := n) (ns := 0) (nt := 7) (rs := [(2,none)]) (ttOK tysOK _ _ _) (envOK wz0 wz0) (fn := Tryz.f194) (body := qn4) wz0 (qn5 n)
noncomputable def qn7 (n : Nat) : FS := ⟨151,[(.val qU2)],[],[],qU2,.im,fun d => qb6 n d.1⟩
noncomputable def qn8 (n : Nat) : Env := ⟨Tryz.prog,tys.tt,mkΓ [qiv n,qn1 n],0,mkGp []⟩
noncomputable def qn9 (n : Nat) : List Spec := []
noncomputable def qoa : Code := Tryz.f151.body.getD .skip
theorem qob (n : Nat) : ∀ d,evC (qn8 n) (qn9 n) n (.seq (.reg [{ sl := [0],fl := 1 }]) (.seq (.blk (.seq (.reg []) (.cond (.seq (.reg []) .leaf) (.seq (.reg []) (.cond (.seq (.reg []) .leaf) .leaf))))) (.seq (.reg []) .leaf))) qoa [] (ent 1 15 (qn7 n).as ((qn7 n).io ++ (qn7 n).own) d) (finR (qn8 n) (qn7 n).t (qn7 n).m (qn7 n).io [(2,none),(3,none)]) = (qn7 n).M d := fun d => by kernel_rfl
theorem qoc (n : Nat) : (qn7 n).OK Tryz.prog :=
  wz2 (E := qn8 n) (L := qn9 n) (n := n) (ns := 1) (nt := 15) (rs := [(2,none),(3,none)]) (ttOK tysOK _ _ _) (envOK (all_cons (qi0 n) (all_cons (qn6 n) wz0)) wz0) (fn := Tryz.f151) (body := qoa) wz0 (qob n)
noncomputable def qod (n : Nat) : FS := ⟨86,[(.val qU2)],[],[],(.pair qU7 .unit),.im,fun d => qb7 n d.1⟩
noncomputable def qoe (n : Nat) : Env := ⟨Tryz.prog,tys.tt,mkΓ [qn7 n,qi7 n],0,mkGp []⟩
noncomputable def qof (n : Nat) : List Spec := []
noncomputable def qog : Code := Tryz.f86.body.getD .skip
theorem qoh (n : Nat) : ∀ d,evC (qoe n) (qof n) n (.seq (.reg [{ sl := [0],fl := 1 }]) (.seq (.reg []) (.seq (.reg [{ rd := [0] },{ rd := [0] },{ an := 2 },{},{ an := 15 },{ sl := [1],fl := 1,rd := [1],wr := [1],an := 31 },{ an := 63 }]) .leaf))) qog [] (ent 2 16 (qod n).as ((qod n).io ++ (qod n).own) d) (finR (qoe n) (qod n).t (qod n).m (qod n).io [(2,none)]) = (qod n).M d := fun d => by kernel_rfl
theorem qoi (n : Nat) : (qod n).OK Tryz.prog :=
  wz2 (E := qoe n) (L := qof n) (n := n) (ns := 2) (nt := 16) (rs := [(2,none)]) (ttOK tysOK _ _ _) (envOK (all_cons (qoc n) (all_cons (qjc n) wz0)) wz0) (fn := Tryz.f86) (body := qog) wz0 (qoh n)
noncomputable def qoj (n : Nat) : FS := ⟨153,[(.val qU7),(.val (.int .i64)),(.val (.int .i64))],[],[],qU8,.im,fun d => qca n d.1 d.2.1 d.2.2.1⟩
noncomputable def qok (n : Nat) : Env := ⟨Tryz.prog,tys.tt,mkΓ [],0,mkGp []⟩
noncomputable def qol (n : Nat) : Spec := ⟨[0,0,0,1,1,1],(.seq (.seq (.reg []) (.cond .leaf .leaf)) (.seq (.join [(.norm,⟨[(0,(.val qU7)),(1,(.val (.int .i64))),(2,(.val (.int .i64))),(7,(.val (.int .i64)))],[],[]⟩)] (.blk (.seq (.join [(.norm,⟨[(0,(.val qU7)),(1,(.val (.int .i64))),(2,(.val (.int .i64))),(7,(.val (.int .i64)))],[],[]⟩)] (.seq (.reg []) (.cond (.reg []) .leaf))) (.seq (.reg []) (.seq (.reg []) (.cond (.reg []) .leaf)))))) (.reg []))),⟨[(0,(.val qU7)),(1,(.val (.int .i64))),(2,(.val (.int .i64))),(7,(.val (.int .i64)))],[],[]⟩,[(.exit 0,⟨[(7,(.val (.int .i64)))],[],[]⟩)],qb9 n⟩
noncomputable def qom (n : Nat) : List Spec := [qol n]
noncomputable def qon : Code := Tryz.f153.body.getD .skip
theorem qoo (n : Nat) : ∀ d,((codeAt qon (qol n).path).bind fun c => evC (qok n) (qom n) n (qol n).h c (qol n).path ((qol n).inp.mk_ 0 47 d) (finL (qol n))) = (qol n).body d := fun d => by kernel_rfl
theorem qop (n : Nat) : ∀ d,evC (qok n) (qom n) n (.seq (.reg []) (.seq (.seq (.reg []) (.cond (.seq (.reg []) .leaf) .leaf)) (.seq (.reg []) (.seq (.blk (.loop 0)) (.seq (.reg []) .leaf))))) qon [] (ent 0 47 (qoj n).as ((qoj n).io ++ (qoj n).own) d) (finR (qok n) (qoj n).t (qoj n).m (qoj n).io [(6,none)]) = (qoj n).M d := fun d => by kernel_rfl
theorem qoq (n : Nat) : (qoj n).OK Tryz.prog :=
  wz2 (E := qok n) (L := qom n) (n := n) (ns := 0) (nt := 47) (rs := [(6,none)]) (ttOK tysOK _ _ _) (envOK wz0 wz0) (fn := Tryz.f153) (body := qon) (all_cons (qoo n) wz0) (qop n)
noncomputable def qor (n : Nat) : FS := ⟨195,[(.val qU7),(.val (.int .i64)),(.val (.int .i64))],[],[],qU8,.im,fun d => qcd n d.1 d.2.1 d.2.2.1⟩
noncomputable def qos (n : Nat) : Env := ⟨Tryz.prog,tys.tt,mkΓ [qoj n],0,mkGp []⟩
noncomputable def qot (n : Nat) : Spec := ⟨[0,0,0,1,1],(.seq (.seq (.reg []) (.cond .leaf .leaf)) (.seq (.blk (.seq (.join [(.norm,⟨[(0,(.val qU7)),(1,(.val (.int .i64))),(2,(.val (.int .i64))),(7,(.val (.int .i64)))],[],[]⟩)] (.seq (.reg []) (.cond (.reg []) .leaf))) (.reg []))) (.reg []))),⟨[(0,(.val qU7)),(1,(.val (.int .i64))),(2,(.val (.int .i64))),(7,(.val (.int .i64)))],[],[]⟩,[(.exit 0,⟨[(7,(.val (.int .i64)))],[],[]⟩)],qcc n⟩
noncomputable def qou (n : Nat) : List Spec := [qot n]
noncomputable def qov : Code := Tryz.f195.body.getD .skip
theorem qow (n : Nat) : ∀ d,((codeAt qov (qot n).path).bind fun c => evC (qos n) (qou n) n (qot n).h c (qot n).path ((qot n).inp.mk_ 0 24 d) (finL (qot n))) = (qot n).body d := fun d => by kernel_rfl
theorem qox (n : Nat) : ∀ d,evC (qos n) (qou n) n (.seq (.reg []) (.seq (.reg []) (.seq (.blk (.loop 0)) (.seq (.reg []) .leaf)))) qov [] (ent 0 24 (qor n).as ((qor n).io ++ (qor n).own) d) (finR (qos n) (qor n).t (qor n).m (qor n).io [(6,none)]) = (qor n).M d := fun d => by kernel_rfl
theorem qoy (n : Nat) : (qor n).OK Tryz.prog :=
  wz2 (E := qos n) (L := qou n) (n := n) (ns := 0) (nt := 24) (rs := [(6,none)]) (ttOK tysOK _ _ _) (envOK (all_cons (qoq n) wz0) wz0) (fn := Tryz.f195) (body := qov) (all_cons (qow n) wz0) (qox n)
noncomputable def qoz (n : Nat) : FS := ⟨152,[(.val qU7),(.val (.int .i64)),(.val (.int .i64))],[],[],qU8,.im,fun d => qce n d.1 d.2.1 d.2.2.1⟩
noncomputable def qo0 (n : Nat) : Env := ⟨Tryz.prog,tys.tt,mkΓ [],0,mkGp []⟩
noncomputable def qo1 (n : Nat) : List Spec := []
noncomputable def qo2 : Code := Tryz.f152.body.getD .skip
theorem qo3 (n : Nat) : ∀ d,evC (qo0 n) (qo1 n) n (.seq (.reg []) (.seq (.seq (.reg []) (.cond (.seq (.reg []) .leaf) .leaf)) (.seq (.reg []) .leaf))) qo2 [] (ent 0 24 (qoz n).as ((qoz n).io ++ (qoz n).own) d) (finR (qo0 n) (qoz n).t (qoz n).m (qoz n).io [(6,none)]) = (qoz n).M d := fun d => by kernel_rfl
theorem qo4 (n : Nat) : (qoz n).OK Tryz.prog :=
  wz2 (E := qo0 n) (L := qo1 n) (n := n) (ns := 0) (nt := 24) (rs := [(6,none)]) (ttOK tysOK _ _ _) (envOK wz0 wz0) (fn := Tryz.f152) (body := qo2) wz0 (qo3 n)
noncomputable def qo5 (n : Nat) : FS := ⟨154,[(.val qU7),(.val qU4),(.val qU5)],[],[],qU8,.im,fun d => qcj n d.1 d.2.1 d.2.2.1⟩
noncomputable def qo6 (n : Nat) : Env := ⟨Tryz.prog,tys.tt,mkΓ [qor n,qoj n,qoz n],0,mkGp []⟩
noncomputable def qo7 (n : Nat) : Spec := ⟨[0,0,1,0,1,1,0,0,1,1,0,0,1,0,1,1],(.seq (.reg []) (.seq (.cond .leaf .leaf) (.seq (.join [(.norm,⟨[(0,(.val qU7)),(2,(.val qU5)),(7,(.val (.int .i64))),(10,(.val (.int .i64))),(13,(.val qU4)),(14,(.val (.int .i64))),(15,(.val (.int .i64))),(22,(.val qU5)),(23,(.val (.int .i64))),(24,(.val (.int .i64)))],[],[]⟩)] (.blk (.seq (.reg []) (.seq (.reg []) (.cond (.reg []) .leaf))))) (.reg [])))),⟨[(0,(.val qU7)),(2,(.val qU5)),(7,(.val (.int .i64))),(10,(.val (.int .i64))),(13,(.val qU4)),(14,(.val (.int .i64))),(15,(.val (.int .i64))),(22,(.val qU5)),(23,(.val (.int .i64))),(24,(.val (.int .i64)))],[],[]⟩,[(.exit 2,⟨[(0,(.val qU7)),(2,(.val qU5)),(7,(.val (.int .i64))),(10,(.val (.int .i64))),(13,(.val qU4)),(14,(.val (.int .i64))),(15,(.val (.int .i64)))],[],[]⟩)],qcg n⟩
noncomputable def qo8 (n : Nat) : Spec := ⟨[0,0,1,0,1,1],(.seq (.reg []) (.seq (.cond .leaf .leaf) (.seq (.blk (.seq (.reg [{},{},{ sl := [0],fl := 1 }]) (.seq (.reg []) (.seq (.seq (.reg []) (.blk (.loop 0))) (.reg []))))) (.reg [])))),⟨[(0,(.val qU7)),(2,(.val qU5)),(7,(.val (.int .i64))),(13,(.val qU4)),(14,(.val (.int .i64))),(15,(.val (.int .i64)))],[],[]⟩,[(.exit 0,⟨[(7,(.val (.int .i64)))],[],[]⟩)],qci n⟩
noncomputable def qo9 (n : Nat) : List Spec := [qo7 n,qo8 n]
noncomputable def qpa : Code := Tryz.f154.body.getD .skip
theorem qpb (n : Nat) : ∀ d,((codeAt qpa (qo7 n).path).bind fun c => evC (qo6 n) (qo9 n) n (qo7 n).h c (qo7 n).path ((qo7 n).inp.mk_ 1 48 d) (finL (qo7 n))) = (qo7 n).body d := fun d => by kernel_rfl
theorem qpc (n : Nat) : ∀ d,((codeAt qpa (qo8 n).path).bind fun c => evC (qo6 n) (qo9 n) n (qo8 n).h c (qo8 n).path ((qo8 n).inp.mk_ 1 48 d) (finL (qo8 n))) = (qo8 n).body d := fun d => by kernel_rfl
theorem qpd (n : Nat) : ∀ d,evC (qo6 n) (qo9 n) n (.seq (.reg []) (.seq (.reg []) (.seq (.seq (.reg []) (.blk (.loop 1))) (.seq (.reg []) .leaf)))) qpa [] (ent 1 48 (qo5 n).as ((qo5 n).io ++ (qo5 n).own) d) (finR (qo6 n) (qo5 n).t (qo5 n).m (qo5 n).io [(6,none)]) = (qo5 n).M d := fun d => by kernel_rfl
theorem qpe (n : Nat) : (qo5 n).OK Tryz.prog :=
  wz2 (E := qo6 n) (L := qo9 n) (n := n) (ns := 1) (nt := 48) (rs := [(6,none)]) (ttOK tysOK _ _ _) (envOK (all_cons (qoy n) (all_cons (qoq n) (all_cons (qo4 n) wz0))) wz0) (fn := Tryz.f154) (body := qpa) (all_cons (qpb n) (all_cons (qpc n) wz0)) (qpd n)
noncomputable def qpf (n : Nat) : FS := ⟨155,[(.val qU1)],[],[],qU8,.im,fun d => qck n d.1⟩
noncomputable def qpg (n : Nat) : Env := ⟨Tryz.prog,tys.tt,mkΓ [qmw n],0,mkGp []⟩
noncomputable def qph (n : Nat) : List Spec := []
noncomputable def qpi : Code := Tryz.f155.body.getD .skip
theorem qpj (n : Nat) : ∀ d,evC (qpg n) (qph n) n (.seq (.reg [{ sl := [0],fl := 1 }]) (.seq (.seq (.reg []) (.cond (.seq (.reg []) .leaf) .leaf)) (.seq (.reg []) .leaf))) qpi [] (ent 1 9 (qpf n).as ((qpf n).io ++ (qpf n).own) d) (finR (qpg n) (qpf n).t (qpf n).m (qpf n).io [(2,none)]) = (qpf n).M d := fun d => by kernel_rfl
theorem qpk (n : Nat) : (qpf n).OK Tryz.prog :=
  wz2 (E := qpg n) (L := qph n) (n := n) (ns := 1) (nt := 9) (rs := [(2,none)]) (ttOK tysOK _ _ _) (envOK (all_cons (qm4 n) wz0) wz0) (fn := Tryz.f155) (body := qpi) wz0 (qpj n)
noncomputable def qpl (n : Nat) : FS := ⟨87,[(.val qU7),(.val qU0),(.val (.sl qU1)),(.root 0),(.val qU5)],[(false,qU5,(.ow .im))],[],.unit,.im,fun d => qcs n d.1 d.2.1 d.2.2.1 d.2.2.2.2.1 d.2.2.2.2.2.1⟩
noncomputable def qpm (n : Nat) : Env := ⟨Tryz.prog,tys.tt,mkΓ [qo5 n,qoj n,qoz n,qpf n,qpl n],1,mkGp []⟩
noncomputable def qpn (n : Nat) : Spec := ⟨[0,0,1,0,1,0,1,0,1,1,0,0,1,1,0,0,1,1],(.seq (.reg []) (.seq (.cond .leaf .leaf) (.seq (.join [(.norm,⟨[(0,(.val qU7)),(4,(.val qU5)),(6,(.iadr qU0)),(15,(.val (.sl qU1))),(16,(.val (.int .i64))),(17,(.val (.int .i64))),(42,(.val (.sl qU13))),(43,(.val (.int .i64))),(44,(.val (.int .i64)))],[(3,0,none),(11,2,some (qU3,false)),(12,3,none)],[(0,false,qU5,(.ow .im)),(2,true,qU3,.im),(3,false,qU5,(.ow .im))]⟩)] (.blk (.seq (.reg [{},{},{},{ sl := [4],fl := 1 }]) (.seq (.reg []) (.seq (.reg []) (.cond (.reg []) .leaf)))))) (.reg [])))),⟨[(0,(.val qU7)),(4,(.val qU5)),(6,(.iadr qU0)),(15,(.val (.sl qU1))),(16,(.val (.int .i64))),(17,(.val (.int .i64))),(42,(.val (.sl qU13))),(43,(.val (.int .i64))),(44,(.val (.int .i64)))],[(3,0,none),(11,2,some (qU3,false)),(12,3,none)],[(0,false,qU5,(.ow .im)),(2,true,qU3,.im),(3,false,qU5,(.ow .im))]⟩,[(.exit 5,⟨[(0,(.val qU7)),(4,(.val qU5)),(6,(.iadr qU0)),(15,(.val (.sl qU1))),(16,(.val (.int .i64))),(17,(.val (.int .i64)))],[(3,0,none),(11,2,some (qU3,false)),(12,3,none)],[(0,false,qU5,(.ow .im)),(2,true,qU3,.im),(3,false,qU5,(.ow .im))]⟩)],qcm (qcs n) n⟩
noncomputable def qpo (n : Nat) : Spec := ⟨[0,0,1,1,1,1,1,0,1,1,0,0,1,1,0,0,1,1],(.seq (.reg []) (.seq (.cond .leaf .leaf) (.seq (.blk (.reg [{},{},{},{},{},{},{ mu := [0] }])) (.reg [])))),⟨[(0,(.val qU7)),(4,(.val qU5)),(6,(.iadr qU0)),(15,(.val (.sl qU1))),(16,(.val (.int .i64))),(17,(.val (.int .i64))),(24,(.val (.int .i64))),(25,(.val (.int .i64)))],[(3,0,none),(11,2,some (qU3,false))],[(0,false,qU5,(.ow .im)),(2,true,qU3,.im)]⟩,[(.exit 3,⟨[(0,(.val qU7)),(4,(.val qU5)),(6,(.iadr qU0)),(15,(.val (.sl qU1))),(16,(.val (.int .i64))),(17,(.val (.int .i64)))],[(3,0,none)],[(0,false,qU5,(.ow .im))]⟩)],qco (qcs n) n⟩
noncomputable def qpp (n : Nat) : Spec := ⟨[0,0,1,1],(.seq (.reg []) (.seq (.cond .leaf .leaf) (.seq (.join [(.norm,⟨[(0,(.val qU7)),(4,(.val qU5)),(6,(.iadr qU0)),(15,(.val (.sl qU1))),(16,(.val (.int .i64))),(17,(.val (.int .i64)))],[(3,0,none)],[(0,false,qU5,(.ow .im))]⟩)] (.blk (.seq (.reg [{},{},{ sl := [2],fl := 1 }]) (.seq (.reg []) (.blk (.seq (.reg []) (.cond (.seq (.reg [{},{},{},{ sl := [3] }]) (.seq (.seq (.reg []) (.blk (.loop 0))) (.reg [{},{ rd := [2] },{ rd := [2],an := 2 },{},{},{ rd := [2] },{ rd := [2],an := 32 },{ rd := [0],an := 112 },{ rd := [0],an := 240 },{},{ rd := [2] },{ rd := [2],an := 1024 },{},{},{ an := 8192 },{ rd := [2] },{ rd := [2],an := 32768 },{ an := 122880 },{ an := 253952 },{},{ rd := [3],an := 1044480 },{ an := 2096640 },{ an := 4194296 },{ rd := [0],an := 8388607 },{ rd := [0],wr := [0],an := 16777215 }]))) (.seq (.reg []) (.cond (.reg [{},{ rd := [2] },{ rd := [2],an := 2 },{},{},{ rd := [2] },{ rd := [2],an := 32 },{ rd := [0],an := 112 },{ rd := [0],an := 240 },{ rd := [2] },{ rd := [2],an := 512 },{ an := 2040 },{ rd := [0],an := 4095 },{ rd := [0],wr := [0],an := 8191 }]) (.seq (.reg []) (.blk (.loop 1)))))))))))) (.reg [])))),⟨[(0,(.val qU7)),(4,(.val qU5)),(6,(.iadr qU0)),(15,(.val (.sl qU1))),(16,(.val (.int .i64))),(17,(.val (.int .i64)))],[(3,0,none)],[(0,false,qU5,(.ow .im))]⟩,[(.exit 0,⟨[],[],[(0,false,qU5,(.ow .im))]⟩)],qcq (qcs n) n⟩
noncomputable def qpq (n : Nat) : List Spec := [qpn n,qpo n,qpp n]
noncomputable def qpr : Code := Tryz.f87.body.getD .skip
theorem qps (n : Nat) : ∀ d,((codeAt qpr (qpn n).path).bind fun c => evC (qpm n) (qpq n) n (qpn n).h c (qpn n).path ((qpn n).inp.mk_ 5 112 d) (finL (qpn n))) = (qpn n).body d := fun d => by kernel_rfl
theorem qpt (n : Nat) : ∀ d,((codeAt qpr (qpo n).path).bind fun c => evC (qpm n) (qpq n) n (qpo n).h c (qpo n).path ((qpo n).inp.mk_ 5 112 d) (finL (qpo n))) = (qpo n).body d := fun d => by kernel_rfl
theorem qpu (n : Nat) : ∀ d,((codeAt qpr (qpp n).path).bind fun c => evC (qpm n) (qpq n) n (qpp n).h c (qpp n).path ((qpp n).inp.mk_ 5 112 d) (finL (qpp n))) = (qpp n).body d := fun d => by kernel_rfl
theorem qpv (n : Nat) : ∀ d,evC (qpm n) (qpq n) n (.seq (.reg [{ sl := [1],fl := 1 }]) (.seq (.reg []) (.blk (.loop 2)))) qpr [] (ent 5 112 (qpl (n + 1)).as ((qpl (n + 1)).io ++ (qpl (n + 1)).own) d) (finR (qpm n) (qpl (n + 1)).t (qpl (n + 1)).m (qpl (n + 1)).io []) = (qpl (n + 1)).M d := fun d => by kernel_rfl
theorem qpw : ∀ n : Nat,(qpl n).OK Tryz.prog
  | 0 => fs_zero (s := qpl 0) (fn := Tryz.f87) (body := qpr) (by kernel_rfl) (by kernel_rfl) (by kernel_rfl) (fun _ => rfl)
  | n + 1 => have ih := qpw n
    wz2 (E := qpm n) (L := qpq n) (n := n) (ns := 5) (nt := 112) (rs := []) (ttOK tysOK _ _ _) (envOK (all_cons (qpe n) (all_cons (qoq n) (all_cons (qo4 n) (all_cons (qpk n) (all_cons (ih) wz0))))) wz0) (fn := Tryz.f87) (body := qpr) (all_cons (qps n) (all_cons (qpt n) (all_cons (qpu n) wz0))) (qpv n)
theorem qpx (n : Nat) : (qpl n).OK Tryz.prog := (qpw n)
noncomputable def qpy (n : Nat) : FS := ⟨23,[(.val qU0),(.val qU5),(.val qU5)],[],[],(.pair qU5 qU8),.im,fun d => qct n d.1 d.2.1 d.2.2.1⟩
noncomputable def qpz (n : Nat) : Env := ⟨Tryz.prog,tys.tt,mkΓ [qmo n,qi7 n,qnp n,qmw n,qnv n,qod n,qpl n],0,mkGp []⟩
noncomputable def qp0 (n : Nat) : List Spec := []
noncomputable def qp1 : Code := Tryz.f23.body.getD .skip
theorem qp2 (n : Nat) : ∀ d,evC (qpz n) (qp0 n) n (.seq (.reg [{ sl := [0],fl := 1 }]) (.seq (.seq (.reg []) (.cond (.seq (.reg []) .leaf) .leaf)) (.seq (.reg [{},{},{},{ sl := [1],fl := 1 }]) (.seq (.reg []) (.seq (.blk (.seq (.join [(.norm,⟨[(1,(.val qU5)),(2,(.val qU5)),(3,(.iadr qU0)),(18,(.val .bool))],[],[]⟩)] (.reg [])) (.cond (.seq (.reg []) .leaf) (.seq (.reg []) (.cond (.seq (.reg []) .leaf) .leaf))))) (.seq (.reg [{},{ sl := [2] }]) (.seq (.reg [{},{ an := 1 },{ an := 3 },{},{},{ an := 16 },{},{},{ mu := [2],rd := [2],wr := [2],an := 255 }]) (.seq (.reg []) .leaf)))))))) qp1 [] (ent 3 58 (qpy n).as ((qpy n).io ++ (qpy n).own) d) (finR (qpz n) (qpy n).t (qpy n).m (qpy n).io [(6,none),(7,none)]) = (qpy n).M d := fun d => by kernel_rfl
theorem qp3 (n : Nat) : (qpy n).OK Tryz.prog :=
  wz2 (E := qpz n) (L := qp0 n) (n := n) (ns := 3) (nt := 58) (rs := [(6,none),(7,none)]) (ttOK tysOK _ _ _) (envOK (all_cons (qmv n) (all_cons (qjc n) (all_cons (qnu n) (all_cons (qm4 n) (all_cons (qn0 n) (all_cons (qoi n) (all_cons (qpx n) wz0))))))) wz0) (fn := Tryz.f23) (body := qp1) wz0 (qp2 n)
noncomputable def qp4 (n : Nat) : FS := ⟨89,[(.val (.int .i64)),(.val (.int .i64)),(.val (.int .i64))],[],[],qU8,.im,fun d => qcw n d.1 d.2.1 d.2.2.1⟩
noncomputable def qp5 (n : Nat) : Env := ⟨Tryz.prog,tys.tt,mkΓ [],0,mkGp []⟩
noncomputable def qp6 (n : Nat) : Spec := ⟨[0,0,1,0,1,1],(.seq (.reg []) (.seq (.cond .leaf .leaf) (.seq (.blk (.seq (.seq (.join [(.norm,⟨[(0,(.val (.int .i64))),(2,(.val (.int .i64))),(7,(.val (.int .i64))),(8,(.val (.int .i64))),(9,(.val (.int .i64))),(19,(.val .bool))],[],[]⟩)] (.reg [])) (.cond (.seq (.reg []) .leaf) .leaf)) (.reg []))) (.reg [])))),⟨[(0,(.val (.int .i64))),(2,(.val (.int .i64))),(7,(.val (.int .i64))),(8,(.val (.int .i64))),(9,(.val (.int .i64)))],[],[]⟩,[(.ret,⟨[(6,(.val (.int .i64)))],[],[]⟩),(.exit 0,⟨[(7,(.val (.int .i64)))],[],[]⟩)],qcv n⟩
noncomputable def qp7 (n : Nat) : List Spec := [qp6 n]
noncomputable def qp8 : Code := Tryz.f89.body.getD .skip
theorem qp9 (n : Nat) : ∀ d,((codeAt qp8 (qp6 n).path).bind fun c => evC (qp5 n) (qp7 n) n (qp6 n).h c (qp6 n).path ((qp6 n).inp.mk_ 0 27 d) (finL (qp6 n))) = (qp6 n).body d := fun d => by kernel_rfl
theorem qqa (n : Nat) : ∀ d,evC (qp5 n) (qp7 n) n (.seq (.reg []) (.seq (.reg []) (.seq (.seq (.reg []) (.blk (.loop 0))) (.seq (.reg []) .leaf)))) qp8 [] (ent 0 27 (qp4 n).as ((qp4 n).io ++ (qp4 n).own) d) (finR (qp5 n) (qp4 n).t (qp4 n).m (qp4 n).io [(6,none)]) = (qp4 n).M d := fun d => by kernel_rfl
theorem qqb (n : Nat) : (qp4 n).OK Tryz.prog :=
  wz2 (E := qp5 n) (L := qp7 n) (n := n) (ns := 0) (nt := 27) (rs := [(6,none)]) (ttOK tysOK _ _ _) (envOK wz0 wz0) (fn := Tryz.f89) (body := qp8) (all_cons (qp9 n) wz0) (qqa n)
noncomputable def qqc (n : Nat) : FS := ⟨196,[(.val qU7)],[],[],(.pair (.sl qU5) .unit),.im,fun d => qc1 n d.1⟩
noncomputable def qqd (n : Nat) : Env := ⟨Tryz.prog,tys.tt,mkΓ [qoj n],0,mkGp []⟩
noncomputable def qqe (n : Nat) : Spec := ⟨[0,0,1,1,1,1,0,0,1,1,0,0,1,0,1,1],(.seq (.seq (.reg []) (.cond .leaf .leaf)) (.seq (.blk (.reg [{},{},{ rd := [0],an := 3 },{ rd := [0],an := 7 },{},{},{},{},{ rd := [0],an := 192 },{ rd := [0],an := 448 },{},{ an := 1024 },{ rd := [0],an := 4032 },{ rd := [0],an := 8128 },{},{ an := 32736 },{ rd := [0],an := 65535 },{ rd := [0],wr := [0],an := 131071 }])) (.reg []))),⟨[(0,(.val qU7)),(4,(.val (.int .i64))),(5,(.val (.int .i64))),(12,(.val (.int .i64))),(13,(.val (.int .i64)))],[(3,0,none)],[(0,false,(.sl qU5),(.ow (.ow .im)))]⟩,[(.exit 2,⟨[(0,(.val qU7)),(12,(.val (.int .i64))),(13,(.val (.int .i64)))],[(3,0,none)],[(0,false,(.sl qU5),(.ow (.ow .im)))]⟩)],qcy n⟩
noncomputable def qqf (n : Nat) : Spec := ⟨[0,0,1,0,1,1],(.seq (.reg []) (.seq (.cond .leaf .leaf) (.seq (.blk (.seq (.reg []) (.seq (.reg [{},{},{},{},{},{},{ sl := [1] }]) (.seq (.reg []) (.seq (.reg []) (.blk (.loop 0))))))) (.reg [])))),⟨[(0,(.val qU7)),(12,(.val (.int .i64))),(13,(.val (.int .i64)))],[(3,0,none)],[(0,false,(.sl qU5),(.ow (.ow .im)))]⟩,[(.exit 0,⟨[],[(3,0,none)],[(0,false,(.sl qU5),(.ow (.ow .im)))]⟩)],qc0 n⟩
noncomputable def qqg (n : Nat) : List Spec := [qqe n,qqf n]
noncomputable def qqh : Code := Tryz.f196.body.getD .skip
theorem qqi (n : Nat) : ∀ d,((codeAt qqh (qqe n).path).bind fun c => evC (qqd n) (qqg n) n (qqe n).h c (qqe n).path ((qqe n).inp.mk_ 2 56 d) (finL (qqe n))) = (qqe n).body d := fun d => by kernel_rfl
theorem qqj (n : Nat) : ∀ d,((codeAt qqh (qqf n).path).bind fun c => evC (qqd n) (qqg n) n (qqf n).h c (qqf n).path ((qqf n).inp.mk_ 2 56 d) (finL (qqf n))) = (qqf n).body d := fun d => by kernel_rfl
theorem qqk (n : Nat) : ∀ d,evC (qqd n) (qqg n) n (.seq (.reg []) (.seq (.reg [{},{},{},{},{ m := (.ow .im),sl := [0] }]) (.seq (.seq (.reg []) (.blk (.loop 1))) (.seq (.reg []) .leaf)))) qqh [] (ent 2 56 (qqc n).as ((qqc n).io ++ (qqc n).own) d) (finR (qqd n) (qqc n).t (qqc n).m (qqc n).io [(2,none)]) = (qqc n).M d := fun d => by kernel_rfl
theorem qql (n : Nat) : (qqc n).OK Tryz.prog :=
  wz2 (E := qqd n) (L := qqg n) (n := n) (ns := 2) (nt := 56) (rs := [(2,none)]) (ttOK tysOK _ _ _) (envOK (all_cons (qoq n) wz0) wz0) (fn := Tryz.f196) (body := qqh) (all_cons (qqi n) (all_cons (qqj n) wz0)) (qqk n)
noncomputable def qqm (n : Nat) : FS := ⟨173,[(.val qU7),(.val (.int .i64)),(.val (.int .i64))],[],[],qU8,.im,fun d => qc2 n d.1 d.2.1 d.2.2.1⟩
noncomputable def qqn (n : Nat) : Env := ⟨Tryz.prog,tys.tt,mkΓ [],0,mkGp []⟩
noncomputable def qqo (n : Nat) : List Spec := []
noncomputable def qqp : Code := Tryz.f173.body.getD .skip
theorem qqq (n : Nat) : ∀ d,evC (qqn n) (qqo n) n (.seq (.reg []) (.seq (.seq (.reg []) (.cond (.seq (.reg []) .leaf) .leaf)) (.seq (.reg [{},{},{ an := 3 },{},{ an := 8 },{ an := 24 },{ an := 56 },{ an := 127 },{},{ an := 256 },{ an := 768 },{ an := 1792 },{ an := 4095 },{ an := 8191 }]) .leaf))) qqp [] (ent 0 29 (qqm n).as ((qqm n).io ++ (qqm n).own) d) (finR (qqn n) (qqm n).t (qqm n).m (qqm n).io [(6,none)]) = (qqm n).M d := fun d => by kernel_rfl
theorem qqr (n : Nat) : (qqm n).OK Tryz.prog :=
  wz2 (E := qqn n) (L := qqo n) (n := n) (ns := 0) (nt := 29) (rs := [(6,none)]) (ttOK tysOK _ _ _) (envOK wz0 wz0) (fn := Tryz.f173) (body := qqp) wz0 (qqq n)
noncomputable def qqs (n : Nat) : FS := ⟨156,[(.val qU7),(.val qU5),(.val (.int .i64))],[],[],(.pair qU4 .unit),.im,fun d => qdh n d.1 d.2.1 d.2.2.1⟩
noncomputable def qqt (n : Nat) : Env := ⟨Tryz.prog,tys.tt,mkΓ [qqc n,qnv n,qoj n,qqm n],0,mkGp []⟩
noncomputable def qqu (n : Nat) : Spec := ⟨[0,0,1,0,1,1,1,0,0,1,1,0,0,1,0,0,1,0,0,1,0,1,1,1,1],(.seq (.reg []) (.seq (.cond .leaf .leaf) (.seq (.blk (.seq (.reg []) (.reg []))) (.reg [])))),⟨[(0,(.val qU7)),(2,(.val (.int .i64))),(7,(.val (.int .i64))),(8,(.val (.sl qU5))),(10,(.val (.int .i64))),(11,(.val (.int .i64))),(12,(.val (.int .i64))),(41,(.val (.int .i64))),(42,(.val (.int .i64))),(54,(.val (.int .i64))),(55,(.val (.int .i64)))],[(9,0,none),(13,1,none)],[(0,false,qU5,(.ow .im)),(1,false,qU5,(.ow .im))]⟩,[(.exit 4,⟨[(0,(.val qU7)),(2,(.val (.int .i64))),(7,(.val (.int .i64))),(8,(.val (.sl qU5))),(10,(.val (.int .i64))),(11,(.val (.int .i64))),(12,(.val (.int .i64))),(41,(.val (.int .i64))),(42,(.val (.int .i64)))],[(9,0,none),(13,1,none)],[(0,false,qU5,(.ow .im)),(1,false,qU5,(.ow .im))]⟩)],qc8 n⟩
noncomputable def qqv (n : Nat) : Spec := ⟨[0,0,1,0,1,0,0,1,0,0,1,0,1,1,1,1,0,0,1,1,0,0,1,0,0,1,0,0,1,0,1,1,1,1],(.seq (.reg []) (.seq (.cond .leaf .leaf) (.seq (.join [(.norm,⟨[(0,(.val qU7)),(2,(.val (.int .i64))),(7,(.val (.int .i64))),(8,(.val (.sl qU5))),(10,(.val (.int .i64))),(11,(.val (.int .i64))),(12,(.val (.int .i64))),(15,(.val (.int .i64))),(16,(.val (.int .i64))),(41,(.val (.int .i64))),(42,(.val (.int .i64))),(76,(.val (.int .i64))),(77,(.val (.int .i64)))],[(9,0,none),(13,1,none),(75,1,none)],[(0,false,qU5,(.ow .im)),(1,false,qU5,(.ow .im))]⟩)] (.blk (.seq (.reg []) (.seq (.reg []) (.cond (.reg []) .leaf))))) (.reg [])))),⟨[(0,(.val qU7)),(2,(.val (.int .i64))),(7,(.val (.int .i64))),(8,(.val (.sl qU5))),(10,(.val (.int .i64))),(11,(.val (.int .i64))),(12,(.val (.int .i64))),(15,(.val (.int .i64))),(16,(.val (.int .i64))),(41,(.val (.int .i64))),(42,(.val (.int .i64))),(76,(.val (.int .i64))),(77,(.val (.int .i64)))],[(9,0,none),(13,1,none),(75,1,none)],[(0,false,qU5,(.ow .im)),(1,false,qU5,(.ow .im))]⟩,[(.exit 8,⟨[(0,(.val qU7)),(2,(.val (.int .i64))),(7,(.val (.int .i64))),(8,(.val (.sl qU5))),(10,(.val (.int .i64))),(11,(.val (.int .i64))),(12,(.val (.int .i64))),(15,(.val (.int .i64))),(16,(.val (.int .i64))),(41,(.val (.int .i64))),(42,(.val (.int .i64)))],[(9,0,none),(13,1,none)],[(0,false,qU5,(.ow .im)),(1,false,qU5,(.ow .im))]⟩)],qc4 n⟩
noncomputable def qqw (n : Nat) : Spec := ⟨[0,0,1,0,1,1,1,1,0,0,1,1,0,0,1,0,0,1,0,0,1,0,1,1,1,1],(.seq (.seq (.reg []) (.cond .leaf .leaf)) (.seq (.blk (.seq (.reg []) (.seq (.seq (.reg []) (.blk (.loop 1))) (.reg [])))) (.reg []))),⟨[(0,(.val qU7)),(2,(.val (.int .i64))),(7,(.val (.int .i64))),(8,(.val (.sl qU5))),(10,(.val (.int .i64))),(11,(.val (.int .i64))),(12,(.val (.int .i64))),(15,(.val (.int .i64))),(41,(.val (.int .i64))),(42,(.val (.int .i64)))],[(9,0,none),(13,1,none)],[(0,false,qU5,(.ow .im)),(1,false,qU5,(.ow .im))]⟩,[(.exit 6,⟨[(0,(.val qU7)),(2,(.val (.int .i64))),(7,(.val (.int .i64))),(8,(.val (.sl qU5))),(10,(.val (.int .i64))),(11,(.val (.int .i64))),(12,(.val (.int .i64))),(41,(.val (.int .i64))),(42,(.val (.int .i64)))],[(9,0,none),(13,1,none)],[(0,false,qU5,(.ow .im)),(1,false,qU5,(.ow .im))]⟩)],qc6 n⟩
noncomputable def qqx (n : Nat) : Spec := ⟨[0,0,1,0,0,1,0,0,1,0,1,1,1,1],(.seq (.reg []) (.seq (.cond .leaf .leaf) (.seq (.join [(.norm,⟨[(0,(.val qU7)),(2,(.val (.int .i64))),(7,(.val (.int .i64))),(8,(.val (.sl qU5))),(10,(.val (.int .i64))),(11,(.val (.int .i64))),(41,(.val (.int .i64))),(42,(.val (.int .i64)))],[(9,0,none)],[(0,false,qU5,(.ow .im))]⟩)] (.blk (.seq (.reg []) (.seq (.seq (.reg []) (.cond .leaf .leaf)) (.seq (.reg [{},{ sl := [1] }]) (.seq (.seq (.reg []) (.blk (.loop 0))) (.seq (.seq (.reg []) (.blk (.loop 2))) (.reg [])))))))) (.reg [])))),⟨[(0,(.val qU7)),(2,(.val (.int .i64))),(7,(.val (.int .i64))),(8,(.val (.sl qU5))),(10,(.val (.int .i64))),(11,(.val (.int .i64))),(41,(.val (.int .i64))),(42,(.val (.int .i64)))],[(9,0,none)],[(0,false,qU5,(.ow .im))]⟩,[(.exit 2,⟨[(0,(.val qU7)),(2,(.val (.int .i64))),(7,(.val (.int .i64))),(8,(.val (.sl qU5))),(10,(.val (.int .i64))),(11,(.val (.int .i64)))],[(9,0,none)],[(0,false,qU5,(.ow .im))]⟩)],qdc n⟩
noncomputable def qqy (n : Nat) : Spec := ⟨[0,0,1,0,1,1,1,1],(.seq (.seq (.reg []) (.cond .leaf .leaf)) (.seq (.blk (.seq (.reg []) (.blk (.loop 3)))) (.reg []))),⟨[(0,(.val qU7)),(2,(.val (.int .i64))),(7,(.val (.int .i64))),(8,(.val (.sl qU5))),(10,(.val (.int .i64))),(11,(.val (.int .i64)))],[(9,0,none)],[(0,false,qU5,(.ow .im))]⟩,[(.exit 0,⟨[(2,(.val (.int .i64))),(7,(.val (.int .i64)))],[(9,0,none)],[(0,false,qU5,(.ow .im))]⟩)],qdg n⟩
noncomputable def qqz (n : Nat) : Spec := ⟨[0,0,1,0,1,1,1,0,0,1,1,0,0,1,0,1,1,1,1,1,1],(.seq (.seq (.reg []) (.cond .leaf .leaf)) (.seq (.blk (.seq (.reg []) (.reg []))) (.reg []))),⟨[(2,(.val (.int .i64))),(7,(.val (.int .i64))),(20,(.val (.int .i64))),(21,(.val (.int .i64))),(23,(.val (.int .i64))),(116,(.val qU5)),(117,(.val (.int .i64))),(118,(.val (.int .i64)))],[(19,2,none),(22,3,none)],[(2,false,qU4,(.ow .im)),(3,false,qU5,(.ow .im))]⟩,[(.exit 12,⟨[(2,(.val (.int .i64))),(7,(.val (.int .i64))),(21,(.val (.int .i64))),(116,(.val qU5)),(117,(.val (.int .i64))),(118,(.val (.int .i64)))],[(19,2,none),(22,3,none)],[(2,false,qU4,(.ow .im)),(3,false,qU5,(.ow .im))]⟩)],qda n⟩
noncomputable def qq0 (n : Nat) : Spec := ⟨[0,0,1,0,1,1,1,1,1,1],(.seq (.reg []) (.seq (.cond .leaf .leaf) (.seq (.join [(.norm,⟨[(2,(.val (.int .i64))),(7,(.val (.int .i64))),(116,(.val qU5)),(117,(.val (.int .i64))),(118,(.val (.int .i64)))],[(19,2,none)],[(2,false,qU4,(.ow .im))]⟩)] (.blk (.seq (.reg []) (.seq (.seq (.reg []) (.cond .leaf .leaf)) (.seq (.reg [{},{ sl := [3] }]) (.seq (.seq (.reg []) (.blk (.loop 5))) (.reg [{},{},{},{},{ sl := [4] }]))))))) (.reg [])))),⟨[(2,(.val (.int .i64))),(7,(.val (.int .i64))),(116,(.val qU5)),(117,(.val (.int .i64))),(118,(.val (.int .i64)))],[(19,2,none)],[(2,false,qU4,(.ow .im))]⟩,[(.exit 10,⟨[],[(19,2,none)],[(2,false,qU4,(.ow .im))]⟩)],qde n⟩
noncomputable def qq1 (n : Nat) : List Spec := [qqu n,qqv n,qqw n,qqx n,qqy n,qqz n,qq0 n]
noncomputable def qq2 : Code := Tryz.f156.body.getD .skip
theorem qq3 (n : Nat) : ∀ d,((codeAt qq2 (qqu n).path).bind fun c => evC (qqt n) (qq1 n) n (qqu n).h c (qqu n).path ((qqu n).inp.mk_ 5 150 d) (finL (qqu n))) = (qqu n).body d := fun d => by kernel_rfl
theorem qq4 (n : Nat) : ∀ d,((codeAt qq2 (qqv n).path).bind fun c => evC (qqt n) (qq1 n) n (qqv n).h c (qqv n).path ((qqv n).inp.mk_ 5 150 d) (finL (qqv n))) = (qqv n).body d := fun d => by kernel_rfl
theorem qq5 (n : Nat) : ∀ d,((codeAt qq2 (qqw n).path).bind fun c => evC (qqt n) (qq1 n) n (qqw n).h c (qqw n).path ((qqw n).inp.mk_ 5 150 d) (finL (qqw n))) = (qqw n).body d := fun d => by kernel_rfl
theorem qq6 (n : Nat) : ∀ d,((codeAt qq2 (qqx n).path).bind fun c => evC (qqt n) (qq1 n) n (qqx n).h c (qqx n).path ((qqx n).inp.mk_ 5 150 d) (finL (qqx n))) = (qqx n).body d := fun d => by kernel_rfl
theorem qq7 (n : Nat) : ∀ d,((codeAt qq2 (qqy n).path).bind fun c => evC (qqt n) (qq1 n) n (qqy n).h c (qqy n).path ((qqy n).inp.mk_ 5 150 d) (finL (qqy n))) = (qqy n).body d := fun d => by kernel_rfl
theorem qq8 (n : Nat) : ∀ d,((codeAt qq2 (qqz n).path).bind fun c => evC (qqt n) (qq1 n) n (qqz n).h c (qqz n).path ((qqz n).inp.mk_ 5 150 d) (finL (qqz n))) = (qqz n).body d := fun d => by kernel_rfl
theorem qq9 (n : Nat) : ∀ d,((codeAt qq2 (qq0 n).path).bind fun c => evC (qqt n) (qq1 n) n (qq0 n).h c (qq0 n).path ((qq0 n).inp.mk_ 5 150 d) (finL (qq0 n))) = (qq0 n).body d := fun d => by kernel_rfl
theorem qra (n : Nat) : ∀ d,evC (qqt n) (qq1 n) n (.seq (.reg []) (.seq (.reg []) (.seq (.reg []) (.seq (.reg [{},{ sl := [0] }]) (.seq (.seq (.reg []) (.blk (.loop 4))) (.seq (.reg [{ sl := [2] }]) (.seq (.seq (.reg []) (.blk (.loop 6))) (.seq (.reg []) .leaf)))))))) qq2 [] (ent 5 150 (qqs n).as ((qqs n).io ++ (qqs n).own) d) (finR (qqt n) (qqs n).t (qqs n).m (qqs n).io [(6,none)]) = (qqs n).M d := fun d => by kernel_rfl
theorem qrb (n : Nat) : (qqs n).OK Tryz.prog :=
  wz2 (E := qqt n) (L := qq1 n) (n := n) (ns := 5) (nt := 150) (rs := [(6,none)]) (ttOK tysOK _ _ _) (envOK (all_cons (qql n) (all_cons (qn0 n) (all_cons (qoq n) (all_cons (qqr n) wz0)))) wz0) (fn := Tryz.f156) (body := qq2) (all_cons (qq3 n) (all_cons (qq4 n) (all_cons (qq5 n) (all_cons (qq6 n) (all_cons (qq7 n) (all_cons (qq8 n) (all_cons (qq9 n) wz0))))))) (qra n)
noncomputable def qrc (n : Nat) : FS := ⟨90,[(.val qU7),(.val qU0),(.val (.int .i64))],[],[],(.pair (.sl qU4) .unit),.im,fun d => qds n d.1 d.2.1 d.2.2.1⟩
noncomputable def qrd (n : Nat) : Env := ⟨Tryz.prog,tys.tt,mkΓ [qnv n,qpl n,qqs n],0,mkGp []⟩
noncomputable def qre (n : Nat) : Spec := ⟨[0,0,1,0,1,1,1],(.seq (.reg []) (.seq (.cond .leaf .leaf) (.seq (.blk (.seq (.reg []) (.reg [{},{},{},{ sl := [2] }]))) (.reg [])))),⟨[(0,(.val qU7)),(2,(.val (.int .i64))),(4,(.iadr qU0)),(7,(.val (.int .i64))),(29,(.val (.int .i64))),(30,(.val (.int .i64)))],[(8,1,none)],[(1,false,(.sl qU5),(.ow (.ow .im)))]⟩,[(.exit 0,⟨[(0,(.val qU7)),(2,(.val (.int .i64))),(4,(.iadr qU0)),(7,(.val (.int .i64)))],[(8,1,none)],[(1,false,(.sl qU5),(.ow (.ow .im)))]⟩)],qdr n⟩
noncomputable def qrf (n : Nat) : Spec := ⟨[0,0,1,0,1,0,0,1,1,0,0,1,0,1,1,1,1,1],(.seq (.seq (.reg []) (.cond .leaf .leaf)) (.seq (.blk (.reg [])) (.reg [{},{ an := 1 },{},{},{ an := 8 },{ an := 24 },{ an := 56 },{ an := 124 },{ an := 3 },{ an := 511 }]))),⟨[(0,(.val qU7)),(4,(.iadr qU0)),(7,(.val (.int .i64))),(11,(.val (.int .i64))),(12,(.val (.int .i64))),(13,(.val (.int .i64))),(41,(.val (.int .i64))),(42,(.val (.int .i64)))],[(8,1,none),(10,3,none)],[(1,false,(.sl qU5),(.ow (.ow .im))),(3,false,qU5,(.ow .im))]⟩,[(.exit 4,⟨[(0,(.val qU7)),(4,(.iadr qU0)),(7,(.val (.int .i64))),(11,(.val (.int .i64))),(41,(.val (.int .i64))),(42,(.val (.int .i64)))],[(8,1,none),(10,3,none)],[(1,false,(.sl qU5),(.ow (.ow .im))),(3,false,qU5,(.ow .im))]⟩)],qdl n⟩
noncomputable def qrg (n : Nat) : Spec := ⟨[0,0,1,1,1,1,1,0,0,1,1,0,0,1,0,1,1,1,1,1],(.seq (.reg []) (.seq (.cond .leaf .leaf) (.seq (.blk (.seq (.reg []) (.reg []))) (.reg [])))),⟨[(0,(.val qU7)),(4,(.iadr qU0)),(7,(.val (.int .i64))),(11,(.val (.int .i64))),(41,(.val (.int .i64))),(42,(.val (.int .i64))),(82,(.val qU5)),(83,(.val (.int .i64))),(84,(.val (.int .i64)))],[(8,1,none),(10,3,none)],[(1,false,(.sl qU5),(.ow (.ow .im))),(3,false,qU5,(.ow .im))]⟩,[(.exit 6,⟨[(0,(.val qU7)),(4,(.iadr qU0)),(7,(.val (.int .i64))),(41,(.val (.int .i64))),(42,(.val (.int .i64)))],[(8,1,none),(10,3,none)],[(1,false,(.sl qU5),(.ow (.ow .im))),(3,false,qU5,(.ow .im))]⟩)],qdj n⟩
noncomputable def qrh (n : Nat) : Spec := ⟨[0,0,1,0,1,1,1,1,1],(.seq (.reg []) (.seq (.cond .leaf .leaf) (.seq (.blk (.seq (.reg []) (.seq (.seq (.reg []) (.blk (.loop 1))) (.seq (.reg [{},{},{},{ fl := 4 },{ sl := [4] }]) (.seq (.reg [{},{},{},{ an := 4 },{},{},{},{ an := 64 },{ fl := 4,rd := [3],an := 224 },{ mu := [4],rd := [3,4],wr := [4],an := 511 }]) (.seq (.reg []) (.blk (.loop 2)))))))) (.reg [])))),⟨[(0,(.val qU7)),(4,(.iadr qU0)),(7,(.val (.int .i64))),(41,(.val (.int .i64))),(42,(.val (.int .i64)))],[(8,1,none),(10,3,none)],[(1,false,(.sl qU5),(.ow (.ow .im))),(3,false,qU5,(.ow .im))]⟩,[(.exit 2,⟨[(0,(.val qU7)),(7,(.val (.int .i64)))],[(8,1,none)],[(1,false,(.sl qU5),(.ow (.ow .im)))]⟩)],qdp n⟩
noncomputable def qri (n : Nat) : Spec := ⟨[0,0,1,0,1,1,1,1,1,1,1],(.seq (.reg []) (.seq (.cond .leaf .leaf) (.seq (.blk (.seq (.reg []) (.reg [{},{},{},{},{},{ sl := [6] }]))) (.reg [])))),⟨[(0,(.val qU7)),(7,(.val (.int .i64))),(98,(.val (.sl qU5))),(99,(.val (.int .i64))),(100,(.val (.int .i64)))],[(17,5,none)],[(5,false,(.sl qU4),(.ow .im))]⟩,[(.exit 8,⟨[],[(17,5,none)],[(5,false,(.sl qU4),(.ow .im))]⟩)],qdn n⟩
noncomputable def qrj (n : Nat) : List Spec := [qre n,qrf n,qrg n,qrh n,qri n]
noncomputable def qrk : Code := Tryz.f90.body.getD .skip
theorem qrl (n : Nat) : ∀ d,((codeAt qrk (qre n).path).bind fun c => evC (qrd n) (qrj n) n (qre n).h c (qre n).path ((qre n).inp.mk_ 7 113 d) (finL (qre n))) = (qre n).body d := fun d => by kernel_rfl
theorem qrm (n : Nat) : ∀ d,((codeAt qrk (qrf n).path).bind fun c => evC (qrd n) (qrj n) n (qrf n).h c (qrf n).path ((qrf n).inp.mk_ 7 113 d) (finL (qrf n))) = (qrf n).body d := fun d => by kernel_rfl
theorem qrn (n : Nat) : ∀ d,((codeAt qrk (qrg n).path).bind fun c => evC (qrd n) (qrj n) n (qrg n).h c (qrg n).path ((qrg n).inp.mk_ 7 113 d) (finL (qrg n))) = (qrg n).body d := fun d => by kernel_rfl
theorem qro (n : Nat) : ∀ d,((codeAt qrk (qrh n).path).bind fun c => evC (qrd n) (qrj n) n (qrh n).h c (qrh n).path ((qrh n).inp.mk_ 7 113 d) (finL (qrh n))) = (qrh n).body d := fun d => by kernel_rfl
theorem qrp (n : Nat) : ∀ d,((codeAt qrk (qri n).path).bind fun c => evC (qrd n) (qrj n) n (qri n).h c (qri n).path ((qri n).inp.mk_ 7 113 d) (finL (qri n))) = (qri n).body d := fun d => by kernel_rfl
theorem qrq (n : Nat) : ∀ d,evC (qrd n) (qrj n) n (.seq (.reg [{ sl := [0],fl := 1 }]) (.seq (.reg []) (.seq (.reg [{},{},{ m := (.ow .im),sl := [1] }]) (.seq (.seq (.reg []) (.blk (.loop 0))) (.seq (.reg [{},{ sl := [3] }]) (.seq (.seq (.reg []) (.blk (.loop 3))) (.seq (.reg [{ sl := [5] }]) (.seq (.seq (.reg []) (.blk (.loop 4))) (.seq (.reg []) .leaf))))))))) qrk [] (ent 7 113 (qrc n).as ((qrc n).io ++ (qrc n).own) d) (finR (qrd n) (qrc n).t (qrc n).m (qrc n).io [(6,none)]) = (qrc n).M d := fun d => by kernel_rfl
theorem qrr (n : Nat) : (qrc n).OK Tryz.prog :=
  wz2 (E := qrd n) (L := qrj n) (n := n) (ns := 7) (nt := 113) (rs := [(6,none)]) (ttOK tysOK _ _ _) (envOK (all_cons (qn0 n) (all_cons (qpx n) (all_cons (qrb n) wz0))) wz0) (fn := Tryz.f90) (body := qrk) (all_cons (qrl n) (all_cons (qrm n) (all_cons (qrn n) (all_cons (qro n) (all_cons (qrp n) wz0))))) (qrq n)
noncomputable def qrs (n : Nat) : FS := ⟨91,[(.val qU7),(.val qU0)],[],[],(.pair (.sl qU4) qU8),.im,fun d => qdz n d.1 d.2.1⟩
noncomputable def qrt (n : Nat) : Env := ⟨Tryz.prog,tys.tt,mkΓ [],0,mkGp []⟩
noncomputable def qru (n : Nat) : Spec := ⟨[0,0,1,0,1,1],(.seq (.reg []) (.seq (.cond .leaf .leaf) (.seq (.blk (.seq (.reg []) .leaf)) (.reg [])))),⟨[(3,(.iadr qU0)),(25,(.val (.int .i64))),(26,(.val (.int .i64)))],[(4,0,some ((.sl qU4),false)),(5,1,some ((.int .i64),false)),(6,3,some (qU11,false))],[(0,true,(.sl qU4),(.ow .im)),(1,true,(.int .i64),.im),(3,true,qU11,(.pr .im (.pr .im (.pr (.ow (.ow .im)) .im))))]⟩,[(.exit 0,⟨[(3,(.iadr qU0))],[(4,0,some ((.sl qU4),false)),(5,1,some ((.int .i64),false)),(6,3,some (qU11,false))],[(0,true,(.sl qU4),(.ow .im)),(1,true,(.int .i64),.im),(3,true,qU11,(.pr .im (.pr .im (.pr (.ow (.ow .im)) .im))))]⟩)],qdw n⟩
noncomputable def qrv (n : Nat) : List Spec := [qru n]
noncomputable def qrw : Code := Tryz.f91.body.getD .skip
noncomputable def qrx (n : Nat) : FD := ⟨158,[(true,(.sl qU4),(.ow .im)),(true,(.int .i64),.im)],196,fun z => (qdu n z.1 z.2.1).map (fun r => r.2),fun z => (qdt n z.1 z.2.1).map (fun r => r.2)⟩
noncomputable def qry (n : Nat) : Env := ⟨Tryz.prog,tys.tt,mkΓ [],2,mkGp []⟩
noncomputable def qrz : Code := Tryz.f158.body.getD .skip
noncomputable def qr0 (pm : Bool) : Hint := bif pm then (.seq (.reg [{},{ fl := 8 }]) (.cond (.seq (.seq (.reg [{},{ fl := 8 },{},{},{},{ sl := [2],fl := 1 }]) (.seq (.reg []) (.cond (.reg []) .leaf))) (.reg [])) .leaf)) else (.seq (.reg [{},{ fl := 8 }]) (.cond (.seq (.seq (.reg []) (.seq (.reg []) (.cond (.reg []) .leaf))) (.reg [])) .leaf))
noncomputable def qr1 (pm : Bool) : List OH := bif pm then [] else []
theorem qr2 (n : Nat) : ∀ pm (d : denT (denIO (qrx n).io) (shp (ptrs (qrx n).io 0) 0)),evFD (qry n) [] n (qr0 pm) (qr1 pm) qrz (mvR pm (qrx n).T) (ent 3 16 (ptrs (qrx n).io 0) (qrx n).io d) (finI (qry n) (qrx n).io) = (qrx n).M pm (restT (shp (ptrs (qrx n).io 0) 0) d) := fun pm d => by
  cases pm with
  | true => kernel_rfl
  | false => kernel_rfl
theorem qr3 (n : Nat) : (qrx n).OK Tryz.prog :=
  fd_ok (E := qry n) (L := []) (n := n) (ns := 3) (nt := 16) (h := qr0) (hs := qr1) (ttOK tysOK _ _ _) (envOK wz0 wz0) (fn := Tryz.f158) (body := qrz) (by kernel_rfl) (by kernel_rfl) (by kernel_rfl) (by kernel_rfl) (by kernel_rfl) (wz1 (by kernel_rfl)) (by kernel_rfl) (wz1 (by kernel_rfl)) wz0 (qr2 n)
noncomputable def qr4 (n : Nat) : Env := ⟨Tryz.prog,tys.tt,mkΓ [],2,mkGp []⟩
theorem qr5 (n : Nat) : ∀ d,((codeAt qrw (qru n).path).bind fun c => evC (qr4 n) (qrv n) n (qru n).h c (qru n).path ((qru n).inp.mk_ 4 106 d) (finL (qru n))) = (qru n).body d := fun d => by kernel_rfl
noncomputable def qr6 (n : Nat) : List Spec := [qru n]
theorem qr7 (n : Nat) : ∀ d,((codeAt qrw (qru n).path).bind fun c => evC (qrt n) (qr6 n) n (qru n).h c (qru n).path ((qru n).inp.mk_ 4 106 d) (finL (qru n))) = (qru n).body d := fun d => by kernel_rfl
noncomputable def regs_calc_symbolic_hd : HD := (.seq (.reg [{ sl := [2],fl := 1 },{ m := (.ow .im),sl := [0],fl := 1 },{ sl := [1],fl := 1 }]) (.seq (.reg [{},{},{},{},{},{},{},{},{ m := (.pr .im (.pr .im (.pr (.ow (.ow .im)) .im))),sl := [3],fl := 1 }]) (.seq (.seq (.reg []) (.blk (.loop 0))) (.dfr []))))
noncomputable def regs_calc_symbolic_sh : Shape := ⟨[(3,(.iadr qU0))],[(4,0,some ((.sl qU4),false)),(5,1,some ((.int .i64),false)),(6,3,some (qU11,false))],[(0,true,(.sl qU4),(.ow .im)),(1,true,(.int .i64),.im),(3,true,qU11,(.pr .im (.pr .im (.pr (.ow (.ow .im)) .im))))]⟩
theorem qr8 (n : Nat) : ∀ d,((codeAt qrw (regs_calc_symbolic_hd.path [])).bind fun c => evC (qr4 n) (qrv n) n (.seq .leaf (.seq (.seq (.reg []) (.blk .leaf)) (.seq (.reg []) .leaf))) c (regs_calc_symbolic_hd.path []) (regs_calc_symbolic_sh.mk_ 4 106 d) (finD (qr4 n) (qrx n) (qrs n).t (qrs n).m [(4,some 24),(5,some 31)])) = qdy n d := fun d => by kernel_rfl
theorem qr9 (n : Nat) : ∀ d,evD (qrt n) (qr6 n) n (qrx n) regs_calc_symbolic_sh (finR (qrt n) (qrs n).t (qrs n).m [] [(4,some 24),(5,some 31)]) (qdy n) regs_calc_symbolic_hd qrw [] (ent 4 106 (qrs n).as ([] ++ []) d) = (qrs n).M d := fun d => by kernel_rfl
theorem qsa (n : Nat) : (qrs n).OK Tryz.prog :=
  fs_defer (E := qrt n) (L1 := qr6 n) (L2 := qrv n) (n := n) (ns := 4) (nt := 106) (rs := [(4,some 24),(5,some 31)]) (f := 91) («as» := [(.val qU7),(.val qU0)]) (t := (.pair (.sl qU4) qU8)) (m := .im) (M := (fun d => qdz n d.1 d.2.1)) (D := qrx n) (sh := regs_calc_symbolic_sh) (hd := regs_calc_symbolic_hd) (Rm := qdy n) (k := 2) (ttOK tysOK _ _ _) (envOK wz0 wz0) (ttOK tysOK _ _ _) (envOK wz0 wz0) (fn := Tryz.f91) (body := qrw) (by kernel_rfl) (by kernel_rfl) (wz1 (by kernel_rfl)) (by kernel_rfl) (by kernel_rfl) (by kernel_rfl) (by kernel_rfl) (by kernel_rfl) (wz1 (by kernel_rfl)) (all_cons (qr7 n) wz0) (all_cons (qr5 n) wz0) (qr3 n) (qr8 n) (qr9 n)
noncomputable def qsb (n : Nat) : FS := ⟨28,[(.val qU0)],[],[],(.pair (.sl qU4) qU8),.im,fun d => qd0 n d.1⟩
noncomputable def qsc (n : Nat) : Env := ⟨Tryz.prog,tys.tt,mkΓ [qmo n,qmw n,qod n,qp4 n,qrc n,qrs n],0,mkGp []⟩
noncomputable def qsd (n : Nat) : List Spec := []
noncomputable def qse : Code := Tryz.f28.body.getD .skip
theorem qsf (n : Nat) : ∀ d,evC (qsc n) (qsd n) n (.seq (.reg [{ sl := [0],fl := 1 }]) (.seq (.seq (.reg []) (.cond (.seq (.reg []) .leaf) .leaf)) (.seq (.reg [{ rd := [0] },{ rd := [0],an := 1 },{ rd := [0] },{ rd := [0],an := 4 },{ an := 15 },{ rd := [0] },{ rd := [0],an := 32 },{ an := 96 },{ an := 255 },{ an := 511 }]) (.seq (.seq (.join [(.norm,⟨[(1,(.iadr qU0)),(4,(.val (.int .i64))),(5,(.val (.int .i64))),(24,(.val .bool))],[],[]⟩)] (.reg [])) (.cond (.seq (.reg []) .leaf) .leaf)) (.seq (.reg []) (.seq (.seq (.reg []) (.seq (.join [(.norm,⟨[(1,(.iadr qU0)),(6,(.val qU7)),(7,(.val (.int .i64))),(39,(.val .bool))],[],[]⟩)] (.reg [])) (.cond (.seq (.reg []) .leaf) .leaf))) (.seq (.reg []) .leaf))))))) qse [] (ent 1 49 (qsb n).as ((qsb n).io ++ (qsb n).own) d) (finR (qsc n) (qsb n).t (qsb n).m (qsb n).io [(2,none),(3,none)]) = (qsb n).M d := fun d => by kernel_rfl
theorem qsg (n : Nat) : (qsb n).OK Tryz.prog :=
  wz2 (E := qsc n) (L := qsd n) (n := n) (ns := 1) (nt := 49) (rs := [(2,none),(3,none)]) (ttOK tysOK _ _ _) (envOK (all_cons (qmv n) (all_cons (qm4 n) (all_cons (qoi n) (all_cons (qqb n) (all_cons (qrr n) (all_cons (qsa n) wz0)))))) wz0) (fn := Tryz.f28) (body := qse) wz0 (qsf n)
noncomputable def qsh (n : Nat) : FS := ⟨103,[(.val qU4),(.val (.int .i64))],[],[],qU10,.im,fun d => qd3 n d.1 d.2.1⟩
noncomputable def qsi (n : Nat) : Env := ⟨Tryz.prog,tys.tt,mkΓ [],0,mkGp []⟩
noncomputable def qsj (n : Nat) : Spec := ⟨[0,0,1,0,1,1],(.seq (.reg []) (.seq (.cond .leaf .leaf) (.seq (.blk (.seq (.reg []) (.seq (.join [(.norm,⟨[(1,(.val (.int .i64))),(20,(.val qU5)),(21,(.val (.int .i64))),(22,(.val (.int .i64))),(42,(.val .bool))],[],[]⟩)] (.reg [])) (.cond (.seq (.reg []) .leaf) .leaf)))) (.reg [])))),⟨[(1,(.val (.int .i64))),(20,(.val qU5)),(21,(.val (.int .i64))),(22,(.val (.int .i64)))],[],[]⟩,[(.ret,⟨[(4,(.val .bool))],[],[]⟩),(.exit 0,⟨[],[],[]⟩)],qd2 n⟩
noncomputable def qsk (n : Nat) : List Spec := [qsj n]
noncomputable def qsl : Code := Tryz.f103.body.getD .skip
theorem qsm (n : Nat) : ∀ d,((codeAt qsl (qsj n).path).bind fun c => evC (qsi n) (qsk n) n (qsj n).h c (qsj n).path ((qsj n).inp.mk_ 0 44 d) (finL (qsj n))) = (qsj n).body d := fun d => by kernel_rfl
theorem qsn (n : Nat) : ∀ d,evC (qsi n) (qsk n) n (.seq (.reg []) (.seq (.seq (.join [(.norm,⟨[(0,(.val qU4)),(1,(.val (.int .i64))),(16,(.val .bool))],[],[]⟩)] (.reg [])) (.cond (.seq (.reg []) .leaf) .leaf)) (.seq (.seq (.reg []) (.blk (.loop 0))) (.seq (.reg []) .leaf)))) qsl [] (ent 0 44 (qsh n).as ((qsh n).io ++ (qsh n).own) d) (finR (qsi n) (qsh n).t (qsh n).m (qsh n).io [(4,none)]) = (qsh n).M d := fun d => by kernel_rfl
theorem qso (n : Nat) : (qsh n).OK Tryz.prog :=
  wz2 (E := qsi n) (L := qsk n) (n := n) (ns := 0) (nt := 44) (rs := [(4,none)]) (ttOK tysOK _ _ _) (envOK wz0 wz0) (fn := Tryz.f103) (body := qsl) (all_cons (qsm n) wz0) (qsn n)
noncomputable def qsp (n : Nat) : FS := ⟨68,[(.val qU0)],[],[],(.pair (.sl .bool) qU8),.im,fun d => qd6 n d.1⟩
noncomputable def qsq (n : Nat) : Env := ⟨Tryz.prog,tys.tt,mkΓ [qsb n,qsh n],0,mkGp []⟩
noncomputable def qsr (n : Nat) : Spec := ⟨[0,0,1,0,1,1,1,1],(.seq (.reg []) (.seq (.cond .leaf .leaf) (.seq (.blk (.seq (.reg []) (.reg [{},{},{},{},{ sl := [2] }]))) (.reg [])))),⟨[(17,(.val (.sl qU4))),(18,(.val (.int .i64))),(19,(.val (.int .i64)))],[(6,1,none)],[(1,false,(.sl .bool),(.ow .im))]⟩,[(.exit 0,⟨[],[(6,1,none)],[(1,false,(.sl .bool),(.ow .im))]⟩)],qd5 n⟩
noncomputable def qss (n : Nat) : List Spec := [qsr n]
noncomputable def qst : Code := Tryz.f68.body.getD .skip
theorem qsu (n : Nat) : ∀ d,((codeAt qst (qsr n).path).bind fun c => evC (qsq n) (qss n) n (qsr n).h c (qsr n).path ((qsr n).inp.mk_ 3 32 d) (finL (qsr n))) = (qsr n).body d := fun d => by kernel_rfl
theorem qsv (n : Nat) : ∀ d,evC (qsq n) (qss n) n (.seq (.reg [{ sl := [0],fl := 1 }]) (.seq (.reg []) (.seq (.seq (.reg []) (.cond (.seq (.reg []) .leaf) .leaf)) (.seq (.reg [{ sl := [1] }]) (.seq (.seq (.reg []) (.blk (.loop 0))) (.seq (.reg []) .leaf)))))) qst [] (ent 3 32 (qsp n).as ((qsp n).io ++ (qsp n).own) d) (finR (qsq n) (qsp n).t (qsp n).m (qsp n).io [(2,none),(3,none)]) = (qsp n).M d := fun d => by kernel_rfl
theorem qsw (n : Nat) : (qsp n).OK Tryz.prog :=
  wz2 (E := qsq n) (L := qss n) (n := n) (ns := 3) (nt := 32) (rs := [(2,none),(3,none)]) (ttOK tysOK _ _ _) (envOK (all_cons (qsg n) (all_cons (qso n) wz0)) wz0) (fn := Tryz.f68) (body := qst) (all_cons (qsu n) wz0) (qsv n)
noncomputable def qsx (n : Nat) : FS := ⟨25,[(.val qU5),(.val qU5)],[],[],qU10,.im,fun d => qd9 n d.1 d.2.1⟩
noncomputable def qsy (n : Nat) : Env := ⟨Tryz.prog,tys.tt,mkΓ [],0,mkGp []⟩
noncomputable def qsz (n : Nat) : Spec := ⟨[0,0,1,0,1,1],(.seq (.seq (.reg []) (.cond .leaf .leaf)) (.seq (.blk (.seq (.reg [{},{},{ an := 3 },{ an := 7 },{},{},{ an := 48 },{ an := 112 },{ an := 255 }]) (.cond (.seq (.reg []) .leaf) .leaf))) (.reg []))),⟨[(0,(.val qU5)),(1,(.val qU5)),(5,(.val (.int .i64)))],[],[]⟩,[(.ret,⟨[(4,(.val .bool))],[],[]⟩),(.exit 0,⟨[],[],[]⟩)],qd8 n⟩
noncomputable def qs0 (n : Nat) : List Spec := [qsz n]
noncomputable def qs1 : Code := Tryz.f25.body.getD .skip
theorem qs2 (n : Nat) : ∀ d,((codeAt qs1 (qsz n).path).bind fun c => evC (qsy n) (qs0 n) n (qsz n).h c (qsz n).path ((qsz n).inp.mk_ 0 26 d) (finL (qsz n))) = (qsz n).body d := fun d => by kernel_rfl
theorem qs3 (n : Nat) : ∀ d,evC (qsy n) (qs0 n) n (.seq (.reg []) (.seq (.seq (.reg []) (.cond (.seq (.reg []) .leaf) .leaf)) (.seq (.seq (.reg []) (.blk (.loop 0))) (.seq (.reg []) .leaf)))) qs1 [] (ent 0 26 (qsx n).as ((qsx n).io ++ (qsx n).own) d) (finR (qsy n) (qsx n).t (qsx n).m (qsx n).io [(4,none)]) = (qsx n).M d := fun d => by kernel_rfl
theorem qs4 (n : Nat) : (qsx n).OK Tryz.prog :=
  wz2 (E := qsy n) (L := qs0 n) (n := n) (ns := 0) (nt := 26) (rs := [(4,none)]) (ttOK tysOK _ _ _) (envOK wz0 wz0) (fn := Tryz.f25) (body := qs1) (all_cons (qs2 n) wz0) (qs3 n)
noncomputable def qs5 (n : Nat) : FS := ⟨17,[],[],[],qU10,.im,fun d => qea n ⟩
noncomputable def qs6 (n : Nat) : Env := ⟨Tryz.prog,tys.tt,mkΓ [qih n,qm5 n,qpy n,qsp n,qmo n,qsx n],0,mkGp []⟩
noncomputable def qs7 (n : Nat) : List Spec := []
noncomputable def qs8 : Code := Tryz.f17.body.getD .skip
theorem qs9 (n : Nat) : ∀ d,evC (qs6 n) (qs7 n) n (.seq (.reg []) (.seq (.reg []) (.seq (.reg [{},{ sl := [0] },{ sl := [1] }]) (.seq (.reg []) (.seq (.reg [{},{},{},{},{},{},{},{},{},{},{},{},{},{},{},{},{ sl := [2] }]) .leaf))))) qs8 [] (ent 3 68 (qs5 n).as ((qs5 n).io ++ (qs5 n).own) d) (finR (qs6 n) (qs5 n).t (qs5 n).m (qs5 n).io [(0,none)]) = (qs5 n).M d := fun d => by kernel_rfl
theorem qta (n : Nat) : (qs5 n).OK Tryz.prog :=
  wz2 (E := qs6 n) (L := qs7 n) (n := n) (ns := 3) (nt := 68) (rs := [(0,none)]) (ttOK tysOK _ _ _) (envOK (all_cons (qim n) (all_cons (qna n) (all_cons (qp3 n) (all_cons (qsw n) (all_cons (qmv n) (all_cons (qs4 n) wz0)))))) wz0) (fn := Tryz.f17) (body := qs8) wz0 (qs9 n)
noncomputable def qtb (n : Nat) : FS := ⟨113,[(.val (.int .i64))],[],[],qU10,.im,fun d => qed n d.1⟩
noncomputable def qtc (n : Nat) : Env := ⟨Tryz.prog,tys.tt,mkΓ [],0,mkGp []⟩
noncomputable def qtd (n : Nat) : Spec := ⟨[0,0,1,0,1,1],(.seq (.seq (.reg []) (.cond .leaf .leaf)) (.seq (.blk (.seq (.reg []) (.cond (.seq (.reg []) .leaf) .leaf))) (.reg []))),⟨[(0,(.val (.int .i64))),(3,(.val (.int .i64)))],[],[]⟩,[(.ret,⟨[(2,(.val .bool))],[],[]⟩),(.exit 0,⟨[],[],[]⟩)],qec n⟩
noncomputable def qte (n : Nat) : List Spec := [qtd n]
noncomputable def qtf : Code := Tryz.f113.body.getD .skip
theorem qtg (n : Nat) : ∀ d,((codeAt qtf (qtd n).path).bind fun c => evC (qtc n) (qte n) n (qtd n).h c (qtd n).path ((qtd n).inp.mk_ 0 21 d) (finL (qtd n))) = (qtd n).body d := fun d => by kernel_rfl
theorem qth (n : Nat) : ∀ d,evC (qtc n) (qte n) n (.seq (.reg []) (.seq (.seq (.join [(.norm,⟨[(0,(.val (.int .i64))),(9,(.val .bool))],[],[]⟩)] (.reg [])) (.cond (.seq (.reg []) .leaf) .leaf)) (.seq (.seq (.reg []) (.blk (.loop 0))) (.seq (.reg []) .leaf)))) qtf [] (ent 0 21 (qtb n).as ((qtb n).io ++ (qtb n).own) d) (finR (qtc n) (qtb n).t (qtb n).m (qtb n).io [(2,none)]) = (qtb n).M d := fun d => by kernel_rfl
theorem qti (n : Nat) : (qtb n).OK Tryz.prog :=
  wz2 (E := qtc n) (L := qte n) (n := n) (ns := 0) (nt := 21) (rs := [(2,none)]) (ttOK tysOK _ _ _) (envOK wz0 wz0) (fn := Tryz.f113) (body := qtf) (all_cons (qtg n) wz0) (qth n)
noncomputable def qtj (n : Nat) : FS := ⟨52,[(.val qU2)],[],[],qU10,.im,fun d => qee n d.1⟩
noncomputable def qtk (n : Nat) : Env := ⟨Tryz.prog,tys.tt,mkΓ [qtb n],0,mkGp []⟩
noncomputable def qtl (n : Nat) : List Spec := []
noncomputable def qtm : Code := Tryz.f52.body.getD .skip
theorem qtn (n : Nat) : ∀ d,evC (qtk n) (qtl n) n (.seq (.reg [{ sl := [0],fl := 1 }]) (.seq (.seq (.join [(.norm,⟨[(1,(.iadr qU2)),(26,(.val .bool))],[],[]⟩)] (.reg [])) (.cond (.seq (.reg []) .leaf) .leaf)) (.seq (.reg []) .leaf))) qtm [] (ent 1 36 (qtj n).as ((qtj n).io ++ (qtj n).own) d) (finR (qtk n) (qtj n).t (qtj n).m (qtj n).io [(2,none)]) = (qtj n).M d := fun d => by kernel_rfl
theorem qto (n : Nat) : (qtj n).OK Tryz.prog :=
  wz2 (E := qtk n) (L := qtl n) (n := n) (ns := 1) (nt := 36) (rs := [(2,none)]) (ttOK tysOK _ _ _) (envOK (all_cons (qti n) wz0) wz0) (fn := Tryz.f52) (body := qtm) wz0 (qtn n)
noncomputable def qtp (n : Nat) : FS := ⟨203,[(.val (.int .i64))],[],[],qU8,.im,fun d => qeh n d.1⟩
noncomputable def qtq (n : Nat) : Env := ⟨Tryz.prog,tys.tt,mkΓ [],0,mkGp []⟩
noncomputable def qtr (n : Nat) : Spec := ⟨[0,0,0,1,1],(.seq (.seq (.reg []) (.cond .leaf .leaf)) (.seq (.blk (.reg [])) (.reg []))),⟨[(0,(.val (.int .i64))),(3,(.val (.int .i64)))],[],[]⟩,[(.exit 0,⟨[(3,(.val (.int .i64)))],[],[]⟩)],qeg n⟩
noncomputable def qts (n : Nat) : List Spec := [qtr n]
noncomputable def qtt : Code := Tryz.f203.body.getD .skip
theorem qtu (n : Nat) : ∀ d,((codeAt qtt (qtr n).path).bind fun c => evC (qtq n) (qts n) n (qtr n).h c (qtr n).path ((qtr n).inp.mk_ 0 11 d) (finL (qtr n))) = (qtr n).body d := fun d => by kernel_rfl
theorem qtv (n : Nat) : ∀ d,evC (qtq n) (qts n) n (.seq (.reg []) (.seq (.reg []) (.seq (.blk (.loop 0)) (.seq (.reg []) .leaf)))) qtt [] (ent 0 11 (qtp n).as ((qtp n).io ++ (qtp n).own) d) (finR (qtq n) (qtp n).t (qtp n).m (qtp n).io [(2,none)]) = (qtp n).M d := fun d => by kernel_rfl
theorem qtw (n : Nat) : (qtp n).OK Tryz.prog :=
  wz2 (E := qtq n) (L := qts n) (n := n) (ns := 0) (nt := 11) (rs := [(2,none)]) (ttOK tysOK _ _ _) (envOK wz0 wz0) (fn := Tryz.f203) (body := qtt) (all_cons (qtu n) wz0) (qtv n)
noncomputable def qtx (n : Nat) : FS := ⟨204,[(.val (.int .i64)),(.val (.int .i64))],[],[],qU8,.im,fun d => qek n d.1 d.2.1⟩
noncomputable def qty (n : Nat) : Env := ⟨Tryz.prog,tys.tt,mkΓ [qtp n],0,mkGp []⟩
noncomputable def qtz (n : Nat) : Spec := ⟨[0,0,0,1],(.seq (.seq (.reg []) (.cond .leaf .leaf)) (.blk (.reg []))),⟨[(0,(.val (.int .i64))),(1,(.val (.int .i64)))],[],[]⟩,[(.exit 0,⟨[(0,(.val (.int .i64)))],[],[]⟩)],qej n⟩
noncomputable def qt0 (n : Nat) : List Spec := [qtz n]
noncomputable def qt1 : Code := Tryz.f204.body.getD .skip
theorem qt2 (n : Nat) : ∀ d,((codeAt qt1 (qtz n).path).bind fun c => evC (qty n) (qt0 n) n (qtz n).h c (qtz n).path ((qtz n).inp.mk_ 0 20 d) (finL (qtz n))) = (qtz n).body d := fun d => by kernel_rfl
theorem qt3 (n : Nat) : ∀ d,evC (qty n) (qt0 n) n (.seq (.reg []) (.seq (.blk (.loop 0)) (.seq (.reg []) .leaf))) qt1 [] (ent 0 20 (qtx n).as ((qtx n).io ++ (qtx n).own) d) (finR (qty n) (qtx n).t (qtx n).m (qtx n).io [(4,none)]) = (qtx n).M d := fun d => by kernel_rfl
theorem qt4 (n : Nat) : (qtx n).OK Tryz.prog :=
  wz2 (E := qty n) (L := qt0 n) (n := n) (ns := 0) (nt := 20) (rs := [(4,none)]) (ttOK tysOK _ _ _) (envOK (all_cons (qtw n) wz0) wz0) (fn := Tryz.f204) (body := qt1) (all_cons (qt2 n) wz0) (qt3 n)
noncomputable def qt5 (n : Nat) : FS := ⟨163,[(.val (.int .i64))],[],[],qU10,.im,fun d => qen n d.1⟩
noncomputable def qt6 (n : Nat) : Env := ⟨Tryz.prog,tys.tt,mkΓ [qtp n,qtx n],0,mkGp []⟩
noncomputable def qt7 (n : Nat) : Spec := ⟨[0,0,1,0,1,1],(.seq (.seq (.reg []) (.cond .leaf .leaf)) (.seq (.blk (.seq (.reg []) (.cond (.seq (.reg []) .leaf) .leaf))) (.reg []))),⟨[(0,(.val (.int .i64))),(3,(.val (.int .i64)))],[],[]⟩,[(.ret,⟨[(2,(.val .bool))],[],[]⟩),(.exit 0,⟨[],[],[]⟩)],qem n⟩
noncomputable def qt8 (n : Nat) : List Spec := [qt7 n]
noncomputable def qt9 : Code := Tryz.f163.body.getD .skip
theorem qua (n : Nat) : ∀ d,((codeAt qt9 (qt7 n).path).bind fun c => evC (qt6 n) (qt8 n) n (qt7 n).h c (qt7 n).path ((qt7 n).inp.mk_ 0 21 d) (finL (qt7 n))) = (qt7 n).body d := fun d => by kernel_rfl
theorem qub (n : Nat) : ∀ d,evC (qt6 n) (qt8 n) n (.seq (.reg []) (.seq (.seq (.reg []) (.cond (.seq (.reg []) .leaf) .leaf)) (.seq (.seq (.reg []) (.blk (.loop 0))) (.seq (.reg []) .leaf)))) qt9 [] (ent 0 21 (qt5 n).as ((qt5 n).io ++ (qt5 n).own) d) (finR (qt6 n) (qt5 n).t (qt5 n).m (qt5 n).io [(2,none)]) = (qt5 n).M d := fun d => by kernel_rfl
theorem quc (n : Nat) : (qt5 n).OK Tryz.prog :=
  wz2 (E := qt6 n) (L := qt8 n) (n := n) (ns := 0) (nt := 21) (rs := [(2,none)]) (ttOK tysOK _ _ _) (envOK (all_cons (qtw n) (all_cons (qt4 n) wz0)) wz0) (fn := Tryz.f163) (body := qt9) (all_cons (qua n) wz0) (qub n)
noncomputable def qud (n : Nat) : FS := ⟨92,[(.val (.int .i64))],[],[],qU8,.im,fun d => qeq n d.1⟩
noncomputable def que (n : Nat) : Env := ⟨Tryz.prog,tys.tt,mkΓ [qt5 n],0,mkGp []⟩
noncomputable def quf (n : Nat) : Spec := ⟨[0,0,0,1,1],(.seq (.seq (.reg []) (.cond .leaf .leaf)) (.blk (.reg []))),⟨[(3,(.val (.int .i64)))],[],[]⟩,[(.exit 0,⟨[(3,(.val (.int .i64)))],[],[]⟩)],qep n⟩
noncomputable def qug (n : Nat) : List Spec := [quf n]
noncomputable def quh : Code := Tryz.f92.body.getD .skip
theorem qui (n : Nat) : ∀ d,((codeAt quh (quf n).path).bind fun c => evC (que n) (qug n) n (quf n).h c (quf n).path ((quf n).inp.mk_ 0 12 d) (finL (quf n))) = (quf n).body d := fun d => by kernel_rfl
theorem quj (n : Nat) : ∀ d,evC (que n) (qug n) n (.seq (.reg []) (.seq (.reg []) (.seq (.blk (.loop 0)) (.seq (.reg []) .leaf)))) quh [] (ent 0 12 (qud n).as ((qud n).io ++ (qud n).own) d) (finR (que n) (qud n).t (qud n).m (qud n).io [(2,none)]) = (qud n).M d := fun d => by kernel_rfl
theorem quk (n : Nat) : (qud n).OK Tryz.prog :=
  wz2 (E := que n) (L := qug n) (n := n) (ns := 0) (nt := 12) (rs := [(2,none)]) (ttOK tysOK _ _ _) (envOK (all_cons (quc n) wz0) wz0) (fn := Tryz.f92) (body := quh) (all_cons (qui n) wz0) (quj n)
noncomputable def qul (n : Nat) : FS := ⟨30,[(.val qU2)],[],[],(.pair qU6 .unit),.im,fun d => qer n d.1⟩
noncomputable def qum (n : Nat) : Env := ⟨Tryz.prog,tys.tt,mkΓ [qud n],0,mkGp []⟩
noncomputable def qun (n : Nat) : List Spec := []
noncomputable def qup : Code := Tryz.f30.body.getD .skip
theorem quq (n : Nat) : ∀ d,evC (qum n) (qun n) n (.seq (.reg [{ sl := [0],fl := 1 },{ sl := [1],fl := 1 }]) (.seq (.seq (.reg []) (.cond (.seq (.reg []) .leaf) .leaf)) (.seq (.reg [{ rd := [0] },{ rd := [0],an := 1 },{ rd := [0] },{ rd := [0],an := 4 },{ an := 12 },{ rd := [0] },{ rd := [0],an := 32 },{ an := 96 },{ an := 255 },{ rd := [1],wr := [1],an := 511 }]) .leaf))) qup [] (ent 2 20 (qul n).as ((qul n).io ++ (qul n).own) d) (finR (qum n) (qul n).t (qul n).m (qul n).io [(2,some 44)]) = (qul n).M d := fun d => by kernel_rfl
theorem qur (n : Nat) : (qul n).OK Tryz.prog :=
  wz2 (E := qum n) (L := qun n) (n := n) (ns := 2) (nt := 20) (rs := [(2,some 44)]) (ttOK tysOK _ _ _) (envOK (all_cons (quk n) wz0) wz0) (fn := Tryz.f30) (body := qup) wz0 (quq n)
noncomputable def qus (n : Nat) : FS := ⟨105,[(.val qU5),(.val qU5)],[],[],qU10,.im,fun d => qeu n d.1 d.2.1⟩
noncomputable def qut (n : Nat) : Env := ⟨Tryz.prog,tys.tt,mkΓ [],0,mkGp []⟩
noncomputable def quu (n : Nat) : Spec := ⟨[0,0,1,0,1],(.seq (.seq (.reg []) (.cond .leaf .leaf)) (.seq (.blk (.seq (.reg [{},{},{ an := 3 },{ an := 7 },{},{},{ an := 48 },{ an := 112 },{ an := 255 }]) (.cond (.seq (.reg [{},{},{ an := 3 },{ an := 7 },{},{},{ an := 48 },{ an := 112 },{ an := 255 },{ an := 511 }]) .leaf) .leaf))) (.reg []))),⟨[(0,(.val qU5)),(1,(.val qU5)),(5,(.val (.int .i64)))],[],[]⟩,[(.ret,⟨[(4,(.val .bool))],[],[]⟩),(.exit 0,⟨[],[],[]⟩)],qet n⟩
noncomputable def quv (n : Nat) : List Spec := [quu n]
noncomputable def quw : Code := Tryz.f105.body.getD .skip
theorem qux (n : Nat) : ∀ d,((codeAt quw (quu n).path).bind fun c => evC (qut n) (quv n) n (quu n).h c (quu n).path ((quu n).inp.mk_ 0 30 d) (finL (quu n))) = (quu n).body d := fun d => by kernel_rfl
theorem quy (n : Nat) : ∀ d,evC (qut n) (quv n) n (.seq (.reg []) (.seq (.seq (.reg []) (.blk (.loop 0))) (.seq (.reg []) .leaf))) quw [] (ent 0 30 (qus n).as ((qus n).io ++ (qus n).own) d) (finR (qut n) (qus n).t (qus n).m (qus n).io [(4,none)]) = (qus n).M d := fun d => by kernel_rfl
theorem quz (n : Nat) : (qus n).OK Tryz.prog :=
  wz2 (E := qut n) (L := quv n) (n := n) (ns := 0) (nt := 30) (rs := [(4,none)]) (ttOK tysOK _ _ _) (envOK wz0 wz0) (fn := Tryz.f105) (body := quw) (all_cons (qux n) wz0) (quy n)
noncomputable def qu0 (n : Nat) : FS := ⟨37,[(.val qU6),(.val qU4)],[],[],(.pair (.int .i64) qU10),.im,fun d => qez n d.1 d.2.1⟩
noncomputable def qu1 (n : Nat) : Env := ⟨Tryz.prog,tys.tt,mkΓ [qus n],0,mkGp []⟩
noncomputable def qu2 (n : Nat) : Spec := ⟨[0,0,1,1,0,0,1,0,0,1,0,1,1,1,1],(.seq (.seq (.reg []) (.cond .leaf .leaf)) (.seq (.blk (.seq (.join [(.norm,⟨[(1,(.val qU4)),(2,(.iadr qU6)),(6,(.val (.int .i64))),(7,(.val (.int .i64))),(8,(.val (.int .i64))),(99,(.val .bool))],[],[]⟩)] (.reg [])) (.cond (.seq (.reg []) .leaf) .leaf))) (.reg []))),⟨[(1,(.val qU4)),(2,(.iadr qU6)),(6,(.val (.int .i64))),(7,(.val (.int .i64))),(8,(.val (.int .i64)))],[],[]⟩,[(.ret,⟨[(4,(.val (.int .i64))),(5,(.val .bool))],[],[]⟩),(.exit 2,⟨[(1,(.val qU4)),(2,(.iadr qU6)),(6,(.val (.int .i64))),(7,(.val (.int .i64)))],[],[]⟩)],qew n⟩
noncomputable def qu3 (n : Nat) : Spec := ⟨[0,0,1,0,1,1,1,1],(.seq (.seq (.reg []) (.cond .leaf .leaf)) (.seq (.blk (.seq (.seq (.join [(.norm,⟨[(1,(.val qU4)),(2,(.iadr qU6)),(6,(.val (.int .i64))),(7,(.val (.int .i64))),(74,(.val .bool))],[],[]⟩)] (.reg [{},{},{ an := 3 },{ an := 7 },{ an := 15 },{ an := 31 },{},{ an := 127 },{ an := 255 },{ an := 511 },{ an := 511 },{ an := 2047 },{ an := 4095 },{ an := 8191 },{ an := 16383 },{ an := 32767 },{ an := 65535 },{ an := 131071 },{ an := 131071 },{ an := 524287 },{ an := 1048575 },{ an := 2097151 },{ an := 131071 },{ an := 4325375 },{ an := 16777215 },{ an := 33554431 },{ an := 67108863 },{ an := 134217727 },{ an := 268435455 },{ an := 536870911 },{ an := 1073741823 },{ an := 1073741823 },{ an := 3221225471 },{ an := 8589934591 },{ an := 17179869183 },{ an := 34359738367 },{ an := 1073741823 },{ an := 1073741823 },{ an := 207232172031 },{ an := 482110078975 },{ an := 1031865892863 },{ an := 2199023255551 },{ an := 4398046511103 },{ an := 8796093022207 },{ an := 17592186044415 }])) (.cond (.seq (.reg []) .leaf) .leaf)) (.seq (.reg []) (.blk (.loop 0))))) (.reg []))),⟨[(1,(.val qU4)),(2,(.iadr qU6)),(6,(.val (.int .i64))),(7,(.val (.int .i64)))],[],[]⟩,[(.ret,⟨[(4,(.val (.int .i64))),(5,(.val .bool))],[],[]⟩),(.exit 0,⟨[(6,(.val (.int .i64)))],[],[]⟩)],qey n⟩
noncomputable def qu4 (n : Nat) : List Spec := [qu2 n,qu3 n]
noncomputable def qu5 : Code := Tryz.f37.body.getD .skip
theorem qu6 (n : Nat) : ∀ d,((codeAt qu5 (qu2 n).path).bind fun c => evC (qu1 n) (qu4 n) n (qu2 n).h c (qu2 n).path ((qu2 n).inp.mk_ 1 101 d) (finL (qu2 n))) = (qu2 n).body d := fun d => by kernel_rfl
theorem qu7 (n : Nat) : ∀ d,((codeAt qu5 (qu3 n).path).bind fun c => evC (qu1 n) (qu4 n) n (qu3 n).h c (qu3 n).path ((qu3 n).inp.mk_ 1 101 d) (finL (qu3 n))) = (qu3 n).body d := fun d => by kernel_rfl
theorem qu8 (n : Nat) : ∀ d,evC (qu1 n) (qu4 n) n (.seq (.reg [{ sl := [0],fl := 1 }]) (.seq (.seq (.reg []) (.cond (.seq (.reg []) .leaf) .leaf)) (.seq (.reg []) (.seq (.seq (.join [(.norm,⟨[(1,(.val qU4)),(2,(.iadr qU6)),(6,(.val (.int .i64))),(23,(.val .bool))],[],[]⟩)] (.reg [])) (.cond (.seq (.reg []) .leaf) .leaf)) (.seq (.seq (.reg []) (.blk (.loop 1))) (.seq (.reg []) .leaf)))))) qu5 [] (ent 1 101 (qu0 n).as ((qu0 n).io ++ (qu0 n).own) d) (finR (qu1 n) (qu0 n).t (qu0 n).m (qu0 n).io [(4,none),(5,none)]) = (qu0 n).M d := fun d => by kernel_rfl
theorem qu9 (n : Nat) : (qu0 n).OK Tryz.prog :=
  wz2 (E := qu1 n) (L := qu4 n) (n := n) (ns := 1) (nt := 101) (rs := [(4,none),(5,none)]) (ttOK tysOK _ _ _) (envOK (all_cons (quz n) wz0) wz0) (fn := Tryz.f37) (body := qu5) (all_cons (qu6 n) (all_cons (qu7 n) wz0)) (qu8 n)
noncomputable def qva (n : Nat) : FS := ⟨77,[(.val (.sl qU1)),(.val (.int .i64))],[],[],qU2,.im,fun d => qe3 n d.1 d.2.1⟩
noncomputable def qvb (n : Nat) : Env := ⟨Tryz.prog,tys.tt,mkΓ [qva n],0,mkGp []⟩
noncomputable def qvc (n : Nat) : Spec := ⟨[0,0,1,0,1,1],(.seq (.seq (.join [(.norm,⟨[(0,(.val (.sl qU1))),(1,(.val (.int .i64))),(6,(.val (.int .i64))),(7,(.val (.int .i64))),(8,(.val (.int .i64))),(24,(.val .bool))],[],[]⟩)] (.reg [])) (.cond .leaf .leaf)) (.seq (.join [(.norm,⟨[(0,(.val (.sl qU1))),(1,(.val (.int .i64))),(6,(.val (.int .i64))),(7,(.val (.int .i64))),(8,(.val (.int .i64)))],[],[]⟩)] (.blk (.seq (.reg []) (.cond (.seq (.reg []) (.reg [])) .leaf)))) (.reg []))),⟨[(0,(.val (.sl qU1))),(1,(.val (.int .i64))),(6,(.val (.int .i64))),(7,(.val (.int .i64))),(8,(.val (.int .i64)))],[],[]⟩,[(.exit 0,⟨[(6,(.val (.int .i64))),(7,(.val (.int .i64)))],[],[]⟩)],qe1 (qe3 n) n⟩
noncomputable def qvd (n : Nat) : List Spec := [qvc n]
noncomputable def qve : Code := Tryz.f77.body.getD .skip
theorem qvf (n : Nat) : ∀ d,((codeAt qve (qvc n).path).bind fun c => evC (qvb n) (qvd n) n (qvc n).h c (qvc n).path ((qvc n).inp.mk_ 0 53 d) (finL (qvc n))) = (qvc n).body d := fun d => by kernel_rfl
theorem qvg (n : Nat) : ∀ d,evC (qvb n) (qvd n) n (.seq (.reg []) (.seq (.reg []) (.seq (.seq (.reg []) (.blk (.loop 0))) (.seq (.reg []) .leaf)))) qve [] (ent 0 53 (qva (n + 1)).as ((qva (n + 1)).io ++ (qva (n + 1)).own) d) (finR (qvb n) (qva (n + 1)).t (qva (n + 1)).m (qva (n + 1)).io [(4,none),(5,none)]) = (qva (n + 1)).M d := fun d => by kernel_rfl
theorem qvh : ∀ n : Nat,(qva n).OK Tryz.prog
  | 0 => fs_zero (s := qva 0) (fn := Tryz.f77) (body := qve) (by kernel_rfl) (by kernel_rfl) (by kernel_rfl) (fun _ => rfl)
  | n + 1 => have ih := qvh n
    wz2 (E := qvb n) (L := qvd n) (n := n) (ns := 0) (nt := 53) (rs := [(4,none),(5,none)]) (ttOK tysOK _ _ _) (envOK (all_cons (ih) wz0) wz0) (fn := Tryz.f77) (body := qve) (all_cons (qvf n) wz0) (qvg n)
theorem qvi (n : Nat) : (qva n).OK Tryz.prog := (qvh n)
noncomputable def qvj (n : Nat) : FS := ⟨125,[(.val qU6),(.val (.int .i64))],[],[],qU10,.im,fun d => qe4 n d.1 d.2.1⟩
noncomputable def qvk (n : Nat) : Env := ⟨Tryz.prog,tys.tt,mkΓ [],0,mkGp []⟩
noncomputable def qvl (n : Nat) : List Spec := []
noncomputable def qvm : Code := Tryz.f125.body.getD .skip
theorem qvn (n : Nat) : ∀ d,evC (qvk n) (qvl n) n (.seq (.reg [{ sl := [0],fl := 1 }]) (.seq (.reg []) .leaf)) qvm [] (ent 1 13 (qvj n).as ((qvj n).io ++ (qvj n).own) d) (finR (qvk n) (qvj n).t (qvj n).m (qvj n).io [(4,none)]) = (qvj n).M d := fun d => by kernel_rfl
theorem qvo (n : Nat) : (qvj n).OK Tryz.prog :=
  wz2 (E := qvk n) (L := qvl n) (n := n) (ns := 1) (nt := 13) (rs := [(4,none)]) (ttOK tysOK _ _ _) (envOK wz0 wz0) (fn := Tryz.f125) (body := qvm) wz0 (qvn n)
noncomputable def qvp (n : Nat) : FS := ⟨149,[(.val qU0),(.val qU6),(.val qU5),(.val qU1)],[],[],qU10,.im,fun d => qe7 n d.1 d.2.1 d.2.2.1 d.2.2.2.1⟩
noncomputable def qvq (n : Nat) : Env := ⟨Tryz.prog,tys.tt,mkΓ [qvj n],0,mkGp []⟩
noncomputable def qvr (n : Nat) : Spec := ⟨[0,0,1,0,1,1,1],(.seq (.seq (.reg []) (.cond .leaf .leaf)) (.seq (.blk (.seq (.reg [{},{},{},{},{},{ sl := [3],fl := 1 }]) (.seq (.join [(.norm,⟨[(4,(.iadr qU0)),(7,(.iadr qU3)),(9,(.val (.int .i64))),(126,(.val .bool))],[],[]⟩)] (.reg [])) (.cond (.seq (.reg []) .leaf) .leaf)))) (.reg []))),⟨[(4,(.iadr qU0)),(7,(.iadr qU3)),(9,(.val (.int .i64)))],[],[]⟩,[(.ret,⟨[(8,(.val .bool))],[],[]⟩),(.exit 0,⟨[],[],[]⟩)],qe6 n⟩
noncomputable def qvs (n : Nat) : List Spec := [qvr n]
noncomputable def qvt : Code := Tryz.f149.body.getD .skip
theorem qvu (n : Nat) : ∀ d,((codeAt qvt (qvr n).path).bind fun c => evC (qvq n) (qvs n) n (qvr n).h c (qvr n).path ((qvr n).inp.mk_ 4 127 d) (finL (qvr n))) = (qvr n).body d := fun d => by kernel_rfl
theorem qvv (n : Nat) : ∀ d,evC (qvq n) (qvs n) n (.seq (.reg [{ sl := [0],fl := 1 },{ sl := [1],fl := 1 },{ sl := [2],fl := 1 }]) (.seq (.seq (.join [(.norm,⟨[(2,(.val qU5)),(4,(.iadr qU0)),(7,(.iadr qU3)),(50,(.val .bool))],[],[]⟩)] (.reg [])) (.cond (.seq (.reg []) .leaf) .leaf)) (.seq (.seq (.join [(.norm,⟨[(4,(.iadr qU0)),(7,(.iadr qU3)),(81,(.val .bool))],[],[]⟩)] (.reg [{},{},{ an := 2 },{ an := 7 },{ an := 15 },{ an := 31 },{ an := 63 },{ an := 127 },{ an := 255 },{ an := 511 },{ an := 127 },{ an := 127 },{ an := 2175 },{ an := 7295 },{ an := 15487 },{ an := 32767 },{ an := 65535 },{ an := 131071 },{ an := 262143 },{ an := 262143 },{ an := 786431 },{ an := 2097151 },{ an := 4194303 },{ an := 8388607 },{ an := 16777215 },{ an := 33554431 },{ an := 67108863 },{ an := 134217727 },{ an := 268435455 },{ an := 536870911 },{ an := 1073741823 }])) (.cond (.seq (.reg []) .leaf) .leaf)) (.seq (.seq (.reg []) (.blk (.loop 0))) (.seq (.reg []) .leaf))))) qvt [] (ent 4 127 (qvp n).as ((qvp n).io ++ (qvp n).own) d) (finR (qvq n) (qvp n).t (qvp n).m (qvp n).io [(8,none)]) = (qvp n).M d := fun d => by kernel_rfl
theorem qvw (n : Nat) : (qvp n).OK Tryz.prog :=
  wz2 (E := qvq n) (L := qvs n) (n := n) (ns := 4) (nt := 127) (rs := [(8,none)]) (ttOK tysOK _ _ _) (envOK (all_cons (qvo n) wz0) wz0) (fn := Tryz.f149) (body := qvt) (all_cons (qvu n) wz0) (qvv n)
noncomputable def qvx (n : Nat) : FS := ⟨78,[(.val qU0),(.val qU6),(.val qU5),(.val (.sl qU1))],[],[],qU10,.im,fun d => qfb n d.1 d.2.1 d.2.2.1 d.2.2.2.1⟩
noncomputable def qvy (n : Nat) : Env := ⟨Tryz.prog,tys.tt,mkΓ [qvp n,qvj n,qvx n],0,mkGp []⟩
noncomputable def qvz (n : Nat) : Spec := ⟨[0,0,1,0,1],(.seq (.seq (.reg []) (.cond .leaf .leaf)) (.seq (.join [(.ret,⟨[(8,(.val .bool))],[],[]⟩),(.norm,⟨[(2,(.val qU5)),(3,(.val (.sl qU1))),(4,(.iadr qU0)),(5,(.iadr qU6)),(9,(.val (.int .i64)))],[],[]⟩)] (.blk (.seq (.reg [{},{},{},{},{ sl := [2],fl := 1 }]) (.seq (.reg []) (.blk (.seq (.reg []) (.cond (.seq (.reg []) (.cond (.seq (.reg []) .leaf) .leaf)) (.seq (.reg []) (.cond (.seq (.join [(.norm,⟨[(2,(.val qU5)),(3,(.val (.sl qU1))),(4,(.iadr qU0)),(5,(.iadr qU6)),(9,(.val (.int .i64))),(76,(.val .bool))],[],[]⟩)] (.reg [])) (.cond (.seq (.reg []) .leaf) .leaf)) (.seq (.reg []) (.cond (.seq (.join [(.norm,⟨[(2,(.val qU5)),(3,(.val (.sl qU1))),(4,(.iadr qU0)),(5,(.iadr qU6)),(9,(.val (.int .i64))),(116,(.val .bool))],[],[]⟩)] (.reg [])) (.cond (.seq (.reg []) .leaf) .leaf)) (.seq (.reg []) .leaf)))))))))))) (.reg []))),⟨[(2,(.val qU5)),(3,(.val (.sl qU1))),(4,(.iadr qU0)),(5,(.iadr qU6)),(9,(.val (.int .i64)))],[],[]⟩,[(.ret,⟨[(8,(.val .bool))],[],[]⟩),(.exit 0,⟨[],[],[]⟩)],qe9 (qfb n) n⟩
noncomputable def qv0 (n : Nat) : List Spec := [qvz n]
noncomputable def qv1 : Code := Tryz.f78.body.getD .skip
theorem qv2 (n : Nat) : ∀ d,((codeAt qv1 (qvz n).path).bind fun c => evC (qvy n) (qv0 n) n (qvz n).h c (qvz n).path ((qvz n).inp.mk_ 3 117 d) (finL (qvz n))) = (qvz n).body d := fun d => by kernel_rfl
theorem qv3 (n : Nat) : ∀ d,evC (qvy n) (qv0 n) n (.seq (.reg [{ sl := [0],fl := 1 },{ sl := [1],fl := 1 }]) (.seq (.seq (.reg []) (.blk (.loop 0))) (.seq (.reg []) .leaf))) qv1 [] (ent 3 117 (qvx (n + 1)).as ((qvx (n + 1)).io ++ (qvx (n + 1)).own) d) (finR (qvy n) (qvx (n + 1)).t (qvx (n + 1)).m (qvx (n + 1)).io [(8,none)]) = (qvx (n + 1)).M d := fun d => by kernel_rfl
theorem qv4 : ∀ n : Nat,(qvx n).OK Tryz.prog
  | 0 => fs_zero (s := qvx 0) (fn := Tryz.f78) (body := qv1) (by kernel_rfl) (by kernel_rfl) (by kernel_rfl) (fun _ => rfl)
  | n + 1 => have ih := qv4 n
    wz2 (E := qvy n) (L := qv0 n) (n := n) (ns := 3) (nt := 117) (rs := [(8,none)]) (ttOK tysOK _ _ _) (envOK (all_cons (qvw n) (all_cons (qvo n) (all_cons (ih) wz0))) wz0) (fn := Tryz.f78) (body := qv1) (all_cons (qv2 n) wz0) (qv3 n)
theorem qv5 (n : Nat) : (qvx n).OK Tryz.prog := (qv4 n)
noncomputable def qv6 (n : Nat) : FS := ⟨18,[(.val qU0)],[],[],qU10,.im,fun d => qfe n d.1⟩
noncomputable def qv7 (n : Nat) : Env := ⟨Tryz.prog,tys.tt,mkΓ [qtj n,qul n,qu0 n,qva n,qvx n],0,mkGp []⟩
noncomputable def qv8 (n : Nat) : Spec := ⟨[0,0,1,0,1,1,1,1],(.seq (.seq (.reg []) (.cond .leaf .leaf)) (.seq (.blk (.seq (.reg [{ rd := [1] },{},{ an := 2 },{},{ an := 14 },{ an := 30 },{ an := 63 },{ an := 127 },{ an := 255 },{ an := 255 },{ an := 511 },{ an := 2047 }]) (.seq (.seq (.reg []) (.cond (.seq (.reg []) .leaf) .leaf)) (.reg [])))) (.reg []))),⟨[(1,(.iadr qU0)),(5,(.val (.int .i64)))],[(3,1,some (qU6,false)),(4,2,none)],[(1,true,qU6,.im),(2,false,qU5,(.ow .im))]⟩,[(.ret,⟨[(2,(.val .bool))],[],[]⟩),(.exit 0,⟨[(1,(.iadr qU0))],[(3,1,some (qU6,false)),(4,2,none)],[(1,true,qU6,.im),(2,false,qU5,(.ow .im))]⟩)],qfd n⟩
noncomputable def qv9 (n : Nat) : List Spec := [qv8 n]
noncomputable def qwa : Code := Tryz.f18.body.getD .skip
theorem qwb (n : Nat) : ∀ d,((codeAt qwa (qv8 n).path).bind fun c => evC (qv7 n) (qv9 n) n (qv8 n).h c (qv8 n).path ((qv8 n).inp.mk_ 3 90 d) (finL (qv8 n))) = (qv8 n).body d := fun d => by kernel_rfl
theorem qwc (n : Nat) : ∀ d,evC (qv7 n) (qv9 n) n (.seq (.reg [{ sl := [0],fl := 1 }]) (.seq (.seq (.join [(.norm,⟨[(1,(.iadr qU0)),(39,(.val .bool))],[],[]⟩)] (.reg [])) (.cond (.seq (.reg []) .leaf) .leaf)) (.seq (.reg [{},{},{},{ sl := [1],fl := 1 }]) (.seq (.reg [{},{},{},{ sl := [2] }]) (.seq (.seq (.reg []) (.blk (.loop 0))) (.seq (.reg []) (.seq (.reg []) .leaf))))))) qwa [] (ent 3 90 (qv6 n).as ((qv6 n).io ++ (qv6 n).own) d) (finR (qv7 n) (qv6 n).t (qv6 n).m (qv6 n).io [(2,none)]) = (qv6 n).M d := fun d => by kernel_rfl
theorem qwd (n : Nat) : (qv6 n).OK Tryz.prog :=
  wz2 (E := qv7 n) (L := qv9 n) (n := n) (ns := 3) (nt := 90) (rs := [(2,none)]) (ttOK tysOK _ _ _) (envOK (all_cons (qto n) (all_cons (qur n) (all_cons (qu9 n) (all_cons (qvi n) (all_cons (qv5 n) wz0))))) wz0) (fn := Tryz.f18) (body := qwa) (all_cons (qwb n) wz0) (qwc n)
noncomputable def qwe (n : Nat) : FS := ⟨79,[(.val (.sl qU1))],[],[],qU8,.im,fun d => qfi n d.1⟩
noncomputable def qwf (n : Nat) : Env := ⟨Tryz.prog,tys.tt,mkΓ [qwe n],0,mkGp []⟩
noncomputable def qwg (n : Nat) : Spec := ⟨[0,0,1,0,1,1],(.seq (.seq (.reg []) (.cond .leaf .leaf)) (.seq (.blk (.seq (.reg []) (.seq (.join [(.ret,⟨[(2,(.val (.int .i64)))],[],[]⟩),(.norm,⟨[(0,(.val (.sl qU1))),(3,(.val (.int .i64))),(4,(.val (.int .i64))),(5,(.val (.int .i64)))],[],[]⟩)] (.seq (.reg []) (.cond (.seq (.reg []) (.seq (.seq (.join [(.norm,⟨[(0,(.val (.sl qU1))),(3,(.val (.int .i64))),(4,(.val (.int .i64))),(5,(.val (.int .i64))),(35,(.val .bool))],[],[]⟩)] (.reg [{},{ an := 1 },{ an := 3 },{ an := 7 },{ an := 7 },{ an := 31 },{ an := 63 },{ an := 127 },{ an := 7 },{ an := 263 },{ an := 1023 },{ an := 2047 }])) (.cond (.seq (.reg []) .leaf) .leaf)) (.reg []))) .leaf))) (.reg [])))) (.reg []))),⟨[(0,(.val (.sl qU1))),(3,(.val (.int .i64))),(4,(.val (.int .i64)))],[],[]⟩,[(.ret,⟨[(2,(.val (.int .i64)))],[],[]⟩),(.exit 0,⟨[(3,(.val (.int .i64)))],[],[]⟩)],qfg (qfi n) n⟩
noncomputable def qwh (n : Nat) : List Spec := [qwg n]
noncomputable def qwi : Code := Tryz.f79.body.getD .skip
theorem qwj (n : Nat) : ∀ d,((codeAt qwi (qwg n).path).bind fun c => evC (qwf n) (qwh n) n (qwg n).h c (qwg n).path ((qwg n).inp.mk_ 0 48 d) (finL (qwg n))) = (qwg n).body d := fun d => by kernel_rfl
theorem qwk (n : Nat) : ∀ d,evC (qwf n) (qwh n) n (.seq (.reg []) (.seq (.reg []) (.seq (.seq (.reg []) (.blk (.loop 0))) (.seq (.reg []) .leaf)))) qwi [] (ent 0 48 (qwe (n + 1)).as ((qwe (n + 1)).io ++ (qwe (n + 1)).own) d) (finR (qwf n) (qwe (n + 1)).t (qwe (n + 1)).m (qwe (n + 1)).io [(2,none)]) = (qwe (n + 1)).M d := fun d => by kernel_rfl
theorem qwl : ∀ n : Nat,(qwe n).OK Tryz.prog
  | 0 => fs_zero (s := qwe 0) (fn := Tryz.f79) (body := qwi) (by kernel_rfl) (by kernel_rfl) (by kernel_rfl) (fun _ => rfl)
  | n + 1 => have ih := qwl n
    wz2 (E := qwf n) (L := qwh n) (n := n) (ns := 0) (nt := 48) (rs := [(2,none)]) (ttOK tysOK _ _ _) (envOK (all_cons (ih) wz0) wz0) (fn := Tryz.f79) (body := qwi) (all_cons (qwj n) wz0) (qwk n)
theorem qwm (n : Nat) : (qwe n).OK Tryz.prog := (qwl n)
noncomputable def qwn (n : Nat) : FS := ⟨20,[(.val qU0)],[],[],qU8,.im,fun d => qfj n d.1⟩
noncomputable def qwo (n : Nat) : Env := ⟨Tryz.prog,tys.tt,mkΓ [qwe n],0,mkGp []⟩
noncomputable def qwp (n : Nat) : List Spec := []
noncomputable def qwq : Code := Tryz.f20.body.getD .skip
theorem qwr (n : Nat) : ∀ d,evC (qwo n) (qwp n) n (.seq (.reg [{ sl := [0],fl := 1 }]) (.seq (.reg []) .leaf)) qwq [] (ent 1 6 (qwn n).as ((qwn n).io ++ (qwn n).own) d) (finR (qwo n) (qwn n).t (qwn n).m (qwn n).io [(2,none)]) = (qwn n).M d := fun d => by kernel_rfl
theorem qws (n : Nat) : (qwn n).OK Tryz.prog :=
  wz2 (E := qwo n) (L := qwp n) (n := n) (ns := 1) (nt := 6) (rs := [(2,none)]) (ttOK tysOK _ _ _) (envOK (all_cons (qwm n) wz0) wz0) (fn := Tryz.f20) (body := qwq) wz0 (qwr n)
noncomputable def qwt (n : Nat) : FS := ⟨88,[(.val (.sl qU1))],[],[],(.pair (.sl qU1) .unit),.im,fun d => qfn n d.1⟩
noncomputable def qwu (n : Nat) : Env := ⟨Tryz.prog,tys.tt,mkΓ [qwt n],0,mkGp []⟩
noncomputable def qwv (n : Nat) : Spec := ⟨[0,0,1,0,1,1],(.seq (.seq (.reg []) (.cond .leaf .leaf)) (.seq (.blk (.seq (.reg [{},{},{},{},{ sl := [1],fl := 1 }]) (.seq (.reg [{ sl := [2] }]) (.seq (.reg []) (.reg [{},{},{ sl := [3] }]))))) (.reg []))),⟨[(0,(.val (.sl qU1))),(4,(.val (.int .i64)))],[(3,0,none)],[(0,false,(.sl qU1),(.ow .im))]⟩,[(.exit 0,⟨[],[(3,0,none)],[(0,false,(.sl qU1),(.ow .im))]⟩)],qfl (qfn n) n⟩
noncomputable def qww (n : Nat) : List Spec := [qwv n]
noncomputable def qwx : Code := Tryz.f88.body.getD .skip
theorem qwy (n : Nat) : ∀ d,((codeAt qwx (qwv n).path).bind fun c => evC (qwu n) (qww n) n (qwv n).h c (qwv n).path ((qwv n).inp.mk_ 4 30 d) (finL (qwv n))) = (qwv n).body d := fun d => by kernel_rfl
theorem qwz (n : Nat) : ∀ d,evC (qwu n) (qww n) n (.seq (.reg []) (.seq (.reg [{ sl := [0] }]) (.seq (.seq (.reg []) (.blk (.loop 0))) (.seq (.reg []) .leaf)))) qwx [] (ent 4 30 (qwt (n + 1)).as ((qwt (n + 1)).io ++ (qwt (n + 1)).own) d) (finR (qwu n) (qwt (n + 1)).t (qwt (n + 1)).m (qwt (n + 1)).io [(2,none)]) = (qwt (n + 1)).M d := fun d => by kernel_rfl
theorem qw0 : ∀ n : Nat,(qwt n).OK Tryz.prog
  | 0 => fs_zero (s := qwt 0) (fn := Tryz.f88) (body := qwx) (by kernel_rfl) (by kernel_rfl) (by kernel_rfl) (fun _ => rfl)
  | n + 1 => have ih := qw0 n
    wz2 (E := qwu n) (L := qww n) (n := n) (ns := 4) (nt := 30) (rs := [(2,none)]) (ttOK tysOK _ _ _) (envOK (all_cons (ih) wz0) wz0) (fn := Tryz.f88) (body := qwx) (all_cons (qwy n) wz0) (qwz n)
theorem qw1 (n : Nat) : (qwt n).OK Tryz.prog := (qw0 n)
noncomputable def qw2 (n : Nat) : FS := ⟨24,[(.val qU0)],[],[],(.pair qU0 .unit),.im,fun d => qfs n d.1⟩
noncomputable def qw3 (n : Nat) : Env := ⟨Tryz.prog,tys.tt,mkΓ [qwt n],0,mkGp []⟩
noncomputable def qw4 (n : Nat) : Spec := ⟨[0,0,1,0,1,0,0,1,0,0,1,0,1,1],(.seq (.seq (.reg []) (.cond .leaf .leaf)) (.seq (.blk (.reg [{},{},{ an := 2 },{},{ an := 14 },{ an := 30 },{},{ an := 126 },{ an := 254 },{ an := 510 },{ sl := [4],rd := [4],wr := [4] },{},{ an := 2048 },{},{ an := 14336 },{ an := 30720 },{},{ an := 129024 },{ an := 260096 },{ an := 522240 },{ rd := [4],wr := [4],an := 1047552 },{ rd := [4],an := 2097150 },{ sl := [5],rd := [4,5],wr := [4,5],an := 4194302 },{ rd := [3,5],wr := [3,5],an := 8388607 },{ an := 16777215 }])) (.reg []))),⟨[(1,(.iadr qU0)),(4,(.val (.int .i64))),(6,(.val (.int .i64)))],[(2,1,some (qU0,false)),(3,2,some (qU0,false)),(5,3,none)],[(1,true,qU0,.im),(2,true,qU0,(.pr .im (.pr .im (.pr .im (.pr (.ow .im) .im))))),(3,false,qU4,(.ow .im))]⟩,[(.exit 2,⟨[(1,(.iadr qU0)),(4,(.val (.int .i64)))],[(2,1,some (qU0,false)),(3,2,some (qU0,false)),(5,3,none)],[(1,true,qU0,.im),(2,true,qU0,(.pr .im (.pr .im (.pr .im (.pr (.ow .im) .im))))),(3,false,qU4,(.ow .im))]⟩)],qfp n⟩
noncomputable def qw5 (n : Nat) : Spec := ⟨[0,0,1,0,1,1],(.seq (.seq (.reg []) (.cond .leaf .leaf)) (.seq (.blk (.seq (.reg [{ sl := [3] }]) (.seq (.seq (.reg []) (.blk (.loop 0))) (.reg [{},{},{},{ sl := [6] }])))) (.reg []))),⟨[(1,(.iadr qU0)),(4,(.val (.int .i64)))],[(2,1,some (qU0,false)),(3,2,some (qU0,false))],[(1,true,qU0,.im),(2,true,qU0,(.pr .im (.pr .im (.pr .im (.pr (.ow .im) .im)))))]⟩,[(.exit 0,⟨[],[(2,1,some (qU0,false)),(3,2,some (qU0,false))],[(1,true,qU0,.im),(2,true,qU0,(.pr .im (.pr .im (.pr .im (.pr (.ow .im) .im)))))]⟩)],qfr n⟩
noncomputable def qw6 (n : Nat) : List Spec := [qw4 n,qw5 n]
noncomputable def qw7 : Code := Tryz.f24.body.getD .skip
theorem qw8 (n : Nat) : ∀ d,((codeAt qw7 (qw4 n).path).bind fun c => evC (qw3 n) (qw6 n) n (qw4 n).h c (qw4 n).path ((qw4 n).inp.mk_ 7 65 d) (finL (qw4 n))) = (qw4 n).body d := fun d => by kernel_rfl
theorem qw9 (n : Nat) : ∀ d,((codeAt qw7 (qw5 n).path).bind fun c => evC (qw3 n) (qw6 n) n (qw5 n).h c (qw5 n).path ((qw5 n).inp.mk_ 7 65 d) (finL (qw5 n))) = (qw5 n).body d := fun d => by kernel_rfl
theorem qxa (n : Nat) : ∀ d,evC (qw3 n) (qw6 n) n (.seq (.reg [{ sl := [0],fl := 1 },{ sl := [1],fl := 1 }]) (.seq (.reg [{ rd := [0] },{ rd := [0],an := 1 },{ rd := [0] },{ rd := [0],an := 4 },{ rd := [0] },{ rd := [0],an := 16 },{ rd := [0] },{ rd := [0],an := 64 },{ an := 192 },{ an := 511 },{ m := (.pr .im (.pr .im (.pr .im (.pr (.ow .im) .im)))),sl := [2],fl := 1,rd := [2],wr := [2] },{ rd := [2],wr := [2],an := 2047 }]) (.seq (.seq (.reg []) (.blk (.loop 1))) (.seq (.reg []) .leaf)))) qw7 [] (ent 7 65 (qw2 n).as ((qw2 n).io ++ (qw2 n).own) d) (finR (qw3 n) (qw2 n).t (qw2 n).m (qw2 n).io [(2,some 27)]) = (qw2 n).M d := fun d => by kernel_rfl
theorem qxb (n : Nat) : (qw2 n).OK Tryz.prog :=
  wz2 (E := qw3 n) (L := qw6 n) (n := n) (ns := 7) (nt := 65) (rs := [(2,some 27)]) (ttOK tysOK _ _ _) (envOK (all_cons (qw1 n) wz0) wz0) (fn := Tryz.f24) (body := qw7) (all_cons (qw8 n) (all_cons (qw9 n) wz0)) (qxa n)
noncomputable def qxc (n : Nat) : FS := ⟨61,[(.val qU6),(.val qU5),(.val (.int .i64))],[],[],qU10,.im,fun d => qfv n d.1 d.2.1 d.2.2.1⟩
noncomputable def qxd (n : Nat) : Env := ⟨Tryz.prog,tys.tt,mkΓ [qvj n],0,mkGp []⟩
noncomputable def qxe (n : Nat) : Spec := ⟨[0,0,1,0,1],(.seq (.seq (.reg []) (.cond .leaf .leaf)) (.seq (.blk (.seq (.reg [{},{},{},{ an := 6 },{ an := 14 },{ an := 31 },{ an := 63 }]) (.cond (.seq (.reg []) .leaf) .leaf))) (.reg []))),⟨[(1,(.val qU5)),(2,(.val (.int .i64))),(3,(.iadr qU6)),(7,(.val (.int .i64)))],[],[]⟩,[(.ret,⟨[(6,(.val .bool))],[],[]⟩),(.exit 0,⟨[(1,(.val qU5)),(2,(.val (.int .i64)))],[],[]⟩)],qfu n⟩
noncomputable def qxf (n : Nat) : List Spec := [qxe n]
noncomputable def qxg : Code := Tryz.f61.body.getD .skip
theorem qxh (n : Nat) : ∀ d,((codeAt qxg (qxe n).path).bind fun c => evC (qxd n) (qxf n) n (qxe n).h c (qxe n).path ((qxe n).inp.mk_ 1 25 d) (finL (qxe n))) = (qxe n).body d := fun d => by kernel_rfl
theorem qxi (n : Nat) : ∀ d,evC (qxd n) (qxf n) n (.seq (.reg [{ sl := [0],fl := 1 }]) (.seq (.seq (.reg []) (.blk (.loop 0))) (.seq (.reg []) .leaf))) qxg [] (ent 1 25 (qxc n).as ((qxc n).io ++ (qxc n).own) d) (finR (qxd n) (qxc n).t (qxc n).m (qxc n).io [(6,none)]) = (qxc n).M d := fun d => by kernel_rfl
theorem qxj (n : Nat) : (qxc n).OK Tryz.prog :=
  wz2 (E := qxd n) (L := qxf n) (n := n) (ns := 1) (nt := 25) (rs := [(6,none)]) (ttOK tysOK _ _ _) (envOK (all_cons (qvo n) wz0) wz0) (fn := Tryz.f61) (body := qxg) (all_cons (qxh n) wz0) (qxi n)
noncomputable def qxk (n : Nat) : FS := ⟨19,[(.val qU0),(.val qU5),(.val qU5)],[],[],qU10,.im,fun d => qfw n d.1 d.2.1 d.2.2.1⟩
noncomputable def qxl (n : Nat) : Env := ⟨Tryz.prog,tys.tt,mkΓ [qul n,qxc n],0,mkGp []⟩
noncomputable def qxm (n : Nat) : List Spec := []
noncomputable def qxn : Code := Tryz.f19.body.getD .skip
theorem qxo (n : Nat) : ∀ d,evC (qxl n) (qxm n) n (.seq (.reg [{ sl := [0],fl := 1 }]) (.seq (.reg [{},{},{},{ sl := [1],fl := 1 }]) (.seq (.reg []) .leaf))) qxn [] (ent 2 23 (qxk n).as ((qxk n).io ++ (qxk n).own) d) (finR (qxl n) (qxk n).t (qxk n).m (qxk n).io [(6,none)]) = (qxk n).M d := fun d => by kernel_rfl
theorem qxp (n : Nat) : (qxk n).OK Tryz.prog :=
  wz2 (E := qxl n) (L := qxm n) (n := n) (ns := 2) (nt := 23) (rs := [(6,none)]) (ttOK tysOK _ _ _) (envOK (all_cons (qur n) (all_cons (qxj n) wz0)) wz0) (fn := Tryz.f19) (body := qxn) wz0 (qxo n)
noncomputable def qxq (n : Nat) : FS := ⟨40,[(.val qU0)],[],[],qU8,.im,fun d => qf3 n d.1⟩
noncomputable def qxr (n : Nat) : Env := ⟨Tryz.prog,tys.tt,mkΓ [qwn n],0,mkGp []⟩
noncomputable def qxs (n : Nat) : Spec := ⟨[0,0,1,1,0,0,1,0,0,1,0,1,0,0,1,0,0,1,0,1,1],(.seq (.seq (.reg []) (.cond .leaf .leaf)) (.seq (.join [(.norm,⟨[(1,(.iadr qU0)),(3,(.val (.int .i64))),(4,(.val (.int .i64))),(5,(.val (.int .i64))),(6,(.val (.int .i64))),(7,(.val (.int .i64)))],[],[]⟩)] (.blk (.seq (.reg []) (.cond (.reg []) .leaf)))) (.reg []))),⟨[(1,(.iadr qU0)),(3,(.val (.int .i64))),(4,(.val (.int .i64))),(5,(.val (.int .i64))),(6,(.val (.int .i64))),(7,(.val (.int .i64)))],[],[]⟩,[(.exit 4,⟨[(1,(.iadr qU0)),(3,(.val (.int .i64))),(4,(.val (.int .i64))),(5,(.val (.int .i64))),(6,(.val (.int .i64)))],[],[]⟩)],qfy n⟩
noncomputable def qxt (n : Nat) : Spec := ⟨[0,0,1,0,1,0,0,1,0,0,1,0,1,1],(.seq (.seq (.reg []) (.cond .leaf .leaf)) (.seq (.blk (.seq (.reg []) (.seq (.reg []) (.blk (.loop 0))))) (.reg []))),⟨[(1,(.iadr qU0)),(3,(.val (.int .i64))),(4,(.val (.int .i64))),(5,(.val (.int .i64))),(6,(.val (.int .i64)))],[],[]⟩,[(.exit 2,⟨[(1,(.iadr qU0)),(3,(.val (.int .i64))),(4,(.val (.int .i64))),(5,(.val (.int .i64)))],[],[]⟩)],qf0 n⟩
noncomputable def qxu (n : Nat) : Spec := ⟨[0,0,1,0,1,1],(.seq (.seq (.reg []) (.cond .leaf .leaf)) (.seq (.blk (.seq (.reg []) (.seq (.seq (.reg []) (.blk (.loop 1))) (.reg [])))) (.reg []))),⟨[(1,(.iadr qU0)),(3,(.val (.int .i64))),(4,(.val (.int .i64)))],[],[]⟩,[(.exit 0,⟨[(1,(.iadr qU0)),(3,(.val (.int .i64)))],[],[]⟩)],qf2 n⟩
noncomputable def qxv (n : Nat) : List Spec := [qxs n,qxt n,qxu n]
noncomputable def qxw : Code := Tryz.f40.body.getD .skip
theorem qxx (n : Nat) : ∀ d,((codeAt qxw (qxs n).path).bind fun c => evC (qxr n) (qxv n) n (qxs n).h c (qxs n).path ((qxs n).inp.mk_ 1 67 d) (finL (qxs n))) = (qxs n).body d := fun d => by kernel_rfl
theorem qxy (n : Nat) : ∀ d,((codeAt qxw (qxt n).path).bind fun c => evC (qxr n) (qxv n) n (qxt n).h c (qxt n).path ((qxt n).inp.mk_ 1 67 d) (finL (qxt n))) = (qxt n).body d := fun d => by kernel_rfl
theorem qxz (n : Nat) : ∀ d,((codeAt qxw (qxu n).path).bind fun c => evC (qxr n) (qxv n) n (qxu n).h c (qxu n).path ((qxu n).inp.mk_ 1 67 d) (finL (qxu n))) = (qxu n).body d := fun d => by kernel_rfl
theorem qx0 (n : Nat) : ∀ d,evC (qxr n) (qxv n) n (.seq (.reg [{ sl := [0],fl := 1 }]) (.seq (.reg []) (.seq (.seq (.reg []) (.blk (.loop 2))) (.seq (.reg [{},{ an := 1 },{},{ an := 4 },{ an := 12 },{ an := 31 },{},{ an := 127 },{ an := 255 }]) .leaf)))) qxw [] (ent 1 67 (qxq n).as ((qxq n).io ++ (qxq n).own) d) (finR (qxr n) (qxq n).t (qxq n).m (qxq n).io [(2,none)]) = (qxq n).M d := fun d => by kernel_rfl
theorem qx1 (n : Nat) : (qxq n).OK Tryz.prog :=
  wz2 (E := qxr n) (L := qxv n) (n := n) (ns := 1) (nt := 67) (rs := [(2,none)]) (ttOK tysOK _ _ _) (envOK (all_cons (qws n) wz0) wz0) (fn := Tryz.f40) (body := qxw) (all_cons (qxx n) (all_cons (qxy n) (all_cons (qxz n) wz0))) (qx0 n)
noncomputable def qx2 (n : Nat) : FS := ⟨21,[(.val qU0)],[],[],qU10,.im,fun d => qf4 n d.1⟩
noncomputable def qx3 (n : Nat) : Env := ⟨Tryz.prog,tys.tt,mkΓ [qwn n,qxq n],0,mkGp []⟩
noncomputable def qx4 (n : Nat) : List Spec := []
noncomputable def qx5 : Code := Tryz.f21.body.getD .skip
theorem qx6 (n : Nat) : ∀ d,evC (qx3 n) (qx4 n) n (.seq (.reg [{ sl := [0],fl := 1 }]) (.seq (.reg []) .leaf)) qx5 [] (ent 1 11 (qx2 n).as ((qx2 n).io ++ (qx2 n).own) d) (finR (qx3 n) (qx2 n).t (qx2 n).m (qx2 n).io [(2,none)]) = (qx2 n).M d := fun d => by kernel_rfl
theorem qx7 (n : Nat) : (qx2 n).OK Tryz.prog :=
  wz2 (E := qx3 n) (L := qx4 n) (n := n) (ns := 1) (nt := 11) (rs := [(2,none)]) (ttOK tysOK _ _ _) (envOK (all_cons (qws n) (all_cons (qx1 n) wz0)) wz0) (fn := Tryz.f21) (body := qx5) wz0 (qx6 n)
noncomputable def qx8 (n : Nat) : FS := ⟨93,[(.val qU6),(.val (.int .i64)),(.val (.int .i64))],[],[],qU8,.im,fun d => qf7 n d.1 d.2.1 d.2.2.1⟩
noncomputable def qx9 (n : Nat) : Env := ⟨Tryz.prog,tys.tt,mkΓ [],0,mkGp []⟩
noncomputable def qya (n : Nat) : Spec := ⟨[0,0,0,1,1,1],(.seq (.seq (.reg []) (.cond .leaf .leaf)) (.seq (.join [(.norm,⟨[(1,(.val (.int .i64))),(2,(.val (.int .i64))),(3,(.iadr qU6)),(7,(.val (.int .i64)))],[],[]⟩)] (.blk (.seq (.join [(.norm,⟨[(1,(.val (.int .i64))),(2,(.val (.int .i64))),(3,(.iadr qU6)),(7,(.val (.int .i64)))],[],[]⟩)] (.seq (.reg []) (.cond (.reg []) .leaf))) (.seq (.reg []) (.seq (.reg []) (.cond (.reg []) .leaf)))))) (.reg []))),⟨[(1,(.val (.int .i64))),(2,(.val (.int .i64))),(3,(.iadr qU6)),(7,(.val (.int .i64)))],[],[]⟩,[(.exit 0,⟨[(7,(.val (.int .i64)))],[],[]⟩)],qf6 n⟩
noncomputable def qyb (n : Nat) : List Spec := [qya n]
noncomputable def qyc : Code := Tryz.f93.body.getD .skip
theorem qyd (n : Nat) : ∀ d,((codeAt qyc (qya n).path).bind fun c => evC (qx9 n) (qyb n) n (qya n).h c (qya n).path ((qya n).inp.mk_ 1 38 d) (finL (qya n))) = (qya n).body d := fun d => by kernel_rfl
theorem qye (n : Nat) : ∀ d,evC (qx9 n) (qyb n) n (.seq (.reg [{ sl := [0],fl := 1 }]) (.seq (.seq (.reg []) (.cond (.seq (.reg []) .leaf) .leaf)) (.seq (.reg []) (.seq (.blk (.loop 0)) (.seq (.reg []) .leaf))))) qyc [] (ent 1 38 (qx8 n).as ((qx8 n).io ++ (qx8 n).own) d) (finR (qx9 n) (qx8 n).t (qx8 n).m (qx8 n).io [(6,none)]) = (qx8 n).M d := fun d => by kernel_rfl
theorem qyf (n : Nat) : (qx8 n).OK Tryz.prog :=
  wz2 (E := qx9 n) (L := qyb n) (n := n) (ns := 1) (nt := 38) (rs := [(6,none)]) (ttOK tysOK _ _ _) (envOK wz0 wz0) (fn := Tryz.f93) (body := qyc) (all_cons (qyd n) wz0) (qye n)
noncomputable def qyg (n : Nat) : FS := ⟨94,[(.val qU6),(.val (.int .i64)),(.val (.int .i64))],[],[],qU8,.im,fun d => qga n d.1 d.2.1 d.2.2.1⟩
noncomputable def qyh (n : Nat) : Env := ⟨Tryz.prog,tys.tt,mkΓ [qx8 n],0,mkGp []⟩
noncomputable def qyi (n : Nat) : Spec := ⟨[0,0,0,1,1],(.seq (.seq (.reg []) (.cond .leaf .leaf)) (.seq (.blk (.seq (.join [(.norm,⟨[(1,(.val (.int .i64))),(2,(.val (.int .i64))),(3,(.iadr qU6)),(7,(.val (.int .i64)))],[],[]⟩)] (.seq (.reg []) (.cond (.reg []) .leaf))) (.reg []))) (.reg []))),⟨[(1,(.val (.int .i64))),(2,(.val (.int .i64))),(3,(.iadr qU6)),(7,(.val (.int .i64)))],[],[]⟩,[(.exit 0,⟨[(7,(.val (.int .i64)))],[],[]⟩)],qf9 n⟩
noncomputable def qyj (n : Nat) : List Spec := [qyi n]
noncomputable def qyk : Code := Tryz.f94.body.getD .skip
theorem qyl (n : Nat) : ∀ d,((codeAt qyk (qyi n).path).bind fun c => evC (qyh n) (qyj n) n (qyi n).h c (qyi n).path ((qyi n).inp.mk_ 1 24 d) (finL (qyi n))) = (qyi n).body d := fun d => by kernel_rfl
theorem qym (n : Nat) : ∀ d,evC (qyh n) (qyj n) n (.seq (.reg [{ sl := [0],fl := 1 }]) (.seq (.reg []) (.seq (.blk (.loop 0)) (.seq (.reg []) .leaf)))) qyk [] (ent 1 24 (qyg n).as ((qyg n).io ++ (qyg n).own) d) (finR (qyh n) (qyg n).t (qyg n).m (qyg n).io [(6,none)]) = (qyg n).M d := fun d => by kernel_rfl
theorem qyn (n : Nat) : (qyg n).OK Tryz.prog :=
  wz2 (E := qyh n) (L := qyj n) (n := n) (ns := 1) (nt := 24) (rs := [(6,none)]) (ttOK tysOK _ _ _) (envOK (all_cons (qyf n) wz0) wz0) (fn := Tryz.f94) (body := qyk) (all_cons (qyl n) wz0) (qym n)
noncomputable def qyo (n : Nat) : FS := ⟨38,[(.val qU6),(.val (.int .i64)),(.val (.int .i64))],[],[],qU8,.im,fun d => qgb n d.1 d.2.1 d.2.2.1⟩
noncomputable def qyp (n : Nat) : Env := ⟨Tryz.prog,tys.tt,mkΓ [],0,mkGp []⟩
noncomputable def qyq (n : Nat) : List Spec := []
noncomputable def qyr : Code := Tryz.f38.body.getD .skip
theorem qys (n : Nat) : ∀ d,evC (qyp n) (qyq n) n (.seq (.reg [{ sl := [0],fl := 1 }]) (.seq (.seq (.reg []) (.cond (.seq (.reg []) .leaf) .leaf)) (.seq (.reg []) .leaf))) qyr [] (ent 1 19 (qyo n).as ((qyo n).io ++ (qyo n).own) d) (finR (qyp n) (qyo n).t (qyo n).m (qyo n).io [(6,none)]) = (qyo n).M d := fun d => by kernel_rfl
theorem qyt (n : Nat) : (qyo n).OK Tryz.prog :=
  wz2 (E := qyp n) (L := qyq n) (n := n) (ns := 1) (nt := 19) (rs := [(6,none)]) (ttOK tysOK _ _ _) (envOK wz0 wz0) (fn := Tryz.f38) (body := qyr) wz0 (qys n)
noncomputable def qyu (n : Nat) : FS := ⟨31,[(.val qU6),(.val qU4),(.val qU5)],[],[],qU8,.im,fun d => qgg n d.1 d.2.1 d.2.2.1⟩
noncomputable def qyv (n : Nat) : Env := ⟨Tryz.prog,tys.tt,mkΓ [qyg n,qx8 n,qyo n],0,mkGp []⟩
noncomputable def qyw (n : Nat) : Spec := ⟨[0,0,1,0,1,0,0,1,0,0,1,0,1,1],(.seq (.seq (.join [(.norm,⟨[(1,(.val qU4)),(2,(.val qU5)),(3,(.iadr qU6)),(7,(.val (.int .i64))),(8,(.val (.int .i64))),(9,(.val (.int .i64))),(10,(.val (.int .i64))),(33,(.val .bool))],[],[]⟩)] (.reg [])) (.cond .leaf .leaf)) (.seq (.join [(.norm,⟨[(1,(.val qU4)),(2,(.val qU5)),(3,(.iadr qU6)),(7,(.val (.int .i64))),(8,(.val (.int .i64))),(9,(.val (.int .i64))),(10,(.val (.int .i64)))],[],[]⟩)] (.blk (.seq (.reg []) (.cond (.reg [{},{},{},{},{},{ an := 24 },{ an := 56 },{},{},{ an := 384 },{ an := 896 },{ an := 1920 },{},{ an := 8064 },{ an := 16256 },{ an := 32764 },{ an := 65535 },{ an := 131071 }]) .leaf)))) (.reg []))),⟨[(1,(.val qU4)),(2,(.val qU5)),(3,(.iadr qU6)),(7,(.val (.int .i64))),(8,(.val (.int .i64))),(9,(.val (.int .i64))),(10,(.val (.int .i64)))],[],[]⟩,[(.exit 2,⟨[(1,(.val qU4)),(2,(.val qU5)),(3,(.iadr qU6)),(7,(.val (.int .i64))),(8,(.val (.int .i64))),(9,(.val (.int .i64)))],[],[]⟩)],qgd n⟩
noncomputable def qyx (n : Nat) : Spec := ⟨[0,0,1,0,1,1],(.seq (.seq (.reg []) (.cond .leaf .leaf)) (.seq (.blk (.seq (.reg []) (.seq (.seq (.reg []) (.blk (.loop 0))) (.reg [])))) (.reg []))),⟨[(1,(.val qU4)),(2,(.val qU5)),(3,(.iadr qU6)),(7,(.val (.int .i64))),(8,(.val (.int .i64)))],[],[]⟩,[(.exit 0,⟨[(7,(.val (.int .i64)))],[],[]⟩)],qgf n⟩
noncomputable def qyy (n : Nat) : List Spec := [qyw n,qyx n]
noncomputable def qyz : Code := Tryz.f31.body.getD .skip
theorem qy0 (n : Nat) : ∀ d,((codeAt qyz (qyw n).path).bind fun c => evC (qyv n) (qyy n) n (qyw n).h c (qyw n).path ((qyw n).inp.mk_ 1 67 d) (finL (qyw n))) = (qyw n).body d := fun d => by kernel_rfl
theorem qy1 (n : Nat) : ∀ d,((codeAt qyz (qyx n).path).bind fun c => evC (qyv n) (qyy n) n (qyx n).h c (qyx n).path ((qyx n).inp.mk_ 1 67 d) (finL (qyx n))) = (qyx n).body d := fun d => by kernel_rfl
theorem qy2 (n : Nat) : ∀ d,evC (qyv n) (qyy n) n (.seq (.reg [{ sl := [0],fl := 1 }]) (.seq (.reg []) (.seq (.seq (.reg []) (.blk (.loop 1))) (.seq (.reg []) .leaf)))) qyz [] (ent 1 67 (qyu n).as ((qyu n).io ++ (qyu n).own) d) (finR (qyv n) (qyu n).t (qyu n).m (qyu n).io [(6,none)]) = (qyu n).M d := fun d => by kernel_rfl
theorem qy3 (n : Nat) : (qyu n).OK Tryz.prog :=
  wz2 (E := qyv n) (L := qyy n) (n := n) (ns := 1) (nt := 67) (rs := [(6,none)]) (ttOK tysOK _ _ _) (envOK (all_cons (qyn n) (all_cons (qyf n) (all_cons (qyt n) wz0))) wz0) (fn := Tryz.f31) (body := qyz) (all_cons (qy0 n) (all_cons (qy1 n) wz0)) (qy2 n)
noncomputable def qy4 (n : Nat) : FS := ⟨80,[(.ptr 0 qU9),(.val (.sl qU1))],[(true,qU9,(.pr .im (.pr .im (.pr (.ow .im) .im))))],[],.unit,.im,fun d => qgo n d.2.1 d.2.2.1⟩
noncomputable def qy5 (n : Nat) : Env := ⟨Tryz.prog,tys.tt,mkΓ [qyu n,qx8 n,qyo n,qwe n,qy4 n],1,mkGp []⟩
noncomputable def qy6 (n : Nat) : Spec := ⟨[0,0,1,0,1,0,1,0,1,1,0,0,1,0,0,1],(.seq (.seq (.reg []) (.cond .leaf .leaf)) (.seq (.join [(.norm,⟨[(1,(.val (.sl qU1))),(4,(.val (.int .i64))),(7,(.val (.int .i64)))],[(0,0,some (qU9,false)),(5,1,some (qU3,false)),(6,2,none)],[(0,true,qU9,(.pr .im (.pr .im (.pr (.ow .im) .im)))),(1,true,qU3,.im),(2,false,qU5,(.ow .im))]⟩)] (.blk (.seq (.reg []) (.cond (.reg [{},{},{},{ rd := [0],an := 4 },{ rd := [0],an := 12 },{ rd := [0],an := 28 },{ rd := [1] },{ rd := [1],an := 64 },{},{ an := 448 },{ an := 960 },{ an := 1984 },{ an := 4092 },{ an := 8188 },{ rd := [2],an := 16383 },{ rd := [2],wr := [2],an := 32767 }]) (.reg [{},{},{},{ rd := [0],an := 4 },{ rd := [0],an := 12 },{ rd := [0],an := 28 },{ rd := [1] },{ rd := [1],an := 64 },{},{ an := 448 },{ an := 960 },{ an := 1984 },{ rd := [0],an := 4092 },{ rd := [0],an := 8188 },{ rd := [2],an := 16383 },{ rd := [2],wr := [2],an := 32767 }]))))) (.reg []))),⟨[(1,(.val (.sl qU1))),(4,(.val (.int .i64))),(7,(.val (.int .i64)))],[(0,0,some (qU9,false)),(5,1,some (qU3,false)),(6,2,none)],[(0,true,qU9,(.pr .im (.pr .im (.pr (.ow .im) .im)))),(1,true,qU3,.im),(2,false,qU5,(.ow .im))]⟩,[(.exit 3,⟨[(1,(.val (.sl qU1))),(4,(.val (.int .i64)))],[(0,0,some (qU9,false)),(5,1,some (qU3,false)),(6,2,none)],[(0,true,qU9,(.pr .im (.pr .im (.pr (.ow .im) .im)))),(1,true,qU3,.im),(2,false,qU5,(.ow .im))]⟩)],qgk (qgo n) n⟩
noncomputable def qy7 (n : Nat) : Spec := ⟨[0,0,1,0,1,1,1,1,1,0,1,1,0,0,1,0,0,1],(.seq (.seq (.join [(.norm,⟨[(1,(.val (.sl qU1))),(4,(.val (.int .i64))),(8,(.val (.int .i64))),(145,(.val .bool))],[(0,0,some (qU9,false)),(5,1,some (qU3,false))],[(0,true,qU9,(.pr .im (.pr .im (.pr (.ow .im) .im)))),(1,true,qU3,.im)]⟩)] (.reg [])) (.cond .leaf .leaf)) (.seq (.blk (.reg [{},{},{},{ mu := [0] }])) (.reg []))),⟨[(1,(.val (.sl qU1))),(4,(.val (.int .i64))),(8,(.val (.int .i64)))],[(0,0,some (qU9,false)),(5,1,some (qU3,false))],[(0,true,qU9,(.pr .im (.pr .im (.pr (.ow .im) .im)))),(1,true,qU3,.im)]⟩,[(.exit 5,⟨[(1,(.val (.sl qU1))),(4,(.val (.int .i64)))],[(0,0,some (qU9,false))],[(0,true,qU9,(.pr .im (.pr .im (.pr (.ow .im) .im))))]⟩)],qgi (qgo n) n⟩
noncomputable def qy8 (n : Nat) : Spec := ⟨[0,0,1],(.seq (.seq (.reg []) (.cond .leaf .leaf)) (.seq (.join [(.norm,⟨[(1,(.val (.sl qU1))),(4,(.val (.int .i64)))],[(0,0,some (qU9,false))],[(0,true,qU9,(.pr .im (.pr .im (.pr (.ow .im) .im))))]⟩)] (.blk (.seq (.reg [{},{},{},{},{ sl := [1],fl := 1 }]) (.seq (.reg []) (.blk (.seq (.reg []) (.cond (.seq (.reg [{},{},{},{ sl := [2] }]) (.seq (.seq (.reg []) (.blk (.loop 0))) (.reg [{},{ rd := [0],an := 1 },{ rd := [0],an := 3 },{ rd := [0],an := 7 },{ rd := [1] },{ rd := [1],an := 16 },{},{ rd := [0],an := 64 },{ rd := [0],an := 192 },{ rd := [0],an := 448 },{},{ rd := [0],an := 1024 },{ rd := [0],an := 3072 },{ rd := [0],an := 7168 },{ rd := [1] },{ rd := [1],an := 16384 },{ rd := [0],an := 64512 },{ rd := [0],an := 130048 },{},{ rd := [0],an := 262144 },{ rd := [0],an := 786432 },{ rd := [0],an := 1835008 },{ rd := [1] },{ rd := [1],an := 4194304 },{},{ rd := [0],an := 16777216 },{ rd := [0],an := 50331648 },{ rd := [0],an := 117440512 },{},{ rd := [0],an := 268435456 },{ rd := [0],an := 805306368 },{ rd := [0],an := 1879048192 },{ rd := [1] },{ rd := [1],an := 4294967296 },{ an := 16911433728 },{ an := 34091302912 },{},{ rd := [2],an := 137422176256 },{ an := 274877644800 },{ an := 549755813824 },{ rd := [0],an := 1099511627775 },{ rd := [0],wr := [0],an := 2199023255551 }]))) (.seq (.reg []) (.cond (.reg [{},{ rd := [0],an := 1 },{ rd := [0],an := 3 },{ rd := [0],an := 7 },{ rd := [1] },{ rd := [1],an := 16 },{},{ rd := [0],an := 64 },{ rd := [0],an := 192 },{ rd := [0],an := 448 },{},{ rd := [0],an := 1024 },{ rd := [0],an := 3072 },{ rd := [0],an := 7168 },{ rd := [1] },{ rd := [1],an := 16384 },{ rd := [0],an := 64512 },{ rd := [0],an := 130048 },{ rd := [1] },{ rd := [1],an := 262144 },{ an := 1048512 },{ rd := [0],an := 2097151 },{ rd := [0],wr := [0],an := 4194303 }]) (.seq (.reg []) (.cond (.seq (.reg []) (.blk (.loop 1))) .leaf))))))))))) (.reg []))),⟨[(1,(.val (.sl qU1))),(4,(.val (.int .i64)))],[(0,0,some (qU9,false))],[(0,true,qU9,(.pr .im (.pr .im (.pr (.ow .im) .im))))]⟩,[(.exit 0,⟨[],[],[(0,true,qU9,(.pr .im (.pr .im (.pr (.ow .im) .im))))]⟩)],qgm (qgo n) n⟩
noncomputable def qy9 (n : Nat) : List Spec := [qy6 n,qy7 n,qy8 n]
noncomputable def qza : Code := Tryz.f80.body.getD .skip
theorem qzb (n : Nat) : ∀ d,((codeAt qza (qy6 n).path).bind fun c => evC (qy5 n) (qy9 n) n (qy6 n).h c (qy6 n).path ((qy6 n).inp.mk_ 3 152 d) (finL (qy6 n))) = (qy6 n).body d := fun d => by kernel_rfl
theorem qzc (n : Nat) : ∀ d,((codeAt qza (qy7 n).path).bind fun c => evC (qy5 n) (qy9 n) n (qy7 n).h c (qy7 n).path ((qy7 n).inp.mk_ 3 152 d) (finL (qy7 n))) = (qy7 n).body d := fun d => by kernel_rfl
theorem qzd (n : Nat) : ∀ d,((codeAt qza (qy8 n).path).bind fun c => evC (qy5 n) (qy9 n) n (qy8 n).h c (qy8 n).path ((qy8 n).inp.mk_ 3 152 d) (finL (qy8 n))) = (qy8 n).body d := fun d => by kernel_rfl
theorem qze (n : Nat) : ∀ d,evC (qy5 n) (qy9 n) n (.seq (.reg []) (.blk (.loop 2))) qza [] (ent 3 152 (qy4 (n + 1)).as ((qy4 (n + 1)).io ++ (qy4 (n + 1)).own) d) (finR (qy5 n) (qy4 (n + 1)).t (qy4 (n + 1)).m (qy4 (n + 1)).io []) = (qy4 (n + 1)).M d := fun d => by kernel_rfl
theorem qzf : ∀ n : Nat,(qy4 n).OK Tryz.prog
  | 0 => fs_zero (s := qy4 0) (fn := Tryz.f80) (body := qza) (by kernel_rfl) (by kernel_rfl) (by kernel_rfl) (fun _ => rfl)
  | n + 1 => have ih := qzf n
    wz2 (E := qy5 n) (L := qy9 n) (n := n) (ns := 3) (nt := 152) (rs := []) (ttOK tysOK _ _ _) (envOK (all_cons (qy3 n) (all_cons (qyf n) (all_cons (qyt n) (all_cons (qwm n) (all_cons (ih) wz0))))) wz0) (fn := Tryz.f80) (body := qza) (all_cons (qzb n) (all_cons (qzc n) (all_cons (qzd n) wz0))) (qze n)
theorem qzg (n : Nat) : (qy4 n).OK Tryz.prog := (qzf n)
noncomputable def qzh (n : Nat) : FS := ⟨22,[(.val qU0),(.val qU5),(.val qU5)],[],[],(.pair qU5 .unit),.im,fun d => qgp n d.1 d.2.1 d.2.2.1⟩
noncomputable def qzi (n : Nat) : Env := ⟨Tryz.prog,tys.tt,mkΓ [qul n,qy4 n],0,mkGp []⟩
noncomputable def qzj (n : Nat) : List Spec := []
noncomputable def qzk : Code := Tryz.f22.body.getD .skip
theorem qzl (n : Nat) : ∀ d,evC (qzi n) (qzj n) n (.seq (.reg [{ sl := [0],fl := 1 }]) (.seq (.reg [{ rd := [0] },{ rd := [0],an := 1 },{ an := 3 },{ rd := [0] },{ rd := [0],an := 8 },{ sl := [1],rd := [1],wr := [1] },{},{ rd := [1],wr := [1],an := 103 },{},{ rd := [1],an := 511 },{ m := (.pr .im (.pr .im (.pr (.ow .im) .im))),sl := [2],fl := 1,rd := [1,2],wr := [1,2],an := 1023 },{ an := 2047 }]) (.seq (.reg [{},{},{},{ mu := [2] }]) (.seq (.reg []) .leaf)))) qzk [] (ent 3 27 (qzh n).as ((qzh n).io ++ (qzh n).own) d) (finR (qzi n) (qzh n).t (qzh n).m (qzh n).io [(6,none)]) = (qzh n).M d := fun d => by kernel_rfl
theorem qzm (n : Nat) : (qzh n).OK Tryz.prog :=
  wz2 (E := qzi n) (L := qzj n) (n := n) (ns := 3) (nt := 27) (rs := [(6,none)]) (ttOK tysOK _ _ _) (envOK (all_cons (qur n) (all_cons (qzg n) wz0)) wz0) (fn := Tryz.f22) (body := qzk) wz0 (qzl n)
noncomputable def qzn (n : Nat) : FS := ⟨85,[(.val qU5)],[],[],(.pair qU5 .unit),.im,fun d => qgr n d.1⟩
noncomputable def qzo (n : Nat) : Env := ⟨Tryz.prog,tys.tt,mkΓ [],0,mkGp []⟩
noncomputable def qzp (n : Nat) : List Spec := []
noncomputable def qzq : Code := Tryz.f85.body.getD .skip
theorem qzr (n : Nat) : ∀ b d,evC (qzo n) (qzp n) n (.seq (.reg []) (.seq (.seq (.reg []) (.cond (.seq (.reg []) .leaf) .leaf)) (.seq (.reg [{ sl := [0] }]) .leaf))) qzq [] (entN 1 8 (.int .i64) [] [] d b) (finR (qzo n) (qzn n).t (qzn n).m [] [(2,none)]) = qgq n b d.1 := fun b d => by kernel_rfl
theorem qzs (n : Nat) : (qzn n).OK Tryz.prog :=
  fs_okN (E := qzo n) (L := qzp n) (n := n) (ns := 1) (nt := 8) (rs := [(2,none)]) (f := 85) (t := (.int .i64)) (T := (.pair qU5 .unit)) («as» := []) (io := []) (own := []) (m := .im) (M := (fun d => qgr n d.1 )) (ttOK tysOK _ _ _) (envOK wz0 wz0) (fn := Tryz.f85) (body := qzq) (by kernel_rfl) (by kernel_rfl) (by kernel_rfl) (by kernel_rfl) (by kernel_rfl) (wz1 (by kernel_rfl)) (by kernel_rfl) (wz1 (by kernel_rfl)) wz0 (fun d b r hb hr => by
    cases b with
    | false => exact (qzr n false d).trans hr
    | true =>
      obtain ⟨x,d⟩ := d
      obtain rfl := (hb rfl : x = [])
      exact (qzr n true ([],d)).trans hr)
noncomputable def qzt (n : Nat) : FS := ⟨171,[(.val (.sl qU13))],[],[],(.pair (.sl qU13) .unit),.im,fun d => qgt n d.1⟩
noncomputable def qzu (n : Nat) : Env := ⟨Tryz.prog,tys.tt,mkΓ [],0,mkGp []⟩
noncomputable def qzv (n : Nat) : List Spec := []
noncomputable def qzw : Code := Tryz.f171.body.getD .skip
theorem qzx (n : Nat) : ∀ b d,evC (qzu n) (qzv n) n (.seq (.reg []) (.seq (.seq (.reg []) (.cond (.seq (.reg []) .leaf) .leaf)) (.seq (.reg [{ sl := [0] }]) .leaf))) qzw [] (entN 1 8 qU13 [] [] d b) (finR (qzu n) (qzt n).t (qzt n).m [] [(2,none)]) = qgs n b d.1 := fun b d => by kernel_rfl
theorem qzy (n : Nat) : (qzt n).OK Tryz.prog :=
  fs_okN (E := qzu n) (L := qzv n) (n := n) (ns := 1) (nt := 8) (rs := [(2,none)]) (f := 171) (t := qU13) (T := (.pair (.sl qU13) .unit)) («as» := []) (io := []) (own := []) (m := .im) (M := (fun d => qgt n d.1 )) (ttOK tysOK _ _ _) (envOK wz0 wz0) (fn := Tryz.f171) (body := qzw) (by kernel_rfl) (by kernel_rfl) (by kernel_rfl) (by kernel_rfl) (by kernel_rfl) (wz1 (by kernel_rfl)) (by kernel_rfl) (wz1 (by kernel_rfl)) wz0 (fun d b r hb hr => by
    cases b with
    | false => exact (qzx n false d).trans hr
    | true =>
      obtain ⟨x,d⟩ := d
      obtain rfl := (hb rfl : x = [])
      exact (qzx n true ([],d)).trans hr)
noncomputable def qzz (n : Nat) : FS := ⟨43,[(.val qU0)],[],[],qU10,.im,fun d => qgu n d.1⟩
noncomputable def qz0 (n : Nat) : Env := ⟨Tryz.prog,tys.tt,mkΓ [],0,mkGp []⟩
noncomputable def qz1 (n : Nat) : List Spec := []
noncomputable def qz2 : Code := Tryz.f43.body.getD .skip
theorem qz3 (n : Nat) : ∀ d,evC (qz0 n) (qz1 n) n (.seq (.reg [{ sl := [0],fl := 1 }]) (.seq (.reg []) .leaf)) qz2 [] (ent 1 29 (qzz n).as ((qzz n).io ++ (qzz n).own) d) (finR (qz0 n) (qzz n).t (qzz n).m (qzz n).io [(2,none)]) = (qzz n).M d := fun d => by kernel_rfl
theorem qz4 (n : Nat) : (qzz n).OK Tryz.prog :=
  wz2 (E := qz0 n) (L := qz1 n) (n := n) (ns := 1) (nt := 29) (rs := [(2,none)]) (ttOK tysOK _ _ _) (envOK wz0 wz0) (fn := Tryz.f43) (body := qz2) wz0 (qz3 n)
noncomputable def qz5 (n : Nat) : FS := ⟨107,[(.val qU0)],[],[],(.pair qU0 .unit),.im,fun d => qgz n d.1⟩
noncomputable def qz6 (n : Nat) : Env := ⟨Tryz.prog,tys.tt,mkΓ [qzn n],0,mkGp []⟩
noncomputable def qz7 (n : Nat) : Spec := ⟨[0,0,1,0,1,1,0,0,1,1,0,0,1,0,1,1],(.seq (.reg []) (.seq (.cond .leaf .leaf) (.seq (.blk (.seq (.reg [{},{},{ sl := [4],fl := 1 }]) (.reg [{},{ rd := [4] },{ rd := [4],an := 2 },{ rd := [4] },{ rd := [4],an := 8 },{ an := 24 },{ an := 62 },{ sl := [5],rd := [5],wr := [5],an := 126 },{ rd := [3,5],wr := [3,5],an := 255 },{ an := 511 }]))) (.reg [])))),⟨[(17,(.val (.sl qU4))),(18,(.val (.int .i64))),(19,(.val (.int .i64))),(23,(.val qU4)),(24,(.val (.int .i64))),(25,(.val (.int .i64)))],[(2,1,some (qU0,false)),(3,2,some (qU0,false)),(6,3,none)],[(1,true,qU0,.im),(2,true,qU0,(.pr .im (.pr .im (.pr .im (.pr (.ow .im) .im))))),(3,false,qU4,(.ow .im))]⟩,[(.exit 2,⟨[(17,(.val (.sl qU4))),(18,(.val (.int .i64))),(19,(.val (.int .i64)))],[(2,1,some (qU0,false)),(3,2,some (qU0,false)),(6,3,none)],[(1,true,qU0,.im),(2,true,qU0,(.pr .im (.pr .im (.pr .im (.pr (.ow .im) .im))))),(3,false,qU4,(.ow .im))]⟩)],qgw n⟩
noncomputable def qz8 (n : Nat) : Spec := ⟨[0,0,1,0,1,1],(.seq (.reg []) (.seq (.cond .leaf .leaf) (.seq (.blk (.seq (.reg []) (.seq (.reg [{ sl := [3] }]) (.seq (.seq (.reg []) (.blk (.loop 0))) (.reg [{},{},{},{ sl := [6] }]))))) (.reg [])))),⟨[(17,(.val (.sl qU4))),(18,(.val (.int .i64))),(19,(.val (.int .i64)))],[(2,1,some (qU0,false)),(3,2,some (qU0,false))],[(1,true,qU0,.im),(2,true,qU0,(.pr .im (.pr .im (.pr .im (.pr (.ow .im) .im)))))]⟩,[(.exit 0,⟨[],[(2,1,some (qU0,false)),(3,2,some (qU0,false))],[(1,true,qU0,.im),(2,true,qU0,(.pr .im (.pr .im (.pr .im (.pr (.ow .im) .im)))))]⟩)],qgy n⟩
noncomputable def qz9 (n : Nat) : List Spec := [qz7 n,qz8 n]
noncomputable def q0a : Code := Tryz.f107.body.getD .skip
theorem q0b (n : Nat) : ∀ d,((codeAt q0a (qz7 n).path).bind fun c => evC (qz6 n) (qz9 n) n (qz7 n).h c (qz7 n).path ((qz7 n).inp.mk_ 7 47 d) (finL (qz7 n))) = (qz7 n).body d := fun d => by kernel_rfl
theorem q0c (n : Nat) : ∀ d,((codeAt q0a (qz8 n).path).bind fun c => evC (qz6 n) (qz9 n) n (qz8 n).h c (qz8 n).path ((qz8 n).inp.mk_ 7 47 d) (finL (qz8 n))) = (qz8 n).body d := fun d => by kernel_rfl
theorem q0d (n : Nat) : ∀ d,evC (qz6 n) (qz9 n) n (.seq (.reg [{ sl := [0],fl := 1 },{ sl := [1],fl := 1 }]) (.seq (.reg [{},{},{},{},{},{},{},{ m := (.pr .im (.pr .im (.pr .im (.pr (.ow .im) .im)))),sl := [2],fl := 1 }]) (.seq (.seq (.reg []) (.blk (.loop 1))) (.seq (.reg []) .leaf)))) q0a [] (ent 7 47 (qz5 n).as ((qz5 n).io ++ (qz5 n).own) d) (finR (qz6 n) (qz5 n).t (qz5 n).m (qz5 n).io [(2,some 27)]) = (qz5 n).M d := fun d => by kernel_rfl
theorem q0e (n : Nat) : (qz5 n).OK Tryz.prog :=
  wz2 (E := qz6 n) (L := qz9 n) (n := n) (ns := 7) (nt := 47) (rs := [(2,some 27)]) (ttOK tysOK _ _ _) (envOK (all_cons (qzs n) wz0) wz0) (fn := Tryz.f107) (body := q0a) (all_cons (q0b n) (all_cons (q0c n) wz0)) (q0d n)
noncomputable def q0f (n : Nat) : FS := ⟨172,[(.val (.sl qU1))],[],[],(.pair (.ex (.fn1 210) (.sl qU1) .unit) .unit),.im,fun d => qg0 n d.1⟩
noncomputable def q0g (n : Nat) : Env := ⟨Tryz.prog,tys.tt,mkΓ [],0,mkGp []⟩
noncomputable def q0h (n : Nat) : List Spec := []
noncomputable def q0i : Code := Tryz.f172.body.getD .skip
theorem q0j (n : Nat) : ∀ d,evC (q0g n) (q0h n) n (.seq (.reg [{ sl := [0],fl := 1 }]) (.seq (.reg [{ fl := 13 }]) .leaf)) q0i [] (ent 1 4 (q0f n).as ((q0f n).io ++ (q0f n).own) d) (finR (q0g n) (q0f n).t (q0f n).m (q0f n).io [(2,none)]) = (q0f n).M d := fun d => by kernel_rfl
theorem q0k (n : Nat) : (q0f n).OK Tryz.prog :=
  wz2 (E := q0g n) (L := q0h n) (n := n) (ns := 1) (nt := 4) (rs := [(2,none)]) (ttOK tysOK _ _ _) (envOK wz0 wz0) (fn := Tryz.f172) (body := q0i) wz0 (q0j n)
noncomputable def q0l (n : Nat) : FS := ⟨182,[(.val qU2),(.val qU5)],[],[],qU8,.im,fun d => qg3 n d.1 d.2.1⟩
noncomputable def q0m (n : Nat) : Env := ⟨Tryz.prog,tys.tt,mkΓ [qiv n,qi7 n],0,mkGp []⟩
noncomputable def q0n (n : Nat) : Spec := ⟨[0,0,1,0,1,1],(.seq (.reg []) (.seq (.cond .leaf .leaf) (.seq (.blk (.seq (.reg []) (.seq (.join [(.norm,⟨[(2,(.iadr qU2)),(10,(.val qU5)),(11,(.val (.int .i64))),(12,(.val (.int .i64))),(23,(.val .bool))],[],[]⟩)] (.reg [])) (.cond (.seq (.reg []) .leaf) .leaf)))) (.reg [])))),⟨[(2,(.iadr qU2)),(10,(.val qU5)),(11,(.val (.int .i64))),(12,(.val (.int .i64)))],[],[]⟩,[(.ret,⟨[(4,(.val (.int .i64)))],[],[]⟩),(.exit 0,⟨[],[],[]⟩)],qg2 n⟩
noncomputable def q0o (n : Nat) : List Spec := [q0n n]
noncomputable def q0p : Code := Tryz.f182.body.getD .skip
theorem q0q (n : Nat) : ∀ d,((codeAt q0p (q0n n).path).bind fun c => evC (q0m n) (q0o n) n (q0n n).h c (q0n n).path ((q0n n).inp.mk_ 1 25 d) (finL (q0n n))) = (q0n n).body d := fun d => by kernel_rfl
theorem q0r (n : Nat) : ∀ d,evC (q0m n) (q0o n) n (.seq (.reg [{ sl := [0],fl := 1 }]) (.seq (.seq (.reg []) (.cond (.seq (.reg []) .leaf) .leaf)) (.seq (.seq (.reg []) (.blk (.loop 0))) (.seq (.reg []) .leaf)))) q0p [] (ent 1 25 (q0l n).as ((q0l n).io ++ (q0l n).own) d) (finR (q0m n) (q0l n).t (q0l n).m (q0l n).io [(4,none)]) = (q0l n).M d := fun d => by kernel_rfl
theorem q0s (n : Nat) : (q0l n).OK Tryz.prog :=
  wz2 (E := q0m n) (L := q0o n) (n := n) (ns := 1) (nt := 25) (rs := [(4,none)]) (ttOK tysOK _ _ _) (envOK (all_cons (qi0 n) (all_cons (qjc n) wz0)) wz0) (fn := Tryz.f182) (body := q0p) (all_cons (q0q n) wz0) (q0r n)
noncomputable def q0t (n : Nat) : FS := ⟨183,[(.val qU2)],[],[],(.pair qU15 .unit),.im,fun d => qg4 n d.1⟩
noncomputable def q0u (n : Nat) : Env := ⟨Tryz.prog,tys.tt,mkΓ [qn1 n],0,mkGp []⟩
noncomputable def q0v (n : Nat) : List Spec := []
noncomputable def q0w : Code := Tryz.f183.body.getD .skip
theorem q0x (n : Nat) : ∀ d,evC (q0u n) (q0v n) n (.seq (.reg [{ sl := [0],fl := 1 }]) (.seq (.seq (.reg []) (.cond (.seq (.reg [{},{},{},{ fl := 10 }]) .leaf) .leaf)) (.seq (.reg [{ rd := [0] },{ rd := [0],an := 1 },{ rd := [0] },{ rd := [0],an := 4 },{ an := 12 },{ an := 31 },{ fl := 10,an := 63 },{ an := 127 }]) .leaf))) q0w [] (ent 1 17 (q0t n).as ((q0t n).io ++ (q0t n).own) d) (finR (q0u n) (q0t n).t (q0t n).m (q0t n).io [(2,none)]) = (q0t n).M d := fun d => by kernel_rfl
theorem q0y (n : Nat) : (q0t n).OK Tryz.prog :=
  wz2 (E := q0u n) (L := q0v n) (n := n) (ns := 1) (nt := 17) (rs := [(2,none)]) (ttOK tysOK _ _ _) (envOK (all_cons (qn6 n) wz0) wz0) (fn := Tryz.f183) (body := q0w) wz0 (q0x n)
noncomputable def q0z (n : Nat) : FS := ⟨271,[(.val qU8),(.val (.int .i64)),(.val (.int .i64))],[],[],qU8,.im,fun d => qg5 n d.1 d.2.1 d.2.2.1⟩
noncomputable def q00 (n : Nat) : Env := ⟨Tryz.prog,tys.tt,mkΓ [],0,mkGp []⟩
noncomputable def q01 (n : Nat) : List Spec := []
noncomputable def q02 : Code := Tryz.f271.body.getD .skip
theorem q03 (n : Nat) : ∀ d,evC (q00 n) (q01 n) n (.seq (.reg [{ sl := [0],fl := 1 }]) (.seq (.reg []) .leaf)) q02 [] (ent 1 13 (q0z n).as ((q0z n).io ++ (q0z n).own) d) (finR (q00 n) (q0z n).t (q0z n).m (q0z n).io [(6,none)]) = (q0z n).M d := fun d => by kernel_rfl
theorem q04 (n : Nat) : (q0z n).OK Tryz.prog :=
  wz2 (E := q00 n) (L := q01 n) (n := n) (ns := 1) (nt := 13) (rs := [(6,none)]) (ttOK tysOK _ _ _) (envOK wz0 wz0) (fn := Tryz.f271) (body := q02) wz0 (q03 n)
noncomputable def q05 (n : Nat) : FS := ⟨274,[(.val qU2),(.val (.int .i64)),(.val (.int .i64))],[],[],qU8,.im,fun d => qg8 n d.1 d.2.1 d.2.2.1⟩
noncomputable def q06 (n : Nat) : Env := ⟨Tryz.prog,tys.tt,mkΓ [],0,mkGp []⟩
noncomputable def q07 (n : Nat) : Spec := ⟨[0,0,0,1,1],(.seq (.seq (.reg []) (.cond .leaf .leaf)) (.seq (.join [(.norm,⟨[(1,(.val (.int .i64))),(2,(.val (.int .i64))),(3,(.iadr qU2)),(7,(.val (.int .i64)))],[],[]⟩)] (.blk (.seq (.join [(.norm,⟨[(1,(.val (.int .i64))),(2,(.val (.int .i64))),(3,(.iadr qU2)),(7,(.val (.int .i64)))],[],[]⟩)] (.seq (.reg []) (.cond (.reg []) .leaf))) (.seq (.reg []) (.seq (.reg []) (.cond (.reg []) .leaf)))))) (.reg []))),⟨[(1,(.val (.int .i64))),(2,(.val (.int .i64))),(3,(.iadr qU2)),(7,(.val (.int .i64)))],[],[]⟩,[(.exit 0,⟨[(7,(.val (.int .i64)))],[],[]⟩)],qg7 n⟩
noncomputable def q08 (n : Nat) : List Spec := [q07 n]
noncomputable def q09 : Code := Tryz.f274.body.getD .skip
theorem q1a (n : Nat) : ∀ d,((codeAt q09 (q07 n).path).bind fun c => evC (q06 n) (q08 n) n (q07 n).h c (q07 n).path ((q07 n).inp.mk_ 1 30 d) (finL (q07 n))) = (q07 n).body d := fun d => by kernel_rfl
theorem q1b (n : Nat) : ∀ d,evC (q06 n) (q08 n) n (.seq (.reg [{ sl := [0],fl := 1 }]) (.seq (.reg []) (.seq (.blk (.loop 0)) (.seq (.reg []) .leaf)))) q09 [] (ent 1 30 (q05 n).as ((q05 n).io ++ (q05 n).own) d) (finR (q06 n) (q05 n).t (q05 n).m (q05 n).io [(6,none)]) = (q05 n).M d := fun d => by kernel_rfl
theorem q1c (n : Nat) : (q05 n).OK Tryz.prog :=
  wz2 (E := q06 n) (L := q08 n) (n := n) (ns := 1) (nt := 30) (rs := [(6,none)]) (ttOK tysOK _ _ _) (envOK wz0 wz0) (fn := Tryz.f274) (body := q09) (all_cons (q1a n) wz0) (q1b n)
noncomputable def q1d (n : Nat) : FS := ⟨211,[(.val qU15),(.val (.int .i64)),(.val (.int .i64))],[],[],qU8,.im,fun d => qhb n d.1 d.2.1 d.2.2.1⟩
noncomputable def q1e (n : Nat) : Env := ⟨Tryz.prog,tys.tt,mkΓ [q0z n,q05 n],0,mkGp []⟩
noncomputable def q1f (n : Nat) : Spec := ⟨[0,0,0,1,1],(.seq (.seq (.reg []) (.cond .leaf .leaf)) (.seq (.join [(.norm,⟨[(0,(.val qU15)),(1,(.val (.int .i64))),(2,(.val (.int .i64))),(7,(.val (.int .i64)))],[],[]⟩)] (.blk (.seq (.join [(.norm,⟨[(0,(.val qU15)),(1,(.val (.int .i64))),(2,(.val (.int .i64))),(7,(.val (.int .i64)))],[],[]⟩)] (.seq (.reg []) (.cond (.reg [{},{},{},{ fl := 10 }]) .leaf))) (.reg [{},{},{},{ fl := 10 }])))) (.reg []))),⟨[(0,(.val qU15)),(1,(.val (.int .i64))),(2,(.val (.int .i64))),(7,(.val (.int .i64)))],[],[]⟩,[(.exit 0,⟨[(7,(.val (.int .i64)))],[],[]⟩)],qha n⟩
noncomputable def q1g (n : Nat) : List Spec := [q1f n]
noncomputable def q1h : Code := Tryz.f211.body.getD .skip
theorem q1i (n : Nat) : ∀ d,((codeAt q1h (q1f n).path).bind fun c => evC (q1e n) (q1g n) n (q1f n).h c (q1f n).path ((q1f n).inp.mk_ 0 24 d) (finL (q1f n))) = (q1f n).body d := fun d => by kernel_rfl
theorem q1j (n : Nat) : ∀ d,evC (q1e n) (q1g n) n (.seq (.reg []) (.seq (.reg []) (.seq (.blk (.loop 0)) (.seq (.reg []) .leaf)))) q1h [] (ent 0 24 (q1d n).as ((q1d n).io ++ (q1d n).own) d) (finR (q1e n) (q1d n).t (q1d n).m (q1d n).io [(6,none)]) = (q1d n).M d := fun d => by kernel_rfl
theorem q1k (n : Nat) : (q1d n).OK Tryz.prog :=
  wz2 (E := q1e n) (L := q1g n) (n := n) (ns := 0) (nt := 24) (rs := [(6,none)]) (ttOK tysOK _ _ _) (envOK (all_cons (q04 n) (all_cons (q1c n) wz0)) wz0) (fn := Tryz.f211) (body := q1h) (all_cons (q1i n) wz0) (q1j n)
noncomputable def q1l (n : Nat) : FS := ⟨174,[(.val qU2),(.val (.int .i64))],[],[],qU2,.im,fun d => qhc n d.1 d.2.1⟩
noncomputable def q1m (n : Nat) : Env := ⟨Tryz.prog,tys.tt,mkΓ [q0l n,q0t n,qi7 n,q1d n],0,mkGp []⟩
noncomputable def q1n (n : Nat) : List Spec := []
noncomputable def q1o : Code := Tryz.f174.body.getD .skip
theorem q1p (n : Nat) : ∀ d,evC (q1m n) (q1n n) n (.seq (.reg [{ sl := [0],fl := 1 }]) (.seq (.seq (.reg [{},{},{ sl := [1] }]) (.seq (.reg []) (.cond (.seq (.reg []) .leaf) .leaf))) (.seq (.seq (.reg []) (.cond (.seq (.reg []) .leaf) .leaf)) (.seq (.reg [{ rd := [0] },{ an := 1 },{},{ rd := [0] },{ an := 11 },{ an := 27 },{ an := 63 },{ an := 127 },{ an := 255 }]) .leaf)))) q1o [] (ent 2 23 (q1l n).as ((q1l n).io ++ (q1l n).own) d) (finR (q1m n) (q1l n).t (q1l n).m (q1l n).io [(4,none),(5,none)]) = (q1l n).M d := fun d => by kernel_rfl
theorem q1q (n : Nat) : (q1l n).OK Tryz.prog :=
  wz2 (E := q1m n) (L := q1n n) (n := n) (ns := 2) (nt := 23) (rs := [(4,none),(5,none)]) (ttOK tysOK _ _ _) (envOK (all_cons (q0s n) (all_cons (q0y n) (all_cons (qjc n) (all_cons (q1k n) wz0)))) wz0) (fn := Tryz.f174) (body := q1o) wz0 (q1p n)
noncomputable def q1r : Env := ⟨Tryz.prog,tys.tt,mkΓ [],0,mkGp []⟩
noncomputable def q1s : Code := Tryz.f210.body.getD .skip
noncomputable def q1t : Array Oper := regOps (codeAt q1s [0])
noncomputable def q1u : Array Oper := regOps (codeAt q1s [0,0,0,0,1])
noncomputable def q1v : Array Oper := regOps (codeAt q1s [1,1,0,0,1])
noncomputable def q1w : Array Oper := regOps (codeAt q1s [0,0,0,1,0,0,1])
theorem q1x {p1 p2 : Nat} : ItOK Tryz.prog [(p1,.int .i64),(p2,qU1)] (fun x : Int × (Rose ((Int × (Int × (Int × (Int × (Int × ((List (Bool × (Int × Unit))) × Unit)))))) × Unit)) => (x.1,x.2,())) (itB 210 qU1) :=
  bwd_it (E := q1r) (T := qU1) (fn := Tryz.f210) (ops0 := q1t) (ops1 := q1u) (ops2 := q1v) (ops3 := q1w) (i0 := 0) (i1 := 1) (i2 := 2) (i3 := 3) (b0 := 0) (b1 := 1) (ts := 25) (te := 143) (c := callAt q1w 6) (hs0 := []) (hs1 := []) (hs2 := []) (hs7 := []) (ttOK tysOK _ _ _) (envOK wz0 wz0) rfl ⟨by kernel_rfl,by kernel_rfl,by kernel_rfl,by kernel_rfl,by kernel_rfl,by kernel_rfl,by kernel_rfl,by kernel_rfl,by kernel_rfl,by kernel_rfl,by kernel_rfl,by kernel_rfl,by kernel_rfl,by kernel_rfl,by kernel_rfl,by kernel_rfl,by kernel_rfl,by kernel_rfl,by kernel_rfl,by kernel_rfl,by kernel_rfl,by kernel_rfl,fun l => by kernel_rfl,fun i => by kernel_rfl,fun i => by kernel_rfl,fun b => by kernel_rfl⟩ (by kernel_rfl) (by kernel_rfl)
noncomputable def q1y (n : Nat) : FS := ⟨112,[(.val qU7),(.val (.sl qU1))],[],[],(.pair (.sl qU1) .unit),.im,fun d => qhi n d.1 d.2.1⟩
noncomputable def q1z (n : Nat) : Env := ⟨Tryz.prog,tys.tt,mkΓ [q0f n,qzt n,qqm n,q1l n,q1y n],0,mkGp []⟩
noncomputable def q10 (n : Nat) : List Spec := []
noncomputable def q13 : Code := Tryz.f112.body.getD .skip
noncomputable def q14 (n : Nat) : List Spec := []
noncomputable def q15 (n : Nat) : Env := ⟨Tryz.prog,tys.tt,mkΓ [q0f n,qzt n,qqm n,q1l n,q1y n],2,mkGp []⟩
noncomputable def q16 (n : Nat) : RSpec := { X := (Int × (Rose ((Int × (Int × (Int × (Int × (Int × ((List (Bool × (Int × Unit))) × Unit)))))) × Unit))),it := itB 210 qU1,pt := [(10,(.int .i64)),(11,qU1)],el := fun x => (x.1,x.2,()),tm := [(2,(.iadr qU7)),(5,(.ptr 1 (.sl qU1)))],sl := [(1,true,(.sl qU1),(.ow .im))],ha := (.reg [{ sl := [2],fl := 1 }]),hb := (.blk (.seq (.reg []) (.seq (.join [(.norm,⟨[],[(5,1,some ((.sl qU1),false)),(7,2,some (qU3,false))],[(1,true,(.sl qU1),(.ow .im)),(2,true,qU3,.im)]⟩)] (.seq (.reg []) (.blk (.seq (.reg []) (.cond (.reg []) (.seq (.reg []) (.cond (.reg [{},{ an := 1 },{ an := 3 },{ an := 7 },{ rd := [2] },{ rd := [2],an := 16 },{ an := 63 },{ an := 127 },{ an := 255 },{ an := 255 },{ rd := [2],an := 511 },{ rd := [2],wr := [2],an := 1535 }]) (.reg [])))))))) (.reg [{ rd := [1] },{ rd := [2] },{ rd := [1],an := 1 },{ sl := [3],rd := [3],wr := [3] },{ an := 15 },{ an := 31 },{ an := 63 },{ fl := 9,mu := [4],an := 31 }])))),outs := [] }
noncomputable def q17 : Code := (codeAt q13 [0,0,1,0,1,1]).getD .skip
noncomputable def q18 : Code := (codeAt q13 [1,0,1,0,1,1]).getD .skip
noncomputable def q19 : Code := (codeAt q13 [1,1,1]).getD .skip
noncomputable def regs_calc_inverted_hg : HG := (.seq (.reg [{ sl := [0],fl := 1 }]) (.seq (.reg [{ m := (.ow .im),sl := [1],fl := 1 }]) (.left (.seq (.reg []) .blk))))
theorem q2a (n : Nat) : ∀ c x d,(q16 n).round (q15 n) n q17 q18 (0 :: 0 :: regs_calc_inverted_hg.path []) (1 :: 0 :: regs_calc_inverted_hg.path []) 4 50 c x d = qhe (qhi n) n c x d := fun c x d => by kernel_rfl
theorem q2b (n : Nat) : ∀ c d,evC (q1z n) (q10 n) n (.seq (.reg []) .leaf) q19 (regs_calc_inverted_hg.rest []) ((q16 n).sh.mk_ 4 50 (addT (q16 n).tm c d)) (finR (q1z n) (q1y (n + 1)).t (q1y (n + 1)).m (q1y (n + 1)).io [(4,none)]) = qhg (qhi n) n c d := fun c d => by kernel_rfl
theorem q2c (n : Nat) : ∀ d,evG (q1z n) (q14 n) n (q16 n) (finR (q1z n) (q1y (n + 1)).t (q1y (n + 1)).m (q1y (n + 1)).io [(4,none)]) (fun xs c d0 => (rngL (qhe (qhi n) n c) xs d0).bind (rngEnd (q16 n) 4 50 c (qhg (qhi n) n c) (finR (q1z n) (q1y (n + 1)).t (q1y (n + 1)).m (q1y (n + 1)).io [(4,none)]))) regs_calc_inverted_hg q13 [] (ent 4 50 (q1y (n + 1)).as ((q1y (n + 1)).io ++ []) d) = (q1y (n + 1)).M d := fun d => by kernel_rfl
theorem q2d : ∀ n : Nat,(q1y n).OK Tryz.prog
  | 0 => fs_zero (s := q1y 0) (fn := Tryz.f112) (body := q13) (by kernel_rfl) (by kernel_rfl) (by kernel_rfl) (fun _ => rfl)
  | n + 1 => have ih := q2d n
    fs_range (E := q1z n) (L1 := q14 n) (L3 := q10 n) (n := n) (ns := 4) (nt := 50) (rs := [(4,none)]) (f := 112) («as» := [(.val qU7),(.val (.sl qU1))]) (io := []) (t := (.pair (.sl qU1) .unit)) (m := .im) (M := (fun d => qhi (n + 1) d.1 d.2.1)) (s := q16 n) (g := regs_calc_inverted_hg) (Rp := fun c d => qhg (qhi n) n c d) (rb := fun c x d => qhe (qhi n) n c x d) (k := 2) (bid := 0) (t0 := 9) (pa := #[10,11]) (ca := q17) (cb := q18) (rest := q19) (ttOK tysOK _ _ _) (envOK (all_cons (q0k n) (all_cons (qzy n) (all_cons (qqr n) (all_cons (q1q n) (all_cons (ih) wz0))))) wz0) (ttOK tysOK _ _ _) (envOK (all_cons (q0k n) (all_cons (qzy n) (all_cons (qqr n) (all_cons (q1q n) (all_cons (ih) wz0))))) wz0) (fn := Tryz.f112) (body := q13) (by kernel_rfl) (wz1 (by kernel_rfl)) (wz1 (by kernel_rfl)) (wz1 (by kernel_rfl)) (by kernel_rfl) (by kernel_rfl) (by kernel_rfl) (by kernel_rfl) (by kernel_rfl) (by kernel_rfl) (wz1 (by kernel_rfl)) (q1x) ⟨(by kernel_rfl),(by kernel_rfl),(by kernel_rfl),(by kernel_rfl),(by kernel_rfl),(by kernel_rfl),(by kernel_rfl),(by kernel_rfl),(by kernel_rfl)⟩ (by kernel_rfl) (by kernel_rfl) wz0 wz0 (q2a n) (q2b n) (q2c n)
theorem q2e (n : Nat) : (q1y n).OK Tryz.prog := (q2d n)
noncomputable def q2f (n : Nat) : FS := ⟨47,[(.val qU0)],[],[],(.pair qU0 qU8),.im,fun d => qhj n d.1⟩
noncomputable def q2g (n : Nat) : Env := ⟨Tryz.prog,tys.tt,mkΓ [qmo n,qz5 n,qod n,q1y n],0,mkGp []⟩
noncomputable def q2h (n : Nat) : List Spec := []
noncomputable def q2i : Code := Tryz.f47.body.getD .skip
theorem q2j (n : Nat) : ∀ d,evC (q2g n) (q2h n) n (.seq (.reg [{ sl := [0],fl := 1 },{ sl := [1],fl := 1 }]) (.seq (.seq (.reg []) (.cond (.seq (.reg []) .leaf) .leaf)) (.seq (.reg [{},{},{ sl := [2],fl := 1 }]) (.seq (.reg [{ rd := [0] },{ rd := [0],an := 1 },{ an := 3 },{ rd := [0] },{ rd := [0],an := 8 },{ an := 31 },{ rd := [2],an := 63 },{ rd := [2],wr := [2],an := 127 }]) (.seq (.reg []) .leaf))))) q2i [] (ent 3 19 (q2f n).as ((q2f n).io ++ (q2f n).own) d) (finR (q2g n) (q2f n).t (q2f n).m (q2f n).io [(2,some 27),(3,none)]) = (q2f n).M d := fun d => by kernel_rfl
theorem q2k (n : Nat) : (q2f n).OK Tryz.prog :=
  wz2 (E := q2g n) (L := q2h n) (n := n) (ns := 3) (nt := 19) (rs := [(2,some 27),(3,none)]) (ttOK tysOK _ _ _) (envOK (all_cons (qmv n) (all_cons (q0e n) (all_cons (qoi n) (all_cons (q2e n) wz0)))) wz0) (fn := Tryz.f47) (body := q2i) wz0 (q2j n)
noncomputable def q2l (n : Nat) : FS := ⟨48,[(.val qU0)],[],[],qU8,.im,fun d => qhk n d.1⟩
noncomputable def q2m (n : Nat) : Env := ⟨Tryz.prog,tys.tt,mkΓ [qva n],0,mkGp []⟩
noncomputable def q2n (n : Nat) : List Spec := []
noncomputable def q2o : Code := Tryz.f48.body.getD .skip
theorem q2p (n : Nat) : ∀ d,evC (q2m n) (q2n n) n (.seq (.reg [{ sl := [0],fl := 1 }]) (.seq (.reg []) (.seq (.reg []) .leaf))) q2o [] (ent 1 12 (q2l n).as ((q2l n).io ++ (q2l n).own) d) (finR (q2m n) (q2l n).t (q2l n).m (q2l n).io [(2,none)]) = (q2l n).M d := fun d => by kernel_rfl
theorem q2q (n : Nat) : (q2l n).OK Tryz.prog :=
  wz2 (E := q2m n) (L := q2n n) (n := n) (ns := 1) (nt := 12) (rs := [(2,none)]) (ttOK tysOK _ _ _) (envOK (all_cons (qvi n) wz0) wz0) (fn := Tryz.f48) (body := q2o) wz0 (q2p n)
noncomputable def q2r (n : Nat) : FS := ⟨9,[(.val qU0),(.val qU5),(.val qU5)],[],[],qU10,.im,fun d => qhl n d.1 d.2.1 d.2.2.1⟩
noncomputable def q2s (n : Nat) : Env := ⟨Tryz.prog,tys.tt,mkΓ [qhv n,qs5 n,qw2 n,q2f n,qv6 n,qzz n,qwn n,q2l n,qxk n,qx2 n,qzh n,qsx n],0,mkGp []⟩
noncomputable def q2t (n : Nat) : List Spec := []
noncomputable def q2u : Code := Tryz.f9.body.getD .skip
theorem q2v (n : Nat) : ∀ d,evC (q2s n) (q2t n) n (.seq (.reg [{ sl := [0],fl := 1 }]) (.seq (.seq (.join [(.norm,⟨[(1,(.val qU5)),(2,(.val qU5)),(3,(.iadr qU0)),(20,(.val .bool))],[],[]⟩)] (.reg [])) (.cond (.seq (.reg []) .leaf) .leaf)) (.seq (.reg [{},{},{},{},{},{},{ sl := [1],fl := 1 }]) (.seq (.seq (.reg []) (.cond (.seq (.reg []) .leaf) .leaf)) (.seq (.seq (.join [(.norm,⟨[(1,(.val qU5)),(2,(.val qU5)),(3,(.iadr qU0)),(81,(.val .bool))],[(7,1,some (qU0,false))],[(1,true,qU0,.im)]⟩)] (.reg [{},{ an := 1 },{ an := 3 },{ rd := [1],an := 7 },{ an := 15 },{ an := 31 },{ an := 63 },{ an := 127 },{ rd := [1],an := 255 },{ rd := [1],an := 511 },{ an := 255 },{ an := 1279 },{ an := 4095 },{ an := 8191 },{ an := 16383 },{ rd := [1],an := 32767 },{ rd := [1],an := 65535 },{ an := 32767 },{ an := 163839 },{ an := 524287 },{ an := 1048575 },{ an := 2097151 },{ rd := [1],an := 4194303 },{ rd := [1],an := 8388607 },{ an := 4194303 },{ an := 20971519 },{ an := 67108863 },{ an := 134217727 },{ an := 268435455 },{ rd := [1],an := 536870911 },{ an := 1073741823 },{ an := 536870911 },{ an := 4294967295 },{ an := 8589934591 },{ an := 17179869183 },{ an := 34359738367 },{ rd := [1],an := 68719476735 },{ an := 137438953471 },{ an := 68719476735 },{ an := 549755813887 },{ an := 1099511627775 },{ an := 2199023255551 }])) (.cond (.seq (.reg []) .leaf) .leaf)) (.seq (.seq (.join [(.norm,⟨[(1,(.val qU5)),(2,(.val qU5)),(3,(.iadr qU0)),(90,(.val .bool))],[(7,1,some (qU0,false))],[(1,true,qU0,.im)]⟩)] (.reg [])) (.cond (.seq (.reg []) .leaf) .leaf)) (.seq (.reg [{ rd := [1] },{},{},{},{ an := 14 },{},{ an := 63 },{},{ an := 255 },{ an := 511 },{ an := 1023 },{ rd := [1],an := 1023 },{ an := 1023 },{ an := 1023 },{ an := 15359 },{ an := 1023 },{ an := 65535 },{ an := 1023 },{ an := 262143 },{ an := 524287 },{ an := 1048575 },{ an := 2097151 },{ an := 4194303 },{ an := 8388607 }]) .leaf))))))) q2u [] (ent 2 115 (q2r n).as ((q2r n).io ++ (q2r n).own) d) (finR (q2s n) (q2r n).t (q2r n).m (q2r n).io [(6,none)]) = (q2r n).M d := fun d => by kernel_rfl
theorem q2w (n : Nat) : (q2r n).OK Tryz.prog :=
  wz2 (E := q2s n) (L := q2t n) (n := n) (ns := 2) (nt := 115) (rs := [(6,none)]) (ttOK tysOK _ _ _) (envOK (all_cons (qh4 n) (all_cons (qta n) (all_cons (qxb n) (all_cons (q2k n) (all_cons (qwd n) (all_cons (qz4 n) (all_cons (qws n) (all_cons (q2q n) (all_cons (qxp n) (all_cons (qx7 n) (all_cons (qzm n) (all_cons (qs4 n) wz0)))))))))))) wz0) (fn := Tryz.f9) (body := q2u) wz0 (q2v n)
end Go.Proofs.YtmidcfjmchpcnaaGreat.V
