/- The machine over typed values,part 4. -/
import Derived.Test.YtibphkgcdnconaaGreatVc
import Derived.Recover
import Derived.SizedLaws
import Derived.ChangeArms
import Derived.ChangeSlices
import Derived.Below
import Derived.KernelRfl
import Derived.Carry
namespace Go.Proofs.YtibphkgcdnconaaGreat.V
open Go
set_option linter.unusedVariables false
set_option linter.all false
abbrev RV:=Tmp × Option TypeId
def RV.to:RV→ResultVar
 | (t,none)=>.tmp t
 | (t,some e)=>.cell t e
def resOf (E:Env) (look:Nat→Option Slot) (tm:Nat→MV) (r:RV):Option MV :=
 match r.2 with
 | none=>some (tm r.1)
 | some e=>match deref look (tm r.1) with
  | .adr s hv cv p t x=>bif tyB2 E e t then loadMV look (.adr s hv cv p t x) else none
  | _=>none
def takeP (look:Nat→Option Slot) (t:Ty) (m:Mk) (mv:MV):Option (t.den × Ups) :=
 match t with
 | .ex .ptr a b=>match deref look mv with
  | .iadr t' x=>if h:t'=a then some ((some (h ▸ x):Option a.den),[]) else none
  | .adr s hv cv p t' x=>match look s with
   | some S=>match lookC look s hv cv with
    | some _=>if h:t'=a then some ((some (h ▸ x):Option a.den),[(s,frozen_ S)]) else none
    | none=>none
   | none=>none
  | _=>takeX look (.ex .ptr a b) m mv
 | t=>takeX look t m mv
theorem takeP_cases {w:World} {hdr:Nat→Value} {t:Ty} {m:Mk} {Z:Bs} {sl:Nat→Option Slot} {fp:Nat→Bs} {u:MV} {x:t.den} {us:Ups} (h:takeP sl t m u=some (x,us)) (hn:u≠.dead):takeX sl t m u=some (x,us)∨(t.agg=false∧u.agg=false∧u.isL=false∧∀ {cs:List Value},HR Z w sl hdr fp→RelC Z w sl hdr fp u cs→∃ Z' fp',Took Z w sl hdr fp us Z' fp' t m x none_ cs):=by
 unfold takeP at h
 split at h
 ·rename_i a b
  have kinds:∀ v,deref sl u=v→(∀ t x,v≠.val t x)→(∃ t x,v=.iadr t x)∨(∃ s hv cv p t x,v=.adr s hv cv p t x)→u.agg=false∧u.isL=false:=by
   intro v hv _ hk
   cases u with
   | ptr s hv t=>exact ⟨rfl,rfl⟩
   | iadr t x=>exact ⟨rfl,rfl⟩
   | adr=>exact ⟨rfl,rfl⟩
   | _=>rw [← hv] at hk; rcases hk with ⟨_,_,h⟩ | ⟨_,_,_,_,_,_,h⟩ <;> cases h
  split at h
  ·rename_i t' y hd
   split at h
   ·rename_i e; subst e
    simp only [Option.some.injEq,Prod.mk.injEq] at h
    obtain ⟨rfl,rfl⟩:=h
    obtain ⟨k1,k2⟩:=kinds _ hd (by intro _ _ h; cases h) (.inl ⟨_,_,rfl⟩)
    refine .inr ⟨rfl,k1,k2,fun {cs} H hr => ?_⟩
    rcases deref_ok H hr with h0 | ⟨q1,q2⟩
    ·rw [hd] at h0; cases h0
    ·rw [hd] at q1
     obtain ⟨b0,o0,ks,e,h1,h2,h3⟩:=q1
     exact ⟨Z,fp,took_none H (.inr ⟨_,b0,o0,ks,rfl,e,h1,h2,h3⟩)⟩
   ·cases h
  ·rename_i s hv cv p t' y hd
   split at h
   ·rename_i S hS
    split at h
    ·rename_i c hl
     split at h
     ·rename_i e; subst e
      simp only [Option.some.injEq,Prod.mk.injEq] at h
      obtain ⟨rfl,rfl⟩:=h
      obtain ⟨k1,k2⟩:=kinds _ hd (by intro _ _ h; cases h) (.inr ⟨_,_,_,_,_,_,rfl⟩)
      refine .inr ⟨rfl,k1,k2,fun {cs} H hr => ?_⟩
      rcases deref_ok H hr with h0 | ⟨q1,q2⟩
      ·rw [hd] at h0; cases h0
      ·rw [hd] at q1
       have e2:=lookC_some hl
       obtain ⟨_,S1,h1,_,h3⟩:=q1
       rw [e2] at h1; obtain rfl:=Option.some.inj h1
       obtain ⟨b0,o0,ks,hcs,h4,h5,_,⟨m0,f,h6,h7,_⟩,_⟩:=(h3 rfl).2 rfl c rfl
       have hS':some S=some _:=hS.symm.trans e2
       obtain rfl:=Option.some.inj hS'
       have K:=took_freeze (t:=.unit) (m:=.im) (x:=()) (F:=none_) (cs:=[]) (m0:=.im) H hS rfl (fun b hb=>hb.elim) rfl rfl
       exact ⟨_,_,K.hr,K.tr,.inr ⟨_,b0,o0,ks,rfl,hcs,h4,h5.elim .inr .inl,h6.freeze (fun b hb=>hb.imp id (h7 b))⟩,K.hand,K.kept,K.back⟩
     ·cases h
    ·cases h
   ·cases h
  ·exact .inl h
 ·exact .inl h
theorem takeP_dead {sl:Nat→Option Slot} {t:Ty} {m:Mk} {x:t.den} {us:Ups} (h:takeP sl t m .dead=some (x,us)):False:=by
 unfold takeP at h
 split at h
 ·exact takeX_dead h
 ·exact takeX_dead h
theorem takeP_sound {w:World} {hdr:Nat→Value} {t:Ty} {m:Mk} {Z:Bs} {sl:Nat→Option Slot} {fp:Nat→Bs} {u:MV} {x:t.den} {us:Ups} {cs:List Value} (h:takeP sl t m u=some (x,us)) (H:HR Z w sl hdr fp) (hr:RelC Z w sl hdr fp u cs):∃ Z' fp' F,Took Z w sl hdr fp us Z' fp' t m x F cs:=by
 by_cases hn:u=.dead
 ·subst hn; exact (takeP_dead h).elim
 ·rcases takeP_cases (w:=w) (hdr:=hdr) (Z:=Z) (fp:=fp) h hn with h | ⟨_,_,_,h⟩
  ·exact takeX_sound h H hr
  ·obtain ⟨Z',fp',K⟩:=h H hr
   exact ⟨Z',fp',none_,K⟩
theorem takeP_agg {t:Ty} {m:Mk} {sl:Nat→Option Slot} {u:MV} {x:t.den} {us:Ups} (h:takeP sl t m u=some (x,us)):u.agg=t.agg∧u.isL=false:=by
 by_cases hn:u=.dead
 ·subst hn; exact (takeP_dead h).elim
 ·rcases takeP_cases (w:=default) (hdr:=fun _=>undef) (Z:=none_) (fp:=fun _=>none_) h hn with h | ⟨h1,h2,h3,_⟩
  ·exact takeX_agg h
  ·exact ⟨h2.trans h1.symm,h3⟩
def takeC (look:Nat→Option Slot):(a:Ty)→Mk→MV→Option (a.den × Ups)
 | .ex .cell t _,m,mv=>match mv with
  | .ptr s hv _=>match lookH look s hv with
   | some _=>match takeP look (.sl t) (.ow m) (.root s hv) with
    | some (l,us)=>match (l:List t.den) with
     | [x]=>some (x,us)
     | _=>none
    | none=>none
   | none=>none
  | _=>none
 | a,m,mv=>takeP look a m mv
theorem takeC_sound {w:World} {hdr:Nat→Value} {t:Ty} {m:Mk} {Z:Bs} {sl:Nat→Option Slot} {fp:Nat→Bs} {u:MV} {x:t.den} {us:Ups} {v:Value} (h:takeC sl t m u=some (x,us)) (H:HR Z w sl hdr fp) (hr:RelV Z w sl hdr fp u v) :
 ∃ Z' fp' F t' m' x' cs',Took Z w sl hdr fp us Z' fp' t' m' x' F cs'∧RepC Z' w t m x F v:=by
 have leaf:(∀ a b,t≠.ex .cell a b)→takeP sl t m u=some (x,us)→∃ Z' fp' F t' m' x' cs',Took Z w sl hdr fp us Z' fp' t' m' x' F cs'∧RepC Z' w t m x F v:=fun hc h=>by
  rcases hr with h0 | ⟨cs,h1,h2⟩
  ·rw [h0] at h; exact (takeP_dead h).elim
  ·obtain ⟨Z1,fp1,F1,K⟩:=takeP_sound h H h1
   obtain ⟨g1,g2⟩:=takeP_agg h
   refine ⟨Z1,fp1,F1,_,_,_,_,K,?_⟩
   have:∃ cs,Rep Z1 w t m x F1 cs∧v=t.val cs:=⟨cs,K.rep,by rw [h2,out_val g1 g2]⟩
   cases t with
   | ex k a b =>
    cases k with
    | cell=>exact absurd rfl (hc a b)
    | _=>exact this
   | _=>exact this
 cases t with
 | ex k a b =>
  cases k with
  | cell =>
   have h:(match (generalizing:=false) u with
    | .ptr s hv _=>match lookH sl s hv with
     | some _=>match takeP sl (.sl a) (.ow m) (.root s hv) with
      | some (l,us)=>match (l:List a.den) with
       | [x]=>some (x,us)
       | _=>none
      | none=>none
     | none=>none
    | _=>none)=some (x,us):=h
   split at h
   ·rename_i s hv t0 _
    split at h
    ·rename_i lk hlk
     split at h
     ·rename_i l us' e
      split at h
      ·rename_i y
       simp only [Option.some.injEq,Prod.mk.injEq] at h
       obtain ⟨rfl,rfl⟩:=h
       rcases hr with h0 | ⟨cs,h1,h2⟩
       ·cases h0
       ·obtain ⟨_,S,g1,g2,g3⟩:=h1
        obtain ⟨cv,c⟩:=lk
        have hs:=lookH_some hlk
        rw [hs] at g1
        obtain rfl:=Option.some.inj g1
        obtain ⟨b',o,l,cap,q1,q2⟩:=g3 rfl c rfl
        have hroot:RelC Z w sl hdr fp (.root s hv) [hdr s]:=⟨one_cells (by rw [q1]; rfl),_,hs,Nat.le_refl _,fun _ _ _=>rfl⟩
        obtain ⟨Z1,fp1,F1,K⟩:=takeP_sound e H hroot
        refine ⟨Z1,fp1,F1,_,_,_,_,K,b',o,l,cap,?_,?_⟩
        ·rw [h2,q2]; rfl
        ·have:=K.rep
         rw [q1] at this
         exact this
      ·cases h
     ·cases h
    ·cases h
   ·cases h
  | _=>exact leaf (fun _ _ e=>by cases e) h
 | _=>exact leaf (fun _ _ e=>by cases e) h
def retTake (E:Env) (tm:Nat→MV):(t:Ty)→Mk→(Nat→Option Slot)→List RV→Option (t.den × (Nat→Option Slot))
 | .pair a b,m,look,r :: rs=>match resOf E look tm r with
  | some mv=>match takeC look a m.l mv with
   | some (x,us)=>match retTake E tm b m.r (us.look look) rs with
    | some (y,lk)=>some ((x,y),lk)
    | none=>none
   | none=>none
  | none=>none
 | .unit,_,look,[]=>some ((),look)
 | _,_,_,_=>none
abbrev IO:=List (Bool × Ty × Mk)
def shpS:IO→Nat→List (Nat × Bool × Ty × Mk)
 | [],_=>[]
 | c :: l,i=>(i,c) :: shpS l (i+1)
abbrev denIO (io:IO):Type:=denS (shpS io 0)
def outD (T:Type):IO→Type
 | []=>T
 | c :: l=>T × denIO (c :: l)
def out1 {T:Type}:(io:IO)→outD T io→T
 | [],x=>x
 | _ :: _,x=>x.1
def out2 {T:Type}:(io:IO)→outD T io→denIO io
 | [],_=>()
 | _ :: _,x=>x.2
def hv0 (look:Nat→Option Slot):IO→Nat→Bool
 | [],_=>true
 | _ :: l,i=>(match look i with
  | some S=>Nat.beq S.hv 0
  | none=>false) && hv0 look l (i+1)
def finIO {T:Type} (look:Nat→Option Slot) (x:T):(io:IO)→Option (outD T io)
 | []=>some x
 | c :: l=>bif hv0 look (c :: l) 0 then (match rdS look (shpS (c :: l) 0) with
  | some d=>some (x,d)
  | none=>none) else none
def finR (E:Env) (t:Ty) (m:Mk) (io:IO) (rs:List RV) (e:Exit) (st:Sm):Option (outD t.den io) :=
 match e with
 | .normal | .ret=>match retTake E st.tm t m st.look rs with
  | some (x,lk)=>finIO lk x io
  | none=>none
 | _=>none
def rdIO:(io:IO)→(i:Nat)→List SlotC→Option (denS (shpS io i))
 | [],_,[]=>some ()
 | c :: l,i,k :: ks=>match rdC c.1 c.2.1 c.2.2 k with
  | some x=>match rdIO l (i+1) ks with
   | some d=>some (x,d)
   | none=>none
  | none=>none
 | _,_,_=>none
def wrIO:(io:IO)→(i:Nat)→denS (shpS io i)→List (Option SlotC)
 | [],_,_=>[]
 | c :: l,i,d=>some (mkC c.1 c.2.1 c.2.2 d.1) :: wrIO l (i+1) d.2
def MS.isL:MS→Bool
 | .tc _ _ | .tn=>true
 | _=>false
def valT:(t t':Ty)→t'.den→Option t.den
 | .ex .tree a b,t',x=>if h:t'=unTy (.ex .tree a b) then (bif isChain a then some (foV a b (h ▸ x)) else none) else none
 | _,_,_=>none
def valA:(t:Ty)→Arg→Option t.den
 | t,.dyn t' x=>if h:t'=t then some (h ▸ x) else valT t t' x
 | .sl t,.nil=>some []
 | _,_=>none
def MS.ra:(a:MS)→Arg→Option a.den
 | .val t,a=>valA t a
 | .iadr t,.iad t' x=>if h:t'=t then some (h ▸ x) else none
 | .nil,.nil=>some ()
 | .fn f c,.fn f' k=>bif Nat.beq f f' && c.isL then c.ra k else none
 | .icl c,.icl k=>bif c.isL then none else c.ra k
 | .tc a b,.tc u v=>bif !a.isL && b.isL then (match a.ra u with
  | some x=>match b.ra v with
   | some y=>some (x,y)
   | none=>none
  | none=>none) else none
 | .tn,.tn=>some ()
 | .root k,.mr k'=>bif Nat.beq k k' then some () else none
 | .ptr k t,.mp k' t'=>bif Nat.beq k k' && decide (t'=t) then some () else none
 | _,_=>none
def shp:List MS→Nat→List (Nat × MS)
 | [],_=>[]
 | a :: l,i=>(i,a) :: shp l (i+1)
def raL {S:Type} (z:S):(l:List MS)→(i:Nat)→Arg→Option (denT S (shp l i))
 | [],_,.tn=>some z
 | a :: l,i,.tc u v=>bif a.isL then none else (match a.ra u with
  | some x=>match raL z l (i+1) v with
   | some y=>some (x,y)
   | none=>none
  | none=>none)
 | _,_,_=>none
structure FS where
 f:FuncId
 as:List MS
 io:IO
 own:IO:=[]
 t:Ty
 m:Mk
 M:denT (denIO (io++own)) (shp as 0)→Option (outD t.den io)
def FS.res (s:FS) (arg:Arg) (ios:List SlotC):Option CallRes :=
 match rdIO (s.io++s.own) 0 ios with
 | some z=>match raL z s.as 0 arg with
  | some d=>some ⟨outD s.t.den s.io,s.M d,s.t,s.m,out1 s.io,fun r=>wrIO s.io 0 (out2 s.io r)++List.replicate s.own.length none⟩
  | none=>none
 | none=>none
def mkΓ:List FS→FuncId→Arg→List SlotC→Option CallRes
 | [],_,_,_=>none
 | s :: l,f,a,ios=>bif Nat.beq s.f f then (match s.res a ios with
  | some c=>some c
  | none=>mkΓ l f a ios) else mkΓ l f a ios
structure FSP where
 f:FuncId
 as:List MS
 io:IO
 own:IO:=[]
 T:TypeId
 t:Ty
 m:Mk
 M:denT (denIO (io++own)) (shp as 0)→Option (Unit ⊕ outD t.den io)
def FSP.res (s:FSP) (arg:Arg) (ios:List SlotC):Option CallResP :=
 match rdIO (s.io++s.own) 0 ios with
 | some z=>match raL z s.as 0 arg with
  | some d=>some ⟨outD s.t.den s.io,s.M d,s.t,s.m,out1 s.io,fun r=>wrIO s.io 0 (out2 s.io r)++List.replicate s.own.length none,s.T⟩
  | none=>none
 | none=>none
def mkGp:List FSP→FuncId→Arg→List SlotC→Option CallResP
 | [],_,_,_=>none
 | s :: l,f,a,ios=>bif Nat.beq s.f f then (match s.res a ios with
  | some c=>some c
  | none=>mkGp l f a ios) else mkGp l f a ios
def FSP.OK (P:Program) (s:FSP):Prop:=∀ arg ios c,s.res arg ios=some c→CallPK P s.f arg ios c
def FS.OK (P:Program) (s:FS):Prop:=∀ arg ios c,s.res arg ios=some c→CallOK P s.f arg ios c
def ent (ns nt:Nat) (as:List MS) (io:IO) (d:denT (denIO io) (shp as 0)):Sm :=
 ⟨mkT (shp as 0) d (fun _ _=>.dead),mkS ns (shpS io 0) (restT (shp as 0) d),ns,nt⟩
section
variable {E:Env} {Z0:Ctx E.io} {w0:World} {ns nt:Nat} {w:World} {hdr:Nat→Value}
theorem mkΓ_ok {P:Program}:∀ {l:List FS},(∀ s∈l,s.OK P)→∀ f arg ios c,mkΓ l f arg ios=some c→CallOK P f arg ios c
 | [],_,f,a,ios,c,h=>by cases h
 | s :: l,hl,f,a,ios,c,h=>by
  have ih:=mkΓ_ok (l:=l) (fun s hs=>hl s (by simp [hs]))
  have h:(bif Nat.beq s.f f then (match s.res a ios with
   | some c=>some c
   | none=>mkΓ l f a ios) else mkΓ l f a ios)=some c:=h
  cases hb:Nat.beq s.f f with
  | false=>rw [hb] at h; exact ih f a ios c h
  | true =>
   rw [hb] at h
   obtain rfl:=Nat.eq_of_beq_eq_true hb
   simp only [cond_true] at h
   split at h
   ·rename_i c' hc
    obtain rfl:=Option.some.inj h
    exact hl s (by simp) a ios _ hc
   ·exact ih _ a ios c h
theorem mkGp_ok {P:Program}:∀ {l:List FSP},(∀ s∈l,s.OK P)→∀ f arg ios c,mkGp l f arg ios=some c→CallPK P f arg ios c
 | [],_,f,a,ios,c,h=>by cases h
 | s :: l,hl,f,a,ios,c,h=>by
  have ih:=mkGp_ok (l:=l) (fun s hs=>hl s (by simp [hs]))
  have h:(bif Nat.beq s.f f then (match s.res a ios with
   | some c=>some c
   | none=>mkGp l f a ios) else mkGp l f a ios)=some c:=h
  cases hb:Nat.beq s.f f with
  | false=>rw [hb] at h; exact ih f a ios c h
  | true =>
   rw [hb] at h
   obtain rfl:=Nat.eq_of_beq_eq_true hb
   simp only [cond_true] at h
   split at h
   ·rename_i c' hc
    obtain rfl:=Option.some.inj h
    exact hl s (by simp) a ios _ hc
   ·exact ih _ a ios c h
theorem envOK {P:Program} {tt:TypeId→Option (Ty × Nat)} {io:Nat} {l:List FS} {lp:List FSP} (h:∀ s∈l,s.OK P) (hp:∀ s∈lp,s.OK P):EnvOK ⟨P,tt,mkΓ l,io,mkGp lp⟩:=⟨mkΓ_ok h,mkGp_ok hp⟩
def resV (P:Program) (val:Nat→Value) (w:World) (r:RV) (v:Value):Prop :=
 match r.2 with
 | none=>v=val r.1
 | some e=>(do loadVar e (← asAddr (val r.1)):Sem Value).run P w=.ok v w
def resVs (P:Program) (val:Nat→Value) (w:World):List RV→List Value→Prop
 | [],[]=>True
 | r :: rs,v :: vs=>resV P val w r v∧resVs P val w rs vs
 | _,_=>False
theorem run_loadVar_ {e:TypeId} {t:Ty} {n:Nat} (hT:TyOK E e t n) {b o':Nat} {ks:List Value} (hat:At w b o' ks) (hl:ks.length=t.size):(do loadVar e (← asAddr (.pointer (some ⟨b,o',none⟩))):Sem Value).run E.P w=.ok (t.val ks) w:=by
 have:=run_load_ (E:=E) hT hat hl
 simp only [Instr.loadAt,Instr.sureAddr,pure_bind] at this
 simp only [asAddr,pure_bind]
 exact this
theorem load_cell (hE:TTok E) {Z:Bs} {sl:Nat→Option Slot} {fp:Nat→Bs} {mv:MV} (H:HR Z w sl hdr fp) {e:TypeId} {s hv cv:Nat} {po:Option Path} {t:Ty} {v:t.den} {x:Value} (hx:RelV Z w sl hdr fp (.adr s hv cv po t v) x)
 (ht:tyB2 E e t=true) (hl:loadMV sl (.adr s hv cv po t v)=some mv):∃ y,(do loadVar e (← asAddr x):Sem Value).run E.P w=.ok y w∧RelV Z w sl hdr fp mv y:=by
 obtain ⟨nb,hT⟩:=tyB2_ok hE ht
 rcases hx with h0 | ⟨cs,hr,he⟩
 ·cases h0
 simp only [loadMV] at hl
 split at hl
 ·rename_i c e2
  have e2:=lookC_some e2
  obtain ⟨_,S,h1,_,h3⟩:=hr
  rw [e2] at h1; obtain rfl:=Option.some.inj h1
  obtain ⟨b,o',ks,hcs,hat,hbz,hz,⟨m,f,hrep,hf,hfz⟩,hp⟩:=(h3 rfl).2 rfl c rfl
  have hev:x=.pointer (some ⟨b,o',none⟩):=by rw [he,hcs]; rfl
  refine ⟨t.val ks,by rw [hev]; exact run_loadVar_ hT hat hrep.len,?_⟩
  have asval:Rep Z w t .im v none_ ks→RelV Z w sl hdr fp (.val t v) (t.val ks):=fun h=>.inr ⟨ks,h,rfl⟩
  have asview:∀ po',(∀ p,po'=some p→PathOK w c (hdr s) p t v ks)→RelV Z w sl hdr fp (.view s hv cv po' t v) (t.val ks):=by
   intro po' hpo
   refine .inr ⟨ks,⟨⟨hrep.len,hrep.one⟩,_,e2,Nat.le_refl _,fun _=>⟨Nat.le_refl _,fun _ c' hc' => ?_⟩⟩,rfl⟩
   obtain rfl:=Option.some.inj hc'
   exact ⟨⟨m,f,hrep,hf,hfz⟩,hpo⟩
  cases hfl:(t.flat || !c.m.isOw) with
  | true =>
   rw [hfl] at hl
   simp only [cond_true,Option.some.injEq] at hl
   subst hl
   simp only [Bool.or_eq_true,Bool.not_eq_true'] at hfl
   refine asval ?_
   rcases hfl with hfl | hfl
   ·exact hrep.flat hfl
   ·exact hrep.none (hfz hfl)
  | false =>
   rw [hfl] at hl
   simp only [cond_false] at hl
   simp only [Bool.or_eq_false_iff,Bool.not_eq_false'] at hfl
   split at hl
   ·rename_i q
    split at hl
    ·rename_i m' hm'
     simp only [Option.some.injEq] at hl
     subst hl
     obtain ⟨hpk,hadr⟩:=hp q rfl
     cases hsh:t.shared m' with
     | true =>
      simp only [cond_true]
      obtain ⟨ks',f',r1,r2,r3⟩:=place_rep H e2 hfl.2 hpk.1 hm' (hadr hfl.2)
      obtain rfl:=at_same hat r2 (hrep.len.trans r1.len.symm)
      exact asval (r1.share hsh)
     | false =>
      simp only [cond_false]
      exact asview _ fun p hp0=>by obtain rfl:=Option.some.inj hp0; exact hpk
    ·cases hl
   ·simp only [Option.some.injEq] at hl
    subst hl
    exact asview none fun p hp0=>by cases hp0
 ·cases hl
theorem resOf_ok (hE:TTok E) {Z:Bs} {sl:Nat→Option Slot} {fp:Nat→Bs} {tm:Nat→MV} {val:Nat→Value} {r:RV} {mv:MV} (H:HR Z w sl hdr fp) (hv:∀ i,RelV Z w sl hdr fp (tm i) (val i)) (h:resOf E sl tm r=some mv):∃ y,resV E.P val w r y∧RelV Z w sl hdr fp mv y:=by
 obtain ⟨t,oe⟩:=r
 cases oe with
 | none=>obtain rfl:=Option.some.inj h; exact ⟨_,rfl,hv t⟩
 | some e =>
  simp only [resOf] at h
  have hd:=deref_okV H (hv t)
  split at h
  ·rename_i ed
   rw [ed] at hd
   obtain ⟨hb,h⟩:=cond_some h
   exact load_cell hE H hd hb h
  ·cases h
theorem retTake_ok (hE:TTok E) {tm:Nat→MV} {val:Nat→Value}:∀ {t:Ty} {m:Mk} {Z:Bs} {sl:Nat→Option Slot} {fp:Nat→Bs} {rs:List RV} {x:t.den} {sl':Nat→Option Slot},retTake E tm t m sl rs=some (x,sl')→HR Z w sl hdr fp→(∀ i,RelV Z w sl hdr fp (tm i) (val i)) →
 ∃ Z' fp' F vs,HR Z' w sl' hdr fp'∧Trans Z w sl hdr fp Z' w sl' hdr fp'∧resVs E.P val w rs vs∧RepR Z' w t m x F vs∧(∀ b,F b→∃ s,fp s b∧¬ noC sl s∧fp' s b∧noC sl' s)∧(∀ s b,noC sl s→fp s b→fp' s b∧noC sl' s):=by
 intro t
 induction t with
 | pair ta tb _ ih =>
  intro m Z sl fp rs x sl' h H hv
  cases rs with
  | nil=>cases h
  | cons r0 rs =>
   simp only [retTake] at h
   split at h
   ·rename_i mv e0
    split at h
    ·rename_i x1 us e1
     split at h
     ·rename_i y lk e2
      simp only [Option.some.injEq,Prod.mk.injEq] at h
      obtain ⟨rfl,rfl⟩:=h
      obtain ⟨v0,hr0,hv0⟩:=resOf_ok hE H hv e0
      ·obtain ⟨Z1,fp1,F1,t',m',x',cs',K,hC⟩:=takeC_sound e1 H hv0
       obtain ⟨Z2,fp2,F2,vs,H2,T2,V2,R2,hand2,kept2⟩:=ih e2 K.hr (fun i=>(hv i).trans H K.hr K.tr)
       refine ⟨Z2,fp2,fun b=>F1 b∨F2 b,v0 :: vs,H2,K.tr.comp T2,⟨hr0,V2⟩,⟨v0,vs,F1,F2,rfl,hC.more (fun b hb=>(T2.z b hb).1),R2,fun b hb=>.inl hb,fun b hb=>.inr hb,fun b hb1 hb2 => ?_⟩,fun b hb => ?_,fun s b hs hb => ?_⟩
       ·obtain ⟨s1,_,_,q3,q4⟩:=K.hand b hb1
        obtain ⟨s2,p1,p2,_,_⟩:=hand2 b hb2
        obtain rfl:=K.hr.disj _ _ _ q3 p1
        exact p2 q4
       ·rcases hb with hb | hb
        ·obtain ⟨s,q1,q2,q3,q4⟩:=K.hand b hb
         exact ⟨s,q1,q2,kept2 s b q4 q3⟩
        ·obtain ⟨s,p1,p2,p3⟩:=hand2 b hb
         obtain ⟨k1,k2⟩:=K.back s p2
         exact ⟨s,k2 b p1,k1,p3⟩
       ·obtain ⟨k1,k2⟩:=K.kept s b hs hb
        exact kept2 s b k2 k1
     ·cases h
    ·cases h
   ·cases h
 | unit =>
  intro m Z sl fp rs x sl' h H hv
  cases rs with
  | nil =>
   have h:some ((),sl)=some (x,sl'):=h
   simp only [Option.some.injEq,Prod.mk.injEq] at h
   obtain ⟨_,rfl⟩:=h
   exact ⟨Z,fp,none_,[],H,Trans.refl _ _ _ _ _,trivial,rfl,fun b hb=>hb.elim,fun s b h1 h2=>⟨h2,h1⟩⟩
  | cons _ _=>cases h
 | _=>intro m Z sl fp rs x sl' h; cases rs <;> cases h
theorem valA_ok {n:Nat} {Z:Bs} {sl:Nat→Option Slot} {fp:Nat→Bs} {t:Ty} {arg:Arg} {x:t.den} {vs:List Value} (h:valA t arg=some x) (hr:RepA Z w n hdr arg vs):∃ cs,RelC Z w sl hdr fp (.val t x) cs∧vs=[t.val cs]:=by
 cases arg with
 | dyn t' y =>
  have h:(if h:t'=t then some (h ▸ y:t.den) else valT t t' y)=some x:=by cases t <;> exact h
  split at h
  ·rename_i e; subst e
   obtain rfl:=Option.some.inj h
   obtain ⟨cs,h1,h2⟩:=hr
   exact ⟨cs,h1,h2⟩
  ·unfold valT at h
   split at h
   ·split at h
    ·rename_i _ a b _ _ e
     subst e
     obtain ⟨hc,h⟩:=cond_some h
     obtain rfl:=Option.some.inj h
     obtain ⟨cs,h1,h2⟩:=hr
     refine ⟨cs,fo_rep hc h1,h2.trans ?_⟩
     simp only [Ty.val,(un_cells (b:=b) hc).2.2]; rfl
    ·cases h
   ·cases h
 | nil =>
  cases t with
  | sl t =>
   have h:some ([]:List t.den)=some x:=h
   cases h
   obtain ⟨A,rfl⟩:=hr
   exact ⟨[.slice A 0 0],⟨A,0,rfl,Nat.le_refl _,.inl rfl⟩,rfl⟩
  | _=>cases h
 | _=>cases t <;> cases h
theorem ra_ok {n:Nat} {Z:Bs} {sl:Nat→Option Slot} {fp:Nat→Bs} (hn:∀ k,k<n→∃ S,sl k=some S):∀ (a:MS) {arg:Arg} {x:a.den} {vs:List Value},a.ra arg=some x→RepA Z w n hdr arg vs→∃ cs,RelC Z w sl hdr fp (a.mk x) cs∧vs=(bif a.isL then cs else [(a.mk x).out cs])
 | .val t,arg,x,vs,h,hr=>valA_ok h hr
 | .iadr t,arg,x,vs,h,hr=>by
  cases arg with
  | iad t' y =>
   have h:(if h:t'=t then some (h ▸ y:t.den) else none)=some x:=h
   split at h
   ·rename_i e; subst e
    obtain rfl:=Option.some.inj h
    obtain ⟨b,o,ks,rfl,h1,h2,h3⟩:=hr
    exact ⟨_,⟨b,o,ks,rfl,h1,h2,h3⟩,rfl⟩
   ·cases h
  | _=>cases h
 | .nil,arg,x,vs,h,hr=>by
  cases arg with
  | nil=>obtain ⟨A,rfl⟩:=hr; exact ⟨_,⟨A,rfl⟩,rfl⟩
  | _=>cases h
 | .tn,arg,x,vs,h,hr=>by
  cases arg with
  | tn=>exact ⟨vs,hr,rfl⟩
  | _=>cases h
 | .root k,arg,x,vs,h,hr=>by
  cases arg with
  | mr k' =>
   have h:(bif Nat.beq k k' then some () else none)=some x:=h
   obtain ⟨hb,_⟩:=cond_some h
   obtain rfl:=Nat.eq_of_beq_eq_true hb
   obtain ⟨h1,rfl,h3⟩:=hr
   obtain ⟨S,hS⟩:=hn k h1
   exact ⟨[hdr k],⟨h3,S,hS,Nat.zero_le _,fun _ c _=>rfl⟩,rfl⟩
  | _=>cases h
 | .ptr k t,arg,x,vs,h,hr=>by
  cases arg with
  | mp k' t' =>
   have h:(bif Nat.beq k k' && decide (t'=t) then some () else none)=some x:=h
   obtain ⟨hb,_⟩:=cond_some h
   simp only [Bool.and_eq_true] at hb
   obtain rfl:=Nat.eq_of_beq_eq_true hb.1
   obtain ⟨h1,b,o,l,cap,h2,rfl⟩:=hr
   obtain ⟨S,hS⟩:=hn k h1
   exact ⟨[.pointer (some ⟨b,o,none⟩)],⟨⟨rfl,fun v hv=>by obtain rfl:=List.mem_singleton.1 hv; rfl⟩,S,hS,Nat.zero_le _,fun _ c _=>⟨b,o,l,cap,h2,rfl⟩⟩,rfl⟩
  | _=>cases h
 | .fn f c,arg,x,vs,h,hr=>by
  cases arg with
  | fn g k =>
   have h:(bif Nat.beq f g && c.isL then c.ra k else none)=some x:=h
   obtain ⟨hb,h3⟩:=cond_some h
   simp only [Bool.and_eq_true] at hb
   obtain rfl:=Nat.eq_of_beq_eq_true hb.1
   clear h
   obtain ⟨ks,rfl,h2⟩:=hr
   obtain ⟨cs,r1,r2⟩:=ra_ok hn c (fp:=fp) h3 h2
   rw [hb.2] at r2
   subst r2
   exact ⟨_,⟨ks,rfl,r1⟩,rfl⟩
  | _=>cases h
 | .icl c,arg,x,vs,h,hr=>by
  cases arg with
  | icl k =>
   have h:(bif c.isL then none else c.ra k)=some x:=h
   cases hL:c.isL with
   | true=>rw [hL] at h; cases h
   | false =>
    rw [hL] at h
    obtain ⟨b0,o0,v,rfl,p1,p2,h2⟩:=hr
    obtain ⟨cs,r1,r2⟩:=ra_ok hn c (fp:=fp) h h2
    rw [hL] at r2
    simp only [cond_false,List.cons.injEq,and_true] at r2
    subst r2
    exact ⟨_,⟨b0,o0,cs,rfl,p1,p2,r1⟩,rfl⟩
  | _=>cases h
 | .tc a b,arg,x,vs,h,hr=>by
  cases arg with
  | tc u v =>
   have h:(bif !a.isL && b.isL then (match a.ra u with
    | some x=>match b.ra v with
     | some y=>some (x,y)
     | none=>none
    | none=>none) else none)=some x:=h
   obtain ⟨hb,h3⟩:=cond_some h
   clear h
   simp only [Bool.and_eq_true,Bool.not_eq_true'] at hb
   split at h3
   ·rename_i xa ea
    split at h3
    ·rename_i xb eb
     obtain rfl:=Option.some.inj h3
     obtain ⟨v0,vs',rfl,r1,r2⟩:=hr
     obtain ⟨c1,q1,q2⟩:=ra_ok hn a (fp:=fp) ea r1
     obtain ⟨c2,q3,q4⟩:=ra_ok hn b (fp:=fp) eb r2
     rw [hb.1] at q2
     rw [hb.2] at q4
     simp only [cond_false,cond_true,List.cons.injEq,and_true] at q2 q4
     subst q4
     exact ⟨_,⟨c1,v0,vs',rfl,.inr ⟨q1,q2⟩,q3⟩,rfl⟩
    ·cases h3
   ·cases h3
  | _=>cases h
theorem raL_ok {n:Nat} {S:Type} {z:S} {Z:Bs} {sl:Nat→Option Slot} {fp:Nat→Bs} (hn:∀ k,k<n→∃ S,sl k=some S):∀ (l:List MS) (i0:Nat) {arg:Arg} {d:denT S (shp l i0)} {vs:List Value},raL z l i0 arg=some d→RepA Z w n hdr arg vs→vs.length=l.length∧∀ i v,(i<i0→mkT (shp l i0) d (fun _ _=>.dead) i=.dead)∧(vs[i]?=some v→RelV Z w sl hdr fp (mkT (shp l i0) d (fun _ _=>.dead) (i0+i)) v)∧(vs[i]?=none→mkT (shp l i0) d (fun _ _=>.dead) (i0+i)=.dead)
 | [],i0,arg,d,vs,h,hr=>by
  cases arg with
  | tn=>rw [show vs=[] from hr]; exact ⟨rfl,fun i v=>⟨fun _=>rfl,fun h=>by simp at h,fun _=>rfl⟩⟩
  | _=>cases h
 | a :: l,i0,arg,d,vs,h,hr=>by
  cases arg with
  | tc u v =>
   simp only [raL] at h
   cases hL:a.isL with
   | true=>rw [hL] at h; cases h
   | false =>
    rw [hL] at h
    simp only [cond_false] at h
    split at h
    ·rename_i xa ea
     split at h
     ·rename_i y ey
      obtain rfl:=Option.some.inj h
      obtain ⟨v0,vs',rfl,r1,r2⟩:=hr
      obtain ⟨c1,q1,q2⟩:=ra_ok hn a (fp:=fp) ea r1
      rw [hL] at q2
      simp only [cond_false,List.cons.injEq,and_true] at q2
      obtain ⟨g1,g2⟩:=raL_ok hn l (i0+1) (fp:=fp) ey r2
      refine ⟨by simp [g1],fun i v1=>⟨fun hi => ?_,fun hi => ?_,fun hi => ?_⟩⟩
      ·simp only [shp,mkT]
       rw [beq_ne_ (Nat.ne_of_lt hi)]
       exact (g2 i v1).1 (Nat.lt_succ_of_lt hi)
      ·simp only [shp,mkT]
       cases i with
       | zero =>
        simp only [List.getElem?_cons_zero,Option.some.injEq] at hi
        subst hi
        rw [Nat.add_zero,beq_self_]
        exact .inr ⟨c1,q1,q2⟩
       | succ i =>
        simp only [List.getElem?_cons_succ] at hi
        rw [beq_ne_ (by omega)]
        have:=(g2 i v1).2.1 hi
        rw [show i0+(i+1)=i0+1+i by omega]
        exact this
      ·simp only [shp,mkT]
       cases i with
       | zero=>simp at hi
       | succ i =>
        simp only [List.getElem?_cons_succ] at hi
        rw [beq_ne_ (by omega)]
        have:=(g2 i v1).2.2 hi
        rw [show i0+(i+1)=i0+1+i by omega]
        exact this
     ·cases h
    ·cases h
  | _=>cases h
theorem results_ok {fn:Func} {rs:List RV} (h:fn.results=(rs.map RV.to).toArray) {a:Act} {P:Program} {w:World} {vs:List Value} (hv:resVs P (fun i=>a.eval (.tmp i)) w rs vs):(results fn a.tmps).run P w=.ok (retVal vs) w:=by
 unfold results
 rw [h,List.mapM_toArray,List.mapM_map]
 have key:∀ {rs:List RV} {vs:List Value},resVs P (fun i=>a.eval (.tmp i)) w rs vs→∀ {f:RV→Sem Value},(∀ r v,resV P (fun i=>a.eval (.tmp i)) w r v→(f r).run P w=.ok v w)→(List.mapM f rs).run P w=.ok vs w:=by
  intro rs
  induction rs with
  | nil =>
   intro vs hv f hf
   cases vs with
   | nil=>rfl
   | cons _ _=>cases hv
  | cons r rs ih =>
   intro vs hv f hf
   cases vs with
   | nil=>cases hv
   | cons v vs =>
    obtain ⟨h1,h2⟩:=hv
    rw [List.mapM_cons]
    simp only [Sem.run_bind,hf r v h1,Result.andThen_ok,ih h2 hf,Sem.run_pure]
 have:=key hv (f:=(fun x=>match x with
  | ResultVar.tmp t=>(pure (a.tmps.getD t undef):Sem Value)
  | .cell b t=>do loadVar t (← asAddr (a.tmps.getD b undef))) ∘ RV.to) (fun r v hr=>by
  obtain ⟨t,oe⟩:=r
  cases oe with
  | none=>rw [show v=a.eval (.tmp t) from hr]; rfl
  | some e=>exact hr)
 rw [map_eq_pure_bind,bind_assoc,Sem.run_bind]
 refine (congrArg (fun x=>Result.andThen x _) this).trans ?_
 simp only [Result.andThen_ok,pure_bind,Sem.run_pure]
 cases vs with
 | nil=>rfl
 | cons x l =>
  cases l with
  | nil=>rfl
  | cons y l=>rfl
theorem raL_rest {S:Type} {z:S}:∀ (l:List MS) (i0:Nat) {arg:Arg} {d:denT S (shp l i0)},raL z l i0 arg=some d→restT (shp l i0) d=z
 | [],i0,arg,d,h=>by
  cases arg with
  | tn=>exact (Option.some.inj h).symm
  | _=>cases h
 | a :: l,i0,arg,d,h=>by
  cases arg with
  | tc u v =>
   simp only [raL] at h
   cases hL:a.isL with
   | true=>rw [hL] at h; cases h
   | false =>
    rw [hL] at h
    simp only [cond_false] at h
    split at h
    ·split at h
     ·rename_i y ey
      obtain rfl:=Option.some.inj h
      exact raL_rest l (i0+1) ey
     ·cases h
    ·cases h
  | _=>cases h
theorem rdIO_mk {ns:Nat}:∀ (io:IO) (i:Nat) {ios:List SlotC} {z:denS (shpS io i)},rdIO io i ios=some z→ios.length=io.length∧∀ s hv cv c,mkS ns (shpS io i) z s=some ⟨hv,cv,some c⟩→∃ k,s=i+k∧ios[k]?=some c
 | [],i,ios,z,h=>by
  cases ios with
  | nil =>
   refine ⟨rfl,fun s hv cv c h => ?_⟩
   simp only [shpS,mkS] at h
   cases hb:Nat.blt s ns <;> rw [hb] at h <;> cases h
  | cons _ _=>cases h
 | c0 :: l,i,ios,z,h=>by
  cases ios with
  | nil=>cases h
  | cons k0 ks =>
   simp only [rdIO] at h
   split at h
   ·rename_i x ex
    split at h
    ·rename_i d ed
     obtain rfl:=Option.some.inj h
     obtain ⟨h1,h2⟩:=rdIO_mk (ns:=ns) l (i+1) ed
     refine ⟨by simp [h1],fun s hv cv c hm => ?_⟩
     simp only [shpS,mkS] at hm
     cases hs:(Nat.beq s i && Nat.blt s ns) with
     | true =>
      rw [hs] at hm
      simp only [Bool.and_eq_true] at hs
      simp only [cond_true,Option.some.injEq,Slot.mk.injEq] at hm
      obtain ⟨_,_,rfl⟩:=hm
      exact ⟨0,Nat.eq_of_beq_eq_true hs.1,by rw [rdC_ok ex]; rfl⟩
     | false =>
      rw [hs] at hm
      obtain ⟨k,e1,e2⟩:=h2 s hv cv c hm
      exact ⟨k+1,by omega,by simpa using e2⟩
    ·cases h
   ·cases h
theorem rdS_wr {lk:Nat→Option Slot}:∀ (io:IO) (i:Nat) {d:denS (shpS io i)},rdS lk (shpS io i)=some d→(wrIO io i d).length=io.length∧∀ k c,(wrIO io i d)[k]?=some (some c)→∃ hv cv,lk (i+k)=some ⟨hv,cv,some c⟩
 | [],i,d,h=>⟨rfl,fun k c hk=>by simp [wrIO] at hk⟩
 | c0 :: l,i,d,h=>by
  simp only [shpS,rdS] at h
  split at h
  ·rename_i hv1 cv1 k0 hk0
   split at h
   ·rename_i x ex
    split at h
    ·rename_i d' ed
     obtain rfl:=Option.some.inj h
     obtain ⟨h1,h2⟩:=rdS_wr l (i+1) ed
     refine ⟨by simp only [wrIO,List.length_cons,h1],fun k c hk => ?_⟩
     cases k with
     | zero =>
      simp only [wrIO,List.getElem?_cons_zero,Option.some.injEq] at hk
      subst hk
      exact ⟨hv1,cv1,by rw [rdC_ok ex]; exact hk0⟩
     | succ k =>
      simp only [wrIO,List.getElem?_cons_succ] at hk
      obtain ⟨hv,cv,e⟩:=h2 k c hk
      exact ⟨hv,cv,by rw [show i+(k+1)=i+1+k by omega]; exact e⟩
    ·cases h
   ·cases h
  ·cases h
theorem hv0_ok {lk:Nat→Option Slot}:∀ (io:IO) (i:Nat),hv0 lk io i=true→∀ k,k<io.length→∃ S,lk (i+k)=some S∧S.hv=0
 | [],_,_,k,hk=>by simp at hk
 | _ :: l,i,h,k,hk=>by
  simp only [hv0,Bool.and_eq_true] at h
  cases k with
  | zero =>
   cases e:lk i with
   | none=>rw [e] at h; cases h.1
   | some S=>rw [e] at h; exact ⟨S,rfl,Nat.eq_of_beq_eq_true h.1⟩
  | succ k =>
   obtain ⟨S,h1,h2⟩:=hv0_ok l (i+1) h.2 k (by simpa using hk)
   exact ⟨S,by rw [show i+(k+1)=i+1+k by omega]; exact h1,h2⟩
theorem finIO_ok {T:Type} {lk:Nat→Option Slot} {x:T}:∀ {io:IO} {r:outD T io},finIO lk x io=some r→out1 io r=x∧hv0 lk io 0=true∧rdS lk (shpS io 0)=some (out2 io r)
 | [],r,h=>⟨(Option.some.inj h).symm,rfl,rfl⟩
 | c :: l,r,h=>by
  simp only [finIO] at h
  obtain ⟨hb,h⟩:=cond_some h
  split at h
  ·rename_i d ed
   obtain rfl:=Option.some.inj h
   exact ⟨rfl,hb,ed⟩
  ·cases h
theorem wrIO_some:∀ (io:IO) (i:Nat) {d:denS (shpS io i)} {k:Nat},k<io.length→∃ c,(wrIO io i d)[k]?=some (some c)
 | [],_,_,_,h=>by simp at h
 | c0 :: l,i,d,0,_=>⟨_,rfl⟩
 | c0 :: l,i,d,k+1,h=>by
  obtain ⟨c,e⟩:=wrIO_some l (i+1) (d:=d.2) (k:=k) (by simpa using h)
  exact ⟨c,e⟩
theorem wr_app {l:List (Option SlotC)} {n k:Nat} {c:SlotC} (h:((l++List.replicate n none)[k]?).bind id=some c):l[k]?=some (some c):=by
 obtain ⟨oc,h1,h2⟩:=Option.bind_eq_some_iff.1 h
 have h2:oc=some c:=h2
 subst h2
 by_cases hk:k<l.length
 ·rwa [List.getElem?_append_left hk] at h1
 ·rw [List.getElem?_append_right (by omega),List.getElem?_replicate] at h1
  split at h1 <;> simp at h1
theorem fs_gen (hT:TTok E) (hE:EnvOK E) {s:FS} {fn:Func} {body:Code} {L:List Spec} {n:Nat} {h:Hint} {rs:List RV} (hf:E.P.funcs[s.f]?=some fn) (hb:fn.body=some body) (hname:(fn.name == "runtime.NumGoroutine")=false) (hres:fn.results=(rs.map RV.to).toArray)
 (hnt:fn.ntmps=nt) (hlen:s.as.length≤nt) (hio:E.io=s.io.length) (hns:(s.io++s.own).length≤ns) (hL:LoopsOK E ns nt L n body) {B:Type} {E0:denT (denIO (s.io++s.own)) (shp s.as 0)→B→Sm} {cond:denT (denIO (s.io++s.own)) (shp s.as 0)→B→Prop}
 (hE0:∀ d b,(E0 d b).look=(ent ns nt s.as (s.io++s.own) d).look∧(E0 d b).ns=ns∧(E0 d b).nt=nt)
 (hent:∀ d {Z:Bs} {w:World} {hdr:Nat→Value} {fp:Nat→Bs} {val:Nat→Value},(∀ i,RelV Z w (ent ns nt s.as (s.io++s.own) d).look hdr fp ((ent ns nt s.as (s.io++s.own) d).tm i) (val i))→∃ b,cond d b∧∀ i,RelV Z w (ent ns nt s.as (s.io++s.own) d).look hdr fp ((E0 d b).tm i) (val i))
 (hM:∀ d b r,cond d b→s.M d=some r→evC E L n h body [] (E0 d b) (finR E s.t s.m s.io rs)=some r):s.OK E.P:=by
 intro arg ios c hc
 simp only [FS.res] at hc
 split at hc
 ·rename_i z hz0
  split at hc
  ·rename_i d hd
   obtain rfl:=Option.some.inj hc
   refine ⟨⟨fn,hf,by rw [hb]; rfl,hname⟩,fun r hr Z w hdr fp vs HC hfpk hA => ?_⟩
   simp only at hr
   obtain ⟨hil,hmk⟩:=rdIO_mk (ns:=ns) (s.io++s.own) 0 hz0
   rw [hil] at hA
   have hrest:=raL_rest s.as 0 hd
   have hslk:∀ k,k<(s.io++s.own).length→∃ S,(ent ns nt s.as (s.io++s.own) d).look k=some S:=fun k hk=>(mkS_ns (shpS (s.io++s.own) 0)).2 (Nat.lt_of_lt_of_le hk hns)
   obtain ⟨hl,hg⟩:=raL_ok hslk s.as 0 (fp:=fp) hd hA
   refine calls_of_wp hf hb ?_
   let Z0:Ctx E.io:=⟨Z,fun b=>∃ k,fp k b,hdr,[]⟩
   have hcont:∀ s0 hv cv c,(ent ns nt s.as (s.io++s.own) d).look s0=some ⟨hv,cv,some c⟩→ioSl ios s0=some ⟨0,0,some c⟩:=fun s0 hv cv c h=>by
    simp only [ent,hrest] at h
    obtain ⟨k,e1,e2⟩:=hmk s0 hv cv c h
    rw [Nat.zero_add] at e1
    subst e1
    simp only [ioSl,e2,Option.map_some]
   have hrel:Rel Z0 w ns nt (ent ns nt s.as (s.io++s.own) d) { tmps:=vs.toArray++Array.replicate (fn.ntmps-vs.toArray.size) undef,defers:=[] } w:=by
    refine ⟨Z,hdr,fp,⟨fun s hv cv c h => ?_,fun s hv cv c h => ?_,HC.disj,HC.lt,HC.zlt,HC.dz⟩,⟨fun _ h=>h,fun b hb hf=>⟨rfl,fun s h=>hf ⟨s,h⟩,fun h=>h⟩,Nat.le_refl _,rfl,rfl,rfl⟩,⟨fun s hs=>(mkS_ns _).1 hs,fun k hk => ?_⟩,fun i => ?_,?_,rfl,rfl,rfl⟩
    ·exact HC.rep _ _ _ _ (hcont s hv cv c h)
    ·exact HC.shape _ _ _ _ (hcont s hv cv c h)
    ·rw [hio] at hk
     obtain ⟨S,hS⟩:=hslk k (by rw [List.length_append]; omega)
     exact ⟨S,hS,mkS_hv _ hS,fun _ _=>rfl⟩
    ·have hgi:=hg i
     rw [Nat.zero_add] at hgi
     simp only [Act.eval,Array.getD_eq_getD_getElem?,Array.getElem?_append,List.size_toArray]
     by_cases hi:i<vs.length
     ·rw [if_pos hi]
      have e:vs[i]?=some vs[i]:=List.getElem?_eq_getElem hi
      rw [List.getElem?_toArray,e]
      exact (hgi _).2.1 e
     ·exact .inl ((hgi undef).2.2 (List.getElem?_eq_none (Nat.le_of_not_lt hi)))
    ·simp only [ent,Array.size_append,List.size_toArray,Array.size_replicate]
     omega
   have hrel0:∃ b,cond d b∧Rel Z0 w ns nt (E0 d b) { tmps:=vs.toArray++Array.replicate (fn.ntmps-vs.toArray.size) undef,defers:=[] } w:=by
    obtain ⟨Z1,hdr1,fp1,H1,F1,hn1,ht,hs,hdf,g1,g2⟩:=hrel
    obtain ⟨b,hb,ht'⟩:=hent d (val:=fun i=>Act.eval { tmps:=vs.toArray++Array.replicate (fn.ntmps-vs.toArray.size) undef,defers:=[] } (.tmp i)) ht
    obtain ⟨e1,e2,e3⟩:=hE0 d b
    refine ⟨b,hb,Z1,hdr1,fp1,by rw [e1]; exact H1,F1,⟨fun s hs=>by rw [e1]; exact hn1.1 s (by rw [e2] at hs; exact hs),by rw [e1]; exact hn1.2⟩,fun i=>by rw [e1]; exact ht' i,by rw [e3]; exact hs,hdf,e2,e3⟩
   obtain ⟨b0,hb0,hrel⟩:=hrel0
   refine evC_ok hT hE hL (SizeOf.sizeOf body) h body (Nat.le_refl _) (ps:=[]) rfl (hM d b0 r hb0 hr) hrel (fun e st' a' w' hk hr' => ?_)
   obtain ⟨Z1,hdr1,fp1,H1,F1,hn1,ht,_,hdf,_,_⟩:=hr'
   have fin:finR E s.t s.m s.io rs .ret st'=some r→∃ v,(results fn a'.tmps).run E.P w'=.ok v w'∧∃ Z' fp' F us,CallPost Z w hdr fp ios s.t s.m (out1 s.io r) (wrIO s.io 0 (out2 s.io r)++List.replicate s.own.length none) (.returned v) w' Z' fp' F us:=by
    intro hx
    simp only [finR] at hx
    split at hx
    ·rename_i x lk hx0
     obtain ⟨rfl,g2,g3⟩:=finIO_ok hx
     obtain ⟨Z2,fp2,F,vs2,H2,T2,V2,R2,hand,_⟩:=retTake_ok hT (val:=fun i=>a'.eval (.tmp i)) hx0 H1 ht
     have F2:=F1.trans H2 T2
     obtain ⟨w1,w2⟩:=rdS_wr s.io 0 g3
     have there:∀ k c,(wrIO s.io 0 (out2 s.io r))[k]?=some (some c)→∃ hv cv,lk k=some ⟨hv,cv,some c⟩∧hdr1 k=hdr k:=fun k c hk=>by
      obtain ⟨hv,cv,e⟩:=w2 k c hk
      rw [Nat.zero_add] at e
      have hlt:k<s.io.length:=by rw [← w1]; exact (List.getElem?_eq_some_iff.1 hk).1
      obtain ⟨S',g4,g5⟩:=hv0_ok s.io 0 g2 k hlt
      rw [Nat.zero_add,e] at g4
      obtain rfl:=Option.some.inj g4
      obtain ⟨S,p1,p2,p3⟩:=hn1.2 k (by rw [hio]; exact hlt)
      obtain ⟨S2,q1,q2⟩:=T2.slot k S p1
      rw [e] at q1; obtain rfl:=Option.some.inj q1
      refine ⟨hv,cv,e,?_⟩
      rcases q2 with q | ⟨_,_,q⟩ | ⟨_,_,q⟩
      ·simp only at q g5; omega
      ·obtain ⟨⟨c1,hc1⟩,_⟩:=q c rfl; exact p3 c1 hc1
      ·obtain ⟨c1,hc1,_⟩:=q c rfl; exact p3 c1 hc1
     refine ⟨_,results_ok hres V2,Z2,fun k b=>k<s.io.length∧fp2 k b,F,_,rfl,fun b hb hk=>(F2.old b hb (fun ⟨k,h⟩=>hk k h)).1,F2.size,F2.os,F2.tape,F2.output,F2.z,fun b hb=>⟨H2.zlt b hb,?_⟩,fun b hb => ?_,fun k b hk => ?_,by rw [List.length_append,w1,List.length_replicate,hil,List.length_append],?_,R2⟩
     ·by_cases hlt:b<w.heap.size
      ·by_cases hf:∃ k,fp k b
       ·exact .inr (.inl hf)
       ·exact .inl ((F2.old b hlt hf).2.2 hb)
      ·exact .inr (.inr hlt)
     ·obtain ⟨q,_,_,q1,q2⟩:=hand b hb
      refine ⟨?_,H2.lt q b q1,H2.dz q b q1,fun k hk => ?_⟩
      ·by_cases hlt:b<w.heap.size
       ·by_cases hf:∃ k,fp k b
        ·exact .inl hf
        ·exact ((F2.old b hlt hf).2.1 q q1).elim
       ·exact .inr hlt
      ·obtain rfl:=H2.disj _ _ _ hk.2 q1
       obtain ⟨c,hc⟩:∃ c,(wrIO s.io 0 (out2 s.io r))[k]?=some (some c):=wrIO_some s.io 0 hk.1
       obtain ⟨hv,cv,e,_⟩:=there k c hc
       exact q2 hv cv c e
     ·refine ⟨by rw [hil,List.length_append]; exact Nat.lt_of_lt_of_le hk.1 (Nat.le_add_right _ _),?_⟩
      by_cases hlt:b<w.heap.size
      ·by_cases hf:∃ k,fp k b
       ·exact .inl hf
       ·exact ((F2.old b hlt hf).2.1 k hk.2).elim
      ·exact .inr hlt
     ·refine ⟨fun k hv cv c h => ?_,fun k hv cv c h => ?_,fun k k' b h h'=>H2.disj _ _ _ h.2 h'.2,fun k b h=>H2.lt _ _ h.2,H2.zlt,fun k b h=>H2.dz _ _ h.2⟩
      ·simp only [ioSlO,Option.map_eq_some_iff] at h
       obtain ⟨c',h1,h2⟩:=h
       simp only [Slot.mk.injEq,Option.some.injEq] at h2
       obtain ⟨_,_,rfl⟩:=h2
       have h1:=wr_app h1
       obtain ⟨hv,cv,e,e2⟩:=there k _ h1
       have:=H2.rep k _ _ _ e
       rw [e2] at this
       exact this.mono (fun b hb=>⟨by rw [← w1]; exact (List.getElem?_eq_some_iff.1 h1).1,hb⟩)
      ·simp only [ioSlO,Option.map_eq_some_iff] at h
       obtain ⟨c',h1,h2⟩:=h
       simp only [Slot.mk.injEq,Option.some.injEq] at h2
       obtain ⟨_,_,rfl⟩:=h2
       have h1:=wr_app h1
       obtain ⟨hv,cv,e,e2⟩:=there k _ h1
       exact H2.shape k _ _ _ e
    ·cases hx
   cases e with
   | normal=>exact ⟨hdf,fin hk⟩
   | ret=>exact ⟨hdf,fin hk⟩
   | _=>cases hk
  ·cases hc
 ·cases hc
theorem fs_ok (hT:TTok E) (hE:EnvOK E) {s:FS} {fn:Func} {body:Code} {L:List Spec} {n:Nat} {h:Hint} {rs:List RV} (hf:E.P.funcs[s.f]?=some fn) (hb:fn.body=some body) (hname:(fn.name == "runtime.NumGoroutine")=false) (hres:fn.results=(rs.map RV.to).toArray)
 (hnt:fn.ntmps=nt) (hlen:s.as.length≤nt) (hio:E.io=s.io.length) (hns:(s.io++s.own).length≤ns) (hL:LoopsOK E ns nt L n body) (hM:∀ d,evC E L n h body [] (ent ns nt s.as (s.io++s.own) d) (finR E s.t s.m s.io rs)=s.M d):s.OK E.P :=
 fs_gen hT hE hf hb hname hres hnt hlen hio hns hL (B:=Unit) (E0:=fun d _=>ent ns nt s.as (s.io++s.own) d) (cond:=fun _ _=>True) (fun _ _=>⟨rfl,rfl,rfl⟩) (fun _ _ _ _ _ _ h=>⟨(),trivial,h⟩) (fun d _ r _ hr=>(hM d).trans hr)
def entN (ns nt:Nat) (t:Ty) (as:List MS) (io:IO) (d:denT (denIO io) (shp (.val (.sl t) :: as) 0)) (b:Bool):Sm :=
 ⟨fun i=>bif Nat.beq i 0 then .nv t d.1 b else mkT (shp as 1) d.2 (fun _ _=>.dead) i,mkS ns (shpS io 0) (restT (shp (.val (.sl t) :: as) 0) d),ns,nt⟩
theorem fs_okN (hT:TTok E) (hE:EnvOK E) {f:FuncId} {t T:Ty} {as:List MS} {io own:IO} {m:Mk} {M:denT (denIO (io++own)) (shp (.val (.sl t) :: as) 0)→Option (outD T.den io)} {fn:Func} {body:Code} {L:List Spec} {n:Nat} {h:Hint} {rs:List RV} (hf:E.P.funcs[f]?=some fn) (hb:fn.body=some body) (hname:(fn.name == "runtime.NumGoroutine")=false) (hres:fn.results=(rs.map RV.to).toArray)
 (hnt:fn.ntmps=nt) (hlen:as.length+1≤nt) (hio:E.io=io.length) (hns:(io++own).length≤ns) (hL:LoopsOK E ns nt L n body)
 (hM:∀ d b r,(b=true→d.1=([]:List t.den))→M d=some r→evC E L n h body [] (entN ns nt t as (io++own) d b) (finR E T m io rs)=some r):(FS.mk f (.val (.sl t) :: as) io own T m M).OK E.P:=by
 refine fs_gen (s:=FS.mk f (.val (.sl t) :: as) io own T m M) hT hE hf hb hname hres hnt hlen hio hns hL (B:=Bool) (E0:=fun d b=>entN ns nt t as (io++own) d b) (cond:=fun d b=>b=true→d.1=([]:List t.den)) (fun _ _=>⟨rfl,rfl,rfl⟩) (fun d Z w hdr fp val hv => ?_) (fun d b r hb hr=>hM d b r hb hr)
 have h0:=hv 0
 have h0:RelV Z w (ent ns nt (.val (.sl t) :: as) (io++own) d).look hdr fp (.val (.sl t) d.1) (val 0):=h0
 rcases h0 with h0 | ⟨cs,hr,he⟩
 ·cases h0
 have hr0:=hr
 obtain ⟨A,cap,rfl,hc,h2⟩:=hr
 refine ⟨A.isNone,fun hA => ?_,fun i => ?_⟩
 ·rcases h2 with h2 | ⟨b,o,h2,_⟩
  ·exact h2
  ·rw [h2] at hA; cases hA
 ·by_cases e:i=0
  ·subst e
   exact .inr ⟨_,⟨hr0,fun A' l c hA=>by
    simp only [List.cons.injEq,Value.slice.injEq,and_true] at hA
    rw [hA.1]⟩,he⟩
  ·have:=hv i
   simp only [ent,entN,shp,mkT] at this ⊢
   rw [beq_ne_ e] at this ⊢
   exact this
theorem fs_zero {P:Program} {s:FS} {fn:Func} {body:Code} (hf:P.funcs[s.f]?=some fn) (hb:fn.body=some body) (hname:(fn.name == "runtime.NumGoroutine")=false) (hM:∀ d,s.M d=none):s.OK P:=by
 intro arg ios c hc
 simp only [FS.res] at hc
 split at hc
 ·split at hc
  ·rename_i d hd
   obtain rfl:=Option.some.inj hc
   refine ⟨⟨fn,hf,by rw [hb]; rfl,hname⟩,fun r hr => ?_⟩
   simp only at hr
   rw [hM d] at hr; cases hr
  ·cases hc
 ·cases hc
end
end Go.Proofs.YtibphkgcdnconaaGreat.V
namespace Go.Proofs.YtibphkgcdnconaaGreat.V
open Go
set_option linter.unusedVariables false
set_option linter.all false
section
variable {E:Env} {Z0:Ctx E.io} {w0:World} {ns nt:Nat} {w:World} {hdr:Nat→Value}
end
end Go.Proofs.YtibphkgcdnconaaGreat.V
namespace Go.Proofs.YtibphkgcdnconaaGreat.V
open Go
set_option linter.unusedVariables false
set_option linter.all false
section
variable {E:Env} {Z0:Ctx E.io} {w0:World} {ns nt:Nat} {w:World} {hdr:Nat→Value}
structure FD where
 f:FuncId
 io:IO
 T:TypeId
 Mr:denIO io→Option (denIO io)
 Mp:denIO io→Option (denIO io)
def ptrA:IO→Nat→Arg
 | [],_=>.tn
 | c :: l,i=>.tc (.mp i c.2.1) (ptrA l (i+1))
def FD.M (s:FD) (pm:Bool):denIO s.io→Option (denIO s.io):=bif pm then s.Mp else s.Mr
def modeB (pm:Bool) (T:TypeId):FrameMode:=bif pm then .panicking (panCh T) else .returning
def modeA (pm:Bool) (T:TypeId):FrameMode:=bif pm then .panicking [{ v:=.iface T (.agg #[]),recovered:=true }] else .returning
def FD.OK (P:Program) (s:FD):Prop:=(∃ fn,P.funcs[s.f]?=some fn∧fn.body.isSome=true∧(fn.name == "runtime.NumGoroutine")=false) ∧
 ∀ (pm:Bool) ios z x,rdIO s.io 0 ios=some z→s.M pm z=some x→∀ (Z:Bs) (w:World) (hd:Nat→Value) (fp:Nat→Bs) (vs:List Value),HR Z w (ioSl ios) hd fp→(∀ k b,fp k b→k<ios.length)→RepA Z w ios.length hd (ptrA s.io 0) vs →
  CallsD P s.f vs.toArray (modeB pm s.T) w fun e u' w'=>u'=modeA pm s.T∧∃ Z' fp' F us,CallPost Z w hd fp ios .unit .im () (wrIO s.io 0 x) e w' Z' fp' F us
end
end Go.Proofs.YtibphkgcdnconaaGreat.V
namespace Go.Proofs.YtibphkgcdnconaaGreat.V
open Go
set_option linter.unusedVariables false
set_option linter.all false
inductive HD where
 | seq (h:Hint) (d:HD)
 | dfr (hs:List OH)
def HD.path:HD→List Nat→List Nat
 | .seq _ d,ps=>d.path (1 :: ps)
 | .dfr _,ps=>1 :: ps
section
variable {E:Env} {Z0:Ctx E.io} {w0:World} {ns nt:Nat} {w:World} {hdr:Nat→Value}
end
end Go.Proofs.YtibphkgcdnconaaGreat.V
namespace Go.Proofs.YtibphkgcdnconaaGreat.V
open Go
set_option linter.unusedVariables false
set_option linter.all false
section
variable {E:Env} {ns nt:Nat}
end
end Go.Proofs.YtibphkgcdnconaaGreat.V
namespace Go.Proofs.YtibphkgcdnconaaGreat.V
open Go
set_option linter.unusedVariables false
set_option linter.all false
abbrev ElD:List (Nat × Ty)→Type
 | []=>Unit
 | c :: l=>c.2.den × ElD l
def mkEl:(l:List (Nat × Ty))→ElD l→(Nat→MV)→Nat→MV
 | [],_,tm=>tm
 | c :: l,x,tm=>fun i=>bif Nat.beq i c.1 then .val c.2 x.1 else mkEl l x.2 tm i
def addT {S:Type}:(l:List (Nat × MS))→denT Unit l→S→denT S l
 | [],_,s=>s
 | _ :: l,c,s=>(c.1,addT l c.2 s)
structure RSpec where
 X:Type
 it:MV→Option (List X)
 pt:List (Nat × Ty)
 el:X→ElD pt
 tm:List (Nat × MS)
 sl:List (Nat × Bool × Ty × Mk)
 ha:Hint
 hb:Hint
 outs:Outs
def RSpec.sh (s:RSpec):Shape:=⟨s.tm,[],s.sl⟩
def RSpec.ssh (s:RSpec):Shape:=⟨[],[],s.sl⟩
abbrev RSpec.C (s:RSpec):Type:=denT Unit s.tm
abbrev RSpec.S (s:RSpec):Type:=denS s.sl
def RSpec.at (s:RSpec) (ns nt:Nat) (c:s.C) (x:s.X) (d:s.S):Sm :=
 let st:=s.sh.mk_ ns nt (addT s.tm c d)
 ⟨mkEl s.pt (s.el x) st.tm,st.look,ns,nt⟩
def RSpec.fin (s:RSpec) (e:Exit) (st:Sm):Option (s.S ⊕ DenO s.outs) :=
 match e with
 | .normal=>match s.ssh.rd st with
  | some d=>some (.inl d)
  | none=>none
 | e=>match finO s.outs e st with
  | some d=>some (.inr d)
  | none=>none
inductive HG2 where
 | seq (h:Hint) (g:HG2) | blk
inductive HG where
 | seq (h:Hint) (g:HG) | left (g:HG2)
def HG2.path:HG2→List Nat→List Nat
 | .seq _ g,ps=>g.path (1 :: ps)
 | .blk,ps=>ps
def HG.path:HG→List Nat→List Nat
 | .seq _ g,ps=>g.path (1 :: ps)
 | .left g,ps=>g.path (0 :: ps)
def HG.rest:HG→List Nat→List Nat
 | .seq _ g,ps=>g.rest (1 :: ps)
 | .left _,ps=>1 :: ps
section
variable {E:Env} {Z0:Ctx E.io} {w0:World} {ns nt:Nat} {w:World} {hdr:Nat→Value}
theorem step_off {Z:Bs} {sl:Nat→Option Slot} {fp:Nat→Bs} {w':World} (H:HR Z w sl hdr fp) (h:∀ b,(Z b∨∃ s,fp s b)→w'.heap[b]?=w.heap[b]?) (hsz:w.heap.size≤w'.heap.size):HR Z w' sl hdr fp :=
 ⟨fun s hv cv c hs=>(H.rep s hv cv c hs).keep (fun b hb=>⟨hb,h b (.inl hb)⟩) (fun b hb=>h b (.inr ⟨s,hb⟩)),H.shape,H.disj,fun s b hb=>Nat.lt_of_lt_of_le (H.lt s b hb) hsz,fun b hb=>Nat.lt_of_lt_of_le (H.zlt b hb) hsz,H.dz⟩
theorem Fr.off {n:Nat} {Z0:Ctx n} {Z:Bs} {fp:Nat→Bs} {w':World} (F:Fr Z0 w0 Z w fp) (h:∀ b,b<w0.heap.size→w'.heap[b]?=w.heap[b]?) (hsz:w.heap.size≤w'.heap.size) (h1:w'.os=w.os) (h2:w'.tape=w.tape) (h3:w'.output=w.output):Fr Z0 w0 Z w' fp :=
 ⟨F.z,fun b hb hf=>let ⟨a1,a2,a3⟩:=F.old b hb hf; ⟨(h b hb).trans a1,a2,a3⟩,Nat.le_trans F.size hsz,h1.trans F.os,h2.trans F.tape,h3.trans F.output⟩
theorem RelM.move {Z Z':Bs} {w':World} {hdr':Nat→Value} (hZ:∀ b,Z b→Z' b∧w'.heap[b]?=w.heap[b]?):∀ {a:MS} {x:a.den} {cs:List Value},(∀ s∈a.slots,hdr' s=hdr s)→RelM Z w hdr a x cs→RelM Z' w' hdr' a x cs
 | .val t,_,_,_,h=>Rep.keep hZ (fun _ h=>h.elim) h
 | .iadr t,_,_,_,⟨b,o,ks,e,h1,h2,h3⟩=>⟨b,o,ks,e,fun j hj=>by rw [← h1 j hj]; exact World.cell?_of_block (a:=⟨b,_,none⟩) (hZ b h2).2,(hZ b h2).1,Rep.keep hZ (fun _ h=>h.elim) h3⟩
 | .nil,_,_,_,h=>h
 | .root s,_,_,hs,h=>⟨h.1,by rw [hs s (by simp [MS.slots])]; exact h.2⟩
 | .ptr s _,_,_,hs,⟨b,o,l,cap,h1,h2⟩=>⟨b,o,l,cap,by rw [hs s (by simp [MS.slots])]; exact h1,h2⟩
 | .fn f c,_,_,hs,⟨ks,e,h⟩=>⟨ks,e,RelM.move (a:=c) hZ hs h⟩
 | .icl c,_,_,hs,⟨b,o,ks,e,h1,h2,h⟩=>⟨b,o,ks,e,fun j hj=>by rw [← h1 j hj]; exact World.cell?_of_block (a:=⟨b,_,none⟩) (hZ b h2).2,(hZ b h2).1,RelM.move (a:=c) hZ hs h⟩
 | .tc a b,_,_,hs,⟨c1,v,vs,e,h1,h2,h3⟩=>⟨c1,v,vs,e,RelM.move (a:=a) hZ (fun s h=>hs s (by simp [MS.slots,h])) h1,h2,RelM.move (a:=b) hZ (fun s h=>hs s (by simp [MS.slots,h])) h3⟩
 | .tn,_,_,_,h=>h
def TmOK (Z:Bs) (w:World) (hdr:Nat→Value) (val:Nat→Value):(l:List (Nat × MS))→denT Unit l→Prop
 | [],_=>True
 | (i,a) :: l,c=>(∃ cs,RelM Z w hdr a c.1 cs∧val i=(a.mk c.1).out cs)∧TmOK Z w hdr val l c.2
def slotsT:List (Nat × MS)→List Nat
 | []=>[]
 | c :: l=>c.2.slots++slotsT l
theorem TmOK.move {Z Z':Bs} {w':World} {hdr':Nat→Value} {val:Nat→Value} (hZ:∀ b,Z b→Z' b∧w'.heap[b]?=w.heap[b]?):∀ {l:List (Nat × MS)} {c:denT Unit l},(∀ s∈slotsT l,hdr' s=hdr s)→TmOK Z w hdr val l c→TmOK Z' w' hdr' val l c
 | [],_,_,_=>trivial
 | (i,a) :: l,c,hs,⟨⟨cs,h1,h2⟩,h3⟩=>⟨⟨cs,h1.move hZ (fun s h=>hs s (by simp [slotsT,h])),h2⟩,TmOK.move hZ (l:=l) (fun s h=>hs s (by simp [slotsT,h])) h3⟩
def RelP (Z:Bs) (w:World):(l:List (Nat × Ty))→ElD l→List Value→Prop
 | [],_,vs=>vs=[]
 | c :: l,x,vs=>∃ v vs' cs,vs=v :: vs'∧Rep Z w c.2 .im x.1 none_ cs∧v=(MV.val c.2 x.1).out cs∧RelP Z w l x.2 vs'
theorem RelP.move {Z Z':Bs} {w':World} (hZ:∀ b,Z b→Z' b∧w'.heap[b]?=w.heap[b]?):∀ {l:List (Nat × Ty)} {x:ElD l} {vs:List Value},RelP Z w l x vs→RelP Z' w' l x vs
 | [],_,_,h=>h
 | c :: l,x,_,⟨v,vs',cs,e,h1,h2,h3⟩=>⟨v,vs',cs,e,Rep.keep hZ (fun _ h=>h.elim) h1,h2,RelP.move hZ (l:=l) h3⟩
end
end Go.Proofs.YtibphkgcdnconaaGreat.V
namespace Go.Proofs.YtibphkgcdnconaaGreat.V
open Go
set_option linter.unusedVariables false
set_option linter.all false
section
variable {ns nt:Nat} {w:World} {hdr:Nat→Value}
structure RSt {io:Nat} (Z0:Ctx io) (w0:World) (s:RSpec) (ns:Nat) (c:s.C) (val:Nat→Value) (Zi:Bs) (D l:Nat) (d:s.S) (W:World) (Z:Bs) (hdr:Nat→Value) (fp:Nat→Bs):Prop where
 H:HR Z W (mkS ns s.sl d) hdr fp
 F:Fr Z0 w0 Z W fp
 P:Pin Z0 (mkS ns s.sl d) hdr
 T:TmOK Z W hdr val s.tm c
 hD:W.heap[D]?=some (.deferred (some []))
 fD:∀ r,¬ fp r D
 fl:∀ r,¬ fp r l
 zD:¬ Z D
 zl:¬ Z l
 zi:∀ b,Zi b→Z b
theorem RSt.off {io:Nat} {Z0:Ctx io} {w0:World} {s:RSpec} {c:s.C} {val:Nat→Value} {Zi:Bs} {D l:Nat} {d:s.S} {W W':World} {Z:Bs} {fp:Nat→Bs} (h:RSt Z0 w0 s ns c val Zi D l d W Z hdr fp) (hl:w0.heap.size≤l) (hne:D≠l)
 (same:∀ b,b≠l→b<W.heap.size→W'.heap[b]?=W.heap[b]?) (hsz:W.heap.size≤W'.heap.size) (h1:W'.os=W.os) (h2:W'.tape=W.tape) (h3:W'.output=W.output):RSt Z0 w0 s ns c val Zi D l d W' Z hdr fp:=by
 have hz:∀ b,Z b→W'.heap[b]?=W.heap[b]?:=fun b hb=>same b (fun e=>h.zl (e ▸ hb)) (h.H.zlt b hb)
 have hf:∀ b,(∃ r,fp r b)→W'.heap[b]?=W.heap[b]?:=fun b ⟨r,hr⟩=>same b (fun e=>h.fl r (e ▸ hr)) (h.H.lt r b hr)
 exact ⟨step_off h.H (fun b hb=>hb.elim (hz b) (hf b)) hsz,h.F.off (fun b hb=>same b (by omega) (Nat.lt_of_lt_of_le hb h.F.size)) hsz h1 h2 h3,h.P,h.T.move (fun b hb=>⟨hb,hz b hb⟩) (fun _ _=>rfl),(same D hne (Array.getElem?_eq_some_iff.1 h.hD).1).trans h.hD,h.fD,h.fl,h.zD,h.zl,h.zi⟩
structure RSx {io:Nat} (Z0:Ctx io) (w0:World) (s:RSpec) (ns nt:Nat) (c:s.C) (val:Nat→Value) (D l:Nat) (st:Sm) (W:World) (Z:Bs) (hdr:Nat→Value) (fp:Nat→Bs):Prop where
 H:HR Z W st.look hdr fp
 F:Fr Z0 w0 Z W fp
 P:(∀ r,¬ r<ns→st.look r=none)∧Pin Z0 st.look hdr
 T:TmOK Z W hdr val s.tm c
 ex:∀ r,r<ns→∃ S,st.look r=some S
 hns:st.ns=ns
 hnt:st.nt=nt
 hD:W.heap[D]?=some (.deferred (some []))
 fD:∀ r,¬ fp r D
 fl:∀ r,¬ fp r l
 zD:¬ Z D
 zl:¬ Z l
theorem RSx.off {io:Nat} {Z0:Ctx io} {w0:World} {s:RSpec} {c:s.C} {val:Nat→Value} {D l:Nat} {st:Sm} {W W':World} {Z:Bs} {fp:Nat→Bs} (h:RSx Z0 w0 s ns nt c val D l st W Z hdr fp) (hl:w0.heap.size≤l) (hne:D≠l)
 (same:∀ b,b≠l→b<W.heap.size→W'.heap[b]?=W.heap[b]?) (hsz:W.heap.size≤W'.heap.size) (h1:W'.os=W.os) (h2:W'.tape=W.tape) (h3:W'.output=W.output):RSx Z0 w0 s ns nt c val D l st W' Z hdr fp:=by
 have hz:∀ b,Z b→W'.heap[b]?=W.heap[b]?:=fun b hb=>same b (fun e=>h.zl (e ▸ hb)) (h.H.zlt b hb)
 have hf:∀ b,(∃ r,fp r b)→W'.heap[b]?=W.heap[b]?:=fun b ⟨r,hr⟩=>same b (fun e=>h.fl r (e ▸ hr)) (h.H.lt r b hr)
 exact ⟨step_off h.H (fun b hb=>hb.elim (hz b) (hf b)) hsz,h.F.off (fun b hb=>same b (by omega) (Nat.lt_of_lt_of_le hb h.F.size)) hsz h1 h2 h3,h.P,h.T.move (fun b hb=>⟨hb,hz b hb⟩) (fun _ _=>rfl),h.ex,h.hns,h.hnt,(same D hne (Array.getElem?_eq_some_iff.1 h.hD).1).trans h.hD,h.fD,h.fl,h.zD,h.zl⟩
end
end Go.Proofs.YtibphkgcdnconaaGreat.V
namespace Go.Proofs.YtibphkgcdnconaaGreat.V
open Go
set_option linter.unusedVariables false
set_option linter.all false
section
variable {ns nt:Nat}
end
end Go.Proofs.YtibphkgcdnconaaGreat.V
namespace Go.Proofs.YtibphkgcdnconaaGreat.V
open Go
set_option linter.unusedVariables false
set_option linter.all false
section
variable {E:Env} {Z0:Ctx E.io} {w0:World} {ns nt:Nat}
end
end Go.Proofs.YtibphkgcdnconaaGreat.V
namespace Go.Proofs.YtibphkgcdnconaaGreat.V
open Go
set_option linter.unusedVariables false
set_option linter.all false
section
end
end Go.Proofs.YtibphkgcdnconaaGreat.V
namespace Go.Proofs.YtibphkgcdnconaaGreat.V
open Go
set_option linter.unusedVariables false
set_option linter.all false
section
end
end Go.Proofs.YtibphkgcdnconaaGreat.V
namespace Go.Proofs.YtibphkgcdnconaaGreat.V
open Go
set_option linter.unusedVariables false
set_option linter.all false
abbrev Tab:=List (TypeId × Ty × Nat)
def Tab.tt:Tab→TypeId→Option (Ty × Nat)
 | [],_=>none
 | c :: l,i=>bif Nat.beq i c.1 then some c.2 else Tab.tt l i
def cellB:Value→Value→Bool
 | .bool a,.bool b=>a == b
 | .int k n,.int k' n'=>decide (k=k') && decide (n=n')
 | .string a,.string b=>a.data.toList.isEmpty && b.data.toList.isEmpty
 | .slice none 0 0,.slice none 0 0=>true
 | .map none,.map none=>true
 | .pointer none,.pointer none=>true
 | .nilIface,.nilIface=>true
 | .nilFunc,.nilFunc=>true
 | _,_=>false
def cellsB:List Value→List Value→Bool
 | [],[]=>true
 | a :: l,b :: k=>cellB a b && cellsB l k
 | _,_=>false
theorem cellB_eq {a b:Value} (h:cellB a b=true):a=b:=by
 unfold cellB at h
 split at h
 ·rw [eq_of_beq h]
 ·simp only [Bool.and_eq_true,decide_eq_true_eq] at h; rw [h.1,h.2]
 ·rename_i a b
  simp only [Bool.and_eq_true,List.isEmpty_iff,Array.toList_eq_nil_iff] at h
  obtain ⟨a⟩:=a
  obtain ⟨b⟩:=b
  simp only at h
  rw [h.1,h.2]
 ·rfl
 ·rfl
 ·rfl
 ·rfl
 ·rfl
 ·cases h
theorem cellsB_eq:∀ {a b:List Value},cellsB a b=true→a=b
 | [],[],_=>rfl
 | a :: l,b :: k,h=>by
  simp only [cellsB,Bool.and_eq_true] at h
  rw [cellB_eq h.1,cellsB_eq h.2]
 | [],_ :: _,h=>by cases h
 | _ :: _,[],h=>by cases h
def isT (T:Tab) (e:TypeId) (t:Ty):Bool :=
 match T.tt e with
 | some (t',_)=>decide (t'=t)
 | none=>false
theorem isT_ok {T:Tab} {e:TypeId} {t:Ty} (h:isT T e t=true):∃ n,T.tt e=some (t,n):=by
 unfold isT at h
 split at h
 ·rename_i t' n e; obtain rfl:=of_decide_eq_true h; exact ⟨n,e⟩
 ·cases h
def fieldsB (T:Tab):List Field→Ty→Nat→Bool
 | [],.unit,_=>true
 | f :: fs,.pair a b,off=>Nat.beq f.offset off && isT T f.type a && fieldsB T fs b (off+a.size)
 | _,_,_=>false
theorem fieldsB_ok {T:Tab}:∀ {fs:List Field} {t:Ty} {off:Nat},fieldsB T fs t off=true→Fields T.tt fs t off
 | [],t,off,h=>by cases t <;> first | exact trivial | cases h
 | f :: fs,t,off,h=>by
  cases t with
  | pair a b =>
   simp only [fieldsB,Bool.and_eq_true] at h
   exact ⟨Nat.eq_of_beq_eq_true h.1.1,isT_ok h.1.2,fieldsB_ok h.2⟩
  | _=>cases h
def descB (P:Program) (T:Tab) (tid:TypeId) (t:Ty):Bool :=
 match P.underlying tid,t with
 | some .bool,.bool=>true
 | some (.int k),.int k'=>decide (k=k')
 | some .string,.str=>true
 | some (.slice e),.sl t=>isT T e t
 | some (.map e f),.mp k v=>isT T e k && isT T f v
 | some (.struct fs),.ex .tree a b=>isChain a && fieldsB T fs.toList (unTy (.ex .tree a b)) 0
 | some (.pointer e),.ex .ptr a _=>isT T e a
 | some (.interface _),.ex (.ifc i j) a b=>isT T i a && isT T j b
 | some (.func _ _ _),.ex (.fn0 _ _) _ _=>true
 | some (.func _ _ _),.ex (.fn1 _) _ _=>true
 | some (.array l e),.arr n t=>decide (l=n) && isT T e t
 | some (.struct fs),.pair a b=>fieldsB T fs.toList (.pair a b) 0
 | some (.struct fs),.unit=>fieldsB T fs.toList .unit 0
 | _,_=>false
def aggB:Value→Bool→Bool
 | .agg _,b=>b
 | v,b => !b && v.oneCell'
theorem aggB_val {z:Value} {t:Ty} (h:aggB z t.agg=true) (hc:z.cells.toList=t.zcells):z=t.val t.zcells:=by
 unfold Ty.val
 unfold aggB at h
 split at h
 ·rename_i cs b e
  rw [h,← hc]; rfl
 ·simp only [Bool.and_eq_true,Bool.not_eq_true'] at h
  rw [h.1,← hc,cells_single h.2]; rfl
def entB (P:Program) (T:Tab) (c:TypeId × Ty × Nat):Bool :=
 descB P T c.1 c.2.1 && Nat.ble c.2.2 1024 && (match P.info? c.1 with
  | some i=>Nat.beq i.size c.2.1.size && Nat.beq i.bytes c.2.2 && (match i.zero with
   | some z=>cellsB z.cells.toList c.2.1.zcells && aggB z c.2.1.agg
   | none=>false)
  | none=>false)
theorem descB_ok {P:Program} {T:Tab} {Γ:FuncId→Arg→List SlotC→Option CallRes} {io:Nat} {Γp:FuncId→Arg→List SlotC→Option CallResP} {tid:TypeId} {t:Ty} (h:descB P T tid t=true):Desc ⟨P,T.tt,Γ,io,Γp⟩ tid t:=by
 unfold descB at h
 split at h
 ·rename_i e; exact e
 ·rename_i e; obtain rfl:=of_decide_eq_true h; exact e
 ·rename_i e; exact e
 ·rename_i e; obtain ⟨n,h⟩:=isT_ok h; exact ⟨_,n,e,h⟩
 ·rename_i e
  simp only [Bool.and_eq_true] at h
  obtain ⟨n,h1⟩:=isT_ok h.1
  obtain ⟨m,h2⟩:=isT_ok h.2
  exact ⟨_,_,n,m,e,h1,h2⟩
 ·rename_i e; simp only [Bool.and_eq_true] at h; exact ⟨h.1,_,e,fieldsB_ok h.2⟩
 ·rename_i e; obtain ⟨n,h⟩:=isT_ok h; exact ⟨_,n,e,h⟩
 ·rename_i e
  simp only [Bool.and_eq_true] at h
  obtain ⟨n,h1⟩:=isT_ok h.1
  obtain ⟨m,h2⟩:=isT_ok h.2
  exact ⟨_,n,m,e,h1,h2⟩
 ·rename_i e; exact ⟨_,_,_,e⟩
 ·rename_i e; exact ⟨_,_,_,e⟩
 ·rename_i e
  simp only [Bool.and_eq_true] at h
  obtain rfl:=of_decide_eq_true h.1
  obtain ⟨n,h1⟩:=isT_ok h.2
  exact ⟨_,n,e,h1⟩
 ·rename_i e; exact ⟨_,e,fieldsB_ok h⟩
 ·rename_i e; exact ⟨_,e,fieldsB_ok h⟩
 ·cases h
theorem ttOK {P:Program} {T:Tab} (h:T.all (entB P T)=true) (Γ:FuncId→Arg→List SlotC→Option CallRes) (io:Nat) (Γp:FuncId→Arg→List SlotC→Option CallResP):TTok ⟨P,T.tt,Γ,io,Γp⟩:=by
 intro tid t n ht
 have mem:∀ {l:Tab},Tab.tt l tid=some (t,n)→(tid,t,n)∈l:=by
  intro l
  induction l with
  | nil=>intro h; cases h
  | cons c l ih =>
   intro h
   simp only [Tab.tt] at h
   cases hb:Nat.beq tid c.1 with
   | true =>
    rw [hb] at h
    have e:=Nat.eq_of_beq_eq_true hb
    obtain ⟨a,b⟩:=c
    simp only [cond_true,Option.some.injEq] at h e
    subst h; subst e
    simp
   | false=>rw [hb] at h; exact List.mem_cons_of_mem _ (ih h)
 have he:=(List.all_eq_true.1 h) _ (mem ht)
 simp only [entB,Bool.and_eq_true] at he
 obtain ⟨⟨h1,h2⟩,h3⟩:=he
 split at h3
 ·rename_i i hi
  simp only [Bool.and_eq_true] at h3
  obtain ⟨⟨h3,h4⟩,h5⟩:=h3
  split at h5
  ·rename_i z hz
   simp only [Bool.and_eq_true] at h5
   refine ⟨⟨i,z,hi,Nat.eq_of_beq_eq_true h3,Nat.eq_of_beq_eq_true h4,hz,cellsB_eq h5.1⟩,descB_ok h1,Nat.le_of_ble_eq_true h2,fun i' z' e1 e2 => ?_⟩
   rw [hi] at e1; obtain rfl:=Option.some.inj e1
   rw [hz] at e2; obtain rfl:=Option.some.inj e2
   exact aggB_val h5.2 (cellsB_eq h5.1)
  ·cases h5
 ·cases h3
theorem all_cons {α:Type _} {p:α→Prop} {a:α} {l:List α} (h:p a) (h2:∀ x∈l,p x):∀ x∈a :: l,p x:=fun x hx=>(List.mem_cons.1 hx).elim (fun e=>e ▸ h) (h2 x)
end Go.Proofs.YtibphkgcdnconaaGreat.V
namespace Go.Proofs.YtibphkgcdnconaaGreat.V
open Go Go.RowKit
set_option linter.unusedVariables false
set_option linter.all false
def Ty.plain:Ty→Bool
 | .bool | .int _ | .str | .unit=>true
 | .sl t=>t.plain && Nat.blt 0 t.size
 | .pair a b=>a.plain && b.plain
 | .ex .tree a b=>a.plain && b.plain
 | _=>false
def Wf:(t:Ty)→t.den→Prop
 | .bool,_=>True
 | .int k,n=>(Lit.int k n).wf=true
 | .str,s=>s.size≤140737488351232
 | .unit,_=>True
 | .sl t,xs=>xs.length≤140737488351232∧∀ x∈xs,Wf t x
 | .pair a b,x=>Wf a x.1∧Wf b x.2
 | .arr _ _,_=>True
 | .mp _ _,_=>True
 | .ex .tree a b,x=>RAll (fun v n=>Wf a v.1∧Wf b v.2∧n≤140737488351232) x
 | .ex _ _ _,_=>True
def Old (w:World):Bs:=fun b=>b<w.heap.size
def OpnAt (P:Program) (t:Ty) (tid:TypeId) (fuel:Nat):Prop :=
 ∀ {H:Type} {enc:TypeId × Value→H} {w:World} {sp:Nat→Bool} {hd:Bool} {cs:List Value} {x:DataW H × List MemPlace},
  DataW.trod enc P w 0 sp hd fuel tid cs=some x→(∀ n∈DataW.weights P tid x.1,n≤reachBytes)→∃ a:t.den,Rep (Old w) w t .im a none_ cs∧Wf t a
def OpnV (P:Program) (t:Ty) (tid:TypeId):Prop :=
 ∀ {H:Type} {enc:TypeId × Value→H} {w:World} {sp:Nat→Bool} {hd:Bool} {fuel:Nat} {cs:List Value} {x:DataW H × List MemPlace},
  DataW.trod enc P w 0 sp hd fuel tid cs=some x→(∀ n∈DataW.weights P tid x.1,n≤reachBytes)→∃ a:t.den,Rep (Old w) w t .im a none_ cs∧Wf t a
theorem opnV_int {P:Program} {t:TypeId} {k:IntKind} (hu:P.underlying t=some (.int k)):OpnV P (.int k) t:=by
 intro H enc w sp hd fuel cs x h _
 cases fuel with
 | zero=>simp [DataW.trod] at h
 | succ n =>
  suffices hh:∃ b,cs=[.int k b]∧(Lit.int k b).wf=true by
   obtain ⟨b,rfl,hb⟩:=hh
   exact ⟨b,rfl,hb⟩
  unfold DataW.trod at h
  rw [hu] at h
  split at h <;> simp_all
theorem opnV_bool {P:Program} {t:TypeId} (hu:P.underlying t=some .bool):OpnV P .bool t:=by
 intro H enc w sp hd fuel cs x h _
 cases fuel with
 | zero=>simp [DataW.trod] at h
 | succ n =>
  suffices hh:∃ b,cs=[.bool b] by
   obtain ⟨b,rfl⟩:=hh
   exact ⟨b,rfl,trivial⟩
  unfold DataW.trod at h
  rw [hu] at h
  split at h
  all_goals first
   | exact ⟨_,rfl⟩
   | simp_all
theorem opnV_str {P:Program} {t:TypeId} (hu:P.underlying t=some .string):OpnV P .str t:=by
 intro H enc w sp hd fuel cs x h hw
 cases fuel with
 | zero=>simp [DataW.trod] at h
 | succ n =>
  suffices hh:∃ b,cs=[.string b]∧x.1=.lit (.string b.data.toList) by
   obtain ⟨b,rfl,hx⟩:=hh
   refine ⟨b,rfl,?_⟩
   have:=hw b.data.toList.length (by rw [hx]; simp [DataW.weights])
   rw [Array.length_toList] at this
   have h2:reachBytes=140737488351232:=by decide
   show b.size≤_
   have h3:b.size=b.data.size:=rfl
   omega
  unfold DataW.trod at h
  rw [hu] at h
  split at h
  all_goals first
   | (simp only [Option.ite_none_right_eq_some,Option.some.injEq] at h; obtain ⟨_,rfl⟩:=h; exact ⟨_,rfl,rfl⟩)
   | simp_all
theorem cells_get {w:World} {a:Addr} {n:Nat} {c:List Value} (h:w.cells? 0 a n=some c):c.length=n∧∀ j,j<n→w.cell? (a.add j)=c[j]?:=by
 unfold World.cells? at h
 split at h
 ·have hl:∀ {l:List Nat} {r:List Value},l.mapM (fun i=>w.cell? (a.add i))=some r→r.length=l.length:=by
   intro l
   induction l with
   | nil=>intro r h; simp at h; subst h; rfl
   | cons x l ih =>
    intro r h
    rw [List.mapM_cons] at h
    obtain ⟨y,_,h⟩:=bind_some_ h
    obtain ⟨z,hz,h⟩:=bind_some_ h
    obtain rfl:=Option.some.inj h
    simp [ih hz]
  refine ⟨by rw [hl h,List.length_range],fun j hj=>mapM_some_get h j j (by rw [List.getElem?_range hj])⟩
 ·cases h
theorem opnAt_sl {P:Program} {t:Ty} {e tid:TypeId} {nb fuel:Nat} (hu:P.underlying tid=some (.slice e)) (hsz:P.cellsOf e=t.size) (hB:P.bytesOf e=nb) (hpos:0<t.size) (hnb:0<nb) (he:∀ n,n<fuel→OpnAt P t e n):OpnAt P (.sl t) tid fuel:=by
 intro H enc w sp hd cs x h hw
 rcases DataW.trod_slice hu h with ⟨rfl,rfl⟩ | ⟨a,len,cap,elems,rest,n,hfu,rfl,rfl,hb,hl,hm,hlen,hel,_,_⟩
 ·exact ⟨([]:List t.den),⟨none,0,rfl,Nat.le_refl _,.inl rfl⟩,Nat.zero_le _,fun x hx=>by cases hx⟩
 ·have hbd:(elems.length+rest.length)*nb≤reachBytes:=hw ((elems.length+rest.length)*nb) (by simp [DataW.weights,hu,hB])
  have hall:∀ i,i<len→∃ (a':t.den) (c:List Value),w.cells? 0 (a.add (i*t.size)) t.size=some c∧Rep (Old w) w t .im a' none_ c∧Wf t a':=by
   intro i hi
   have hx:=hel i hi
   obtain ⟨y,hy⟩:∃ y,elems[i]?=some y:=⟨elems[i]'(by omega),List.getElem?_eq_getElem (by omega)⟩
   rw [hy,hsz] at hx
   obtain ⟨c,hc1,hc2⟩:=Option.bind_eq_some_iff.1 hx
   have hmem:y∈elems:=List.mem_of_getElem? hy
   have hwy:∀ n∈DataW.weights P e y.1,n≤reachBytes:=by
    intro n hn
    refine hw n ?_
    simp only [DataW.weights,hu,List.mem_cons,List.mem_append]
    refine Or.inr (Or.inl ?_)
    have gen:∀ l:List (DataW H),y.1∈l→n∈DataW.weightsAll P e l:=by
     intro l hl'
     induction l with
     | nil=>cases hl'
     | cons z r ih =>
      simp only [DataW.weightsAll,List.mem_append]
      rcases List.mem_cons.1 hl' with h1 | h1
      ·rw [← h1]; exact Or.inl hn
      ·exact Or.inr (ih h1)
    exact gen _ (List.mem_map.2 ⟨y,hmem,rfl⟩)
   obtain ⟨a',hk,hwf⟩:=he n (by omega) hc2 hwy
   exact ⟨a',c,hc1,hk,hwf⟩
  have hch:∀ m,m≤len→∃ xs:List t.den,xs.length=m∧∀ i y,xs[i]?=some y→∃ c,w.cells? 0 (a.add (i*t.size)) t.size=some c∧Rep (Old w) w t .im y none_ c∧Wf t y:=by
   intro m
   induction m with
   | zero=>intro _; exact ⟨[],rfl,by simp⟩
   | succ m ih =>
    intro hm'
    obtain ⟨xs,hxl,hxs⟩:=ih (by omega)
    obtain ⟨y,c,h1,h2,h3⟩:=hall m (by omega)
    refine ⟨xs++[y],by simp [hxl],fun i z hz => ?_⟩
    rcases Nat.lt_or_ge i m with hi | hi
    ·rw [List.getElem?_append_left (by omega)] at hz
     exact hxs i z hz
    ·have:i=m:=by
      have:=(List.getElem?_eq_some_iff.1 hz).1
      simp at this; omega
     subst this
     rw [List.getElem?_append_right (by omega)] at hz
     simp [hxl] at hz
     subst hz
     exact ⟨c,h1,h2,h3⟩
  obtain ⟨xs,hxl,hxs⟩:=hch len (Nat.le_refl _)
  have hbound:xs.length≤140737488351232:=by
   have h2:reachBytes=140737488351232:=by decide
   have h3:xs.length≤(elems.length+rest.length)*nb:=Nat.le_trans (by omega) (Nat.le_mul_of_pos_right _ hnb)
   omega
  have hwfs:∀ x∈xs,Wf t x:=fun y hy=>by
   obtain ⟨i,hi⟩:=List.mem_iff_getElem?.1 hy
   obtain ⟨_,_,_,h3⟩:=hxs i y hi
   exact h3
  by_cases h0:xs=[]
  ·subst h0
   simp only [List.length_nil] at hxl
   subst hxl
   exact ⟨([]:List t.den),⟨some a,cap,rfl,Nat.zero_le _,.inl rfl⟩,hbound,hwfs⟩
  ·have hlen0:0<xs.length:=List.length_pos_iff.2 h0
   have first:∃ v,w.cell? a=some v:=by
    obtain ⟨c,h1,_⟩:=hxs 0 _ (List.getElem?_eq_getElem hlen0)
    obtain ⟨g1,g2⟩:=cells_get h1
    have:=g2 0 hpos
    have hadd:(a.add (0*t.size)).add 0=a:=by simp [Addr.add]
    rw [hadd,List.getElem?_eq_getElem (by omega)] at this
    exact ⟨_,this⟩
   obtain ⟨b,o,spot⟩:=a
   obtain ⟨v0,hv0⟩:=first
   have hs0:spot=none∧b<w.heap.size:=by
    unfold World.cell? at hv0
    split at hv0
    ·rename_i c _ _ hc
     cases spot with
     | none =>
      refine ⟨rfl,?_⟩
      rcases Nat.lt_or_ge b w.heap.size with h | h
      ·exact h
      ·rw [Array.getElem?_eq_none h] at hc; cases hc
     | some s=>simp at hv0
    ·cases hv0
   obtain ⟨rfl,hblt⟩:=hs0
   have hc:∀ i,∃ c:List Value,∀ y,xs[i]?=some y→w.cells? 0 ((⟨b,o,none⟩:Addr).add (i*t.size)) t.size=some c∧Rep (Old w) w t .im y none_ c:=fun i=>by
    cases hy:xs[i]? with
    | none=>exact ⟨[],fun y h=>by cases h⟩
    | some y =>
     obtain ⟨c,h1,h2,_⟩:=hxs i y hy
     exact ⟨c,fun z hz=>by obtain rfl:=Option.some.inj hz; exact ⟨h1,h2⟩⟩
   obtain ⟨css,hcss⟩:=Classical.axiomOfChoice hc
   refine ⟨xs,⟨some ⟨b,o,none⟩,cap,by rw [hxl],by omega,.inr ⟨b,o,rfl,hblt,fun _=>none_,css,fun i y hy => ?_,fun i j k hk=>hk.elim⟩⟩,hbound,hwfs⟩
   obtain ⟨h1,h2⟩:=hcss i y hy
   obtain ⟨g1,g2⟩:=cells_get h1
   refine ⟨h2,g1,fun j hj => ?_,fun k hk=>hk.elim⟩
   rw [← g2 j hj,add_none,add_none]
theorem TyOK.cells {E:Env} {tid:TypeId} {t:Ty} {n:Nat} (h:TyOK E tid t n):E.P.cellsOf tid=t.size∧E.P.bytesOf tid=n:=by
 obtain ⟨i,z,h1,h2,h3,_⟩:=h.info
 simp [Program.cellsOf,Program.bytesOf,h1,h2,h3]
def OpnF (P:Program) (t:Ty) (fs:List Field) (off fuel:Nat):Prop :=
 ∀ {H:Type} {enc:TypeId × Value→H} {w:World} {sp:Nat→Bool} {hd:Bool} {cs:List Value} {xs:List (DataW H × List MemPlace)},
  off+t.size≤cs.length→xs.length=fs.length →
  (∀ (i:Nat) (f:Field),fs[i]?=some f→DataW.trod enc P w 0 sp hd fuel f.type ((cs.drop f.offset).take (P.cellsOf f.type))=xs[i]?) →
  (∀ n∈DataW.weightsEach P (fs.map (·.type)) (xs.map (·.1)),n≤reachBytes)→∃ a:t.den,Rep (Old w) w t .im a none_ ((cs.drop off).take t.size)∧Wf t a
theorem take_parts {α:Type} (cs:List α) (off m n:Nat):(cs.drop off).take (m+n)=(cs.drop off).take m++(cs.drop (off+m)).take n:=by
 rw [List.take_add,List.drop_drop]
theorem opnF_pair {E:Env} (hT:TTok E) {a b:Ty} {f:Field} {fs:List Field} {off N:Nat} (hf:Fields E.tt (f :: fs) (.pair a b) off) (ha:OpnAt E.P a f.type N) (hb:OpnF E.P b fs (off+a.size) N):OpnF E.P (.pair a b) (f :: fs) off N:=by
 obtain ⟨ho,⟨n,hn⟩,hfs⟩:=hf
 intro H enc w sp hd cs xs hl hxl hfi hw
 have hTa:=hT _ _ _ hn
 cases xs with
 | nil=>simp at hxl
 | cons y r =>
  have h0:=hfi 0 f rfl
  simp only [List.getElem?_cons_zero] at h0
  rw [ho,hTa.cells.1] at h0
  have hl':off+(a.size+b.size)≤cs.length:=hl
  obtain ⟨x1,r1,w1⟩:=ha h0 (fun n hn=>hw n (by simp only [List.map_cons,DataW.weightsEach,List.mem_append]; exact Or.inl hn))
  obtain ⟨x2,r2,w2⟩:=hb (cs:=cs) (xs:=r) (enc:=enc) (sp:=sp) (hd:=hd) (w:=w) (by omega) (by simpa using hxl) (fun i g hg=>by
   have:=hfi (i+1) g (by simpa using hg)
   simpa using this) (fun n hn=>hw n (by simp only [List.map_cons,DataW.weightsEach,List.mem_append]; exact Or.inr hn))
  exact ⟨(x1,x2),⟨_,_,none_,none_,take_parts cs off a.size b.size,r1,r2,fun _ h=>h,fun _ h=>h,fun _ h=>h.elim⟩,w1,w2⟩
theorem opnF_unit {P:Program} {fs:List Field} {off N:Nat}:OpnF P .unit fs off N:=by
 intro H enc w sp hd cs xs _ _ _ _
 exact ⟨(),List.take_zero,trivial⟩
theorem opnAt_struct {E:Env} {t:Ty} {tid:TypeId} {N:Nat} (hs:∃ fs,E.P.underlying tid=some (.struct fs)∧Fields E.tt fs.toList t 0) (hc:E.P.cellsOf tid=t.size) (hF:∀ {fs:List Field} {off:Nat},Fields E.tt fs t off→∀ n,n<N→OpnF E.P t fs off n):OpnAt E.P t tid N:=by
 obtain ⟨fs,hu,hf⟩:=hs
 intro H enc w sp hd cs x hx hw
 obtain ⟨xs,n,hn,rfl,hl,hxl,hfs⟩:=DataW.trod_struct hu hx
 have:=hF hf n (by omega) (cs:=cs) (xs:=xs) (enc:=enc) (sp:=sp) (hd:=hd) (w:=w) (by rw [hl,hc]; omega) (by rw [hxl]; simp) (fun i f hi=>hfs i f (by simpa using hi)) (fun n hn=>hw n (by
  simp only [DataW.weights,hu]
  exact hn))
 rw [List.drop_zero,List.take_of_length_le (by rw [hl,hc]; exact Nat.le_refl _)] at this
 exact this
theorem fields_ins {tt:TypeId→Option (Ty × Nat)}:∀ {a r:Ty},isChain a=true→∀ {fs:List Field} {off:Nat},Fields tt fs (ins a r) off→∃ f1 f2,fs=f1++f2∧Fields tt f1 a off∧Fields tt f2 r (off+a.size)
 | .pair x b,r,h,[],_,hf=>hf.elim
 | .pair x b,r,h,f :: fs,off,⟨h1,h2,h3⟩=>by
  obtain ⟨f1,f2,e,g1,g2⟩:=fields_ins (a:=b) (r:=r) h h3
  exact ⟨f :: f1,f2,by rw [e]; rfl,⟨h1,h2,g1⟩,by rw [show off+(Ty.pair x b).size=off+x.size+b.size from (Nat.add_assoc _ _ _).symm]; exact g2⟩
 | .unit,r,_,fs,off,hf=>⟨[],fs,rfl,trivial,hf⟩
 | .bool,_,h,_,_,_ | .int _,_,h,_,_,_ | .str,_,h,_,_,_ | .arr _ _,_,h,_,_,_ | .sl _,_,h,_,_,_ | .mp _ _,_,h,_,_,_ | .ex _ _ _,_,h,_,_,_=>by cases h
theorem weightsEach_app {H:Type} {P:Program}:∀ {l1 l2:List TypeId} {d1 d2:List (DataW H)},l1.length=d1.length→∀ n,(n∈DataW.weightsEach P l1 d1∨n∈DataW.weightsEach P l2 d2)→n∈DataW.weightsEach P (l1++l2) (d1++d2)
 | [],l2,[],d2,_,n,h=>h.elim (fun h=>by simp [DataW.weightsEach] at h) id
 | [],_,_ :: _,_,h,_,_=>by simp at h
 | _ :: _,_,[],_,h,_,_=>by simp at h
 | t :: l1,l2,d :: d1,d2,hl,n,h=>by
  simp only [List.cons_append,DataW.weightsEach,List.mem_append] at h ⊢
  have ih:=weightsEach_app (P:=P) (l1:=l1) (l2:=l2) (d1:=d1) (d2:=d2) (by simpa using hl) n
  rcases h with (h | h) | h
  ·exact .inl h
  ·exact .inr (ih (.inl h))
  ·exact .inr (ih (.inr h))
theorem opnF_ins {E:Env} {a r:Ty} (hc:isChain a=true) {fs:List Field} {off N:Nat} (hf:Fields E.tt fs (ins a r) off) (ha:∀ {fs:List Field} {off:Nat},Fields E.tt fs a off→OpnF E.P a fs off N) (hr:∀ {fs:List Field} {off:Nat},Fields E.tt fs r off→OpnF E.P r fs off N) :
 ∀ {H:Type} {enc:TypeId × Value→H} {w:World} {sp:Nat→Bool} {hd:Bool} {cs:List Value} {xs:List (DataW H × List MemPlace)},
 off+(ins a r).size≤cs.length→xs.length=fs.length →
 (∀ (i:Nat) (f:Field),fs[i]?=some f→DataW.trod enc E.P w 0 sp hd N f.type ((cs.drop f.offset).take (E.P.cellsOf f.type))=xs[i]?) →
 (∀ n∈DataW.weightsEach E.P (fs.map (·.type)) (xs.map (·.1)),n≤reachBytes)→∃ (v:a.den) (y:r.den),Rep (Old w) w (ins a r) .im (insV a v y) none_ ((cs.drop off).take (ins a r).size)∧Wf a v∧Wf r y:=by
 obtain ⟨f1,f2,rfl,h1,h2⟩:=fields_ins hc hf
 intro H enc w sp hd cs xs hl hxl hfi hw
 rw [(ins_cells r hc).2] at hl ⊢
 rw [List.length_append] at hxl
 have hx:xs=xs.take f1.length++xs.drop f1.length:=(List.take_append_drop _ _).symm
 have hl1:(xs.take f1.length).length=f1.length:=by rw [List.length_take]; omega
 obtain ⟨v,r1,w1⟩:=ha h1 (cs:=cs) (xs:=xs.take f1.length) (enc:=enc) (sp:=sp) (hd:=hd) (w:=w) (by omega) hl1 (fun i f hi=>by
  have hlt:=(List.getElem?_eq_some_iff.1 hi).1
  rw [hfi i f (by rw [List.getElem?_append_left hlt]; exact hi),List.getElem?_take_of_lt hlt]) (fun n hn=>hw n (by
   rw [hx,List.map_append,List.map_append]
   exact weightsEach_app (by rw [List.length_map,List.length_map,hl1]) n (.inl hn)))
 obtain ⟨y,r2,w2⟩:=hr h2 (cs:=cs) (xs:=xs.drop f1.length) (enc:=enc) (sp:=sp) (hd:=hd) (w:=w) (by omega) (by rw [List.length_drop]; omega) (fun i f hi=>by
  rw [hfi (f1.length+i) f (by rw [List.getElem?_append_right (by omega),Nat.add_sub_cancel_left]; exact hi),List.getElem?_drop]) (fun n hn=>hw n (by
   rw [hx,List.map_append,List.map_append]
   exact weightsEach_app (by rw [List.length_map,List.length_map,hl1]) n (.inr hn)))
 exact ⟨v,y,(rep_ins hc).2 ⟨_,_,take_parts cs off a.size r.size,r1,r2⟩,w1,w2⟩
theorem outV_ins:∀ {a r:Ty},isChain a=true→∀ (v:a.den) (y:r.den),outV a (insV a v y)=(v,y)
 | .pair x b,r,h,v,y=>by
  have:=outV_ins (a:=b) (r:=r) h v.2 y
  show ((v.1,(outV b (insV b v.2 y)).1),(outV b (insV b v.2 y)).2)=(v,y)
  rw [this]
 | .unit,_,_,_,_=>rfl
 | .bool,_,h,_,_ | .int _,_,h,_,_ | .str,_,h,_,_ | .arr _ _,_,h,_,_ | .sl _,_,h,_,_ | .mp _ _,_,h,_,_ | .ex _ _ _,_,h,_,_=>by cases h
theorem opn_ty_ {E:Env} (hT:TTok E) (hpos:∀ tid t n,E.tt tid=some (t,n)→0<t.size→0<n):∀ (t:Ty),t.plain=true→(∀ {tid:TypeId} {nb:Nat},TyOK E tid t nb→∀ N,OpnAt E.P t tid N)∧(∀ {fs:List Field} {off:Nat},Fields E.tt fs t off→∀ N,OpnF E.P t fs off N):=by
 intro t
 induction t with
 | bool=>intro _; exact ⟨fun h N=>fun {H enc w sp hd cs x} hx hw=>opnV_bool h.desc hx hw,fun {fs off} h=>by cases fs <;> cases h⟩
 | int k=>intro _; exact ⟨fun h N=>fun {H enc w sp hd cs x} hx hw=>opnV_int h.desc hx hw,fun {fs off} h=>by cases fs <;> cases h⟩
 | str=>intro _; exact ⟨fun h N=>fun {H enc w sp hd cs x} hx hw=>opnV_str h.desc hx hw,fun {fs off} h=>by cases fs <;> cases h⟩
 | unit=>intro _; exact ⟨fun h N=>opnAt_struct h.desc h.cells.1 (fun _ _ _=>opnF_unit),fun _ N=>opnF_unit⟩
 | pair a b ih1 ih2 =>
  intro hp
  simp only [Ty.plain,Bool.and_eq_true] at hp
  have hB:∀ {fs:List Field} {off:Nat},Fields E.tt fs (.pair a b) off→∀ N,OpnF E.P (.pair a b) fs off N:=by
   intro fs off hf N
   cases fs with
   | nil=>exact hf.elim
   | cons f fs =>
    obtain ⟨n,hn⟩:=hf.2.1
    exact opnF_pair hT hf ((ih1 hp.1).1 (hT _ _ _ hn) N) ((ih2 hp.2).2 hf.2.2 N)
  exact ⟨fun h N=>opnAt_struct h.desc h.cells.1 (fun hf n _=>hB hf n),hB⟩
 | sl t ih =>
  intro hp
  simp only [Ty.plain,Bool.and_eq_true] at hp
  refine ⟨fun {tid nb} h N => ?_,fun {fs off} h=>by cases fs <;> cases h⟩
  obtain ⟨e,n,hu,hn⟩:=h.desc
  have hTe:=hT _ _ _ hn
  have hsz:0<t.size:=Nat.lt_of_succ_le (Nat.le_of_ble_eq_true hp.2)
  exact @opnAt_sl _ _ _ _ _ _ hu hTe.cells.1 hTe.cells.2 hsz (hpos _ _ _ hn hsz) (fun n _=>(ih hp.1).1 hTe n)
 | arr n t _=>intro hp; cases hp
 | mp k v _ _=>intro hp; cases hp
 | ex k a b ih1 ih2 =>
  intro hp
  cases k with
  | ptr=>cases hp
  | ifc i j=>cases hp
  | fn0 f g=>cases hp
  | fn1 f=>cases hp
  | cell=>cases hp
  | tree =>
   simp only [Ty.plain,Bool.and_eq_true] at hp
   refine ⟨fun {tid nb} h N => ?_,fun {fs off} h=>by cases fs <;> cases h⟩
   induction N using Nat.strongRecOn generalizing tid nb with
   | ind N ihN =>
    obtain ⟨hc,fs,hu,hf⟩:=h.desc
    intro H enc w sp hd cs x hx hw
    obtain ⟨xs,n,hn,rfl,hl,hxl,hfs⟩:=DataW.trod_struct hu hx
    have hun:=un_cells (b:=b) hc
    have hr:∀ {fs:List Field} {off:Nat},Fields E.tt fs (.pair (.sl (.ex .tree a b)) b) off→OpnF E.P (.pair (.sl (.ex .tree a b)) b) fs off n:=by
     intro fs off hf
     cases fs with
     | nil=>exact hf.elim
     | cons f fs =>
      obtain ⟨m,hm⟩:=hf.2.1
      refine opnF_pair hT hf ?_ ((ih2 hp.2).2 hf.2.2 n)
      obtain ⟨e,k,hue,hne⟩:=(hT _ _ _ hm).desc
      have hTe:=hT _ _ _ hne
      have hsz:0<(Ty.ex .tree a b).size:=by simp only [Ty.size]; omega
      exact @opnAt_sl _ _ _ _ _ _ hue hTe.cells.1 hTe.cells.2 hsz (hpos _ _ _ hne hsz) (fun n' hn'=>ihN n' (by omega) hTe)
    obtain ⟨v,y,h1,w1,w2,w3⟩:=opnF_ins (r:=.pair (.sl (.ex .tree a b)) b) hc hf (fun hf=>(ih1 hp.1).2 hf n) hr (cs:=cs) (xs:=xs) (enc:=enc) (sp:=sp) (hd:=hd) (w:=w) (by rw [hl,h.cells.1,Nat.zero_add]; exact Nat.le_of_eq hun.2.1) (by rw [hxl]; simp) (fun i f hi=>hfs i f (by simpa using hi)) (fun n hn=>hw n (by
     simp only [DataW.weights,hu]
     exact hn))
    rw [List.drop_zero,List.take_of_length_le (by rw [hl,h.cells.1]; exact Nat.le_of_eq hun.2.1.symm)] at h1
    refine ⟨foV a b (insV a v y),fo_rep hc h1,?_⟩
    unfold foV
    rw [outV_ins hc]
    exact RAll.mk ⟨w1,w3,w2.1⟩ w2.2
theorem opn_ty {E:Env} (hT:TTok E) (hpos:∀ tid t n,E.tt tid=some (t,n)→0<t.size→0<n) (t:Ty) (hp:t.plain=true):(∀ {tid:TypeId} {nb:Nat},TyOK E tid t nb→OpnV E.P t tid) :=
 fun {tid nb} h {H enc w sp hd fuel cs x} hx hw=>(opn_ty_ hT hpos t hp).1 h fuel hx hw
end Go.Proofs.YtibphkgcdnconaaGreat.V
namespace Go.Proofs.YtibphkgcdnconaaGreat.V
open Go Go.RowKit
set_option linter.unusedVariables false
set_option linter.all false
theorem law_calls {P:Program} {f:FuncId} {as:List MS} {M:denT (denIO []) (shp as 0)→Option (outD (Ty.den (.pair .bool .unit)) [])} (ok:(FS.mk f as [] [] (.pair .bool .unit) .im M).OK P) {arg:Arg} {d:denT (denIO []) (shp as 0)} (ha:raL (S:=denIO []) () as 0 arg=some d)
 (hM:M d=some ((true,()):Ty.den (.pair .bool .unit))) {W:World} {vs:List Value} (hA:RepA (Old W) W 0 (fun _=>undef) arg vs):Calls P f vs.toArray W fun e W'=>e=.returned (.bool true)∧Below W.heap.size W W':=by
 obtain ⟨_,h⟩:=ok arg [] ⟨outD (Ty.den (.pair .bool .unit)) [],M d,.pair .bool .unit,.im,out1 [],fun r=>wrIO [] 0 (out2 [] r)++List.replicate 0 none⟩ (by
  have e:∀ o:Option (denT (denIO []) (shp as 0)),o=some d→(match o with
   | some d=>some (CallRes.mk (outD (Ty.den (.pair .bool .unit)) []) (M d) (.pair .bool .unit) .im (out1 []) (fun r=>wrIO [] 0 (out2 [] r)++List.replicate 0 none))
   | none=>none)=some ⟨outD (Ty.den (.pair .bool .unit)) [],M d,.pair .bool .unit,.im,out1 [],fun r=>wrIO [] 0 (out2 [] r)++List.replicate 0 none⟩:=fun o ho=>by rw [ho]
  exact Eq.trans (by kernel_rfl) (e _ ha))
 refine (h ((true,()):Ty.den (.pair .bool .unit)) hM (Old W) W (fun _=>undef) (fun _=>none_) vs ⟨fun k hv cv c h=>by simp [ioSl] at h,fun k hv cv c h=>by simp [ioSl] at h,fun k k' b h=>h.elim,fun k b h=>h.elim,fun _ h=>h,fun k b h=>h.elim⟩ (fun k b h=>h.elim) hA).mono fun e W' ⟨Z',fp',F,us,Q⟩=>⟨?_,Q.os,Q.tape,Q.output,Q.size,fun b hb=>Q.old b hb (fun k h=>h)⟩
 obtain ⟨v,vs',f1,f2,e1,⟨cs,r1,e2⟩,r2,_⟩:=Q.rep
 rw [Q.ret,e1,show vs'=[] from r2,e2,show cs=[.bool true] from r1]
 rfl
theorem arg_agg {P:Program} {t:Ty} {tid:TypeId} (ho:OpnV P t tid) {H:Type} {enc:TypeId × Value→H} {w:World} {sp:Nat→Bool} {hd:Bool} {fuel:Nat} {v:Value} {x:DataW H × List MemPlace}
 (h:DataW.trod enc P w 0 sp hd fuel tid v.cells.toList=some x) (hw:∀ n∈DataW.weights P tid x.1,n≤reachBytes) (hv:v=t.val v.cells.toList):∃ a:t.den,RepA (Old w) w 0 (fun _=>undef) (.dyn t a) [v]∧Wf t a:=by
 obtain ⟨a,h1,h2⟩:=ho h hw
 exact ⟨a,⟨_,h1,by rw [← hv]⟩,h2⟩
theorem repA_cons {Z:Bs} {w:World} {n:Nat} {hd:Nat→Value} {x y:Arg} {v:Value} {vs:List Value} (h1:RepA Z w n hd x [v]) (h2:RepA Z w n hd y vs):RepA Z w n hd (.tc x y) (v :: vs):=⟨v,vs,rfl,h1,h2⟩
theorem repA_nil {Z:Bs} {w:World} {n:Nat} {hd:Nat→Value}:RepA Z w n hd .tn []:=rfl
theorem tab_mem {tid:TypeId} {t:Ty} {n:Nat}:∀ {l:Tab},Tab.tt l tid=some (t,n)→(tid,t,n)∈l
 | [],h=>by cases h
 | c :: l,h=>by
  simp only [Tab.tt] at h
  cases hb:Nat.beq tid c.1 with
  | true =>
   rw [hb] at h
   have e:=Nat.eq_of_beq_eq_true hb
   obtain ⟨a,b⟩:=c
   obtain rfl:=Option.some.inj h
   subst e
   exact List.mem_cons_self
  | false =>
   rw [hb] at h
   exact List.mem_cons_of_mem _ (tab_mem h)
theorem tab_pos {T:Tab} (h:T.all (fun e=>Nat.blt 0 e.2.2 || Nat.beq e.2.1.size 0)=true):∀ tid t n,Tab.tt T tid=some (t,n)→0<t.size→0<n:=fun tid t n he hs=>by
 have h1:=List.all_eq_true.1 h _ (tab_mem he)
 simp only [Bool.or_eq_true] at h1
 rcases h1 with h1 | h1
 ·exact Nat.lt_of_succ_le (Nat.le_of_ble_eq_true h1)
 ·have:=Nat.eq_of_beq_eq_true h1
  omega
theorem tab_opn {P:Program} {T:Tab} (h:T.all (entB P T)=true) (hp:∀ tid t n,Tab.tt T tid=some (t,n)→0<t.size→0<n) {t:Ty} {tid:TypeId} {nb:Nat} (hl:t.plain=true) (he:Tab.tt T tid=some (t,nb)):OpnV P t tid :=
 opn_ty (E:=⟨P,T.tt,fun _ _ _=>none,0,fun _ _ _=>none⟩) (ttOK h _ _ _) hp t hl (ttOK h _ _ _ _ _ _ he)
end Go.Proofs.YtibphkgcdnconaaGreat.V
