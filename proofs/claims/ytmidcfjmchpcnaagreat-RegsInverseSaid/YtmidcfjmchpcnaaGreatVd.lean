/- The machine over typed values,part 4. -/
import Derived.Test.YtmidcfjmchpcnaaGreatVc
import Derived.Recover
import Derived.SizedLaws
import Derived.ChangeArms
import Derived.ChangeSlices
import Derived.Below
import Derived.KernelRfl
import Derived.Carry
namespace Go.Proofs.YtmidcfjmchpcnaaGreat.V
open Go
set_option linter.unusedVariables false
set_option linter.all false
abbrev RV:=Tmp × Option TypeId
def RV.to:RV→ResultVar
 | (t,none)=>.tmp t
 | (t,some e)=>.cell t e
def resOf (E:Env) (look:Nat→Option Slot) (tm:Nat→MV) (r:RV):Option MV :=
 match r.2 with
 | none=>some (tm r.1)
 | some e=>match deref look (tm r.1) with
  | .adr s hv cv p t x=>bif tyB2 E e t then loadMV look (.adr s hv cv p t x) else none
  | _=>none
def takeP (look:Nat→Option Slot) (t:Ty) (m:Mk) (mv:MV):Option (t.den × Ups) :=
 match t with
 | .ex .ptr a b=>match deref look mv with
  | .iadr t' x=>if h:t'=a then some ((some (h ▸ x):Option a.den),[]) else none
  | .adr s hv cv p t' x=>match look s with
   | some S=>match lookC look s hv cv with
    | some _=>if h:t'=a then some ((some (h ▸ x):Option a.den),[(s,frozen_ S)]) else none
    | none=>none
   | none=>none
  | _=>takeX look (.ex .ptr a b) m mv
 | t=>takeX look t m mv
theorem takeP_cases {w:World} {hdr:Nat→Value} {t:Ty} {m:Mk} {Z:Bs} {sl:Nat→Option Slot} {fp:Nat→Bs} {u:MV} {x:t.den} {us:Ups} (h:takeP sl t m u=some (x,us)) (hn:u≠.dead):takeX sl t m u=some (x,us)∨(t.agg=false∧u.agg=false∧u.isL=false∧∀ {cs:List Value},HR Z w sl hdr fp→RelC Z w sl hdr fp u cs→∃ Z' fp',Took Z w sl hdr fp us Z' fp' t m x none_ cs):=by
 unfold takeP at h
 split at h
 ·rename_i a b
  have kinds:∀ v,deref sl u=v→(∀ t x,v≠.val t x)→(∃ t x,v=.iadr t x)∨(∃ s hv cv p t x,v=.adr s hv cv p t x)→u.agg=false∧u.isL=false:=by
   intro v hv _ hk
   cases u with
   | ptr s hv t=>exact ⟨rfl,rfl⟩
   | iadr t x=>exact ⟨rfl,rfl⟩
   | adr=>exact ⟨rfl,rfl⟩
   | _=>rw [← hv] at hk; rcases hk with ⟨_,_,h⟩ | ⟨_,_,_,_,_,_,h⟩ <;> cases h
  split at h
  ·rename_i t' y hd
   split at h
   ·rename_i e; subst e
    simp only [Option.some.injEq,Prod.mk.injEq] at h
    obtain ⟨rfl,rfl⟩:=h
    obtain ⟨k1,k2⟩:=kinds _ hd (by intro _ _ h; cases h) (.inl ⟨_,_,rfl⟩)
    refine .inr ⟨rfl,k1,k2,fun {cs} H hr => ?_⟩
    rcases deref_ok H hr with h0 | ⟨q1,q2⟩
    ·rw [hd] at h0; cases h0
    ·rw [hd] at q1
     obtain ⟨b0,o0,ks,e,h1,h2,h3⟩:=q1
     exact ⟨Z,fp,took_none H (.inr ⟨_,b0,o0,ks,rfl,e,h1,h2,h3⟩)⟩
   ·cases h
  ·rename_i s hv cv p t' y hd
   split at h
   ·rename_i S hS
    split at h
    ·rename_i c hl
     split at h
     ·rename_i e; subst e
      simp only [Option.some.injEq,Prod.mk.injEq] at h
      obtain ⟨rfl,rfl⟩:=h
      obtain ⟨k1,k2⟩:=kinds _ hd (by intro _ _ h; cases h) (.inr ⟨_,_,_,_,_,_,rfl⟩)
      refine .inr ⟨rfl,k1,k2,fun {cs} H hr => ?_⟩
      rcases deref_ok H hr with h0 | ⟨q1,q2⟩
      ·rw [hd] at h0; cases h0
      ·rw [hd] at q1
       have e2:=lookC_some hl
       obtain ⟨_,S1,h1,_,h3⟩:=q1
       rw [e2] at h1; obtain rfl:=Option.some.inj h1
       obtain ⟨b0,o0,ks,hcs,h4,h5,_,⟨m0,f,h6,h7,_⟩,_⟩:=(h3 rfl).2 rfl c rfl
       have hS':some S=some _:=hS.symm.trans e2
       obtain rfl:=Option.some.inj hS'
       have K:=took_freeze (t:=.unit) (m:=.im) (x:=()) (F:=none_) (cs:=[]) (m0:=.im) H hS rfl (fun b hb=>hb.elim) rfl rfl
       exact ⟨_,_,K.hr,K.tr,.inr ⟨_,b0,o0,ks,rfl,hcs,h4,h5.elim .inr .inl,h6.freeze (fun b hb=>hb.imp id (h7 b))⟩,K.hand,K.kept,K.back⟩
     ·cases h
    ·cases h
   ·cases h
  ·exact .inl h
 ·exact .inl h
theorem takeP_dead {sl:Nat→Option Slot} {t:Ty} {m:Mk} {x:t.den} {us:Ups} (h:takeP sl t m .dead=some (x,us)):False:=by
 unfold takeP at h
 split at h
 ·exact takeX_dead h
 ·exact takeX_dead h
theorem takeP_sound {w:World} {hdr:Nat→Value} {t:Ty} {m:Mk} {Z:Bs} {sl:Nat→Option Slot} {fp:Nat→Bs} {u:MV} {x:t.den} {us:Ups} {cs:List Value} (h:takeP sl t m u=some (x,us)) (H:HR Z w sl hdr fp) (hr:RelC Z w sl hdr fp u cs):∃ Z' fp' F,Took Z w sl hdr fp us Z' fp' t m x F cs:=by
 by_cases hn:u=.dead
 ·subst hn; exact (takeP_dead h).elim
 ·rcases takeP_cases (w:=w) (hdr:=hdr) (Z:=Z) (fp:=fp) h hn with h | ⟨_,_,_,h⟩
  ·exact takeX_sound h H hr
  ·obtain ⟨Z',fp',K⟩:=h H hr
   exact ⟨Z',fp',none_,K⟩
theorem takeP_agg {t:Ty} {m:Mk} {sl:Nat→Option Slot} {u:MV} {x:t.den} {us:Ups} (h:takeP sl t m u=some (x,us)):u.agg=t.agg∧u.isL=false:=by
 by_cases hn:u=.dead
 ·subst hn; exact (takeP_dead h).elim
 ·rcases takeP_cases (w:=default) (hdr:=fun _=>undef) (Z:=none_) (fp:=fun _=>none_) h hn with h | ⟨h1,h2,h3,_⟩
  ·exact takeX_agg h
  ·exact ⟨h2.trans h1.symm,h3⟩
def takeC (look:Nat→Option Slot):(a:Ty)→Mk→MV→Option (a.den × Ups)
 | .ex .cell t _,m,mv=>match mv with
  | .ptr s hv _=>match lookH look s hv with
   | some _=>match takeP look (.sl t) (.ow m) (.root s hv) with
    | some (l,us)=>match (l:List t.den) with
     | [x]=>some (x,us)
     | _=>none
    | none=>none
   | none=>none
  | _=>none
 | a,m,mv=>takeP look a m mv
theorem takeC_sound {w:World} {hdr:Nat→Value} {t:Ty} {m:Mk} {Z:Bs} {sl:Nat→Option Slot} {fp:Nat→Bs} {u:MV} {x:t.den} {us:Ups} {v:Value} (h:takeC sl t m u=some (x,us)) (H:HR Z w sl hdr fp) (hr:RelV Z w sl hdr fp u v) :
 ∃ Z' fp' F t' m' x' cs',Took Z w sl hdr fp us Z' fp' t' m' x' F cs'∧RepC Z' w t m x F v:=by
 have leaf:(∀ a b,t≠.ex .cell a b)→takeP sl t m u=some (x,us)→∃ Z' fp' F t' m' x' cs',Took Z w sl hdr fp us Z' fp' t' m' x' F cs'∧RepC Z' w t m x F v:=fun hc h=>by
  rcases hr with h0 | ⟨cs,h1,h2⟩
  ·rw [h0] at h; exact (takeP_dead h).elim
  ·obtain ⟨Z1,fp1,F1,K⟩:=takeP_sound h H h1
   obtain ⟨g1,g2⟩:=takeP_agg h
   refine ⟨Z1,fp1,F1,_,_,_,_,K,?_⟩
   have:∃ cs,Rep Z1 w t m x F1 cs∧v=t.val cs:=⟨cs,K.rep,by rw [h2,out_val g1 g2]⟩
   cases t with
   | ex k a b =>
    cases k with
    | cell=>exact absurd rfl (hc a b)
    | _=>exact this
   | _=>exact this
 cases t with
 | ex k a b =>
  cases k with
  | cell =>
   have h:(match (generalizing:=false) u with
    | .ptr s hv _=>match lookH sl s hv with
     | some _=>match takeP sl (.sl a) (.ow m) (.root s hv) with
      | some (l,us)=>match (l:List a.den) with
       | [x]=>some (x,us)
       | _=>none
      | none=>none
     | none=>none
    | _=>none)=some (x,us):=h
   split at h
   ·rename_i s hv t0 _
    split at h
    ·rename_i lk hlk
     split at h
     ·rename_i l us' e
      split at h
      ·rename_i y
       simp only [Option.some.injEq,Prod.mk.injEq] at h
       obtain ⟨rfl,rfl⟩:=h
       rcases hr with h0 | ⟨cs,h1,h2⟩
       ·cases h0
       ·obtain ⟨_,S,g1,g2,g3⟩:=h1
        obtain ⟨cv,c⟩:=lk
        have hs:=lookH_some hlk
        rw [hs] at g1
        obtain rfl:=Option.some.inj g1
        obtain ⟨b',o,l,cap,q1,q2⟩:=g3 rfl c rfl
        have hroot:RelC Z w sl hdr fp (.root s hv) [hdr s]:=⟨one_cells (by rw [q1]; rfl),_,hs,Nat.le_refl _,fun _ _ _=>rfl⟩
        obtain ⟨Z1,fp1,F1,K⟩:=takeP_sound e H hroot
        refine ⟨Z1,fp1,F1,_,_,_,_,K,b',o,l,cap,?_,?_⟩
        ·rw [h2,q2]; rfl
        ·have:=K.rep
         rw [q1] at this
         exact this
      ·cases h
     ·cases h
    ·cases h
   ·cases h
  | _=>exact leaf (fun _ _ e=>by cases e) h
 | _=>exact leaf (fun _ _ e=>by cases e) h
def retTake (E:Env) (tm:Nat→MV):(t:Ty)→Mk→(Nat→Option Slot)→List RV→Option (t.den × (Nat→Option Slot))
 | .pair a b,m,look,r :: rs=>match resOf E look tm r with
  | some mv=>match takeC look a m.l mv with
   | some (x,us)=>match retTake E tm b m.r (us.look look) rs with
    | some (y,lk)=>some ((x,y),lk)
    | none=>none
   | none=>none
  | none=>none
 | .unit,_,look,[]=>some ((),look)
 | _,_,_,_=>none
abbrev IO:=List (Bool × Ty × Mk)
def shpS:IO→Nat→List (Nat × Bool × Ty × Mk)
 | [],_=>[]
 | c :: l,i=>(i,c) :: shpS l (i+1)
abbrev denIO (io:IO):Type:=denS (shpS io 0)
def outD (T:Type):IO→Type
 | []=>T
 | c :: l=>T × denIO (c :: l)
def out1 {T:Type}:(io:IO)→outD T io→T
 | [],x=>x
 | _ :: _,x=>x.1
def out2 {T:Type}:(io:IO)→outD T io→denIO io
 | [],_=>()
 | _ :: _,x=>x.2
def hv0 (look:Nat→Option Slot):IO→Nat→Bool
 | [],_=>true
 | _ :: l,i=>(match look i with
  | some S=>Nat.beq S.hv 0
  | none=>false) && hv0 look l (i+1)
def finIO {T:Type} (look:Nat→Option Slot) (x:T):(io:IO)→Option (outD T io)
 | []=>some x
 | c :: l=>bif hv0 look (c :: l) 0 then (match rdS look (shpS (c :: l) 0) with
  | some d=>some (x,d)
  | none=>none) else none
def finR (E:Env) (t:Ty) (m:Mk) (io:IO) (rs:List RV) (e:Exit) (st:Sm):Option (outD t.den io) :=
 match e with
 | .normal | .ret=>match retTake E st.tm t m st.look rs with
  | some (x,lk)=>finIO lk x io
  | none=>none
 | _=>none
def rdIO:(io:IO)→(i:Nat)→List SlotC→Option (denS (shpS io i))
 | [],_,[]=>some ()
 | c :: l,i,k :: ks=>match rdC c.1 c.2.1 c.2.2 k with
  | some x=>match rdIO l (i+1) ks with
   | some d=>some (x,d)
   | none=>none
  | none=>none
 | _,_,_=>none
def wrIO:(io:IO)→(i:Nat)→denS (shpS io i)→List (Option SlotC)
 | [],_,_=>[]
 | c :: l,i,d=>some (mkC c.1 c.2.1 c.2.2 d.1) :: wrIO l (i+1) d.2
def MS.isL:MS→Bool
 | .tc _ _ | .tn=>true
 | _=>false
def valT:(t t':Ty)→t'.den→Option t.den
 | .ex .tree a b,t',x=>if h:t'=unTy (.ex .tree a b) then (bif isChain a then some (foV a b (h ▸ x)) else none) else none
 | _,_,_=>none
def valA:(t:Ty)→Arg→Option t.den
 | t,.dyn t' x=>if h:t'=t then some (h ▸ x) else valT t t' x
 | .sl t,.nil=>some []
 | _,_=>none
def MS.ra:(a:MS)→Arg→Option a.den
 | .val t,a=>valA t a
 | .iadr t,.iad t' x=>if h:t'=t then some (h ▸ x) else none
 | .nil,.nil=>some ()
 | .fn f c,.fn f' k=>bif Nat.beq f f' && c.isL then c.ra k else none
 | .icl c,.icl k=>bif c.isL then none else c.ra k
 | .tc a b,.tc u v=>bif !a.isL && b.isL then (match a.ra u with
  | some x=>match b.ra v with
   | some y=>some (x,y)
   | none=>none
  | none=>none) else none
 | .tn,.tn=>some ()
 | .root k,.mr k'=>bif Nat.beq k k' then some () else none
 | .ptr k t,.mp k' t'=>bif Nat.beq k k' && decide (t'=t) then some () else none
 | _,_=>none
def shp:List MS→Nat→List (Nat × MS)
 | [],_=>[]
 | a :: l,i=>(i,a) :: shp l (i+1)
def raL {S:Type} (z:S):(l:List MS)→(i:Nat)→Arg→Option (denT S (shp l i))
 | [],_,.tn=>some z
 | a :: l,i,.tc u v=>bif a.isL then none else (match a.ra u with
  | some x=>match raL z l (i+1) v with
   | some y=>some (x,y)
   | none=>none
  | none=>none)
 | _,_,_=>none
structure FS where
 f:FuncId
 as:List MS
 io:IO
 own:IO:=[]
 t:Ty
 m:Mk
 M:denT (denIO (io++own)) (shp as 0)→Option (outD t.den io)
def FS.res (s:FS) (arg:Arg) (ios:List SlotC):Option CallRes :=
 match rdIO (s.io++s.own) 0 ios with
 | some z=>match raL z s.as 0 arg with
  | some d=>some ⟨outD s.t.den s.io,s.M d,s.t,s.m,out1 s.io,fun r=>wrIO s.io 0 (out2 s.io r)++List.replicate s.own.length none⟩
  | none=>none
 | none=>none
def mkΓ:List FS→FuncId→Arg→List SlotC→Option CallRes
 | [],_,_,_=>none
 | s :: l,f,a,ios=>bif Nat.beq s.f f then (match s.res a ios with
  | some c=>some c
  | none=>mkΓ l f a ios) else mkΓ l f a ios
structure FSP where
 f:FuncId
 as:List MS
 io:IO
 own:IO:=[]
 T:TypeId
 t:Ty
 m:Mk
 M:denT (denIO (io++own)) (shp as 0)→Option (Unit ⊕ outD t.den io)
def FSP.res (s:FSP) (arg:Arg) (ios:List SlotC):Option CallResP :=
 match rdIO (s.io++s.own) 0 ios with
 | some z=>match raL z s.as 0 arg with
  | some d=>some ⟨outD s.t.den s.io,s.M d,s.t,s.m,out1 s.io,fun r=>wrIO s.io 0 (out2 s.io r)++List.replicate s.own.length none,s.T⟩
  | none=>none
 | none=>none
def mkGp:List FSP→FuncId→Arg→List SlotC→Option CallResP
 | [],_,_,_=>none
 | s :: l,f,a,ios=>bif Nat.beq s.f f then (match s.res a ios with
  | some c=>some c
  | none=>mkGp l f a ios) else mkGp l f a ios
def FSP.OK (P:Program) (s:FSP):Prop:=∀ arg ios c,s.res arg ios=some c→CallPK P s.f arg ios c
def FS.OK (P:Program) (s:FS):Prop:=∀ arg ios c,s.res arg ios=some c→CallOK P s.f arg ios c
def ent (ns nt:Nat) (as:List MS) (io:IO) (d:denT (denIO io) (shp as 0)):Sm :=
 ⟨mkT (shp as 0) d (fun _ _=>.dead),mkS ns (shpS io 0) (restT (shp as 0) d),ns,nt⟩
section
variable {E:Env} {Z0:Ctx E.io} {w0:World} {ns nt:Nat} {w:World} {hdr:Nat→Value}
theorem mkΓ_ok {P:Program}:∀ {l:List FS},(∀ s∈l,s.OK P)→∀ f arg ios c,mkΓ l f arg ios=some c→CallOK P f arg ios c
 | [],_,f,a,ios,c,h=>by cases h
 | s :: l,hl,f,a,ios,c,h=>by
  have ih:=mkΓ_ok (l:=l) (fun s hs=>hl s (by simp [hs]))
  have h:(bif Nat.beq s.f f then (match s.res a ios with
   | some c=>some c
   | none=>mkΓ l f a ios) else mkΓ l f a ios)=some c:=h
  cases hb:Nat.beq s.f f with
  | false=>rw [hb] at h; exact ih f a ios c h
  | true =>
   rw [hb] at h
   obtain rfl:=Nat.eq_of_beq_eq_true hb
   simp only [cond_true] at h
   split at h
   ·rename_i c' hc
    obtain rfl:=Option.some.inj h
    exact hl s (by simp) a ios _ hc
   ·exact ih _ a ios c h
theorem mkGp_ok {P:Program}:∀ {l:List FSP},(∀ s∈l,s.OK P)→∀ f arg ios c,mkGp l f arg ios=some c→CallPK P f arg ios c
 | [],_,f,a,ios,c,h=>by cases h
 | s :: l,hl,f,a,ios,c,h=>by
  have ih:=mkGp_ok (l:=l) (fun s hs=>hl s (by simp [hs]))
  have h:(bif Nat.beq s.f f then (match s.res a ios with
   | some c=>some c
   | none=>mkGp l f a ios) else mkGp l f a ios)=some c:=h
  cases hb:Nat.beq s.f f with
  | false=>rw [hb] at h; exact ih f a ios c h
  | true =>
   rw [hb] at h
   obtain rfl:=Nat.eq_of_beq_eq_true hb
   simp only [cond_true] at h
   split at h
   ·rename_i c' hc
    obtain rfl:=Option.some.inj h
    exact hl s (by simp) a ios _ hc
   ·exact ih _ a ios c h
theorem envOK {P:Program} {tt:TypeId→Option (Ty × Nat)} {io:Nat} {l:List FS} {lp:List FSP} (h:∀ s∈l,s.OK P) (hp:∀ s∈lp,s.OK P):EnvOK ⟨P,tt,mkΓ l,io,mkGp lp⟩:=⟨mkΓ_ok h,mkGp_ok hp⟩
def resV (P:Program) (val:Nat→Value) (w:World) (r:RV) (v:Value):Prop :=
 match r.2 with
 | none=>v=val r.1
 | some e=>(do loadVar e (← asAddr (val r.1)):Sem Value).run P w=.ok v w
def resVs (P:Program) (val:Nat→Value) (w:World):List RV→List Value→Prop
 | [],[]=>True
 | r :: rs,v :: vs=>resV P val w r v∧resVs P val w rs vs
 | _,_=>False
theorem run_loadVar_ {e:TypeId} {t:Ty} {n:Nat} (hT:TyOK E e t n) {b o':Nat} {ks:List Value} (hat:At w b o' ks) (hl:ks.length=t.size):(do loadVar e (← asAddr (.pointer (some ⟨b,o',none⟩))):Sem Value).run E.P w=.ok (t.val ks) w:=by
 have:=run_load_ (E:=E) hT hat hl
 simp only [Instr.loadAt,Instr.sureAddr,pure_bind] at this
 simp only [asAddr,pure_bind]
 exact this
theorem load_cell (hE:TTok E) {Z:Bs} {sl:Nat→Option Slot} {fp:Nat→Bs} {mv:MV} (H:HR Z w sl hdr fp) {e:TypeId} {s hv cv:Nat} {po:Option Path} {t:Ty} {v:t.den} {x:Value} (hx:RelV Z w sl hdr fp (.adr s hv cv po t v) x)
 (ht:tyB2 E e t=true) (hl:loadMV sl (.adr s hv cv po t v)=some mv):∃ y,(do loadVar e (← asAddr x):Sem Value).run E.P w=.ok y w∧RelV Z w sl hdr fp mv y:=by
 obtain ⟨nb,hT⟩:=tyB2_ok hE ht
 rcases hx with h0 | ⟨cs,hr,he⟩
 ·cases h0
 simp only [loadMV] at hl
 split at hl
 ·rename_i c e2
  have e2:=lookC_some e2
  obtain ⟨_,S,h1,_,h3⟩:=hr
  rw [e2] at h1; obtain rfl:=Option.some.inj h1
  obtain ⟨b,o',ks,hcs,hat,hbz,hz,⟨m,f,hrep,hf,hfz⟩,hp⟩:=(h3 rfl).2 rfl c rfl
  have hev:x=.pointer (some ⟨b,o',none⟩):=by rw [he,hcs]; rfl
  refine ⟨t.val ks,by rw [hev]; exact run_loadVar_ hT hat hrep.len,?_⟩
  have asval:Rep Z w t .im v none_ ks→RelV Z w sl hdr fp (.val t v) (t.val ks):=fun h=>.inr ⟨ks,h,rfl⟩
  have asview:∀ po',(∀ p,po'=some p→PathOK w c (hdr s) p t v ks)→RelV Z w sl hdr fp (.view s hv cv po' t v) (t.val ks):=by
   intro po' hpo
   refine .inr ⟨ks,⟨⟨hrep.len,hrep.one⟩,_,e2,Nat.le_refl _,fun _=>⟨Nat.le_refl _,fun _ c' hc' => ?_⟩⟩,rfl⟩
   obtain rfl:=Option.some.inj hc'
   exact ⟨⟨m,f,hrep,hf,hfz⟩,hpo⟩
  cases hfl:(t.flat || !c.m.isOw) with
  | true =>
   rw [hfl] at hl
   simp only [cond_true,Option.some.injEq] at hl
   subst hl
   simp only [Bool.or_eq_true,Bool.not_eq_true'] at hfl
   refine asval ?_
   rcases hfl with hfl | hfl
   ·exact hrep.flat hfl
   ·exact hrep.none (hfz hfl)
  | false =>
   rw [hfl] at hl
   simp only [cond_false] at hl
   simp only [Bool.or_eq_false_iff,Bool.not_eq_false'] at hfl
   split at hl
   ·rename_i q
    split at hl
    ·rename_i m' hm'
     simp only [Option.some.injEq] at hl
     subst hl
     obtain ⟨hpk,hadr⟩:=hp q rfl
     cases hsh:t.shared m' with
     | true =>
      simp only [cond_true]
      obtain ⟨ks',f',r1,r2,r3⟩:=place_rep H e2 hfl.2 hpk.1 hm' (hadr hfl.2)
      obtain rfl:=at_same hat r2 (hrep.len.trans r1.len.symm)
      exact asval (r1.share hsh)
     | false =>
      simp only [cond_false]
      exact asview _ fun p hp0=>by obtain rfl:=Option.some.inj hp0; exact hpk
    ·cases hl
   ·simp only [Option.some.injEq] at hl
    subst hl
    exact asview none fun p hp0=>by cases hp0
 ·cases hl
theorem resOf_ok (hE:TTok E) {Z:Bs} {sl:Nat→Option Slot} {fp:Nat→Bs} {tm:Nat→MV} {val:Nat→Value} {r:RV} {mv:MV} (H:HR Z w sl hdr fp) (hv:∀ i,RelV Z w sl hdr fp (tm i) (val i)) (h:resOf E sl tm r=some mv):∃ y,resV E.P val w r y∧RelV Z w sl hdr fp mv y:=by
 obtain ⟨t,oe⟩:=r
 cases oe with
 | none=>obtain rfl:=Option.some.inj h; exact ⟨_,rfl,hv t⟩
 | some e =>
  simp only [resOf] at h
  have hd:=deref_okV H (hv t)
  split at h
  ·rename_i ed
   rw [ed] at hd
   obtain ⟨hb,h⟩:=cond_some h
   exact load_cell hE H hd hb h
  ·cases h
theorem retTake_ok (hE:TTok E) {tm:Nat→MV} {val:Nat→Value}:∀ {t:Ty} {m:Mk} {Z:Bs} {sl:Nat→Option Slot} {fp:Nat→Bs} {rs:List RV} {x:t.den} {sl':Nat→Option Slot},retTake E tm t m sl rs=some (x,sl')→HR Z w sl hdr fp→(∀ i,RelV Z w sl hdr fp (tm i) (val i)) →
 ∃ Z' fp' F vs,HR Z' w sl' hdr fp'∧Trans Z w sl hdr fp Z' w sl' hdr fp'∧resVs E.P val w rs vs∧RepR Z' w t m x F vs∧(∀ b,F b→∃ s,fp s b∧¬ noC sl s∧fp' s b∧noC sl' s)∧(∀ s b,noC sl s→fp s b→fp' s b∧noC sl' s):=by
 intro t
 induction t with
 | pair ta tb _ ih =>
  intro m Z sl fp rs x sl' h H hv
  cases rs with
  | nil=>cases h
  | cons r0 rs =>
   simp only [retTake] at h
   split at h
   ·rename_i mv e0
    split at h
    ·rename_i x1 us e1
     split at h
     ·rename_i y lk e2
      simp only [Option.some.injEq,Prod.mk.injEq] at h
      obtain ⟨rfl,rfl⟩:=h
      obtain ⟨v0,hr0,hv0⟩:=resOf_ok hE H hv e0
      ·obtain ⟨Z1,fp1,F1,t',m',x',cs',K,hC⟩:=takeC_sound e1 H hv0
       obtain ⟨Z2,fp2,F2,vs,H2,T2,V2,R2,hand2,kept2⟩:=ih e2 K.hr (fun i=>(hv i).trans H K.hr K.tr)
       refine ⟨Z2,fp2,fun b=>F1 b∨F2 b,v0 :: vs,H2,K.tr.comp T2,⟨hr0,V2⟩,⟨v0,vs,F1,F2,rfl,hC.more (fun b hb=>(T2.z b hb).1),R2,fun b hb=>.inl hb,fun b hb=>.inr hb,fun b hb1 hb2 => ?_⟩,fun b hb => ?_,fun s b hs hb => ?_⟩
       ·obtain ⟨s1,_,_,q3,q4⟩:=K.hand b hb1
        obtain ⟨s2,p1,p2,_,_⟩:=hand2 b hb2
        obtain rfl:=K.hr.disj _ _ _ q3 p1
        exact p2 q4
       ·rcases hb with hb | hb
        ·obtain ⟨s,q1,q2,q3,q4⟩:=K.hand b hb
         exact ⟨s,q1,q2,kept2 s b q4 q3⟩
        ·obtain ⟨s,p1,p2,p3⟩:=hand2 b hb
         obtain ⟨k1,k2⟩:=K.back s p2
         exact ⟨s,k2 b p1,k1,p3⟩
       ·obtain ⟨k1,k2⟩:=K.kept s b hs hb
        exact kept2 s b k2 k1
     ·cases h
    ·cases h
   ·cases h
 | unit =>
  intro m Z sl fp rs x sl' h H hv
  cases rs with
  | nil =>
   have h:some ((),sl)=some (x,sl'):=h
   simp only [Option.some.injEq,Prod.mk.injEq] at h
   obtain ⟨_,rfl⟩:=h
   exact ⟨Z,fp,none_,[],H,Trans.refl _ _ _ _ _,trivial,rfl,fun b hb=>hb.elim,fun s b h1 h2=>⟨h2,h1⟩⟩
  | cons _ _=>cases h
 | _=>intro m Z sl fp rs x sl' h; cases rs <;> cases h
theorem valA_ok {n:Nat} {Z:Bs} {sl:Nat→Option Slot} {fp:Nat→Bs} {t:Ty} {arg:Arg} {x:t.den} {vs:List Value} (h:valA t arg=some x) (hr:RepA Z w n hdr arg vs):∃ cs,RelC Z w sl hdr fp (.val t x) cs∧vs=[t.val cs]:=by
 cases arg with
 | dyn t' y =>
  have h:(if h:t'=t then some (h ▸ y:t.den) else valT t t' y)=some x:=by cases t <;> exact h
  split at h
  ·rename_i e; subst e
   obtain rfl:=Option.some.inj h
   obtain ⟨cs,h1,h2⟩:=hr
   exact ⟨cs,h1,h2⟩
  ·unfold valT at h
   split at h
   ·split at h
    ·rename_i _ a b _ _ e
     subst e
     obtain ⟨hc,h⟩:=cond_some h
     obtain rfl:=Option.some.inj h
     obtain ⟨cs,h1,h2⟩:=hr
     refine ⟨cs,fo_rep hc h1,h2.trans ?_⟩
     simp only [Ty.val,(un_cells (b:=b) hc).2.2]; rfl
    ·cases h
   ·cases h
 | nil =>
  cases t with
  | sl t =>
   have h:some ([]:List t.den)=some x:=h
   cases h
   obtain ⟨A,rfl⟩:=hr
   exact ⟨[.slice A 0 0],⟨A,0,rfl,Nat.le_refl _,.inl rfl⟩,rfl⟩
  | _=>cases h
 | _=>cases t <;> cases h
theorem ra_ok {n:Nat} {Z:Bs} {sl:Nat→Option Slot} {fp:Nat→Bs} (hn:∀ k,k<n→∃ S,sl k=some S):∀ (a:MS) {arg:Arg} {x:a.den} {vs:List Value},a.ra arg=some x→RepA Z w n hdr arg vs→∃ cs,RelC Z w sl hdr fp (a.mk x) cs∧vs=(bif a.isL then cs else [(a.mk x).out cs])
 | .val t,arg,x,vs,h,hr=>valA_ok h hr
 | .iadr t,arg,x,vs,h,hr=>by
  cases arg with
  | iad t' y =>
   have h:(if h:t'=t then some (h ▸ y:t.den) else none)=some x:=h
   split at h
   ·rename_i e; subst e
    obtain rfl:=Option.some.inj h
    obtain ⟨b,o,ks,rfl,h1,h2,h3⟩:=hr
    exact ⟨_,⟨b,o,ks,rfl,h1,h2,h3⟩,rfl⟩
   ·cases h
  | _=>cases h
 | .nil,arg,x,vs,h,hr=>by
  cases arg with
  | nil=>obtain ⟨A,rfl⟩:=hr; exact ⟨_,⟨A,rfl⟩,rfl⟩
  | _=>cases h
 | .tn,arg,x,vs,h,hr=>by
  cases arg with
  | tn=>exact ⟨vs,hr,rfl⟩
  | _=>cases h
 | .root k,arg,x,vs,h,hr=>by
  cases arg with
  | mr k' =>
   have h:(bif Nat.beq k k' then some () else none)=some x:=h
   obtain ⟨hb,_⟩:=cond_some h
   obtain rfl:=Nat.eq_of_beq_eq_true hb
   obtain ⟨h1,rfl,h3⟩:=hr
   obtain ⟨S,hS⟩:=hn k h1
   exact ⟨[hdr k],⟨h3,S,hS,Nat.zero_le _,fun _ c _=>rfl⟩,rfl⟩
  | _=>cases h
 | .ptr k t,arg,x,vs,h,hr=>by
  cases arg with
  | mp k' t' =>
   have h:(bif Nat.beq k k' && decide (t'=t) then some () else none)=some x:=h
   obtain ⟨hb,_⟩:=cond_some h
   simp only [Bool.and_eq_true] at hb
   obtain rfl:=Nat.eq_of_beq_eq_true hb.1
   obtain ⟨h1,b,o,l,cap,h2,rfl⟩:=hr
   obtain ⟨S,hS⟩:=hn k h1
   exact ⟨[.pointer (some ⟨b,o,none⟩)],⟨⟨rfl,fun v hv=>by obtain rfl:=List.mem_singleton.1 hv; rfl⟩,S,hS,Nat.zero_le _,fun _ c _=>⟨b,o,l,cap,h2,rfl⟩⟩,rfl⟩
  | _=>cases h
 | .fn f c,arg,x,vs,h,hr=>by
  cases arg with
  | fn g k =>
   have h:(bif Nat.beq f g && c.isL then c.ra k else none)=some x:=h
   obtain ⟨hb,h3⟩:=cond_some h
   simp only [Bool.and_eq_true] at hb
   obtain rfl:=Nat.eq_of_beq_eq_true hb.1
   clear h
   obtain ⟨ks,rfl,h2⟩:=hr
   obtain ⟨cs,r1,r2⟩:=ra_ok hn c (fp:=fp) h3 h2
   rw [hb.2] at r2
   subst r2
   exact ⟨_,⟨ks,rfl,r1⟩,rfl⟩
  | _=>cases h
 | .icl c,arg,x,vs,h,hr=>by
  cases arg with
  | icl k =>
   have h:(bif c.isL then none else c.ra k)=some x:=h
   cases hL:c.isL with
   | true=>rw [hL] at h; cases h
   | false =>
    rw [hL] at h
    obtain ⟨b0,o0,v,rfl,p1,p2,h2⟩:=hr
    obtain ⟨cs,r1,r2⟩:=ra_ok hn c (fp:=fp) h h2
    rw [hL] at r2
    simp only [cond_false,List.cons.injEq,and_true] at r2
    subst r2
    exact ⟨_,⟨b0,o0,cs,rfl,p1,p2,r1⟩,rfl⟩
  | _=>cases h
 | .tc a b,arg,x,vs,h,hr=>by
  cases arg with
  | tc u v =>
   have h:(bif !a.isL && b.isL then (match a.ra u with
    | some x=>match b.ra v with
     | some y=>some (x,y)
     | none=>none
    | none=>none) else none)=some x:=h
   obtain ⟨hb,h3⟩:=cond_some h
   clear h
   simp only [Bool.and_eq_true,Bool.not_eq_true'] at hb
   split at h3
   ·rename_i xa ea
    split at h3
    ·rename_i xb eb
     obtain rfl:=Option.some.inj h3
     obtain ⟨v0,vs',rfl,r1,r2⟩:=hr
     obtain ⟨c1,q1,q2⟩:=ra_ok hn a (fp:=fp) ea r1
     obtain ⟨c2,q3,q4⟩:=ra_ok hn b (fp:=fp) eb r2
     rw [hb.1] at q2
     rw [hb.2] at q4
     simp only [cond_false,cond_true,List.cons.injEq,and_true] at q2 q4
     subst q4
     exact ⟨_,⟨c1,v0,vs',rfl,.inr ⟨q1,q2⟩,q3⟩,rfl⟩
    ·cases h3
   ·cases h3
  | _=>cases h
theorem raL_ok {n:Nat} {S:Type} {z:S} {Z:Bs} {sl:Nat→Option Slot} {fp:Nat→Bs} (hn:∀ k,k<n→∃ S,sl k=some S):∀ (l:List MS) (i0:Nat) {arg:Arg} {d:denT S (shp l i0)} {vs:List Value},raL z l i0 arg=some d→RepA Z w n hdr arg vs→vs.length=l.length∧∀ i v,(i<i0→mkT (shp l i0) d (fun _ _=>.dead) i=.dead)∧(vs[i]?=some v→RelV Z w sl hdr fp (mkT (shp l i0) d (fun _ _=>.dead) (i0+i)) v)∧(vs[i]?=none→mkT (shp l i0) d (fun _ _=>.dead) (i0+i)=.dead)
 | [],i0,arg,d,vs,h,hr=>by
  cases arg with
  | tn=>rw [show vs=[] from hr]; exact ⟨rfl,fun i v=>⟨fun _=>rfl,fun h=>by simp at h,fun _=>rfl⟩⟩
  | _=>cases h
 | a :: l,i0,arg,d,vs,h,hr=>by
  cases arg with
  | tc u v =>
   simp only [raL] at h
   cases hL:a.isL with
   | true=>rw [hL] at h; cases h
   | false =>
    rw [hL] at h
    simp only [cond_false] at h
    split at h
    ·rename_i xa ea
     split at h
     ·rename_i y ey
      obtain rfl:=Option.some.inj h
      obtain ⟨v0,vs',rfl,r1,r2⟩:=hr
      obtain ⟨c1,q1,q2⟩:=ra_ok hn a (fp:=fp) ea r1
      rw [hL] at q2
      simp only [cond_false,List.cons.injEq,and_true] at q2
      obtain ⟨g1,g2⟩:=raL_ok hn l (i0+1) (fp:=fp) ey r2
      refine ⟨by simp [g1],fun i v1=>⟨fun hi => ?_,fun hi => ?_,fun hi => ?_⟩⟩
      ·simp only [shp,mkT]
       rw [beq_ne_ (Nat.ne_of_lt hi)]
       exact (g2 i v1).1 (Nat.lt_succ_of_lt hi)
      ·simp only [shp,mkT]
       cases i with
       | zero =>
        simp only [List.getElem?_cons_zero,Option.some.injEq] at hi
        subst hi
        rw [Nat.add_zero,beq_self_]
        exact .inr ⟨c1,q1,q2⟩
       | succ i =>
        simp only [List.getElem?_cons_succ] at hi
        rw [beq_ne_ (by omega)]
        have:=(g2 i v1).2.1 hi
        rw [show i0+(i+1)=i0+1+i by omega]
        exact this
      ·simp only [shp,mkT]
       cases i with
       | zero=>simp at hi
       | succ i =>
        simp only [List.getElem?_cons_succ] at hi
        rw [beq_ne_ (by omega)]
        have:=(g2 i v1).2.2 hi
        rw [show i0+(i+1)=i0+1+i by omega]
        exact this
     ·cases h
    ·cases h
  | _=>cases h
theorem results_ok {fn:Func} {rs:List RV} (h:fn.results=(rs.map RV.to).toArray) {a:Act} {P:Program} {w:World} {vs:List Value} (hv:resVs P (fun i=>a.eval (.tmp i)) w rs vs):(results fn a.tmps).run P w=.ok (retVal vs) w:=by
 unfold results
 rw [h,List.mapM_toArray,List.mapM_map]
 have key:∀ {rs:List RV} {vs:List Value},resVs P (fun i=>a.eval (.tmp i)) w rs vs→∀ {f:RV→Sem Value},(∀ r v,resV P (fun i=>a.eval (.tmp i)) w r v→(f r).run P w=.ok v w)→(List.mapM f rs).run P w=.ok vs w:=by
  intro rs
  induction rs with
  | nil =>
   intro vs hv f hf
   cases vs with
   | nil=>rfl
   | cons _ _=>cases hv
  | cons r rs ih =>
   intro vs hv f hf
   cases vs with
   | nil=>cases hv
   | cons v vs =>
    obtain ⟨h1,h2⟩:=hv
    rw [List.mapM_cons]
    simp only [Sem.run_bind,hf r v h1,Result.andThen_ok,ih h2 hf,Sem.run_pure]
 have:=key hv (f:=(fun x=>match x with
  | ResultVar.tmp t=>(pure (a.tmps.getD t undef):Sem Value)
  | .cell b t=>do loadVar t (← asAddr (a.tmps.getD b undef))) ∘ RV.to) (fun r v hr=>by
  obtain ⟨t,oe⟩:=r
  cases oe with
  | none=>rw [show v=a.eval (.tmp t) from hr]; rfl
  | some e=>exact hr)
 rw [map_eq_pure_bind,bind_assoc,Sem.run_bind]
 refine (congrArg (fun x=>Result.andThen x _) this).trans ?_
 simp only [Result.andThen_ok,pure_bind,Sem.run_pure]
 cases vs with
 | nil=>rfl
 | cons x l =>
  cases l with
  | nil=>rfl
  | cons y l=>rfl
theorem raL_rest {S:Type} {z:S}:∀ (l:List MS) (i0:Nat) {arg:Arg} {d:denT S (shp l i0)},raL z l i0 arg=some d→restT (shp l i0) d=z
 | [],i0,arg,d,h=>by
  cases arg with
  | tn=>exact (Option.some.inj h).symm
  | _=>cases h
 | a :: l,i0,arg,d,h=>by
  cases arg with
  | tc u v =>
   simp only [raL] at h
   cases hL:a.isL with
   | true=>rw [hL] at h; cases h
   | false =>
    rw [hL] at h
    simp only [cond_false] at h
    split at h
    ·split at h
     ·rename_i y ey
      obtain rfl:=Option.some.inj h
      exact raL_rest l (i0+1) ey
     ·cases h
    ·cases h
  | _=>cases h
theorem rdIO_mk {ns:Nat}:∀ (io:IO) (i:Nat) {ios:List SlotC} {z:denS (shpS io i)},rdIO io i ios=some z→ios.length=io.length∧∀ s hv cv c,mkS ns (shpS io i) z s=some ⟨hv,cv,some c⟩→∃ k,s=i+k∧ios[k]?=some c
 | [],i,ios,z,h=>by
  cases ios with
  | nil =>
   refine ⟨rfl,fun s hv cv c h => ?_⟩
   simp only [shpS,mkS] at h
   cases hb:Nat.blt s ns <;> rw [hb] at h <;> cases h
  | cons _ _=>cases h
 | c0 :: l,i,ios,z,h=>by
  cases ios with
  | nil=>cases h
  | cons k0 ks =>
   simp only [rdIO] at h
   split at h
   ·rename_i x ex
    split at h
    ·rename_i d ed
     obtain rfl:=Option.some.inj h
     obtain ⟨h1,h2⟩:=rdIO_mk (ns:=ns) l (i+1) ed
     refine ⟨by simp [h1],fun s hv cv c hm => ?_⟩
     simp only [shpS,mkS] at hm
     cases hs:(Nat.beq s i && Nat.blt s ns) with
     | true =>
      rw [hs] at hm
      simp only [Bool.and_eq_true] at hs
      simp only [cond_true,Option.some.injEq,Slot.mk.injEq] at hm
      obtain ⟨_,_,rfl⟩:=hm
      exact ⟨0,Nat.eq_of_beq_eq_true hs.1,by rw [rdC_ok ex]; rfl⟩
     | false =>
      rw [hs] at hm
      obtain ⟨k,e1,e2⟩:=h2 s hv cv c hm
      exact ⟨k+1,by omega,by simpa using e2⟩
    ·cases h
   ·cases h
theorem rdS_wr {lk:Nat→Option Slot}:∀ (io:IO) (i:Nat) {d:denS (shpS io i)},rdS lk (shpS io i)=some d→(wrIO io i d).length=io.length∧∀ k c,(wrIO io i d)[k]?=some (some c)→∃ hv cv,lk (i+k)=some ⟨hv,cv,some c⟩
 | [],i,d,h=>⟨rfl,fun k c hk=>by simp [wrIO] at hk⟩
 | c0 :: l,i,d,h=>by
  simp only [shpS,rdS] at h
  split at h
  ·rename_i hv1 cv1 k0 hk0
   split at h
   ·rename_i x ex
    split at h
    ·rename_i d' ed
     obtain rfl:=Option.some.inj h
     obtain ⟨h1,h2⟩:=rdS_wr l (i+1) ed
     refine ⟨by simp only [wrIO,List.length_cons,h1],fun k c hk => ?_⟩
     cases k with
     | zero =>
      simp only [wrIO,List.getElem?_cons_zero,Option.some.injEq] at hk
      subst hk
      exact ⟨hv1,cv1,by rw [rdC_ok ex]; exact hk0⟩
     | succ k =>
      simp only [wrIO,List.getElem?_cons_succ] at hk
      obtain ⟨hv,cv,e⟩:=h2 k c hk
      exact ⟨hv,cv,by rw [show i+(k+1)=i+1+k by omega]; exact e⟩
    ·cases h
   ·cases h
  ·cases h
theorem hv0_ok {lk:Nat→Option Slot}:∀ (io:IO) (i:Nat),hv0 lk io i=true→∀ k,k<io.length→∃ S,lk (i+k)=some S∧S.hv=0
 | [],_,_,k,hk=>by simp at hk
 | _ :: l,i,h,k,hk=>by
  simp only [hv0,Bool.and_eq_true] at h
  cases k with
  | zero =>
   cases e:lk i with
   | none=>rw [e] at h; cases h.1
   | some S=>rw [e] at h; exact ⟨S,rfl,Nat.eq_of_beq_eq_true h.1⟩
  | succ k =>
   obtain ⟨S,h1,h2⟩:=hv0_ok l (i+1) h.2 k (by simpa using hk)
   exact ⟨S,by rw [show i+(k+1)=i+1+k by omega]; exact h1,h2⟩
theorem finIO_ok {T:Type} {lk:Nat→Option Slot} {x:T}:∀ {io:IO} {r:outD T io},finIO lk x io=some r→out1 io r=x∧hv0 lk io 0=true∧rdS lk (shpS io 0)=some (out2 io r)
 | [],r,h=>⟨(Option.some.inj h).symm,rfl,rfl⟩
 | c :: l,r,h=>by
  simp only [finIO] at h
  obtain ⟨hb,h⟩:=cond_some h
  split at h
  ·rename_i d ed
   obtain rfl:=Option.some.inj h
   exact ⟨rfl,hb,ed⟩
  ·cases h
theorem wrIO_some:∀ (io:IO) (i:Nat) {d:denS (shpS io i)} {k:Nat},k<io.length→∃ c,(wrIO io i d)[k]?=some (some c)
 | [],_,_,_,h=>by simp at h
 | c0 :: l,i,d,0,_=>⟨_,rfl⟩
 | c0 :: l,i,d,k+1,h=>by
  obtain ⟨c,e⟩:=wrIO_some l (i+1) (d:=d.2) (k:=k) (by simpa using h)
  exact ⟨c,e⟩
theorem wr_app {l:List (Option SlotC)} {n k:Nat} {c:SlotC} (h:((l++List.replicate n none)[k]?).bind id=some c):l[k]?=some (some c):=by
 obtain ⟨oc,h1,h2⟩:=Option.bind_eq_some_iff.1 h
 have h2:oc=some c:=h2
 subst h2
 by_cases hk:k<l.length
 ·rwa [List.getElem?_append_left hk] at h1
 ·rw [List.getElem?_append_right (by omega),List.getElem?_replicate] at h1
  split at h1 <;> simp at h1
theorem fs_gen (hT:TTok E) (hE:EnvOK E) {s:FS} {fn:Func} {body:Code} {L:List Spec} {n:Nat} {h:Hint} {rs:List RV} (hf:E.P.funcs[s.f]?=some fn) (hb:fn.body=some body) (hname:(fn.name == "runtime.NumGoroutine")=false) (hres:fn.results=(rs.map RV.to).toArray)
 (hnt:fn.ntmps=nt) (hlen:s.as.length≤nt) (hio:E.io=s.io.length) (hns:(s.io++s.own).length≤ns) (hL:LoopsOK E ns nt L n body) {B:Type} {E0:denT (denIO (s.io++s.own)) (shp s.as 0)→B→Sm} {cond:denT (denIO (s.io++s.own)) (shp s.as 0)→B→Prop}
 (hE0:∀ d b,(E0 d b).look=(ent ns nt s.as (s.io++s.own) d).look∧(E0 d b).ns=ns∧(E0 d b).nt=nt)
 (hent:∀ d {Z:Bs} {w:World} {hdr:Nat→Value} {fp:Nat→Bs} {val:Nat→Value},(∀ i,RelV Z w (ent ns nt s.as (s.io++s.own) d).look hdr fp ((ent ns nt s.as (s.io++s.own) d).tm i) (val i))→∃ b,cond d b∧∀ i,RelV Z w (ent ns nt s.as (s.io++s.own) d).look hdr fp ((E0 d b).tm i) (val i))
 (hM:∀ d b r,cond d b→s.M d=some r→evC E L n h body [] (E0 d b) (finR E s.t s.m s.io rs)=some r):s.OK E.P:=by
 intro arg ios c hc
 simp only [FS.res] at hc
 split at hc
 ·rename_i z hz0
  split at hc
  ·rename_i d hd
   obtain rfl:=Option.some.inj hc
   refine ⟨⟨fn,hf,by rw [hb]; rfl,hname⟩,fun r hr Z w hdr fp vs HC hfpk hA => ?_⟩
   simp only at hr
   obtain ⟨hil,hmk⟩:=rdIO_mk (ns:=ns) (s.io++s.own) 0 hz0
   rw [hil] at hA
   have hrest:=raL_rest s.as 0 hd
   have hslk:∀ k,k<(s.io++s.own).length→∃ S,(ent ns nt s.as (s.io++s.own) d).look k=some S:=fun k hk=>(mkS_ns (shpS (s.io++s.own) 0)).2 (Nat.lt_of_lt_of_le hk hns)
   obtain ⟨hl,hg⟩:=raL_ok hslk s.as 0 (fp:=fp) hd hA
   refine calls_of_wp hf hb ?_
   let Z0:Ctx E.io:=⟨Z,fun b=>∃ k,fp k b,hdr,[]⟩
   have hcont:∀ s0 hv cv c,(ent ns nt s.as (s.io++s.own) d).look s0=some ⟨hv,cv,some c⟩→ioSl ios s0=some ⟨0,0,some c⟩:=fun s0 hv cv c h=>by
    simp only [ent,hrest] at h
    obtain ⟨k,e1,e2⟩:=hmk s0 hv cv c h
    rw [Nat.zero_add] at e1
    subst e1
    simp only [ioSl,e2,Option.map_some]
   have hrel:Rel Z0 w ns nt (ent ns nt s.as (s.io++s.own) d) { tmps:=vs.toArray++Array.replicate (fn.ntmps-vs.toArray.size) undef,defers:=[] } w:=by
    refine ⟨Z,hdr,fp,⟨fun s hv cv c h => ?_,fun s hv cv c h => ?_,HC.disj,HC.lt,HC.zlt,HC.dz⟩,⟨fun _ h=>h,fun b hb hf=>⟨rfl,fun s h=>hf ⟨s,h⟩,fun h=>h⟩,Nat.le_refl _,rfl,rfl,rfl⟩,⟨fun s hs=>(mkS_ns _).1 hs,fun k hk => ?_⟩,fun i => ?_,?_,rfl,rfl,rfl⟩
    ·exact HC.rep _ _ _ _ (hcont s hv cv c h)
    ·exact HC.shape _ _ _ _ (hcont s hv cv c h)
    ·rw [hio] at hk
     obtain ⟨S,hS⟩:=hslk k (by rw [List.length_append]; omega)
     exact ⟨S,hS,mkS_hv _ hS,fun _ _=>rfl⟩
    ·have hgi:=hg i
     rw [Nat.zero_add] at hgi
     simp only [Act.eval,Array.getD_eq_getD_getElem?,Array.getElem?_append,List.size_toArray]
     by_cases hi:i<vs.length
     ·rw [if_pos hi]
      have e:vs[i]?=some vs[i]:=List.getElem?_eq_getElem hi
      rw [List.getElem?_toArray,e]
      exact (hgi _).2.1 e
     ·exact .inl ((hgi undef).2.2 (List.getElem?_eq_none (Nat.le_of_not_lt hi)))
    ·simp only [ent,Array.size_append,List.size_toArray,Array.size_replicate]
     omega
   have hrel0:∃ b,cond d b∧Rel Z0 w ns nt (E0 d b) { tmps:=vs.toArray++Array.replicate (fn.ntmps-vs.toArray.size) undef,defers:=[] } w:=by
    obtain ⟨Z1,hdr1,fp1,H1,F1,hn1,ht,hs,hdf,g1,g2⟩:=hrel
    obtain ⟨b,hb,ht'⟩:=hent d (val:=fun i=>Act.eval { tmps:=vs.toArray++Array.replicate (fn.ntmps-vs.toArray.size) undef,defers:=[] } (.tmp i)) ht
    obtain ⟨e1,e2,e3⟩:=hE0 d b
    refine ⟨b,hb,Z1,hdr1,fp1,by rw [e1]; exact H1,F1,⟨fun s hs=>by rw [e1]; exact hn1.1 s (by rw [e2] at hs; exact hs),by rw [e1]; exact hn1.2⟩,fun i=>by rw [e1]; exact ht' i,by rw [e3]; exact hs,hdf,e2,e3⟩
   obtain ⟨b0,hb0,hrel⟩:=hrel0
   refine evC_ok hT hE hL (SizeOf.sizeOf body) h body (Nat.le_refl _) (ps:=[]) rfl (hM d b0 r hb0 hr) hrel (fun e st' a' w' hk hr' => ?_)
   obtain ⟨Z1,hdr1,fp1,H1,F1,hn1,ht,_,hdf,_,_⟩:=hr'
   have fin:finR E s.t s.m s.io rs .ret st'=some r→∃ v,(results fn a'.tmps).run E.P w'=.ok v w'∧∃ Z' fp' F us,CallPost Z w hdr fp ios s.t s.m (out1 s.io r) (wrIO s.io 0 (out2 s.io r)++List.replicate s.own.length none) (.returned v) w' Z' fp' F us:=by
    intro hx
    simp only [finR] at hx
    split at hx
    ·rename_i x lk hx0
     obtain ⟨rfl,g2,g3⟩:=finIO_ok hx
     obtain ⟨Z2,fp2,F,vs2,H2,T2,V2,R2,hand,_⟩:=retTake_ok hT (val:=fun i=>a'.eval (.tmp i)) hx0 H1 ht
     have F2:=F1.trans H2 T2
     obtain ⟨w1,w2⟩:=rdS_wr s.io 0 g3
     have there:∀ k c,(wrIO s.io 0 (out2 s.io r))[k]?=some (some c)→∃ hv cv,lk k=some ⟨hv,cv,some c⟩∧hdr1 k=hdr k:=fun k c hk=>by
      obtain ⟨hv,cv,e⟩:=w2 k c hk
      rw [Nat.zero_add] at e
      have hlt:k<s.io.length:=by rw [← w1]; exact (List.getElem?_eq_some_iff.1 hk).1
      obtain ⟨S',g4,g5⟩:=hv0_ok s.io 0 g2 k hlt
      rw [Nat.zero_add,e] at g4
      obtain rfl:=Option.some.inj g4
      obtain ⟨S,p1,p2,p3⟩:=hn1.2 k (by rw [hio]; exact hlt)
      obtain ⟨S2,q1,q2⟩:=T2.slot k S p1
      rw [e] at q1; obtain rfl:=Option.some.inj q1
      refine ⟨hv,cv,e,?_⟩
      rcases q2 with q | ⟨_,_,q⟩ | ⟨_,_,q⟩
      ·simp only at q g5; omega
      ·obtain ⟨⟨c1,hc1⟩,_⟩:=q c rfl; exact p3 c1 hc1
      ·obtain ⟨c1,hc1,_⟩:=q c rfl; exact p3 c1 hc1
     refine ⟨_,results_ok hres V2,Z2,fun k b=>k<s.io.length∧fp2 k b,F,_,rfl,fun b hb hk=>(F2.old b hb (fun ⟨k,h⟩=>hk k h)).1,F2.size,F2.os,F2.tape,F2.output,F2.z,fun b hb=>⟨H2.zlt b hb,?_⟩,fun b hb => ?_,fun k b hk => ?_,by rw [List.length_append,w1,List.length_replicate,hil,List.length_append],?_,R2⟩
     ·by_cases hlt:b<w.heap.size
      ·by_cases hf:∃ k,fp k b
       ·exact .inr (.inl hf)
       ·exact .inl ((F2.old b hlt hf).2.2 hb)
      ·exact .inr (.inr hlt)
     ·obtain ⟨q,_,_,q1,q2⟩:=hand b hb
      refine ⟨?_,H2.lt q b q1,H2.dz q b q1,fun k hk => ?_⟩
      ·by_cases hlt:b<w.heap.size
       ·by_cases hf:∃ k,fp k b
        ·exact .inl hf
        ·exact ((F2.old b hlt hf).2.1 q q1).elim
       ·exact .inr hlt
      ·obtain rfl:=H2.disj _ _ _ hk.2 q1
       obtain ⟨c,hc⟩:∃ c,(wrIO s.io 0 (out2 s.io r))[k]?=some (some c):=wrIO_some s.io 0 hk.1
       obtain ⟨hv,cv,e,_⟩:=there k c hc
       exact q2 hv cv c e
     ·refine ⟨by rw [hil,List.length_append]; exact Nat.lt_of_lt_of_le hk.1 (Nat.le_add_right _ _),?_⟩
      by_cases hlt:b<w.heap.size
      ·by_cases hf:∃ k,fp k b
       ·exact .inl hf
       ·exact ((F2.old b hlt hf).2.1 k hk.2).elim
      ·exact .inr hlt
     ·refine ⟨fun k hv cv c h => ?_,fun k hv cv c h => ?_,fun k k' b h h'=>H2.disj _ _ _ h.2 h'.2,fun k b h=>H2.lt _ _ h.2,H2.zlt,fun k b h=>H2.dz _ _ h.2⟩
      ·simp only [ioSlO,Option.map_eq_some_iff] at h
       obtain ⟨c',h1,h2⟩:=h
       simp only [Slot.mk.injEq,Option.some.injEq] at h2
       obtain ⟨_,_,rfl⟩:=h2
       have h1:=wr_app h1
       obtain ⟨hv,cv,e,e2⟩:=there k _ h1
       have:=H2.rep k _ _ _ e
       rw [e2] at this
       exact this.mono (fun b hb=>⟨by rw [← w1]; exact (List.getElem?_eq_some_iff.1 h1).1,hb⟩)
      ·simp only [ioSlO,Option.map_eq_some_iff] at h
       obtain ⟨c',h1,h2⟩:=h
       simp only [Slot.mk.injEq,Option.some.injEq] at h2
       obtain ⟨_,_,rfl⟩:=h2
       have h1:=wr_app h1
       obtain ⟨hv,cv,e,e2⟩:=there k _ h1
       exact H2.shape k _ _ _ e
    ·cases hx
   cases e with
   | normal=>exact ⟨hdf,fin hk⟩
   | ret=>exact ⟨hdf,fin hk⟩
   | _=>cases hk
  ·cases hc
 ·cases hc
theorem fs_ok (hT:TTok E) (hE:EnvOK E) {s:FS} {fn:Func} {body:Code} {L:List Spec} {n:Nat} {h:Hint} {rs:List RV} (hf:E.P.funcs[s.f]?=some fn) (hb:fn.body=some body) (hname:(fn.name == "runtime.NumGoroutine")=false) (hres:fn.results=(rs.map RV.to).toArray)
 (hnt:fn.ntmps=nt) (hlen:s.as.length≤nt) (hio:E.io=s.io.length) (hns:(s.io++s.own).length≤ns) (hL:LoopsOK E ns nt L n body) (hM:∀ d,evC E L n h body [] (ent ns nt s.as (s.io++s.own) d) (finR E s.t s.m s.io rs)=s.M d):s.OK E.P :=
 fs_gen hT hE hf hb hname hres hnt hlen hio hns hL (B:=Unit) (E0:=fun d _=>ent ns nt s.as (s.io++s.own) d) (cond:=fun _ _=>True) (fun _ _=>⟨rfl,rfl,rfl⟩) (fun _ _ _ _ _ _ h=>⟨(),trivial,h⟩) (fun d _ r _ hr=>(hM d).trans hr)
def entN (ns nt:Nat) (t:Ty) (as:List MS) (io:IO) (d:denT (denIO io) (shp (.val (.sl t) :: as) 0)) (b:Bool):Sm :=
 ⟨fun i=>bif Nat.beq i 0 then .nv t d.1 b else mkT (shp as 1) d.2 (fun _ _=>.dead) i,mkS ns (shpS io 0) (restT (shp (.val (.sl t) :: as) 0) d),ns,nt⟩
theorem fs_okN (hT:TTok E) (hE:EnvOK E) {f:FuncId} {t T:Ty} {as:List MS} {io own:IO} {m:Mk} {M:denT (denIO (io++own)) (shp (.val (.sl t) :: as) 0)→Option (outD T.den io)} {fn:Func} {body:Code} {L:List Spec} {n:Nat} {h:Hint} {rs:List RV} (hf:E.P.funcs[f]?=some fn) (hb:fn.body=some body) (hname:(fn.name == "runtime.NumGoroutine")=false) (hres:fn.results=(rs.map RV.to).toArray)
 (hnt:fn.ntmps=nt) (hlen:as.length+1≤nt) (hio:E.io=io.length) (hns:(io++own).length≤ns) (hL:LoopsOK E ns nt L n body)
 (hM:∀ d b r,(b=true→d.1=([]:List t.den))→M d=some r→evC E L n h body [] (entN ns nt t as (io++own) d b) (finR E T m io rs)=some r):(FS.mk f (.val (.sl t) :: as) io own T m M).OK E.P:=by
 refine fs_gen (s:=FS.mk f (.val (.sl t) :: as) io own T m M) hT hE hf hb hname hres hnt hlen hio hns hL (B:=Bool) (E0:=fun d b=>entN ns nt t as (io++own) d b) (cond:=fun d b=>b=true→d.1=([]:List t.den)) (fun _ _=>⟨rfl,rfl,rfl⟩) (fun d Z w hdr fp val hv => ?_) (fun d b r hb hr=>hM d b r hb hr)
 have h0:=hv 0
 have h0:RelV Z w (ent ns nt (.val (.sl t) :: as) (io++own) d).look hdr fp (.val (.sl t) d.1) (val 0):=h0
 rcases h0 with h0 | ⟨cs,hr,he⟩
 ·cases h0
 have hr0:=hr
 obtain ⟨A,cap,rfl,hc,h2⟩:=hr
 refine ⟨A.isNone,fun hA => ?_,fun i => ?_⟩
 ·rcases h2 with h2 | ⟨b,o,h2,_⟩
  ·exact h2
  ·rw [h2] at hA; cases hA
 ·by_cases e:i=0
  ·subst e
   exact .inr ⟨_,⟨hr0,fun A' l c hA=>by
    simp only [List.cons.injEq,Value.slice.injEq,and_true] at hA
    rw [hA.1]⟩,he⟩
  ·have:=hv i
   simp only [ent,entN,shp,mkT] at this ⊢
   rw [beq_ne_ e] at this ⊢
   exact this
theorem fs_zero {P:Program} {s:FS} {fn:Func} {body:Code} (hf:P.funcs[s.f]?=some fn) (hb:fn.body=some body) (hname:(fn.name == "runtime.NumGoroutine")=false) (hM:∀ d,s.M d=none):s.OK P:=by
 intro arg ios c hc
 simp only [FS.res] at hc
 split at hc
 ·split at hc
  ·rename_i d hd
   obtain rfl:=Option.some.inj hc
   refine ⟨⟨fn,hf,by rw [hb]; rfl,hname⟩,fun r hr => ?_⟩
   simp only at hr
   rw [hM d] at hr; cases hr
  ·cases hc
 ·cases hc
end
end Go.Proofs.YtmidcfjmchpcnaaGreat.V
namespace Go.Proofs.YtmidcfjmchpcnaaGreat.V
open Go
set_option linter.unusedVariables false
set_option linter.all false
section
variable {E:Env} {Z0:Ctx E.io} {w0:World} {ns nt:Nat} {w:World} {hdr:Nat→Value}
end
end Go.Proofs.YtmidcfjmchpcnaaGreat.V
namespace Go.Proofs.YtmidcfjmchpcnaaGreat.V
open Go
set_option linter.unusedVariables false
set_option linter.all false
section
variable {E:Env} {Z0:Ctx E.io} {w0:World} {ns nt:Nat} {w:World} {hdr:Nat→Value}
theorem ent_rel {E:Env} {as:List MS} {ioo:IO} {ntm:Nat} {arg:Arg} {ios:List SlotC} {z:denIO ioo} {d:denT (denIO ioo) (shp as 0)} (hio:E.io≤ioo.length) (hns:ioo.length≤ns) (hlen:as.length≤nt) (hnt:ntm=nt)
 (hz0:rdIO ioo 0 ios=some z) (hd:raL z as 0 arg=some d) {Z:Bs} {fp:Nat→Bs} {vs:List Value} (HC:HR Z w (ioSl ios) hdr fp) (hA:RepA Z w ios.length hdr arg vs) :
 vs.length=as.length∧Rel (⟨Z,fun b=>∃ k,fp k b,hdr,[]⟩:Ctx E.io) w ns nt (ent ns nt as ioo d) { tmps:=vs.toArray++Array.replicate (ntm-vs.toArray.size) undef,defers:=[] } w:=by
 obtain ⟨hil,hmk⟩:=rdIO_mk (ns:=ns) ioo 0 hz0
 rw [hil] at hA
 have hrest:=raL_rest as 0 hd
 have hslk:∀ k,k<ioo.length→∃ S,(ent ns nt as ioo d).look k=some S:=fun k hk=>(mkS_ns (shpS ioo 0)).2 (Nat.lt_of_lt_of_le hk hns)
 obtain ⟨hl,hg⟩:=raL_ok hslk as 0 (fp:=fp) hd hA
 have hcont:∀ s0 hv cv c,(ent ns nt as ioo d).look s0=some ⟨hv,cv,some c⟩→ioSl ios s0=some ⟨0,0,some c⟩:=fun s0 hv cv c h=>by
  simp only [ent,hrest] at h
  obtain ⟨k,e1,e2⟩:=hmk s0 hv cv c h
  rw [Nat.zero_add] at e1
  subst e1
  simp only [ioSl,e2,Option.map_some]
 have hrel:Rel (⟨Z,fun b=>∃ k,fp k b,hdr,[]⟩:Ctx E.io) w ns nt (ent ns nt as ioo d) { tmps:=vs.toArray++Array.replicate (ntm-vs.toArray.size) undef,defers:=[] } w:=by
  refine ⟨Z,hdr,fp,⟨fun s hv cv c h => ?_,fun s hv cv c h => ?_,HC.disj,HC.lt,HC.zlt,HC.dz⟩,⟨fun _ h=>h,fun b hb hf=>⟨rfl,fun s h=>hf ⟨s,h⟩,fun h=>h⟩,Nat.le_refl _,rfl,rfl,rfl⟩,⟨fun s hs=>(mkS_ns _).1 hs,fun k hk => ?_⟩,fun i => ?_,?_,rfl,rfl,rfl⟩
  ·exact HC.rep _ _ _ _ (hcont s hv cv c h)
  ·exact HC.shape _ _ _ _ (hcont s hv cv c h)
  ·obtain ⟨S,hS⟩:=hslk k (Nat.lt_of_lt_of_le hk hio)
   exact ⟨S,hS,mkS_hv _ hS,fun _ _=>rfl⟩
  ·have hgi:=hg i
   rw [Nat.zero_add] at hgi
   simp only [Act.eval,Array.getD_eq_getD_getElem?,Array.getElem?_append,List.size_toArray]
   by_cases hi:i<vs.length
   ·rw [if_pos hi]
    have e:vs[i]?=some vs[i]:=List.getElem?_eq_getElem hi
    rw [List.getElem?_toArray,e]
    exact (hgi _).2.1 e
   ·exact .inl ((hgi undef).2.2 (List.getElem?_eq_none (Nat.le_of_not_lt hi)))
  ·simp only [ent,Array.size_append,List.size_toArray,Array.size_replicate]
   omega
 exact ⟨hl,hrel⟩
theorem bind_id_some {α:Type} {o:Option (Option α)} {c:α} (h:o.bind id=some c):o=some (some c):=by
 cases o with
 | none=>cases h
 | some x=>exact congrArg some h
theorem ret_post (hT:TTok E) {t:Ty} {m:Mk} {io:IO} {rs:List RV} {fn:Func} (hio:E.io=io.length) (hres:fn.results=(rs.map RV.to).toArray) {r:outD t.den io} {st':Sm} {a':Act} {w w':World} {Z:Bs} {hdr:Nat→Value} {fp:Nat→Bs} {ios:List SlotC} (hil:ios.length=io.length) {Z1:Bs} {hdr1:Nat→Value} {fp1:Nat→Bs} {df:List Deferred}
 (H1:HR Z1 w' st'.look hdr1 fp1) (F1:Fr (⟨Z,fun b=>∃ k,fp k b,hdr,df⟩:Ctx E.io) w Z1 w' fp1) (hn1:Pin (⟨Z,fun b=>∃ k,fp k b,hdr,df⟩:Ctx E.io) st'.look hdr1) (ht:∀ i:Nat,RelV Z1 w' st'.look hdr1 fp1 (st'.tm i) (a'.eval (.tmp i))) :
 finR E t m io rs .ret st'=some r→∃ v,(results fn a'.tmps).run E.P w'=.ok v w'∧∃ Z' fp' F us,CallPost Z w hdr fp ios t m (out1 io r) (wrIO io 0 (out2 io r)) (.returned v) w' Z' fp' F us:=by
 intro hx
 simp only [finR] at hx
 split at hx
 ·rename_i x lk hx0
  obtain ⟨rfl,g2,g3⟩:=finIO_ok hx
  obtain ⟨Z2,fp2,F,vs2,H2,T2,V2,R2,hand,_⟩:=retTake_ok hT (val:=fun i=>a'.eval (.tmp i)) hx0 H1 ht
  have F2:=F1.trans H2 T2
  obtain ⟨w1,w2⟩:=rdS_wr io 0 g3
  have there:∀ k c,(wrIO io 0 (out2 io r))[k]?=some (some c)→∃ hv cv,lk k=some ⟨hv,cv,some c⟩∧hdr1 k=hdr k:=fun k c hk=>by
   obtain ⟨hv,cv,e⟩:=w2 k c hk
   rw [Nat.zero_add] at e
   have hlt:k<io.length:=by rw [← w1]; exact (List.getElem?_eq_some_iff.1 hk).1
   obtain ⟨S',g4,g5⟩:=hv0_ok io 0 g2 k hlt
   rw [Nat.zero_add,e] at g4
   obtain rfl:=Option.some.inj g4
   obtain ⟨S,p1,p2,p3⟩:=hn1 k (by rw [hio]; exact hlt)
   obtain ⟨S2,q1,q2⟩:=T2.slot k S p1
   rw [e] at q1; obtain rfl:=Option.some.inj q1
   refine ⟨hv,cv,e,?_⟩
   rcases q2 with q | ⟨_,_,q⟩ | ⟨_,_,q⟩
   ·simp only at q g5; omega
   ·obtain ⟨⟨c1,hc1⟩,_⟩:=q c rfl; exact p3 c1 hc1
   ·obtain ⟨c1,hc1,_⟩:=q c rfl; exact p3 c1 hc1
  refine ⟨_,results_ok hres V2,Z2,fun k b=>k<io.length∧fp2 k b,F,_,rfl,fun b hb hk=>(F2.old b hb (fun ⟨k,h⟩=>hk k h)).1,F2.size,F2.os,F2.tape,F2.output,F2.z,fun b hb=>⟨H2.zlt b hb,?_⟩,fun b hb => ?_,fun k b hk => ?_,by rw [w1,hil],?_,R2⟩
  ·by_cases hlt:b<w.heap.size
   ·by_cases hf:∃ k,fp k b
    ·exact .inr (.inl hf)
    ·exact .inl ((F2.old b hlt hf).2.2 hb)
   ·exact .inr (.inr hlt)
  ·obtain ⟨q,_,_,q1,q2⟩:=hand b hb
   refine ⟨?_,H2.lt q b q1,H2.dz q b q1,fun k hk => ?_⟩
   ·by_cases hlt:b<w.heap.size
    ·by_cases hf:∃ k,fp k b
     ·exact .inl hf
     ·exact ((F2.old b hlt hf).2.1 q q1).elim
    ·exact .inr hlt
   ·obtain rfl:=H2.disj _ _ _ hk.2 q1
    obtain ⟨c,hc⟩:∃ c,(wrIO io 0 (out2 io r))[k]?=some (some c):=wrIO_some io 0 hk.1
    obtain ⟨hv,cv,e,_⟩:=there k c hc
    exact q2 hv cv c e
  ·refine ⟨by rw [hil]; exact hk.1,?_⟩
   by_cases hlt:b<w.heap.size
   ·by_cases hf:∃ k,fp k b
    ·exact .inl hf
    ·exact ((F2.old b hlt hf).2.1 k hk.2).elim
   ·exact .inr hlt
  ·refine ⟨fun k hv cv c h => ?_,fun k hv cv c h => ?_,fun k k' b h h'=>H2.disj _ _ _ h.2 h'.2,fun k b h=>H2.lt _ _ h.2,H2.zlt,fun k b h=>H2.dz _ _ h.2⟩
   ·simp only [ioSlO,Option.map_eq_some_iff] at h
    obtain ⟨c',h1,h2⟩:=h
    simp only [Slot.mk.injEq,Option.some.injEq] at h2
    obtain ⟨_,_,rfl⟩:=h2
    have h1:=bind_id_some h1
    obtain ⟨hv,cv,e,e2⟩:=there k _ h1
    have:=H2.rep k _ _ _ e
    rw [e2] at this
    exact this.mono (fun b hb=>⟨by rw [← w1]; exact (List.getElem?_eq_some_iff.1 h1).1,hb⟩)
   ·simp only [ioSlO,Option.map_eq_some_iff] at h
    obtain ⟨c',h1,h2⟩:=h
    simp only [Slot.mk.injEq,Option.some.injEq] at h2
    obtain ⟨_,_,rfl⟩:=h2
    have h1:=bind_id_some h1
    obtain ⟨hv,cv,e,e2⟩:=there k _ h1
    exact H2.shape k _ _ _ e
 ·cases hx
structure FD where
 f:FuncId
 io:IO
 T:TypeId
 Mr:denIO io→Option (denIO io)
 Mp:denIO io→Option (denIO io)
def ptrs:IO→Nat→List MS
 | [],_=>[]
 | c :: l,i=>.ptr i c.2.1 :: ptrs l (i+1)
def ptrA:IO→Nat→Arg
 | [],_=>.tn
 | c :: l,i=>.tc (.mp i c.2.1) (ptrA l (i+1))
def FD.M (s:FD) (pm:Bool):denIO s.io→Option (denIO s.io):=bif pm then s.Mp else s.Mr
def modeB (pm:Bool) (T:TypeId):FrameMode:=bif pm then .panicking (panCh T) else .returning
def modeA (pm:Bool) (T:TypeId):FrameMode:=bif pm then .panicking [{ v:=.iface T (.agg #[]),recovered:=true }] else .returning
def FD.OK (P:Program) (s:FD):Prop:=(∃ fn,P.funcs[s.f]?=some fn∧fn.body.isSome=true∧(fn.name == "runtime.NumGoroutine")=false) ∧
 ∀ (pm:Bool) ios z x,rdIO s.io 0 ios=some z→s.M pm z=some x→∀ (Z:Bs) (w:World) (hd:Nat→Value) (fp:Nat→Bs) (vs:List Value),HR Z w (ioSl ios) hd fp→(∀ k b,fp k b→k<ios.length)→RepA Z w ios.length hd (ptrA s.io 0) vs →
  CallsD P s.f vs.toArray (modeB pm s.T) w fun e u' w'=>u'=modeA pm s.T∧∃ Z' fp' F us,CallPost Z w hd fp ios .unit .im () (wrIO s.io 0 x) e w' Z' fp' F us
def recB (o:Oper):Bool:=o.guard.isNone && (match o.op with
 | .call c=>(match c.callee with
  | .builtin .recover=>true
  | _=>false)
 | _=>false)
def mvR (pm:Bool) (T:TypeId):MV:=bif pm then .val (.ex (.ifc T 0) .unit .unit) (some (.inl ()):Option (Unit ⊕ Unit)) else .val (.ex (.ifc 0 0) .unit .unit) (none:Option (Unit ⊕ Unit))
def evFD {R:Type} (E:Env) (L:List Spec) (n:Nat) (h:Hint) (hs:List OH) (c:Code) (mv:MV) (st:Sm) (K:Exit→Sm→Option R):Option R :=
 match c with
 | .seq (.region id ops false) b=>match ops[0]? with
  | some o=>bif recB o then evOps E ops (fun T=>K (.panic (panCh T))) (List.range ops.size).tail hs (st.put o.dst mv) (fun st'=>evC E L n h b [1] st' K) else none
  | none=>none
 | _=>none
def finI (E:Env) (io:IO) (e:Exit) (st:Sm):Option (denIO io) :=
 match e with
 | .normal | .ret=>(finR E .unit .im io [] .ret st).map (out2 io)
 | _=>none
theorem ra_ptr1 (k:Nat) (t:Ty):(MS.ptr k t).ra (.mp k t)=bif Nat.beq k k && decide (t=t) then some () else none:=rfl
theorem ra_ptr (k:Nat) (t:Ty):∃ x,(MS.ptr k t).ra (.mp k t)=some x:=by
 rw [ra_ptr1]
 have:(Nat.beq k k && decide (t=t))=true:=by simp
 rw [this]
 exact ⟨(),rfl⟩
theorem raL_ptr {S:Type} {z:S}:∀ (io:IO) (i:Nat),∃ d,raL z (ptrs io i) i (ptrA io i)=some d
 | [],i=>⟨z,rfl⟩
 | c :: l,i=>by
  obtain ⟨d,h⟩:=raL_ptr (z:=z) l (i+1)
  obtain ⟨x,e1⟩:=ra_ptr i c.2.1
  refine ⟨(x,d),?_⟩
  simp only [ptrs,ptrA,raL]
  rw [e1]
  simp only [MS.isL,cond_false,h]
theorem ptrs_len:∀ (io:IO) (i:Nat),(ptrs io i).length=io.length
 | [],_=>rfl
 | _ :: l,i=>by simp only [ptrs,List.length_cons,ptrs_len l]
theorem wpS_rec {P:Program} {Q:Exit→Act→List Frame→World→Prop} {a:Act} {cs cs':List Frame} {w:World} {id:Nat} {ops:Array Oper} {o:Oper} {tail:List Nat} {v:Value} (hr:List.range ops.size=0 :: tail) (ho:ops[0]?=some o) (hw:Region.wanted o (yielded ops a.tmps)=true) (hx:(execOp a.eval o).run P w=.ok .recover w)
 (hv:recoverD cs=some (v,cs')∨recoverD cs=none∧v=.nilIface∧cs'=cs) (h:wpOps P ops (fun e a w=>Q e a cs' w) tail (a.put o.dst v) w):(Code.region id ops false).wpS P Q a cs w:=by
 intro b k hb hro
 obtain ⟨e,a',w',hq,harr⟩:=wp_ops tail _ w h b k cs'
 have hg:=stepG_op (P:=P) (b:=b) (k:=k) (cs:=cs) (w:=w) (rest:=tail) ho hw
 have hfin:∀ v,(b.at a (.inRegion ops (0 :: tail) :: k)).finish v=b.at (a.put o.dst v) (.inRegion ops tail :: k):=by
  intro v; rw [Frame.finish_at,ho]; rfl
 have hk:(b.at a (.inRegion ops (0 :: tail) :: k)).kind=.deferred:=hb
 have htr:=tryRecover_deferred hk cs
 have hst:=step_region (P:=P) (b:=b) (a:=a) (k:=k) (cs:=cs) (w:=w) (ops:=ops) (id:=id)
 rw [hr] at hst
 refine ⟨e,a',cs',w',hq,.of_steps (.one hst) (.of_steps (.one (step_lone_go ?_)) harr)⟩
 rcases hv with hv | ⟨hv,rfl,rfl⟩
 ·rw [hg,← hfin]
  simp only [Frame.at] at htr ⊢
  simp [stepG.apply,hx,htr,hv]
 ·rw [hg,← hfin]
  simp only [Frame.at] at htr ⊢
  simp [stepG.apply,hx,htr,hv]
theorem recB_ok {o:Oper} (h:recB o=true) {P:Program} {a:Act} {w:World} {ops:Array Oper}:Region.wanted o (yielded ops a.tmps)=true∧(execOp a.eval o).run P w=.ok .recover w:=by
 simp only [recB,Bool.and_eq_true,Option.isNone_iff_eq_none] at h
 obtain ⟨h1,h2⟩:=h
 refine ⟨by simp only [Region.wanted,h1],?_⟩
 split at h2
 ·rename_i c ho
  split at h2
  ·rename_i hc
   unfold execOp; rw [ho]
   simp only [resolve,hc,pure_bind,invoke,builtin]
   rfl
  ·cases h2
 ·cases h2
theorem fd_ok (hT:TTok E) (hE:EnvOK E) {s:FD} {fn:Func} {body:Code} {L:List Spec} {n:Nat} {h:Bool→Hint} {hs:Bool→List OH} (hf:E.P.funcs[s.f]?=some fn) (hb:fn.body=some body) (hname:(fn.name == "runtime.NumGoroutine")=false) (hres:fn.results = #[])
 (hnt:fn.ntmps=nt) (hlen:s.io.length≤nt) (hio:E.io=s.io.length) (hns:s.io.length≤ns) (hL:LoopsOK E ns nt L n body) (hM:∀ pm (d:denT (denIO s.io) (shp (ptrs s.io 0) 0)),evFD E L n (h pm) (hs pm) body (mvR pm s.T) (ent ns nt (ptrs s.io 0) s.io d) (finI E s.io)=s.M pm (restT (shp (ptrs s.io 0) 0) d)):s.OK E.P:=by
 refine ⟨⟨fn,hf,by rw [hb]; rfl,hname⟩,fun pm ios z x hz hx Z w hd0 fp vs HC hfpk hA => ?_⟩
 obtain ⟨d,hd⟩:=raL_ptr (z:=z) s.io 0
 have hrest:=raL_rest (ptrs s.io 0) 0 hd
 obtain ⟨hl,hrel⟩:=ent_rel (E:=E) (ns:=ns) (nt:=nt) (ntm:=fn.ntmps) (by omega) hns (by rw [ptrs_len]; exact hlen) hnt hz hd HC hA
 have hev:=hM pm d
 rw [hrest,hx] at hev
 have hil:=(rdIO_mk (ns:=ns) s.io 0 hz).1
 unfold evFD at hev
 split at hev
 ·rename_i id ops b
  split at hev
  ·rename_i o ho
   obtain ⟨hrec,hev⟩:=cond_some hev
   have hsz:0<ops.size:=by
    rcases Nat.lt_or_ge 0 ops.size with h | h
    ·exact h
    ·rw [Array.getElem?_eq_none h] at ho; cases ho
   have htail:List.range ops.size=0 :: (List.range ops.size).tail:=by
    cases hc:List.range ops.size with
    | nil=>rw [List.range_eq_nil] at hc; omega
    | cons x l =>
     have:(List.range ops.size)[0]?=some 0:=by rw [List.getElem?_range hsz]
     rw [hc] at this
     obtain rfl:=Option.some.inj this
     rfl
   refine callsD_of_wpS hf hb (fun c0 cs hu=>wpS_seq ?_)
   let v:Value:=if pm then .iface s.T (.agg #[]) else .nilIface
   let cs':List Frame:={ c0 with mode:=modeA pm s.T } :: cs
   have hcs:recoverD (c0 :: cs)=some (v,cs')∨recoverD (c0 :: cs)=none∧v=.nilIface∧cs'=c0 :: cs:=by
    cases pm with
    | true =>
     refine .inl ?_
     have hu:c0.mode=.panicking (panCh s.T):=hu
     simp only [recoverD,hu,panCh]
     rfl
    | false =>
     have hu:c0.mode=.returning:=hu
     refine .inr ⟨by simp only [recoverD,hu],rfl,?_⟩
     show { c0 with mode:=FrameMode.returning } :: cs=c0 :: cs
     rw [← hu]
   obtain ⟨hw,hx1⟩:=recB_ok hrec (P:=E.P) (a:={ tmps:=vs.toArray++Array.replicate (fn.ntmps-vs.toArray.size) undef,defers:=[] }) (w:=w) (ops:=ops)
   refine wpS_rec htail ho hw hx1 hcs ?_
   have hrel1:Rel (⟨Z,fun b=>∃ k,fp k b,hd0,[]⟩:Ctx E.io) w ns nt ((ent ns nt (ptrs s.io 0) s.io d).put o.dst (mvR pm s.T)) (({ tmps:=vs.toArray++Array.replicate (fn.ntmps-vs.toArray.size) undef,defers:=[] }:Act).put o.dst v) w:=by
    obtain ⟨Z1,hdr1,fp1,H1,F1,hn1,ht1,hs1,hdf1⟩:=hrel
    refine put_rel H1 F1 hn1 ht1 hs1 hdf1 ?_
    cases pm with
    | true=>exact .inr ⟨[.iface s.T (.agg #[])],.inr (.inl ⟨(),[],rfl,rfl,rfl⟩),rfl⟩
    | false=>exact .inr ⟨[.nilIface],.inl ⟨rfl,rfl⟩,rfl⟩
   have fin:∀ (e:Exit) (st':Sm) (a':Act) (w':World),finI E s.io e st'=some x→Rel (⟨Z,fun b=>∃ k,fp k b,hd0,[]⟩:Ctx E.io) w ns nt st' a' w'→bodyPostS E.P fn c0 cs (fun e u' w'=>u'=modeA pm s.T∧∃ Z' fp' F us,CallPost Z w hd0 fp ios .unit .im () (wrIO s.io 0 x) e w' Z' fp' F us) e a' cs' w':=by
    intro e st' a' w' hfi hr'
    obtain ⟨Z1,hdr1,fp1,H1,F1,hn1,ht1,_,hdf,_,_⟩:=hr'
    have key:(finR E .unit .im s.io [] .ret st').map (out2 s.io)=some x→∃ v,(results fn a'.tmps).run E.P w'=.ok v w'∧∃ Z' fp' F us,CallPost Z w hd0 fp ios .unit .im () (wrIO s.io 0 x) (.returned v) w' Z' fp' F us:=fun hk=>by
     obtain ⟨r,hr,rfl⟩:=Option.map_eq_some_iff.1 hk
     have h5:=ret_post hT (t:=.unit) (m:=.im) (io:=s.io) (rs:=[]) (fn:=fn) hio (by rw [hres]; rfl) hil H1 F1 hn1.2 ht1 hr
     exact h5
    cases e with
    | normal =>
     obtain ⟨v,h1,h2⟩:=key hfi
     exact ⟨hdf,_,rfl,v,h1,rfl,h2⟩
    | ret =>
     obtain ⟨v,h1,h2⟩:=key hfi
     exact ⟨hdf,_,rfl,v,h1,rfl,h2⟩
    | _=>cases hfi
   refine evOps_ok (Q:=fun e a w9=>Exit.thenS (b.wpS E.P (bodyPostS E.P fn c0 cs (fun e u' w'=>u'=modeA pm s.T∧∃ Z' fp' F us,CallPost Z w hd0 fp ios .unit .im () (wrIO s.io 0 x) e w' Z' fp' F us))) (bodyPostS E.P fn c0 cs (fun e u' w'=>u'=modeA pm s.T∧∃ Z' fp' F us,CallPost Z w hd0 fp ios .unit .im () (wrIO s.io 0 x) e w' Z' fp' F us)) e a cs' w9) hT hE (fun st' a' w' h1 h2 => ?_) (fun T st' a' w' h1 h2 => ?_) hrel1 hev
   ·refine wpS_of_wp (evC_ok hT hE hL (SizeOf.sizeOf b) (h pm) b (Nat.le_refl _) (ps:=[1]) rfl h1 h2 (fun e st' a' w' hk hr'=>fin e st' a' w' hk hr'))
   ·cases h1
  ·cases hev
 ·cases hev
end
end Go.Proofs.YtmidcfjmchpcnaaGreat.V
namespace Go.Proofs.YtmidcfjmchpcnaaGreat.V
open Go
set_option linter.unusedVariables false
set_option linter.all false
inductive HD where
 | seq (h:Hint) (d:HD)
 | dfr (hs:List OH)
def HD.path:HD→List Nat→List Nat
 | .seq _ d,ps=>d.path (1 :: ps)
 | .dfr _,ps=>1 :: ps
def capsB (look:Nat→Option Slot):IO→Nat→MV→Bool
 | [],_,.tn=>true
 | c :: l,i,.tc (.ptr s hv t) u=>Nat.beq s i && decide (t=c.2.1) && (lookH look s hv).isSome && capsB look l (i+1) u
 | _,_,_=>false
def evD {R:Type} (E:Env) (L:List Spec) (n:Nat) (D:FD) (sh:Shape) (K1:Exit→Sm→Option R) (K2:sh.den→Option R):HD→Code→List Nat→Sm→Option R
 | .seq h d,c,ps,st=>match c with
  | .seq a b=>evC E L n h a (0 :: ps) st fun e st'=>match e with
   | .normal=>evD E L n D sh K1 K2 d b (1 :: ps) st'
   | e=>K1 e st'
  | _=>none
 | .dfr hs,c,ps,st=>match c with
  | .seq (.region id ops false) b=>match ops[ops.size-1]? with
   | some o=>match o.guard,o.dst,o.op with
    | none,none,.defer cl=>match cl.callee,cl.args.toList with
     | .value f,[]=>evOps E ops (fun T=>K1 (.panic (panCh T))) (List.range (ops.size-1)) hs st fun st1=>match st1.ev f with
      | .fn g caps=>bif Nat.beq g D.f && capsB st1.look D.io 0 caps then (match sh.rd st1 with
       | some d=>K2 d
       | none=>none) else none
      | _=>none
     | _,_=>none
    | _,_,_=>none
   | none=>none
  | _=>none
def finD1 (E:Env) (D:FD) (pm:Bool) (t:Ty) (m:Mk) (rs:List RV) (st:Sm):Option t.den :=
 match ioOf st.look (List.range D.io.length) with
 | some ios=>match rdIO D.io 0 ios with
  | some z=>(D.M pm z).bind fun x=>match ioUps st.look (List.range D.io.length) (wrIO D.io 0 x) with
   | some us=>match retTake E st.tm t m (us.look st.look) rs with
    | some (v,lk)=>some v
    | none=>none
   | none=>none
  | none=>none
 | none=>none
def finD (E:Env) (D:FD) (t:Ty) (m:Mk) (rs:List RV) (e:Exit) (st:Sm):Option t.den :=
 match e with
 | .normal | .ret=>finD1 E D false t m rs st
 | .panic ch=>bif isPan D.T ch then finD1 E D true t m rs st else none
 | _=>none
section
variable {E:Env} {Z0:Ctx E.io} {w0:World} {ns nt:Nat} {w:World} {hdr:Nat→Value}
theorem rd_rel2 {sh:Shape} {st:Sm} {d:sh.den} {a:Act} {Z:Bs} {fp:Nat→Bs} (h:sh.rd st=some d) (H:HR Z w st.look hdr fp) (F:Fr Z0 w0 Z w fp) (hn:(∀ s,¬ s<st.ns→st.look s=none)∧Pin Z0 st.look hdr) (ht:∀ i:Nat,RelV Z w st.look hdr fp (st.tm i) (a.eval (.tmp i))) :
 ∃ Z' fp',HR Z' w (sh.mk_ st.ns st.nt d).look hdr fp'∧Fr Z0 w0 Z' w fp'∧((∀ s,¬ s<st.ns→(sh.mk_ st.ns st.nt d).look s=none)∧Pin Z0 (sh.mk_ st.ns st.nt d).look hdr)∧∀ i:Nat,RelV Z' w (sh.mk_ st.ns st.nt d).look hdr fp' ((sh.mk_ st.ns st.nt d).tm i) (a.eval (.tmp i)):=by
 obtain ⟨Z',fp',sl',H',T',hk,hn',hv',hh',hm⟩:=rdT_ok (val:=fun i=>a.eval (.tmp i)) sh.tm h H hn.1 ht
 obtain ⟨hb,hk⟩:=cond_some hk
 have h2:∀ s,(∃ S,sl' s=some S)→∃ S,mkS st.ns sh.sl (restT sh.tm d) s=some S:=fun s ⟨S,hS⟩=>(mkS_ns sh.sl).2 (Decidable.byContradiction fun hc=>by rw [hn' s hc] at hS; cases hS)
 have hp':Pin Z0 sl' hdr:=hn.2.trans T' (fun s S S' _ h1 h2=>by
  obtain ⟨S2,g1,g2⟩:=hh' s S h1
  rw [h2] at g1; obtain rfl:=Option.some.inj g1; exact g2)
 refine ⟨Z',fp',⟨fun s hv cv c hc => ?_,fun s hv cv c hc => ?_,H'.disj,H'.lt,H'.zlt,H'.dz⟩,F.trans H' T',⟨fun s hs=>(mkS_ns sh.sl).1 hs,fun s hs => ?_⟩,fun i=>hm _ i _ (fun s hs=>(mkS_ns sh.sl).2 hs) (rdR_ok (val:=fun i=>a.eval (.tmp i)) h2 (fun s hv cv c hc=>rdS_ok sh.sl hk hc) sh.rt hb i (hv' i))⟩
 ·obtain ⟨_,_,e⟩:=rdS_ok sh.sl hk hc; exact H'.rep _ _ _ _ e
 ·obtain ⟨_,_,e⟩:=rdS_ok sh.sl hk hc; exact H'.shape _ _ _ _ e
 ·obtain ⟨S,g1,g2,g3⟩:=hp' s hs
  obtain ⟨S2,g4⟩:=h2 s ⟨S,g1⟩
  refine ⟨S2,g4,mkS_hv sh.sl g4,fun c hc => ?_⟩
  obtain ⟨hv2,cv2,c2⟩:=S2
  simp only at hc
  subst hc
  obtain ⟨hv0,cv0,e⟩:=rdS_ok sh.sl hk g4
  rw [e] at g1; obtain rfl:=Option.some.inj g1
  exact g3 c rfl
def QN (Q:Exit→Act→World→Prop) (N:Act→World→Prop):Exit→Act→World→Prop
 | .normal,a,w=>N a w
 | e,a,w=>Q e a w
theorem wpOps_app {P:Program} {ops:Array Oper} {Q Q':Exit→Act→World→Prop} {is2:List Nat} (hn:∀ a w,Q' .normal a w→wpOps P ops Q is2 a w) (hq:∀ e a w,e≠.normal→Q' e a w→Q e a w):∀ {is1:List Nat} {a:Act} {w:World},wpOps P ops Q' is1 a w→wpOps P ops Q (is1++is2) a w
 | [],a,w,h=>hn a w h
 | i :: is,a,w,h=>by
  rw [List.cons_append,wpOps_cons]
  rw [wpOps_cons] at h
  unfold wpOp at h ⊢
  split
  ·rename_i ho
   rw [ho] at h
   exact wpOps_app hn hq h
  ·rename_i o ho
   rw [ho] at h
   simp only [] at h
   split
   ·rename_i hw
    rw [if_pos hw] at h
    rcases h with h | ⟨h1,a0,w1,h2⟩
    ·refine .inl ?_
     unfold Oper.wp at h ⊢
     generalize (execOp a.eval o).run P w=r at h ⊢
     unfold Oper.upon at h ⊢
     split <;> simp only [] at h
     ·exact wpOps_app hn hq h
     ·exact wpOps_app hn hq h
     ·exact wpOps_app hn hq h
     ·refine h.mono fun e w' he => ?_
      cases e with
      | returned v=>exact wpOps_app hn hq he
      | panicked ch=>exact hq _ _ _ (by intro h; cases h) he
      | outgrown=>obtain ⟨a1,w2,h3⟩:=he; exact ⟨a1,w2,hq _ _ _ (by intro h; cases h) h3⟩
     ·intro b cs
      obtain ⟨v,w'',h3,h4⟩:=h b cs
      exact ⟨v,w'',wpOps_app hn hq h3,h4⟩
     ·exact hq _ _ _ (by intro h; cases h) h
    ·exact .inr ⟨h1,a0,w1,hq _ _ _ (by intro h; cases h) h2⟩
   ·rename_i hw
    rw [if_neg hw] at h
    exact wpOps_app hn hq h
theorem capsB_ok {Z:Bs} {sl:Nat→Option Slot} {fp:Nat→Bs} {N:Nat}:∀ (io:IO) (i:Nat) {caps:MV} {ks:List Value},capsB sl io i caps=true→RelC Z w sl hdr fp caps ks→i+io.length≤N→RepA Z w N hdr (ptrA io i) ks
 | [],i,caps,ks,h,hr,_=>by
  cases caps with
  | tn=>exact hr
  | _=>cases h
 | c :: l,i,caps,ks,h,hr,hN=>by
  cases caps with
  | tc u v =>
   cases u with
   | ptr s hv t =>
    simp only [capsB,Bool.and_eq_true] at h
    obtain ⟨⟨⟨h1,h2⟩,h3⟩,h4⟩:=h
    obtain rfl:=Nat.eq_of_beq_eq_true h1
    obtain ⟨c1,v0,vs,rfl,g1,g2⟩:=hr
    simp only [List.length_cons] at hN
    refine ⟨v0,vs,rfl,?_,capsB_ok l (s+1) h4 g2 (by omega)⟩
    rcases g1 with g1 | ⟨g1,g3⟩
    ·cases g1
    ·cases hl:lookH sl s hv with
     | none=>rw [hl] at h3; cases h3
     | some p =>
      obtain ⟨cv,c0⟩:=p
      have e2:=lookH_some hl
      obtain ⟨_,S,q1,_,q3⟩:=g1
      rw [e2] at q1; obtain rfl:=Option.some.inj q1
      obtain ⟨b,o,le,cap,q4,q5⟩:=q3 rfl c0 rfl
      refine ⟨by omega,b,o,le,cap,q4,?_⟩
      rw [g3,q5]; rfl
   | _=>cases h
  | _=>cases h
theorem ptrA_congr {Z Z':Bs} {w w':World} {N:Nat} {hd hd':Nat→Value} (he:∀ k,k<N→hd' k=hd k):∀ (io:IO) (i:Nat) {ks:List Value},RepA Z w N hd (ptrA io i) ks→RepA Z' w' N hd' (ptrA io i) ks
 | [],i,ks,h=>h
 | c :: l,i,ks,⟨v,vs,e,⟨h1,b,o,le,cap,h2,h3⟩,h4⟩=>⟨v,vs,e,⟨h1,b,o,le,cap,by rw [he i h1]; exact h2,h3⟩,ptrA_congr he l (i+1) h4⟩
theorem evD_ok (hT:TTok E) (hE:EnvOK E) {L:List Spec} {n:Nat} {root:Code} (hL:LoopsOK E ns nt L n root) {D:FD} {sh:Shape} {R:Type} {r:R} {K1:Exit→Sm→Option R} {K2:sh.den→Option R} {Q:Exit→Act→World→Prop} (hdf0:Z0.df=[])
 (hK1:∀ e st' a' w',e≠.normal→K1 e st'=some r→Rel Z0 w0 ns nt st' a' w'→Q e a' w'):∀ (hd:HD) (c:Code) {ps:List Nat} {st:Sm} {a:Act} {w:World},codeAt root ps=some c→evD E L n D sh K1 K2 hd c ps st=some r→Rel Z0 w0 ns nt st a w →
 (∀ d b (a':Act) w' ks Z' hdr' fp',codeAt root (hd.path ps)=some b→K2 d=some r→HR Z' w' (sh.mk_ ns nt d).look hdr' fp'→Fr Z0 w0 Z' w' fp'→(∀ s,¬ s<ns→(sh.mk_ ns nt d).look s=none)→(∀ i:Nat,RelV Z' w' (sh.mk_ ns nt d).look hdr' fp' ((sh.mk_ ns nt d).tm i) (a'.eval (.tmp i)))→a'.tmps.size=nt →
  RepA Z' w' D.io.length hdr' (ptrA D.io 0) ks→b.wp E.P Q { a' with defers:=[{ target:=.fn (.func D.f) ks.toArray,args := #[] }] } w')→c.wp E.P Q a w:=by
 intro hd
 induction hd with
 | seq h d ih =>
  intro c ps st a w hc hh hr hK2
  simp only [evD] at hh
  split at hh
  ·rename_i x y
   refine wp_seq (evC_ok hT hE hL (SizeOf.sizeOf x) h x (Nat.le_refl _) (ps:=0 :: ps) (by simp only [codeAt,hc,Option.bind_some,sub]) hh hr (fun e st' a' w' hk hr' => ?_))
   cases e with
   | normal=>exact ih y (ps:=1 :: ps) (by simp only [codeAt,hc,Option.bind_some,sub]) hk hr' hK2
   | _=>exact hK1 _ _ _ _ (by intro h; cases h) hk hr'
  ·cases hh
 | dfr hs =>
  intro c ps st a w hc hh hr hK2
  simp only [evD] at hh
  split at hh
  ·rename_i id ops b
   split at hh
   ·rename_i o ho
    split at hh
    ·rename_i cl g1 g2 g3
     split at hh
     ·rename_i f hcl hargs
      have hsz:0<ops.size:=by
       rcases Nat.lt_or_ge (ops.size-1) ops.size with h | h
       ·omega
       ·rw [Array.getElem?_eq_none h] at ho; cases ho
      have hrange:List.range ops.size=List.range (ops.size-1)++[ops.size-1]:=by
       conv=>lhs; rw [show ops.size=(ops.size-1)+1 by omega]
       rw [List.range_succ]
      refine wp_seq (wp_region ?_)
      rw [hrange]
      refine wpOps_app (Q':=QN Q (fun a w=>wpOps E.P ops (Exit.then (b.wp E.P Q) Q) [ops.size-1] a w)) (fun a w h=>h) (fun e a w hne h=>by cases e <;> first | exact absurd rfl hne | exact h)
       (evOps_ok (Q:=QN Q (fun a w=>wpOps E.P ops (Exit.then (b.wp E.P Q) Q) [ops.size-1] a w)) hT hE (fun st1 a1 w1 h1 h2 => ?_) (fun T st1 a1 w1 h1 h2=>hK1 _ _ _ _ (by intro h; cases h) h1 h2) hr hh)
      show wpOps E.P ops (Exit.then (b.wp E.P Q) Q) [ops.size-1] a1 w1
      split at h1
      ·rename_i g caps hg
       obtain ⟨hb,h1'⟩:=cond_some h1
       clear h1
       simp only [Bool.and_eq_true] at hb
       obtain rfl:=Nat.eq_of_beq_eq_true hb.1
       split at h1'
       ·rename_i d hd
        obtain ⟨Z1,hdr1,fp1,H1,F1,hn1,ht1,hs1,hdf1,e1,e2⟩:=h2
        have hx:=eval_rel ht1 f
        rw [hg] at hx
        rcases hx with h0 | ⟨cx,⟨ks,rfl,hcaps⟩,he⟩
        ·cases h0
        have hev:a1.eval f=.func (.func D.f) #[] ks.toArray:=by rw [he]; rfl
        obtain ⟨Z2,fp2,H2,F2,hn2,ht2⟩:=rd_rel2 hd H1 F1 hn1 ht1
        rw [e1,e2] at H2 hn2 ht2
        have hks:=capsB_ok (N:=D.io.length) D.io 0 hb.2 hcaps (by omega)
        rw [wpOps_cons]
        unfold wpOp
        rw [ho]
        simp only [Region.wanted,g1,if_true]
        refine .inl ?_
        have hrun:(execOp a1.eval o).run E.P w1=.ok (.defer { target:=.fn (.func D.f) ks.toArray,args := #[] }) w1:=by
         have ha:cl.args = #[]:=Array.toList_inj.1 (by rw [hargs])
         unfold execOp; rw [g3]
         simp only [resolve,hcl,hev,Deferred.ofValue,Sem.run_bind,Sem.run_pure,Result.andThen_ok,ha]
         simp
        unfold Oper.wp
        rw [hrun,Oper.upon_defer,g2]
        show (b.wp E.P Q) _ _
        rw [hdf1,hdf0]
        exact hK2 d b a1 w1 ks Z2 hdr1 fp2 (by simp only [HD.path,codeAt,hc,Option.bind_some,sub]) h1' H2 F2 hn2.1 ht2 (hs1.trans e2) (ptrA_congr (fun _ _=>rfl) D.io 0 hks)
       ·cases h1'
      ·cases h1
     ·cases hh
    ·cases hh
   ·cases hh
  ·cases hh
end
end Go.Proofs.YtmidcfjmchpcnaaGreat.V
namespace Go.Proofs.YtmidcfjmchpcnaaGreat.V
open Go
set_option linter.unusedVariables false
set_option linter.all false
section
variable {E:Env} {ns nt:Nat}
theorem Fr.comp {n k:Nat} {Z0:Ctx n} {w0 w1 w2:World} {Z1 Z2:Bs} {fp1 fp2:Nat→Bs} {hd:Nat→Value} {df:List Deferred} (F1:Fr Z0 w0 Z1 w1 fp1) (F2:Fr (⟨Z1,fun b=>∃ s,fp1 s b,hd,df⟩:Ctx k) w1 Z2 w2 fp2):Fr Z0 w0 Z2 w2 fp2:=by
 refine ⟨fun b h=>F2.z b (F1.z b h),fun b hb hf => ?_,Nat.le_trans F1.size F2.size,F2.os.trans F1.os,F2.tape.trans F1.tape,F2.output.trans F1.output⟩
 obtain ⟨h1,h2,h3⟩:=F1.old b hb hf
 obtain ⟨g1,g2,g3⟩:=F2.old b (Nat.lt_of_lt_of_le hb F1.size) (fun ⟨s,hs⟩=>h2 s hs)
 exact ⟨g1.trans h1,g2,fun h=>h3 (g3 h)⟩
theorem nodupB_range (k:Nat):nodupB (List.range k)=true:=by
 have:∀ l:List Nat,l.Nodup→nodupB l=true:=by
  intro l
  induction l with
  | nil=>intro _; rfl
  | cons a l ih =>
   intro h
   rw [List.nodup_cons] at h
   simp only [nodupB,ih h.2,Bool.and_true,Bool.not_eq_true']
   cases he:l.elem a with
   | false=>rfl
   | true=>exact absurd (List.elem_iff.1 he) h.1
 exact this _ List.nodup_range
theorem range_getD {n k:Nat} (h:k<n):(List.range n).getD k 0=k:=by
 rw [List.getD_eq_getElem?_getD,List.getElem?_range h]; rfl
theorem invoke_fn {P:Program} {f:FuncId} {ks:Array Value} {fn:Func} {w:World} (h1:P.funcs[f]?=some fn) (h2:fn.body.isSome=true) (h3:(fn.name == "runtime.NumGoroutine")=false):(invoke (.fn (.func f) ks) #[]).run P w=.ok (.enter f ks) w:=by
 have h2':fn.body.isNone=false:=by cases hb:fn.body <;> simp_all
 simp only [invoke,callFunc,Sem.run_bind,run_program,Result.andThen_ok,h1,h2',h3,Bool.false_eq_true,if_false,Sem.run_pure]
 simp
theorem fs_defer (hT:TTok E) (hE:EnvOK E) {Γ2:FuncId→Arg→List SlotC→Option CallRes} {Γp2:FuncId→Arg→List SlotC→Option CallResP} {k:Nat} (hT2:TTok ⟨E.P,E.tt,Γ2,k,Γp2⟩) (hE2:EnvOK ⟨E.P,E.tt,Γ2,k,Γp2⟩) {f:FuncId} {as:List MS} {t:Ty} {m:Mk} {M:denT (denIO ([]++[])) (shp as 0)→Option (outD t.den [])} {fn:Func} {body:Code} {L1 L2:List Spec} {n:Nat} {hd:HD} {h2:Hint} {sh:Shape} {rs:List RV} {D:FD} {Rm:sh.den→Option t.den}
 (hio:E.io=0) (hk:k=D.io.length) (hkn:D.io.length≤ns) (hf:E.P.funcs[f]?=some fn) (hb:fn.body=some body) (hname:(fn.name == "runtime.NumGoroutine")=false) (hres:fn.results=(rs.map RV.to).toArray) (hnt:fn.ntmps=nt) (hlen:as.length≤nt)
 (hL1:LoopsOK E ns nt L1 n body) (hL2:LoopsOK ⟨E.P,E.tt,Γ2,k,Γp2⟩ ns nt L2 n body) (hD:D.OK E.P)
 (hR:∀ d1,((codeAt body (hd.path [])).bind fun c=>evC ⟨E.P,E.tt,Γ2,k,Γp2⟩ L2 n h2 c (hd.path []) (sh.mk_ ns nt d1) (finD ⟨E.P,E.tt,Γ2,k,Γp2⟩ D t m rs))=Rm d1)
 (hM:∀ d,evD E L1 n D sh (finR E t m [] rs) Rm hd body [] (ent ns nt as ([]++[]) d)=M d):(FS.mk f as [] [] t m M).OK E.P:=by
 intro arg ios c hc
 simp only [FS.res] at hc
 split at hc
 ·rename_i z hz0
  split at hc
  ·rename_i d hd0
   obtain rfl:=Option.some.inj hc
   refine ⟨⟨fn,hf,by rw [hb]; rfl,hname⟩,fun r hr Z w hdr fp vs HC hfpk hA => ?_⟩
   simp only at hr
   have hil:ios.length=0:=(rdIO_mk (ns:=ns) ([]++[]) 0 hz0).1
   obtain ⟨hl,hrel⟩:=ent_rel (E:=E) (ns:=ns) (nt:=nt) (ntm:=fn.ntmps) (ioo:=[]++[]) (by rw [hio]; exact Nat.zero_le _) (Nat.zero_le _) hlen hnt hz0 hd0 HC hA
   have hev:=hM d
   rw [hr] at hev
   have hfp0:∀ k b,¬ fp k b:=fun k b h=>by have:=hfpk k b h; omega
   have wrap:∀ {v:Value} {w3:World} {Z4:Bs} {F:Bs} {us:List Value} {fp4:Nat→Bs} {sl:Nat→Option Slot} {hd4:Nat→Value} {sl0:Nat→Option Slot} {fp3:Nat→Bs},v=retVal us→HR Z4 w3 sl hd4 fp4→Fr (⟨Z,fun b=>∃ k,fp k b,hdr,[]⟩:Ctx E.io) w Z4 w3 fp4→(∀ b,F b→∃ s,fp3 s b∧¬ noC sl0 s∧fp4 s b∧noC sl s)→RepR Z4 w3 t m (out1 [] r) F us →
    CallPost Z w hdr fp ios t m (out1 [] r) (wrIO [] 0 (out2 [] r)++List.replicate 0 none) (.returned v) w3 Z4 (fun _=>none_) F us:=by
    intro v w3 Z4 F us fp4 sl hd4 sl0 fp3 hv H4 F4 hand R4
    subst hv
    refine ⟨rfl,fun b hb hk=>(F4.old b hb (fun ⟨k,h⟩=>hk k h)).1,F4.size,F4.os,F4.tape,F4.output,F4.z,fun b hb=>⟨H4.zlt b hb,?_⟩,fun b hb => ?_,fun k b h=>h.elim,by simp [wrIO,hil],⟨fun s hv cv c h => ?_,fun s hv cv c h => ?_,fun s s' b h=>h.elim,fun s b h=>h.elim,H4.zlt,fun s b h=>h.elim⟩,R4⟩
    ·by_cases hlt:b<w.heap.size
     ·exact .inl ((F4.old b hlt (fun ⟨k,h⟩=>hfp0 k b h)).2.2 hb)
     ·exact .inr (.inr hlt)
    ·obtain ⟨q,_,_,q1,q2⟩:=hand b hb
     refine ⟨?_,H4.lt q b q1,H4.dz q b q1,fun k hk=>hk⟩
     by_cases hlt:b<w.heap.size
     ·exact ((F4.old b hlt (fun ⟨k,h⟩=>hfp0 k b h)).2.1 q q1).elim
     ·exact .inr hlt
    ·simp [ioSlO,wrIO] at h
    ·simp [ioSlO,wrIO] at h
   refine calls_of_wp_defers hf hb ?_
   refine evD_ok (Z0:=(⟨Z,fun b=>∃ k,fp k b,hdr,[]⟩:Ctx E.io)) hT hE hL1 rfl (fun e st' a' w' hne hk1 hr' => ?_) hd body (ps:=[]) rfl hev hrel ?_
   ·obtain ⟨Z1,hdr1,fp1,H1,F1,hn1,ht1,_,hdf,_,_⟩:=hr'
    cases e with
    | ret =>
     show Leaves E.P fn a'.tmps _ a'.defers .returning w'
     rw [hdf]
     obtain ⟨v,g1,g2⟩:=ret_post hT (t:=t) (m:=m) (io:=[]) (rs:=rs) (fn:=fn) (by rw [hio]; rfl) hres (ios:=ios) (by rw [hil]; rfl) H1 F1 hn1.2 ht1 hk1
     exact ⟨v,g1,by simpa using g2⟩
    | _=>first | exact absurd rfl hne | cases hk1
   ·intro d1 b a' w' ks Z1 hdr1 fp1 hcode hRm H1 F1 hn1 ht1 hs1 hks
    have hrest:=hR d1
    rw [hcode,Option.bind_some,hRm] at hrest
    have hrel2:Rel (⟨Z1,fun b=>∃ s,fp1 s b,hdr1,[{ target:=.fn (.func D.f) ks.toArray,args := #[] }]⟩:Ctx k) w' ns nt (sh.mk_ ns nt d1) { a' with defers:=[{ target:=.fn (.func D.f) ks.toArray,args := #[] }] } w':=by
     refine ⟨Z1,hdr1,fp1,H1,⟨fun _ h=>h,fun b hb hf=>⟨rfl,fun s h=>hf ⟨s,h⟩,fun h=>h⟩,Nat.le_refl _,rfl,rfl,rfl⟩,⟨hn1,fun s hs => ?_⟩,fun i=>ht1 i,hs1,rfl,rfl,rfl⟩
     obtain ⟨S,hS⟩:=(mkS_ns (ns:=ns) sh.sl (d:=restT sh.tm d1) (s:=s)).2 (Nat.lt_of_lt_of_le (by rw [← hk]; exact hs) hkn)
     exact ⟨S,hS,mkS_hv sh.sl hS,fun _ _=>rfl⟩
    refine evC_ok hT2 hE2 hL2 (SizeOf.sizeOf b) h2 b (Nat.le_refl _) (ps:=hd.path []) hcode hrest hrel2 (fun e st2 a2 w2 hfin hr2 => ?_)
    obtain ⟨Z2,hdr2,fp2,H2,F2,hn2,ht2,hs2,hdf2,hns2,_⟩:=hr2
    have key:∀ pm,finD1 ⟨E.P,E.tt,Γ2,k,Γp2⟩ D pm t m rs st2=some r→Leaves E.P fn a2.tmps (fun e w'=>∃ Z' fp' F us,CallPost Z w hdr fp ios t m (out1 [] r) (wrIO [] 0 (out2 [] r)++List.replicate 0 none) e w' Z' fp' F us) a2.defers (modeB pm D.T) w2:=by
     intro pm hfd
     unfold finD1 at hfd
     split at hfd
     ·rename_i ios2 eio
      split at hfd
      ·rename_i z2 ez
       obtain ⟨x,hx,hfd⟩:=bind_some_ hfd
       split at hfd
       ·rename_i us eus
        split at hfd
        ·rename_i v lk hret
         obtain rfl:=Option.some.inj hfd
         obtain ⟨hi1,hi2⟩:=ioOf_some eio
         rw [List.length_range] at hi1
         have hcont:∀ j,j<D.io.length→∃ hv cv c,st2.look j=some ⟨hv,cv,some c⟩:=fun j hj=>by
          obtain ⟨hv,cv,h⟩:=hi2 j _ (List.getElem?_eq_getElem (by rw [hi1]; exact hj))
          rw [range_getD hj] at h
          exact ⟨hv,cv,_,h⟩
         have hhd:∀ j,j<D.io.length→hdM (List.range D.io.length) hdr2 j=hdr1 j:=fun j hj=>by
          obtain ⟨hv,cv,c,h⟩:=hcont j hj
          obtain ⟨S,g1,_,g3⟩:=hn2.2 j (by rw [hk]; exact hj)
          rw [h] at g1
          obtain rfl:=Option.some.inj g1
          show hdr2 ((List.range D.io.length).getD j 0)=hdr1 j
          rw [range_getD hj]
          exact g3 c rfl
         have HRc:HR Z2 w2 (ioSl ios2) (hdM (List.range D.io.length) hdr2) (fpM (List.range D.io.length) fp2):=by
          refine ⟨fun j hv cv c h => ?_,fun j hv cv c h => ?_,fun j j' b h h' => ?_,fun j b h=>H2.lt _ _ h.2,H2.zlt,fun j b h=>H2.dz _ _ h.2⟩
          ·simp only [ioSl,Option.map_eq_some_iff] at h
           obtain ⟨c',g1,g2⟩:=h
           simp only [Slot.mk.injEq,Option.some.injEq] at g2
           obtain ⟨_,_,rfl⟩:=g2
           obtain ⟨hv',cv',g3⟩:=hi2 j _ g1
           have hj:=(List.getElem?_eq_some_iff.1 g1).1
           exact (H2.rep _ _ _ _ g3).mono (fun b hb=>⟨by rw [List.length_range,← hi1]; exact hj,hb⟩)
          ·simp only [ioSl,Option.map_eq_some_iff] at h
           obtain ⟨c',g1,g2⟩:=h
           simp only [Slot.mk.injEq,Option.some.injEq] at g2
           obtain ⟨_,_,rfl⟩:=g2
           obtain ⟨hv',cv',g3⟩:=hi2 j _ g1
           exact H2.shape _ _ _ _ g3
          ·exact nodup_inj (nodupB_range _) h.1 h'.1 (H2.disj _ _ _ h.2 h'.2)
         rw [hdf2]
         obtain ⟨⟨fnD,f1,f2,f3⟩,hDc⟩:=hD
         have hcall:=hDc pm ios2 z2 x ez hx Z2 w2 _ _ ks HRc (fun j b h=>by rw [hi1]; have:=h.1; rw [List.length_range] at this; exact this) (by rw [hi1]; exact ptrA_congr hhd D.io 0 hks)
         refine leaves_cons (f:=D.f) (args:=ks.toArray) (by cases pm <;> (intro h; cases h)) (invoke_fn f1 f2 f3) (hcall.mono fun e u' w3 hp => ?_)
         obtain ⟨rfl,Z3,fpc,F,us3,P⟩:=hp
         rw [P.ret]
         have hset:settle (modeA pm D.T)=.returning:=by cases pm <;> rfl
         show Leaves E.P fn a2.tmps _ [] (settle (modeA pm D.T)) w3
         rw [hset]
         obtain ⟨H3,T3,_⟩:=step_call H2 (r0:=ns) (F:=F) (Zn:=Z3) (hn2.1 ns (by rw [hns2]; exact Nat.lt_irrefl _)) (nodupB_range _) eus (fun j S hj hS=>by
          rw [List.length_range] at hj
          obtain ⟨hv,cv,c,h⟩:=hcont j hj
          rw [range_getD hj,h] at hS
          obtain rfl:=Option.some.inj hS
          exact ⟨c,rfl⟩) P.z P.zn P.old P.size P.os P.tape P.output P.f (fun j b h=>⟨by rw [List.length_range,← hi1]; exact (P.iof j b h).1,(P.iof j b h).2⟩) P.io
         have ht3:=fun i=>(ht2 i).trans H2 H3 T3
         obtain ⟨Z4,fp4,F4,vs4,H4,T4,V4,R4,hand,_⟩:=retTake_ok hT2 (val:=fun i=>a2.eval (.tmp i)) hret H3 ht3
         have FF:=((F1.comp F2).trans H3 T3).trans H4 T4
         exact ⟨_,results_ok hres V4,Z4,_,F4,vs4,wrap rfl H4 FF hand R4⟩
        ·cases hfd
       ·cases hfd
      ·cases hfd
     ·cases hfd
    cases e with
    | normal=>exact key false hfin
    | ret=>exact key false hfin
    | panic ch =>
     obtain ⟨hb1,hfin⟩:=cond_some hfin
     rw [isPan_eq hb1]
     exact key true hfin
    | _=>cases hfin
  ·cases hc
 ·cases hc
end
end Go.Proofs.YtmidcfjmchpcnaaGreat.V
namespace Go.Proofs.YtmidcfjmchpcnaaGreat.V
open Go
set_option linter.unusedVariables false
set_option linter.all false
abbrev ElD:List (Nat × Ty)→Type
 | []=>Unit
 | c :: l=>c.2.den × ElD l
def mkEl:(l:List (Nat × Ty))→ElD l→(Nat→MV)→Nat→MV
 | [],_,tm=>tm
 | c :: l,x,tm=>fun i=>bif Nat.beq i c.1 then .val c.2 x.1 else mkEl l x.2 tm i
def addT {S:Type}:(l:List (Nat × MS))→denT Unit l→S→denT S l
 | [],_,s=>s
 | _ :: l,c,s=>(c.1,addT l c.2 s)
def offT {S:Type}:(l:List (Nat × MS))→denT S l→denT Unit l
 | [],_=>()
 | _ :: l,c=>(c.1,offT l c.2)
structure RSpec where
 X:Type
 it:MV→Option (List X)
 pt:List (Nat × Ty)
 el:X→ElD pt
 tm:List (Nat × MS)
 sl:List (Nat × Bool × Ty × Mk)
 ha:Hint
 hb:Hint
 outs:Outs
def RSpec.sh (s:RSpec):Shape:=⟨s.tm,[],s.sl⟩
def RSpec.ssh (s:RSpec):Shape:=⟨[],[],s.sl⟩
abbrev RSpec.C (s:RSpec):Type:=denT Unit s.tm
abbrev RSpec.S (s:RSpec):Type:=denS s.sl
def RSpec.at (s:RSpec) (ns nt:Nat) (c:s.C) (x:s.X) (d:s.S):Sm :=
 let st:=s.sh.mk_ ns nt (addT s.tm c d)
 ⟨mkEl s.pt (s.el x) st.tm,st.look,ns,nt⟩
def RSpec.fin (s:RSpec) (e:Exit) (st:Sm):Option (s.S ⊕ DenO s.outs) :=
 match e with
 | .normal=>match s.ssh.rd st with
  | some d=>some (.inl d)
  | none=>none
 | e=>match finO s.outs e st with
  | some d=>some (.inr d)
  | none=>none
def RSpec.round (s:RSpec) (E:Env) (n:Nat) (ca cb:Code) (pa pb:List Nat) (ns nt:Nat) (c:s.C) (x:s.X) (d:s.S):Option (s.S ⊕ DenO s.outs) :=
 evC E [] n s.ha ca pa (s.at ns nt c x d) fun e st=>match e with
  | .normal=>evC E [] n s.hb cb pb st s.fin
  | _=>none
def outsB:Outs→Bool
 | []=>true
 | c :: l=>c.2.tm.isEmpty && c.2.rt.isEmpty && (match c.1 with
  | .ret | .exit _=>true
  | _=>false) && outsB l
inductive HG2 where
 | seq (h:Hint) (g:HG2) | blk
inductive HG where
 | seq (h:Hint) (g:HG) | left (g:HG2)
def HG2.path:HG2→List Nat→List Nat
 | .seq _ g,ps=>g.path (1 :: ps)
 | .blk,ps=>ps
def HG.path:HG→List Nat→List Nat
 | .seq _ g,ps=>g.path (1 :: ps)
 | .left g,ps=>g.path (0 :: ps)
def HG.rest:HG→List Nat→List Nat
 | .seq _ g,ps=>g.rest (1 :: ps)
 | .left _,ps=>1 :: ps
def evG2 {R:Type} (E:Env) (L:List Spec) (n:Nat) (s:RSpec) (K1:Exit→Sm→Option R) (K2:List s.X→s.C→s.S→Option R):HG2→Code→List Nat→Sm→Option R
 | .seq h g,c,ps,st=>match c with
  | .seq a b=>evC E L n h a (0 :: ps) st fun e st'=>match e with
   | .normal=>evG2 E L n s K1 K2 g b (1 :: ps) st'
   | e=>K1 e st'
  | _=>none
 | .blk,c,ps,st=>match c with
  | .block _ (.rangeFunc (.tmp t) _ _ _)=>(s.it (st.tm t)).bind fun xs=>match s.sh.rd st with
   | some d=>K2 xs (offT s.tm d) (restT s.tm d)
   | none=>none
  | _=>none
def evG {R:Type} (E:Env) (L:List Spec) (n:Nat) (s:RSpec) (K1:Exit→Sm→Option R) (K2:List s.X→s.C→s.S→Option R):HG→Code→List Nat→Sm→Option R
 | .seq h g,c,ps,st=>match c with
  | .seq a b=>evC E L n h a (0 :: ps) st fun e st'=>match e with
   | .normal=>evG E L n s K1 K2 g b (1 :: ps) st'
   | e=>K1 e st'
  | _=>none
 | .left g,c,ps,st=>match c with
  | .seq a _=>evG2 E L n s K1 K2 g a (0 :: ps) st
  | _=>none
def RSpec.exSt (s:RSpec) (ns nt:Nat) (c:s.C) (st:Sm):Sm:=⟨mkT s.tm (addT s.tm c ()) fun _ _=>.dead,st.look,ns,nt⟩
def rngEnd {R:Type} (s:RSpec) (ns nt:Nat) (c:s.C) (KN:s.S→Option R) (K1:Exit→Sm→Option R):s.S ⊕ DenO s.outs→Option R :=
 Sum.elim KN (elO ns nt (fun e st=>K1 e (s.exSt ns nt c st)) s.outs)
section
variable {E:Env} {Z0:Ctx E.io} {w0:World} {ns nt:Nat} {w:World} {hdr:Nat→Value}
theorem rest_add {S:Type}:∀ (l:List (Nat × MS)) (c:denT Unit l) (d:S),restT l (addT l c d)=d
 | [],_,_=>rfl
 | _ :: l,c,d=>rest_add l c.2 d
theorem step_off {Z:Bs} {sl:Nat→Option Slot} {fp:Nat→Bs} {w':World} (H:HR Z w sl hdr fp) (h:∀ b,(Z b∨∃ s,fp s b)→w'.heap[b]?=w.heap[b]?) (hsz:w.heap.size≤w'.heap.size):HR Z w' sl hdr fp :=
 ⟨fun s hv cv c hs=>(H.rep s hv cv c hs).keep (fun b hb=>⟨hb,h b (.inl hb)⟩) (fun b hb=>h b (.inr ⟨s,hb⟩)),H.shape,H.disj,fun s b hb=>Nat.lt_of_lt_of_le (H.lt s b hb) hsz,fun b hb=>Nat.lt_of_lt_of_le (H.zlt b hb) hsz,H.dz⟩
theorem Fr.off {n:Nat} {Z0:Ctx n} {Z:Bs} {fp:Nat→Bs} {w':World} (F:Fr Z0 w0 Z w fp) (h:∀ b,b<w0.heap.size→w'.heap[b]?=w.heap[b]?) (hsz:w.heap.size≤w'.heap.size) (h1:w'.os=w.os) (h2:w'.tape=w.tape) (h3:w'.output=w.output):Fr Z0 w0 Z w' fp :=
 ⟨F.z,fun b hb hf=>let ⟨a1,a2,a3⟩:=F.old b hb hf; ⟨(h b hb).trans a1,a2,a3⟩,Nat.le_trans F.size hsz,h1.trans F.os,h2.trans F.tape,h3.trans F.output⟩
theorem RelM.move {Z Z':Bs} {w':World} {hdr':Nat→Value} (hZ:∀ b,Z b→Z' b∧w'.heap[b]?=w.heap[b]?):∀ {a:MS} {x:a.den} {cs:List Value},(∀ s∈a.slots,hdr' s=hdr s)→RelM Z w hdr a x cs→RelM Z' w' hdr' a x cs
 | .val t,_,_,_,h=>Rep.keep hZ (fun _ h=>h.elim) h
 | .iadr t,_,_,_,⟨b,o,ks,e,h1,h2,h3⟩=>⟨b,o,ks,e,fun j hj=>by rw [← h1 j hj]; exact World.cell?_of_block (a:=⟨b,_,none⟩) (hZ b h2).2,(hZ b h2).1,Rep.keep hZ (fun _ h=>h.elim) h3⟩
 | .nil,_,_,_,h=>h
 | .root s,_,_,hs,h=>⟨h.1,by rw [hs s (by simp [MS.slots])]; exact h.2⟩
 | .ptr s _,_,_,hs,⟨b,o,l,cap,h1,h2⟩=>⟨b,o,l,cap,by rw [hs s (by simp [MS.slots])]; exact h1,h2⟩
 | .fn f c,_,_,hs,⟨ks,e,h⟩=>⟨ks,e,RelM.move (a:=c) hZ hs h⟩
 | .icl c,_,_,hs,⟨b,o,ks,e,h1,h2,h⟩=>⟨b,o,ks,e,fun j hj=>by rw [← h1 j hj]; exact World.cell?_of_block (a:=⟨b,_,none⟩) (hZ b h2).2,(hZ b h2).1,RelM.move (a:=c) hZ hs h⟩
 | .tc a b,_,_,hs,⟨c1,v,vs,e,h1,h2,h3⟩=>⟨c1,v,vs,e,RelM.move (a:=a) hZ (fun s h=>hs s (by simp [MS.slots,h])) h1,h2,RelM.move (a:=b) hZ (fun s h=>hs s (by simp [MS.slots,h])) h3⟩
 | .tn,_,_,_,h=>h
def TmOK (Z:Bs) (w:World) (hdr:Nat→Value) (val:Nat→Value):(l:List (Nat × MS))→denT Unit l→Prop
 | [],_=>True
 | (i,a) :: l,c=>(∃ cs,RelM Z w hdr a c.1 cs∧val i=(a.mk c.1).out cs)∧TmOK Z w hdr val l c.2
def slotsT:List (Nat × MS)→List Nat
 | []=>[]
 | c :: l=>c.2.slots++slotsT l
theorem TmOK.move {Z Z':Bs} {w':World} {hdr':Nat→Value} {val:Nat→Value} (hZ:∀ b,Z b→Z' b∧w'.heap[b]?=w.heap[b]?):∀ {l:List (Nat × MS)} {c:denT Unit l},(∀ s∈slotsT l,hdr' s=hdr s)→TmOK Z w hdr val l c→TmOK Z' w' hdr' val l c
 | [],_,_,_=>trivial
 | (i,a) :: l,c,hs,⟨⟨cs,h1,h2⟩,h3⟩=>⟨⟨cs,h1.move hZ (fun s h=>hs s (by simp [slotsT,h])),h2⟩,TmOK.move hZ (l:=l) (fun s h=>hs s (by simp [slotsT,h])) h3⟩
theorem TmOK.rel {Z:Bs} {sl:Nat→Option Slot} {fp:Nat→Bs} {val:Nat→Value} (hn:∀ s,s<ns→∃ S,sl s=some S) {S:Type} {s0:S} {rest:Nat→MV}:∀ {l:List (Nat × MS)} {c:denT Unit l},(∀ s∈slotsT l,s<ns)→TmOK Z w hdr val l c→∀ i,RelV Z w sl hdr fp (rest i) (val i)→RelV Z w sl hdr fp (mkT l (addT l c s0) (fun _=>rest) i) (val i)
 | [],_,_,_,_,h=>h
 | (i0,a) :: l,c,hs,⟨⟨cs,h1,h2⟩,h3⟩,i,h=>by
  simp only [addT,mkT]
  by_cases e:i=i0
  ·subst e
   rw [beq_self_]
   exact .inr ⟨cs,h1.relC (fun s h=>hn s (hs s (by simp [slotsT,h]))),h2⟩
  ·rw [beq_ne_ e]
   exact TmOK.rel hn (l:=l) (fun s h=>hs s (by simp [slotsT,h])) h3 i h
theorem rdT_ms {S:Type} {ns:Nat} {tm:Nat→MV} {val:Nat→Value} {k:(Nat→Option Slot)→Option S}:∀ (l:List (Nat × MS)) {Z:Bs} {sl:Nat→Option Slot} {fp:Nat→Bs} {d:denT S l},rdT ns tm k l sl=some d→HR Z w sl hdr fp→(∀ s,¬ s<ns→sl s=none)→(∀ i,RelV Z w sl hdr fp (tm i) (val i)) →
 ∃ Z' fp' sl',HR Z' w sl' hdr fp'∧Trans Z w sl hdr fp Z' w sl' hdr fp'∧k sl'=some (restT l d)∧(∀ s,¬ s<ns→sl' s=none)∧(∀ s S,sl s=some S→∃ S',sl' s=some S'∧S'.hv=S.hv)∧TmOK Z' w hdr val l (offT l d)
 | [],Z,sl,fp,d,h,H,hn,hv=>⟨Z,fp,sl,H,Trans.refl _ _ _ _ _,h,hn,fun s S h=>⟨S,h,rfl⟩,trivial⟩
 | (i0,a) :: l,Z,sl,fp,d,h,H,hn,hv=>by
  simp only [rdT] at h
  split at h
  ·rename_i x us ea
   obtain ⟨hb,h⟩:=cond_some h
   obtain ⟨hb,hsm⟩:=all_and hb
   split at h
   ·rename_i d' ed
    obtain rfl:=Option.some.inj h
    have step:∃ Z' fp',HR Z' w (us.look sl) hdr fp'∧Trans Z w sl hdr fp Z' w (us.look sl) hdr fp'∧∃ cs,RelM Z' w hdr a x cs∧val i0=(a.mk x).out cs:=by
     rcases hv i0 with h0 | ⟨cs,h1,h2⟩
     ·rw [h0] at ea
      exact absurd ea (by cases a <;> first | (intro h; cases h; done) | (intro h; exact takeX_dead h))
     ·obtain ⟨Z',fp',H',T',R',o,sx⟩:=rd_ms a ea H h1
      exact ⟨Z',fp',H',T',cs,R',h2.trans o⟩
    obtain ⟨Z1,fp1,H1,T1,cs,R1,o1⟩:=step
    have hn1:=ups_none hb hn
    obtain ⟨Z2,fp2,sl2,H2,T2,hk,hn2,hh2,hm⟩:=rdT_ms l ed H1 hn1 (fun i=>(hv i).trans H H1 T1)
    refine ⟨Z2,fp2,sl2,H2,T1.comp T2,hk,hn2,fun s S hS => ?_,⟨cs,R1.more (fun b hb=>(T2.z b hb).1),o1⟩,hm⟩
    obtain ⟨S1,g1,g2⟩:=sameHv_ok hsm hS
    obtain ⟨S2,g3,g4⟩:=hh2 s S1 g1
    exact ⟨S2,g3,g4.trans g2⟩
   ·cases h
  ·cases h
theorem rd_slots {k:Nat} {Z1:Ctx k} {s:RSpec} {st:Sm} {d:s.S} {Z:Bs} {fp:Nat→Bs} (h:s.ssh.rd st=some d) (H:HR Z w st.look hdr fp) (hn:∀ s,¬ s<st.ns→st.look s=none) (hp:Pin Z1 st.look hdr):HR Z w (mkS st.ns s.sl d) hdr fp∧Pin Z1 (mkS st.ns s.sl d) hdr:=by
 have hk:rdS st.look s.sl=some d:=h
 refine ⟨⟨fun r hv cv c hc => ?_,fun r hv cv c hc => ?_,H.disj,H.lt,H.zlt,H.dz⟩,fun r hr => ?_⟩
 ·obtain ⟨_,_,e⟩:=rdS_ok s.sl hk hc; exact H.rep _ _ _ _ e
 ·obtain ⟨_,_,e⟩:=rdS_ok s.sl hk hc; exact H.shape _ _ _ _ e
 ·obtain ⟨S,g1,g2,g3⟩:=hp r hr
  have hlt:r<st.ns:=Decidable.byContradiction fun hc=>by rw [hn r hc] at g1; cases g1
  obtain ⟨S2,g4⟩:=(mkS_ns (ns:=st.ns) s.sl (d:=d) (s:=r)).2 hlt
  refine ⟨S2,g4,mkS_hv s.sl g4,fun c hc => ?_⟩
  obtain ⟨hv2,cv2,c2⟩:=S2
  simp only at hc
  subst hc
  obtain ⟨hv0,cv0,e⟩:=rdS_ok s.sl hk g4
  rw [e] at g1; obtain rfl:=Option.some.inj g1
  exact g3 c rfl
theorem mkS_some {ns:Nat}:∀ (l:List (Nat × Bool × Ty × Mk)) {d:denS l} {s:Nat},s<ns→s∈l.map (·.1)→∃ c,mkS ns l d s=some ⟨0,0,some c⟩
 | [],_,_,_,h=>by simp at h
 | c :: l,d,s,hs,h=>by
  simp only [mkS]
  have hb:Nat.blt s ns=true:=Nat.ble_eq_true_of_le hs
  by_cases e:s=c.1
  ·subst e
   rw [beq_self_,hb]
   exact ⟨_,rfl⟩
  ·rw [beq_ne_ e]
   simp only [Bool.false_and,cond_false]
   exact mkS_some l hs (by simpa [e] using h)
def RelP (Z:Bs) (w:World):(l:List (Nat × Ty))→ElD l→List Value→Prop
 | [],_,vs=>vs=[]
 | c :: l,x,vs=>∃ v vs' cs,vs=v :: vs'∧Rep Z w c.2 .im x.1 none_ cs∧v=(MV.val c.2 x.1).out cs∧RelP Z w l x.2 vs'
theorem RelP.move {Z Z':Bs} {w':World} (hZ:∀ b,Z b→Z' b∧w'.heap[b]?=w.heap[b]?):∀ {l:List (Nat × Ty)} {x:ElD l} {vs:List Value},RelP Z w l x vs→RelP Z' w' l x vs
 | [],_,_,h=>h
 | c :: l,x,_,⟨v,vs',cs,e,h1,h2,h3⟩=>⟨v,vs',cs,e,Rep.keep hZ (fun _ h=>h.elim) h1,h2,RelP.move hZ (l:=l) h3⟩
structure Ext (W W':World):Prop where
 size:W.heap.size≤W'.heap.size
 old:∀ b,b<W.heap.size→W'.heap[b]?=W.heap[b]?
 os:W'.os=W.os
 tape:W'.tape=W.tape
 output:W'.output=W.output
def IterC (P:Program) (Z:Bs) (w:World) {X:Type} (pt:List (Nat × Ty)) (el:X→ElD pt) (gf:FuncId) (lb:Array Value) (xs:List X):Prop :=
 ∀ (n l:Nat) (J:List X→World→Prop) (Jx:World→Prop) (W:World),(∀ b,Z b→W.heap[b]?=w.heap[b]?)→(∀ d W W',J d W→Ext W W'→J d W')→(∀ W W',Jx W→Ext W W'→Jx W') →
  (∀ pre x post (vs:List Value) W1,xs=pre++x :: post→J pre W1→(∀ b,Z b→W1.heap[b]?=w.heap[b]?)→RelP Z W1 pt (el x) vs→YieldAt Fence.wide n P l vs.toArray W1 fun e W' =>
   (e=.returned (.bool true)∧J (pre++[x]) W'∧∀ b,Z b→W'.heap[b]?=w.heap[b]?)∨(e=.returned (.bool false)∧Jx W'∧∀ b,Z b→W'.heap[b]?=w.heap[b]?)) →
  J [] W→CallsIn Fence.wide n P gf (#[.func (.yield l) #[] #[]]++lb) W fun e W'=>(∃ v,e=.returned v)∧(J xs W'∨Jx W')
def ItOK (P:Program) {X:Type} (pt:List (Nat × Ty)) (el:X→ElD pt) (it:MV→Option (List X)):Prop :=
 ∀ {Z:Bs} {w:World} {sl:Nat→Option Slot} {hdr:Nat→Value} {fp:Nat→Bs} {mv:MV} {v:Value} {xs:List X},HR Z w sl hdr fp→it mv=some xs→RelV Z w sl hdr fp mv v →
  ∃ gf lb,v=.func (.func gf) #[] lb∧(∃ fn,P.funcs[gf]?=some fn∧fn.body.isSome=true∧(fn.name == "runtime.NumGoroutine")=false)∧IterC P Z w pt el gf lb xs
end
end Go.Proofs.YtmidcfjmchpcnaaGreat.V
namespace Go.Proofs.YtmidcfjmchpcnaaGreat.V
open Go
set_option linter.unusedVariables false
set_option linter.all false
section
variable {ns nt:Nat} {w:World} {hdr:Nat→Value}
theorem relV_off {Z:Bs} {sl:Nat→Option Slot} {fp:Nat→Bs} {w':World} (H:HR Z w sl hdr fp) (h:∀ b,(Z b∨∃ s,fp s b)→w'.heap[b]?=w.heap[b]?) {mv:MV} {v:Value} (hv:RelV Z w sl hdr fp mv v):RelV Z w' sl hdr fp mv v :=
 hv.transS H ⟨fun b hb=>⟨hb,h b (.inl hb)⟩,fun s S hS=>⟨S,hS,.inr (.inr ⟨rfl,rfl,fun c hc=>⟨c,hc,rfl,fun b hb=>h b (.inr ⟨s,hb⟩),.inl ⟨rfl,fun _ h=>h⟩⟩⟩)⟩⟩
def setL (T:Array Value) (l:List (Nat × Value)):Array Value:=l.foldl (fun t p=>t.setIfInBounds p.1 p.2) T
theorem setL_size:∀ (l:List (Nat × Value)) (T:Array Value),(setL T l).size=T.size
 | [],_=>rfl
 | p :: l,T=>(setL_size l _).trans (by simp)
theorem setL_off:∀ (l:List (Nat × Value)) (T:Array Value) {i:Nat},i ∉ l.map (·.1)→(setL T l).getD i undef=T.getD i undef
 | [],_,_,_=>rfl
 | p :: l,T,i,h=>by
  simp only [List.map_cons,List.mem_cons,not_or] at h
  refine (setL_off l _ h.2).trans ?_
  simp only [Array.getD_eq_getD_getElem?,Array.getElem?_setIfInBounds_ne (Ne.symm h.1)]
theorem zip_fst {α β:Type}:∀ {l:List α} {k:List β},l.length=k.length→(l.zip k).map (·.1)=l
 | [],[],_=>rfl
 | a :: l,b :: k,h=>by simp only [List.zip_cons_cons,List.map_cons,zip_fst (l:=l) (k:=k) (by simpa using h)]
 | [],_ :: _,h | _ :: _,[],h=>by simp at h
theorem relP_len {Z:Bs}:∀ {l:List (Nat × Ty)} {x:ElD l} {vs:List Value},RelP Z w l x vs→vs.length=l.length
 | [],_,_,h=>by rw [show _=_ from h]; rfl
 | c :: l,x,_,⟨v,vs',cs,e,h1,h2,h3⟩=>by rw [e,List.length_cons,List.length_cons,relP_len (l:=l) h3]
theorem nodupB_cons {a:Nat} {l:List Nat} (h:nodupB (a :: l)=true):a ∉ l∧nodupB l=true:=by
 simp only [nodupB,Bool.and_eq_true,Bool.not_eq_true'] at h
 refine ⟨fun hm => ?_,h.2⟩
 have:=List.elem_iff.2 hm
 have h1:=h.1
 simp_all
theorem el_rel {Z:Bs} {sl:Nat→Option Slot} {fp:Nat→Bs} (i:Nat):∀ {l:List (Nat × Ty)} {x:ElD l} {vs:List Value} {T:Array Value} {tm:Nat→MV},RelP Z w l x vs→nodupB (l.map (·.1))=true→(∀ p∈l,p.1<T.size)→(i ∉ l.map (·.1)→RelV Z w sl hdr fp (tm i) (T.getD i undef)) →
 RelV Z w sl hdr fp (mkEl l x tm i) ((setL T ((l.map (·.1)).zip vs)).getD i undef)
 | [],_,_,T,tm,_,_,_,hb=>by
  have:=hb (by simp)
  simpa [mkEl,setL] using this
 | c :: l,x,_,T,tm,⟨v,vs',cs,e,h1,h2,h3⟩,hn,hp,hb=>by
  subst e
  obtain ⟨n1,n2⟩:=nodupB_cons hn
  have hz:((l.map (·.1)).zip vs').map (·.1)=l.map (·.1):=zip_fst (by rw [List.length_map,relP_len h3])
  have hset:setL T (((c :: l).map (·.1)).zip (v :: vs'))=setL (T.setIfInBounds c.1 v) ((l.map (·.1)).zip vs'):=rfl
  rw [hset]
  simp only [mkEl]
  by_cases e:i=c.1
  ·subst e
   rw [beq_self_,setL_off _ _ (by rw [hz]; exact n1)]
   have hlt:=hp c (by simp)
   simp only [Array.getD_eq_getD_getElem?,Array.getElem?_setIfInBounds_self_of_lt hlt,Option.getD_some,cond_true]
   exact .inr ⟨cs,h1,h2⟩
  ·rw [beq_ne_ e]
   refine el_rel i (l:=l) h3 n2 (fun p hp'=>by simpa using hp p (by simp [hp'])) (fun hj => ?_)
   have:=hb (by simp only [List.map_cons,List.mem_cons,not_or]; exact ⟨e,hj⟩)
   simpa only [Array.getD_eq_getD_getElem?,Array.getElem?_setIfInBounds_ne (Ne.symm e)] using this
structure RSt {io:Nat} (Z0:Ctx io) (w0:World) (s:RSpec) (ns:Nat) (c:s.C) (val:Nat→Value) (Zi:Bs) (D l:Nat) (d:s.S) (W:World) (Z:Bs) (hdr:Nat→Value) (fp:Nat→Bs):Prop where
 H:HR Z W (mkS ns s.sl d) hdr fp
 F:Fr Z0 w0 Z W fp
 P:Pin Z0 (mkS ns s.sl d) hdr
 T:TmOK Z W hdr val s.tm c
 hD:W.heap[D]?=some (.deferred (some []))
 fD:∀ r,¬ fp r D
 fl:∀ r,¬ fp r l
 zD:¬ Z D
 zl:¬ Z l
 zi:∀ b,Zi b→Z b
theorem RSt.off {io:Nat} {Z0:Ctx io} {w0:World} {s:RSpec} {c:s.C} {val:Nat→Value} {Zi:Bs} {D l:Nat} {d:s.S} {W W':World} {Z:Bs} {fp:Nat→Bs} (h:RSt Z0 w0 s ns c val Zi D l d W Z hdr fp) (hl:w0.heap.size≤l) (hne:D≠l)
 (same:∀ b,b≠l→b<W.heap.size→W'.heap[b]?=W.heap[b]?) (hsz:W.heap.size≤W'.heap.size) (h1:W'.os=W.os) (h2:W'.tape=W.tape) (h3:W'.output=W.output):RSt Z0 w0 s ns c val Zi D l d W' Z hdr fp:=by
 have hz:∀ b,Z b→W'.heap[b]?=W.heap[b]?:=fun b hb=>same b (fun e=>h.zl (e ▸ hb)) (h.H.zlt b hb)
 have hf:∀ b,(∃ r,fp r b)→W'.heap[b]?=W.heap[b]?:=fun b ⟨r,hr⟩=>same b (fun e=>h.fl r (e ▸ hr)) (h.H.lt r b hr)
 exact ⟨step_off h.H (fun b hb=>hb.elim (hz b) (hf b)) hsz,h.F.off (fun b hb=>same b (by omega) (Nat.lt_of_lt_of_le hb h.F.size)) hsz h1 h2 h3,h.P,h.T.move (fun b hb=>⟨hb,hz b hb⟩) (fun _ _=>rfl),(same D hne (Array.getElem?_eq_some_iff.1 h.hD).1).trans h.hD,h.fD,h.fl,h.zD,h.zl,h.zi⟩
structure RSx {io:Nat} (Z0:Ctx io) (w0:World) (s:RSpec) (ns nt:Nat) (c:s.C) (val:Nat→Value) (D l:Nat) (st:Sm) (W:World) (Z:Bs) (hdr:Nat→Value) (fp:Nat→Bs):Prop where
 H:HR Z W st.look hdr fp
 F:Fr Z0 w0 Z W fp
 P:(∀ r,¬ r<ns→st.look r=none)∧Pin Z0 st.look hdr
 T:TmOK Z W hdr val s.tm c
 ex:∀ r,r<ns→∃ S,st.look r=some S
 hns:st.ns=ns
 hnt:st.nt=nt
 hD:W.heap[D]?=some (.deferred (some []))
 fD:∀ r,¬ fp r D
 fl:∀ r,¬ fp r l
 zD:¬ Z D
 zl:¬ Z l
theorem RSx.off {io:Nat} {Z0:Ctx io} {w0:World} {s:RSpec} {c:s.C} {val:Nat→Value} {D l:Nat} {st:Sm} {W W':World} {Z:Bs} {fp:Nat→Bs} (h:RSx Z0 w0 s ns nt c val D l st W Z hdr fp) (hl:w0.heap.size≤l) (hne:D≠l)
 (same:∀ b,b≠l→b<W.heap.size→W'.heap[b]?=W.heap[b]?) (hsz:W.heap.size≤W'.heap.size) (h1:W'.os=W.os) (h2:W'.tape=W.tape) (h3:W'.output=W.output):RSx Z0 w0 s ns nt c val D l st W' Z hdr fp:=by
 have hz:∀ b,Z b→W'.heap[b]?=W.heap[b]?:=fun b hb=>same b (fun e=>h.zl (e ▸ hb)) (h.H.zlt b hb)
 have hf:∀ b,(∃ r,fp r b)→W'.heap[b]?=W.heap[b]?:=fun b ⟨r,hr⟩=>same b (fun e=>h.fl r (e ▸ hr)) (h.H.lt r b hr)
 exact ⟨step_off h.H (fun b hb=>hb.elim (hz b) (hf b)) hsz,h.F.off (fun b hb=>same b (by omega) (Nat.lt_of_lt_of_le hb h.F.size)) hsz h1 h2 h3,h.P,h.T.move (fun b hb=>⟨hb,hz b hb⟩) (fun _ _=>rfl),h.ex,h.hns,h.hnt,(same D hne (Array.getElem?_eq_some_iff.1 h.hD).1).trans h.hD,h.fD,h.fl,h.zD,h.zl⟩
theorem putObj_same {W:World} {l:Nat} {o:Obj}:∀ b,b≠l→b<W.heap.size→(W.putObj l o).heap[b]?=W.heap[b]?:=fun b hb _=>World.putObj_heap_other hb
theorem Ext.same {W W':World} (h:Ext W W') {l:Nat}:∀ b,b≠l→b<W.heap.size→W'.heap[b]?=W.heap[b]?:=fun b _ hb=>h.old b hb
def exitC:Exit→Code
 | .ret=>.ret
 | .exit id=>.exit id
 | _=>.skip
theorem mkS_listed {ns:Nat}:∀ (l:List (Nat × Bool × Ty × Mk)) {d:denS l} {s hv cv:Nat} {c:SlotC},mkS ns l d s=some ⟨hv,cv,some c⟩→s∈l.map (·.1)
 | [],_,s,_,_,_,h=>by
  simp only [mkS] at h
  cases hb:Nat.blt s ns <;> rw [hb] at h <;> cases h
 | c0 :: l,d,s,hv,cv,c,h=>by
  simp only [mkS] at h
  by_cases e:s=c0.1
  ·simp [e]
  ·rw [beq_ne_ e] at h
   simp only [Bool.false_and,cond_false] at h
   exact List.mem_cons_of_mem _ (mkS_listed l h)
theorem outs_elim {a:Act} {Z1:Bs} {k:Nat} {Z0:Ctx k} {st:Sm} {fp:Nat→Bs}:∀ (l:Outs) {e:Exit} {d:DenO l},outsB l=true→finO l e st=some d→HR Z1 w st.look hdr fp→(∀ s,¬ s<st.ns→st.look s=none)→Pin Z0 st.look hdr →
 ∃ st',(∀ {S:Type} (K:Exit→Sm→S),elO st.ns st.nt K l d=K e st')∧(e=.ret∨∃ id,e=.exit id)∧HR Z1 w st'.look hdr fp∧((∀ s,¬ s<st.ns→st'.look s=none)∧Pin Z0 st'.look hdr)∧(∀ r,r<st.ns→∃ S,st'.look r=some S)∧st'.ns=st.ns∧st'.nt=st.nt∧(∀ r hv cv c0,st'.look r=some ⟨hv,cv,some c0⟩→(∃ x∈l,r∈x.2.sl.map (·.1)))∧∃ x∈l,∀ r,r<st.ns→r∈x.2.sl.map (·.1)→∃ c0,st'.look r=some ⟨0,0,some c0⟩
 | [],_,d,_,_,_,_,_=>by cases d
 | c :: l,e,d,ho,h,H,hn,hp=>by
  simp only [outsB,Bool.and_eq_true] at ho
  obtain ⟨⟨⟨o1,o2⟩,o3⟩,o4⟩:=ho
  simp only [finO] at h
  cases hb:c.1.is e with
  | true =>
   rw [hb] at h
   simp only [cond_true] at h
   have he:c.1.to=e:=Xk.is_to hb
   split at h
   ·rename_i d' ed
    obtain rfl:=Option.some.inj h
    obtain ⟨x,⟨tm,rt,sl⟩⟩:=c
    have htm:tm=[]:=List.isEmpty_iff.1 o1
    have hrt:rt=[]:=List.isEmpty_iff.1 o2
    subst htm; subst hrt
    obtain ⟨g1,g2⟩:=rd_slots (s:=⟨Unit,fun _=>none,[],fun _=>(),[],sl,.leaf,.leaf,[]⟩) (Z1:=Z0) ed H hn hp
    refine ⟨Shape.mk_ st.ns st.nt ⟨[],[],sl⟩ d',fun K=>by simp only [elO,Sum.elim_inl,he],?_,g1,⟨fun s hs=>(mkS_ns sl).1 hs,g2⟩,fun r hr=>(mkS_ns sl).2 hr,rfl,rfl,fun r hv cv c0 h=>⟨_,List.mem_cons_self,mkS_listed sl h⟩,⟨_,List.mem_cons_self,fun r hr hm=>mkS_some sl hr hm⟩⟩
    rw [← he]
    cases x with
    | ret=>exact .inl rfl
    | exit id=>exact .inr ⟨id,rfl⟩
    | _=>cases o3
   ·cases h
  | false =>
   rw [hb] at h
   simp only [cond_false] at h
   split at h
   ·rename_i d' ed
    obtain rfl:=Option.some.inj h
    obtain ⟨st',g1,g2,g3,g4,g5,g6,g7,g8,x,hx,g9⟩:=outs_elim (a:=a) l o4 ed H hn hp
    exact ⟨st',fun K=>by simp only [elO,Sum.elim_inr]; exact g1 K,g2,g3,g4,g5,g6,g7,fun r hv cv c0 h=>let ⟨x,h1,h2⟩:=g8 r hv cv c0 h; ⟨x,List.mem_cons_of_mem _ h1,h2⟩,x,List.mem_cons_of_mem _ hx,g9⟩
   ·cases h
end
end Go.Proofs.YtmidcfjmchpcnaaGreat.V
namespace Go.Proofs.YtmidcfjmchpcnaaGreat.V
open Go
set_option linter.unusedVariables false
set_option linter.all false
structure RngOK (s:RSpec) (k ns nt:Nat) (pa:Array Tmp) (ca cb:Code):Prop where
 pt:s.pt.map (·.1)=pa.toList
 nd:nodupB (s.pt.map (·.1))=true
 pn:s.pt.all (fun p=>Nat.blt p.1 nt)=true
 sl:(slotsT s.tm).all (fun r=>Nat.blt r k && (s.sl.map (·.1)).elem r)=true
 outs:outsB s.outs=true
 osl:s.outs.all (fun c=>c.2.sl.all fun x=>Nat.ble k x.1 || (s.sl.map (·.1)).elem x.1)=true
 ots:s.outs.all (fun c=>(slotsT s.tm).all fun r=>(c.2.sl.map (·.1)).elem r)=true
 ca:noDefC ca=true
 cb:noDefC cb=true
theorem eg_of {P:Program} {gf:FuncId} {fn:Func} (h1:P.funcs[gf]?=some fn) (h2:fn.body.isSome=true) (h3:(fn.name == "runtime.NumGoroutine")=false) (args:Array Value) (w:World):(callFunc gf args).run P w=.ok (.enter gf args) w:=by
 have h2':fn.body.isNone=false:=by cases hb:fn.body <;> simp_all
 simp only [callFunc,Sem.run_bind,run_program,Result.andThen_ok,h1,h2',h3,Bool.false_eq_true,if_false,Sem.run_pure]
section
variable {ns nt:Nat}
theorem fold_setL {T:Array Value} {pa:Array Tmp} {vs:Array Value}:(pa.zip vs).foldl (fun t (p,v)=>t.setIfInBounds p v) T=setL T (pa.toList.zip vs.toList):=by
 rw [← Array.foldl_toList,Array.toList_zip]
 rfl
theorem rng_ok {P:Program} {tt:TypeId→Option (Ty × Nat)} {Γ2:FuncId→Arg→List SlotC→Option CallRes} {Γp2:FuncId→Arg→List SlotC→Option CallResP} {k:Nat} (hT:TTok ⟨P,tt,Γ2,k,Γp2⟩) (hE:EnvOK ⟨P,tt,Γ2,k,Γp2⟩) {s:RSpec} {pa:Array Tmp} {ca cb:Code} (C:RngOK s k ns nt pa ca cb)
 {root:Code} {psa psb:List Nat} (hca:codeAt root psa=some ca) (hcb:codeAt root psb=some cb) {n m:Nat} {io:Nat} (hio:io≤k) (hkn:k≤ns) {Z0:Ctx io} {w0:World} {c:s.C} {d0:s.S} {a:Act} {w:World} {t:Tmp} {Q:Exit→Act→World→Prop} {xs:List s.X} {y:s.S ⊕ DenO s.outs} {Z:Bs} {hdr:Nat→Value} {fp:Nat→Bs} {Zi:Bs}
 (ha:a.tmps.size=nt) (hdf:a.defers=[]) (H:HR Z w (mkS ns s.sl d0) hdr fp) (F:Fr Z0 w0 Z w fp) (Pn:Pin Z0 (mkS ns s.sl d0) hdr) (T:TmOK Z w hdr (fun i=>a.eval (.tmp i)) s.tm c) (hz:∀ b,Zi b→Z b)
 {gf:FuncId} {lb:Array Value} (hg:a.eval (.tmp t)=.func (.func gf) #[] lb) (hf:∃ fn,P.funcs[gf]?=some fn∧fn.body.isSome=true∧(fn.name == "runtime.NumGoroutine")=false) (hI:IterC P Zi w s.pt s.el gf lb xs)
 (hy:rngL (fun x d=>s.round ⟨P,tt,Γ2,k,Γp2⟩ n ca cb psa psb ns nt c x d) xs d0=some y)
 (hdone:∀ (D l:Nat) (W:World) (d':s.S) (Z:Bs) (hdr:Nat→Value) (fp:Nat→Bs),y=.inl d'→RSt Z0 w0 s ns c (fun i=>a.eval (.tmp i)) Zi D l d' W Z hdr fp→w0.heap.size≤D→Q .normal { a with defers:=[{ target:=.collected D,args := #[] }] } W)
 (hstop:∀ (D l:Nat) (W:World) (o:DenO s.outs) (e:Exit) (st:Sm) (Z:Bs) (hdr:Nat→Value) (fp:Nat→Bs),y=.inr o→(∀ {S:Type} (K:Exit→Sm→S),elO ns nt K s.outs o=K e st)→(e=.ret∨∃ id,e=.exit id)→RSx Z0 w0 s ns nt c (fun i=>a.eval (.tmp i)) D l st W Z hdr fp→w0.heap.size≤D→Q e { a with defers:=[{ target:=.collected D,args := #[] }] } W) :
 (Code.rangeFunc (.tmp t) pa ca cb).wpIn (FR none) m P Q a w:=by
 obtain ⟨val,hval⟩:∃ val:Nat→Value,val=fun i=>a.eval (.tmp i):=⟨_,rfl⟩
 rw [← hval] at T hdone hstop
 obtain ⟨body,hbody⟩:∃ body:s.X→s.S→Option (s.S ⊕ DenO s.outs),body=fun x d=>s.round ⟨P,tt,Γ2,k,Γp2⟩ n ca cb psa psb ns nt c x d:=⟨_,rfl⟩
 rw [← hbody] at hy
 refine wpIn_rangeFunc ?_
 intro fnm _
 obtain ⟨fn,f1,f2,f3⟩:=hf
 obtain ⟨rec,hrec⟩:∃ rec:LoopState→Option Code→Loop,rec=fun st pe=>{ state:=st,pending:=pe,fn:=fnm,tmps:=a.tmps,params:=pa,assign:=ca,body:=cb,defers:=w.heap.size }:=⟨_,rfl⟩
 obtain ⟨W1,hW1⟩:∃ W1,(w.alloc (.deferred (some []))).alloc (.loop (rec .ready none))=W1:=⟨_,rfl⟩
 obtain ⟨D,hD⟩:∃ D,D=w.heap.size:=⟨_,rfl⟩
 obtain ⟨l,hl⟩:∃ l,l=w.heap.size+1:=⟨_,rfl⟩
 have hL1:W1.heap[l]?=some (.loop (rec .ready none)):=by
  rw [← hW1,hl]; have:=World.alloc_heap_new (w.alloc (.deferred (some []))) (.loop (rec .ready none)); rwa [World.size_alloc] at this
 have hK1:W1.heap[D]?=some (.deferred (some [])):=by
  rw [← hW1,hD]; exact (Go.RowKit.Below.heap_alloc _ _ _ (by simp)).trans (World.alloc_heap_new w _)
 have hold1:∀ b,b<w.heap.size→W1.heap[b]?=w.heap[b]?:=fun b hb=>by
  rw [← hW1]; exact (Go.RowKit.Below.heap_alloc _ _ b (by rw [World.size_alloc]; omega)).trans (Go.RowKit.Below.heap_alloc _ _ b hb)
 have hsz1:w.heap.size≤W1.heap.size:=by rw [← hW1]; simp; omega
 have hDw:w0.heap.size≤D:=by rw [hD]; exact F.size
 have hlw:w0.heap.size≤l:=by rw [hl]; have:=F.size; omega
 have hDl:D≠l:=by omega
 have hzsame:∀ b,Z b→W1.heap[b]?=w.heap[b]?:=fun b hb=>hold1 b (H.zlt b hb)
 have S0:RSt Z0 w0 s ns c val Zi D l d0 W1 Z hdr fp :=
  ⟨step_off H (fun b hb=>hb.elim (hzsame b) (fun ⟨r,hr⟩=>hold1 b (H.lt r b hr))) hsz1,F.off (fun b hb=>hold1 b (Nat.lt_of_lt_of_le hb F.size)) hsz1 (by rw [← hW1]; rfl) (by rw [← hW1]; rfl) (by rw [← hW1]; rfl),Pn,T.move (fun b hb=>⟨hb,hzsame b hb⟩) (fun _ _=>rfl),hK1,
   fun r hr=>by have:=H.lt r _ hr; omega,fun r hr=>by have:=H.lt r _ hr; omega,fun h=>by have:=H.zlt _ h; omega,fun h=>by have:=H.zlt _ h; omega,hz⟩
 refine ⟨l,[{ target:=.collected D,args := #[] }],W1,{ target:=.fn (.func gf) lb,args := #[.func (.yield l) #[] #[]] },W1,gf,#[.func (.yield l) #[] #[]]++lb,W1,?_,?_,?_,?_,(fun h=>nomatch h),?_⟩
 ·rw [← hW1,hrec,hl,hD]; exact run_enterLoop_outer _ _ _ _ _
 ·simp only [resolve,hg]
  simp [go_sem]
 ·intro f' hf'; trivial
 ·simp [invoke,go_sem,eg_of f1 f2 f3]
 ·rw [hdf]
  have key:=hI (m-1) l (fun pre W=>∃ post d Z hdr fp,xs=pre++post∧rngL body post d=some y∧RSt Z0 w0 s ns c val Zi D l d W Z hdr fp∧W.heap[l]?=some (.loop (rec .ready none)))
   (fun W=>∃ o e st Z hdr fp,y=.inr o∧(∀ {S:Type} (K:Exit→Sm→S),elO ns nt K s.outs o=K e st)∧(e=.ret∨∃ id,e=.exit id)∧RSx Z0 w0 s ns nt c val D l st W Z hdr fp∧W.heap[l]?=some (.loop (rec .done (some (exitC e)))))
   W1 (fun b hb=>hzsame b (hz b hb))
   (fun pre W W' ⟨post,d,Z,hdr,fp,e1,e2,S,hr⟩ X=>⟨post,d,Z,hdr,fp,e1,e2,S.off hlw hDl X.same X.size X.os X.tape X.output,(X.old l (Array.getElem?_eq_some_iff.1 hr).1).trans hr⟩)
   (fun W W' ⟨o,e,st,Z,hdr,fp,e1,e2,e3,S,hr⟩ X=>⟨o,e,st,Z,hdr,fp,e1,e2,e3,S.off hlw hDl X.same X.size X.os X.tape X.output,(X.old l (Array.getElem?_eq_some_iff.1 hr).1).trans hr⟩)
   ?_ ⟨xs,d0,Z,hdr,fp,rfl,hy,S0,hL1⟩
  ·refine CallsIn.mono (F:=Fence.wide) key ?_
   rintro e W2 ⟨⟨v,rfl⟩,(⟨post,d,Z2,hdr2,fp2,e1,e2,S,hr⟩ | ⟨o,e,st,Z2,hdr2,fp2,e1,e2,e3,S,hr⟩)⟩
   ·have hp:post=[]:=by
     have:=congrArg List.length e1
     rw [List.length_append] at this
     exact List.eq_nil_of_length_eq_zero (by omega)
    subst hp
    have hd:y=.inl d:=(Option.some.inj e2).symm
    refine ⟨none,_,by have:=run_endLoop (P:=P) hr (by rw [hrec]; simp); rw [hrec] at this; exact this,?_⟩
    exact hdone D l _ d Z2 hdr2 fp2 hd (S.off hlw hDl putObj_same (by simp) rfl rfl rfl) hDw
   ·refine ⟨some (exitC e),_,by have:=run_endLoop (P:=P) hr (by rw [hrec]; simp); rw [hrec] at this; exact this,?_⟩
    have hq:=hstop D l _ o e st Z2 hdr2 fp2 e1 e2 e3 (S.off hlw hDl (putObj_same (o:=.loop { rec .done (some (exitC e)) with state:=.exhausted })) (by simp) rfl rfl rfl) hDw
    rw [hrec] at hq
    rcases e3 with rfl | ⟨id,rfl⟩
    ·exact wpIn_ret hq
    ·exact wpIn_exit hq
  ·-- one round
   rintro pre x post vs W hsp ⟨post',d,Z2,hdr2,fp2,e1,e2,S,hr⟩ hZi hRP
   have hpost:post'=x :: post:=List.append_cancel_left (e1.symm.trans hsp)
   subst hpost
   simp only [rngL] at e2
   obtain ⟨z,hz2,hy2⟩:=bind_some_ e2
   have hlt:l<W.heap.size:=(Array.getElem?_eq_some_iff.1 hr).1
   have hvl:vs.length=pa.size:=by rw [relP_len hRP,← Array.length_toList,← C.pt,List.length_map]
   have hyl:=run_yield (P:=P) (args:=vs.toArray) hr (by rw [hrec]; simpa using hvl)
   rw [hrec] at hyl
   refine ⟨fnm,_,ca,cb,hyl,roundIn_of_wpIn trivial ?_⟩
   show Code.wpIn (FR (some l)) _ _ _ _ _ _
   have hz3:evC ⟨P,tt,Γ2,k,Γp2⟩ [] n s.ha ca psa (s.at ns nt c x d) (fun e st=>match e with
    | .normal=>evC ⟨P,tt,Γ2,k,Γp2⟩ [] n s.hb cb psb st s.fin
    | _=>none)=some z:=by rw [hbody] at hz2; exact hz2
   have hsl:∀ r∈slotsT s.tm,r<k∧r∈s.sl.map (·.1):=fun r hr=>by
    have:=(List.all_eq_true.1 C.sl) r hr
    simp only [Bool.and_eq_true] at this
    exact ⟨Nat.le_of_ble_eq_true this.1,List.elem_iff.1 this.2⟩
   have hmk:∀ r,r<ns→∃ S,mkS ns s.sl d r=some S:=fun r hr=>(mkS_ns s.sl).2 hr
   have htm:∀ i:Nat,RelV Z2 W (mkS ns s.sl d) hdr2 fp2 ((s.at ns nt c x d).tm i) ((setL a.tmps (pa.toList.zip vs)).getD i undef):=fun i=>by
    have hbase:RelV Z2 W (mkS ns s.sl d) hdr2 fp2 ((s.sh.mk_ ns nt (addT s.tm c d)).tm i) (a.tmps.getD i undef):=by
     have h1:=S.T.rel (S:=s.S) (s0:=d) (sl:=mkS ns s.sl d) (fp:=fp2) (rest:=fun _=>.dead) hmk (fun r hr=>Nat.lt_of_lt_of_le (hsl r hr).1 hkn) i (.inl rfl)
     rw [hval] at h1
     exact h1
    have:=el_rel (hdr:=hdr2) i (l:=s.pt) (x:=s.el x) (vs:=vs) (T:=a.tmps) (tm:=(s.sh.mk_ ns nt (addT s.tm c d)).tm) (Z:=Z2) (w:=W) (sl:=mkS ns s.sl d) (fp:=fp2) (hRP.move (fun b hb=>⟨S.zi b hb,rfl⟩)) C.nd (fun p hp=>by
     have:=(List.all_eq_true.1 C.pn) p hp
     rw [ha]; exact Nat.le_of_ble_eq_true this) (fun _=>hbase)
    rw [C.pt] at this
    exact this
   have hlook:(s.at ns nt c x d).look=mkS ns s.sl d:=by
    show mkS ns s.sl (restT s.tm (addT s.tm c d))=_
    rw [rest_add]
   have R0:Rel (⟨Z2,fun b=>∃ r,fp2 r b,hdr2,[]⟩:Ctx k) W ns nt (s.at ns nt c x d) { tmps:=(pa.zip vs.toArray).foldl (fun t (p,v)=>t.setIfInBounds p v) a.tmps,defers:=[] } W:=by
    refine ⟨Z2,hdr2,fp2,by rw [hlook]; exact S.H,⟨fun _ h=>h,fun b hb hf=>⟨rfl,fun s h=>hf ⟨s,h⟩,fun h=>h⟩,Nat.le_refl _,rfl,rfl,rfl⟩,⟨fun r hr=>by rw [hlook]; exact (mkS_ns s.sl).1 hr,fun r hr => ?_⟩,fun i => ?_,?_,rfl,rfl,rfl⟩
    ·obtain ⟨S',hS'⟩:=hmk r (Nat.lt_of_lt_of_le hr hkn)
     rw [hlook]
     exact ⟨S',hS',mkS_hv s.sl hS',fun _ _=>rfl⟩
    ·rw [hlook]
     have:=htm i
     simp only [Act.eval,fold_setL]
     exact this
    ·rw [fold_setL,setL_size]; exact ha
   refine evC_okI (E:=⟨P,tt,Γ2,k,Γp2⟩) (rd:=some l) (L:=[]) (root:=root) (n:=n) hT hE (fun s h=>absurd h List.not_mem_nil) (SizeOf.sizeOf ca) s.ha ca (Nat.le_refl _) (.inr C.ca) hca hz3 R0 (fun e st' a' w' hk hr' => ?_)
   cases e with
   | normal =>
    obtain ⟨Z3,hdr3,fp3,H3,F3,hn3,ht3,hs3,hdf3,e3,e4⟩:=hr'
    have off3:∀ b,b<W.heap.size→(∀ r,¬ fp2 r b)→w'.heap[b]?=W.heap[b]?∧(∀ r,¬ fp3 r b)∧(Z3 b→Z2 b):=fun b hb hf=>F3.old b hb (fun ⟨r,h⟩=>hf r h)
    obtain ⟨q1,q2,q3⟩:=off3 l hlt S.fl
    have hr3:=q1.trans hr
    refine ⟨_,run_beginRound hr3 (by rw [hrec]),?_⟩
    have hz3l:¬ Z3 l:=fun h=>S.zl (q3 h)
    obtain ⟨W3,hW3⟩:∃ W3,w'.putObj l (.loop { rec .ready none with state:=.busy })=W3:=⟨_,rfl⟩
    rw [hW3]
    have same3:∀ b,b≠l→W3.heap[b]?=w'.heap[b]?:=fun b hb=>by rw [← hW3]; exact World.putObj_heap_other hb
    have sameZ:∀ b,(Z3 b∨∃ r,fp3 r b)→W3.heap[b]?=w'.heap[b]?:=fun b hb=>same3 b (fun e=>by
     subst e
     rcases hb with h | ⟨r,h⟩
     ·exact hz3l h
     ·exact q2 r h)
    have sz3:W3.heap.size=w'.heap.size:=by rw [← hW3]; simp
    have hl3:W3.heap[l]?=some (.loop { rec .ready none with state:=.busy }):=by rw [← hW3]; exact World.putObj_heap_same (Array.getElem?_eq_some_iff.1 hr3).1
    have R1:Rel (⟨Z3,fun b=>∃ r,fp3 r b,hdr2,[]⟩:Ctx k) W3 ns nt st' a' W3:=by
     refine ⟨Z3,hdr3,fp3,step_off H3 sameZ (by rw [sz3]; exact Nat.le_refl _),⟨fun _ h=>h,fun b hb hf=>⟨rfl,fun s h=>hf ⟨s,h⟩,fun h=>h⟩,Nat.le_refl _,rfl,rfl,rfl⟩,hn3,fun i=>relV_off H3 sameZ (ht3 i),hs3,hdf3,e3,e4⟩
    refine evC_okI (E:=⟨P,tt,Γ2,k,Γp2⟩) (rd:=some l) (L:=[]) (root:=root) (n:=n) hT hE (fun s h=>absurd h List.not_mem_nil) (SizeOf.sizeOf cb) s.hb cb (Nat.le_refl _) (.inr C.cb) hcb hk R1 (fun e st4 a4 w4 hk4 hr4 => ?_)
    obtain ⟨Z4,hdr4,fp4,H4,F4,hn4,ht4,hs4,hdf4,e5,e6⟩:=hr4
    have hlt3:l<W3.heap.size:=(Array.getElem?_eq_some_iff.1 hl3).1
    obtain ⟨p1,p2,p3⟩:=F4.old l hlt3 (fun ⟨r,h⟩=>q2 r h)
    have hr4':=p1.trans hl3
    have hDlt:D<W.heap.size:=(Array.getElem?_eq_some_iff.1 S.hD).1
    obtain ⟨d1,d2,d3⟩:=off3 D hDlt S.fD
    have hDlt3:D<W3.heap.size:=by rw [sz3]; exact Nat.lt_of_lt_of_le hDlt F3.size
    obtain ⟨d4,d5,d6⟩:=F4.old D hDlt3 (fun ⟨r,h⟩=>d2 r h)
    have hD4:w4.heap[D]?=some (.deferred (some [])):=d4.trans ((same3 D hDl).trans (d1.trans S.hD))
    have zmono:∀ b,Z2 b→Z4 b∧w4.heap[b]?=W.heap[b]?:=fun b hb=>by
     have h3:=F3.z b hb
     have h4:=F4.z b h3
     have hbl:b≠l:=fun e=>S.zl (e ▸ hb)
     have o3:=(off3 b (S.H.zlt b hb) (fun r hr=>S.H.dz r b hr hb)).1
     have o4:=(F4.old b (by rw [sz3]; exact H3.zlt b h3) (fun ⟨r,h⟩=>H3.dz r b h h3)).1
     exact ⟨h4,o4.trans ((same3 b hbl).trans o3)⟩
    have F5:Fr Z0 w0 Z4 w4 fp4:=by
     refine ⟨fun b h=>(zmono b (S.F.z b h)).1,fun b hb hf => ?_,Nat.le_trans S.F.size (Nat.le_trans F3.size (by rw [← sz3]; exact F4.size)),F4.os.trans ((by rw [← hW3]; rfl:W3.os=w'.os).trans (F3.os.trans S.F.os)),F4.tape.trans ((by rw [← hW3]; rfl:W3.tape=w'.tape).trans (F3.tape.trans S.F.tape)),F4.output.trans ((by rw [← hW3]; rfl:W3.output=w'.output).trans (F3.output.trans S.F.output))⟩
     obtain ⟨h1,h2,h3⟩:=S.F.old b hb hf
     obtain ⟨g1,g2,g3⟩:=off3 b (Nat.lt_of_lt_of_le hb S.F.size) h2
     obtain ⟨g4,g5,g6⟩:=F4.old b (by rw [sz3]; exact Nat.lt_of_lt_of_le hb (Nat.le_trans S.F.size F3.size)) (fun ⟨r,h⟩=>g2 r h)
     exact ⟨g4.trans ((same3 b (by omega)).trans (g1.trans h1)),g5,fun h=>h3 (g3 (g6 h))⟩
    have pin5:∀ {sl:Nat→Option Slot},Pin (⟨Z3,fun b=>∃ r,fp3 r b,hdr2,[]⟩:Ctx k) sl hdr4→(∀ r c,r<io→(∃ hv cv,sl r=some ⟨hv,cv,some c⟩)→∃ c',mkS ns s.sl d r=some ⟨0,0,some c'⟩)→Pin Z0 sl hdr4:=fun hp hc r hr=>by
     obtain ⟨S1,g1,g2,g3⟩:=hp r (Nat.lt_of_lt_of_le hr hio)
     refine ⟨S1,g1,g2,fun c1 hc1=>(g3 c1 hc1).trans ?_⟩
     obtain ⟨c',hc'⟩:=hc r c1 hr ⟨S1.hv,S1.cv,by rw [g1]; cases S1; simp only at hc1; subst hc1; rfl⟩
     obtain ⟨S2,g4,_,g5⟩:=S.P r hr
     rw [hc'] at g4
     obtain rfl:=Option.some.inj g4
     exact g5 c' rfl
    have endR:∀ jump:Option Code,(Instr.endRound l jump).run P w4=.ok (.bool jump.isNone) (w4.putObj l (.loop (rec (if jump.isNone then .ready else .done) jump))):=fun jump=>by
     have:=run_endRound (P:=P) jump hr4'
     rw [hrec] at this ⊢
     exact this
    have hlt4:l<w4.heap.size:=(Array.getElem?_eq_some_iff.1 hr4').1
    have zi4:∀ (o:Obj) b,Zi b→(w4.putObj l o).heap[b]?=w.heap[b]?:=fun o b hb=>by
     have hb2:=S.zi b hb
     have hbl:b≠l:=fun e=>S.zl (e ▸ hb2)
     exact (World.putObj_heap_other hbl).trans ((zmono b hb2).2.trans (hZi b hb))
    cases e with
    | normal =>
     simp only [RSpec.fin] at hk4
     split at hk4
     ·rename_i d' hd'
      obtain rfl:=Option.some.inj hk4
      have hy2:rngL body post d'=some y:=hy2
      obtain ⟨H6,P6⟩:=rd_slots (s:=s) (Z1:=(⟨Z3,fun b=>∃ r,fp3 r b,hdr2,[]⟩:Ctx k)) hd' H4 hn4.1 hn4.2
      rw [e5] at H6 P6
      have listed:∀ {d'':s.S} r c,(∃ hv cv,mkS ns s.sl d'' r=some ⟨hv,cv,some c⟩)→r<ns→∃ c',mkS ns s.sl d r=some ⟨0,0,some c'⟩:=fun r c ⟨hv,cv,h⟩ hr=>mkS_some s.sl hr (mkS_listed s.sl h)
      have S6:RSt Z0 w0 s ns c val Zi D l d' w4 Z4 hdr4 fp4:=by
       refine ⟨H6,F5,pin5 P6 (fun r c hr h=>listed r c h (Nat.lt_of_lt_of_le hr (Nat.le_trans hio hkn))),S.T.move zmono (fun r hr => ?_),hD4,d5,p2,fun h=>S.zD (d3 (d6 h)),fun h=>hz3l (p3 h),fun b hb=>(zmono b (S.zi b hb)).1⟩
       obtain ⟨h1,h2⟩:=hsl r hr
       obtain ⟨S1,g1,_,g3⟩:=P6 r h1
       obtain ⟨c',hc'⟩:=mkS_some (ns:=ns) s.sl (d:=d') (Nat.lt_of_lt_of_le h1 hkn) h2
       rw [hc'] at g1
       obtain rfl:=Option.some.inj g1
       exact g3 c' rfl
      refine ⟨_,_,endR none,.inl ⟨rfl,⟨post,d',Z4,hdr4,fp4,by rw [List.append_assoc]; exact hsp,hy2,S6.off hlw hDl putObj_same (by simp) rfl rfl rfl,World.putObj_heap_same hlt4⟩,zi4 _⟩⟩
     ·cases hk4
    | _ =>
     have hk4:(match finO s.outs _ st4 with
      | some d=>some (Sum.inr d)
      | none=>none)=some z:=hk4
     split at hk4
     ·rename_i o' ho'
      obtain rfl:=Option.some.inj hk4
      have hy2:Sum.inr o'=y:=Option.some.inj hy2
      obtain ⟨st6,g1,g2,g3,g4,g5,g6,g7,g8,xo,hxo,g9⟩:=outs_elim (a:=a4) (Z0:=(⟨Z3,fun b=>∃ r,fp3 r b,hdr2,[]⟩:Ctx k)) s.outs C.outs ho' H4 hn4.1 hn4.2
      rw [e5] at g4 g5 g6 g9
      rw [e6] at g7
      have g1':∀ {S:Type} (K:Exit→Sm→S),elO ns nt K s.outs o'=K _ st6:=fun K=>by have:=g1 K; rw [e5,e6] at this; exact this
      have S6:RSx Z0 w0 s ns nt c val D l st6 w4 Z4 hdr4 fp4:=by
       refine ⟨g3,F5,⟨g4.1,pin5 g4.2 (fun r c hr ⟨hv,cv,h⟩ => ?_)⟩,S.T.move zmono (fun r hr => ?_),g5,g6,g7,hD4,d5,p2,fun h=>S.zD (d3 (d6 h)),fun h=>hz3l (p3 h)⟩
       ·obtain ⟨x,hx1,hx2⟩:=g8 r hv cv c h
        have h1:=(List.all_eq_true.1 C.osl) x hx1
        obtain ⟨q,hq1,rfl⟩:=List.mem_map.1 hx2
        have h2:=(List.all_eq_true.1 h1) q hq1
        simp only [Bool.or_eq_true] at h2
        rcases h2 with h2 | h2
        ·have:=Nat.le_of_ble_eq_true h2; omega
        ·exact mkS_some s.sl (Nat.lt_of_lt_of_le hr (Nat.le_trans hio hkn)) (List.elem_iff.1 h2)
       ·obtain ⟨h1,_⟩:=hsl r hr
        have h2:=(List.all_eq_true.1 ((List.all_eq_true.1 C.ots) xo hxo)) r hr
        obtain ⟨c0,hc0⟩:=g9 r (Nat.lt_of_lt_of_le h1 hkn) (List.elem_iff.1 h2)
        obtain ⟨S1,q1,_,q3⟩:=g4.2 r h1
        rw [hc0] at q1
        obtain rfl:=Option.some.inj q1
        exact q3 c0 rfl
      first
      | (rcases g2 with h | ⟨_,h⟩ <;> cases h; done)
      | exact ⟨_,_,endR _,.inr ⟨rfl,⟨o',_,st6,Z4,hdr4,fp4,hy2.symm,g1',by first | exact .inl rfl | exact .inr ⟨_,rfl⟩,S6.off hlw hDl putObj_same (by simp) rfl rfl rfl,World.putObj_heap_same hlt4⟩,zi4 _⟩⟩
     ·cases hk4
   | _=>cases hk
end
end Go.Proofs.YtmidcfjmchpcnaaGreat.V
namespace Go.Proofs.YtmidcfjmchpcnaaGreat.V
open Go
set_option linter.unusedVariables false
set_option linter.all false
section
variable {E:Env} {Z0:Ctx E.io} {w0:World} {ns nt:Nat}
structure RHere {io:Nat} (Z0:Ctx io) (w0:World) (s:RSpec) (P:Program) (ns nt:Nat) (xs:List s.X) (c:s.C) (d:s.S) (t:Tmp) (a:Act) (w:World):Prop where
 h:∃ Z hdr fp Zi gf lb,HR Z w (mkS ns s.sl d) hdr fp∧Fr Z0 w0 Z w fp∧Pin Z0 (mkS ns s.sl d) hdr∧TmOK Z w hdr (fun i=>a.eval (.tmp i)) s.tm c∧(∀ b,Zi b→Z b)∧a.eval (.tmp t)=.func (.func gf) #[] lb ∧
  (∃ fn,P.funcs[gf]?=some fn∧fn.body.isSome=true∧(fn.name == "runtime.NumGoroutine")=false)∧IterC P Zi w s.pt s.el gf lb xs
 ha:a.tmps.size=nt
 hdf:a.defers=Z0.df
theorem here_ok {s:RSpec} (hit:ItOK E.P s.pt s.el s.it) {st:Sm} {a:Act} {w:World} {t:Tmp} {xs:List s.X} {d:s.sh.den} (h1:s.it (st.tm t)=some xs) (h2:s.sh.rd st=some d) (hr:Rel Z0 w0 ns nt st a w):RHere Z0 w0 s E.P ns nt xs (offT s.tm d) (restT s.tm d) t a w:=by
 obtain ⟨Z,hdr,fp,H,F,hn,ht,hs,hdf,e1,e2⟩:=hr
 obtain ⟨gf,lb,g1,g2,g3⟩:=hit H h1 (ht t)
 obtain ⟨Z',fp',sl',H',T',hk,hn',hh',hm⟩:=rdT_ms (val:=fun i=>a.eval (.tmp i)) s.tm h2 H hn.1 ht
 obtain ⟨hb,hk⟩:=cond_some hk
 have hp':Pin Z0 sl' hdr:=hn.2.trans T' (fun s S S' _ h1 h2=>by
  obtain ⟨S2,g1,g2⟩:=hh' s S h1
  rw [h2] at g1; obtain rfl:=Option.some.inj g1; exact g2)
 obtain ⟨q1,q2⟩:=rd_slots (s:=s) (st:=⟨st.tm,sl',st.ns,st.nt⟩) hk H' hn' hp'
 rw [e1] at q1 q2
 exact ⟨⟨Z',hdr,fp',Z,gf,lb,q1,F.trans H' T',q2,hm,fun b h=>(T'.z b h).1,g1,g2,g3⟩,by rw [hs,e2],hdf⟩
theorem evG2_ok (hT:TTok E) (hE:EnvOK E) {L:List Spec} {n:Nat} {root:Code} (hL:LoopsOK E ns nt L n root) {s:RSpec} (hit:ItOK E.P s.pt s.el s.it) {R:Type} {r:R} {K1:Exit→Sm→Option R} {K2:List s.X→s.C→s.S→Option R} {Q:Exit→Act→World→Prop}
 (hK1:∀ e st' a' w',e≠.normal→K1 e st'=some r→Rel Z0 w0 ns nt st' a' w'→Q e a' w'):∀ (g:HG2) (c:Code) {ps:List Nat} {st:Sm} {a:Act} {w:World},codeAt root ps=some c→evG2 E L n s K1 K2 g c ps st=some r→Rel Z0 w0 ns nt st a w →
 (∀ xs cc d a' w' bid t pa ca cb,codeAt root (g.path ps)=some (.block bid (.rangeFunc (.tmp t) pa ca cb))→K2 xs cc d=some r→RHere Z0 w0 s E.P ns nt xs cc d t a' w'→(Code.block bid (.rangeFunc (.tmp t) pa ca cb)).wpIn (FR none) 0 E.P Q a' w')→c.wpIn (FR none) 0 E.P Q a w
 | .seq h g,c,ps,st,a,w,hc,hh,hr,hst=>by
  simp only [evG2] at hh
  split at hh
  ·rename_i x y
   refine wpIn_seq (evC_okI (rd:=none) hT hE hL (SizeOf.sizeOf x) h x (Nat.le_refl _) (.inl rfl) (ps:=0 :: ps) (by simp only [codeAt,hc,Option.bind_some,sub]) hh hr (fun e st' a' w' hk hr' => ?_))
   cases e with
   | normal=>exact evG2_ok hT hE hL hit hK1 g y (ps:=1 :: ps) (by simp only [codeAt,hc,Option.bind_some,sub]) hk hr' hst
   | _=>exact hK1 _ _ _ _ (fun h=>nomatch h) hk hr'
  ·cases hh
 | .blk,c,ps,st,a,w,hc,hh,hr,hst=>by
  simp only [evG2] at hh
  split at hh
  ·rename_i bid t pa ca cb
   obtain ⟨xs,hxs,hh⟩:=bind_some_ hh
   split at hh
   ·rename_i d hd
    exact hst _ _ _ _ _ _ _ _ _ _ hc hh (here_ok hit hxs hd hr)
   ·cases hh
  ·cases hh
theorem evG_ok (hT:TTok E) (hE:EnvOK E) {L:List Spec} {n:Nat} {root:Code} (hL:LoopsOK E ns nt L n root) {s:RSpec} (hit:ItOK E.P s.pt s.el s.it) {R:Type} {r:R} {K1:Exit→Sm→Option R} {K2:List s.X→s.C→s.S→Option R} {Q:Exit→Act→World→Prop}
 (hK1:∀ e st' a' w',e≠.normal→K1 e st'=some r→Rel Z0 w0 ns nt st' a' w'→Q e a' w'):∀ (g:HG) (c:Code) {ps:List Nat} {st:Sm} {a:Act} {w:World},codeAt root ps=some c→evG E L n s K1 K2 g c ps st=some r→Rel Z0 w0 ns nt st a w →
 (∀ xs cc d a' w' bid t pa ca cb b,codeAt root (g.path ps)=some (.block bid (.rangeFunc (.tmp t) pa ca cb))→codeAt root (g.rest ps)=some b→K2 xs cc d=some r→RHere Z0 w0 s E.P ns nt xs cc d t a' w'→(Code.block bid (.rangeFunc (.tmp t) pa ca cb)).wpIn (FR none) 0 E.P (Exit.then (b.wpIn (FR none) 0 E.P Q) Q) a' w')→c.wpIn (FR none) 0 E.P Q a w
 | .seq h g,c,ps,st,a,w,hc,hh,hr,hst=>by
  simp only [evG] at hh
  split at hh
  ·rename_i x y
   refine wpIn_seq (evC_okI (rd:=none) hT hE hL (SizeOf.sizeOf x) h x (Nat.le_refl _) (.inl rfl) (ps:=0 :: ps) (by simp only [codeAt,hc,Option.bind_some,sub]) hh hr (fun e st' a' w' hk hr' => ?_))
   cases e with
   | normal=>exact evG_ok hT hE hL hit hK1 g y (ps:=1 :: ps) (by simp only [codeAt,hc,Option.bind_some,sub]) hk hr' hst
   | _=>exact hK1 _ _ _ _ (fun h=>nomatch h) hk hr'
  ·cases hh
 | .left g,c,ps,st,a,w,hc,hh,hr,hst=>by
  simp only [evG] at hh
  split at hh
  ·rename_i x y
   refine wpIn_seq (evG2_ok hT hE hL hit (Q:=Exit.then (y.wpIn (FR none) 0 E.P Q) Q) (fun e st' a' w' he h1 h2 => ?_) g x (ps:=0 :: ps) (by simp only [codeAt,hc,Option.bind_some,sub]) hh hr (fun xs cc d a' w' bid t pa ca cb h1 h2 h3=>hst xs cc d a' w' bid t pa ca cb y h1 (by simp only [HG.rest,codeAt,hc,Option.bind_some,sub]) h2 h3))
   have:=hK1 e st' a' w' he h1 h2
   cases e with
   | normal=>exact absurd rfl he
   | _=>exact this
  ·cases hh
theorem fs_range (hT:TTok E) (hE:EnvOK E) {Γ2:FuncId→Arg→List SlotC→Option CallRes} {Γp2:FuncId→Arg→List SlotC→Option CallResP} {k:Nat} (hT2:TTok ⟨E.P,E.tt,Γ2,k,Γp2⟩) (hE2:EnvOK ⟨E.P,E.tt,Γ2,k,Γp2⟩) {f:FuncId} {as:List MS} {io:IO} {t:Ty} {m:Mk} {M:denT (denIO (io++[])) (shp as 0)→Option (outD t.den io)} {fn:Func} {body:Code} {L1 L3:List Spec} {n:Nat} {g:HG} {h3:Hint} {s:RSpec} {rs:List RV} {Rp:s.C→s.S→Option (outD t.den io)} {rb:s.C→s.X→s.S→Option (s.S ⊕ DenO s.outs)} {bid:Nat} {t0:Tmp} {pa:Array Tmp} {ca cb rest:Code}
 (hio:E.io=io.length) (hns:io.length≤ns) (hiok:io.length≤k) (hkn:k≤ns) (hiol:(List.range io.length).all (fun r=>(s.sl.map (·.1)).elem r)=true) (hf:E.P.funcs[f]?=some fn) (hb:fn.body=some body) (hname:(fn.name == "runtime.NumGoroutine")=false) (hres:fn.results=(rs.map RV.to).toArray) (hnt:fn.ntmps=nt) (hlen:as.length≤nt)
 (hit:ItOK E.P s.pt s.el s.it) (C:RngOK s k ns nt pa ca cb) (hcode:codeAt body (g.path [])=some (.block bid (.rangeFunc (.tmp t0) pa ca cb))) (hrest:codeAt body (g.rest [])=some rest) (hL1:LoopsOK E ns nt L1 n body) (hL3:LoopsOK E ns nt L3 n body)
 (hR:∀ c x d,s.round ⟨E.P,E.tt,Γ2,k,Γp2⟩ n ca cb (0 :: 0 :: g.path []) (1 :: 0 :: g.path []) ns nt c x d=rb c x d)
 (hP:∀ c d,evC E L3 n h3 rest (g.rest []) (s.sh.mk_ ns nt (addT s.tm c d)) (finR E t m io rs)=Rp c d)
 (hM:∀ d,evG E L1 n s (finR E t m io rs) (fun xs c d0=>(rngL (rb c) xs d0).bind (rngEnd s ns nt c (Rp c) (finR E t m io rs))) g body [] (ent ns nt as (io++[]) d)=M d):(FS.mk f as io [] t m M).OK E.P:=by
 intro arg ios c hc
 simp only [FS.res] at hc
 split at hc
 ·rename_i z hz0
  split at hc
  ·rename_i d hd0
   obtain rfl:=Option.some.inj hc
   refine ⟨⟨fn,hf,by rw [hb]; rfl,hname⟩,fun r hr Z w hdr fp vs HC hfpk hA => ?_⟩
   simp only at hr
   have hil:ios.length=io.length:=by have:=(rdIO_mk (ns:=ns) (io++[]) 0 hz0).1; simpa using this
   obtain ⟨hl,hrel⟩:=ent_rel (E:=E) (ns:=ns) (nt:=nt) (ntm:=fn.ntmps) (ioo:=io++[]) (by rw [hio]; simp) (by simpa using hns) hlen hnt hz0 hd0 HC hA
   have hev:=hM d
   rw [hr] at hev
   refine (callsIn_wide (n:=0)).1 (callsIn_of_wp_marks (F:=FR none) (n:=0) hf hb trivial ?_)
   have fin:∀ {e:Exit} {st':Sm} {a':Act} {w':World} {Z1:Bs} {hdr1:Nat→Value} {fp1:Nat→Bs},(e=.normal∨e=.ret)→HR Z1 w' st'.look hdr1 fp1→Fr (⟨Z,fun b=>∃ k,fp k b,hdr,[]⟩:Ctx E.io) w Z1 w' fp1→Pin (⟨Z,fun b=>∃ k,fp k b,hdr,[]⟩:Ctx E.io) st'.look hdr1→(∀ i:Nat,RelV Z1 w' st'.look hdr1 fp1 (st'.tm i) (a'.eval (.tmp i)))→finR E t m io rs e st'=some r →
    LeavesInM (FR none) 0 E.P fn a'.tmps (fun e w'=>∃ Z' fp' F us,CallPost Z w hdr fp ios t m (out1 io r) (wrIO io 0 (out2 io r)++List.replicate (0:Nat) none) e w' Z' fp' F us) [] .returning w':=by
    intro e st' a' w' Z1 hdr1 fp1 he H1 F1 P1 ht1 hk
    have hk:finR E t m io rs .ret st'=some r:=by rcases he with rfl | rfl <;> exact hk
    obtain ⟨v,g1,Z',fp',F,us,g2⟩:=ret_post hT (t:=t) (m:=m) (io:=io) (rs:=rs) (fn:=fn) hio hres (ios:=ios) hil H1 F1 P1 ht1 hk
    exact ⟨v,g1,Z',fp',F,us,by simpa using g2⟩
   have finD:∀ {e:Exit} {st':Sm} {a':Act} {w':World} {Z1:Bs} {hdr1:Nat→Value} {fp1:Nat→Bs} {D:Nat},(e=.normal∨e=.ret)→a'.defers=[{ target:=.collected D,args := #[] }]→w'.heap[D]?=some (.deferred (some []))→w.heap.size≤D→(∀ r,¬ fp1 r D)→¬ Z1 D→HR Z1 w' st'.look hdr1 fp1→Fr (⟨Z,fun b=>∃ k,fp k b,hdr,[]⟩:Ctx E.io) w Z1 w' fp1→Pin (⟨Z,fun b=>∃ k,fp k b,hdr,[]⟩:Ctx E.io) st'.look hdr1→(∀ i:Nat,RelV Z1 w' st'.look hdr1 fp1 (st'.tm i) (a'.eval (.tmp i)))→finR E t m io rs e st'=some r →
    bodyPostM (FR none) 0 E.P fn (fun e w'=>∃ Z' fp' F us,CallPost Z w hdr fp ios t m (out1 io r) (wrIO io 0 (out2 io r)++List.replicate (0:Nat) none) e w' Z' fp' F us) e a' w':=by
    intro e st' a' w' Z1 hdr1 fp1 D he hdf hD hDw hfD hzD H1 F1 P1 ht1 hk
    have same:∀ b,b≠D→(w'.putObj D (.deferred none)).heap[b]?=w'.heap[b]?:=fun b hb=>World.putObj_heap_other hb
    have sameZ:∀ b,(Z1 b∨∃ r,fp1 r b)→(w'.putObj D (.deferred none)).heap[b]?=w'.heap[b]?:=fun b hb=>same b (fun e=>by
     subst e
     rcases hb with h | ⟨r,h⟩
     ·exact hzD h
     ·exact hfD r h)
    have key:LeavesInM (FR none) 0 E.P fn a'.tmps (fun e w'=>∃ Z' fp' F us,CallPost Z w hdr fp ios t m (out1 io r) (wrIO io 0 (out2 io r)++List.replicate (0:Nat) none) e w' Z' fp' F us) a'.defers .returning w':=by
     rw [hdf]
     refine ⟨fun h=>(nomatch h),.inl ⟨D,_,rfl,run_takeDeferred hD,?_⟩⟩
     exact fin (e:=e) he (step_off H1 sameZ (by simp)) (F1.off (fun b hb=>same b (by omega)) (by simp) rfl rfl rfl) P1 (fun i=>relV_off H1 sameZ (ht1 i)) hk
    rcases he with rfl | rfl
    ·exact key
    ·exact key
   refine evG_ok (Z0:=(⟨Z,fun b=>∃ k,fp k b,hdr,[]⟩:Ctx E.io)) hT hE hL1 hit (fun e st' a' w' hne hk1 hr' => ?_) g body (ps:=[]) rfl hev hrel ?_
   ·obtain ⟨Z1,hdr1,fp1,H1,F1,hn1,ht1,_,hdf,_,_⟩:=hr'
    cases e with
    | ret =>
     show LeavesInM _ _ _ _ _ _ _ _ _
     rw [hdf]
     exact fin (.inr rfl) H1 F1 hn1.2 ht1 hk1
    | _=>first | exact absurd rfl hne | cases hk1
   ·intro xs cc d1 a1 w1 bid' t1 pa' ca' cb' b hc1 hc2 hK2 Hh
    rw [hcode] at hc1
    simp only [Option.some.injEq,Code.block.injEq,Code.rangeFunc.injEq,Operand.tmp.injEq] at hc1
    obtain ⟨rfl,rfl,rfl,rfl,rfl⟩:=hc1
    rw [hrest] at hc2
    obtain rfl:=Option.some.inj hc2
    obtain ⟨⟨Zs,hds,fps,Zi,gf,lb,H1,F1,P1,T1,hzi,hg,hfg,hI⟩,ha,hdf⟩:=Hh
    obtain ⟨y,hy,hK2⟩:=bind_some_ hK2
    refine wpIn_block ?_
    refine rng_ok (io:=E.io) hT2 hE2 C (root:=body) (psa:=0 :: 0 :: g.path []) (psb:=1 :: 0 :: g.path []) (by simp only [codeAt,hcode,Option.bind_some,sub]) (by simp only [codeAt,hcode,Option.bind_some,sub]) (n:=n) (by rw [hio]; exact hiok) hkn ha hdf H1 F1 P1 T1 hzi hg hfg hI (by
     have:(fun x d=>s.round ⟨E.P,E.tt,Γ2,k,Γp2⟩ n ca cb (0 :: 0 :: g.path []) (1 :: 0 :: g.path []) ns nt cc x d)=rb cc:=by funext x d; exact hR cc x d
     rw [this]; exact hy) (fun D l W d' Z2 hdr2 fp2 ey S hDw => ?_) (fun D l W o e st Z2 hdr2 fp2 ey eK he S hDw => ?_)
    ·subst ey
     simp only [rngEnd,Sum.elim_inl] at hK2
     show Code.wpIn _ _ _ _ _ _ _
     have hlk:(s.sh.mk_ ns nt (addT s.tm cc d')).look=mkS ns s.sl d':=by
      show mkS ns s.sl (restT s.tm (addT s.tm cc d'))=_
      rw [rest_add]
     have hev3:=hP cc d'
     rw [hK2] at hev3
     have hsl:∀ r∈slotsT s.tm,r<ns:=fun r hr=>by
      have:=(List.all_eq_true.1 C.sl) r hr
      simp only [Bool.and_eq_true] at this
      exact Nat.lt_of_lt_of_le (Nat.le_of_ble_eq_true this.1) hkn
     have R3:Rel (⟨Z2,fun b=>∃ r,fp2 r b,hdr2,[{ target:=.collected D,args := #[] }]⟩:Ctx E.io) W ns nt (s.sh.mk_ ns nt (addT s.tm cc d')) { a1 with defers:=[{ target:=.collected D,args := #[] }] } W:=by
      refine ⟨Z2,hdr2,fp2,by rw [hlk]; exact S.H,⟨fun _ h=>h,fun b hb hf=>⟨rfl,fun s h=>hf ⟨s,h⟩,fun h=>h⟩,Nat.le_refl _,rfl,rfl,rfl⟩,⟨fun q hq=>by rw [hlk]; exact (mkS_ns s.sl).1 hq,fun q hq => ?_⟩,fun i => ?_,ha,rfl,rfl,rfl⟩
      ·obtain ⟨S',hS'⟩:=(mkS_ns (ns:=ns) s.sl (d:=d') (s:=q)).2 (Nat.lt_of_lt_of_le (by rw [← hio]; exact hq) hns)
       rw [hlk]
       exact ⟨S',hS',mkS_hv s.sl hS',fun _ _=>rfl⟩
      ·rw [hlk]
       exact S.T.rel (S:=s.S) (s0:=d') (sl:=mkS ns s.sl d') (fp:=fp2) (rest:=fun _=>.dead) (fun q hq=>(mkS_ns s.sl).2 hq) hsl i (.inl rfl)
     refine evC_okI (rd:=none) hT hE hL3 (SizeOf.sizeOf rest) h3 rest (Nat.le_refl _) (.inl rfl) (ps:=g.rest []) hrest hev3 R3 (fun e st' a' w' hk hr' => ?_)
     obtain ⟨Z4,hdr4,fp4,H4,F4,hn4,ht4,_,hdf4,_,_⟩:=hr'
     have he:e=.normal∨e=.ret:=by
      cases e with
      | normal=>exact .inl rfl
      | ret=>exact .inr rfl
      | _=>cases hk
     obtain ⟨p1,p2,p3⟩:=F4.old D (Array.getElem?_eq_some_iff.1 S.hD).1 (fun ⟨r,h⟩=>S.fD r h)
     refine finD he hdf4 (p1.trans S.hD) hDw p2 (fun h=>S.zD (p3 h)) H4 (S.F.comp F4) (fun q hq => ?_) ht4 hk
     obtain ⟨S1,g1,g2,g3⟩:=hn4.2 q hq
     refine ⟨S1,g1,g2,fun c1 hc1=>(g3 c1 hc1).trans ?_⟩
     obtain ⟨S2,g4,_,g5⟩:=S.P q hq
     have hq':q<io.length:=by rw [← hio]; exact hq
     have hm:=List.elem_iff.1 ((List.all_eq_true.1 hiol) q (List.mem_range.2 hq'))
     obtain ⟨c',hc'⟩:=mkS_some (ns:=ns) s.sl (d:=d') (Nat.lt_of_lt_of_le hq' hns) hm
     rw [hc'] at g4
     obtain rfl:=Option.some.inj g4
     exact g5 c' rfl
    ·subst ey
     simp only [rngEnd,Sum.elim_inr] at hK2
     rw [eK] at hK2
     rcases he with rfl | ⟨id,rfl⟩
     ·refine finD (st':=s.exSt ns nt cc st) (.inr rfl) rfl S.hD hDw S.fD S.zD S.H S.F S.P.2 (fun i => ?_) hK2
      refine S.T.rel (S:=Unit) (s0:=()) (sl:=st.look) (fp:=fp2) (rest:=fun _=>.dead) (ns:=ns) (fun q hq => ?_) (fun r hr => ?_) i (.inl rfl)
      ·exact S.ex q hq
      ·have:=(List.all_eq_true.1 C.sl) r hr
       simp only [Bool.and_eq_true] at this
       exact Nat.lt_of_lt_of_le (Nat.le_of_ble_eq_true this.1) hkn
     ·cases hK2
  ·cases hc
 ·cases hc
end
end Go.Proofs.YtmidcfjmchpcnaaGreat.V
namespace Go.Proofs.YtmidcfjmchpcnaaGreat.V
open Go
set_option linter.unusedVariables false
set_option linter.all false
def itB (g:FuncId) (T:Ty):MV→Option (List (Int × T.den))
 | .val (.ex (.fn1 f) (.sl T') _) x=>bif Nat.beq f g then (if h:T'=T then itV (α:=T.den) (h ▸ (show Option (List T'.den) from x)) else none) else none
 | _=>none
def regOps (c:Option Code):Array Oper:=match c with
 | some (.region _ ops _)=>ops
 | _ => #[]
def callAt (ops:Array Oper) (i:Nat):Call:=match ops[i]? with
 | some o=>match o.op with
  | .call c=>c
  | _=>{ callee:=.value (.tmp 0),args := #[],argTypes := #[] }
 | none=>{ callee:=.value (.tmp 0),args := #[],argTypes := #[] }
def sig (ops:Array Oper) (i:Nat):Option (Option (Nat × Bool) × Option Tmp × Op):=(ops[i]?).map fun o=>(o.guard,o.dst,o.op)
theorem wrapI {x:Int} (h0 : -9223372036854775808≤x) (h1:x<9223372036854775808):IntKind.i64.wrap x=x:=by
 have e:(2:Int) ^ IntKind.i64.bits=18446744073709551616:=by decide
 have e3:(2:Int) ^ (IntKind.i64.bits-1)=9223372036854775808:=by decide
 have e4:IntKind.i64.signed=true:=rfl
 simp only [IntKind.wrap,e,e3,e4,Bool.true_and,decide_eq_true_eq]
 by_cases h:0≤x
 ·rw [Int.emod_eq_of_lt (by omega) (by omega)]; rw [if_neg (by omega)]
 ·have:x % 18446744073709551616=x+18446744073709551616:=by omega
  rw [this,if_pos (by omega)]; omega
section
theorem put_off {a:Act} {d:Option Tmp} {v:Value} {t:Nat} (h:d≠some t):(a.put d v).eval (.tmp t)=a.eval (.tmp t):=by
 cases d with
 | none=>rfl
 | some d =>
  have hd:t≠d:=fun e=>h (by rw [e])
  simp only [Act.put,Act.eval,Array.getD_eq_getD_getElem?,Array.getElem?_setIfInBounds_ne (Ne.symm hd)]
theorem put_on {a:Act} {d:Nat} {v:Value} (h:d<a.tmps.size):(a.put (some d) v).eval (.tmp d)=v:=by
 simp only [Act.put,Act.eval,Array.getD_eq_getD_getElem?,Array.getElem?_setIfInBounds_self_of_lt h,Option.getD_some]
def keepB (ops:Array Oper) (kp:List Nat) (i:Nat):Bool:=match ops[i]? with
 | some o=>match o.dst with
  | some d => !kp.elem d
  | none=>true
 | none=>true
theorem keepB_ok {ops:Array Oper} {kp:List Nat} {i:Nat} {o:Oper} (h:keepB ops kp i=true) (ho:ops[i]?=some o) {t:Nat} (ht:t∈kp):o.dst≠some t:=fun e=>by
 unfold keepB at h
 rw [ho] at h
 simp only [e,Bool.not_eq_true'] at h
 have:=List.elem_iff.2 ht
 simp_all
theorem wpOps_mono_ {P:Program} {ops:Array Oper} {Q Q':Exit→Act→World→Prop} (h:∀ e a w,Q' e a w→Q e a w) {is:List Nat} {a:Act} {w:World} (hh:wpOps P ops Q' is a w):wpOps P ops Q is a w:=by
 have:=wpOps_app (Q:=Q) (is2:=[]) (fun a w q=>h _ _ _ q) (fun e a w _ q=>h _ _ _ q) hh
 rwa [List.append_nil] at this
theorem ops_keep {P:Program} {ops:Array Oper} {Q:Exit→Act→World→Prop} {kp:List Nat}:∀ {is:List Nat} {a:Act} {w:World},is.all (keepB ops kp)=true→wpOps P ops Q is a w→wpOps P ops (fun e a' w'=>Q e a' w'∧(e=.normal→∀ t∈kp,a'.eval (.tmp t)=a.eval (.tmp t))) is a w
 | [],a,w,_,h=>⟨h,fun _ _ _=>rfl⟩
 | i :: is,a,w,hk,h=>by
  simp only [List.all_cons,Bool.and_eq_true] at hk
  rw [wpOps_cons] at h ⊢
  unfold wpOp at h ⊢
  cases ho:ops[i]? with
  | none=>rw [ho] at h; simp only at h ⊢; exact ops_keep hk.2 h
  | some o =>
   rw [ho] at h
   simp only at h ⊢
   have step:∀ {a':Act} {w':World},(∀ t∈kp,a'.eval (.tmp t)=a.eval (.tmp t))→wpOps P ops Q is a' w'→wpOps P ops (fun e a' w'=>Q e a' w'∧(e=.normal→∀ t∈kp,a'.eval (.tmp t)=a.eval (.tmp t))) is a' w':=fun {a' w'} h1 h2=>by
    refine wpOps_mono_ (fun e a2 w2 ⟨q1,q2⟩=>⟨q1,fun he t ht=>(q2 he t ht).trans (h1 t ht)⟩) (ops_keep hk.2 h2)
   have puts:∀ v,∀ t∈kp,(a.put o.dst v).eval (.tmp t)=a.eval (.tmp t):=fun v t ht=>put_off (keepB_ok hk.1 ho ht)
   split
   ·rename_i hw
    rw [if_pos hw] at h
    rcases h with h | ⟨h1,a0,w0,h2⟩
    ·refine .inl ?_
     unfold Oper.wp at h ⊢
     generalize (execOp a.eval o).run P w=rr at h ⊢
     cases rr with
     | ok x w' =>
      cases x <;> first
       | exact h.elim
       | exact step (puts _) h
       | exact step (fun t ht=>(put_off (a:={ a with defers:=_ }) (keepB_ok hk.1 ho ht))) h
       | exact Calls.mono h (fun e w'' he=>by
        cases e with
        | returned v=>exact step (puts _) he
        | panicked ch=>exact ⟨he,fun h=>nomatch h⟩
        | outgrown=>exact let ⟨a0,w0,h0⟩:=he; ⟨a0,w0,h0,fun h=>nomatch h⟩)
       | exact Rows.mono h (fun v w'' he=>step (puts _) he)
     | halt x w' =>
      cases x <;> first
       | exact h.elim
       | exact ⟨h,fun h=>nomatch h⟩
    ·exact .inr ⟨h1,a0,w0,h2,fun h=>nomatch h⟩
   ·rename_i hw
    rw [if_neg hw] at h
    exact step (puts _) h
theorem seg_ok {E:Env} {nt:Nat} (hT:TTok E) (hE:EnvOK E) (hio:E.io=0) {ops:Array Oper} {is:List Nat} {hs:List OH} {st:Sm} {sh:Shape} {d:sh.den} (hev:evOps E ops (fun _ _=>none) is hs st sh.rd=some d) (hlook:st.look=fun _=>none) (hns:st.ns=0) (hnt:st.nt=nt) {Zi:Bs} {W:World} {a:Act} (HZ:∀ b,Zi b→b<W.heap.size)
 (ht:∀ i:Nat,RelV Zi W (fun _=>none) (fun _=>undef) (fun _=>none_) (st.tm i) (a.eval (.tmp i))) (hsz:a.tmps.size=nt) (hdf:a.defers=[]) {kp:List Nat} (hkp:is.all (keepB ops kp)=true) :
 wpOps E.P ops (fun e a' W'=>e≠.outgrown∧(e=.normal∧Ext W W'∧a'.tmps.size=nt∧a'.defers=[]∧(∀ t∈kp,a'.eval (.tmp t)=a.eval (.tmp t))∧∃ Z' sl' hdr' fp',∀ i:Nat,RelV Z' W' sl' hdr' fp' ((sh.mk_ 0 nt d).tm i) (a'.eval (.tmp i)))) is a W:=by
 have R0:Rel (⟨Zi,fun _=>False,fun _=>undef,[]⟩:Ctx E.io) W 0 nt st a W :=
  ⟨Zi,fun _=>undef,fun _=>none_,by rw [hlook]; exact ⟨fun s hv cv c h=>(nomatch h),fun s hv cv c h=>(nomatch h),fun s s' b h=>h.elim,fun s b h=>h.elim,HZ,fun s b h=>h.elim⟩,
   ⟨fun _ h=>h,fun b hb hf=>⟨rfl,fun s h=>h,fun h=>h⟩,Nat.le_refl _,rfl,rfl,rfl⟩,⟨fun s _=>by rw [hlook],fun s hs=>by rw [hio] at hs; exact absurd hs (Nat.not_lt_zero _)⟩,fun i=>by rw [hlook]; exact ht i,hsz.trans hnt.symm,hdf,hns,hnt⟩
 have key:=evOps_ok (Q:=fun e a' W'=>e=.normal∧Ext W W'∧a'.tmps.size=nt∧a'.defers=[]∧∃ Z' sl' hdr' fp',∀ i:Nat,RelV Z' W' sl' hdr' fp' ((sh.mk_ 0 nt d).tm i) (a'.eval (.tmp i))) hT hE (fun st' a' w' hk hr => ?_) (fun T st' a' w' hk hr=>by cases hk) R0 hev
 ·refine wpOps_mono_ (fun e a' w' ⟨⟨h1,h2,h3,h4,h5⟩,h6⟩=>⟨by rw [h1]; exact (fun h=>nomatch h),h1,h2,h3,h4,h6 h1,h5⟩) (ops_keep hkp key)
 ·have hr2:=rd_rel hk hr
  obtain ⟨Z',hdr',fp',H',F',hn',ht',hs',hd',e1,e2⟩:=hr
  obtain ⟨Z2,hdr2,fp2,H2,F2,hn2,ht2,hs2,hd2,e3,e4⟩:=hr2
  rw [e1,e2] at ht2 H2
  refine ⟨rfl,⟨F'.size,fun b hb=>(F'.old b hb (fun h=>h)).1,F'.os,F'.tape,F'.output⟩,by rw [hs',e2],hd',Z2,_,hdr2,fp2,ht2⟩
theorem wpoS {P:Program} {n:Nat} {ops:Array Oper} {i:Nat} {d:Option Tmp} {op:Op} {rest:List Nat} {a:Act} {w w':World} {v:Value} {Q:Exit→Act→World→Prop} (h:sig ops i=some (none,d,op)) (hnd:∀ c,op≠.defer c) (hr:∀ o:Oper,o.op=op→(execOp a.eval o).run P w=.ok (.value v) w') (k:wpOpsIn (FR none) n P ops Q rest (a.put d v) w'):wpOpsIn (FR none) n P ops Q (i :: rest) a w:=by
 unfold sig at h
 obtain ⟨o,h1,h2⟩:=Option.map_eq_some_iff.1 h
 simp only [Prod.mk.injEq] at h2
 obtain ⟨h2,h3,h4⟩:=h2
 rw [wpOpsIn_cons]
 unfold wpOpIn
 rw [h1]
 simp only [Region.wanted,h2,if_true]
 refine ⟨fun _ _=>trivial,?_⟩
 show o.uponIn _ _ _ _ _ _ ((execOp a.eval o).run P w)
 rw [hr o h4,Oper.uponIn_value,h3]
 exact k
theorem wpOpsIn_app {P:Program} {n:Nat} {ops:Array Oper} {Q Q':Exit→Act→World→Prop} {is2:List Nat} (hq:∀ e a w,Q' e a w→e=.normal∧wpOpsIn (FR none) n P ops Q is2 a w):∀ {is1:List Nat} {a:Act} {w:World},wpOps P ops (fun e a w=>e≠.outgrown∧Q' e a w) is1 a w→wpOpsIn (FR none) n P ops Q (is1++is2) a w
 | [],a,w,h=>(hq _ _ _ h.2).2
 | i :: is,a,w,h=>by
  rw [List.cons_append,wpOpsIn_cons]
  rw [wpOps_cons] at h
  unfold wpOp at h
  unfold wpOpIn
  cases ho:ops[i]? with
  | none=>rw [ho] at h; exact wpOpsIn_app hq h
  | some o =>
   rw [ho] at h
   simp only at h ⊢
   split
   ·rename_i hw
    rw [if_pos hw] at h
    rcases h with h | ⟨_,a0,w0,h⟩
    ·refine ⟨fun _ _=>trivial,upon_in (rd:=none) ?_⟩
     unfold Oper.wp at h
     show o.upon _ _ _ _ ((execOp a.eval o).run P w)
     generalize (execOp a.eval o).run P w=rr at h ⊢
     cases rr with
     | ok x w' =>
      cases x <;> first
       | exact h.elim
       | exact wpOpsIn_app hq h
       | exact Calls.mono h (fun e w'' he=>by
        cases e with
        | returned v=>exact wpOpsIn_app hq he
        | panicked ch=>exact absurd (hq _ _ _ he.2).1 (fun h=>nomatch h)
        | outgrown=>exact let ⟨a0,w0,h0⟩:=he; absurd rfl h0.1)
       | exact Rows.mono h (fun v w'' he=>wpOpsIn_app hq he)
     | halt x w' =>
      cases x <;> first
       | exact h.elim
       | exact absurd (hq _ _ _ h.2).1 (fun h=>nomatch h)
    ·exact absurd rfl h.1
   ·rename_i hw
    rw [if_neg hw] at h
    exact ⟨fun _ _=>trivial,wpOpsIn_app hq h⟩
def stN (f:Nat→MV):Sm:=⟨f,fun _=>none,0,19⟩
def shI:Shape:=⟨[(3,.val (.int .i64))],[],[]⟩
def shB (t:Nat):Shape:=⟨[(t,.val .bool)],[],[]⟩
structure BwdC (E:Env) (T:Ty) (fn:Func) (ops0 ops1 ops2 ops3:Array Oper) (i0 i1 i2 i3 b0 b1:Nat) (ts te:TypeId) (c:Call) (hs0 hs1 hs2 hs7:List OH):Prop where
 hnt:fn.ntmps=19
 hres:fn.results = #[]
 hb:fn.body=some (.seq (.region i0 ops0 false) (.block b0 (.loop (.seq (.seq (.region i1 ops1 false) (.cond (.tmp 8) .skip (.exit b0))) (.seq (.block b1 (.seq (.region i3 ops3 false) (.cond (.tmp 18) .ret .skip))) (.region i2 ops2 false))))))
 s0:sig ops3 0=some (none,some 11,.move (.tmp 0))
 s1:sig ops3 1=some (none,some 12,.move (.tmp 3))
 s2:sig ops3 2=some (none,some 13,.load ts (.tmp 1))
 s3:sig ops3 3=some (none,some 14,.move (.tmp 3))
 s4:sig ops3 4=some (none,some 15,.indexAddr ts (.tmp 13) (.tmp 14))
 s5:sig ops3 5=some (none,some 16,.load te (.tmp 15))
 s6:sig ops3 6=some (none,some 17,.call c)
 hc:c.callee=.value (.tmp 11)
 hca:c.args = #[.tmp 12,.tmp 16]
 n3:ops3.size=8
 hts:tyB E ts (.sl T)=true
 hte:tyB2 E te T=true
 k0:(List.range ops0.size).all (keepB ops0 [0,1])=true
 k1:(List.range ops1.size).all (keepB ops1 [0,1,3])=true
 k2:(List.range ops2.size).all (keepB ops2 [0,1])=true
 k7:[7].all (keepB ops3 [0,1,3])=true
 n0:noDef ops0=true
 n1:noDef ops1=true
 n2:noDef ops2=true
 e0:∀ l:List T.den,evOps E ops0 (fun _ _=>none) (List.range ops0.size) hs0 (stN fun i=>bif Nat.beq i 1 then .iadr (.sl T) l else .dead) shI.rd=some (IntKind.i64.wrap ((l.length:Int)-1),())
 e1:∀ i:Int,evOps E ops1 (fun _ _=>none) (List.range ops1.size) hs1 (stN fun k=>bif Nat.beq k 3 then .val (.int .i64) i else .dead) (shB 8).rd=some (decide (0≤i),())
 e2:∀ i:Int,evOps E ops2 (fun _ _=>none) (List.range ops2.size) hs2 (stN fun k=>bif Nat.beq k 3 then .val (.int .i64) i else .dead) shI.rd=some (IntKind.i64.wrap (i-1),())
 e7:∀ b:Bool,evOps E ops3 (fun _ _=>none) [7] hs7 (stN fun k=>bif Nat.beq k 17 then .val .bool b else .dead) (shB 18).rd=some (!b,())
end
end Go.Proofs.YtmidcfjmchpcnaaGreat.V
namespace Go.Proofs.YtmidcfjmchpcnaaGreat.V
open Go
set_option linter.unusedVariables false
set_option linter.all false
section
theorem run_yield_call {P:Program} {a:Act} {W W':World} {o:Oper} {c:Call} {l:Nat} {t u v:Tmp} {r:Next} (ho:o.op=.call c) (hc:c.callee=.value (.tmp t)) (hca:c.args = #[.tmp u,.tmp v]) (ht:a.eval (.tmp t)=.func (.yield l) #[] #[]) (hy:(Instr.yield l #[a.eval (.tmp u),a.eval (.tmp v)]).run P W=.ok r W'):(execOp a.eval o).run P W=.ok r W':=by
 unfold execOp; rw [ho]
 simp [resolve,hc,hca,ht,Deferred.ofValue,invoke,hy]
theorem sig_some {ops:Array Oper} {i:Nat} {d:Option Tmp} {op:Op} (h:sig ops i=some (none,d,op)):∃ o,ops[i]?=some o∧o.guard=none∧o.dst=d∧o.op=op:=by
 unfold sig at h
 obtain ⟨o,h1,h2⟩:=Option.map_eq_some_iff.1 h
 simp only [Prod.mk.injEq] at h2
 exact ⟨o,h1,h2.1,h2.2.1,h2.2.2⟩
theorem wpo_yield {P:Program} {n m:Nat} {ops:Array Oper} {i:Nat} {d:Option Tmp} {c:Call} {rest:List Nat} {a:Act} {w:World} {l:Nat} {vs:Array Value} {R:Ending→World→Prop} {Q:Exit→Act→World→Prop} (h:sig ops i=some (none,d,.call c))
 (hrun:∀ (o:Oper) r W',o.op=.call c→(Instr.yield l vs).run P w=.ok r W'→(execOp a.eval o).run P w=.ok r W') (hy:YieldAt Fence.wide m P l vs w R) (k:∀ e w',R e w'→∃ v,e=.returned v∧wpOpsIn (FR none) n P ops Q rest (a.put d v) w'):wpOpsIn (FR none) n P ops Q (i :: rest) a w:=by
 obtain ⟨o,h1,h2,h3,h4⟩:=sig_some h
 rw [wpOpsIn_cons]
 unfold wpOpIn
 rw [h1]
 simp only [Region.wanted,h2,if_true]
 refine ⟨fun _ _=>trivial,?_⟩
 show o.uponIn _ _ _ _ _ _ ((execOp a.eval o).run P w)
 obtain ⟨fn,tmps,assign,body,hr,hR⟩:=hy
 rw [hrun o _ _ h4 hr,Oper.uponIn_round]
 refine ⟨fun h=>(nomatch h),trivial,fun c cs _ => ?_⟩
 obtain ⟨e,w',hq,hs⟩:=hR.2 c cs (room_wide _)
 obtain ⟨v,rfl,hk⟩:=k e w' hq
 exact ⟨.returned v,w',by rw [h3]; exact hk,hs⟩
set_option maxHeartbeats 2000000 in
theorem bwd_it {E:Env} (hT:TTok E) (hE:EnvOK E) (hio:E.io=0) {g:FuncId} {T:Ty} {fn:Func} {ops0 ops1 ops2 ops3:Array Oper} {i0 i1 i2 i3 b0 b1:Nat} {ts te:TypeId} {c:Call} {hs0 hs1 hs2 hs7:List OH} (C:BwdC E T fn ops0 ops1 ops2 ops3 i0 i1 i2 i3 b0 b1 ts te c hs0 hs1 hs2 hs7)
 (hf:E.P.funcs[g]?=some fn) (hname:(fn.name == "runtime.NumGoroutine")=false) {p1 p2:Nat}:ItOK E.P [(p1,.int .i64),(p2,T)] (fun x:Int × T.den=>(x.1,x.2,())) (itB g T):=by
 intro Z w sl hdr fp mv v xs H hm hv
 unfold itB at hm
 split at hm
 ·rename_i f T' B x
  obtain ⟨hb,hm2⟩:=cond_some hm
  clear hm
  obtain rfl:=Nat.eq_of_beq_eq_true hb
  split at hm2
  ·rename_i hTT
   subst hTT
   ·obtain ⟨l,hl,hm3⟩:=bind_some_ hm2
    clear hm2
    obtain ⟨hlen,hm⟩:=cond_some hm3
    clear hm3
    have hlen:l.length<4611686018427387904:=Nat.le_of_ble_eq_true hlen
    have hxs:xs=bwdN l l.length:=(Option.some.inj hm).symm
    have hl:x=some l:=hl
    subst hl
    rcases hv with h0 | ⟨cs,hrep,hve⟩
    ·cases h0
    rcases (show RepX (fun x c=>Rep Z w (.sl T') .im x none_ c) (fun x c=>Rep Z w B .im x none_ c) (Ty.sl T').val B.val Z w ((Ty.sl T').size+(1+B.size)) (.fn1 f) (some l) cs from hrep) with ⟨h0,_⟩ | ⟨v0,b,o,ks,e0,hcs,hat,hZb,hks⟩
    ·cases h0
    obtain rfl:=Option.some.inj e0
    subst hcs
    refine ⟨f,#[.pointer (some ⟨b,o,none⟩)],hve,⟨fn,hf,by rw [C.hb]; rfl,hname⟩,?_⟩
    subst hxs
    intro n lid J Jx W0 hZ0 hJ hJx hround hJ0
    have hin:∀ {X:World},(∀ q,Z q→X.heap[q]?=w.heap[q]?)→∀ q,Z q→q<X.heap.size:=fun {X} hX q hq=>by
     have h1:=H.zlt q hq
     have:X.heap[q]?=some w.heap[q]:=(hX q hq).trans (Array.getElem?_eq_getElem h1)
     exact (Array.getElem?_eq_some_iff.1 this).1
    have hksX:∀ {X:World},(∀ q,Z q→X.heap[q]?=w.heap[q]?)→Rep Z X (.sl T') .im l none_ ks:=fun hX=>Rep.keep (t:=.sl T') (fun q hq=>⟨hq,hX q hq⟩) (fun _ h=>h.elim) hks
    have hatX:∀ {X:World},(∀ q,Z q→X.heap[q]?=w.heap[q]?)→At X b o ks:=fun hX j hj=>by
     rw [← hat j hj]; exact World.cell?_of_block (a:=⟨b,_,none⟩) (hX b hZb)
    have hptr:∀ {X:World} {v:Value},(∀ q,Z q→X.heap[q]?=w.heap[q]?)→v=.pointer (some ⟨b,o,none⟩)→RelV Z X (fun _=>none) (fun _=>undef) (fun _=>none_) (.iadr (.sl T') l) v:=fun hX hv=>.inr ⟨[.pointer (some ⟨b,o,none⟩)],⟨b,o,ks,rfl,hatX hX,hZb,hksX hX⟩,hv⟩
    obtain ⟨Q,hQ⟩:∃ Q:Exit→Act→World→Prop,Q=bodyPost E.P fn (fun e W'=>(∃ v,e=.returned v)∧(J (bwdN l l.length) W'∨Jx W')):=⟨_,rfl⟩
    have hres:∀ (a:Act) (W:World),(results fn a.tmps).run E.P W=.ok (retVal []) W:=fun a W=>results_ok (rs:=[]) (vs:=[]) (by rw [C.hres]; rfl) trivial
    have hend:∀ (a:Act) (W:World),a.defers=[]→(J (bwdN l l.length) W∨Jx W)→Q .ret a W∧Q .normal a W:=fun a W hd h=>by
     rw [hQ]; exact ⟨⟨hd,_,hres a W,⟨_,rfl⟩,h⟩,⟨hd,_,hres a W,⟨_,rfl⟩,h⟩⟩
    refine callsIn_of_wp (F:=Fence.wide) hf C.hb trivial ?_
    rw [← hQ]
    show Code.wpIn (FR none) _ _ _ _ _ _
    obtain ⟨a0,ha0⟩:∃ a0:Act,a0={ tmps := #[.func (.yield lid) #[] #[]] ++ #[.pointer (some ⟨b,o,none⟩)]++Array.replicate (fn.ntmps-(#[.func (.yield lid) #[] #[]] ++ #[Value.pointer (some ⟨b,o,none⟩)]:Array Value).size) undef,defers:=[] }:=⟨_,rfl⟩
    rw [← ha0]
    have z0:a0.eval (.tmp 0)=.func (.yield lid) #[] #[]:=by rw [ha0]; simp [Act.eval,Array.getD_eq_getD_getElem?,Array.getElem?_append]
    have z1:a0.eval (.tmp 1)=.pointer (some ⟨b,o,none⟩):=by rw [ha0]; simp [Act.eval,Array.getD_eq_getD_getElem?,Array.getElem?_append]
    have zs:a0.tmps.size=19:=by rw [ha0,C.hnt]; simp
    have zd:a0.defers=[]:=by rw [ha0]
    refine wpIn_seq (region_in (.inl rfl) (wpOps_mono_ ?_ (seg_ok (nt:=19) hT hE hio (C.e0 l) rfl rfl rfl (hin hZ0) (fun i => ?_) zs zd C.k0)))
    ·rintro e a1 W1 ⟨he,rfl,X1,hs1,hd1,hk1,Z1,sl1,hdr1,fp1,ht1⟩
     refine ⟨he,?_⟩
     show Code.wpIn _ _ _ _ _ _ _
     refine wpIn_block (again_loop ?_)
     have y0:=(hk1 0 (by simp)).trans z0
     have y1:=(hk1 1 (by simp)).trans z1
     have y3:a1.eval (.tmp 3)=.int .i64 ((l.length:Int)-1):=by
      have:=(ht1 3:RelV _ _ _ _ _ (.val (.int .i64) (IntKind.i64.wrap ((l.length:Int)-1))) _).int
      rw [this,wrapI (by omega) (by omega)]
     have hZ1:∀ q,Z q→W1.heap[q]?=w.heap[q]?:=fun q hq=>(X1.old q (hin hZ0 q hq)).trans (hZ0 q hq)
     have key:∀ (j:Nat),j≤l.length→∀ (a:Act) (W:World),a.tmps.size=19→a.defers=[]→a.eval (.tmp 0)=.func (.yield lid) #[] #[]→a.eval (.tmp 1)=.pointer (some ⟨b,o,none⟩)→a.eval (.tmp 3)=.int .i64 ((j:Int)-1)→(∀ q,Z q→W.heap[q]?=w.heap[q]?)→(∃ pre,bwdN l l.length=pre++bwdN l j∧J pre W) →
      Again (FR none) n E.P (.seq (.seq (.region i1 ops1 false) (.cond (.tmp 8) .skip (.exit b0))) (.seq (.block b1 (.seq (.region i3 ops3 false) (.cond (.tmp 18) .ret .skip))) (.region i2 ops2 false))) (Exit.inBlock b0 Q) a W:=by
      intro j
      induction j with
      | zero =>
       rintro _ a W hs hd x0 x1 x3 hZ ⟨pre,hpre,hJp⟩
       refine again_round (wpIn_seq (wpIn_seq (region_in (.inl rfl) (wpOps_mono_ ?_ (seg_ok (nt:=19) hT hE hio (C.e1 ((0:Nat)-1:Int)) rfl rfl rfl (hin hZ) (fun i => ?_) hs hd C.k1)))))
       ·rintro e a2 W2 ⟨he,rfl,X2,hs2,hd2,hk2,Z2,sl2,hdr2,fp2,ht2⟩
        refine ⟨he,?_⟩
        have y8:a2.eval (.tmp 8)=.bool false:=(ht2 8:RelV _ _ _ _ _ (.val .bool (decide ((0:Int)≤(0:Nat)-1))) _).bool
        show Code.wpIn _ _ _ _ _ _ _
        refine wpIn_cond_false y8 (wpIn_exit ?_)
        show Exit.inBlock b0 Q (.exit b0) a2 W2
        simp only [Exit.inBlock,if_true]
        refine (hend a2 W2 hd2 (.inl ?_)).2
        have:pre=bwdN l l.length:=by rw [hpre]; simp [bwdN]
        rw [← this]; exact hJ _ _ _ hJp X2
       ·show RelV _ _ _ _ _ (bif Nat.beq i 3 then _ else _) _
        by_cases e:i=3
        ·subst e; exact .inr ⟨_,rfl,x3⟩
        ·rw [beq_ne_ e]; exact .inl rfl
      | succ j ih =>
       rintro hj a W hs hd x0 x1 x3 hZ ⟨pre,hpre,hJp⟩
       have x3:a.eval (.tmp 3)=.int .i64 (j:Int):=by rw [x3]; congr 1; omega
       refine again_round (wpIn_seq (wpIn_seq (region_in (.inl rfl) (wpOps_mono_ ?_ (seg_ok (nt:=19) hT hE hio (C.e1 (j:Int)) rfl rfl rfl (hin hZ) (fun i => ?_) hs hd C.k1)))))
       ·rintro e a2 W2 ⟨he,rfl,X2,hs2,hd2,hk2,Z2,sl2,hdr2,fp2,ht2⟩
        refine ⟨he,?_⟩
        have y8:a2.eval (.tmp 8)=.bool true:=by
         have:=(ht2 8:RelV _ _ _ _ _ (.val .bool (decide ((0:Int)≤j))) _).bool
         rw [this]; simp
        show Code.wpIn _ _ _ _ _ _ _
        refine wpIn_cond_true y8 (wpIn_skip ?_)
        show Code.wpIn _ _ _ _ _ _ _
        have hZ2:∀ q,Z q→W2.heap[q]?=w.heap[q]?:=fun q hq=>(X2.old q (hin hZ q hq)).trans (hZ q hq)
        have w0:=(hk2 0 (by simp)).trans x0
        have w1:=(hk2 1 (by simp)).trans x1
        have w3:=(hk2 3 (by simp)).trans x3
        have hJ2:J pre W2:=hJ _ _ _ hJp X2
        obtain ⟨x,hx⟩:∃ x,l[j]?=some x:=⟨_,List.getElem?_eq_getElem (by omega)⟩
        have hsplit:bwdN l l.length=pre++((j:Int),x) :: bwdN l j:=by rw [hpre]; simp only [bwdN,hx]
        obtain ⟨bs,os,cap,es,m1,f1,hks1,hate,hrepe,_,_,hzn,_⟩:=rep_el (hksX hZ2) hx
        have hrepe:=hrepe.none (hzn rfl).2
        have hcell:ks=[.slice (some ⟨bs,os,none⟩) l.length cap]:=hks1
        obtain ⟨nb,hTs⟩:=tyB_ok hT C.hts
        obtain ⟨elt,ne,hu,hel⟩:=hTs.desc
        have hTel:=hT _ _ _ hel
        obtain ⟨nb2,hTe⟩:=tyB2_ok hT C.hte
        have hrun2:(Instr.loadAt ts (.pointer (some ⟨b,o,none⟩))).run E.P W2=.ok (.slice (some ⟨bs,os,none⟩) l.length cap) W2:=by
         have:=run_load_ (w:=W2) hTs (hatX hZ2) (by rw [hcell]; rfl)
         rw [this,hcell]; rfl
        refine wpIn_seq (wpIn_block (wpIn_seq (wpIn_region ?_)))
        rw [C.n3]
        show wpOpsIn _ _ _ _ _ [0,1,2,3,4,5,6,7] _ _
        refine wpoS C.s0 (fun c h=>nomatch h) (v:=.func (.yield lid) #[] #[]) (w':=W2) (fun o ho=>by unfold execOp; rw [ho]; simp only [w0,Sem.run_pure]) ?_
        obtain ⟨a3,ha3⟩:∃ a3,a3=a2.put (some 11) (.func (.yield lid) #[] #[]):=⟨_,rfl⟩
        rw [← ha3]
        have s3:a3.tmps.size=19:=by rw [ha3]; simp [Act.put,hs2]
        have u11:a3.eval (.tmp 11)=.func (.yield lid) #[] #[]:=by rw [ha3]; exact put_on (by omega)
        have k3:∀ t:Nat,t≠11→a3.eval (.tmp t)=a2.eval (.tmp t):=fun t ht=>by rw [ha3]; exact put_off (fun h=>ht (Option.some.inj h).symm)
        refine wpoS C.s1 (fun c h=>nomatch h) (v:=.int .i64 (j:Int)) (w':=W2) (fun o ho=>by unfold execOp; rw [ho]; simp only [k3 3 (by omega),w3,Sem.run_pure]) ?_
        obtain ⟨a4,ha4⟩:∃ a4,a4=a3.put (some 12) (.int .i64 (j:Int)):=⟨_,rfl⟩
        rw [← ha4]
        have s4:a4.tmps.size=19:=by rw [ha4]; simp [Act.put,s3]
        have u12:a4.eval (.tmp 12)=.int .i64 (j:Int):=by rw [ha4]; exact put_on (by omega)
        have k4:∀ t:Nat,t≠12→a4.eval (.tmp t)=a3.eval (.tmp t):=fun t ht=>by rw [ha4]; exact put_off (fun h=>ht (Option.some.inj h).symm)
        refine wpoS C.s2 (fun c h=>nomatch h) (v:=.slice (some ⟨bs,os,none⟩) l.length cap) (w':=W2) (fun o ho=>by
         unfold execOp; rw [ho]
         simp only [Sem.run_bind,k4 1 (by omega),k3 1 (by omega),w1,hrun2,Result.andThen_ok,Sem.run_pure]) ?_
        obtain ⟨a5,ha5⟩:∃ a5,a5=a4.put (some 13) (.slice (some ⟨bs,os,none⟩) l.length cap):=⟨_,rfl⟩
        rw [← ha5]
        have s5:a5.tmps.size=19:=by rw [ha5]; simp [Act.put,s4]
        have u13:a5.eval (.tmp 13)=.slice (some ⟨bs,os,none⟩) l.length cap:=by rw [ha5]; exact put_on (by omega)
        have k5:∀ t:Nat,t≠13→a5.eval (.tmp t)=a4.eval (.tmp t):=fun t ht=>by rw [ha5]; exact put_off (fun h=>ht (Option.some.inj h).symm)
        refine wpoS C.s3 (fun c h=>nomatch h) (v:=.int .i64 (j:Int)) (w':=W2) (fun o ho=>by unfold execOp; rw [ho]; simp only [k5 3 (by omega),k4 3 (by omega),k3 3 (by omega),w3,Sem.run_pure]) ?_
        obtain ⟨a6,ha6⟩:∃ a6,a6=a5.put (some 14) (.int .i64 (j:Int)):=⟨_,rfl⟩
        rw [← ha6]
        have s6:a6.tmps.size=19:=by rw [ha6]; simp [Act.put,s5]
        have u14:a6.eval (.tmp 14)=.int .i64 (j:Int):=by rw [ha6]; exact put_on (by omega)
        have k6:∀ t:Nat,t≠14→a6.eval (.tmp t)=a5.eval (.tmp t):=fun t ht=>by rw [ha6]; exact put_off (fun h=>ht (Option.some.inj h).symm)
        refine wpoS C.s4 (fun c h=>nomatch h) (v:=.pointer (some ⟨bs,os+j*T'.size,none⟩)) (w':=W2) (fun o ho=>by
         unfold execOp; rw [ho]
         have:=run_index_ (w:=W2) hu hTel bs os l.length cap .i64 (j:Int) (by omega) (by omega)
         rw [Int.toNat_natCast] at this
         simp only [Sem.run_bind,k6 13 (by omega),u13,u14,this,Result.andThen_ok,Sem.run_pure]) ?_
        obtain ⟨a7,ha7⟩:∃ a7,a7=a6.put (some 15) (.pointer (some ⟨bs,os+j*T'.size,none⟩)):=⟨_,rfl⟩
        rw [← ha7]
        have s7:a7.tmps.size=19:=by rw [ha7]; simp [Act.put,s6]
        have u15:a7.eval (.tmp 15)=.pointer (some ⟨bs,os+j*T'.size,none⟩):=by rw [ha7]; exact put_on (by omega)
        have k7:∀ t:Nat,t≠15→a7.eval (.tmp t)=a6.eval (.tmp t):=fun t ht=>by rw [ha7]; exact put_off (fun h=>ht (Option.some.inj h).symm)
        refine wpoS C.s5 (fun c h=>nomatch h) (v:=T'.val es) (w':=W2) (fun o ho=>by
         unfold execOp; rw [ho]
         have:=run_load_ (w:=W2) hTe hate hrepe.len
         simp only [Sem.run_bind,u15,this,Result.andThen_ok,Sem.run_pure]) ?_
        obtain ⟨a8,ha8⟩:∃ a8,a8=a7.put (some 16) (T'.val es):=⟨_,rfl⟩
        rw [← ha8]
        have s8:a8.tmps.size=19:=by rw [ha8]; simp [Act.put,s7]
        have u16:a8.eval (.tmp 16)=T'.val es:=by rw [ha8]; exact put_on (by omega)
        have k8:∀ t:Nat,t≠16→a8.eval (.tmp t)=a7.eval (.tmp t):=fun t ht=>by rw [ha8]; exact put_off (fun h=>ht (Option.some.inj h).symm)
        have d8:a8.defers=[]:=by rw [ha8,ha7,ha6,ha5,ha4,ha3]; exact hd2
        have q11:a8.eval (.tmp 11)=.func (.yield lid) #[] #[]:=by rw [k8 11 (by omega),k7 11 (by omega),k6 11 (by omega),k5 11 (by omega),k4 11 (by omega),u11]
        have q12:a8.eval (.tmp 12)=.int .i64 (j:Int):=by rw [k8 12 (by omega),k7 12 (by omega),k6 12 (by omega),k5 12 (by omega),u12]
        have qk:∀ t:Nat,t<11→a8.eval (.tmp t)=a2.eval (.tmp t):=fun t ht=>by rw [k8 t (by omega),k7 t (by omega),k6 t (by omega),k5 t (by omega),k4 t (by omega),k3 t (by omega)]
        have hY:=hround pre ((j:Int),x) (bwdN l j) [.int .i64 (j:Int),T'.val es] W2 hsplit hJ2 hZ2 ⟨_,_,[.int .i64 (j:Int)],rfl,rfl,rfl,⟨_,_,es,rfl,hrepe,(out_val rfl rfl).symm,rfl⟩⟩
        refine wpo_yield C.s6 (fun o r W' ho hy=>run_yield_call ho C.hc C.hca q11 (by rw [q12,u16]; exact hy)) hY (fun e W3 hq => ?_)
        have after:∀ (bb:Bool) (W3:World) (QQ:Exit→Act→World→Prop),(∀ q,Z q→q<W3.heap.size)→(∀ W4,Ext W3 W4→∀ a4:Act,a4.tmps.size=19→a4.defers=[]→(∀ t∈[0,1,3],a4.eval (.tmp t)=a8.eval (.tmp t))→a4.eval (.tmp 18)=.bool (!bb)→QQ .normal a4 W4)→wpOpsIn (FR none) n E.P ops3 QQ [7] (a8.put (some 17) (.bool bb)) W3:=by
         intro bb W3 QQ hlt hk
         have s9:(a8.put (some 17) (.bool bb)).tmps.size=19:=by simp [Act.put,s8]
         refine wpOpsIn_app (is1:=[7]) (is2:=[]) ?_ (seg_ok (nt:=19) hT hE hio (C.e7 bb) rfl rfl rfl (Zi:=Z) hlt (fun i => ?_) s9 (by exact d8) C.k7)
         ·rintro e a4 W4 ⟨rfl,X4,hs4,hd4,hk4,Z4,sl4,hdr4,fp4,ht4⟩
          refine ⟨rfl,hk W4 X4 a4 hs4 hd4 (fun t ht=>(hk4 t ht).trans (put_off (fun h => ?_))) (ht4 18:RelV _ _ _ _ _ (.val .bool (!bb)) _).bool⟩
          have:17=t:=Option.some.inj h
          subst this; simp at ht
         ·show RelV _ _ _ _ _ (bif Nat.beq i 17 then _ else _) _
          by_cases e:i=17
          ·subst e; exact .inr ⟨_,rfl,put_on (by omega)⟩
          ·rw [beq_ne_ e]; exact .inl rfl
        rcases hq with ⟨rfl,hJ3,hZ3⟩ | ⟨rfl,hJ3,hZ3⟩
        ·refine ⟨_,rfl,after true W3 _ (hin hZ3) (fun W4 X4 a4 hs4 hd4 hk4 h18 => ?_)⟩
         show Code.wpIn _ _ _ _ _ _ _
         refine wpIn_cond_false h18 (wpIn_skip ?_)
         show Code.wpIn _ _ _ _ _ _ _
         have hZ4:∀ q,Z q→W4.heap[q]?=w.heap[q]?:=fun q hq=>(X4.old q (hin hZ3 q hq)).trans (hZ3 q hq)
         have v0:=(hk4 0 (by simp)).trans ((qk 0 (by omega)).trans w0)
         have v1:=(hk4 1 (by simp)).trans ((qk 1 (by omega)).trans w1)
         have v3:=(hk4 3 (by simp)).trans ((qk 3 (by omega)).trans w3)
         refine region_in (.inl rfl) (wpOps_mono_ ?_ (seg_ok (nt:=19) hT hE hio (C.e2 (j:Int)) rfl rfl rfl (hin hZ4) (fun i => ?_) hs4 hd4 C.k2))
         ·rintro e a5 W5 ⟨he,rfl,X5,hs5,hd5,hk5,Z5,sl5,hdr5,fp5,ht5⟩
          refine ⟨he,?_⟩
          show Again _ _ _ _ _ _ _
          have t3:a5.eval (.tmp 3)=.int .i64 ((j:Int)-1):=by
           have:=(ht5 3:RelV _ _ _ _ _ (.val (.int .i64) (IntKind.i64.wrap ((j:Int)-1))) _).int
           rw [this,wrapI (by omega) (by omega)]
          exact ih (by omega) a5 W5 hs5 hd5 ((hk5 0 (by simp)).trans v0) ((hk5 1 (by simp)).trans v1) t3 (fun q hq=>(X5.old q (hin hZ4 q hq)).trans (hZ4 q hq)) ⟨pre++[((j:Int),x)],by rw [hsplit]; simp,hJ _ _ _ (hJ _ _ _ hJ3 X4) X5⟩
         ·show RelV _ _ _ _ _ (bif Nat.beq i 3 then _ else _) _
          by_cases e:i=3
          ·subst e; exact .inr ⟨_,rfl,v3⟩
          ·rw [beq_ne_ e]; exact .inl rfl
        ·refine ⟨_,rfl,after false W3 _ (hin hZ3) (fun W4 X4 a4 hs4 hd4 hk4 h18 => ?_)⟩
         show Code.wpIn _ _ _ _ _ _ _
         refine wpIn_cond_true h18 (wpIn_ret ?_)
         show Q .ret a4 W4
         exact (hend a4 W4 hd4 (.inr (hJx _ _ hJ3 X4))).1
       ·show RelV _ _ _ _ _ (bif Nat.beq i 3 then _ else _) _
        by_cases e:i=3
        ·subst e; exact .inr ⟨_,rfl,x3⟩
        ·rw [beq_ne_ e]; exact .inl rfl
     exact key l.length (Nat.le_refl _) a1 W1 hs1 hd1 y0 y1 y3 hZ1 ⟨[],rfl,hJ _ _ _ hJ0 X1⟩
    ·show RelV _ _ _ _ _ (bif Nat.beq i 1 then _ else _) _
     by_cases e:i=1
     ·subst e; exact hptr hZ0 z1
     ·rw [beq_ne_ e]; exact .inl rfl
  ·cases hm2
 ·cases hm
end
end Go.Proofs.YtmidcfjmchpcnaaGreat.V
namespace Go.Proofs.YtmidcfjmchpcnaaGreat.V
open Go
set_option linter.unusedVariables false
set_option linter.all false
abbrev Tab:=List (TypeId × Ty × Nat)
def Tab.tt:Tab→TypeId→Option (Ty × Nat)
 | [],_=>none
 | c :: l,i=>bif Nat.beq i c.1 then some c.2 else Tab.tt l i
def cellB:Value→Value→Bool
 | .bool a,.bool b=>a == b
 | .int k n,.int k' n'=>decide (k=k') && decide (n=n')
 | .string a,.string b=>a.data.toList.isEmpty && b.data.toList.isEmpty
 | .slice none 0 0,.slice none 0 0=>true
 | .map none,.map none=>true
 | .pointer none,.pointer none=>true
 | .nilIface,.nilIface=>true
 | .nilFunc,.nilFunc=>true
 | _,_=>false
def cellsB:List Value→List Value→Bool
 | [],[]=>true
 | a :: l,b :: k=>cellB a b && cellsB l k
 | _,_=>false
theorem cellB_eq {a b:Value} (h:cellB a b=true):a=b:=by
 unfold cellB at h
 split at h
 ·rw [eq_of_beq h]
 ·simp only [Bool.and_eq_true,decide_eq_true_eq] at h; rw [h.1,h.2]
 ·rename_i a b
  simp only [Bool.and_eq_true,List.isEmpty_iff,Array.toList_eq_nil_iff] at h
  obtain ⟨a⟩:=a
  obtain ⟨b⟩:=b
  simp only at h
  rw [h.1,h.2]
 ·rfl
 ·rfl
 ·rfl
 ·rfl
 ·rfl
 ·cases h
theorem cellsB_eq:∀ {a b:List Value},cellsB a b=true→a=b
 | [],[],_=>rfl
 | a :: l,b :: k,h=>by
  simp only [cellsB,Bool.and_eq_true] at h
  rw [cellB_eq h.1,cellsB_eq h.2]
 | [],_ :: _,h=>by cases h
 | _ :: _,[],h=>by cases h
def isT (T:Tab) (e:TypeId) (t:Ty):Bool :=
 match T.tt e with
 | some (t',_)=>decide (t'=t)
 | none=>false
theorem isT_ok {T:Tab} {e:TypeId} {t:Ty} (h:isT T e t=true):∃ n,T.tt e=some (t,n):=by
 unfold isT at h
 split at h
 ·rename_i t' n e; obtain rfl:=of_decide_eq_true h; exact ⟨n,e⟩
 ·cases h
def fieldsB (T:Tab):List Field→Ty→Nat→Bool
 | [],.unit,_=>true
 | f :: fs,.pair a b,off=>Nat.beq f.offset off && isT T f.type a && fieldsB T fs b (off+a.size)
 | _,_,_=>false
theorem fieldsB_ok {T:Tab}:∀ {fs:List Field} {t:Ty} {off:Nat},fieldsB T fs t off=true→Fields T.tt fs t off
 | [],t,off,h=>by cases t <;> first | exact trivial | cases h
 | f :: fs,t,off,h=>by
  cases t with
  | pair a b =>
   simp only [fieldsB,Bool.and_eq_true] at h
   exact ⟨Nat.eq_of_beq_eq_true h.1.1,isT_ok h.1.2,fieldsB_ok h.2⟩
  | _=>cases h
def descB (P:Program) (T:Tab) (tid:TypeId) (t:Ty):Bool :=
 match P.underlying tid,t with
 | some .bool,.bool=>true
 | some (.int k),.int k'=>decide (k=k')
 | some .string,.str=>true
 | some (.slice e),.sl t=>isT T e t
 | some (.map e f),.mp k v=>isT T e k && isT T f v
 | some (.struct fs),.ex .tree a b=>isChain a && fieldsB T fs.toList (unTy (.ex .tree a b)) 0
 | some (.pointer e),.ex .ptr a _=>isT T e a
 | some (.interface _),.ex (.ifc i j) a b=>isT T i a && isT T j b
 | some (.func _ _ _),.ex (.fn0 _ _) _ _=>true
 | some (.func _ _ _),.ex (.fn1 _) _ _=>true
 | some (.array l e),.arr n t=>decide (l=n) && isT T e t
 | some (.struct fs),.pair a b=>fieldsB T fs.toList (.pair a b) 0
 | some (.struct fs),.unit=>fieldsB T fs.toList .unit 0
 | _,_=>false
def aggB:Value→Bool→Bool
 | .agg _,b=>b
 | v,b => !b && v.oneCell'
theorem aggB_val {z:Value} {t:Ty} (h:aggB z t.agg=true) (hc:z.cells.toList=t.zcells):z=t.val t.zcells:=by
 unfold Ty.val
 unfold aggB at h
 split at h
 ·rename_i cs b e
  rw [h,← hc]; rfl
 ·simp only [Bool.and_eq_true,Bool.not_eq_true'] at h
  rw [h.1,← hc,cells_single h.2]; rfl
def entB (P:Program) (T:Tab) (c:TypeId × Ty × Nat):Bool :=
 descB P T c.1 c.2.1 && Nat.ble c.2.2 1024 && (match P.info? c.1 with
  | some i=>Nat.beq i.size c.2.1.size && Nat.beq i.bytes c.2.2 && (match i.zero with
   | some z=>cellsB z.cells.toList c.2.1.zcells && aggB z c.2.1.agg
   | none=>false)
  | none=>false)
theorem descB_ok {P:Program} {T:Tab} {Γ:FuncId→Arg→List SlotC→Option CallRes} {io:Nat} {Γp:FuncId→Arg→List SlotC→Option CallResP} {tid:TypeId} {t:Ty} (h:descB P T tid t=true):Desc ⟨P,T.tt,Γ,io,Γp⟩ tid t:=by
 unfold descB at h
 split at h
 ·rename_i e; exact e
 ·rename_i e; obtain rfl:=of_decide_eq_true h; exact e
 ·rename_i e; exact e
 ·rename_i e; obtain ⟨n,h⟩:=isT_ok h; exact ⟨_,n,e,h⟩
 ·rename_i e
  simp only [Bool.and_eq_true] at h
  obtain ⟨n,h1⟩:=isT_ok h.1
  obtain ⟨m,h2⟩:=isT_ok h.2
  exact ⟨_,_,n,m,e,h1,h2⟩
 ·rename_i e; simp only [Bool.and_eq_true] at h; exact ⟨h.1,_,e,fieldsB_ok h.2⟩
 ·rename_i e; obtain ⟨n,h⟩:=isT_ok h; exact ⟨_,n,e,h⟩
 ·rename_i e
  simp only [Bool.and_eq_true] at h
  obtain ⟨n,h1⟩:=isT_ok h.1
  obtain ⟨m,h2⟩:=isT_ok h.2
  exact ⟨_,n,m,e,h1,h2⟩
 ·rename_i e; exact ⟨_,_,_,e⟩
 ·rename_i e; exact ⟨_,_,_,e⟩
 ·rename_i e
  simp only [Bool.and_eq_true] at h
  obtain rfl:=of_decide_eq_true h.1
  obtain ⟨n,h1⟩:=isT_ok h.2
  exact ⟨_,n,e,h1⟩
 ·rename_i e; exact ⟨_,e,fieldsB_ok h⟩
 ·rename_i e; exact ⟨_,e,fieldsB_ok h⟩
 ·cases h
theorem ttOK {P:Program} {T:Tab} (h:T.all (entB P T)=true) (Γ:FuncId→Arg→List SlotC→Option CallRes) (io:Nat) (Γp:FuncId→Arg→List SlotC→Option CallResP):TTok ⟨P,T.tt,Γ,io,Γp⟩:=by
 intro tid t n ht
 have mem:∀ {l:Tab},Tab.tt l tid=some (t,n)→(tid,t,n)∈l:=by
  intro l
  induction l with
  | nil=>intro h; cases h
  | cons c l ih =>
   intro h
   simp only [Tab.tt] at h
   cases hb:Nat.beq tid c.1 with
   | true =>
    rw [hb] at h
    have e:=Nat.eq_of_beq_eq_true hb
    obtain ⟨a,b⟩:=c
    simp only [cond_true,Option.some.injEq] at h e
    subst h; subst e
    simp
   | false=>rw [hb] at h; exact List.mem_cons_of_mem _ (ih h)
 have he:=(List.all_eq_true.1 h) _ (mem ht)
 simp only [entB,Bool.and_eq_true] at he
 obtain ⟨⟨h1,h2⟩,h3⟩:=he
 split at h3
 ·rename_i i hi
  simp only [Bool.and_eq_true] at h3
  obtain ⟨⟨h3,h4⟩,h5⟩:=h3
  split at h5
  ·rename_i z hz
   simp only [Bool.and_eq_true] at h5
   refine ⟨⟨i,z,hi,Nat.eq_of_beq_eq_true h3,Nat.eq_of_beq_eq_true h4,hz,cellsB_eq h5.1⟩,descB_ok h1,Nat.le_of_ble_eq_true h2,fun i' z' e1 e2 => ?_⟩
   rw [hi] at e1; obtain rfl:=Option.some.inj e1
   rw [hz] at e2; obtain rfl:=Option.some.inj e2
   exact aggB_val h5.2 (cellsB_eq h5.1)
  ·cases h5
 ·cases h3
theorem all_cons {α:Type _} {p:α→Prop} {a:α} {l:List α} (h:p a) (h2:∀ x∈l,p x):∀ x∈a :: l,p x:=fun x hx=>(List.mem_cons.1 hx).elim (fun e=>e ▸ h) (h2 x)
end Go.Proofs.YtmidcfjmchpcnaaGreat.V
namespace Go.Proofs.YtmidcfjmchpcnaaGreat.V
open Go Go.RowKit
set_option linter.unusedVariables false
set_option linter.all false
def Ty.plain:Ty→Bool
 | .bool | .int _ | .str | .unit=>true
 | .sl t=>t.plain && Nat.blt 0 t.size
 | .pair a b=>a.plain && b.plain
 | .ex .tree a b=>a.plain && b.plain
 | _=>false
def Wf:(t:Ty)→t.den→Prop
 | .bool,_=>True
 | .int k,n=>(Lit.int k n).wf=true
 | .str,s=>s.size≤140737488351232
 | .unit,_=>True
 | .sl t,xs=>xs.length≤140737488351232∧∀ x∈xs,Wf t x
 | .pair a b,x=>Wf a x.1∧Wf b x.2
 | .arr _ _,_=>True
 | .mp _ _,_=>True
 | .ex .tree a b,x=>RAll (fun v n=>Wf a v.1∧Wf b v.2∧n≤140737488351232) x
 | .ex _ _ _,_=>True
def Old (w:World):Bs:=fun b=>b<w.heap.size
def OpnAt (P:Program) (t:Ty) (tid:TypeId) (fuel:Nat):Prop :=
 ∀ {H:Type} {enc:TypeId × Value→H} {w:World} {sp:Nat→Bool} {hd:Bool} {cs:List Value} {x:DataW H × List MemPlace},
  DataW.trod enc P w 0 sp hd fuel tid cs=some x→(∀ n∈DataW.weights P tid x.1,n≤reachBytes)→∃ a:t.den,Rep (Old w) w t .im a none_ cs∧Wf t a
def OpnV (P:Program) (t:Ty) (tid:TypeId):Prop :=
 ∀ {H:Type} {enc:TypeId × Value→H} {w:World} {sp:Nat→Bool} {hd:Bool} {fuel:Nat} {cs:List Value} {x:DataW H × List MemPlace},
  DataW.trod enc P w 0 sp hd fuel tid cs=some x→(∀ n∈DataW.weights P tid x.1,n≤reachBytes)→∃ a:t.den,Rep (Old w) w t .im a none_ cs∧Wf t a
theorem opnV_int {P:Program} {t:TypeId} {k:IntKind} (hu:P.underlying t=some (.int k)):OpnV P (.int k) t:=by
 intro H enc w sp hd fuel cs x h _
 cases fuel with
 | zero=>simp [DataW.trod] at h
 | succ n =>
  suffices hh:∃ b,cs=[.int k b]∧(Lit.int k b).wf=true by
   obtain ⟨b,rfl,hb⟩:=hh
   exact ⟨b,rfl,hb⟩
  unfold DataW.trod at h
  rw [hu] at h
  split at h <;> simp_all
theorem opnV_bool {P:Program} {t:TypeId} (hu:P.underlying t=some .bool):OpnV P .bool t:=by
 intro H enc w sp hd fuel cs x h _
 cases fuel with
 | zero=>simp [DataW.trod] at h
 | succ n =>
  suffices hh:∃ b,cs=[.bool b] by
   obtain ⟨b,rfl⟩:=hh
   exact ⟨b,rfl,trivial⟩
  unfold DataW.trod at h
  rw [hu] at h
  split at h
  all_goals first
   | exact ⟨_,rfl⟩
   | simp_all
theorem opnV_str {P:Program} {t:TypeId} (hu:P.underlying t=some .string):OpnV P .str t:=by
 intro H enc w sp hd fuel cs x h hw
 cases fuel with
 | zero=>simp [DataW.trod] at h
 | succ n =>
  suffices hh:∃ b,cs=[.string b]∧x.1=.lit (.string b.data.toList) by
   obtain ⟨b,rfl,hx⟩:=hh
   refine ⟨b,rfl,?_⟩
   have:=hw b.data.toList.length (by rw [hx]; simp [DataW.weights])
   rw [Array.length_toList] at this
   have h2:reachBytes=140737488351232:=by decide
   show b.size≤_
   have h3:b.size=b.data.size:=rfl
   omega
  unfold DataW.trod at h
  rw [hu] at h
  split at h
  all_goals first
   | (simp only [Option.ite_none_right_eq_some,Option.some.injEq] at h; obtain ⟨_,rfl⟩:=h; exact ⟨_,rfl,rfl⟩)
   | simp_all
theorem cells_get {w:World} {a:Addr} {n:Nat} {c:List Value} (h:w.cells? 0 a n=some c):c.length=n∧∀ j,j<n→w.cell? (a.add j)=c[j]?:=by
 unfold World.cells? at h
 split at h
 ·have hl:∀ {l:List Nat} {r:List Value},l.mapM (fun i=>w.cell? (a.add i))=some r→r.length=l.length:=by
   intro l
   induction l with
   | nil=>intro r h; simp at h; subst h; rfl
   | cons x l ih =>
    intro r h
    rw [List.mapM_cons] at h
    obtain ⟨y,_,h⟩:=bind_some_ h
    obtain ⟨z,hz,h⟩:=bind_some_ h
    obtain rfl:=Option.some.inj h
    simp [ih hz]
  refine ⟨by rw [hl h,List.length_range],fun j hj=>mapM_some_get h j j (by rw [List.getElem?_range hj])⟩
 ·cases h
theorem opnAt_sl {P:Program} {t:Ty} {e tid:TypeId} {nb fuel:Nat} (hu:P.underlying tid=some (.slice e)) (hsz:P.cellsOf e=t.size) (hB:P.bytesOf e=nb) (hpos:0<t.size) (hnb:0<nb) (he:∀ n,n<fuel→OpnAt P t e n):OpnAt P (.sl t) tid fuel:=by
 intro H enc w sp hd cs x h hw
 rcases DataW.trod_slice hu h with ⟨rfl,rfl⟩ | ⟨a,len,cap,elems,rest,n,hfu,rfl,rfl,hb,hl,hm,hlen,hel,_,_⟩
 ·exact ⟨([]:List t.den),⟨none,0,rfl,Nat.le_refl _,.inl rfl⟩,Nat.zero_le _,fun x hx=>by cases hx⟩
 ·have hbd:(elems.length+rest.length)*nb≤reachBytes:=hw ((elems.length+rest.length)*nb) (by simp [DataW.weights,hu,hB])
  have hall:∀ i,i<len→∃ (a':t.den) (c:List Value),w.cells? 0 (a.add (i*t.size)) t.size=some c∧Rep (Old w) w t .im a' none_ c∧Wf t a':=by
   intro i hi
   have hx:=hel i hi
   obtain ⟨y,hy⟩:∃ y,elems[i]?=some y:=⟨elems[i]'(by omega),List.getElem?_eq_getElem (by omega)⟩
   rw [hy,hsz] at hx
   obtain ⟨c,hc1,hc2⟩:=Option.bind_eq_some_iff.1 hx
   have hmem:y∈elems:=List.mem_of_getElem? hy
   have hwy:∀ n∈DataW.weights P e y.1,n≤reachBytes:=by
    intro n hn
    refine hw n ?_
    simp only [DataW.weights,hu,List.mem_cons,List.mem_append]
    refine Or.inr (Or.inl ?_)
    have gen:∀ l:List (DataW H),y.1∈l→n∈DataW.weightsAll P e l:=by
     intro l hl'
     induction l with
     | nil=>cases hl'
     | cons z r ih =>
      simp only [DataW.weightsAll,List.mem_append]
      rcases List.mem_cons.1 hl' with h1 | h1
      ·rw [← h1]; exact Or.inl hn
      ·exact Or.inr (ih h1)
    exact gen _ (List.mem_map.2 ⟨y,hmem,rfl⟩)
   obtain ⟨a',hk,hwf⟩:=he n (by omega) hc2 hwy
   exact ⟨a',c,hc1,hk,hwf⟩
  have hch:∀ m,m≤len→∃ xs:List t.den,xs.length=m∧∀ i y,xs[i]?=some y→∃ c,w.cells? 0 (a.add (i*t.size)) t.size=some c∧Rep (Old w) w t .im y none_ c∧Wf t y:=by
   intro m
   induction m with
   | zero=>intro _; exact ⟨[],rfl,by simp⟩
   | succ m ih =>
    intro hm'
    obtain ⟨xs,hxl,hxs⟩:=ih (by omega)
    obtain ⟨y,c,h1,h2,h3⟩:=hall m (by omega)
    refine ⟨xs++[y],by simp [hxl],fun i z hz => ?_⟩
    rcases Nat.lt_or_ge i m with hi | hi
    ·rw [List.getElem?_append_left (by omega)] at hz
     exact hxs i z hz
    ·have:i=m:=by
      have:=(List.getElem?_eq_some_iff.1 hz).1
      simp at this; omega
     subst this
     rw [List.getElem?_append_right (by omega)] at hz
     simp [hxl] at hz
     subst hz
     exact ⟨c,h1,h2,h3⟩
  obtain ⟨xs,hxl,hxs⟩:=hch len (Nat.le_refl _)
  have hbound:xs.length≤140737488351232:=by
   have h2:reachBytes=140737488351232:=by decide
   have h3:xs.length≤(elems.length+rest.length)*nb:=Nat.le_trans (by omega) (Nat.le_mul_of_pos_right _ hnb)
   omega
  have hwfs:∀ x∈xs,Wf t x:=fun y hy=>by
   obtain ⟨i,hi⟩:=List.mem_iff_getElem?.1 hy
   obtain ⟨_,_,_,h3⟩:=hxs i y hi
   exact h3
  by_cases h0:xs=[]
  ·subst h0
   simp only [List.length_nil] at hxl
   subst hxl
   exact ⟨([]:List t.den),⟨some a,cap,rfl,Nat.zero_le _,.inl rfl⟩,hbound,hwfs⟩
  ·have hlen0:0<xs.length:=List.length_pos_iff.2 h0
   have first:∃ v,w.cell? a=some v:=by
    obtain ⟨c,h1,_⟩:=hxs 0 _ (List.getElem?_eq_getElem hlen0)
    obtain ⟨g1,g2⟩:=cells_get h1
    have:=g2 0 hpos
    have hadd:(a.add (0*t.size)).add 0=a:=by simp [Addr.add]
    rw [hadd,List.getElem?_eq_getElem (by omega)] at this
    exact ⟨_,this⟩
   obtain ⟨b,o,spot⟩:=a
   obtain ⟨v0,hv0⟩:=first
   have hs0:spot=none∧b<w.heap.size:=by
    unfold World.cell? at hv0
    split at hv0
    ·rename_i c _ _ hc
     cases spot with
     | none =>
      refine ⟨rfl,?_⟩
      rcases Nat.lt_or_ge b w.heap.size with h | h
      ·exact h
      ·rw [Array.getElem?_eq_none h] at hc; cases hc
     | some s=>simp at hv0
    ·cases hv0
   obtain ⟨rfl,hblt⟩:=hs0
   have hc:∀ i,∃ c:List Value,∀ y,xs[i]?=some y→w.cells? 0 ((⟨b,o,none⟩:Addr).add (i*t.size)) t.size=some c∧Rep (Old w) w t .im y none_ c:=fun i=>by
    cases hy:xs[i]? with
    | none=>exact ⟨[],fun y h=>by cases h⟩
    | some y =>
     obtain ⟨c,h1,h2,_⟩:=hxs i y hy
     exact ⟨c,fun z hz=>by obtain rfl:=Option.some.inj hz; exact ⟨h1,h2⟩⟩
   obtain ⟨css,hcss⟩:=Classical.axiomOfChoice hc
   refine ⟨xs,⟨some ⟨b,o,none⟩,cap,by rw [hxl],by omega,.inr ⟨b,o,rfl,hblt,fun _=>none_,css,fun i y hy => ?_,fun i j k hk=>hk.elim⟩⟩,hbound,hwfs⟩
   obtain ⟨h1,h2⟩:=hcss i y hy
   obtain ⟨g1,g2⟩:=cells_get h1
   refine ⟨h2,g1,fun j hj => ?_,fun k hk=>hk.elim⟩
   rw [← g2 j hj,add_none,add_none]
theorem TyOK.cells {E:Env} {tid:TypeId} {t:Ty} {n:Nat} (h:TyOK E tid t n):E.P.cellsOf tid=t.size∧E.P.bytesOf tid=n:=by
 obtain ⟨i,z,h1,h2,h3,_⟩:=h.info
 simp [Program.cellsOf,Program.bytesOf,h1,h2,h3]
def OpnF (P:Program) (t:Ty) (fs:List Field) (off fuel:Nat):Prop :=
 ∀ {H:Type} {enc:TypeId × Value→H} {w:World} {sp:Nat→Bool} {hd:Bool} {cs:List Value} {xs:List (DataW H × List MemPlace)},
  off+t.size≤cs.length→xs.length=fs.length →
  (∀ (i:Nat) (f:Field),fs[i]?=some f→DataW.trod enc P w 0 sp hd fuel f.type ((cs.drop f.offset).take (P.cellsOf f.type))=xs[i]?) →
  (∀ n∈DataW.weightsEach P (fs.map (·.type)) (xs.map (·.1)),n≤reachBytes)→∃ a:t.den,Rep (Old w) w t .im a none_ ((cs.drop off).take t.size)∧Wf t a
theorem take_parts {α:Type} (cs:List α) (off m n:Nat):(cs.drop off).take (m+n)=(cs.drop off).take m++(cs.drop (off+m)).take n:=by
 rw [List.take_add,List.drop_drop]
theorem opnF_pair {E:Env} (hT:TTok E) {a b:Ty} {f:Field} {fs:List Field} {off N:Nat} (hf:Fields E.tt (f :: fs) (.pair a b) off) (ha:OpnAt E.P a f.type N) (hb:OpnF E.P b fs (off+a.size) N):OpnF E.P (.pair a b) (f :: fs) off N:=by
 obtain ⟨ho,⟨n,hn⟩,hfs⟩:=hf
 intro H enc w sp hd cs xs hl hxl hfi hw
 have hTa:=hT _ _ _ hn
 cases xs with
 | nil=>simp at hxl
 | cons y r =>
  have h0:=hfi 0 f rfl
  simp only [List.getElem?_cons_zero] at h0
  rw [ho,hTa.cells.1] at h0
  have hl':off+(a.size+b.size)≤cs.length:=hl
  obtain ⟨x1,r1,w1⟩:=ha h0 (fun n hn=>hw n (by simp only [List.map_cons,DataW.weightsEach,List.mem_append]; exact Or.inl hn))
  obtain ⟨x2,r2,w2⟩:=hb (cs:=cs) (xs:=r) (enc:=enc) (sp:=sp) (hd:=hd) (w:=w) (by omega) (by simpa using hxl) (fun i g hg=>by
   have:=hfi (i+1) g (by simpa using hg)
   simpa using this) (fun n hn=>hw n (by simp only [List.map_cons,DataW.weightsEach,List.mem_append]; exact Or.inr hn))
  exact ⟨(x1,x2),⟨_,_,none_,none_,take_parts cs off a.size b.size,r1,r2,fun _ h=>h,fun _ h=>h,fun _ h=>h.elim⟩,w1,w2⟩
theorem opnF_unit {P:Program} {fs:List Field} {off N:Nat}:OpnF P .unit fs off N:=by
 intro H enc w sp hd cs xs _ _ _ _
 exact ⟨(),List.take_zero,trivial⟩
theorem opnAt_struct {E:Env} {t:Ty} {tid:TypeId} {N:Nat} (hs:∃ fs,E.P.underlying tid=some (.struct fs)∧Fields E.tt fs.toList t 0) (hc:E.P.cellsOf tid=t.size) (hF:∀ {fs:List Field} {off:Nat},Fields E.tt fs t off→∀ n,n<N→OpnF E.P t fs off n):OpnAt E.P t tid N:=by
 obtain ⟨fs,hu,hf⟩:=hs
 intro H enc w sp hd cs x hx hw
 obtain ⟨xs,n,hn,rfl,hl,hxl,hfs⟩:=DataW.trod_struct hu hx
 have:=hF hf n (by omega) (cs:=cs) (xs:=xs) (enc:=enc) (sp:=sp) (hd:=hd) (w:=w) (by rw [hl,hc]; omega) (by rw [hxl]; simp) (fun i f hi=>hfs i f (by simpa using hi)) (fun n hn=>hw n (by
  simp only [DataW.weights,hu]
  exact hn))
 rw [List.drop_zero,List.take_of_length_le (by rw [hl,hc]; exact Nat.le_refl _)] at this
 exact this
theorem fields_ins {tt:TypeId→Option (Ty × Nat)}:∀ {a r:Ty},isChain a=true→∀ {fs:List Field} {off:Nat},Fields tt fs (ins a r) off→∃ f1 f2,fs=f1++f2∧Fields tt f1 a off∧Fields tt f2 r (off+a.size)
 | .pair x b,r,h,[],_,hf=>hf.elim
 | .pair x b,r,h,f :: fs,off,⟨h1,h2,h3⟩=>by
  obtain ⟨f1,f2,e,g1,g2⟩:=fields_ins (a:=b) (r:=r) h h3
  exact ⟨f :: f1,f2,by rw [e]; rfl,⟨h1,h2,g1⟩,by rw [show off+(Ty.pair x b).size=off+x.size+b.size from (Nat.add_assoc _ _ _).symm]; exact g2⟩
 | .unit,r,_,fs,off,hf=>⟨[],fs,rfl,trivial,hf⟩
 | .bool,_,h,_,_,_ | .int _,_,h,_,_,_ | .str,_,h,_,_,_ | .arr _ _,_,h,_,_,_ | .sl _,_,h,_,_,_ | .mp _ _,_,h,_,_,_ | .ex _ _ _,_,h,_,_,_=>by cases h
theorem weightsEach_app {H:Type} {P:Program}:∀ {l1 l2:List TypeId} {d1 d2:List (DataW H)},l1.length=d1.length→∀ n,(n∈DataW.weightsEach P l1 d1∨n∈DataW.weightsEach P l2 d2)→n∈DataW.weightsEach P (l1++l2) (d1++d2)
 | [],l2,[],d2,_,n,h=>h.elim (fun h=>by simp [DataW.weightsEach] at h) id
 | [],_,_ :: _,_,h,_,_=>by simp at h
 | _ :: _,_,[],_,h,_,_=>by simp at h
 | t :: l1,l2,d :: d1,d2,hl,n,h=>by
  simp only [List.cons_append,DataW.weightsEach,List.mem_append] at h ⊢
  have ih:=weightsEach_app (P:=P) (l1:=l1) (l2:=l2) (d1:=d1) (d2:=d2) (by simpa using hl) n
  rcases h with (h | h) | h
  ·exact .inl h
  ·exact .inr (ih (.inl h))
  ·exact .inr (ih (.inr h))
theorem opnF_ins {E:Env} {a r:Ty} (hc:isChain a=true) {fs:List Field} {off N:Nat} (hf:Fields E.tt fs (ins a r) off) (ha:∀ {fs:List Field} {off:Nat},Fields E.tt fs a off→OpnF E.P a fs off N) (hr:∀ {fs:List Field} {off:Nat},Fields E.tt fs r off→OpnF E.P r fs off N) :
 ∀ {H:Type} {enc:TypeId × Value→H} {w:World} {sp:Nat→Bool} {hd:Bool} {cs:List Value} {xs:List (DataW H × List MemPlace)},
 off+(ins a r).size≤cs.length→xs.length=fs.length →
 (∀ (i:Nat) (f:Field),fs[i]?=some f→DataW.trod enc E.P w 0 sp hd N f.type ((cs.drop f.offset).take (E.P.cellsOf f.type))=xs[i]?) →
 (∀ n∈DataW.weightsEach E.P (fs.map (·.type)) (xs.map (·.1)),n≤reachBytes)→∃ (v:a.den) (y:r.den),Rep (Old w) w (ins a r) .im (insV a v y) none_ ((cs.drop off).take (ins a r).size)∧Wf a v∧Wf r y:=by
 obtain ⟨f1,f2,rfl,h1,h2⟩:=fields_ins hc hf
 intro H enc w sp hd cs xs hl hxl hfi hw
 rw [(ins_cells r hc).2] at hl ⊢
 rw [List.length_append] at hxl
 have hx:xs=xs.take f1.length++xs.drop f1.length:=(List.take_append_drop _ _).symm
 have hl1:(xs.take f1.length).length=f1.length:=by rw [List.length_take]; omega
 obtain ⟨v,r1,w1⟩:=ha h1 (cs:=cs) (xs:=xs.take f1.length) (enc:=enc) (sp:=sp) (hd:=hd) (w:=w) (by omega) hl1 (fun i f hi=>by
  have hlt:=(List.getElem?_eq_some_iff.1 hi).1
  rw [hfi i f (by rw [List.getElem?_append_left hlt]; exact hi),List.getElem?_take_of_lt hlt]) (fun n hn=>hw n (by
   rw [hx,List.map_append,List.map_append]
   exact weightsEach_app (by rw [List.length_map,List.length_map,hl1]) n (.inl hn)))
 obtain ⟨y,r2,w2⟩:=hr h2 (cs:=cs) (xs:=xs.drop f1.length) (enc:=enc) (sp:=sp) (hd:=hd) (w:=w) (by omega) (by rw [List.length_drop]; omega) (fun i f hi=>by
  rw [hfi (f1.length+i) f (by rw [List.getElem?_append_right (by omega),Nat.add_sub_cancel_left]; exact hi),List.getElem?_drop]) (fun n hn=>hw n (by
   rw [hx,List.map_append,List.map_append]
   exact weightsEach_app (by rw [List.length_map,List.length_map,hl1]) n (.inr hn)))
 exact ⟨v,y,(rep_ins hc).2 ⟨_,_,take_parts cs off a.size r.size,r1,r2⟩,w1,w2⟩
theorem outV_ins:∀ {a r:Ty},isChain a=true→∀ (v:a.den) (y:r.den),outV a (insV a v y)=(v,y)
 | .pair x b,r,h,v,y=>by
  have:=outV_ins (a:=b) (r:=r) h v.2 y
  show ((v.1,(outV b (insV b v.2 y)).1),(outV b (insV b v.2 y)).2)=(v,y)
  rw [this]
 | .unit,_,_,_,_=>rfl
 | .bool,_,h,_,_ | .int _,_,h,_,_ | .str,_,h,_,_ | .arr _ _,_,h,_,_ | .sl _,_,h,_,_ | .mp _ _,_,h,_,_ | .ex _ _ _,_,h,_,_=>by cases h
theorem opn_ty_ {E:Env} (hT:TTok E) (hpos:∀ tid t n,E.tt tid=some (t,n)→0<t.size→0<n):∀ (t:Ty),t.plain=true→(∀ {tid:TypeId} {nb:Nat},TyOK E tid t nb→∀ N,OpnAt E.P t tid N)∧(∀ {fs:List Field} {off:Nat},Fields E.tt fs t off→∀ N,OpnF E.P t fs off N):=by
 intro t
 induction t with
 | bool=>intro _; exact ⟨fun h N=>fun {H enc w sp hd cs x} hx hw=>opnV_bool h.desc hx hw,fun {fs off} h=>by cases fs <;> cases h⟩
 | int k=>intro _; exact ⟨fun h N=>fun {H enc w sp hd cs x} hx hw=>opnV_int h.desc hx hw,fun {fs off} h=>by cases fs <;> cases h⟩
 | str=>intro _; exact ⟨fun h N=>fun {H enc w sp hd cs x} hx hw=>opnV_str h.desc hx hw,fun {fs off} h=>by cases fs <;> cases h⟩
 | unit=>intro _; exact ⟨fun h N=>opnAt_struct h.desc h.cells.1 (fun _ _ _=>opnF_unit),fun _ N=>opnF_unit⟩
 | pair a b ih1 ih2 =>
  intro hp
  simp only [Ty.plain,Bool.and_eq_true] at hp
  have hB:∀ {fs:List Field} {off:Nat},Fields E.tt fs (.pair a b) off→∀ N,OpnF E.P (.pair a b) fs off N:=by
   intro fs off hf N
   cases fs with
   | nil=>exact hf.elim
   | cons f fs =>
    obtain ⟨n,hn⟩:=hf.2.1
    exact opnF_pair hT hf ((ih1 hp.1).1 (hT _ _ _ hn) N) ((ih2 hp.2).2 hf.2.2 N)
  exact ⟨fun h N=>opnAt_struct h.desc h.cells.1 (fun hf n _=>hB hf n),hB⟩
 | sl t ih =>
  intro hp
  simp only [Ty.plain,Bool.and_eq_true] at hp
  refine ⟨fun {tid nb} h N => ?_,fun {fs off} h=>by cases fs <;> cases h⟩
  obtain ⟨e,n,hu,hn⟩:=h.desc
  have hTe:=hT _ _ _ hn
  have hsz:0<t.size:=Nat.lt_of_succ_le (Nat.le_of_ble_eq_true hp.2)
  exact @opnAt_sl _ _ _ _ _ _ hu hTe.cells.1 hTe.cells.2 hsz (hpos _ _ _ hn hsz) (fun n _=>(ih hp.1).1 hTe n)
 | arr n t _=>intro hp; cases hp
 | mp k v _ _=>intro hp; cases hp
 | ex k a b ih1 ih2 =>
  intro hp
  cases k with
  | ptr=>cases hp
  | ifc i j=>cases hp
  | fn0 f g=>cases hp
  | fn1 f=>cases hp
  | cell=>cases hp
  | tree =>
   simp only [Ty.plain,Bool.and_eq_true] at hp
   refine ⟨fun {tid nb} h N => ?_,fun {fs off} h=>by cases fs <;> cases h⟩
   induction N using Nat.strongRecOn generalizing tid nb with
   | ind N ihN =>
    obtain ⟨hc,fs,hu,hf⟩:=h.desc
    intro H enc w sp hd cs x hx hw
    obtain ⟨xs,n,hn,rfl,hl,hxl,hfs⟩:=DataW.trod_struct hu hx
    have hun:=un_cells (b:=b) hc
    have hr:∀ {fs:List Field} {off:Nat},Fields E.tt fs (.pair (.sl (.ex .tree a b)) b) off→OpnF E.P (.pair (.sl (.ex .tree a b)) b) fs off n:=by
     intro fs off hf
     cases fs with
     | nil=>exact hf.elim
     | cons f fs =>
      obtain ⟨m,hm⟩:=hf.2.1
      refine opnF_pair hT hf ?_ ((ih2 hp.2).2 hf.2.2 n)
      obtain ⟨e,k,hue,hne⟩:=(hT _ _ _ hm).desc
      have hTe:=hT _ _ _ hne
      have hsz:0<(Ty.ex .tree a b).size:=by simp only [Ty.size]; omega
      exact @opnAt_sl _ _ _ _ _ _ hue hTe.cells.1 hTe.cells.2 hsz (hpos _ _ _ hne hsz) (fun n' hn'=>ihN n' (by omega) hTe)
    obtain ⟨v,y,h1,w1,w2,w3⟩:=opnF_ins (r:=.pair (.sl (.ex .tree a b)) b) hc hf (fun hf=>(ih1 hp.1).2 hf n) hr (cs:=cs) (xs:=xs) (enc:=enc) (sp:=sp) (hd:=hd) (w:=w) (by rw [hl,h.cells.1,Nat.zero_add]; exact Nat.le_of_eq hun.2.1) (by rw [hxl]; simp) (fun i f hi=>hfs i f (by simpa using hi)) (fun n hn=>hw n (by
     simp only [DataW.weights,hu]
     exact hn))
    rw [List.drop_zero,List.take_of_length_le (by rw [hl,h.cells.1]; exact Nat.le_of_eq hun.2.1.symm)] at h1
    refine ⟨foV a b (insV a v y),fo_rep hc h1,?_⟩
    unfold foV
    rw [outV_ins hc]
    exact RAll.mk ⟨w1,w3,w2.1⟩ w2.2
theorem opn_ty {E:Env} (hT:TTok E) (hpos:∀ tid t n,E.tt tid=some (t,n)→0<t.size→0<n) (t:Ty) (hp:t.plain=true):(∀ {tid:TypeId} {nb:Nat},TyOK E tid t nb→OpnV E.P t tid) :=
 fun {tid nb} h {H enc w sp hd fuel cs x} hx hw=>(opn_ty_ hT hpos t hp).1 h fuel hx hw
end Go.Proofs.YtmidcfjmchpcnaaGreat.V
namespace Go.Proofs.YtmidcfjmchpcnaaGreat.V
open Go Go.RowKit
set_option linter.unusedVariables false
set_option linter.all false
theorem law_calls {P:Program} {f:FuncId} {as:List MS} {M:denT (denIO []) (shp as 0)→Option (outD (Ty.den (.pair .bool .unit)) [])} (ok:(FS.mk f as [] [] (.pair .bool .unit) .im M).OK P) {arg:Arg} {d:denT (denIO []) (shp as 0)} (ha:raL (S:=denIO []) () as 0 arg=some d)
 (hM:M d=some ((true,()):Ty.den (.pair .bool .unit))) {W:World} {vs:List Value} (hA:RepA (Old W) W 0 (fun _=>undef) arg vs):Calls P f vs.toArray W fun e W'=>e=.returned (.bool true)∧Below W.heap.size W W':=by
 obtain ⟨_,h⟩:=ok arg [] ⟨outD (Ty.den (.pair .bool .unit)) [],M d,.pair .bool .unit,.im,out1 [],fun r=>wrIO [] 0 (out2 [] r)++List.replicate 0 none⟩ (by
  have e:∀ o:Option (denT (denIO []) (shp as 0)),o=some d→(match o with
   | some d=>some (CallRes.mk (outD (Ty.den (.pair .bool .unit)) []) (M d) (.pair .bool .unit) .im (out1 []) (fun r=>wrIO [] 0 (out2 [] r)++List.replicate 0 none))
   | none=>none)=some ⟨outD (Ty.den (.pair .bool .unit)) [],M d,.pair .bool .unit,.im,out1 [],fun r=>wrIO [] 0 (out2 [] r)++List.replicate 0 none⟩:=fun o ho=>by rw [ho]
  exact Eq.trans (by kernel_rfl) (e _ ha))
 refine (h ((true,()):Ty.den (.pair .bool .unit)) hM (Old W) W (fun _=>undef) (fun _=>none_) vs ⟨fun k hv cv c h=>by simp [ioSl] at h,fun k hv cv c h=>by simp [ioSl] at h,fun k k' b h=>h.elim,fun k b h=>h.elim,fun _ h=>h,fun k b h=>h.elim⟩ (fun k b h=>h.elim) hA).mono fun e W' ⟨Z',fp',F,us,Q⟩=>⟨?_,Q.os,Q.tape,Q.output,Q.size,fun b hb=>Q.old b hb (fun k h=>h)⟩
 obtain ⟨v,vs',f1,f2,e1,⟨cs,r1,e2⟩,r2,_⟩:=Q.rep
 rw [Q.ret,e1,show vs'=[] from r2,e2,show cs=[.bool true] from r1]
 rfl
theorem arg_agg {P:Program} {t:Ty} {tid:TypeId} (ho:OpnV P t tid) {H:Type} {enc:TypeId × Value→H} {w:World} {sp:Nat→Bool} {hd:Bool} {fuel:Nat} {v:Value} {x:DataW H × List MemPlace}
 (h:DataW.trod enc P w 0 sp hd fuel tid v.cells.toList=some x) (hw:∀ n∈DataW.weights P tid x.1,n≤reachBytes) (hv:v=t.val v.cells.toList):∃ a:t.den,RepA (Old w) w 0 (fun _=>undef) (.dyn t a) [v]∧Wf t a:=by
 obtain ⟨a,h1,h2⟩:=ho h hw
 exact ⟨a,⟨_,h1,by rw [← hv]⟩,h2⟩
theorem repA_cons {Z:Bs} {w:World} {n:Nat} {hd:Nat→Value} {x y:Arg} {v:Value} {vs:List Value} (h1:RepA Z w n hd x [v]) (h2:RepA Z w n hd y vs):RepA Z w n hd (.tc x y) (v :: vs):=⟨v,vs,rfl,h1,h2⟩
theorem repA_nil {Z:Bs} {w:World} {n:Nat} {hd:Nat→Value}:RepA Z w n hd .tn []:=rfl
theorem tab_mem {tid:TypeId} {t:Ty} {n:Nat}:∀ {l:Tab},Tab.tt l tid=some (t,n)→(tid,t,n)∈l
 | [],h=>by cases h
 | c :: l,h=>by
  simp only [Tab.tt] at h
  cases hb:Nat.beq tid c.1 with
  | true =>
   rw [hb] at h
   have e:=Nat.eq_of_beq_eq_true hb
   obtain ⟨a,b⟩:=c
   obtain rfl:=Option.some.inj h
   subst e
   exact List.mem_cons_self
  | false =>
   rw [hb] at h
   exact List.mem_cons_of_mem _ (tab_mem h)
theorem tab_pos {T:Tab} (h:T.all (fun e=>Nat.blt 0 e.2.2 || Nat.beq e.2.1.size 0)=true):∀ tid t n,Tab.tt T tid=some (t,n)→0<t.size→0<n:=fun tid t n he hs=>by
 have h1:=List.all_eq_true.1 h _ (tab_mem he)
 simp only [Bool.or_eq_true] at h1
 rcases h1 with h1 | h1
 ·exact Nat.lt_of_succ_le (Nat.le_of_ble_eq_true h1)
 ·have:=Nat.eq_of_beq_eq_true h1
  omega
theorem tab_opn {P:Program} {T:Tab} (h:T.all (entB P T)=true) (hp:∀ tid t n,Tab.tt T tid=some (t,n)→0<t.size→0<n) {t:Ty} {tid:TypeId} {nb:Nat} (hl:t.plain=true) (he:Tab.tt T tid=some (t,nb)):OpnV P t tid :=
 opn_ty (E:=⟨P,T.tt,fun _ _ _=>none,0,fun _ _ _=>none⟩) (ttOK h _ _ _) hp t hl (ttOK h _ _ _ _ _ _ he)
end Go.Proofs.YtmidcfjmchpcnaaGreat.V
