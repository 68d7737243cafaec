/- The law over the models,part 2. -/
import Derived.Test.YtmidcfjmchpcnaaGreatPInversea
namespace Go.Proofs.YtmidcfjmchpcnaaGreat.V
open Go Classical
set_option linter.unusedVariables false
set_option linter.all false
theorem q88 {α:Type} (l:List α) (z:α):idx (l++[z]) (l.length:Int)=some z:=by
 obtain ⟨r,e,e',_⟩:=q3t (l:=l++[z]) (i:=l.length) (by simp)
 rw [e]
 rw [List.getElem?_append_right (Nat.le_refl _),Nat.sub_self] at e'
 exact e'.symm
theorem q89 {α:Type} (l:List α) (z v:α):List.set (l++[z]) l.length v=l++[v]:=by
 rw [List.set_append_right _ _ (Nat.le_refl _),Nat.sub_self]; rfl
theorem q9a {m k:Nat} {f:Fld} (hf:FV f) {p:Prg} (hm:Fu m) (self:Option (Fld × (Int × (Int × Unit)))→List Stm→Option (List Stm × Unit)) {r:Stm} {i:Int} {out:List Stm} (hr:AddV (qF f) p r∨SclV (qF f) p r∨LpV r) (hks:kind r=2→self (clF f) r.kids=some (iv f k r.kids,())) (ho:out.length≤1000000000) :
 qhe self m (clF f,(),()) (i,r) (out,())=some (.inl (out++[iv1 f k r],())):=by
 have e1:qgt m r.val.1.2.2.2.2.2.1=some (args r,()):=q6x (by
  rcases hr with h | h | h
  ·have:=h.a0; unfold args at this; omega
  ·have:=h.a0; unfold args at this; rw [this]; simp
  ·have:=h.a0; unfold args at this; rw [this]; simp)
 have ei:=q88 out (Rose.node (((0:Int),((0:Int),((0:Int),((0:Int),((0:Int),(([]:(List (Bool × (Int × Unit)))),())))))),()) ([]:List Stm))
 have es:=fun v:Stm=>q89 out (Rose.node (((0:Int),((0:Int),((0:Int),((0:Int),((0:Int),(([]:(List (Bool × (Int × Unit)))),())))))),()) ([]:List Stm)) v
 rcases hr with h | h | h
 ·have k0:r.val.1.1=0:=h.k0
  have e2:qc2 m (clF f) 0 r.val.1.2.2.1=some (fN f (cof r),()):=q8h hf ⟨h.c0,h.c1⟩
  have e3:iv1 f k r=Rose.node ((r.val.1.1,(r.val.1.2.1,(fN f (cof r),(r.val.1.2.2.2.1,(r.val.1.2.2.2.2.1,(args r,())))))),()) r.kids:=by
   unfold iv1 ivc; rw [if_pos h.k0,if_pos (.inl h.k0)]; rfl
  rw [e3]
  simp (disch:=first | assumption | omega) only [zA,zB,zC,zD,zE,zF,zG,q3c,q26,q27,zH,zI,dpos,dneg,zJ,zK,zL,zM,zN,zO,zP,qhe,qhd,e1,e2,ei,es,List.length_append,List.length_cons,List.length_nil]
 ·have k0:¬ r.val.1.1=0:=by have:r.val.1.1=1:=h.k0; omega
  have k1:r.val.1.1=1:=h.k0
  have e2:qhc m f r.val.1.2.2.1=some (fI f (cof r),(0,())):=q8g hm hf ⟨h.c0,h.c1⟩ h.c2
  have e3:iv1 f k r=Rose.node ((r.val.1.1,(r.val.1.2.1,(fI f (cof r),(r.val.1.2.2.2.1,(r.val.1.2.2.2.2.1,(args r,())))))),()) r.kids:=by
   unfold iv1 ivc; rw [if_neg (show ¬ kind r=0 from k0),if_pos h.k0,if_pos (.inr h.k0)]; rfl
  rw [e3]
  simp (disch:=first | assumption | omega) only [zA,zB,zC,zD,zE,zF,zG,q3c,q26,q27,zH,zI,dpos,dneg,zJ,zK,zL,zM,zN,zO,zP,qhe,qhd,clF,e1,e2,ei,es,List.length_append,List.length_cons,List.length_nil]
 ·have k2:kind r=2:=h.k0
  have k0:¬ r.val.1.1=0:=by have:r.val.1.1=2:=h.k0; omega
  have k1:¬ r.val.1.1=1:=by have:r.val.1.1=2:=h.k0; omega
  have e2:=hks k2
  have e3:iv1 f k r=Rose.node ((r.val.1.1,(r.val.1.2.1,(r.val.1.2.2.1,(r.val.1.2.2.2.1,(r.val.1.2.2.2.2.1,(args r,())))))),()) (iv f k r.kids):=by
   unfold iv1 ivc; rw [if_neg (show ¬ kind r=0 from k0),if_neg (show ¬ kind r=1 from k1),if_neg (fun h=>h.elim k0 k1)]; rfl
  rw [e3]
  simp (disch:=first | assumption | omega) only [zA,zB,zC,zD,zE,zF,zG,q3c,q26,q27,zH,zI,dpos,dneg,zJ,zK,zL,zM,zN,zO,zP,qhe,qhd,e1,e2,ei,es,List.length_append,List.length_cons,List.length_nil]
theorem q9b {X O:Type} {body:Int × X→List X × Unit→Option ((List X × Unit) ⊕ O)} {l:List X} {g:X→X} (h:∀ (i:Int) (x:X) (out:List X),x∈l→out.length≤l.length→body (i,x) (out,())=some (.inl (out++[g x],()))):∀ j,j≤l.length→rngL body (bwdN l j) ((((l.drop j).map g).reverse),())=some (.inl ((l.map g).reverse,()))
 | 0,_=>rfl
 | j+1,hj=>by
  have hx:l[j]?=some l[j]:=List.getElem?_eq_getElem (by omega)
  have hd:l.drop j=l[j] :: l.drop (j+1):=List.drop_eq_getElem_cons (by omega)
  simp only [bwdN,hx,rngL]
  rw [h _ _ _ (List.getElem_mem _) (by simp)]
  show rngL body (bwdN l j) (_,())=_
  have:=q9b h j (by omega)
  rw [hd,List.map_cons,List.reverse_cons] at this
  exact this
theorem q9c {f:Fld} (hf:FV f) {p:Prg}:∀ (k:Nat) {n B e:Nat} {l:List Stm},Fk k n→Sma k B l→B≤100000000→OV (qF f) p e l→qhi n (clF f) l=some (iv f k l,())
 | 0,_,_,_,_,_,h,_,_=>h.dp.elim
 | k+1,n,B,e,l,hn,hs,hB,ho=>by
  obtain ⟨m,rfl,hm⟩:=hn.down
  have hlen:=hs.len
  have hb:=q9b (O:=Empty) (body:=qhe (qhi m) m (clF f,(),())) (l:=l) (g:=iv1 f k) (fun i x out hx hout=>by
   refine q9a (p:=p) hf hm.fu (qhi m) ?_ (fun h2 => ?_) (by omega)
   ·exact (ho.at hx).imp id (Or.imp id (fun h=>h.1))
   ·rcases ho.at hx with g | g | ⟨_,e',g⟩
    ·rw [g.k0] at h2; omega
    ·rw [g.k0] at h2; omega
    ·exact q9c hf k hm (hs.kid hx).1 hB g) l.length (Nat.le_refl _)
  rw [List.drop_length] at hb
  have hit:itV (some l)=some (bwdN l l.length):=by
   unfold itV
   have:Nat.blt l.length 4611686018427387904=true:=Nat.ble_eq_true_of_le (by omega)
   simp only [Option.bind_some,this,cond_true]
  show qhh (qhi m) m (clF f) l=_
  unfold qhh
  have e0:qg0 m l=some (some l,()):=rfl
  rw [e0,Option.bind_some,hit,Option.bind_some]
  have hb:rngL (qhe (qhi m) m (clF f,(),())) (bwdN l l.length) ([],())=some (.inl ((l.map (iv1 f k)).reverse,())):=hb
  rw [hb]; rfl
def Iv (p:Prg):Prg:=(p.1,(p.2.1,(p.2.2.1,(p.2.2.2.1,(iv p.1 71 p.2.2.2.2.1,())))))
theorem q9d {n:Nat} (hn:Fk 355 n) {p:Prg} (n1:Nar p):qhj n p=some (if VPr p then (Iv p,(0,())) else (nulP,(1,()))):=by
 have hP1:pss p.2.2.2.1≤1000000:=by have:=n1.size; omega
 have v1:=q4y hn n1.body (by omega) hP1
 have l1:=n1.polys
 by_cases c:VPr p
 ·rw [decide_eq_true c] at v1
  rw [if_pos c]
  have e1:=q6z hn.fu (p:=p) (by omega) hP1
  have e2:=q5y hn.fu c.f
  have e3:=q9c c.f 71 (hn.le (show 71≤355 by omega)) n1.body (by omega) c.body
  unfold Iv
  simp (disch:=first | assumption | omega) only [zA,zB,zC,zD,zE,zF,zG,q3c,q26,q27,zH,zI,dpos,dneg,zJ,zK,zL,zM,zN,zO,zP,qhj,v1,e1,e2,e3]
 ·rw [decide_eq_false c] at v1
  rw [if_neg c]
  unfold nulP
  simp (disch:=first | assumption | omega) only [zA,zB,zC,zD,zE,zF,zG,q3c,q26,q27,zH,zI,dpos,dneg,zJ,zK,zL,zM,zN,zO,zP,qhj,v1]
theorem q9e {q:Int} {p:Prg} {r:Stm} (h:AddV q p r):AddV q (Iv p) r:=⟨h.k0,h.n0,h.b0,h.t0,h.t1,h.c0,h.c1,h.p0,h.p1,h.a0,h.v,fun a ha=>h.rs a ha⟩
theorem q9f {q:Int} {p:Prg} {r:Stm} (h:SclV q p r):SclV q (Iv p) r:=⟨h.k0,h.p0,h.n0,h.a0,h.b0,h.t0,h.t1,h.c0,h.c1,h.c2⟩
theorem ov_iv {q:Int} {p:Prg}:∀ (e:Nat) {l:List Stm},OV q p e l→OV q (Iv p) e l
 | 0,l,h=>fun r hr=>(h r hr).imp q9e q9f
 | e+1,l,h=>fun r hr=>(h r hr).imp q9e (Or.imp q9f (fun ⟨a,b⟩=>⟨a,ov_iv e b⟩))
theorem q9g {p:Prg} (h:VPr p) (hd:Dp 71 p.2.2.2.2.1):VPr (Iv p):=⟨h.f,h.r1,h.r2,h.i1,h.i2,h.len,h.polys,ov_iv 60 (iv_OV h.f 60 71 hd h.body)⟩
theorem q9h {f:Fld} {p j:Prg} (h:p.2.2.2.1=j.2.2.2.1) {inp:List Int}:∀ (k:Nat),ex f p inp k=ex f j inp k
 | 0=>rfl
 | k+1=>by
  have e1:ex1 f p inp k=ex1 f j inp k:=by
   funext s r
   unfold ex1
   rw [q9h h k]
   have:adds f p inp r s=adds f j inp r s:=by unfold adds; rw [h]
   rw [this]
  funext l s
  rw [q6c,q6c,e1]
theorem q9i {n B:Nat} (hn:Fk 71 n) {p:Prg} (hp:VPr p) (hs:Sma 71 B p.2.2.2.2.1) (hB:B≤200000):∃ d:Nat,qhk n p=some ((d:Int),())∧qhk n (Iv p)=some ((d:Int),()):=by
 obtain ⟨c1,d1,e1,_,a1,b1⟩:=q41 71 (L:=61) hn hs hB (by omega)
 obtain ⟨c2,d2,e2,_,a2,b2⟩:=q41 71 (L:=61) hn (q8n (f:=p.1) hs) hB (by omega)
 have hL:Ld 60 p.2.2.2.2.1:=((SV_OV 71 60 hs.dp).1 hp.body).2
 have h1:d1≤60:=(b1 60 (by omega)).2 hL
 have h2:d2≤60:=(b2 60 (by omega)).2 ((iv_Ld 60 71 hs.dp).2 hL)
 have h3:d1≤d2:=(b1 d2 (by omega)).2 ((iv_Ld d2 71 hs.dp).1 ((b2 d2 (by omega)).1 (Nat.le_refl _)))
 have h4:d2≤d1:=(b2 d1 (by omega)).2 ((iv_Ld d1 71 hs.dp).2 ((b1 d1 (by omega)).1 (Nat.le_refl _)))
 have:d2=d1:=by omega
 subst this
 have e1:qe3 n p.2.2.2.2.1 61=_:=e1
 have e2:qe3 n (Iv p).2.2.2.2.1 61=_:=e2
 exact ⟨d2,by simp (disch:=first | assumption | omega) only [zA,zB,zC,zD,zE,zF,zG,q3c,q26,q27,zH,zI,dpos,dneg,zJ,zK,zL,zM,zN,zO,zP,qhk,e1],by simp (disch:=first | assumption | omega) only [zA,zB,zC,zD,zE,zF,zG,q3c,q26,q27,zH,zI,dpos,dneg,zJ,zK,zL,zM,zN,zO,zP,qhk,e2]⟩
theorem q9j {p:Prg} (hl:Ln p.2.2.2.2.1) (hp:LnP p.2.2.2.1) (s inp:List Int):∃ n,qhl n p s inp=some (true,()):=by
 obtain ⟨n0,hn0,m,hm⟩:∃ n,Fk 1000 n∧∃ m,n+1=m+200:=⟨1180591620717411304424,by unfold Fk; omega,1180591620717411304225,rfl⟩
 have hn:Fk 1000 (n0+1):=by unfold Fk at hn0 ⊢; omega
 have ea:qea (n0+1)=some (true,()):=by rw [hm]; exact q5i m
 clear hm
 refine ⟨n0+1,?_⟩
 generalize n0+1=n at *
 clear hn0
 rcases q3z (hn.le (by omega)) hl hp with w1 | ⟨w1,n1⟩
 ·simp (disch:=first | assumption | omega) only [zA,zB,zC,zD,zE,zF,zG,q3c,q26,q27,zH,zI,dpos,dneg,zJ,zK,zL,zM,zN,zO,zP,qhl,w1,ea]
 by_cases g1:(100:Int)<(s.length:Int)
 ·simp (disch:=first | assumption | omega) only [zA,zB,zC,zD,zE,zF,zG,q3c,q26,q27,zH,zI,dpos,dneg,zJ,zK,zL,zM,zN,zO,zP,qhl,w1,ea]
 by_cases g2:(100:Int)<(inp.length:Int)
 ·simp (disch:=first | assumption | omega) only [zA,zB,zC,zD,zE,zF,zG,q3c,q26,q27,zH,zI,dpos,dneg,zJ,zK,zL,zM,zN,zO,zP,qhl,w1,ea]
 have hP:pss p.2.2.2.1≤1000000:=by have:=n1.size; omega
 have hpl:=n1.polys
 have ec:=q3w (hn.le (show 71≤1000 by omega)) n1.body (by omega) (by omega) hP
 have e2:=q5a (hn.le (show 71≤1000 by omega)) n1.body (by omega) hP
 have eI:=q9d (hn.le (show 355≤1000 by omega)) n1
 have ez:=q87 n
 by_cases c1:VPr p
 ·rw [decide_eq_true c1] at e2
  rw [if_pos c1] at eI
  have hV:=q9g c1 n1.body.dp
  have hS:=q8n (f:=p.1) n1.body
  have e3:=q5a (p:=Iv p) (hn.le (show 71≤1000 by omega)) hS (by omega) hP
  rw [decide_eq_true hV] at e3
  have hL:=q5j 71 60 c1.body
  have hL2:=q5j 71 60 hV.body
  have s1:=q5h 71 (hn.le (show 71≤1000 by omega)) n1.body (by omega) hL
  have s2:qfi n (Iv p).2.2.2.2.1=some (((sat (stp 71 p.2.2.2.2.1):Nat):Int),()):=by
   have:=q5h 71 (hn.le (show 71≤1000 by omega)) (l:=(Iv p).2.2.2.2.1) hS (by omega) hL2
   rw [show stp 71 (Iv p).2.2.2.2.1=stp 71 p.2.2.2.2.1 from q8o 71 _] at this
   exact this
  obtain ⟨d,d1,d2⟩:=q9i (hn.le (show 71≤1000 by omega)) c1 n1.body (by omega)
  have S1:qfj n p=some (((sat (stp 71 p.2.2.2.2.1):Nat):Int),()):=by simp (disch:=first | assumption | omega) only [zA,zB,zC,zD,zE,zF,zG,q3c,q26,q27,zH,zI,dpos,dneg,zJ,zK,zL,zM,zN,zO,zP,qfj,s1]
  have S2:qfj n (Iv p)=some (((sat (stp 71 p.2.2.2.2.1):Nat):Int),()):=by simp (disch:=first | assumption | omega) only [zA,zB,zC,zD,zE,zF,zG,q3c,q26,q27,zH,zI,dpos,dneg,zJ,zK,zL,zM,zN,zO,zP,qfj,s2]
  have eF:=q6q hn.fu c1.f (s:=s) (inp:=inp) (by omega) (by omega)
  obtain ⟨b,ed⟩:=q6t (hn.le (show 71≤1000 by omega)) n1.body (by omega) hL (by omega) hP
  have q1:(Iv p).1.1=p.1.1:=rfl
  have q2:(Iv p).1.2.1=p.1.2.1:=rfl
  have q3:(Iv p).2.1=p.2.1:=rfl
  have q4:(Iv p).2.2.1=p.2.2.1:=rfl
  by_cases c4:StI p s inp
  ·rw [decide_eq_true c4] at eF
   obtain ⟨x1,x2⟩:=q86 c1.pri 71 n1.body.dp c1.body c4
   have hx:=ex_ok c1.pri 71 c1.body c4
   have hy:=ex_ok c1.pri 71 (iv_OV c1.f 60 71 n1.body.dp c1.body) c4
   have toI:∀ {t:List Int},StI p t inp→StI (Iv p) t inp:=fun h=>⟨h.l1,h.l2,h.e1,h.e2⟩
   have r1:=q6u (hn.le (show 71≤1000 by omega)) c1 n1.body (by omega) c4
   have r2:=q6u (hn.le (show 71≤1000 by omega)) hV hS (by omega) (toI hx)
   have r3:=q6u (hn.le (show 71≤1000 by omega)) hV hS (by omega) (toI c4)
   rw [q9h (p:=Iv p) (j:=p) rfl] at r2 r3
   have r4:=q6u (hn.le (show 71≤1000 by omega)) c1 n1.body (by omega) hy
   have r2:qgp n (Iv p) (ex p.1 p inp 71 p.2.2.2.2.1 s) inp=some (s,()):=by rw [r2]; exact congrArg (fun x=>some (x,())) x1
   have r3:qgp n (Iv p) s inp=some (ex p.1 p inp 71 (iv p.1 71 p.2.2.2.2.1) s,()):=r3
   have r4:qgp n p (ex p.1 p inp 71 (iv p.1 71 p.2.2.2.2.1) s) inp=some (s,()):=by rw [r4]; exact congrArg (fun x=>some (x,())) x2
   have e6:qd9 n s s=some (true,()):=q6p hn.fu (by omega)
   generalize ex p.1 p inp 71 p.2.2.2.2.1 s=o1 at *
   generalize ex p.1 p inp 71 (iv p.1 71 p.2.2.2.2.1) s=o2 at *
   generalize sat (stp 71 p.2.2.2.2.1)=x at *
   generalize Iv p=u at *
   clear hL hL2 hx hy toI hS x1 x2
   cases b with
   | true=>simp (disch:=first | assumption | omega) only [zA,zB,zC,zD,zE,zF,zG,q3c,q26,q27,zH,zI,dpos,dneg,zJ,zK,zL,zM,zN,zO,zP,qhl,w1,ea,ec,e2,eI,e3,S1,S2,d1,d2,q1,q2,q3,q4,eF,ed,Bool.and_self]
   | false=>simp (disch:=first | assumption | omega) only [zA,zB,zC,zD,zE,zF,zG,q3c,q26,q27,zH,zI,dpos,dneg,zJ,zK,zL,zM,zN,zO,zP,qhl,w1,ea,ec,e2,eI,e3,S1,S2,d1,d2,q1,q2,q3,q4,eF,ed,r1,r2,r3,r4,e6,Bool.and_self]
  ·rw [decide_eq_false c4] at eF
   generalize sat (stp 71 p.2.2.2.2.1)=x at *
   generalize Iv p=u at *
   clear hL hL2 hS
   simp (disch:=first | assumption | omega) only [zA,zB,zC,zD,zE,zF,zG,q3c,q26,q27,zH,zI,dpos,dneg,zJ,zK,zL,zM,zN,zO,zP,qhl,w1,ea,ec,e2,eI,e3,S1,S2,d1,d2,q1,q2,q3,q4,eF,Bool.and_self]
 ·rw [decide_eq_false c1] at e2
  rw [if_neg c1] at eI
  simp (disch:=first | assumption | omega) only [zA,zB,zC,zD,zE,zF,zG,q3c,q26,q27,zH,zI,dpos,dneg,zJ,zK,zL,zM,zN,zO,zP,qhl,w1,ea,ec,e2,eI,ez]
theorem q9k (p:Prg) (s inp:List Int) (h:Wf TyPrg p):∃ n,qhl n p s inp=some (true,()):=q9j (ln_of h).1 (ln_of h).2 s inp
end Go.Proofs.YtmidcfjmchpcnaaGreat.V
