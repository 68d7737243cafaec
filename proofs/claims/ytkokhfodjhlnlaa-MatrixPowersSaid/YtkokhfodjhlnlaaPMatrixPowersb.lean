/- The law over the models,part 2. -/
import Derived.Test.YtkokhfodjhlnlaaPMatrixPowersa
namespace Go.Proofs.Ytkokhfodjhlnlaa.V
open Go Classical
set_option linter.unusedVariables false
set_option linter.all false
theorem q74 {N:Nat} {f:Fld} {n k:Int} {e:Int} (he:qae N f n k=some (e,())) (h0:¬ e=0):qfw N f n k=some (noPrg,(e,())):=by
  simp (disch:=first | assumption | omega) only [zA,zB,zC,zD,zE,zF,zG,q1i,q1c,q1d,zH,zI,dpos,dneg,zJ,zK,zL,zM,zN,zO,zP,qfw,he]
theorem ow {n:Nat} (hn:n≤21):IntKind.i64.wrap ((n:Int)*(n:Int))=((1*n*n:Nat):Int):=by
  have h1:n*n≤21*21:=Nat.mul_le_mul hn hn
  rw [← Int.natCast_mul,q1b (by omega) (by omega),Nat.one_mul]
theorem q75 {N:Nat} (hN:Fk 7 N) {f:Fld} (hf:FV f) {n k:Nat} (n1:1≤n) (n2:n≤21) (k1:1≤k) (k2:k≤64) :
    qfw N f (n:Int) (k:Int)=some (if 64<3*n*n∨200000<lng n n k then (noPrg,(5,())) else (prgM f n n 1 (whL n n true f k (List.range n)),(0,()))):=by
  have ea:=q5f hN.fu (f:=f) (n:Int) (k:Int)
  rw [if_neg (by simpa using hf),if_neg (by omega)] at ea
  have ek:=ow n2
  have es:=q57 hN.fu n2 n2 k2 ((1*n*n:Nat):Int)
  have e3:3*n*n=3*(n*n):=Nat.mul_assoc 3 n n
  have e4:1*n*n=n*n:=by rw [Nat.one_mul]
  by_cases c:64<3*n*n∨200000<lng n n k
  · rw [if_pos c]
    rw [if_pos (c.elim .inl (fun c=>.inr (.inr c)))] at es
    simp (disch:=first | assumption | omega) only [zA,zB,zC,zD,zE,zF,zG,q1i,q1c,q1d,zH,zI,dpos,dneg,zJ,zK,zL,zM,zN,zO,zP,qfw,ea,ek,es]
  · rw [if_neg c]
    rw [if_neg (by omega)] at es
    have hs:Sml n n:=⟨n1,n2,n1,n2⟩
    have em:=q59 hN.fu (f:=f) hs ((1*n*n:Nat):Int)
    have ei:=q6a hN.fu (n:=n) (by omega)
    have ew:=q51 hN hf hs (mi:=0) (In:=((1*n*n:Nat):Int)) (P:=pl n) (bo:=true) k1 k2 (cols:=List.range n) (by simp) (fun x hx=>List.mem_range.1 hx)
    have e1:(mkm f n n 0 ((1*n*n:Nat):Int) (pl n) none []).1=f:=rfl
    have ew':qbo N (k:Int) ((List.range n).map (fun x:Nat=>(x:Int))) ((mkm f n n 0 ((1*n*n:Nat):Int) (pl n) none []).1,((mkm f n n 0 ((1*n*n:Nat):Int) (pl n) none []).2.1,((mkm f n n 0 ((1*n*n:Nat):Int) (pl n) none []).2.2.1,((mkm f n n 0 ((1*n*n:Nat):Int) (pl n) none []).2.2.2.1,((mkm f n n 0 ((1*n*n:Nat):Int) (pl n) none []).2.2.2.2.1,(some (some true),(mkm f n n 0 ((1*n*n:Nat):Int) (pl n) none []).2.2.2.2.2.2))))))=_:=ew
    generalize mkm f n n 0 ((1*n*n:Nat):Int) (pl n) none []=K at *
    simp (disch:=first | assumption | omega) only [zA,zB,zC,zD,zE,zF,zG,q1i,q1c,q1d,zH,zI,dpos,dneg,zJ,zK,zL,zM,zN,zO,zP,qfw,ea,ek,es,em,qfv,ei,ew']
    rfl
set_option maxHeartbeats 4000000 in
theorem q76 (q:Sz) (l:List Int):∃ n,qgx n q l=some (true,()):=by
  refine ⟨1180591620717411303424+71,?_⟩
  have hN:Fk 71 (1180591620717411303424+71):=Nat.le_refl _
  generalize 1180591620717411303424+71=N at hN
  have eA:=q5c hN.fu
  by_cases c0:1000<l.length
  · have c0':(1000:Int)<(l.length:Int):=by omega
    simp (disch:=first | assumption | omega) only [zA,zB,zC,zD,zE,zF,zG,q1i,q1c,q1d,zH,zI,dpos,dneg,zJ,zK,zL,zM,zN,zO,zP,qgx,eA]
  · have c0':¬ (1000:Int)<(l.length:Int):=by omega
    have ec:=q73 hN.fu q
    obtain ⟨f,n,K,I,J,⟨⟩⟩:=q
    have ea:=q5f hN.fu (f:=f) n K
    have en:=q72 N
    by_cases cf:FV f
    · by_cases cn:n<1∨21<n∨K<1∨64<K
      · rw [if_neg (by simpa using cf),if_pos cn] at ec ea
        have eP:=q74 ea (by decide)
        simp (disch:=first | assumption | omega) only [zA,zB,zC,zD,zE,zF,zG,q1i,q1c,q1d,zH,zI,dpos,dneg,zJ,zK,zL,zM,zN,zO,zP,qgx,ec,eP,en,eA]
      · rw [if_neg (by simpa using cf),if_neg cn] at ec
        obtain ⟨m,rfl⟩:∃ m:Nat,n=(m:Int):=⟨n.toNat,by omega⟩
        obtain ⟨k,rfl⟩:∃ k:Nat,K=(k:Int):=⟨K.toNat,by omega⟩
        have m1:1≤m:=by omega
        have m2:m≤21:=by omega
        have k1:1≤k:=by omega
        have k2:k≤64:=by omega
        have eP:=q75 (hN.le (by omega)) cf m1 m2 k1 k2
        have w3:IntKind.i64.wrap (IntKind.i64.wrap ((3:Int)*(m:Int))*(m:Int))=((3*m*m:Nat):Int):=kw (k:=3) m2 (by omega)
        have wk:=ow m2
        have eL:=q7y hN.fu m2 k2
        by_cases c1:64<3*m*m
        · rw [if_pos (.inl c1)] at eP
          have c1':(64:Int)<((3*m*m:Nat):Int):=by omega
          simp (disch:=first | assumption | omega) only [zA,zB,zC,zD,zE,zF,zG,q1i,q1c,q1d,zH,zI,dpos,dneg,zJ,zK,zL,zM,zN,zO,zP,qgx,ec,w3,eP,en,eA]
        · have c1':¬ (64:Int)<((3*m*m:Nat):Int):=by omega
          by_cases c3:200000<lng m m k
          · rw [if_pos (.inr c3)] at eP
            have c3':(200000:Int)<((lng m m k:Nat):Int):=by omega
            simp (disch:=first | assumption | omega) only [zA,zB,zC,zD,zE,zF,zG,q1i,q1c,q1d,zH,zI,dpos,dneg,zJ,zK,zL,zM,zN,zO,zP,qgx,ec,w3,eL,eP,en,eA]
          · have c3':¬ (200000:Int)<((lng m m k:Nat):Int):=by omega
            rw [if_neg (by omega)] at eP
            have c2:1*m*m≤64:=by
              have e3:3*m*m=3*(m*m):=Nat.mul_assoc 3 m m
              rw [Nat.one_mul]; omega
            have hs:Sml m m:=⟨m1,m2,m1,m2⟩
            have hlen:=q7q (n:=m) (R:=m) (b:=true) (f:=f) (cols:=List.range m) k1 k2
            have hcs:∀ x∈List.range m,x<m:=fun x hx=>List.mem_range.1 hx
            have hPG:=q7x cf (kI:=1) hs (whL m m true f k (List.range m))
            have hb:∀ s∈(prgM f m m 1 (whL m m true f k (List.range m))).2.2.2.2.1,AddV (qF f) (prgM f m m 1 (whL m m true f k (List.range m))) s:=q7d hPG (fun x hx=>by show 0<1; omega) (by simp) hcs
            have hl:(prgM f m m 1 (whL m m true f k (List.range m))).2.2.2.2.1.length≤200000:=by show (whL m m true f k (List.range m)).length≤_; omega
            have hsem:=fun (inp:List Int) (hi:Els f inp) (S:Rg) (hS:ElS f m m S)=>q63 (p:=prgM f m m 1 (whL m m true f k (List.range m))) ⟨cf,hs,rfl⟩ (inp:=inp) (b:=true) (fun x _=>q71 cf hi _) (kk:=70) k1 k2 (cols:=List.range m) (by simp) hcs hS
            replace hsem:∀ (inp:List Int),Els f inp→∀ S:Rg,ElS f m m S→(prgM f m m 1 (whL m m true f k (List.range m))).2.2.2.2.1.foldl (ex1 f (prgM f m m 1 (whL m m true f k (List.range m))) inp 70) (sg m m S)=_:=hsem
            have hform:=q7s hN hPG (by omega) (by omega) hb hl (L:=((lng m m k:Nat):Int)) (by show ((whL m m true f k (List.range m)).length:Int)≤_; omega)
            have hst:=q7r hN hb hl
            generalize hpe:prgM f m m 1 (whL m m true f k (List.range m))=p at *
            have eo:=q2d hN.fu cf
            obtain ⟨vs,ev,g1,g2⟩:=q7v hN.fu cf (l:=l) (by omega) (a:=0) (m:=1*m*m) (by omega) (by omega)
            replace ev:qf1 N (arF f) l 0 ((1*m*m:Nat):Int)=_:=ev
            have hM:∀ x,x<64→Mx f m (cutM m vs (nu true x)):=fun x _=>q71 cf g2 _
            have hc0:cutM m vs 0=vs:=by
              unfold cutM
              apply List.ext_getElem
              · rw [q1k,g1,Nat.one_mul]
              · intro j j1 j2
                rw [q1l,Nat.zero_mul,Nat.zero_mul,Nat.zero_add]
                unfold rd
                rw [Int.toNat_natCast,List.getD_eq_getElem?_getD,List.getElem?_eq_getElem j2]; rfl
            have hMx:=fun j (hj:0+j<64)=>lf_Mx cf hM (lo:=0) (j:=j) hj
            have hvM:Mx f m vs:=by
              have:=hM 0 (by omega)
              rw [show nu true 0=0 from rfl,hc0] at this; exact this
            have hPl:=q65 cf hM 6 (lo:=0) (hi:=k) (by omega) k2 (by rw [show (2:Nat) ^ 6=64 from rfl]; omega)
            rw [Nat.sub_zero] at hPl
            have eD:=q7w hN hPG (by omega) (by omega) hb hl (l:=l) (inp:=vs) (W:=lf f m vs true 0 (k-1)) (by omega) g1 g2 (hMx (k-1) (by omega)).el (hMx (k-1) (by omega)).len (fun S hS=>by
              rw [hsem vs g2 S hS,hPl]
              refine q6j m1 m1 (fun a r c ha hr hc => ?_)
              unfold ad
              by_cases e:a=0
              · rw [if_pos e,if_pos e]
                refine congrArg (fA f (S a r c)) ?_
                have er:(List.range m).getD r 0=r:=by rw [List.getD_eq_getElem?_getD,List.getElem?_range hr]; rfl
                show at2 m (lf f m vs true 0 (k-1)) ((List.range m).getD r 0) c=_
                rw [er]; rfl
              · rw [if_neg e,if_neg e])
            have hst':¬ (200000:Int)<(p.2.2.2.2.1.length:Int):=by omega
            have hmm:m*m≤21*21:=Nat.mul_le_mul m2 m2
            have loop:=q04 (f:=qgw N) hN.fu (fun j=>(l,((f,(m:Int),(k:Int),I,J,()):Sz),(m:Int),vs,lf f m vs true 0 j,((j+1:Nat):Int),p,arF f,())) (k-1) (d:=(l,((f,(m:Int),(k:Int),I,J,()):Sz),(m:Int),vs,vs,1,p,arF f,())) (r:=.inr (.inl (l,vs,lf f m vs true 0 (k-1),p,arF f,()))) (by omega) (by
                show _=(l,((f,(m:Int),(k:Int),I,J,()):Sz),(m:Int),vs,cutM m vs (nu true 0),((0+1:Nat):Int),p,arF f,())
                rw [show nu true 0=0 from rfl,hc0]; rfl) (fun j hj=>by
                have hj1:=hMx j (by omega)
                have e1:=q5g hN.fu cf m1 m2 (a:=lf f m vs true 0 j) (b:=vs) (by rw [hj1.len]; omega) (by omega)
                rw [if_pos ⟨hj1,hvM⟩] at e1
                have e2:=q5a hN.fu cf (n:=m) (by omega) hj1 hvM
                have hn1:mm f m (lf f m vs true 0 j) vs=lf f m vs true 0 (j+1):=by
                  simp only [lf]
                  rw [show nu true (0+(j+1))=0 from rfl,hc0]
                rw [hn1] at e1 e2
                have hj2:=hMx (j+1) (by omega)
                have e3:=q30 hN.fu (a:=lf f m vs true 0 (j+1)) (by rw [hj2.len]; omega)
                have l1:(lf f m vs true 0 j).length≤441:=by rw [hj1.len]; omega
                have l2:vs.length≤441:=by omega
                have l3:((lf f m vs true 0 (j+1)).length:Int)=((1*m*m:Nat):Int):=by rw [hj2.len,Nat.one_mul]
                have hlt:((j+1:Nat):Int)<(k:Int):=by omega
                have wj:IntKind.i64.wrap (((j+1:Nat):Int)+1)=((j+1+1:Nat):Int):=up1 (by omega)
                generalize lf f m vs true 0 (j+1)=X1 at *
                generalize lf f m vs true 0 j=X0 at *
                simp (disch:=first | assumption | omega) only [zA,zB,zC,zD,zE,zF,zG,q1i,q1c,q1d,zH,zI,dpos,dneg,zJ,zK,zL,zM,zN,zO,zP,qgw,qgv,List.nil_append,e1,wk,l3,e2,e3,wj]) (by
                have hlt:¬ ((k-1+1:Nat):Int)<(k:Int):=by omega
                generalize lf f m vs true 0 (k-1)=X0 at *
                simp (disch:=first | assumption | omega) only [zA,zB,zC,zD,zE,zF,zG,q1i,q1c,q1d,zH,zI,dpos,dneg,zJ,zK,zL,zM,zN,zO,zP,qgw,qgv])
            have l2:vs.length≤441:=by omega
            simp (disch:=first | assumption | omega) only [zA,zB,zC,zD,zE,zF,zG,q1i,q1c,q1d,zH,zI,dpos,dneg,zJ,zK,zL,zM,zN,zO,zP,qgx,ec,w3,wk,eL,eP,hform,hst,eo,ev,List.nil_append,loop,eD,eA]
    · rw [if_pos cf] at ec ea
      have eP:=q74 ea (by decide)
      simp (disch:=first | assumption | omega) only [zA,zB,zC,zD,zE,zF,zG,q1i,q1c,q1d,zH,zI,dpos,dneg,zJ,zK,zL,zM,zN,zO,zP,qgx,ec,eP,en,eA]
theorem q77 (q:Sz) (l:List Int):∃ n,qgx n q l=some (true,()):=q76 q l
end Go.Proofs.Ytkokhfodjhlnlaa.V
