/- The law over the models,part 2. -/
import Derived.Test.YtibphkgcdnconaaGreatPFromPerma
import Derived.Test.YtibphkgcdnconaaGreatVd
namespace Go.Proofs.YtibphkgcdnconaaGreat.V
open Go
set_option linter.unusedVariables false
set_option linter.all false
variable {n:Nat}
theorem qaeg (hn:Fu n) (l:List Int) (hl:l.length≤1000000) (v:Int):qic n l v=some (decide (v∈l),()):=by
 classical
 have h:iterN (qib n) n (l,v,0,())=some (if (∀ i,i<l.length→rd l (i:Int)≠v) then (.inr (.inl ())) else (.inl (true,()))):=by
  have q:=q6w (f:=qib n) hn (fun i=>(l,v,(i:Int),())) l.length (fun i=>rd l (i:Int)≠v) (d:=(l,v,0,())) (r:=.inr (.inl ())) (r':=.inl (true,())) (by omega) rfl (fun i hi _ hp => ?_) (fun i hi _ hp => ?_) (fun _ => ?_)
  ·rw [q]; congr
  ·simp (disch:=first | assumption | omega) only [zA,zB,zC,zD,zE,zF,zG,q69,q63,q64,zH,zI,dpos,dneg,zJ,zK,zL,zM,zN,zO,zP,qib,qia,q7c,up1]
  ·simp (disch:=first | assumption | omega) only [zA,zB,zC,zD,zE,zF,zG,q69,q63,q64,zH,zI,dpos,dneg,zJ,zK,zL,zM,zN,zO,zP,qib,qia,q7c,up1]
  ·simp (disch:=first | assumption | omega) only [zA,zB,zC,zD,zE,zF,zG,q69,q63,q64,zH,zI,dpos,dneg,zJ,zK,zL,zM,zN,zO,zP,qib,qia]
 have e:(∀ i,i<l.length→rd l (i:Int)≠v)↔v ∉ l:=by
  constructor
  ·intro g hv
   obtain ⟨i,hi,e⟩:=List.getElem_of_mem hv
   refine g i hi ?_
   unfold rd; rw [Int.toNat_natCast,List.getD_eq_getElem?_getD,List.getElem?_eq_getElem hi]; exact e
  ·intro g i hi e
   refine g ?_
   rw [← e]; unfold rd; rw [Int.toNat_natCast,List.getD_eq_getElem?_getD,List.getElem?_eq_getElem hi]; exact List.getElem_mem hi
 by_cases c:v∈l
 ·rw [if_neg (fun g=>(e.1 g) c)] at h
  simp (disch:=first | assumption | omega) only [zA,zB,zC,zD,zE,zF,zG,q69,q63,q64,zH,zI,dpos,dneg,zJ,zK,zL,zM,zN,zO,zP,qic,h,c]
 ·rw [if_pos (e.2 c)] at h
  simp (disch:=first | assumption | omega) only [zA,zB,zC,zD,zE,zF,zG,q69,q63,q64,zH,zI,dpos,dneg,zJ,zK,zL,zM,zN,zO,zP,qic,h,c]
def bitOf (i:Int) (j:Nat):Bool:=decide ((IntKind.i64.wrap ((BitVec.ofInt IntKind.i64.bits (Int.fdiv i (2 ^ (min j IntKind.i64.bits))) &&& BitVec.ofInt IntKind.i64.bits (1:Int)).toNat))=(1:Int))
def inp (i:Int) (n:Nat):List Bool:=tab n (bitOf i)
theorem qaeh (i:Int) (n:Nat):(inp i n).length=n:=by unfold inp; simp
def inpTo (i:Int) (n j:Nat):List Bool:=tab n (fun q=>if q<j then bitOf i q else false)
theorem qaei (i:Int) (n j:Nat):(inpTo i n j).length=n:=by unfold inpTo; simp
theorem qaej (i:Int) (n j:Nat):(inpTo i n j).set j (bitOf i j)=inpTo i n (j+1):=by
 unfold inpTo
 rw [q7g]
 refine q7h (fun r hr => ?_)
 by_cases e:r=j
 ·subst e; rw [if_pos rfl,if_pos (by omega)]
 ·by_cases e2:r<j
  ·rw [if_neg e,if_pos e2,if_pos (by omega)]
  ·rw [if_neg e,if_neg e2,if_neg (by omega)]
theorem qab3 (hn:Fu n) (i:Int) (N:Nat) (hN:N≤1000):qh6 n i (N:Int)=some (inp i N,()):=by
 have h:iterN (qh5 n) n (i,(N:Int),0,List.replicate N false,())=some (.inl (inp i N,())):=by
  refine q6v hn (fun j=>(i,(N:Int),(j:Int),inpTo i N j,())) N (by omega) (by rw [q7i]; rfl) (fun j hj => ?_) ?_
  ·have e:=qaef (l:=inpTo i N j) (i:=j) (by rw [qaei]; exact hj)
   simp (disch:=first | assumption | omega) only [zA,zB,zC,zD,zE,zF,zG,q69,q63,q64,zH,zI,dpos,dneg,zJ,zK,zL,zM,zN,zO,zP,qh5,qh4,e,up1]
   rw [← qaej]; rfl
  ·simp (disch:=first | assumption | omega) only [zA,zB,zC,zD,zE,zF,zG,q69,q63,q64,zH,zI,dpos,dneg,zJ,zK,zL,zM,zN,zO,zP,qh5,qh4]
   unfold inpTo inp
   rw [q7h (fun j hj=>if_pos hj)]
 simp (disch:=first | assumption | omega) only [zA,zB,zC,zD,zE,zF,zG,q69,q63,q64,zH,zI,dpos,dneg,zJ,zK,zL,zM,zN,zO,zP,qh6,h]
def insAt (l:List Ins) (i:Nat):Ins:=l.getD i (0,0,0,())
theorem qaek {l:List Ins} {i:Nat} (h:i<l.length):idx l (i:Int)=some (insAt l i):=q61 _ h
def InsV (e I:Nat) (s:Ins):Prop:=∃ a z o:Nat,s=((a:Int),(z:Int),(o:Int),())∧a<I∧z<e∧o<e
def pr (m:List (List Int)) (ins:List Ins) (x:List Bool):Nat→Nat
 | 0=>0
 | i+1=>mu m (pr m ins x i) (if bt x (insAt ins i).1.toNat=true then (insAt ins i).2.2.1.toNat else (insAt ins i).2.1.toNat)
theorem pr_lt {m:List (List Int)} (h:TV m) {ins:List Ins} {x:List Bool} (hp:∀ i,i<ins.length→InsV m.length x.length (insAt ins i)):∀ i,i≤ins.length→pr m ins x i<m.length
 | 0,_=>h.1
 | i+1,hi=>by
  obtain ⟨a,z,o,e,ha,hz,ho⟩:=hp i (by omega)
  unfold pr
  refine h.lt (pr_lt h hp i (by omega)) ?_
  rw [e]
  simp only [Int.toNat_natCast]
  split
  ·exact ho
  ·exact hz
theorem qael (hn:Fu n) {m:List (List Int)} (h:TV m) {ins:List Ins} {x:List Bool} (hl:ins.length≤1000000) (hp:∀ i,i<ins.length→InsV m.length x.length (insAt ins i)) (I:Int) (yes:List Int):qh9 n m (I,ins,yes,()) x=some ((pr m ins x ins.length:Int),()):=by
 have g:iterN (qh8 n) n (m,x,(I,ins,yes,()),0,0,())=some (.inl ((pr m ins x ins.length:Int),())):=by
  refine q6v hn (fun i=>(m,x,(I,ins,yes,()),(pr m ins x i:Int),(i:Int),())) ins.length (by omega) rfl (fun i hi => ?_) ?_
  ·obtain ⟨a,z,o,e,ha,hz,ho⟩:=hp i hi
   have h1:=pr_lt h hp i (by omega)
   have h2:=h.len h1
   cases c:bt x a <;> simp (disch:=first | assumption | omega) only [zA,zB,zC,zD,zE,zF,zG,q69,q63,q64,zH,zI,dpos,dneg,zJ,zK,zL,zM,zN,zO,zP,qh8,qh7,qaek,e,qaef,c,q7b,q7c,up1,h.at h1 hz,h.at h1 ho,pr,reduceIte]
  ·simp (disch:=first | assumption | omega) only [zA,zB,zC,zD,zE,zF,zG,q69,q63,q64,zH,zI,dpos,dneg,zJ,zK,zL,zM,zN,zO,zP,qh8,qh7]
 simp (disch:=first | assumption | omega) only [zA,zB,zC,zD,zE,zF,zG,q69,q63,q64,zH,zI,dpos,dneg,zJ,zK,zL,zM,zN,zO,zP,qh9,g]
theorem qaem (hn:Fu n) {m:List (List Int)} (h:TV m) {ins:List Ins} {x:List Bool} (hl:ins.length≤1000000) (hp:∀ i,i<ins.length→InsV m.length x.length (insAt ins i)) (I:Int) (yes:List Int) (hy:yes.length≤1000000) :
 qid n m (I,ins,yes,()) x=some (decide ((pr m ins x ins.length:Int)∈yes),()):=by
 simp (disch:=first | assumption | omega) only [zA,zB,zC,zD,zE,zF,zG,q69,q63,q64,zH,zI,dpos,dneg,zJ,zK,zL,zM,zN,zO,zP,qid,qael hn h hl hp,qaeg hn yes hy]
theorem qaen (hn:Fu n):qcf n=some (true,()):=by
 obtain ⟨m,rfl⟩:∃ m,n=m+60:=⟨n-60,by have:=hn.le (m:=60) (by decide); omega⟩
 kernel_rfl
end Go.Proofs.YtibphkgcdnconaaGreat.V
namespace Go.Proofs.YtibphkgcdnconaaGreat.V
open Go Classical Grp
set_option linter.unusedVariables false
set_option linter.all false
variable {n:Nat}
section
variable {k:Nat} {hk:1≤k∧k≤7}
theorem qaeo (hn:Fu n) (p q:List Int) (hp:p.length≤1000000000):qcr n p q=some (decide (p=q),()):=by
 by_cases hl:p.length=q.length
 ·have g:iterN (qcq n) n (p,q,0,())=some (if ∀ i,i<p.length→rd p (i:Int)=rd q (i:Int) then .inr (.inl ()) else .inl (false,())):=by
   refine (q6w (f:=qcq n) hn (fun i=>(p,q,(i:Int),())) p.length (fun i=>rd p (i:Int)=rd q (i:Int)) (d:=(p,q,0,())) (r:=.inr (.inl ())) (r':=.inl (false,())) (by omega) rfl (fun i hi _ hp => ?_) (fun i hi _ hp => ?_) (fun _ => ?_)).trans (by congr)
   ·simp (disch:=first | assumption | omega) only [zA,zB,zC,zD,zE,zF,zG,q69,q63,q64,zH,zI,dpos,dneg,zJ,zK,zL,zM,zN,zO,zP,qcq,qcp,q7c,hp,up1]
   ·simp (disch:=first | assumption | omega) only [zA,zB,zC,zD,zE,zF,zG,q69,q63,q64,zH,zI,dpos,dneg,zJ,zK,zL,zM,zN,zO,zP,qcq,qcp,q7c,up1]
   ·simp (disch:=first | assumption | omega) only [zA,zB,zC,zD,zE,zF,zG,q69,q63,q64,zH,zI,dpos,dneg,zJ,zK,zL,zM,zN,zO,zP,qcq,qcp]
  by_cases e:p=q
  ·rw [if_pos (fun i hi=>by rw [e])] at g
   subst e
   simp (disch:=first | assumption | omega) only [zA,zB,zC,zD,zE,zF,zG,q69,q63,q64,zH,zI,dpos,dneg,zJ,zK,zL,zM,zN,zO,zP,qcr,g]
  ·rw [if_neg (fun h=>e (qacq hl h))] at g
   rw [decide_eq_false e]
   simp (disch:=first | assumption | omega) only [zA,zB,zC,zD,zE,zF,zG,q69,q63,q64,zH,zI,dpos,dneg,zJ,zK,zL,zM,zN,zO,zP,qcr,g]
 ·rw [decide_eq_false (fun e=>hl (by rw [e]))]
  simp (disch:=first | assumption | omega) only [zA,zB,zC,zD,zE,zF,zG,q69,q63,q64,zH,zI,dpos,dneg,zJ,zK,zL,zM,zN,zO,zP,qcr]
theorem qaep (hn:Fu n) (p q:List Int) (hp:p.length≤1000000000):qdy n p q=some (decide (p=q),()):=by
 by_cases hl:p.length=q.length
 ·have g:iterN (qdx n) n (p,q,(p.length:Int),0,())=some (if ∀ i,i<p.length→rd p (i:Int)=rd q (i:Int) then .inr (.inl ()) else .inl (false,())):=by
   refine (q6w (f:=qdx n) hn (fun i=>(p,q,(p.length:Int),(i:Int),())) p.length (fun i=>rd p (i:Int)=rd q (i:Int)) (d:=(p,q,(p.length:Int),0,())) (r:=.inr (.inl ())) (r':=.inl (false,())) (by omega) rfl (fun i hi _ hp => ?_) (fun i hi _ hp => ?_) (fun _ => ?_)).trans (by congr)
   ·simp (disch:=first | assumption | omega) only [zA,zB,zC,zD,zE,zF,zG,q69,q63,q64,zH,zI,dpos,dneg,zJ,zK,zL,zM,zN,zO,zP,qdx,qdw,q7c,hp,up1]
   ·simp (disch:=first | assumption | omega) only [zA,zB,zC,zD,zE,zF,zG,q69,q63,q64,zH,zI,dpos,dneg,zJ,zK,zL,zM,zN,zO,zP,qdx,qdw,q7c,up1]
   ·simp (disch:=first | assumption | omega) only [zA,zB,zC,zD,zE,zF,zG,q69,q63,q64,zH,zI,dpos,dneg,zJ,zK,zL,zM,zN,zO,zP,qdx,qdw]
  by_cases e:p=q
  ·rw [if_pos (fun i hi=>by rw [e])] at g
   subst e
   simp (disch:=first | assumption | omega) only [zA,zB,zC,zD,zE,zF,zG,q69,q63,q64,zH,zI,dpos,dneg,zJ,zK,zL,zM,zN,zO,zP,qdy,g]
  ·rw [if_neg (fun h=>e (qacq hl h))] at g
   rw [decide_eq_false e]
   simp (disch:=first | assumption | omega) only [zA,zB,zC,zD,zE,zF,zG,q69,q63,q64,zH,zI,dpos,dneg,zJ,zK,zL,zM,zN,zO,zP,qdy,g]
 ·rw [decide_eq_false (fun e=>hl (by rw [e]))]
  simp (disch:=first | assumption | omega) only [zA,zB,zC,zD,zE,zF,zG,q69,q63,q64,zH,zI,dpos,dneg,zJ,zK,zL,zM,zN,zO,zP,qdy]
theorem qaeq {l:List (List Int)} {p:List Int}:p∈l↔∃ i,i<l.length∧row l i=p:=by
 constructor
 ·intro h
  obtain ⟨i,hi,e⟩:=List.getElem_of_mem h
  exact ⟨i,hi,by unfold row; rw [List.getD_eq_getElem?_getD,List.getElem?_eq_getElem hi]; exact e⟩
 ·rintro ⟨i,hi,rfl⟩; exact q7a hi
theorem qaer (hn:Fu n) (l:List (List Int)) (p:List Int) (hl:l.length≤1000000000) (hr:∀ i,i<l.length→(row l i).length≤1000000000):qcx n l p=some (decide (p∈l),()):=by
 have g:iterN (qcw n) n (l,p,0,())=some (if ∀ i,i<l.length→row l i≠p then .inr (.inl ()) else .inl (true,())):=by
  refine (q6w (f:=qcw n) hn (fun i=>(l,p,(i:Int),())) l.length (fun i=>row l i≠p) (d:=(l,p,0,())) (r:=.inr (.inl ())) (r':=.inl (true,())) (by omega) rfl (fun i hi _ hp => ?_) (fun i hi _ hp => ?_) (fun _ => ?_)).trans (by congr)
  ·have e:=qaeo hn (row l i) p (hr i hi)
   rw [decide_eq_false hp] at e
   simp (disch:=first | assumption | omega) only [zA,zB,zC,zD,zE,zF,zG,q69,q63,q64,zH,zI,dpos,dneg,zJ,zK,zL,zM,zN,zO,zP,qcw,qcv,q7b,e,up1]
  ·have e:=qaeo hn (row l i) p (hr i hi)
   rw [decide_eq_true (Classical.not_not.1 hp)] at e
   simp (disch:=first | assumption | omega) only [zA,zB,zC,zD,zE,zF,zG,q69,q63,q64,zH,zI,dpos,dneg,zJ,zK,zL,zM,zN,zO,zP,qcw,qcv,q7b,e,up1]
  ·simp (disch:=first | assumption | omega) only [zA,zB,zC,zD,zE,zF,zG,q69,q63,q64,zH,zI,dpos,dneg,zJ,zK,zL,zM,zN,zO,zP,qcw,qcv]
 by_cases h:p∈l
 ·rw [decide_eq_true h]
  rw [if_neg (fun h2=>by obtain ⟨i,hi,e⟩:=qaeq.1 h; exact h2 i hi e)] at g
  simp (disch:=first | assumption | omega) only [zA,zB,zC,zD,zE,zF,zG,q69,q63,q64,zH,zI,dpos,dneg,zJ,zK,zL,zM,zN,zO,zP,qcx,g]
 ·rw [decide_eq_false h]
  rw [if_pos (fun i hi e=>h (qaeq.2 ⟨i,hi,e⟩))] at g
  simp (disch:=first | assumption | omega) only [zA,zB,zC,zD,zE,zF,zG,q69,q63,q64,zH,zI,dpos,dneg,zJ,zK,zL,zM,zN,zO,zP,qcx,g]
end
abbrev PI:=Int × (List Int × (List Int × Unit))
abbrev PP:=Int × (Int × (List PI × (List Int × Unit)))
def pin (l:List PI) (i:Nat):PI:=l.getD i (0,([],([],())))
theorem qaes {l:List PI} {i:Nat} (h:i<l.length):idx l (i:Int)=some (pin l i):=q61 _ h
theorem qaet {l:List PI} {i:Nat} (h:i<l.length):pin l i∈l:=by
 unfold pin; rw [List.getD_eq_getElem?_getD,List.getElem?_eq_getElem h]; exact List.getElem_mem h
def PkI (k:Int) (q:List Int):Prop:=(q.length:Int)=k∧VP q
def InOK (k I:Int) (x:PI):Prop:=0≤x.1∧x.1<I∧PkI k x.2.1∧PkI k x.2.2.1
def VProg (p:PP):Prop:=2≤p.1∧p.1≤7∧0≤p.2.1∧p.2.1≤16∧p.2.2.1.length≤200000∧PkI p.1 p.2.2.2.1∧p.2.2.2.1≠idP p.1.toNat∧∀ i,i<p.2.2.1.length→InOK p.1 p.2.1 (pin p.2.2.1 i)
theorem qaeu (hn:Fu n) (q:List Int) (k:Int):qcl n q k=some (decide (PkI k q),()):=by
 have e:=q7o hn q
 by_cases h1:(q.length:Int)=k
 ·by_cases h2:VP q
  ·rw [decide_eq_true h2] at e
   rw [decide_eq_true (show PkI k q from ⟨h1,h2⟩)]
   simp (disch:=first | assumption | omega) only [zA,zB,zC,zD,zE,zF,zG,q69,q63,q64,zH,zI,dpos,dneg,zJ,zK,zL,zM,zN,zO,zP,qcl,e]
  ·rw [decide_eq_false h2] at e
   rw [decide_eq_false (show ¬ PkI k q from fun h=>h2 h.2)]
   simp (disch:=first | assumption | omega) only [zA,zB,zC,zD,zE,zF,zG,q69,q63,q64,zH,zI,dpos,dneg,zJ,zK,zL,zM,zN,zO,zP,qcl,e]
 ·rw [decide_eq_false (show ¬ PkI k q from fun h=>h1 h.1)]
  simp (disch:=first | assumption | omega) only [zA,zB,zC,zD,zE,zF,zG,q69,q63,q64,zH,zI,dpos,dneg,zJ,zK,zL,zM,zN,zO,zP,qcl]
theorem qaev (hn:Fu n) (q:List Int) (p:PP):qds n q p=some (decide (PkI p.1 q),()):=by
 have e:=q7s hn q
 by_cases h1:(q.length:Int)=p.1
 ·by_cases h2:VP q
  ·rw [decide_eq_true h2] at e
   rw [decide_eq_true (show PkI p.1 q from ⟨h1,h2⟩)]
   simp (disch:=first | assumption | omega) only [zA,zB,zC,zD,zE,zF,zG,q69,q63,q64,zH,zI,dpos,dneg,zJ,zK,zL,zM,zN,zO,zP,qds,e]
  ·rw [decide_eq_false h2] at e
   rw [decide_eq_false (show ¬ PkI p.1 q from fun h=>h2 h.2)]
   simp (disch:=first | assumption | omega) only [zA,zB,zC,zD,zE,zF,zG,q69,q63,q64,zH,zI,dpos,dneg,zJ,zK,zL,zM,zN,zO,zP,qds,e]
 ·rw [decide_eq_false (show ¬ PkI p.1 q from fun h=>h1 h.1)]
  simp (disch:=first | assumption | omega) only [zA,zB,zC,zD,zE,zF,zG,q69,q63,q64,zH,zI,dpos,dneg,zJ,zK,zL,zM,zN,zO,zP,qds]
theorem qaew (hn:Fu n) (p:PP) (hl:p.2.2.1.length≤200000):iterN (qct n) n (p,0,())=some (if ∀ i,i<p.2.2.1.length→InOK p.1 p.2.1 (pin p.2.2.1 i) then .inr (.inl ()) else .inl (false,())):=by
 refine (q6w (f:=qct n) hn (fun i=>(p,(i:Int),())) p.2.2.1.length (fun i=>InOK p.1 p.2.1 (pin p.2.2.1 i)) (d:=(p,0,())) (r:=.inr (.inl ())) (r':=.inl (false,())) (by omega) rfl (fun i hi _ hp => ?_) (fun i hi _ hp => ?_) (fun _ => ?_)).trans (by congr)
 ·have e:=qaes hi
  generalize pin p.2.2.1 i=x at e hp
  obtain ⟨h1,h2,h3,h4⟩:=hp
  have e3:=qaeu hn x.2.1 p.1
  have e4:=qaeu hn x.2.2.1 p.1
  rw [decide_eq_true h3] at e3
  rw [decide_eq_true h4] at e4
  simp (disch:=first | assumption | omega) only [zA,zB,zC,zD,zE,zF,zG,q69,q63,q64,zH,zI,dpos,dneg,zJ,zK,zL,zM,zN,zO,zP,qct,qcs,e,e3,e4,up1]
 ·have e:=qaes hi
  generalize pin p.2.2.1 i=x at e hp
  have e3:=qaeu hn x.2.1 p.1
  have e4:=qaeu hn x.2.2.1 p.1
  by_cases h1:x.1<0
  ·simp (disch:=first | assumption | omega) only [zA,zB,zC,zD,zE,zF,zG,q69,q63,q64,zH,zI,dpos,dneg,zJ,zK,zL,zM,zN,zO,zP,qct,qcs,e]
  by_cases h2:p.2.1≤x.1
  ·simp (disch:=first | assumption | omega) only [zA,zB,zC,zD,zE,zF,zG,q69,q63,q64,zH,zI,dpos,dneg,zJ,zK,zL,zM,zN,zO,zP,qct,qcs,e]
  by_cases h3:PkI p.1 x.2.1
  ·by_cases h4:PkI p.1 x.2.2.1
   ·exact absurd ⟨by omega,by omega,h3,h4⟩ hp
   ·rw [decide_eq_true h3] at e3
    rw [decide_eq_false h4] at e4
    simp (disch:=first | assumption | omega) only [zA,zB,zC,zD,zE,zF,zG,q69,q63,q64,zH,zI,dpos,dneg,zJ,zK,zL,zM,zN,zO,zP,qct,qcs,e,e3,e4]
  ·rw [decide_eq_false h3] at e3
   simp (disch:=first | assumption | omega) only [zA,zB,zC,zD,zE,zF,zG,q69,q63,q64,zH,zI,dpos,dneg,zJ,zK,zL,zM,zN,zO,zP,qct,qcs,e,e3]
 ·simp (disch:=first | assumption | omega) only [zA,zB,zC,zD,zE,zF,zG,q69,q63,q64,zH,zI,dpos,dneg,zJ,zK,zL,zM,zN,zO,zP,qct,qcs]
theorem qaex (hn:Fu n) (p:PP):qcu n p=some (decide (VProg p),()):=by
 by_cases h1:p.1<2
 ·rw [decide_eq_false (show ¬ VProg p from fun h=>by have:=h.1; omega)]; simp (disch:=first | assumption | omega) only [zA,zB,zC,zD,zE,zF,zG,q69,q63,q64,zH,zI,dpos,dneg,zJ,zK,zL,zM,zN,zO,zP,qcu]
 by_cases h2:7<p.1
 ·rw [decide_eq_false (show ¬ VProg p from fun h=>by have:=h.2.1; omega)]; simp (disch:=first | assumption | omega) only [zA,zB,zC,zD,zE,zF,zG,q69,q63,q64,zH,zI,dpos,dneg,zJ,zK,zL,zM,zN,zO,zP,qcu]
 by_cases h3:p.2.1<0
 ·rw [decide_eq_false (show ¬ VProg p from fun h=>by have:=h.2.2.1; omega)]; simp (disch:=first | assumption | omega) only [zA,zB,zC,zD,zE,zF,zG,q69,q63,q64,zH,zI,dpos,dneg,zJ,zK,zL,zM,zN,zO,zP,qcu]
 by_cases h4:16<p.2.1
 ·rw [decide_eq_false (show ¬ VProg p from fun h=>by have:=h.2.2.2.1; omega)]; simp (disch:=first | assumption | omega) only [zA,zB,zC,zD,zE,zF,zG,q69,q63,q64,zH,zI,dpos,dneg,zJ,zK,zL,zM,zN,zO,zP,qcu]
 by_cases h5:200000<p.2.2.1.length
 ·rw [decide_eq_false (show ¬ VProg p from fun h=>by have:=h.2.2.2.2.1; omega)]; simp (disch:=first | assumption | omega) only [zA,zB,zC,zD,zE,zF,zG,q69,q63,q64,zH,zI,dpos,dneg,zJ,zK,zL,zM,zN,zO,zP,qcu]
 have e6:=qaeu hn p.2.2.2.1 p.1
 by_cases h6:PkI p.1 p.2.2.2.1
 ·rw [decide_eq_true h6] at e6
  have e7:=q73 hn p.1.toNat (by omega)
  rw [Int.toNat_of_nonneg (by omega)] at e7
  have e8:=qaeo hn p.2.2.2.1 (idP p.1.toNat) (by have:=h6.1; omega)
  by_cases h7:p.2.2.2.1=idP p.1.toNat
  ·rw [decide_eq_true h7] at e8
   rw [decide_eq_false (show ¬ VProg p from fun h=>h.2.2.2.2.2.2.1 h7)]; simp (disch:=first | assumption | omega) only [zA,zB,zC,zD,zE,zF,zG,q69,q63,q64,zH,zI,dpos,dneg,zJ,zK,zL,zM,zN,zO,zP,qcu,e6,e7,e8]
  ·rw [decide_eq_false h7] at e8
   have g:=qaew hn p (by omega)
   by_cases h8:∀ i,i<p.2.2.1.length→InOK p.1 p.2.1 (pin p.2.2.1 i)
   ·rw [if_pos h8] at g
    rw [decide_eq_true (show VProg p from ⟨by omega,by omega,by omega,by omega,by omega,h6,h7,h8⟩)]; simp (disch:=first | assumption | omega) only [zA,zB,zC,zD,zE,zF,zG,q69,q63,q64,zH,zI,dpos,dneg,zJ,zK,zL,zM,zN,zO,zP,qcu,e6,e7,e8,g]
   ·rw [if_neg h8] at g
    rw [decide_eq_false (show ¬ VProg p from fun h=>h8 h.2.2.2.2.2.2.2)]; simp (disch:=first | assumption | omega) only [zA,zB,zC,zD,zE,zF,zG,q69,q63,q64,zH,zI,dpos,dneg,zJ,zK,zL,zM,zN,zO,zP,qcu,e6,e7,e8,g]
 ·rw [decide_eq_false h6] at e6
  rw [decide_eq_false (show ¬ VProg p from fun h=>h6 h.2.2.2.2.2.1)]; simp (disch:=first | assumption | omega) only [zA,zB,zC,zD,zE,zF,zG,q69,q63,q64,zH,zI,dpos,dneg,zJ,zK,zL,zM,zN,zO,zP,qcu,e6]
theorem qaey (hn:Fu n) (k:Nat) (hk:k≤1000):qdv n (k:Int)=some (idP k,()):=by
 have g:iterN (qdu n) n ((k:Int),0,List.replicate k 0,())=some (.inl (idP k,())):=by
  refine q6v hn (fun i=>((k:Int),(i:Int),partP k (fun i=>(i:Int)) i,())) k (by omega) (by rw [q7x]; rfl) (fun i hi => ?_) ?_
  ·have e:=q7y (k:=k) (f:=fun i=>(i:Int)) hi
   simp (disch:=first | assumption | omega) only [zA,zB,zC,zD,zE,zF,zG,q69,q63,q64,zH,zI,dpos,dneg,zJ,zK,zL,zM,zN,zO,zP,qdu,qdt,q70,up1,e]
  ·simp (disch:=first | assumption | omega) only [zA,zB,zC,zD,zE,zF,zG,q69,q63,q64,zH,zI,dpos,dneg,zJ,zK,zL,zM,zN,zO,zP,qdu,qdt,q7z]; rfl
 simp (disch:=first | assumption | omega) only [zA,zB,zC,zD,zE,zF,zG,q69,q63,q64,zH,zI,dpos,dneg,zJ,zK,zL,zM,zN,zO,zP,qdv,List.length_replicate,g]
theorem qaez (hn:Fu n) (p:PP) (x:PI):qdz n x p (p,())=some (!decide (InOK p.1 p.2.1 x),()):=by
 have e3:=qaev hn x.2.1 p
 have e4:=qaev hn x.2.2.1 p
 by_cases h1:x.1<0
 ·rw [decide_eq_false (show ¬ InOK p.1 p.2.1 x from fun h=>by have:=h.1; omega)]; simp (disch:=first | assumption | omega) only [zA,zB,zC,zD,zE,zF,zG,q69,q63,q64,zH,zI,dpos,dneg,zJ,zK,zL,zM,zN,zO,zP,qdz]
 by_cases h2:p.2.1≤x.1
 ·rw [decide_eq_false (show ¬ InOK p.1 p.2.1 x from fun h=>by have:=h.2.1; omega)]; simp (disch:=first | assumption | omega) only [zA,zB,zC,zD,zE,zF,zG,q69,q63,q64,zH,zI,dpos,dneg,zJ,zK,zL,zM,zN,zO,zP,qdz]
 by_cases h3:PkI p.1 x.2.1
 ·rw [decide_eq_true h3] at e3
  by_cases h4:PkI p.1 x.2.2.1
  ·rw [decide_eq_true h4] at e4
   rw [decide_eq_true (show InOK p.1 p.2.1 x from ⟨by omega,by omega,h3,h4⟩)]; simp (disch:=first | assumption | omega) only [zA,zB,zC,zD,zE,zF,zG,q69,q63,q64,zH,zI,dpos,dneg,zJ,zK,zL,zM,zN,zO,zP,qdz,e3,e4]
  ·rw [decide_eq_false h4] at e4
   rw [decide_eq_false (show ¬ InOK p.1 p.2.1 x from fun h=>h4 h.2.2.2)]; simp (disch:=first | assumption | omega) only [zA,zB,zC,zD,zE,zF,zG,q69,q63,q64,zH,zI,dpos,dneg,zJ,zK,zL,zM,zN,zO,zP,qdz,e3,e4]
 ·rw [decide_eq_false h3] at e3
  rw [decide_eq_false (show ¬ InOK p.1 p.2.1 x from fun h=>h3 h.2.2.1)]; simp (disch:=first | assumption | omega) only [zA,zB,zC,zD,zE,zF,zG,q69,q63,q64,zH,zI,dpos,dneg,zJ,zK,zL,zM,zN,zO,zP,qdz,e3]
theorem qae0 (hn:Fu n) (p:PP) (hl:p.2.2.1.length≤200000):qd3 n p.2.2.1 (p,((p,()),()))=some (!decide (∀ i,i<p.2.2.1.length→InOK p.1 p.2.1 (pin p.2.2.1 i)),()):=by
 obtain ⟨l,hL⟩:∃ l,l=p.2.2.1:=⟨_,rfl⟩
 rw [← hL] at hl ⊢
 have h:=q6x (f:=qd1 n) hn (fun i=>(l,(p,((p,()),())),(l.length:Int),(i:Int),())) l.length (fun i=>InOK p.1 p.2.1 (pin l i)) (d:=(l,(p,((p,()),())),(l.length:Int),0,())) (r:=.inr (.inl ())) (r':=fun i=>.inl ((i:Int),())) (by omega) rfl (fun i hi _ hp=>by
  have e:=qaez hn p (pin l i)
  rw [decide_eq_true hp] at e
  simp (disch:=first | assumption | omega) only [zA,zB,zC,zD,zE,zF,zG,q69,q63,q64,zH,zI,dpos,dneg,zJ,zK,zL,zM,zN,zO,zP,qd1,qd0,qaes,e,up1]) (fun i hi _ hp=>by
  have e:=qaez hn p (pin l i)
  rw [decide_eq_false hp] at e
  simp (disch:=first | assumption | omega) only [zA,zB,zC,zD,zE,zF,zG,q69,q63,q64,zH,zI,dpos,dneg,zJ,zK,zL,zM,zN,zO,zP,qd1,qd0,qaes,e,up1]) (fun _=>by simp (disch:=first | assumption | omega) only [zA,zB,zC,zD,zE,zF,zG,q69,q63,q64,zH,zI,dpos,dneg,zJ,zK,zL,zM,zN,zO,zP,qd1,qd0])
 rcases h with ⟨h8,g⟩ | ⟨i,hi,h1,h2,g⟩
 ·rw [decide_eq_true h8]
  simp (disch:=first | assumption | omega) only [zA,zB,zC,zD,zE,zF,zG,q69,q63,q64,zH,zI,dpos,dneg,zJ,zK,zL,zM,zN,zO,zP,qd3,qd2,g]
 ·rw [decide_eq_false (show ¬ ∀ i,i<l.length→InOK p.1 p.2.1 (pin l i) from fun h=>h2 (h i hi))]
  simp (disch:=first | assumption | omega) only [zA,zB,zC,zD,zE,zF,zG,q69,q63,q64,zH,zI,dpos,dneg,zJ,zK,zL,zM,zN,zO,zP,qd3,qd2,g]
theorem qae1 (hn:Fu n) (p:PP):qd4 n p=some (decide (VProg p),()):=by
 by_cases h1:p.1<2
 ·rw [decide_eq_false (show ¬ VProg p from fun h=>by have:=h.1; omega)]; simp (disch:=first | assumption | omega) only [zA,zB,zC,zD,zE,zF,zG,q69,q63,q64,zH,zI,dpos,dneg,zJ,zK,zL,zM,zN,zO,zP,qd4]
 by_cases h2:7<p.1
 ·rw [decide_eq_false (show ¬ VProg p from fun h=>by have:=h.2.1; omega)]; simp (disch:=first | assumption | omega) only [zA,zB,zC,zD,zE,zF,zG,q69,q63,q64,zH,zI,dpos,dneg,zJ,zK,zL,zM,zN,zO,zP,qd4]
 by_cases h3:p.2.1<0
 ·rw [decide_eq_false (show ¬ VProg p from fun h=>by have:=h.2.2.1; omega)]; simp (disch:=first | assumption | omega) only [zA,zB,zC,zD,zE,zF,zG,q69,q63,q64,zH,zI,dpos,dneg,zJ,zK,zL,zM,zN,zO,zP,qd4]
 by_cases h4:16<p.2.1
 ·rw [decide_eq_false (show ¬ VProg p from fun h=>by have:=h.2.2.2.1; omega)]; simp (disch:=first | assumption | omega) only [zA,zB,zC,zD,zE,zF,zG,q69,q63,q64,zH,zI,dpos,dneg,zJ,zK,zL,zM,zN,zO,zP,qd4]
 by_cases h5:200000<p.2.2.1.length
 ·rw [decide_eq_false (show ¬ VProg p from fun h=>by have:=h.2.2.2.2.1; omega)]; simp (disch:=first | assumption | omega) only [zA,zB,zC,zD,zE,zF,zG,q69,q63,q64,zH,zI,dpos,dneg,zJ,zK,zL,zM,zN,zO,zP,qd4]
 have e6:=qaev hn p.2.2.2.1 p
 by_cases h6:PkI p.1 p.2.2.2.1
 ·rw [decide_eq_true h6] at e6
  have e7:=qaey hn p.1.toNat (by omega)
  rw [Int.toNat_of_nonneg (by omega)] at e7
  have e8:=qaep hn p.2.2.2.1 (idP p.1.toNat) (by have:=h6.1; omega)
  by_cases h7:p.2.2.2.1=idP p.1.toNat
  ·rw [decide_eq_true h7] at e8
   rw [decide_eq_false (show ¬ VProg p from fun h=>h.2.2.2.2.2.2.1 h7)]; simp (disch:=first | assumption | omega) only [zA,zB,zC,zD,zE,zF,zG,q69,q63,q64,zH,zI,dpos,dneg,zJ,zK,zL,zM,zN,zO,zP,qd4,e6,e7,e8]
  ·rw [decide_eq_false h7] at e8
   have g:=qae0 hn p (by omega)
   by_cases h8:∀ i,i<p.2.2.1.length→InOK p.1 p.2.1 (pin p.2.2.1 i)
   ·rw [decide_eq_true h8] at g
    rw [decide_eq_true (show VProg p from ⟨by omega,by omega,by omega,by omega,by omega,h6,h7,h8⟩)]; simp (disch:=first | assumption | omega) only [zA,zB,zC,zD,zE,zF,zG,q69,q63,q64,zH,zI,dpos,dneg,zJ,zK,zL,zM,zN,zO,zP,qd4,e6,e7,e8,g]
   ·rw [decide_eq_false h8] at g
    rw [decide_eq_false (show ¬ VProg p from fun h=>h8 h.2.2.2.2.2.2.2)]; simp (disch:=first | assumption | omega) only [zA,zB,zC,zD,zE,zF,zG,q69,q63,q64,zH,zI,dpos,dneg,zJ,zK,zL,zM,zN,zO,zP,qd4,e6,e7,e8,g]
 ·rw [decide_eq_false h6] at e6
  rw [decide_eq_false (show ¬ VProg p from fun h=>h6 h.2.2.2.2.2.1)]; simp (disch:=first | assumption | omega) only [zA,zB,zC,zD,zE,zF,zG,q69,q63,q64,zH,zI,dpos,dneg,zJ,zK,zL,zM,zN,zO,zP,qd4,e6]
end Go.Proofs.YtibphkgcdnconaaGreat.V
namespace Go.Proofs.YtibphkgcdnconaaGreat.V
open Go Classical Grp
set_option linter.unusedVariables false
set_option linter.all false
variable {n:Nat}
theorem qae2 {l:List PI} {i:Nat} (h:i<l.length):l.take i++[pin l i]=l.take (i+1):=by
 rw [List.take_succ,List.getElem?_eq_getElem h]
 unfold pin
 rw [List.getD_eq_getElem?_getD,List.getElem?_eq_getElem h]
 rfl
structure LnPP (p:PP):Prop where
 a:p.2.2.1.length≤140737488351232
 y:p.2.2.2.1.length≤140737488351232
 r:∀ i,i<p.2.2.1.length→(pin p.2.2.1 i).2.1.length≤140737488351232∧(pin p.2.2.1 i).2.2.1.length≤140737488351232
def wd (p:PP):Nat→Nat
 | 0=>p.2.2.1.length+p.2.2.2.1.length
 | i+1=>wd p i+((pin p.2.2.1 i).2.1.length / 8+(pin p.2.2.1 i).2.2.1.length / 8)
theorem qae3 (p:PP):∀ {i j:Nat},i≤j→wd p i≤wd p j
 | i, 0, h => by obtain rfl : i = 0 := by omega
                 exact Nat.le_refl _
 | i,j+1,h=>by
  rcases Nat.lt_or_ge i (j+1) with h1 | h1
  ·exact Nat.le_trans (qae3 p (by omega)) (Nat.le_add_right _ _)
  ·obtain rfl:i=j+1:=by omega
   exact Nat.le_refl _
theorem tdiv8 (a:Nat) (h:a≤140737488351232):IntKind.i64.wrap (Int.tdiv (a:Int) 8)=((a / 8:Nat):Int):=by
 have e:Int.tdiv (a:Int) 8=((a / 8:Nat):Int):=(Int.ofNat_tdiv a 8).symm
 rw [e]
 exact q62 (by omega) (by omega)
theorem qae4 (hn:Fu n) (p:PP) (hp:LnPP p) {i:Nat} (hi:i<p.2.2.1.length) (hw:wd p i≤20000):qab n (p,(wd p i:Int),(i:Int),())=some (.inl (p,(wd p (i+1):Int),((i+1:Nat):Int),())):=by
 have e:=qaes hi
 have h1:=tdiv8 _ (hp.r i hi).1
 have h2:=tdiv8 _ (hp.r i hi).2
 have hr:=hp.r i hi
 have ha:=hp.a
 have hs:IntKind.i64.wrap ((wd p i:Int)+IntKind.i64.wrap ((((pin p.2.2.1 i).2.1.length / 8:Nat):Int)+(((pin p.2.2.1 i).2.2.1.length / 8:Nat):Int)))=(wd p (i+1):Int):=by
  rw [q62 (x:=(((pin p.2.2.1 i).2.1.length / 8:Nat):Int)+(((pin p.2.2.1 i).2.2.1.length / 8:Nat):Int)) (by omega) (by omega),q62 (by omega) (by omega)]
  show _=((wd p i+((pin p.2.2.1 i).2.1.length / 8+(pin p.2.2.1 i).2.2.1.length / 8):Nat):Int)
  omega
 have hu:IntKind.i64.wrap ((i:Int)+1)=((i+1:Nat):Int):=up1 (by omega)
 unfold qab qaa
 dsimp only
 rw [decide_eq_true (show (i:Int)<(p.2.2.1.length:Int) by omega),decide_eq_true (show (wd p i:Int)≤20000 by omega)]
 simp only [cond_true,zA,zB]
 rw [e]
 simp only [zA]
 rw [h1,h2,hs,hu]
 rfl
theorem qae5 (hn:Fu n) (p:PP) (hp:LnPP p):qac n p=some (true,())∨(qac n p=some (false,())∧wd p p.2.2.1.length≤20000):=by
 have ha:=hp.a
 have hy:=hp.y
 have h0:IntKind.i64.wrap ((p.2.2.1.length:Int)+(p.2.2.2.1.length:Int))=(wd p 0:Int):=by
  rw [q62 (by omega) (by omega)]
  show _=((p.2.2.1.length+p.2.2.2.1.length:Nat):Int)
  omega
 have h:=q6x (f:=qab n) hn (fun i=>(p,(wd p i:Int),(i:Int),())) p.2.2.1.length (fun i=>wd p i≤20000) (d:=(p,(wd p 0:Int),(0:Int),())) (r:=.inl ((wd p p.2.2.1.length:Int),())) (r':=fun i=>.inl ((wd p i:Int),())) (by omega) rfl
  (fun i hi _ hp'=>qae4 hn p hp hi hp')
  (fun i hi _ hp'=>by
   unfold qab qaa
   dsimp only
   rw [decide_eq_true (show (i:Int)<(p.2.2.1.length:Int) by omega),decide_eq_false (show ¬ (wd p i:Int)≤20000 by omega)]
   rfl)
  (fun _=>by
   unfold qab qaa
   dsimp only
   rw [decide_eq_false (show ¬ (p.2.2.1.length:Int)<(p.2.2.1.length:Int) by omega)]
   rfl)
 rcases h with ⟨h8,g⟩ | ⟨i,hi,h1,h2,g⟩
 ·by_cases hw:wd p p.2.2.1.length≤20000
  ·refine .inr ⟨?_,hw⟩
   unfold qac
   rw [h0,g]
   simp only [zA,zB]
   rw [decide_eq_false (by omega)]
  ·refine .inl ?_
   unfold qac
   rw [h0,g]
   simp only [zA,zB]
   rw [decide_eq_true (by omega)]
 ·refine .inl ?_
  unfold qac
  rw [h0,g]
  simp only [zA,zB]
  rw [decide_eq_true (by omega)]
structure Nar9 (p:PP):Prop where
 a:p.2.2.1.length≤20000
 y:p.2.2.2.1.length≤20000
 r:∀ i,i<p.2.2.1.length→(pin p.2.2.1 i).2.1.length≤200000∧(pin p.2.2.1 i).2.2.1.length≤200000
theorem nar9 {p:PP} (h:wd p p.2.2.1.length≤20000):Nar9 p:=by
 have h0:wd p 0≤20000:=Nat.le_trans (qae3 p (by omega)) h
 have h0:p.2.2.1.length+p.2.2.2.1.length≤20000:=h0
 refine ⟨by omega,by omega,fun i hi => ?_⟩
 have h1:wd p (i+1)≤20000:=Nat.le_trans (qae3 p (by omega)) h
 have h1:wd p i+((pin p.2.2.1 i).2.1.length / 8+(pin p.2.2.1 i).2.2.1.length / 8)≤20000:=h1
 omega
theorem qae6 (hn:Fu n) (p:PP) (hp:Nar9 p):qdo n p=some (p,()):=by
 have ha:=hp.a
 have hy:=hp.y
 have g:iterN (qdn n) n (p,(0:Int),((0:Int),((0:Int),(([]:List PI),(([]:(List Int)),())))),(p.1,(p.2.1,(([]:List PI),(p.2.2.2.1,())))),())=some (.inl (((0:Int),((0:Int),(([]:List PI),(([]:(List Int)),())))),p,())):=by
  refine q6v hn (fun i=>(p,(i:Int),((0:Int),((0:Int),(([]:List PI),(([]:(List Int)),())))),(p.1,(p.2.1,(p.2.2.1.take i,(p.2.2.2.1,())))),())) p.2.2.1.length (by omega) rfl (fun i hi => ?_) ?_
  ·have e:=qaes hi
   have hr:=hp.r i hi
   have et:=qae2 hi
   have hl:(p.2.2.1.take i).length≤20000:=by rw [List.length_take]; omega
   simp (disch:=first | assumption | omega) only [zA,zB,zC,zD,zE,zF,zG,q69,q63,q64,zH,zI,dpos,dneg,zJ,zK,zL,zM,zN,zO,zP,qdn,qdm,e,up1,List.nil_append,et]
  ·simp (disch:=first | assumption | omega) only [zA,zB,zC,zD,zE,zF,zG,q69,q63,q64,zH,zI,dpos,dneg,zJ,zK,zL,zM,zN,zO,zP,qdn,qdm,List.take_length]
 simp (disch:=first | assumption | omega) only [zA,zB,zC,zD,zE,zF,zG,q69,q63,q64,zH,zI,dpos,dneg,zJ,zK,zL,zM,zN,zO,zP,qdo,List.nil_append,g]
end Go.Proofs.YtibphkgcdnconaaGreat.V
namespace Go.Proofs.YtibphkgcdnconaaGreat.V
open Go Classical Grp
set_option linter.unusedVariables false
set_option linter.all false
variable {n:Nat}
def kb (v:Int):ByteArray:=Utf8.encode (IntKind.i32.wrap (IntKind.i64.wrap ((48:Int)+v)))
theorem kb0:kb ((0:Nat):Int)=⟨#[UInt8.ofNat (48+0)]⟩:=by kernel_rfl
theorem kb1:kb ((1:Nat):Int)=⟨#[UInt8.ofNat (48+1)]⟩:=by kernel_rfl
theorem kb2:kb ((2:Nat):Int)=⟨#[UInt8.ofNat (48+2)]⟩:=by kernel_rfl
theorem kb3:kb ((3:Nat):Int)=⟨#[UInt8.ofNat (48+3)]⟩:=by kernel_rfl
theorem kb4:kb ((4:Nat):Int)=⟨#[UInt8.ofNat (48+4)]⟩:=by kernel_rfl
theorem kb5:kb ((5:Nat):Int)=⟨#[UInt8.ofNat (48+5)]⟩:=by kernel_rfl
theorem kb6:kb ((6:Nat):Int)=⟨#[UInt8.ofNat (48+6)]⟩:=by kernel_rfl
theorem qae7 {v:Nat} (h:v<7):kb (v:Int)=⟨#[UInt8.ofNat (48+v)]⟩:=by
 match v,h with
 | 0,_=>exact kb0
 | 1,_=>exact kb1
 | 2,_=>exact kb2
 | 3,_=>exact kb3
 | 4,_=>exact kb4
 | 5,_=>exact kb5
 | 6,_=>exact kb6
 | v+7,h=>omega
def ks (q:List Int):Nat→ByteArray
 | 0=>ByteArray.mk #[]
 | i+1=>ks q i++kb (rd q (i:Int))
theorem qae8 {k:Nat} {q:List Int} (hq:PK k q):∀ i,i≤k→(ks q i).data.toList=(List.range i).map (fun j=>UInt8.ofNat (48+(rd q ((j:Nat):Int)).toNat))
 | 0,_=>rfl
 | i+1,h=>by
  obtain ⟨v,hv,e⟩:=hq.at (i:=i) (by omega)
  have hk:=hq.bd
  rw [List.range_succ,List.map_append,← qae8 hq i (by omega)]
  show (ks q i++kb (rd q (i:Int))).data.toList=_
  rw [ByteArray.data_append,Array.toList_append,e,qae7 (by omega)]
  simp [e]
theorem qae9 {k:Nat} {q:List Int} (hq:PK k q) {i:Nat} (h:i≤k):(ks q i).size=i:=by
 have:=congrArg List.length (qae8 hq i h)
 simpa using this
theorem qafa {k:Nat} {q:List Int} (hq:PK k q) {i:Nat} (h:i<k):(kb (rd q (i:Int))).size=1:=by
 obtain ⟨v,hv,e⟩:=hq.at (i:=i) h
 have hk:=hq.bd
 rw [e,qae7 (by omega)]
 rfl
theorem qafb {k:Nat} {p q:List Int} (hp:PK k p) (hq:PK k q) (e:ks p k=ks q k):p=q:=by
 have hk:=hp.bd
 have e1:=qae8 hp k (Nat.le_refl _)
 rw [e,qae8 hq k (Nat.le_refl _)] at e1
 refine qacq (by rw [hp.2,hq.2]) (fun i hi => ?_)
 rw [hp.2] at hi
 obtain ⟨v,hv,ev⟩:=hp.at hi
 obtain ⟨u,hu,eu⟩:=hq.at hi
 have e2:=congrArg (fun l=>l[i]?) e1
 simp [hi,ev,eu] at e2
 have e3:=congrArg UInt8.toNat e2
 simp only [UInt8.toNat_ofNat'] at e3
 rw [ev,eu]
 omega
theorem qafc (bs:ByteArray):∀ (m i:Nat) (r:List UInt8),bs.size-i=m→ByteArray.toList.loop bs i r=r.reverse++bs.data.toList.drop i
 | 0,i,r,h=>by
  unfold ByteArray.toList.loop
  rw [if_neg (by omega)]
  rw [List.drop_eq_nil_of_le (by simpa using (show bs.data.size≤i from (by have:bs.data.size=bs.size:=rfl; omega))),List.append_nil]
 | m+1,i,r,h=>by
  have hi:i<bs.data.size:=by have:bs.data.size=bs.size:=rfl; omega
  unfold ByteArray.toList.loop
  rw [if_pos (by omega),qafc bs m (i+1) _ (by omega),List.reverse_cons,List.append_assoc]
  rw [List.drop_eq_getElem_cons (i:=i) (by simpa using hi)]
  have:bs.get! i=bs.data.toList[i]'(by simpa using hi):=by
   show (bs.data[i]!)=_
   rw [getElem!_pos bs.data i hi]; simp
  rw [this]; rfl
theorem qafd (bs:ByteArray):bs.toList=bs.data.toList:=by
 unfold ByteArray.toList
 rw [qafc bs _ 0 [] rfl]; rfl
theorem eqStr (a b:ByteArray):eqV .str a b=decide (a=b):=by
 show (a.toList == b.toList)=_
 rw [qafd,qafd]
 by_cases h:a=b
 ·subst h; simp
 ·rw [decide_eq_false h]
  rw [beq_eq_false_iff_ne]
  intro e
  apply h
  cases a; cases b
  simp at e
  rw [e]
theorem qafe {β:Type} {z:β}:∀ {m:List (ByteArray × β)} {q q':ByteArray},mget .str (mput .str m q z) q'=if q'=q then some z else mget .str m q'
 | [],q,q'=>by
  show (bif eqV .str q' q then some z else none)=_
  rw [eqStr]
  by_cases h:q'=q
  ·rw [decide_eq_true h,if_pos h]; rfl
  ·rw [decide_eq_false h,if_neg h]; rfl
 | p :: r,q,q'=>by
  have e1:mput .str (p :: r) q z=bif eqV .str q p.1 then (q,z) :: r else p :: mput .str r q z:=rfl
  rw [e1,eqStr]
  by_cases h:q=p.1
  ·rw [decide_eq_true h,cond_true]
   show (bif eqV .str q' q then some z else mget .str r q')=if q'=q then some z else (bif eqV .str q' p.1 then some p.2 else mget .str r q')
   rw [eqStr,eqStr,← h]
   by_cases h2:q'=q
   ·rw [decide_eq_true h2,if_pos h2]; rfl
   ·rw [decide_eq_false h2,if_neg h2]; rfl
  ·rw [decide_eq_false h,cond_false]
   show (bif eqV .str q' p.1 then some p.2 else mget .str (mput .str r q z) q')=if q'=q then some z else (bif eqV .str q' p.1 then some p.2 else mget .str r q')
   rw [eqStr,qafe]
   by_cases h2:q'=p.1
   ·rw [decide_eq_true h2]
    simp only [cond_true]
    rw [if_neg (fun e=>h (e.symm.trans h2))]
   ·rw [decide_eq_false h2]; rfl
def Seen (k:Nat) (m:List (ByteArray × Bool)) (T:List (List Int)):Prop:=∀ q,PK k q→(mget .str m (ks q k)).getD false=decide (q∈T)
noncomputable def addPm (T:List (List Int)) (q:List Int):List (List Int):=if q∈T then T else T++[q]
theorem qaff {T:List (List Int)} {q x:List Int}:x∈addPm T q↔x∈T∨x=q:=by
 unfold addPm
 split
 ·rename_i h
  exact ⟨.inl,fun h2=>h2.elim id (fun e=>e ▸ h)⟩
 ·simp
theorem qafg {T:List (List Int)} {q:List Int} (h:T.Nodup):(addPm T q).Nodup:=by
 unfold addPm
 split
 ·exact h
 ·rename_i hq
  rw [List.nodup_append]
  exact ⟨h,by simp,fun a ha b hb e=>hq (by rw [List.mem_singleton.1 hb] at e; exact e ▸ ha)⟩
theorem Seen.put {k:Nat} {m:List (ByteArray × Bool)} {T:List (List Int)} (h:Seen k m T) {q:List Int} (hq:PK k q):Seen k (mput .str m (ks q k) true) (addPm T q):=fun x hx=>by
 rw [qafe]
 by_cases e:ks x k=ks q k
 ·rw [if_pos e]
  have:=qafb hx hq e
  rw [decide_eq_true (qaff.2 (.inr this))]; rfl
 ·rw [if_neg e,h x hx]
  have:x∈addPm T q↔x∈T:=⟨fun h2=>(qaff.1 h2).elim id (fun e2=>(e (by rw [e2])).elim),fun h2=>qaff.2 (.inl h2)⟩
  simp only [this]
end Go.Proofs.YtibphkgcdnconaaGreat.V
namespace Go.Proofs.YtibphkgcdnconaaGreat.V
open Go Classical Grp
set_option linter.unusedVariables false
set_option linter.all false
variable {n:Nat}
abbrev MPg:=Int × (List (Int × (Int × (Int × Unit))) × (List Int × Unit))
theorem qafh (hn:Fu n) {k:Nat} {q:List Int} (hq:PK k q) (p:PP) (ins:List PI) (a b:Int) (t:List (List Int)) (c d:Int) (z:MPg) (G:List (List Int)) (S:Option (List (ByteArray × Bool))) :
 iterN (qhe n) n (p,q,ByteArray.mk #[],ins,a,b,t,c,d,q,(q.length:Int),(0:Int),z,G,S,())=some (.inl (p,q,ks q k,ins,a,b,t,c,d,z,G,S,())):=by
 have hl:=hq.2
 have hk:=hq.bd
 refine q6v hn (fun i=>(p,q,ks q i,ins,a,b,t,c,d,q,(q.length:Int),(i:Int),z,G,S,())) k (by omega) rfl (fun i hi => ?_) ?_
 ·have hs:Nat.ble ((ks q i).size+(kb (rd q (i:Int))).size) 1152921504606846976=true:=by
   rw [qae9 hq (by omega),qafa hq hi]
   exact Nat.ble_eq_true_of_le (by omega)
  unfold qhe qhd
  dsimp only
  rw [decide_eq_true (show (i:Int)<(q.length:Int) by omega),cond_true,q7c (by omega) (by omega)]
  simp only [zA]
  unfold kb at hs
  rw [hs,up1 (by omega)]
  rfl
 ·unfold qhe qhd
  dsimp only
  rw [decide_eq_false (show ¬ (k:Int)<(q.length:Int) by omega)]
  rfl
theorem qafi (hn:Fu n) {k:Nat} {t:List (List Int)} {j:Nat} {q:List Int} (hj:j<2) (ht:t.length=2) (hi:idx t (j:Int)=some q) (hq:PK k q) {m:List (ByteArray × Bool)} {T:List (List Int)} (hS:Seen k m T) (hT:T.length≤100000) (p:PP) (ins:List PI) (a b:Int) (z:MPg) (y:List Int) :
 ∃ m',Seen k m' (addPm T q)∧qhg n (p,ins,a,b,t,(t.length:Int),(j:Int),z,y :: T,some m,())=some (.inl (p,ins,a,b,t,(t.length:Int),((j+1:Nat):Int),z,y :: addPm T q,some m',())):=by
 have hg:=qafh hn hq p ins a b t (t.length:Int) (j:Int) z (y :: T) (some m)
 have hlook:=hS q hq
 by_cases h:q∈T
 ·refine ⟨m,?_,?_⟩
  ·have:addPm T q=T:=by unfold addPm; rw [if_pos h]
   rw [this]; exact hS
  ·have e:addPm T q=T:=by unfold addPm; rw [if_pos h]
   rw [decide_eq_true h] at hlook
   unfold qhg qhf
   dsimp only
   rw [decide_eq_true (show (j:Int)<(t.length:Int) by omega),cond_true,hi]
   simp only [zA]
   rw [hg]
   simp only [zA,zB]
   rw [hlook,e]
   simp only [Bool.not_true,cond_false,zA,zB]
   rw [up1 (by omega)]
 ·refine ⟨mput .str m (ks q k) true,hS.put hq,?_⟩
  have e:addPm T q=T++[q]:=by unfold addPm; rw [if_neg h]
  rw [decide_eq_false h] at hlook
  have hl:lenB ((y :: T).length+[q].length)=true:=q63 (by simp; omega)
  unfold qhg qhf
  dsimp only
  rw [decide_eq_true (show (j:Int)<(t.length:Int) by omega),cond_true,hi]
  simp only [zA]
  rw [hg]
  simp only [zA,zB]
  rw [hlook,hl,e]
  simp only [Bool.not_false,cond_true,q69,zA,zB,List.cons_append]
  rw [up1 (by omega)]
noncomputable def gT (l:List PI):Nat→List (List Int)
 | 0=>[]
 | i+1=>addPm (addPm (gT l i) (pin l i).2.1) (pin l i).2.2.1
theorem qafj {T:List (List Int)} {q:List Int}:(addPm T q).length≤T.length+1:=by
 unfold addPm
 split
 ·omega
 ·simp
theorem qafk (l:List PI):∀ i,(gT l i).length≤2*i
 | 0=>Nat.le_refl _
 | i+1=>by
  have:=qafk l i
  have h1:=qafj (T:=gT l i) (q:=(pin l i).2.1)
  have h2:=qafj (T:=addPm (gT l i) (pin l i).2.1) (q:=(pin l i).2.2.1)
  show (addPm (addPm (gT l i) (pin l i).2.1) (pin l i).2.2.1).length≤_
  omega
theorem qafl (l:List PI):∀ i,(gT l i).Nodup
 | 0=>List.nodup_nil
 | i+1=>qafg (qafg (qafl l i))
theorem qafm (l:List PI):∀ i x,x∈gT l i↔∃ j,j<i∧(x=(pin l j).2.1∨x=(pin l j).2.2.1)
 | 0,x=>⟨fun h=>(by cases h),fun ⟨j,h,_⟩=>(by omega)⟩
 | i+1,x=>by
  show x∈addPm (addPm (gT l i) (pin l i).2.1) (pin l i).2.2.1↔_
  rw [qaff,qaff,qafm l i x]
  constructor
  ·rintro ((⟨j,h,h2⟩ | h) | h)
   ·exact ⟨j,by omega,h2⟩
   ·exact ⟨i,by omega,.inl h⟩
   ·exact ⟨i,by omega,.inr h⟩
  ·rintro ⟨j,h,h2⟩
   rcases Nat.lt_or_ge j i with h3 | h3
   ·exact .inl (.inl ⟨j,h3,h2⟩)
   ·obtain rfl:j=i:=by omega
    exact h2.elim (fun h=>.inl (.inr h)) .inr
theorem qafn (hn:Fu n) {k:Nat} (p:PP) (z:MPg) (y:List Int) (hl:p.2.2.1.length≤20000) (hP:∀ i,i<p.2.2.1.length→PK k (pin p.2.2.1 i).2.1∧PK k (pin p.2.2.1 i).2.2.1) :
 iterN (qhk n) n (p,p.2.2.1,(p.2.2.1.length:Int),(0:Int),z,[y],some [],())=some (.inl (p,z,y :: gT p.2.2.1 p.2.2.1.length,())):=by
 obtain ⟨l,hL⟩:∃ l,l=p.2.2.1:=⟨_,rfl⟩
 rw [← hL] at hl hP ⊢
 have main:∀ i,i≤l.length→∃ m,Seen k m (gT l i)∧∀ r,iterN (qhk n) (n-i) (p,l,(l.length:Int),(i:Int),z,y :: gT l i,some m,())=some r→iterN (qhk n) n (p,l,(l.length:Int),(0:Int),z,[y],some [],())=some r:=by
  intro i
  induction i with
  | zero=>intro _; exact ⟨[],fun q hq=>by rw [decide_eq_false (by simp [gT])]; rfl,fun r h=>h⟩
  | succ i ih =>
   intro hi
   obtain ⟨m,hS,hr⟩:=ih (by omega)
   obtain ⟨h1,h2⟩:=hP i (by omega)
   have e:=qaes (l:=l) (i:=i) (by omega)
   generalize hx:pin l i=x at e h1 h2
   have hln:=qafk l i
   obtain ⟨m1,hS1,s1⟩:=qafi hn (t:=[x.2.1,x.2.2.1]) (j:=0) (q:=x.2.1) (by omega) rfl rfl h1 hS (by omega) p l (l.length:Int) (i:Int) z y
   have hln1:=qafj (T:=gT l i) (q:=x.2.1)
   obtain ⟨m2,hS2,s2⟩:=qafi hn (t:=[x.2.1,x.2.2.1]) (j:=1) (q:=x.2.2.1) (by omega) rfl rfl h2 hS1 (by omega) p l (l.length:Int) (i:Int) z y
   refine ⟨m2,by show Seen k m2 (addPm (addPm (gT l i) (pin l i).2.1) (pin l i).2.2.1); rw [hx]; exact hS2,fun r h=>hr r ?_⟩
   have hin:iterN (qhg n) n (p,l,(l.length:Int),(i:Int),[x.2.1,x.2.2.1],(([x.2.1,x.2.2.1]:List (List Int)).length:Int),(0:Int),z,y :: gT l i,some m,())=some (.inl (p,l,(l.length:Int),(i:Int),z,y :: addPm (addPm (gT l i) x.2.1) x.2.2.1,some m2,())):=by
    obtain ⟨f,hf⟩:∃ f,n=f+3:=⟨n-3,by unfold Fu at hn; omega⟩
    have s3:qhg n (p,l,(l.length:Int),(i:Int),[x.2.1,x.2.2.1],(([x.2.1,x.2.2.1]:List (List Int)).length:Int),((1+1:Nat):Int),z,y :: addPm (addPm (gT l i) x.2.1) x.2.2.1,some m2,())=some (.inr (.inl (p,l,(l.length:Int),(i:Int),z,y :: addPm (addPm (gT l i) x.2.1) x.2.2.1,some m2,()))):=by
     unfold qhg qhf
     dsimp only
     rw [decide_eq_false (show ¬ ((1+1:Nat):Int)<(([x.2.1,x.2.2.1]:List (List Int)).length:Int) from by simp)]
     rfl
    rw [show iterN (qhg n) n=iterN (qhg n) (f+3) from by rw [← hf]]
    show (qhg n _).bind _=_
    rw [show ((0:Int))=((0:Nat):Int) from rfl,s1]
    simp only [zA,zB]
    show (qhg n _).bind _=_
    rw [show ((0+1:Nat):Int)=((1:Nat):Int) from rfl,s2]
    simp only [zA,zB]
    show (qhg n _).bind _=_
    rw [s3]
    rfl
   have hg:n-i=(n-(i+1))+1:=by unfold Fu at hn; omega
   rw [hg]
   show (qhk n _).bind _=_
   have hstep:qhk n (p,l,(l.length:Int),(i:Int),z,y :: gT l i,some m,())=some (.inl (p,l,(l.length:Int),((i+1:Nat):Int),z,y :: gT l (i+1),some m2,())):=by
    unfold qhk qhj
    dsimp only
    rw [decide_eq_true (show (i:Int)<(l.length:Int) by omega),cond_true,e]
    simp only [zA]
    rw [hin]
    simp only [zA,zB]
    rw [up1 (by omega)]
    show some (Sum.inl (p,l,(l.length:Int),((i+1:Nat):Int),z,y :: addPm (addPm (gT l i) x.2.1) x.2.2.1,some m2,()))=some (Sum.inl (p,l,(l.length:Int),((i+1:Nat):Int),z,y :: addPm (addPm (gT l i) (pin l i).2.1) (pin l i).2.2.1,some m2,()))
    rw [hx]
   rw [hstep]
   exact h
 obtain ⟨m,hS,hr⟩:=main l.length (Nat.le_refl _)
 refine hr _ ?_
 obtain ⟨f,hf⟩:∃ f,n-l.length=f+1:=⟨n-l.length-1,by unfold Fu at hn; omega⟩
 rw [hf]
 show (qhk n _).bind _=_
 have:qhk n (p,l,(l.length:Int),(l.length:Int),z,y :: gT l l.length,some m,())=some (.inr (.inl (p,z,y :: gT l l.length,()))):=by
  unfold qhk qhj
  dsimp only
  rw [decide_eq_false (by omega)]
  rfl
 rw [this]
 rfl
end Go.Proofs.YtibphkgcdnconaaGreat.V
namespace Go.Proofs.YtibphkgcdnconaaGreat.V
open Go Classical Grp
set_option linter.unusedVariables false
set_option linter.all false
variable {n:Nat}
theorem qafo {m:Nat} (h:m≤1000000):IntKind.i64.wrap (Int.fdiv (IntKind.u64.wrap (IntKind.i64.wrap ((m:Nat):Int))) (2 ^ (min ((1:Int)).toNat IntKind.u64.bits)))=((m / 2:Nat):Int):=by
 have e:(2:Int) ^ (min ((1:Int)).toNat IntKind.u64.bits)=2:=rfl
 rw [q62 (x:=(m:Int)) (by omega) (by omega),Srt.wrap64u (by omega) (by omega),e]
 rw [show Int.fdiv (m:Int) 2=((m / 2:Nat):Int) from by rw [Int.fdiv_eq_ediv_of_nonneg _ (by omega)]; omega]
 exact q62 (by omega) (by omega)
theorem qafp (hn:Fu n) (a b:List Int) (h:a.length≤1000000000):qg3 n a b=some (cmpL a b,()):=by
 unfold qg3
 rw [qacx hn a b h]; rfl
theorem Asc.lt_at {l:List (List Int)} (h:Asc l) {i j:Nat} (hi:i<j) (hj:j<l.length):ltL (row l i) (row l j):=by
 have:=List.pairwise_iff_getElem.1 h i j (by omega) hj hi
 unfold row
 rw [List.getD_eq_getElem?_getD,List.getElem?_eq_getElem (by omega),List.getD_eq_getElem?_getD,List.getElem?_eq_getElem hj]
 exact this
theorem qafq (hn:Fu n) {l:List (List Int)} (ha:Asc l) (hl:l.length≤5040) (hr:∀ i,i<l.length→(row l i).length≤1000000000) {a:Nat} (h:a<l.length):qg7 n l (row l a)=some ((a:Int),(true,())):=by
 obtain ⟨r,g,hQ⟩:=qadj (f:=qg5 n) hn
  (fun (g:Nat × Nat) d=>d=(l,row l a,(),(l.length:Int),(g.1:Int),(g.2:Int),())∧g.1≤a∧a≤g.2∧g.2≤l.length) (fun g=>g.2-g.1) (fun r=>r=.inl (l,row l a,(),(l.length:Int),(a:Int),())) (0,l.length) (d:=(l,row l a,(),(l.length:Int),(0:Int),(l.length:Int),()))
  ⟨rfl,Nat.zero_le _,by omega,Nat.le_refl _⟩ (by show l.length-0<_; omega) (fun g d hI=>by
   obtain ⟨i,j⟩:=g
   obtain ⟨rfl,h1,h2,h3⟩:=hI
   have h1:i≤a:=h1
   have h2:a≤j:=h2
   have h3:j≤l.length:=h3
   by_cases hij:i<j
   ·have hh:=qafo (m:=i+j) (by omega)
    rw [Int.natCast_add] at hh
    obtain ⟨c,hc⟩:∃ c,c=(i+j) / 2:=⟨_,rfl⟩
    rw [← hc] at hh
    have hcl:c<l.length:=by omega
    have e:=qafp hn (row l c) (row l a) (hr c hcl)
    by_cases hca:c<a
    ·refine .inl ⟨(l,row l a,(),(l.length:Int),((c+1:Nat):Int),(j:Int),()),(c+1,j),?_,⟨rfl,by show c+1≤a; omega,h2,h3⟩,by show j-(c+1)<j-i; omega⟩
     rw [qacs (ha.lt_at hca h)] at e
     unfold qg5 qg4
     dsimp only
     rw [decide_eq_true (show (i:Int)<(j:Int) by omega),cond_true,hh,decide_eq_false (by omega),cond_false,q7b hcl]
     simp only [zA]
     rw [e]
     simp only [zA]
     rw [decide_eq_true (by omega),cond_true,up1 (by omega)]
    ·refine .inl ⟨(l,row l a,(),(l.length:Int),(i:Int),(c:Int),()),(i,c),?_,⟨rfl,h1,by show a≤c; omega,by show c≤l.length; omega⟩,by show c-i<j-i; omega⟩
     have e2:¬ cmpL (row l c) (row l a)<0:=by
      rcases Nat.lt_or_ge a c with h4 | h4
      ·rw [qacu (ha.lt_at h4 hcl)]; omega
      ·obtain rfl:c=a:=by omega
       rw [qact]; omega
     unfold qg5 qg4
     dsimp only
     rw [decide_eq_true (show (i:Int)<(j:Int) by omega),cond_true,hh,decide_eq_false (by omega),cond_false,q7b hcl]
     simp only [zA]
     rw [e]
     simp only [zA]
     rw [decide_eq_false e2,cond_false]
   ·refine .inr ⟨_,?_,rfl⟩
    obtain rfl:i=a:=by omega
    unfold qg5 qg4
    dsimp only
    rw [decide_eq_false (by omega),cond_false])
 subst hQ
 have e:=qafp hn (row l a) (row l a) (hr a h)
 rw [qact] at e
 unfold qg7 qg6
 rw [g]
 simp only [zA,zB]
 rw [decide_eq_true (show (a:Int)<(l.length:Int) by omega),cond_true,q7b h]
 simp only [zA]
 rw [e]
 rfl
noncomputable def gR (y:List Int) (l:List PI):Nat→List (List Int)
 | 0=>[y]
 | i+1=>addPm (addPm (gR y l i) (pin l i).2.1) (pin l i).2.2.1
theorem qafr (y:List Int) (l:List PI):∀ i x,x∈gR y l i↔x=y∨x∈gT l i
 | 0,x=>by show x∈[y]↔x=y∨x∈[]; simp
 | i+1,x=>by
  show x∈addPm (addPm (gR y l i) (pin l i).2.1) (pin l i).2.2.1↔x=y∨x∈addPm (addPm (gT l i) (pin l i).2.1) (pin l i).2.2.1
  rw [qaff,qaff,qaff,qaff,qafr y l i x]
  constructor
  ·rintro (((h | h) | h) | h)
   ·exact .inl h
   ·exact .inr (.inl (.inl h))
   ·exact .inr (.inl (.inr h))
   ·exact .inr (.inr h)
  ·rintro (h | (h | h) | h)
   ·exact .inl (.inl (.inl h))
   ·exact .inl (.inl (.inr h))
   ·exact .inl (.inr h)
   ·exact .inr h
theorem qafs (y:List Int) (l:List PI):∀ i,(gR y l i).length≤2*i+1
 | 0=>Nat.le_refl _
 | i+1=>by
  have:=qafs y l i
  have h1:=qafj (T:=gR y l i) (q:=(pin l i).2.1)
  have h2:=qafj (T:=addPm (gR y l i) (pin l i).2.1) (q:=(pin l i).2.2.1)
  show (addPm (addPm (gR y l i) (pin l i).2.1) (pin l i).2.2.1).length≤_
  omega
theorem qaft (y:List Int) (l:List PI) (i:Nat):0<(gR y l i).length:=by
 have:y∈gR y l i:=(qafr y l i y).2 (.inl rfl)
 exact List.length_pos_of_mem this
theorem rows9 {k:Nat} {l:List (List Int)} (h:∀ p∈l,PK k p):∀ i,i<l.length→(row l i).length≤1000000000:=fun i hi=>by
 have:=h _ (q7a hi)
 have h2:=this.bd
 rw [this.2]; omega
theorem qafu {k:Nat} {T:List (List Int)} {q:List Int} (hT:∀ p∈T,PK k p) (hq:PK k q):∀ p∈addPm T q,PK k p:=fun p hp=>(qaff.1 hp).elim (hT p) (fun e=>e ▸ hq)
theorem in_or (hn:Fu n) {k:Nat} {T:List (List Int)} (hT:∀ p∈T,PK k p) (hl:T.length≤1000000) (q:List Int):qcx n T q=some (decide (q∈T),()):=qaer hn T q (by omega) (rows9 hT)
set_option maxHeartbeats 1000000 in
theorem qafv (hn:Fu n) {k:Nat} (p:PP) (at1:List Int) (due:Int) (hl:p.2.2.1.length≤20000) (hy:PK k p.2.2.2.1) (hP:∀ i,i<p.2.2.1.length→PK k (pin p.2.2.1 i).2.1∧PK k (pin p.2.2.1 i).2.2.1) :
 iterN (qiq n) n (at1,p,due,(0:Int),[p.2.2.2.1],())=some (.inl (true,()))∨iterN (qiq n) n (at1,p,due,(0:Int),[p.2.2.2.1],())=some (.inr (.inl (at1,p,due,gR p.2.2.2.1 p.2.2.1 p.2.2.1.length,()))):=by
 obtain ⟨l,hL⟩:∃ l,l=p.2.2.1:=⟨_,rfl⟩
 obtain ⟨y,hY⟩:∃ y,y=p.2.2.2.1:=⟨_,rfl⟩
 rw [← hL] at hl hP ⊢
 rw [← hY] at hy ⊢
 have hPK:∀ i,i≤l.length→∀ x∈gR y l i,PK k x:=by
  intro i
  induction i with
  | zero=>intro _ x hx; rw [List.mem_singleton.1 hx]; exact hy
  | succ i ih =>
   intro hi
   obtain ⟨h1,h2⟩:=hP i (by omega)
   exact qafu (qafu (ih (by omega)) h1) h2
 have step:∀ i,i<l.length→qiq n (at1,p,due,(i:Int),gR y l i,())=(bif decide ((200:Int)<((gR y l (i+1)).length:Int)) then some (.inr (.inl (true,()))) else some (.inl (at1,p,due,((i+1:Nat):Int),gR y l (i+1),()))):=by
  intro i hi
  obtain ⟨h1,h2⟩:=hP i hi
  have e:=qaes hi
  rw [hL] at e
  have hG:=hPK i (by omega)
  have hGl:=qafs y l i
  have hg1:gR y l (i+1)=addPm (addPm (gR y l i) (pin p.2.2.1 i).2.1) (pin p.2.2.1 i).2.2.1:=by rw [← hL]; rfl
  rw [← hL] at hg1
  rw [hg1]
  rw [← hL] at e
  generalize pin l i=x at *
  generalize gR y l i=G at *
  have i1:=in_or hn hG (by omega) x.2.1
  have hG1:=qafu hG h1
  have hl1:=qafj (T:=G) (q:=x.2.1)
  have i2:=in_or hn hG1 (by omega) x.2.2.1
  have hl2:=qafj (T:=addPm G x.2.1) (q:=x.2.2.1)
  have aw:=qaen hn
  have hlb:∀ {T:List (List Int)} {q:List Int},T.length≤1000000→lenB (T.length+[q].length)=true:=fun h=>q63 (by simp; omega)
  have first : ((idx p.2.2.1 (i : Int)).bind fun v38 =>
          (qcx n G v38.2.1).bind fun r39 =>
          bif (!r39.1) then
          ((idx p.2.2.1 (i:Int)).bind fun v40 =>
          chk (lenB ((G).length+([v40.2.1]).length)) (some (.inl (at1,p,due,(i:Int),(G++[v40.2.1]),()))))
          else
          (some (.inl (at1,p,due,(i:Int),G,()))):Option ((List Int × PP × Int × Int × List (List Int) × Unit) ⊕ Empty))=some (.inl (at1,p,due,(i:Int),addPm G x.2.1,())):=by
   rw [← hL,e]
   simp only [zA]
   rw [i1]
   simp only [zA]
   unfold addPm
   by_cases h:x.2.1∈G
   ·rw [if_pos h,decide_eq_true h]; rfl
   ·rw [if_neg h,decide_eq_false h,hlb (by omega)]; rfl
  unfold qiq qip
  dsimp only
  rw [decide_eq_true (show (i:Int)<(p.2.2.1.length:Int) by rw [← hL]; omega),cond_true,first]
  simp only [zA,zB]
  rw [← hL,e]
  simp only [zA]
  rw [i2]
  simp only [zA]
  generalize addPm G x.2.1=G1 at *
  by_cases h:x.2.2.1∈G1
  ·have ea:addPm G1 x.2.2.1=G1:=by unfold addPm; rw [if_pos h]
   rw [ea,decide_eq_true h]
   simp only [Bool.not_true,cond_false,zA,zB]
   rw [aw,up1 (by omega)]
   rfl
  ·have ea:addPm G1 x.2.2.1=G1++[x.2.2.1]:=by unfold addPm; rw [if_neg h]
   rw [ea,decide_eq_false h,hlb (by omega)]
   simp only [Bool.not_false,cond_true,q69,zA,zB]
   rw [aw,up1 (by omega)]
   rfl
 have h:=q6x (f:=qiq n) hn (fun i=>(at1,p,due,(i:Int),gR y l i,())) l.length (fun i=>(gR y l (i+1)).length≤200) (d:=(at1,p,due,(0:Int),[y],())) (r:=.inr (.inl (at1,p,due,gR y l l.length,()))) (r':=fun _=>.inl (true,())) (by omega) rfl
  (fun i hi _ hp=>by rw [step i hi,decide_eq_false (by omega),cond_false]) (fun i hi _ hp=>by rw [step i hi,decide_eq_true (by omega),cond_true])
  (fun _=>by
   unfold qiq qip
   dsimp only
   rw [decide_eq_false (show ¬ (l.length:Int)<(p.2.2.1.length:Int) by rw [← hL]; omega)]
   rfl)
 rcases h with ⟨_,g⟩ | ⟨i,_,_,_,g⟩
 ·exact .inr g
 ·exact .inl g
end Go.Proofs.YtibphkgcdnconaaGreat.V
namespace Go.Proofs.YtibphkgcdnconaaGreat.V
open Go Classical Grp
set_option linter.unusedVariables false
set_option linter.all false
variable {n:Nat}
theorem qafw (hn:Fu n) {p q:List Int} (hp:p.length≤1000) (h:Fits p q):qg2 n p q=some (mulP p q,()):=by
 have g:iterN (qg1 n) n (q,p,(p.length:Int),0,List.replicate p.length 0,())=some (.inl (mulP p q,())):=by
  refine q6v hn (fun i=>(q,p,(p.length:Int),(i:Int),partP p.length (fun i=>rd q (rd p (i:Int))) i,())) p.length (by omega) (by rw [q7x]; rfl) (fun i hi => ?_) ?_
  ·have e:=q7y (k:=p.length) (f:=fun i=>rd q (rd p (i:Int))) hi
   obtain ⟨h0,h1⟩:=h i hi
   simp (disch:=first | assumption | omega) only [zA,zB,zC,zD,zE,zF,zG,q69,q63,q64,zH,zI,dpos,dneg,zJ,zK,zL,zM,zN,zO,zP,qg1,qg0,q7c,q70,up1,e]
  ·simp (disch:=first | assumption | omega) only [zA,zB,zC,zD,zE,zF,zG,q69,q63,q64,zH,zI,dpos,dneg,zJ,zK,zL,zM,zN,zO,zP,qg1,qg0,q7z]; rfl
 simp (disch:=first | assumption | omega) only [zA,zB,zC,zD,zE,zF,zG,q69,q63,q64,zH,zI,dpos,dneg,zJ,zK,zL,zM,zN,zO,zP,qg2,List.length_replicate,g]
def stF (f:Nat→Nat→Int) (N a b:Nat):List (List Int):=tab N (fun r=>if r<a then tab N (f r) else if r=a then tab b (f r) else [])
theorem qafx (f:Nat→Nat→Int) (N a b:Nat):(stF f N a b).length=N:=by unfold stF; simp
theorem qafy {f:Nat→Nat→Int} {N a b:Nat} (h:a<N):row (stF f N a b) a=tab b (f a):=by
 unfold stF
 rw [q7l h,if_neg (by omega),if_pos rfl]
theorem qafz {f:Nat→Nat→Int} {N a b:Nat} (h:a<N):(stF f N a b).set a (tab b (f a)++[f a b])=stF f N a (b+1):=by
 unfold stF
 rw [q7g]
 refine q7h (fun r hr => ?_)
 by_cases e:r=a
 ·subst e
  rw [if_pos rfl,if_neg (by omega),if_pos rfl,q7j]
 ·rw [if_neg e]
  by_cases h2:r<a
  ·rw [if_pos h2,if_pos h2]
  ·rw [if_neg h2,if_neg h2,if_neg e,if_neg e]
theorem qaf0 {f:Nat→Nat→Int} {N a:Nat}:stF f N a N=stF f N (a+1) 0:=by
 unfold stF
 refine q7h (fun r hr => ?_)
 by_cases h:r<a
 ·rw [if_pos h,if_pos (by omega)]
 ·rw [if_neg h]
  by_cases e:r=a
  ·rw [if_pos e,if_pos (by omega)]
  ·rw [if_neg e,if_neg (by omega)]
   by_cases e2:r=a+1
   ·rw [if_pos e2]; rfl
   ·rw [if_neg e2]
theorem qaf1 (f:Nat→Nat→Int) (N:Nat):List.replicate N ([]:List Int)=stF f N 0 0:=by
 unfold stF
 rw [q7i]
 refine q7h (fun r hr => ?_)
 rw [if_neg (by omega)]
 by_cases e:r=0
 ·rw [if_pos e]; rfl
 ·rw [if_neg e]
theorem qaf2 (f:Nat→Nat→Int) (N:Nat):stF f N N 0=tab N (fun r=>tab N (f r)):=by
 unfold stF
 exact q7h (fun r hr=>by rw [if_pos hr])
structure ClL (k:Nat) (l:List (List Int)):Prop where
 asc:Asc l
 pk:∀ p∈l,PK k p
 mul:∀ p q,p∈l→q∈l→mulP p q∈l
 len:l.length≤5040
 pos:0<l.length
noncomputable def ps (l:List (List Int)) (p:List Int):Nat:=l.idxOf p
theorem qaf3 {l:List (List Int)} {p:List Int} (h:p∈l):ps l p<l.length∧row l (ps l p)=p:=by
 have h1:l.idxOf p<l.length:=List.idxOf_lt_length_of_mem h
 refine ⟨h1,?_⟩
 unfold ps row
 rw [List.getD_eq_getElem?_getD,List.getElem?_eq_getElem h1]
 exact List.getElem_idxOf h1
theorem ClL.inj {k:Nat} {l:List (List Int)} (h:ClL k l) {a b:Nat} (ha:a<l.length) (hb:b<l.length) (e:row l a=row l b):a=b:=by
 rcases Nat.lt_trichotomy a b with h1 | h1 | h1
 ·have:=h.asc.lt_at h1 hb
  rw [e] at this
  exact (q8q _ this).elim
 ·exact h1
 ·have:=h.asc.lt_at h1 ha
  rw [e] at this
  exact (q8q _ this).elim
theorem ClL.ps_at {k:Nat} {l:List (List Int)} (h:ClL k l) {a:Nat} (ha:a<l.length):ps l (row l a)=a:=by
 obtain ⟨h1,h2⟩:=qaf3 (q7a ha)
 exact h.inj h1 ha h2
theorem ClL.row9 {k:Nat} {l:List (List Int)} (h:ClL k l):∀ i,i<l.length→(row l i).length≤1000000000:=rows9 h.pk
theorem ClL.number (hn:Fu n) {k:Nat} {l:List (List Int)} (h:ClL k l) {q:List Int} (hq:q∈l):qg7 n l q=some ((ps l q:Int),(true,())):=by
 obtain ⟨h1,h2⟩:=qaf3 hq
 have:=qafq hn h.asc h.len h.row9 h1
 rw [h2] at this
 exact this
noncomputable def gf (l:List (List Int)) (a b:Nat):Nat:=ps l (mulP (row l a) (row l b))
noncomputable def tbl (l:List (List Int)):List (List Int):=tab2 l.length (gf l)
theorem ClL.gf_lt {k:Nat} {l:List (List Int)} (h:ClL k l) {a b:Nat} (ha:a<l.length) (hb:b<l.length):gf l a b<l.length:=(qaf3 (h.mul _ _ (q7a ha) (q7a hb))).1
theorem ClL.fits {k:Nat} {l:List (List Int)} (h:ClL k l) {a b:Nat} (ha:a<l.length) (hb:b<l.length):Fits (row l a) (row l b)∧(row l a).length≤1000:=by
 have h1:=h.pk _ (q7a ha)
 have h2:=h.pk _ (q7a hb)
 have:=h1.bd
 exact ⟨h1.1.fits (by rw [h1.2,h2.2]),by rw [h1.2]; omega⟩
theorem qaf4 (hn:Fu n) {k:Nat} {l:List (List Int)} (h:ClL k l) {i:Nat} (hi:i<l.length) (t:List (List Int)) (a b:Int) :
 iterN (qg9 n) n (l,(i:Int),row l i,t,a,b,l,(l.length:Int),(0:Int),stF (fun r c=>(gf l r c:Int)) l.length i 0,())=some (.inl (l,t,a,b,stF (fun r c=>(gf l r c:Int)) l.length i l.length,())):=by
 have hl:=h.len
 refine q6v hn (fun j=>(l,(i:Int),row l i,t,a,b,l,(l.length:Int),(j:Int),stF (fun r c=>(gf l r c:Int)) l.length i j,())) l.length (by omega) rfl (fun j hj => ?_) ?_
 ·obtain ⟨f1,f2⟩:=h.fits hi hj
  have e1:=qafw hn f2 f1
  have e2:=h.number hn (h.mul _ _ (q7a hi) (q7a hj))
  have e3:idx (stF (fun r c=>(gf l r c:Int)) l.length i j) (i:Int)=some (tab j (fun c=>(gf l i c:Int))):=by
   rw [q7b (by rw [qafx]; exact hi),qafy hi]
  have e4:=qafz (f:=fun r c=>(gf l r c:Int)) (b:=j) hi
  have hlb:lenB ((tab j (fun c=>(gf l i c:Int))).length+[((ps l (mulP (row l i) (row l j)):Nat):Int)].length)=true:=q63 (by unfold tab; simp; omega)
  unfold qg9 qg8
  dsimp only
  rw [decide_eq_true (show (j:Int)<(l.length:Int) by omega),cond_true,q7b hj]
  simp only [zA]
  rw [e1]
  simp only [zA]
  rw [e2]
  simp only [zA]
  rw [e3]
  simp only [zA]
  rw [hlb,q64,up1 (by omega),Int.toNat_natCast]
  simp only [q69]
  have e4:(stF (fun r c=>(gf l r c:Int)) l.length i j).set i (tab j (fun c=>(gf l i c:Int))++[((ps l (mulP (row l i) (row l j)):Nat):Int)])=stF (fun r c=>(gf l r c:Int)) l.length i (j+1):=e4
  rw [e4]
 ·unfold qg9 qg8
  dsimp only
  rw [decide_eq_false (by omega),cond_false]
theorem qaf5 (hn:Fu n) {k:Nat} {l:List (List Int)} (h:ClL k l) :
 iterN (qhb n) n (l,l,(l.length:Int),(0:Int),stF (fun r c=>(gf l r c:Int)) l.length 0 0,())=some (.inl (l,tbl l,())):=by
 have hl:=h.len
 have he:tbl l=stF (fun r c=>(gf l r c:Int)) l.length l.length 0:=by rw [qaf2]; rfl
 rw [he]
 refine q6v hn (fun i=>(l,l,(l.length:Int),(i:Int),stF (fun r c=>(gf l r c:Int)) l.length i 0,())) l.length (by omega) rfl (fun i hi => ?_) ?_
 ·have g:=qaf4 hn h hi l (l.length:Int) (i:Int)
  rw [qaf0] at g
  unfold qhb qha
  dsimp only
  rw [decide_eq_true (show (i:Int)<(l.length:Int) by omega),cond_true,q7b hi]
  simp only [zA]
  rw [g]
  simp only [zA,zB]
  rw [up1 (by omega)]
 ·unfold qhb qha
  dsimp only
  rw [decide_eq_false (by omega),cond_false]
theorem qaf6 (hn:Fu n) {k:Nat} {l gens:List (List Int)} (h:ClL k l) (hc:qgz n gens=some (l,0,())):qhc n gens=some (if 120<l.length then ([],([],(5,()))) else (tbl l,(l,(0,())))):=by
 have hl:=h.len
 unfold qhc
 rw [hc]
 simp only [zA,decide_true,Bool.not_true,cond_false]
 by_cases h1:120<l.length
 ·rw [if_pos h1,decide_eq_true (show (120:Int)<(l.length:Int) by omega)]
  rfl
 ·have g:=qaf5 hn h
  rw [← qaf1] at g
  rw [if_neg h1,decide_eq_false (show ¬ (120:Int)<(l.length:Int) by omega),cond_false,decide_eq_true (show (0:Int)≤(l.length:Int) by omega),decide_eq_true (show (l.length:Int)≤(l.length:Int) by omega),Int.toNat_natCast,q63 (by omega)]
  simp only [q69]
  rw [g]
  rfl
theorem qaf7 (hn:Fu n) {k:Nat} {l:List (List Int)} (h:ClL k l) {q:List Int} (hq:q∈l) (i j:Int) (m:List (List Int)) (r:List Int) :
 iterN (qho n) n (l,i,j,q,(0:Int),m,r,())=some (.inl (l,i,j,(ps l q:Int),m,r,())):=by
 obtain ⟨h1,h2⟩:=qaf3 hq
 have hl:=h.len
 refine q6v hn (fun a=>(l,i,j,q,(a:Int),m,r,())) (ps l q) (by omega) rfl (fun a ha => ?_) ?_
 ·have hal:a<l.length:=by omega
  have e:=qaeo hn (row l a) q (h.row9 a hal)
  rw [decide_eq_false (fun e2=>by
   have:=h.ps_at hal
   rw [e2] at this
   omega)] at e
  unfold qho qhn
  dsimp only
  rw [q7b hal]
  simp only [zA]
  rw [e]
  simp only [zA,Bool.not_false,cond_true]
  rw [up1 (by omega)]
 ·have e:=qaeo hn (row l (ps l q)) q (h.row9 _ h1)
  rw [decide_eq_true h2] at e
  unfold qho qhn
  dsimp only
  rw [q7b h1]
  simp only [zA]
  rw [e]
  rfl
theorem qaf8 (hn:Fu n) {k:Nat} {l:List (List Int)} (h:ClL k l) {i:Nat} (hi:i<l.length) (m:List (List Int)) :
 iterN (qhq n) n (l,(i:Int),(0:Int),m,[],())=some (.inl (l,(i:Int),m,tab l.length (fun c=>(gf l i c:Int)),())):=by
 have hl:=h.len
 refine q6v hn (fun j=>(l,(i:Int),(j:Int),m,tab j (fun c=>(gf l i c:Int)),())) l.length (by omega) rfl (fun j hj => ?_) ?_
 ·obtain ⟨f1,f2⟩:=h.fits hi hj
  have e1:=q71 hn f2 f1
  have e2:=qaf7 hn h (h.mul _ _ (q7a hi) (q7a hj)) (i:Int) (j:Int) m (tab j (fun c=>(gf l i c:Int)))
  have hlb:lenB ((tab j (fun c=>(gf l i c:Int))).length+[((ps l (mulP (row l i) (row l j)):Nat):Int)].length)=true:=q63 (by unfold tab; simp; omega)
  unfold qhq qhp
  dsimp only
  rw [decide_eq_true (show (j:Int)<(l.length:Int) by omega),cond_true,q7b hi,q7b hj]
  simp only [zA]
  rw [e1]
  simp only [zA]
  rw [e2]
  simp only [zA,zB]
  rw [hlb,up1 (by omega)]
  simp only [q69]
  rw [q7j]
  rfl
 ·unfold qhq qhp
  dsimp only
  rw [decide_eq_false (by omega),cond_false]
theorem qaf9 (hn:Fu n) {k:Nat} {l:List (List Int)} (h:ClL k l):qht n l=some (tbl l,()):=by
 have hl:=h.len
 have g:iterN (qhs n) n (l,(0:Int),[],())=some (.inl (tbl l,())):=by
  refine q6v hn (fun i=>(l,(i:Int),tab i (fun r=>tab l.length (fun c=>(gf l r c:Int))),())) l.length (by omega) rfl (fun i hi => ?_) ?_
  ·have e:=qaf8 hn h hi (tab i (fun r=>tab l.length (fun c=>(gf l r c:Int))))
   have hlb:lenB ((tab i (fun r=>tab l.length (fun c=>(gf l r c:Int)))).length+[tab l.length (fun c=>(gf l i c:Int))].length)=true:=q63 (by unfold tab; simp; omega)
   unfold qhs qhr
   dsimp only
   rw [decide_eq_true (show (i:Int)<(l.length:Int) by omega),cond_true,e]
   simp only [zA,zB]
   rw [hlb,up1 (by omega)]
   simp only [q69]
   rw [q7j]
  ·unfold qhs qhr
   dsimp only
   rw [decide_eq_false (by omega),cond_false]
   rfl
 unfold qht
 rw [g]
 rfl
end Go.Proofs.YtibphkgcdnconaaGreat.V
namespace Go.Proofs.YtibphkgcdnconaaGreat.V
open Go Classical Grp
set_option linter.unusedVariables false
set_option linter.all false
variable {n:Nat}
section
variable {k:Nat} {hk:1≤k∧k≤7}
theorem qaga {H:Pm k hk→Prop} (hH:Sub H):ClL k (can H):=⟨qadv,qadu,fun p q hp hq=>by
 obtain ⟨p1,p2⟩:=qads.1 hp
 obtain ⟨q1,q2⟩:=qads.1 hq
 exact qads.2 ⟨p1.mul q1,hH.mul p2 q2⟩,qadw,List.length_pos_of_mem (qadt.2 hH.one)⟩
theorem qagb {H:Pm k hk→Prop} (hH:Sub H):ps (can H) (idP k)=0:=by
 have hC:=qaga hH
 have h1:idP k∈can H:=qadt.2 hH.one
 obtain ⟨hj,ej⟩:=qaf3 h1
 by_cases h0:ps (can H) (idP k)=0
 ·exact h0
 ·have hlt:=hC.asc.lt_at (i:=0) (j:=ps (can H) (idP k)) (by omega) hj
  rw [ej] at hlt
  have hp:=hC.pk _ (q7a hC.pos)
  have hid:PK k (idP k):=(1:Pm k hk).2
  have h2:=hp.rk.2
  have h3:=hid.rk.2
  rw [qad2] at h3
  by_cases hr:rank (row (can H) 0)=0
  ·rw [hr,h3] at h2; rw [← h2] at hlt; exact absurd hlt (q8q _)
  ·have h4:=q87 (r:=0) (q89 k) (q88 k) (by omega) hp.rk.1
   rw [h2,h3] at h4
   exact absurd (q8r hlt h4) (q8q _)
end
structure Vp (k I:Nat) (p:PP):Prop where
 k1:2≤k∧k≤7
 pk:p.1=(k:Int)
 pi:p.2.1=(I:Int)
 i16:I≤16
 y:PK k p.2.2.2.1
 at_:∀ i,i<p.2.2.1.length→∃ a:Nat,a<I∧(pin p.2.2.1 i).1=(a:Int)∧PK k (pin p.2.2.1 i).2.1∧PK k (pin p.2.2.1 i).2.2.1
theorem VProg.vp {p:PP} (h:VProg p):Vp p.1.toNat p.2.1.toNat p:=by
 obtain ⟨h1,h2,h3,h4,h5,h6,h7,h8⟩:=h
 have pk:∀ {q},PkI p.1 q→PK p.1.toNat q:=fun hq=>⟨hq.2,by have:=hq.1; omega⟩
 refine ⟨by omega,by omega,by omega,by omega,pk h6,fun i hi => ?_⟩
 obtain ⟨a1,a2,a3,a4⟩:=h8 i hi
 exact ⟨(pin p.2.2.1 i).1.toNat,by omega,by omega,pk a3,pk a4⟩
noncomputable def gp (k:Nat) (hk:1≤k∧k≤7) (p:PP):List (List Int):=can (hk:=hk) (Cl (dn (gR p.2.2.2.1 p.2.2.1 p.2.2.1.length)))
theorem gR_PK {k I:Nat} {p:PP} (h:Vp k I p):∀ x∈gR p.2.2.2.1 p.2.2.1 p.2.2.1.length,PK k x:=fun x hx=>by
 rcases (qafr _ _ _ x).1 hx with rfl | h2
 ·exact h.y
 ·obtain ⟨j,hj,e⟩:=(qafm _ _ x).1 h2
  obtain ⟨a,_,_,h3,h4⟩:=h.at_ j hj
  exact e.elim (fun e=>e ▸ h3) (fun e=>e ▸ h4)
theorem qagc {k:Nat} (hk:1≤k∧k≤7) (p:PP):ClL k (gp k hk p):=qaga (Cl.sub _)
theorem qagd {k I:Nat} (hk:1≤k∧k≤7) {p:PP} (h:Vp k I p) {x:List Int} (hx:x∈gR p.2.2.2.1 p.2.2.1 p.2.2.1.length):x∈gp k hk p:=qads.2 ⟨gR_PK h x hx,Cl.gen hx⟩
theorem gp_y {k I:Nat} (hk:1≤k∧k≤7) {p:PP} (h:Vp k I p):p.2.2.2.1∈gp k hk p:=qagd hk h ((qafr _ _ _ _).2 (.inl rfl))
theorem gp_at {k I:Nat} (hk:1≤k∧k≤7) {p:PP} (h:Vp k I p) {i:Nat} (hi:i<p.2.2.1.length):(pin p.2.2.1 i).2.1∈gp k hk p∧(pin p.2.2.1 i).2.2.1∈gp k hk p :=
 ⟨qagd hk h ((qafr _ _ _ _).2 (.inr ((qafm _ _ _).2 ⟨i,hi,.inl rfl⟩))),qagd hk h ((qafr _ _ _ _).2 (.inr ((qafm _ _ _).2 ⟨i,hi,.inr rfl⟩)))⟩
theorem qage {k I:Nat} (hk:1≤k∧k≤7) {p:PP} (h:Vp k I p):(gT p.2.2.1 p.2.2.1.length).length≤(gp k hk p).length :=
 q8i (qafl _ _) (fun x hx=>qagd hk h ((qafr _ _ _ _).2 (.inr hx)))
theorem qagf (hn:Fu n) {k I:Nat} (hk:1≤k∧k≤7) {p:PP} (h:Vp k I p) (hl:p.2.2.1.length≤20000):qdl n (gR p.2.2.2.1 p.2.2.1 p.2.2.1.length)=some (gp k hk p,()) :=
 qad3 (hk:=hk) hn (gR_PK h) (qaft _ _ _) (by have:=qafs p.2.2.2.1 p.2.2.1 p.2.2.1.length; omega)
theorem qagg (hn:Fw n) {k I:Nat} (hk:1≤k∧k≤7) {p:PP} (h:Vp k I p) (hl:(gT p.2.2.1 p.2.2.1.length).length≤120):qgz n (p.2.2.2.1 :: gT p.2.2.1 p.2.2.1.length)=some (gp k hk p,0,()):=by
 have hm:∀ x,x∈p.2.2.2.1 :: gT p.2.2.1 p.2.2.1.length↔x∈gR p.2.2.2.1 p.2.2.1 p.2.2.1.length:=fun x=>by rw [qafr,List.mem_cons]
 have hG:∀ x∈p.2.2.2.1 :: gT p.2.2.1 p.2.2.1.length,PK k x:=fun x hx=>gR_PK h x ((hm x).1 hx)
 have hv:GV (p.2.2.2.1 :: gT p.2.2.1 p.2.2.1.length):=by
  refine ⟨by simp,by simp only [List.length_cons]; omega,fun i hi => ?_⟩
  have h1:=hG _ (q7a (show 0<(p.2.2.2.1 :: gT p.2.2.1 p.2.2.1.length).length by simp))
  have h2:=hG _ (q7a hi)
  exact ⟨h1.1,h2.1,by rw [h1.2,h2.2]⟩
 rw [qad9 (hk:=hk) hn hv hG]
 have:dn (hk:=hk) (p.2.2.2.1 :: gT p.2.2.1 p.2.2.1.length)=dn (gR p.2.2.2.1 p.2.2.1 p.2.2.1.length):=funext fun x=>propext (hm x.1)
 unfold gp
 rw [this]
abbrev MI:=Int × (Int × (Int × Unit))
noncomputable def insT (l:List (List Int)) (ins:List PI) (i:Nat):List MI:=tab i (fun j=>((pin ins j).1,((ps l (pin ins j).2.1:Int),((ps l (pin ins j).2.2.1:Int),()))))
theorem qagh (l:List (List Int)) (ins:List PI) (i:Nat):(insT l ins i).length=i:=by unfold insT; simp
theorem qagi (hn:Fu n) {k I:Nat} (hk:1≤k∧k≤7) {p:PP} (h:Vp k I p) (hl:p.2.2.1.length≤20000) (m:List (List Int)) (z:MPg) (I0:Int) (y:List Int) :
 iterN (qhi n) n (m,gp k hk p,p.2.2.1,(p.2.2.1.length:Int),(0:Int),z,(I0,(([]:List MI),(y,()))),())=some (.inl (m,z,(I0,(insT (gp k hk p) p.2.2.1 p.2.2.1.length,(y,()))),())):=by
 have hC:=qagc hk p
 obtain ⟨ins,hins⟩:∃ l,l=p.2.2.1:=⟨_,rfl⟩
 have hat:∀ i,i<ins.length→(pin ins i).2.1∈gp k hk p∧(pin ins i).2.2.1∈gp k hk p:=fun i hi=>by rw [hins] at hi ⊢; exact gp_at hk h hi
 rw [← hins] at hl ⊢
 generalize gp k hk p=l at hC hat ⊢
 refine q6v hn (fun i=>(m,l,ins,(ins.length:Int),(i:Int),z,(I0,(insT l ins i,(y,()))),())) ins.length (by omega) rfl (fun i hi => ?_) ?_
 ·obtain ⟨h1,h2⟩:=hat i hi
  have e:=qaes hi
  have e1:=hC.number hn h1
  have e2:=hC.number hn h2
  have hs:insT l ins i++[((pin ins i).1,((ps l (pin ins i).2.1:Int),((ps l (pin ins i).2.2.1:Int),())))]=insT l ins (i+1):=(q7j i _).symm
  have hlb:lenB ((insT l ins i).length+[((pin ins i).1,((ps l (pin ins i).2.1:Int),((ps l (pin ins i).2.2.1:Int),())))].length)=true:=q63 (by rw [qagh]; simp; omega)
  unfold qhi qhh
  dsimp only
  rw [decide_eq_true (show (i:Int)<(ins.length:Int) by omega),cond_true,e]
  simp only [zA]
  rw [e1]
  simp only [zA]
  rw [e2]
  simp only [zA]
  rw [hlb,q64,up1 (by omega),hs]
  rfl
 ·unfold qhi qhh
  dsimp only
  rw [decide_eq_false (by omega),cond_false]
def zMP:MPg:=(0,([],([],())))
noncomputable def outMP (k:Nat) (hk:1≤k∧k≤7) (p:PP):MPg:=(p.2.1,(insT (gp k hk p) p.2.2.1 p.2.2.1.length,([(ps (gp k hk p) p.2.2.2.1:Int)],())))
theorem qagj (hn:Fu n) {p:PP} (h:¬ VProg p):qhl n p=some ([],(zMP,(1,()))):=by
 have e:=qae1 hn p
 rw [decide_eq_false h] at e
 unfold qhl
 rw [e]
 rfl
theorem qagk (hn:Fw n) {p:PP} (hv:VProg p) (hl:p.2.2.1.length≤20000) {k I:Nat} (hk:1≤k∧k≤7) (h:Vp k I p) :
 qhl n p=some (if 120<(gp k hk p).length then ([],(zMP,(5,()))) else (tbl (gp k hk p),(outMP k hk p,(0,())))):=by
 have e:=qae1 hn.fu p
 rw [decide_eq_true hv] at e
 have g:=qafn hn.fu (k:=k) p zMP p.2.2.2.1 hl (fun i hi=>by obtain ⟨a,_,_,h3,h4⟩:=h.at_ i hi; exact ⟨h3,h4⟩)
 have hC:=qagc hk p
 have hf:=qage hk h
 unfold qhl
 rw [e]
 simp only [zA,Bool.not_true,cond_false]
 have g:iterN (qhk n) n (p,p.2.2.1,(p.2.2.1.length:Int),(0:Int),((0:Int),(([]:(List MI)),(([]:(List Int)),()))),[p.2.2.2.1],(some []:(Option (List (ByteArray × Bool)))),())=_:=g
 rw [g]
 simp only [zA,zB]
 by_cases h1:121<(p.2.2.2.1 :: gT p.2.2.1 p.2.2.1.length).length
 ·rw [decide_eq_true (by omega),cond_true,if_pos (by simp only [List.length_cons] at h1; omega)]
  rfl
 ·have hq:(gT p.2.2.1 p.2.2.1.length).length≤120:=by simp only [List.length_cons] at h1; omega
  have hc:=qagg hn hk h hq
  have ho:=qaf6 hn.fu hC hc
  rw [decide_eq_false (by omega),cond_false,ho]
  by_cases h2:120<(gp k hk p).length
  ·rw [if_pos h2,if_pos h2]
   rfl
  ·rw [if_neg h2,if_neg h2]
   have e1:=hC.number hn.fu (gp_y hk h)
   have e2:=qagi hn.fu hk h hl (tbl (gp k hk p)) zMP p.2.1 [(ps (gp k hk p) p.2.2.2.1:Int)]
   simp only [zA,decide_true,Bool.not_true,cond_false]
   rw [e1]
   simp only [zA]
   have e2:iterN (qhi n) n (tbl (gp k hk p),gp k hk p,p.2.2.1,(p.2.2.1.length:Int),(0:Int),zMP,(p.2.1,(([]:List MI),([(ps (gp k hk p) p.2.2.2.1:Int)],()))),())=_:=e2
   rw [e2]
   rfl
end Go.Proofs.YtibphkgcdnconaaGreat.V
namespace Go.Proofs.YtibphkgcdnconaaGreat.V
open Go Classical Grp
set_option linter.unusedVariables false
set_option linter.all false
variable {n:Nat}
theorem qagl (hn:Fu n) {m:List (List Int)} {ins:List Ins} (hl:ins.length≤200000) {I:Nat} (hI:I≤16) (hp:∀ i,i<ins.length→InsV m.length I (insAt ins i)) {y:Nat} (hy:y<m.length):qh3 n m ((I:Int),ins,[(y:Int)],())=some (true,()):=by
 have g:iterN (qh2 n) n (((I:Int),ins,[(y:Int)],()),(m.length:Int),0,())=some (.inr (.inl (((I:Int),ins,[(y:Int)],()),(m.length:Int),()))):=by
  refine q6v hn (fun i=>(((I:Int),ins,[(y:Int)],()),(m.length:Int),(i:Int),())) ins.length (by omega) rfl (fun i hi => ?_) ?_
  ·obtain ⟨a,z,o,e,ha,hz,ho⟩:=hp i hi
   simp (disch:=first | assumption | omega) only [zA,zB,zC,zD,zE,zF,zG,q69,q63,q64,zH,zI,dpos,dneg,zJ,zK,zL,zM,zN,zO,zP,qh2,qh1,qaek,e,up1]
  ·simp (disch:=first | assumption | omega) only [zA,zB,zC,zD,zE,zF,zG,q69,q63,q64,zH,zI,dpos,dneg,zJ,zK,zL,zM,zN,zO,zP,qh2,qh1]
 have g1:iterN (qh0 n) n (((I:Int),ins,[(y:Int)],()),(m.length:Int),0,())=some (.inr (.inl ())):=by
  refine q6v hn (fun i=>(((I:Int),ins,[(y:Int)],()),(m.length:Int),(i:Int),())) 1 (by omega) rfl (fun i hi => ?_) ?_
  ·obtain rfl:i=0:=by omega
   have e:idx [(y:Int)] ((0:Nat):Int)=some (y:Int):=rfl
   simp (disch:=first | assumption | omega) only [zA,zB,zC,zD,zE,zF,zG,q69,q63,q64,zH,zI,dpos,dneg,zJ,zK,zL,zM,zN,zO,zP,qh0,qhz,e,up1]
  ·simp (disch:=first | assumption | omega) only [zA,zB,zC,zD,zE,zF,zG,q69,q63,q64,zH,zI,dpos,dneg,zJ,zK,zL,zM,zN,zO,zP,qh0,qhz]
 simp (disch:=first | assumption | omega) only [zA,zB,zC,zD,zE,zF,zG,q69,q63,q64,zH,zI,dpos,dneg,zJ,zK,zL,zM,zN,zO,zP,qh3,g,g1]
theorem qagm (hn:Fu n) (k:Nat) (hk:k≤1000):qig n (k:Int)=some (idP k,()):=by
 have g:iterN (qif n) n ((k:Int),0,List.replicate k 0,())=some (.inl (idP k,())):=by
  refine q6v hn (fun i=>((k:Int),(i:Int),partP k (fun i=>(i:Int)) i,())) k (by omega) (by rw [q7x]; rfl) (fun i hi => ?_) ?_
  ·have e:=q7y (k:=k) (f:=fun i=>(i:Int)) hi
   simp (disch:=first | assumption | omega) only [zA,zB,zC,zD,zE,zF,zG,q69,q63,q64,zH,zI,dpos,dneg,zJ,zK,zL,zM,zN,zO,zP,qif,qie,q70,up1,e]
  ·simp (disch:=first | assumption | omega) only [zA,zB,zC,zD,zE,zF,zG,q69,q63,q64,zH,zI,dpos,dneg,zJ,zK,zL,zM,zN,zO,zP,qif,qie,q7z]; rfl
 simp (disch:=first | assumption | omega) only [zA,zB,zC,zD,zE,zF,zG,q69,q63,q64,zH,zI,dpos,dneg,zJ,zK,zL,zM,zN,zO,zP,qig,g]
def pa (k:Nat) (o q:List Int) (s:Nat):List Int:=tab k (fun j=>if j<s then rd q (rd o (j:Int)) else rd o (j:Int))
theorem qagn {k:Nat} {o q:List Int} (h:o.length=k):pa k o q 0=o:=by
 refine qacq (by unfold pa tab; simp [h]) (fun i hi => ?_)
 have hi:i<k:=by unfold pa tab at hi; simpa using hi
 unfold pa
 rw [q7m hi,if_neg (by omega)]
theorem qago {k:Nat} {o q:List Int} (h:o.length=k):pa k o q k=mulP o q:=by
 unfold pa mulP
 rw [h]
 exact q7h (fun j hj=>if_pos hj)
theorem qagp {k s:Nat} {o q:List Int} (h:s<k):(pa k o q s).set s (rd q (rd o (s:Int)))=pa k o q (s+1):=by
 unfold pa
 rw [q7g]
 refine q7h (fun j hj => ?_)
 by_cases e:j=s
 ·subst e
  rw [if_pos rfl,if_pos (by omega)]
 ·rw [if_neg e]
  by_cases h2:j<s
  ·rw [if_pos h2,if_pos (by omega)]
  ·rw [if_neg h2,if_neg (by omega)]
theorem qagq (hn:Fu n) {k:Nat} {o q:List Int} (ho:PK k o) (hq:PK k q) (x:List Bool) (p:PP) (hp:p.1=(k:Int)) (i:Int) :
 iterN (qii n) n (x,p,i,q,(0:Int),o,())=some (.inl (x,p,i,mulP o q,())):=by
 have hk:=ho.bd
 refine q6v hn (fun s=>(x,p,i,q,(s:Int),pa k o q s,())) k (by omega) (by rw [qagn ho.2]; rfl) (fun s hs => ?_) ?_
 ·obtain ⟨v,hv,e⟩:=ho.at hs
  have e1:idx (pa k o q s) (s:Int)=some (v:Int):=by
   unfold pa
   rw [q7k hs,if_neg (by omega),e]
  have e2:idx q (v:Int)=some (rd q (v:Int)):=q7c (by omega) (by rw [hq.2]; omega)
  have e3:=qagp (o:=o) (q:=q) hs
  rw [e] at e3
  unfold qii qih
  dsimp only
  rw [decide_eq_true (show (s:Int)<p.1 by omega),cond_true,e1]
  simp only [zA]
  rw [e2]
  simp only [zA]
  rw [up1 (by omega),Int.toNat_natCast,e3]
 ·unfold qii qih
  dsimp only
  rw [decide_eq_false (show ¬ (k:Int)<p.1 by omega),cond_false,qago ho.2]
def sel (ins:List PI) (x:List Bool) (i:Nat):List Int:=if bt x (pin ins i).1.toNat=true then (pin ins i).2.2.1 else (pin ins i).2.1
def prodL (k:Nat) (ins:List PI) (x:List Bool):Nat→List Int
 | 0=>idP k
 | i+1=>mulP (prodL k ins x i) (sel ins x i)
theorem qagr {k I:Nat} {p:PP} (h:Vp k I p) (x:List Bool) {i:Nat} (hi:i<p.2.2.1.length):PK k (sel p.2.2.1 x i):=by
 obtain ⟨a,_,_,h3,h4⟩:=h.at_ i hi
 unfold sel
 split
 ·exact h4
 ·exact h3
theorem qags {k I:Nat} {p:PP} (h:Vp k I p) (x:List Bool):∀ i,i≤p.2.2.1.length→PK k (prodL k p.2.2.1 x i)
 | 0,_=>(1:Pm k ⟨by have:=h.k1; omega,by have:=h.k1; omega⟩).2
 | i+1,hi=>(qags h x i (by omega)).mul (qagr h x (by omega))
theorem qagt (hn:Fu n) {k I:Nat} {p:PP} (h:Vp k I p) (hl:p.2.2.1.length≤20000) {x:List Bool} (hx:x.length=I):qil n p x=some (prodL k p.2.2.1 x p.2.2.1.length,()):=by
 have hk:=h.k1
 have e0:=qagm hn k (by omega)
 have g:iterN (qik n) n (x,p,(0:Int),idP k,())=some (.inl (prodL k p.2.2.1 x p.2.2.1.length,())):=by
  refine q6v hn (fun i=>(x,p,(i:Int),prodL k p.2.2.1 x i,())) p.2.2.1.length (by omega) rfl (fun i hi => ?_) ?_
  ·obtain ⟨a,ha,ea,h3,h4⟩:=h.at_ i hi
   have e:=qaes hi
   have es:=qagq hn (qags h x i (by omega)) (qagr h x hi) x p h.pk (i:Int)
   have eb:idx x (pin p.2.2.1 i).1=some (bt x a):=by rw [ea]; exact qaef (by omega)
   have hsel:sel p.2.2.1 x i=if bt x a=true then (pin p.2.2.1 i).2.2.1 else (pin p.2.2.1 i).2.1:=by unfold sel; rw [ea,Int.toNat_natCast]
   unfold qik qij
   dsimp only
   rw [decide_eq_true (show (i:Int)<(p.2.2.1.length:Int) by omega),cond_true,e]
   simp only [zA]
   rw [eb]
   simp only [zA]
   show Option.bind _ _=some (Sum.inl (x,p,((i+1:Nat):Int),mulP (prodL k p.2.2.1 x i) (sel p.2.2.1 x i),()))
   cases hb:bt x a with
   | true =>
    rw [hb,if_pos rfl] at hsel
    rw [hsel] at es ⊢
    simp only [cond_true,zA,zB]
    rw [es]
    simp only [zA,zB]
    rw [up1 (by omega)]
   | false =>
    rw [hb,if_neg (by decide)] at hsel
    rw [hsel] at es ⊢
    simp only [cond_false,zA,zB]
    rw [es]
    simp only [zA,zB]
    rw [up1 (by omega)]
  ·unfold qik qij
   dsimp only
   rw [decide_eq_false (by omega),cond_false]
 unfold qil
 rw [h.pk,e0]
 simp only [zA]
 rw [g]
 rfl
theorem qagu (hn:Fu n) {k I:Nat} {p:PP} (h:Vp k I p) (hl:p.2.2.1.length≤20000) {x:List Bool} (hx:x.length=I):∃ r:Int,qim n p x=some (r,())∧(r=1↔prodL k p.2.2.1 x p.2.2.1.length=p.2.2.2.1):=by
 have hk:=h.k1
 have e1:=qagt hn h hl hx
 have hP:=qags h x p.2.2.1.length (Nat.le_refl _)
 generalize prodL k p.2.2.1 x p.2.2.1.length=w at *
 have hw:w.length≤1000000000:=by rw [hP.2]; omega
 have e2:=qaeo hn w p.2.2.2.1 hw
 have e3:=q73 hn k (by omega)
 have e4:=qaeo hn w (idP k) hw
 unfold qim
 rw [e1]
 simp only [zA]
 rw [e2]
 simp only [zA]
 by_cases c:w=p.2.2.2.1
 ·refine ⟨1,?_,by simp [c]⟩
  rw [decide_eq_true c,cond_true]
 ·rw [decide_eq_false c,cond_false,h.pk,e3]
  simp only [zA]
  rw [e4]
  simp only [zA]
  by_cases d:w=idP k
  ·refine ⟨0,?_,by simp [c]⟩
   rw [decide_eq_true d,cond_true]
  ·refine ⟨-1,?_,by simp [c]⟩
   rw [decide_eq_false d,cond_false]
theorem qagv (l:List (List Int)):(tbl l).length=l.length:=qaea _ _
theorem ClL.tv {k:Nat} {l:List (List Int)} (h:ClL k l) (h2:l.length≤120):TV (tbl l):=qaec h.pos h2 (fun a b ha hb=>h.gf_lt ha hb)
theorem qagw {l:List (List Int)} {ins:List PI} {N i:Nat} (h:i<N):insAt (insT l ins N) i=((pin ins i).1,((ps l (pin ins i).2.1:Int),((ps l (pin ins i).2.2.1:Int),()))):=q7f h
theorem qagx {k I:Nat} (hk:1≤k∧k≤7) {p:PP} (h:Vp k I p):∀ i,i<(insT (gp k hk p) p.2.2.1 p.2.2.1.length).length→InsV (tbl (gp k hk p)).length I (insAt (insT (gp k hk p) p.2.2.1 p.2.2.1.length) i):=fun i hi=>by
 rw [qagh] at hi
 rw [qagw hi,qagv]
 obtain ⟨a,ha,ea,h3,h4⟩:=h.at_ i hi
 obtain ⟨h1,h2⟩:=gp_at hk h hi
 exact ⟨a,_,_,by rw [ea],ha,(qaf3 h1).1,(qaf3 h2).1⟩
theorem qagy {k I:Nat} (hk:1≤k∧k≤7) {p:PP} (h:Vp k I p) (x:List Bool):∀ i,i≤p.2.2.1.length→prodL k p.2.2.1 x i∈gp k hk p
 | 0,_=>qadt.2 (Cl.sub _).one
 | i+1,hi=>(qagc hk p).mul _ _ (qagy hk h x i (by omega)) (by
  obtain ⟨h1,h2⟩:=gp_at hk h (show i<p.2.2.1.length by omega)
  unfold sel
  split
  ·exact h2
  ·exact h1)
theorem qagz {k I:Nat} (hk:1≤k∧k≤7) {p:PP} (h:Vp k I p) (x:List Bool):∀ i,i≤p.2.2.1.length→pr (tbl (gp k hk p)) (insT (gp k hk p) p.2.2.1 p.2.2.1.length) x i=ps (gp k hk p) (prodL k p.2.2.1 x i)
 | 0,_=>(qagb (Cl.sub _)).symm
 | i+1,hi=>by
  have hC:=qagc hk p
  obtain ⟨h1,h2⟩:=gp_at hk h (show i<p.2.2.1.length by omega)
  have hp:=qagy hk h x i (by omega)
  obtain ⟨a1,a2⟩:=qaf3 hp
  have hs:sel p.2.2.1 x i∈gp k hk p:=by
   unfold sel
   split
   ·exact h2
   ·exact h1
  obtain ⟨b1,b2⟩:=qaf3 hs
  show mu _ (pr _ _ x i) (if bt x (insAt _ i).1.toNat=true then (insAt _ i).2.2.1.toNat else (insAt _ i).2.1.toNat)=ps _ (mulP (prodL k p.2.2.1 x i) (sel p.2.2.1 x i))
  rw [qagz hk h x i (by omega),qagw (show i<p.2.2.1.length by omega)]
  have e:(if bt x (pin p.2.2.1 i).1.toNat=true then ((ps (gp k hk p) (pin p.2.2.1 i).2.2.1:Nat):Int).toNat else ((ps (gp k hk p) (pin p.2.2.1 i).2.1:Nat):Int).toNat)=ps (gp k hk p) (sel p.2.2.1 x i):=by
   unfold sel
   split
   ·rw [Int.toNat_natCast]
   ·rw [Int.toNat_natCast]
  rw [e]
  unfold tbl
  rw [qaed a1 b1]
  unfold gf
  rw [a2,b2]
end Go.Proofs.YtibphkgcdnconaaGreat.V
namespace Go.Proofs.YtibphkgcdnconaaGreat.V
open Go Classical Grp
set_option linter.unusedVariables false
set_option linter.all false
variable {n:Nat}
theorem qag0 {l:List (List Int)} {a b:List Int} (ha:a∈l) (hb:b∈l) (e:ps l a=ps l b):a=b:=by
 have h1:=(qaf3 ha).2
 have h2:=(qaf3 hb).2
 rw [← h1,← h2,e]
theorem qag1 (hn:Fu n) {k I:Nat} (hk:1≤k∧k≤7) {p:PP} (h:Vp k I p) (hl:p.2.2.1.length≤20000) (hg:(gp k hk p).length≤120) {x:List Bool} (hx:x.length=I) :
 qid n (tbl (gp k hk p)) (outMP k hk p) x=some (decide (prodL k p.2.2.1 x p.2.2.1.length=p.2.2.2.1),()):=by
 have hC:=qagc hk p
 have e:=qaem hn (hC.tv hg) (ins:=insT (gp k hk p) p.2.2.1 p.2.2.1.length) (x:=x) (by rw [qagh]; omega) (by rw [hx]; exact qagx hk h) p.2.1 [(ps (gp k hk p) p.2.2.2.1:Int)] (by simp)
 unfold outMP
 rw [e,qagh,qagz hk h x _ (Nat.le_refl _)]
 have:((ps (gp k hk p) (prodL k p.2.2.1 x p.2.2.1.length):Nat):Int)∈[((ps (gp k hk p) p.2.2.2.1:Nat):Int)]↔prodL k p.2.2.1 x p.2.2.1.length=p.2.2.2.1:=by
  rw [List.mem_singleton]
  exact ⟨fun e=>qag0 (qagy hk h x _ (Nat.le_refl _)) (gp_y hk h) (by omega),fun e=>by rw [e]⟩
 simp only [this]
theorem qag2 (hn:Fu n) {k I:Nat} (hk:1≤k∧k≤7) {p:PP} (h:Vp k I p) (hl:p.2.2.1.length≤20000) (hg:(gp k hk p).length≤120) (at1:List Int) (M:Nat) (hM:M≤1099511627776) (all:Bool) (ha:all=true∨M≤at1.length) :
 iterN (qio n) n (at1,p,tbl (gp k hk p),(M:Int),all,(0:Int),outMP k hk p,())=some (.inr (.inl ())):=by
 have hI:=h.i16
 refine q6v hn (fun i=>(at1,p,tbl (gp k hk p),(M:Int),all,(i:Int),outMP k hk p,())) M (by omega) rfl (fun i hi => ?_) ?_
 ·have key:∀ K:Int,∃ b r,qh6 n K p.2.1=some (b,())∧qid n (tbl (gp k hk p)) (outMP k hk p) b=some (decide (r=(1:Int)),())∧qim n p b=some (r,()):=fun K=>by
   have e1:=qab3 hn K I (by omega)
   obtain ⟨r,e2,e3⟩:=qagu hn h hl (qaeh K I)
   have e4:=qag1 hn hk h hl hg (qaeh K I)
   refine ⟨_,r,by rw [h.pi]; exact e1,?_,e2⟩
   rw [e4]
   simp only [e3]
  have fin : ∀ K : Int, ((some (.inl (at1, p, tbl (gp k hk p), (M : Int), all, (i : Int), K, outMP k hk p, ())) : Option ((List Int × PP × List (List Int) × Int × Bool × Int × Int × MPg × Unit) ⊕ Empty)).bind (Sum.elim (fun d149 =>
          (qh6 n d149.2.2.2.2.2.2.1 d149.2.1.2.1).bind fun r150 =>
          (qid n d149.2.2.1 d149.2.2.2.2.2.2.2.1 r150.1).bind fun r151 =>
          (qim n d149.2.1 r150.1).bind fun r152 =>
          bif (!(r151.1 == (decide (r152.1=(1:Int))))) then
          (some (.inr (.inl (false,()))))
          else
          (some (.inl (d149.1,d149.2.1,d149.2.2.1,d149.2.2.2.1,d149.2.2.2.2.1,(IntKind.i64.wrap (d149.2.2.2.2.2.1+(1:Int))),d149.2.2.2.2.2.2.2.1,())))) nof):Option ((List Int × PP × List (List Int) × Int × Bool × Int × MPg × Unit) ⊕ ((Bool × Unit) ⊕ (Unit ⊕ Empty))))=some (.inl (at1,p,tbl (gp k hk p),(M:Int),all,((i+1:Nat):Int),outMP k hk p,())):=fun K=>by
   obtain ⟨b,r,e1,e2,e3⟩:=key K
   simp only [zA,zB]
   rw [e1]
   simp only [zA]
   rw [e2]
   simp only [zA]
   rw [e3]
   simp only [zA,beq_self_eq_true,Bool.not_true,cond_false]
   rw [up1 (by omega)]
  unfold qio qin
  dsimp only
  rw [decide_eq_true (show (i:Int)<(M:Int) by omega),cond_true]
  cases all with
  | true =>
   simp only [Bool.not_true,cond_false]
   exact fin (i:Int)
  | false =>
   have hat:M≤at1.length:=ha.elim (fun e=>by cases e) id
   simp only [Bool.not_false,cond_true]
   rw [q7c (i:=(i:Int)) (by omega) (by omega)]
   simp only [zA]
   exact fin _
 ·unfold qio qin
  dsimp only
  rw [decide_eq_false (by omega),cond_false]
theorem qag3 (hn:Fu n) {k I:Nat} (hk:1≤k∧k≤7) {p:PP} (h:Vp k I p) (hl:p.2.2.1.length≤20000) (at1:List Int) (m:List (List Int)) :
 iterN (qis n) n (at1,p,gp k hk p,m,(0:Int),outMP k hk p,())=some (.inr (.inl (at1,p,m,outMP k hk p,()))):=by
 have hC:=qagc hk p
 refine q6v hn (fun i=>(at1,p,gp k hk p,m,(i:Int),outMP k hk p,())) p.2.2.1.length (by omega) rfl (fun i hi => ?_) ?_
 ·have e:=qaes hi
  obtain ⟨h1,h2⟩:=gp_at hk h hi
  obtain ⟨a1,a2⟩:=qaf3 h1
  obtain ⟨b1,b2⟩:=qaf3 h2
  have eo:idx (outMP k hk p).2.1 (i:Int)=some ((pin p.2.2.1 i).1,((ps (gp k hk p) (pin p.2.2.1 i).2.1:Int),((ps (gp k hk p) (pin p.2.2.1 i).2.2.1:Int),()))):=by
   show idx (insT _ _ _) _=_
   unfold insT
   exact q7k hi
  have r1:idx (gp k hk p) (ps (gp k hk p) (pin p.2.2.1 i).2.1:Int)=some (pin p.2.2.1 i).2.1:=by rw [q7b a1,a2]
  have r2:idx (gp k hk p) (ps (gp k hk p) (pin p.2.2.1 i).2.2.1:Int)=some (pin p.2.2.1 i).2.2.1:=by rw [q7b b1,b2]
  have hx:=h.k1
  have s1:=qaeo hn (pin p.2.2.1 i).2.1 (pin p.2.2.1 i).2.1 (by rw [(hC.pk _ h1).2]; omega)
  have s2:=qaeo hn (pin p.2.2.1 i).2.2.1 (pin p.2.2.1 i).2.2.1 (by rw [(hC.pk _ h2).2]; omega)
  rw [decide_eq_true rfl] at s1 s2
  unfold qis qir
  dsimp only
  rw [decide_eq_true (show (i:Int)<(p.2.2.1.length:Int) by omega),cond_true,eo,e]
  simp only [zA,decide_true,Bool.not_true,cond_false]
  rw [r1]
  simp only [zA]
  rw [s1]
  simp only [zA,Bool.not_true,cond_false]
  rw [r2]
  simp only [zA]
  rw [s2]
  simp only [zA,zB,Bool.not_true,cond_false]
  rw [up1 (by omega)]
 ·unfold qis qir
  dsimp only
  rw [decide_eq_false (by omega),cond_false]
end Go.Proofs.YtibphkgcdnconaaGreat.V
namespace Go.Proofs.YtibphkgcdnconaaGreat.V
open Go Classical Grp
set_option linter.unusedVariables false
set_option linter.all false
variable {n:Nat}
noncomputable def allX (p:PP):Bool:=decide ((IntKind.i64.wrap ((IntKind.i64.wrap ((1:Int)*2 ^ (min (p.2.1).toNat IntKind.i64.bits)))*(IntKind.i64.wrap ((2:Int)+(IntKind.i64.wrap ((2:Int)*(p.2.2.1.length:Int)))))))≤(300000:Int))
theorem qag4 {I:Nat} (h:I≤16):IntKind.i64.wrap ((1:Int)*2 ^ (min ((I:Int)).toNat IntKind.i64.bits))=((2 ^ I:Nat):Int):=by
 have h2:(2:Nat) ^ I≤2 ^ 16:=Nat.pow_le_pow_right (by omega) h
 have h3:(2:Nat) ^ 16=65536:=by decide
 rw [Int.toNat_natCast,show IntKind.i64.bits=64 from rfl,Nat.min_eq_left (by omega),Int.one_mul]
 have e:(2:Int) ^ I=((2 ^ I:Nat):Int):=by simp
 rw [e]
 generalize (2:Nat) ^ I=v at h2 ⊢
 exact q62 (by omega) (by omega)
set_option maxHeartbeats 2000000 in
theorem qag5 (hn:Fw n) (p:PP) (at1:List Int) (hp:LnPP p):qit n p at1=some (true,()):=by
 have aw:=qaen hn.fu
 rcases qae5 hn.fu p hp with w | ⟨w,hw⟩
 ·simp (disch:=first | assumption | omega) only [zA,zB,zC,zD,zE,zF,zG,q69,q63,q64,zH,zI,dpos,dneg,zJ,zK,zL,zM,zN,zO,zP,qit,w,aw]
 have hN:=nar9 hw
 by_cases c1:3000<p.2.2.1.length
 ·simp (disch:=first | assumption | omega) only [zA,zB,zC,zD,zE,zF,zG,q69,q63,q64,zH,zI,dpos,dneg,zJ,zK,zL,zM,zN,zO,zP,qit,w,aw]
 by_cases c2:100<at1.length
 ·simp (disch:=first | assumption | omega) only [zA,zB,zC,zD,zE,zF,zG,q69,q63,q64,zH,zI,dpos,dneg,zJ,zK,zL,zM,zN,zO,zP,qit,w,aw]
 have hl:p.2.2.1.length≤20000:=hN.a
 have ecp:=qae6 hn.fu p hN
 have ev:=qaex hn.fu p
 by_cases hv:VProg p
 ·rw [decide_eq_true hv] at ev
  obtain ⟨k,hkk⟩:∃ k,k=p.1.toNat:=⟨_,rfl⟩
  obtain ⟨I,hII⟩:∃ I,I=p.2.1.toNat:=⟨_,rfl⟩
  have h:Vp k I p:=by rw [hkk,hII]; exact hv.vp
  have hk:1≤k∧k≤7:=by have:=h.k1; omega
  have hP:∀ i,i<p.2.2.1.length→PK k (pin p.2.2.1 i).2.1∧PK k (pin p.2.2.1 i).2.2.1:=fun i hi=>by obtain ⟨a,_,_,h3,h4⟩:=h.at_ i hi; exact ⟨h3,h4⟩
  rcases qafv hn.fu p at1 0 hl h.y hP with g | g
  ·simp (disch:=first | assumption | omega) only [zA,zB,zC,zD,zE,zF,zG,q69,q63,q64,zH,zI,dpos,dneg,zJ,zK,zL,zM,zN,zO,zP,qit,w,ev,g]
  have ec:=qagf hn.fu hk h hl
  have ef:=qagk hn hv hl hk h
  have hC:=qagc hk p
  by_cases c3:120<(gp k hk p).length
  ·rw [if_pos c3] at ef
   simp (disch:=first | assumption | omega) only [zA,zB,zC,zD,zE,zF,zG,q69,q63,q64,zH,zI,dpos,dneg,zJ,zK,zL,zM,zN,zO,zP,qit,w,ev,g,ec,ecp,ef,qhm,zMP,aw]
  ·rw [if_neg c3] at ef
   have et:=qaf9 hn.fu hC
   have htl:=qagv (gp k hk p)
   have es:=qaee hn.fu (tbl (gp k hk p)) (by rw [htl]; omega) (fun u hu=>by rw [(hC.tv (by omega)).len hu,htl]; omega)
   have hy:=gp_y hk h
   obtain ⟨y1,y2⟩:=qaf3 hy
   have evp:=qagl hn.fu (m:=tbl (gp k hk p)) (ins:=insT (gp k hk p) p.2.2.1 p.2.2.1.length) (by rw [qagh]; omega) h.i16 (qagx hk h) (y:=ps (gp k hk p) p.2.2.2.1) (by rw [htl]; exact y1)
   rw [← h.pi] at evp
   have eo:outMP k hk p=(p.2.1,(insT (gp k hk p) p.2.2.1 p.2.2.1.length,([(ps (gp k hk p) p.2.2.2.1:Int)],()))):=rfl
   rw [← eo] at evp
   have o1:(outMP k hk p).1=p.2.1:=rfl
   have o2:(outMP k hk p).2.1.length=p.2.2.1.length:=qagh _ _ _
   have o3:(outMP k hk p).2.2.1=[(ps (gp k hk p) p.2.2.2.1:Int)]:=rfl
   have i1:idx [(ps (gp k hk p) p.2.2.2.1:Int)] 0=some (ps (gp k hk p) p.2.2.2.1:Int):=rfl
   have i2:idx (gp k hk p) (ps (gp k hk p) p.2.2.2.1:Int)=some p.2.2.2.1:=by rw [q7b y1,y2]
   have hx:=h.k1
   have s1:=qaeo hn.fu p.2.2.2.1 p.2.2.2.1 (by rw [(hC.pk _ hy).2]; omega)
   rw [decide_eq_true rfl] at s1
   have g1:=qag3 hn.fu hk h hl at1 (tbl (gp k hk p))
   have hI:=h.i16
   have hpi:¬ p.2.1<0:=by rw [h.pi]; omega
   have hm:=qag4 hI
   rw [← h.pi] at hm
   have h2:(2:Nat) ^ I≤2 ^ 16:=Nat.pow_le_pow_right (by omega) hI
   have h3:(2:Nat) ^ 16=65536:=by decide
   have g2:=qag2 hn.fu hk h hl (by omega) at1 (2 ^ I) (by omega) true (.inl rfl)
   have hmin:(if (8:Int)<(at1.length:Int) then (8:Int) else (at1.length:Int))=((min 8 at1.length:Nat):Int):=by
    split
    ·omega
    ·omega
   have g3:=qag2 hn.fu hk h hl (by omega) at1 (min 8 at1.length) (by omega) false (.inr (by omega))
   have hX:decide ((IntKind.i64.wrap ((IntKind.i64.wrap ((1:Int)*2 ^ (min (p.2.1).toNat IntKind.i64.bits)))*(IntKind.i64.wrap ((2:Int)+(IntKind.i64.wrap ((2:Int)*(p.2.2.1.length:Int)))))))≤(300000:Int))=allX p:=rfl
   generalize gp k hk p=l at *
   generalize outMP k hk p=o at *
   generalize tbl l=m at *
   unfold qit
   rw [w]
   simp only [zA,cond_false]
   rw [decide_eq_false (show ¬ (3000:Int)<(p.2.2.1.length:Int) by omega),decide_eq_false (show ¬ (100:Int)<(at1.length:Int) by omega)]
   simp only [zA,zB,cond_false]
   rw [ev]
   simp only [zA,Bool.not_true,cond_false]
   rw [g]
   simp only [zA,zB,zC]
   rw [ec]
   simp only [zA]
   rw [decide_eq_false (show ¬ (120:Int)<(l.length:Int) by omega)]
   simp only [zA,zB,cond_false]
   rw [ecp]
   simp only [zA]
   rw [ef]
   simp only [zA,decide_true,Bool.not_true,cond_false]
   rw [et]
   simp only [zA]
   rw [es]
   simp only [zA,Bool.not_true,cond_false]
   rw [evp]
   simp only [zA,Bool.not_true,cond_false,o1,decide_true,o2,o3,i1,i2]
   rw [decide_eq_true (show (([(ps l p.2.2.2.1:Int)]:List Int).length:Int)=1 from rfl)]
   simp only [Bool.not_true,cond_false]
   rw [s1]
   simp only [zA,zB,Bool.not_true,cond_false]
   rw [g1]
   simp only [zA,zB,zC]
   rw [decide_eq_false hpi,hX]
   simp only [cond_false]
   cases hb:allX p with
   | true =>
    simp only [cond_true,zA,zB]
    rw [hm,g2]
    simp only [zA,zB,zC]
    rw [aw]
    rfl
   | false =>
    simp only [cond_false,zA,zB]
    rw [hmin,g3]
    simp only [zA,zB,zC]
    rw [aw]
    rfl
 ·rw [decide_eq_false hv] at ev
  have ef:=qagj hn.fu hv
  simp (disch:=first | assumption | omega) only [zA,zB,zC,zD,zE,zF,zG,q69,q63,q64,zH,zI,dpos,dneg,zJ,zK,zL,zM,zN,zO,zP,qit,w,ev,ecp,ef,qhm,zMP,aw]
def TyPP:Ty:=.pair (.int .i64) (.pair (.int .i64) (.pair (.sl (.pair (.int .i64) (.pair (.sl (.int .i64)) (.pair (.sl (.int .i64)) .unit)))) (.pair (.sl (.int .i64)) .unit)))
theorem qag6 {p:PP} (h:Wf TyPP p):LnPP p:=⟨h.2.2.1.1,h.2.2.2.1.1,fun i hi=>by
 have:=h.2.2.1.2 _ (qaet hi)
 exact ⟨this.2.1.1,this.2.2.1.1⟩⟩
theorem qag7 (p:PP) (at1:List Int) (h:Wf TyPP p):∃ n,qit n p at1=some (true,()):=⟨1180591620717411303424+1099511627776,qag5 (by unfold Fw; omega) p at1 (qag6 h)⟩
end Go.Proofs.YtibphkgcdnconaaGreat.V
