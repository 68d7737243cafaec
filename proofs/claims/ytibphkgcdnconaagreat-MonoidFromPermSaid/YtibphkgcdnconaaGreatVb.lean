/- The machine over typed values,part 2. -/
import Derived.Laws.StructEq
import Derived.Laws.Pointers
import Derived.Test.YtibphkgcdnconaaGreatVa
import Derived.Laws.Append
import Derived.Laws.AppendOwn
import Derived.Below
import Derived.Carry
import Derived.WideKeyRuns
namespace Go.Proofs.YtibphkgcdnconaaGreat.V
open Go
set_option linter.unusedVariables false
set_option linter.all false
section
variable {E:Env} {o:Oper} {a:Act} {w:World} {Z:Bs} {sl:Nat→Option Slot} {hdr:Nat→Value} {fp:Nat→Bs} {mv:MV}
def EqOK (E:Env) (d:Nat) (e:TypeId) (t:Ty):Prop:=∀ (Z:Bs) (w:World) (m m':Mk) (x y:t.den) (f g:Bs) (c1 c2:List Value),Rep Z w t m x f c1→Rep Z w t m' y g c2→(Op.equalIn d e (t.val c1) (t.val c2)).run E.P w=.ok (eqV t x y) w
theorem eqFields_ok {d:Nat} (hE:TTok E):∀ {fs:List Field} {t:Ty} {off:Nat},Fields E.tt fs t off→(∀ f∈fs,f.name ≠ "_"∧∀ t n,E.tt f.type=some (t,n)→EqOK E d f.type t) →
 ∀ (Z:Bs) (w:World) (m m':Mk) (x y:t.den) (f g:Bs) (c1 c2 p1 p2:List Value),p1.length=off→p2.length=off→Rep Z w t m x f c1→Rep Z w t m' y g c2→(Op.eqFields d (p1++c1).toArray (p2++c2).toArray fs).run E.P w=.ok (eqV t x y) w
 | [],t,off,h,_=>by
  cases t with
  | unit=>intro Z w m m' x y f g c1 c2 p1 p2 _ _ _ _; rfl
  | _=>cases h
 | f0 :: fs,t,off,h,hq=>by
  cases t with
  | pair ta tb =>
   obtain ⟨h1,⟨n,h2⟩,h3⟩:=h
   intro Z w m m' x y f g c1 c2 p1 p2 l1 l2 r1 r2
   obtain ⟨ca,cb,f1,f2,rfl,ra,rb,_⟩:=r1
   obtain ⟨da,db,g1,g2,rfl,sa,sb,_⟩:=r2
   obtain ⟨hname,he⟩:=hq f0 (by simp)
   have hT:=hE _ _ _ h2
   have part1:∀ {p ca cb:List Value} {m:Mk} {x:ta.den} {f:Bs},p.length=off→Rep Z w ta m x f ca→(part f0.type (p++(ca++cb)).toArray f0.offset).run E.P w=.ok (ta.val ca) w:=by
    intro p ca cb m x f hp hr
    have:=run_part_ (E:=E) (w:=w) hT (cs:=p++(ca++cb)) (off:=off) (by simp [hp,hr.len])
    rw [h1,this]
    rw [← hp,List.drop_left,← hr.len,List.take_left]
   simp only [Op.eqFields,if_pos hname,Sem.run_bind,part1 l1 ra,part1 l2 sa,Result.andThen_ok,he _ _ h2 _ _ _ _ _ _ _ _ _ _ ra sa]
   have ih:=eqFields_ok hE h3 (fun f hf=>hq f (by simp [hf])) _ _ _ _ _ _ _ _ _ _ (p1++ca) (p2++da) (by simp [l1,ra.len]) (by simp [l2,sa.len]) rb sb
   rw [List.append_assoc,List.append_assoc] at ih
   show _=Result.ok (eqV ta x.1 y.1 && eqV tb x.2 y.2) w
   cases hb:eqV ta x.1 y.1 with
   | false=>simp
   | true=>simp only [Bool.not_true,Bool.false_eq_true,if_false,Bool.true_and]; exact ih
  | _=>cases h
theorem fieldsOf_eq {P:Program} {e:TypeId} {fs:Array Field} (h:P.underlying e=some (.struct fs)):P.fieldsOf e=fs:=by simp [Program.fieldsOf,h]
theorem equalIn_ok (hE:TTok E):∀ (n:Nat) {e:TypeId} {t:Ty} {nb:Nat} (d:Nat),E.tt e=some (t,nb)→eqT E n e=true→n≤d→EqOK E d e t
 | 0,_,_,_,_,_,h,_=>by cases h
 | n+1,e,t,nb,0,_,_,h=>absurd h (Nat.not_succ_le_zero _)
 | n+1,e,t,nb,d+1,ht,hq,hd=>by
  have hT:=hE _ _ _ ht
  have hdesc:=hT.desc
  simp only [eqT,ht] at hq
  have st:∀ {t:Ty},t.agg=true→E.tt e=some (t,nb)→(∃ fs,E.P.underlying e=some (.struct fs)∧Fields E.tt fs.toList t 0)→(match E.P.underlying e with
   | some (.struct fs) => !E.P.stoodInHeld e && fs.toList.all (fun f=>f.name != "_" && eqT E n f.type)
   | _=>false)=true→EqOK E (d+1) e t:=by
   intro t hag ht ⟨fs,hu,hf⟩ hq
   rw [hu] at hq
   simp only [Bool.and_eq_true,Bool.not_eq_true',List.all_eq_true,bne_iff_ne,ne_eq] at hq
   intro Z w m m' x y f g c1 c2 r1 r2
   have key:=eqFields_ok hE hf (fun f hf=>⟨(hq.2 f hf).1,fun t n' htt=>equalIn_ok hE n d htt (hq.2 f hf).2 (Nat.le_of_succ_le_succ hd)⟩) _ _ _ _ _ _ _ _ _ _ [] [] rfl rfl r1 r2
   have hfs:=fieldsOf_eq hu
   simp only [Ty.val,hag,cond_true]
   rw [run_equalIn_struct w d e c1.toArray c2.toArray (by rw [hfs]; exact hu) hq.1,hfs]
   exact key
  cases t with
  | bool =>
   intro Z w m m' x y f g c1 c2 r1 r2
   rw [show c1=[.bool x] from r1,show c2=[.bool y] from r2]
   exact run_equalIn_bool w d e x y hdesc
  | int k =>
   intro Z w m m' x y f g c1 c2 r1 r2
   rw [show c1=[.int k x] from r1,show c2=[.int k y] from r2]
   have:=run_equalIn_int w d e k k x y hdesc
   rw [int_beq] at this
   exact this
  | str =>
   intro Z w m m' x y f g c1 c2 r1 r2
   rw [show c1=[.string x] from r1,show c2=[.string y] from r2]
   exact run_equalIn_string w d e x y hdesc
  | unit=>exact st rfl ht hdesc hq
  | pair ta tb=>exact st rfl ht hdesc hq
  | arr l t =>
   obtain ⟨el,n2,hu,hel⟩:=hdesc
   rw [hu] at hq
   simp only at hq
   have ih:=equalIn_ok hE n d hel hq (Nat.le_of_succ_le_succ hd)
   have hTe:=hE _ _ _ hel
   intro Z w m m' xs ys f g c1 c2 r1 r2
   obtain ⟨hl1,i1⟩:=r1
   obtain ⟨hl2,i2⟩:=r2
   simp only [Ty.val,Ty.agg,cond_true,Op.equalIn,Sem.run_bind,run_underlying hu,Result.andThen_ok,hTe.size w]
   have loop:∀ (F:Option Bool × Unit→Sem Bool),F (none,())=pure true→(∀ b,F (some b,())=pure b)→∀ (k:Nat) (xs ys:List t.den) (f g:Bs) (p1 c1 p2 c2:List Value),xs.length=k→ys.length=k→p1.length=(l-k)*t.size→p2.length=(l-k)*t.size→k≤l→Inline (fun x f c=>Rep Z w t m x f c) xs f c1→Inline (fun x f c=>Rep Z w t m' x f c) ys g c2 →
    Sem.run E.P (do
     let r ← forIn (m:=Sem) (List.range' (l-k) k) ((none,()):Option Bool × Unit) (fun i r=>do
      let u ← part el (p1++c1).toArray (i*t.size)
      let v ← part el (p2++c2).toArray (i*t.size)
      let b ← Op.equalIn d el u v
      if (!b)=true then pure (ForInStep.done (some false,())) else pure (ForInStep.yield (none,())))
     F r) w=.ok (xs.zip ys |>.all fun p=>eqV t p.1 p.2) w:=by
    intro F hF1 hF2 k
    induction k with
    | zero =>
     intro xs ys f g p1 c1 p2 c2 h1 h2 _ _ _ _ _
     obtain rfl:=List.length_eq_zero_iff.1 h1
     simp [hF1]
    | succ k ih2 =>
     intro xs ys f g p1 c1 p2 c2 h1 h2 q1 q2 hk j1 j2
     cases xs with
     | nil=>simp at h1
     | cons x xs =>
      cases ys with
      | nil=>simp at h2
      | cons y ys =>
       obtain ⟨ca,cb,f1,f2,rfl,ra,rb,_⟩:=j1
       obtain ⟨da,db,g1,g2,rfl,sa,sb,_⟩:=j2
       have hidx:(l-(k+1))+1=l-k:=by omega
       have part1:∀ {p ca cb:List Value} {m:Mk} {x:t.den} {f:Bs},p.length=(l-(k+1))*t.size→Rep Z w t m x f ca→(part el (p++(ca++cb)).toArray ((l-(k+1))*t.size)).run E.P w=.ok (t.val ca) w:=by
        intro p ca cb m x f hp hr
        have:=run_part_ (E:=E) (w:=w) hTe (cs:=p++(ca++cb)) (off:=(l-(k+1))*t.size) (by simp [hp,hr.len])
        rw [this,← hp,List.drop_left,← hr.len,List.take_left]
       rw [List.range'_succ,List.forIn_cons]
       simp only [Sem.run_bind,part1 q1 ra,part1 q2 sa,Result.andThen_ok,ih _ _ _ _ _ _ _ _ _ _ ra sa]
       simp only [List.zip_cons_cons,List.all_cons]
       cases hb:eqV t x y with
       | false=>simp [hF2]
       | true =>
        simp only [Bool.not_true,Bool.false_eq_true,if_false,Sem.run_pure,Result.andThen_ok,Bool.true_and]
        have hp:∀ {p ca:List Value} {m:Mk} {x:t.den} {f:Bs},p.length=(l-(k+1))*t.size→Rep Z w t m x f ca→(p++ca).length=(l-k)*t.size:=by
         intro p ca m x f hp hr
         rw [List.length_append,hp,hr.len,← hidx,Nat.succ_mul]
        have:=ih2 xs ys f2 g2 (p1++ca) cb (p2++da) db (by simpa using h1) (by simpa using h2) (hp q1 ra) (hp q2 sa) (by omega) rb sb
        rw [List.append_assoc,List.append_assoc] at this
        rw [hidx]
        simpa only [Sem.run_bind] using this
   simp only [Std.Legacy.Range.forIn_eq_forIn_range',Std.Legacy.Range.size,Nat.sub_zero,Nat.add_one_sub_one,Nat.div_one]
   have this:=fun F h1 h2=>loop F h1 h2 l xs ys f g [] c1 [] c2 hl1 hl2 (by simp) (by simp) (Nat.le_refl _) i1 i2
   simp only [Nat.sub_self,List.nil_append,Sem.run_bind] at this
   exact this _ rfl (fun _=>rfl)
  | sl t=>cases hq
  | mp k v=>cases hq
  | ex k a b=>cases hq
theorem eqK_ok (hE:TTok E) {op:BinOp} {xt yt:TypeId} {x y:Operand} {m1 m2:MV} {us:Ups} (H:HR Z w sl hdr fp) (ho:o.op=.binOp op xt x y yt) (hx:RelV Z w sl hdr fp m1 (a.eval x)) (hy:RelV Z w sl hdr fp m2 (a.eval y))
 (h:eqK E xt op m1 m2 (fun m u=>some (m,u))=some (mv,us)):OpOK E o a w Z sl hdr fp mv (us.look sl):=by
 unfold eqK at h
 split at h
 ·rename_i a1 b1 u t' v
  obtain ⟨hb,h⟩:=cond_some h
  simp only [Bool.and_eq_true,Bool.not_eq_true'] at hb
  obtain ⟨⟨hb1,hb2⟩,hb3⟩:=hb
  split at h
  ·rename_i e
   subst e
   have ht:∃ nb,E.tt xt=some (.pair a1 b1,nb):=by
    split at hb1
    ·rename_i t n e; obtain rfl:=of_decide_eq_true hb1; exact ⟨n,e⟩
    ·cases hb1
   obtain ⟨nb,ht⟩:=ht
   have hq:=equalIn_ok hE 100 10000 ht hb2 (by decide)
   rcases hx with hx | ⟨c1,r1,e1⟩
   ·cases hx
   rcases hy with hy | ⟨c2,r2,e2⟩
   ·cases hy
   have hr:=hq _ _ _ _ _ _ _ _ _ _ r1 r2
   have e1:a.eval x=.agg c1.toArray:=e1
   have e2:a.eval y=.agg c2.toArray:=e2
   have hr:(Op.equalIn 10000 xt (.agg c1.toArray) (.agg c2.toArray)).run E.P w=.ok (eqV (.pair a1 b1) u v) w:=hr
   have key:∀ v,(do eqGuard op xt x y (a.eval x) (a.eval y); binOp op xt (a.eval x) (a.eval y):Sem Value).run E.P w=.ok v w→(execOp a.eval o).run E.P w=.ok (.value v) w:=by
    intro v hv
    unfold execOp
    rw [ho]
    simp only [Sem.run_bind] at hv ⊢
    rw [hv]; rfl
   split at h
   ·simp only [Option.some.injEq,Prod.mk.injEq] at h
    obtain ⟨rfl,rfl⟩:=h
    refine .same H (key (.bool (eqV (.pair a1 b1) u v)) ?_) (relV_bool _)
    rw [e1,e2]
    simp only [Sem.run_bind,run_eqGuard_agg w _ _ _ _ _ _ hb3,Result.andThen_ok,run_eql_struct,hr]
   ·simp only [Option.some.injEq,Prod.mk.injEq] at h
    obtain ⟨rfl,rfl⟩:=h
    refine .same H (key (.bool (!eqV (.pair a1 b1) u v)) ?_) (relV_bool _)
    rw [e1,e2]
    simp only [Sem.run_bind,run_eqGuard_agg w _ _ _ _ _ _ hb3,Result.andThen_ok,run_neq_struct,hr]
   ·cases h
  ·cases h
 ·rename_i a1 b1 u a2 b2 v
  obtain ⟨hb,h⟩:=cond_some h
  obtain ⟨nb,hT⟩:=tyB_ok hE hb
  obtain ⟨el,n2,hu,_⟩:=hT.desc
  have key:∀ v,(do eqGuard op xt x y (a.eval x) (a.eval y); binOp op xt (a.eval x) (a.eval y):Sem Value).run E.P w=.ok v w→(execOp a.eval o).run E.P w=.ok (.value v) w:=by
   intro v hv
   unfold execOp
   rw [ho]
   simp only [Sem.run_bind] at hv ⊢
   rw [hv]; rfl
  split at h
  ·rename_i ev
   rcases hy with hy | ⟨c2,r2,e2⟩
   ·cases hy
   have hy:a.eval y=.pointer none:=by
    rcases r2 with ⟨_,r2⟩ | ⟨_,_,_,_,r2,_⟩
    ·rw [e2,r2]; rfl
    ·cases r2
   have hx:∃ q:Option Addr,a.eval x=.pointer q∧(q.isNone=Option.isNone u):=by
    rcases hx with hx | ⟨c1,r1,e1⟩
    ·cases hx
    rcases r1 with ⟨r0,r1⟩ | ⟨v0,b0,o0,ks,r0,r1,_⟩
    ·exact ⟨none,by rw [e1,r1]; rfl,by rw [r0]; rfl⟩
    ·exact ⟨some ⟨b0,o0,none⟩,by rw [e1,r1]; rfl,by rw [r0]; rfl⟩
   obtain ⟨q,hq1,hq2⟩:=hx
   have hg:∀ op,(eqGuard op xt x y (.pointer q) (.pointer none)).run E.P w=.ok () w:=by intro op; cases op <;> rfl
   have hpp:E.P.underlying xt=some (.pointer (E.P.pointee xt)):=by simp [Program.pointee,hu]
   split at h
   ·simp only [Option.some.injEq,Prod.mk.injEq] at h
    obtain ⟨rfl,rfl⟩:=h
    refine .same H (key (.bool (Option.isNone u)) ?_) (relV_bool _)
    rw [hq1,hy]
    simp only [Sem.run_bind,hg,Result.andThen_ok,run_eql_pointer_nil w xt q hpp,hq2]
   ·simp only [Option.some.injEq,Prod.mk.injEq] at h
    obtain ⟨rfl,rfl⟩:=h
    refine .same H (key (.bool (!Option.isNone u)) ?_) (relV_bool _)
    rw [hq1,hy]
    simp only [Sem.run_bind,hg,Result.andThen_ok,run_neq_pointer_nil w xt q hpp,hq2]
   ·cases h
  ·cases h
 ·exact bin_ok hE H ho hx hy h
theorem run_equalIn_nil_ {P:Program} {w:World} {t e:TypeId} {A:Option Addr} {l c:Nat} (d:Nat) (h:P.underlying t=some (.slice e)):(Op.equalIn (d+1) t (.slice A l c) (.slice none 0 0)).run P w=.ok A.isNone w:=by
 cases A <;> simp [Op.equalIn,run_underlying h]
theorem run_equal_nil_ {P:Program} {w:World} {t e:TypeId} {A:Option Addr} {l c:Nat} (h:P.underlying t=some (.slice e)):(Op.equal t (.slice A l c) (.slice none 0 0)).run P w=.ok A.isNone w:=run_equalIn_nil_ 9999 h
theorem run_eql_nil_ {P:Program} {w:World} {t e:TypeId} {A:Option Addr} {l c:Nat} (h:P.underlying t=some (.slice e)):(binOp .eql t (.slice A l c) (.slice none 0 0)).run P w=.ok (.bool A.isNone) w:=by
 simp only [binOp]
 simp [run_equal_nil_ h]
theorem run_neq_nil_ {P:Program} {w:World} {t e:TypeId} {A:Option Addr} {l c:Nat} (h:P.underlying t=some (.slice e)):(binOp .neq t (.slice A l c) (.slice none 0 0)).run P w=.ok (.bool (!A.isNone)) w:=by
 simp only [binOp]
 simp [run_equal_nil_ h]
theorem nilK_ok (hE:TTok E) {op:BinOp} {xt yt:TypeId} {x y:Operand} {m1:MV} {us:Ups} (H:HR Z w sl hdr fp) (ho:o.op=.binOp op xt x y yt) (hx:RelV Z w sl hdr fp m1 (a.eval x)) (hy:isNilC y=true)
 (h:nilK E xt op m1 (fun m u=>some (m,u))=some (mv,us)):OpOK E o a w Z sl hdr fp mv (us.look sl):=by
 have hye:a.eval y=.slice none 0 0:=by
  unfold isNilC at hy
  split at hy
  ·rfl
  ·cases hy
 unfold nilK at h
 split at h
 ·rename_i t u b0
  obtain ⟨hb,h⟩:=cond_some h
  obtain ⟨nb,hT⟩:=tyB_ok hE hb
  obtain ⟨el,n2,hu,_⟩:=hT.desc
  rcases hx with hx | ⟨c1,⟨⟨A,cap,rfl,_⟩,r2⟩,e1⟩
  ·cases hx
  have hA:=r2 A _ _ rfl
  have hx:a.eval x=.slice A u.length cap:=e1
  have hr:∀ op,op=.eql∨op=.neq→(do eqGuard op xt x y (a.eval x) (a.eval y); binOp op xt (a.eval x) (a.eval y):Sem Value).run E.P w=.ok (.bool (match op with | .eql=>b0 | _ => !b0)) w:=by
   intro op hop
   rw [hx,hye]
   have hg:(eqGuard op xt x y (.slice A u.length cap) (.slice none 0 0)).run E.P w=.ok () w:=by cases op <;> rfl
   rcases hop with rfl | rfl
   ·simp only [Sem.run_bind,hg,Result.andThen_ok,run_eql_nil_ hu,hA]
   ·simp only [Sem.run_bind,hg,Result.andThen_ok,run_neq_nil_ hu,hA]
  have key:∀ v,(do eqGuard op xt x y (a.eval x) (a.eval y); binOp op xt (a.eval x) (a.eval y):Sem Value).run E.P w=.ok v w→(execOp a.eval o).run E.P w=.ok (.value v) w:=by
   intro v hv
   unfold execOp
   rw [ho]
   simp only [Sem.run_bind] at hv ⊢
   rw [hv]; rfl
  split at h
  ·simp only [Option.some.injEq,Prod.mk.injEq] at h
   obtain ⟨rfl,rfl⟩:=h
   exact .same H (key _ (hr _ (.inl rfl))) (relV_bool _)
  ·simp only [Option.some.injEq,Prod.mk.injEq] at h
   obtain ⟨rfl,rfl⟩:=h
   exact .same H (key _ (hr _ (.inr rfl))) (relV_bool _)
  ·cases h
 ·rename_i t u
  have hb2:=cond_some h
  clear h
  obtain ⟨hb,h⟩:=hb2
  obtain ⟨_,hne,h⟩:=bind_some_ h
  obtain ⟨nb,hT⟩:=tyB_ok hE hb
  obtain ⟨el,n2,hu,_⟩:=hT.desc
  rcases hx with hx | ⟨c1,⟨A,cap,rfl,_,r2⟩,e1⟩
  ·cases hx
  have hA:A.isNone=false:=by
   rcases r2 with r2 | ⟨b,o,r2,_⟩
   ·rw [r2] at hne; cases hne
   ·rw [r2]; rfl
  have hx:a.eval x=.slice A (u:List t.den).length cap:=e1
  have hr:∀ op,op=.eql∨op=.neq→(do eqGuard op xt x y (a.eval x) (a.eval y); binOp op xt (a.eval x) (a.eval y):Sem Value).run E.P w=.ok (.bool (match op with | .eql=>false | _=>true)) w:=by
   intro op hop
   rw [hx,hye]
   have hg:(eqGuard op xt x y (.slice A (u:List t.den).length cap) (.slice none 0 0)).run E.P w=.ok () w:=by cases op <;> rfl
   rcases hop with rfl | rfl
   ·simp only [Sem.run_bind,hg,Result.andThen_ok,run_eql_nil_ hu,hA]
   ·simp only [Sem.run_bind,hg,Result.andThen_ok,run_neq_nil_ hu,hA,Bool.not_false]
  have key:∀ v,(do eqGuard op xt x y (a.eval x) (a.eval y); binOp op xt (a.eval x) (a.eval y):Sem Value).run E.P w=.ok v w→(execOp a.eval o).run E.P w=.ok (.value v) w:=by
   intro v hv
   unfold execOp
   rw [ho]
   simp only [Sem.run_bind] at hv ⊢
   rw [hv]; rfl
  split at h
  ·simp only [Option.some.injEq,Prod.mk.injEq] at h
   obtain ⟨rfl,rfl⟩:=h
   exact .same H (key _ (hr _ (.inl rfl))) (relV_bool _)
  ·simp only [Option.some.injEq,Prod.mk.injEq] at h
   obtain ⟨rfl,rfl⟩:=h
   exact .same H (key _ (hr _ (.inr rfl))) (relV_bool _)
  ·cases h
 ·cases h
end
section
variable {E:Env} {o:Oper} {a:Act} {w:World} {Z:Bs} {sl:Nat→Option Slot} {hdr:Nat→Value} {fp:Nat→Bs} {mv:MV}
theorem getP_nil (t:Ty) (x:t.den):getP t x []=some ⟨t,x⟩:=by cases t <;> rfl
theorem step_write (H:HR Z w sl hdr fp) {s hv cv:Nat} {c:SlotC} (hs:sl s=some ⟨hv,cv,some c⟩) {b:Nat} (hb:fp s b) {w':World} (hrest:∀ k,k≠b→w'.heap[k]?=w.heap[k]?) (hsz:w'.heap.size=w.heap.size) (hos:w'.os=w.os) (htp:w'.tape=w.tape) (hout:w'.output=w.output)
 (hv' cv':Nat) (c':SlotC) (hd:Value) (F:Bs) (hr:Rep Z w' c'.t c'.m c'.x F [hd]) (hsh:(∃ t,c'.t=.sl t)∨∃ k v,c'.t=.mp k v) (hF:∀ k,F k→fp s k∨∃ r,fp r k∧noC sl r) (hver:hv<hv'∨hv=hv'∧cv<cv'∧hd=hdr s) :
 ∃ fp',(∀ k,F k→fp' s k)∧(∀ k,fp s k→fp' s k)∧HR Z w' (put sl s ⟨hv',cv',some c'⟩) (fun r=>if r=s then hd else hdr r) fp'∧Trans Z w sl hdr fp Z w' (put sl s ⟨hv',cv',some c'⟩) (fun r=>if r=s then hd else hdr r) fp':=by
 have hcont:∀ r k,r≠s→fp r k→F k→noC sl r:=fun r k hne h hk=>by
  rcases hF k hk with h1 | ⟨r',h1,h2⟩
  ·exact absurd (H.disj _ _ _ h h1) hne
  ·obtain rfl:=H.disj _ _ _ h h1
   exact h2
 have hFo:∀ k,F k→∃ r,fp r k:=fun k hk=>(hF k hk).elim (fun h=>⟨s,h⟩) (fun ⟨r,h,_⟩=>⟨r,h⟩)
 have hZ:∀ k,Z k→w'.heap[k]?=w.heap[k]?:=fun k hk=>hrest k (fun e=>H.dz _ _ hb (e ▸ hk))
 refine ⟨fun r k=>if r=s then fp s k∨F k else fp r k∧¬ F k,fun k hk=>by simp [hk],fun k hk=>by simp [hk],⟨fun r hv0 cv0 c0 h => ?_,fun r hv0 cv0 c0 h => ?_,fun r r' k h h' => ?_,fun r k h => ?_,fun k h=>by rw [hsz]; exact H.zlt k h,fun r k h hz => ?_⟩,
  fun k hk=>⟨hk,hZ k hk⟩,fun r S h => ?_,fun k h1 h2 h3=>⟨hrest k (fun e=>h2 s (e ▸ hb)),fun r h => ?_,h3⟩,by rw [hsz]; exact Nat.le_refl _,hos,htp,hout⟩
 ·unfold put at h; split at h
  ·rename_i e; subst e
   simp only [Option.some.injEq,Slot.mk.injEq] at h
   obtain ⟨rfl,rfl,rfl⟩:=h
   simp only [if_true]
   exact hr.mono (fun k hk=>.inr hk)
  ·rename_i e
   simp only [if_neg e]
   exact ((H.rep r hv0 cv0 c0 h).keep (fun k hk=>⟨hk,hZ k hk⟩) (fun k hk=>hrest k (fun e'=>e (H.disj _ _ _ hk (e' ▸ hb))))).mono (fun k hk=>⟨hk,fun hf=>hcont r k e hk hf _ _ _ h⟩)
 ·unfold put at h; split at h
  ·simp only [Option.some.injEq,Slot.mk.injEq] at h
   obtain ⟨rfl,rfl,rfl⟩:=h
   exact hsh
  ·exact H.shape r hv0 cv0 c0 h
 ·by_cases e:r=s <;> by_cases e':r'=s
  ·exact e.trans e'.symm
  ·simp only [if_pos e,if_neg e'] at h h'
   rcases h with h | h
   ·exact absurd (H.disj _ _ _ h'.1 h) e'
   ·exact absurd h h'.2
  ·simp only [if_neg e,if_pos e'] at h h'
   rcases h' with h' | h'
   ·exact absurd (H.disj _ _ _ h.1 h') e
   ·exact absurd h' h.2
  ·simp only [if_neg e,if_neg e'] at h h'; exact H.disj _ _ _ h.1 h'.1
 ·rw [hsz]
  by_cases e:r=s
  ·simp only [if_pos e] at h
   rcases h with h | h
   ·exact H.lt _ _ h
   ·obtain ⟨r',h1⟩:=hFo k h; exact H.lt _ _ h1
  ·simp only [if_neg e] at h; exact H.lt _ _ h.1
 ·by_cases e:r=s
  ·simp only [if_pos e] at h
   rcases h with h | h
   ·exact H.dz _ _ h hz
   ·obtain ⟨r',h1⟩:=hFo k h; exact H.dz _ _ h1 hz
  ·simp only [if_neg e] at h; exact H.dz _ _ h.1 hz
 ·by_cases e:r=s
  ·subst e
   rw [hs] at h; obtain rfl:=Option.some.inj h
   refine ⟨⟨hv',cv',some c'⟩,by simp only [put,if_true],?_⟩
   rcases hver with h | ⟨h1,h2,h3⟩
   ·exact .inl h
   ·exact .inr (.inl ⟨h1,h2,fun c0 _=>⟨⟨_,rfl⟩,by simp [h3]⟩⟩)
  ·refine ⟨S,by simp [put,e,h],.inr (.inr ⟨rfl,rfl,fun c0 hc=>⟨c0,hc,by simp [e],fun k hk=>hrest k (fun e'=>e (H.disj _ _ _ hk (e' ▸ hb))),.inl ⟨rfl,fun k hk => ?_⟩⟩⟩)⟩
   simp only [if_neg e]
   obtain ⟨a1,a2,a3⟩:=S
   simp only at hc; subst hc
   exact ⟨hk,fun hf=>hcont r k e hk hf _ _ _ h⟩
 ·by_cases e:r=s
  ·simp only [if_pos e] at h
   rcases h with h | h
   ·exact h2 s h
   ·obtain ⟨r',h4⟩:=hFo k h; exact h2 r' h4
  ·simp only [if_neg e] at h; exact h2 r h.1
structure Src (Z:Bs) (w:World) (sl:Nat→Option Slot) (hdr:Nat→Value) (fp:Nat→Bs) (us:Ups) (Z':Bs) (fp':Nat→Bs) (t:Ty) (m:Mk) (ys:List t.den) (F:Bs) (cs:List Value) (v:Value):Prop where
 hr:HR Z' w (us.look sl) hdr fp'
 tr:Trans Z w sl hdr fp Z' w (us.look sl) hdr fp'
 inl:Inline (fun x f c=>Rep Z' w t m x f c) ys F cs
 hand:∀ b,F b→∃ s,fp' s b∧noC (us.look sl) s
 val:∃ A cap,v=.slice A ys.length cap∧(ys=[]∨∃ b o,A=some ⟨b,o,none⟩∧At w b o cs)
theorem Inline.flat_ {Z:Bs} {w:World} {t:Ty} {m m':Mk} (hf:t.flat=true):∀ {xs:List t.den} {f f':Bs} {cs:List Value},Inline (fun x f c=>Rep Z w t m x f c) xs f cs→Inline (fun x f c=>Rep Z w t m' x f c) xs f' cs
 | [],_,_,_,h=>h
 | _ :: _,_,_,_,⟨c1,c2,f1,f2,e,r,i,_⟩=>⟨c1,c2,none_,none_,e,r.flat hf,Inline.flat_ hf i,fun _ h=>h.elim,fun _ h=>h.elim,fun _ h=>h.elim⟩
theorem Inline.unshare_ {Z:Bs} {w:World} {t:Ty} {m:Mk} (hs:t.shared m=true):∀ {xs:List t.den} {f f':Bs} {cs:List Value},(∀ k,¬ f k)→Inline (fun x f c=>Rep Z w t .im x f c) xs f cs→Inline (fun x f c=>Rep Z w t m x f c) xs f' cs
 | [],_,_,_,_,h=>h
 | _ :: _,_,_,_,hn,⟨c1,c2,f1,f2,e,r,i,s1,s2,_⟩=>⟨c1,c2,none_,none_,e,Rep.unshare hs (r.none (fun k hk=>hn k (s1 k hk))),Inline.unshare_ hs (fun k hk=>hn k (s2 k hk)) i,fun _ h=>h.elim,fun _ h=>h.elim,fun _ h=>h.elim⟩
theorem rep_row {t:Ty} {m:Mk} {xs:List t.den} {f:Bs} {cs:List Value} (h:Rep Z w (.sl t) m xs f cs) :
 ∃ A cap ks m1 f1,cs=[.slice A xs.length cap]∧Inline (fun x f c=>Rep Z w t m1 x f c) xs f1 ks∧(xs=[]∨∃ b o,A=some ⟨b,o,none⟩∧At w b o ks)∧(∀ k,f1 k→f k)∧(m.isOw=false→m1=.im∧∀ k,¬ f1 k)∧∀ m',m=.ow m'→m1=m':=by
 cases m with
 | ow m =>
  obtain ⟨A,cap,e,h⟩:=h
  rcases h with ⟨rfl,_⟩ | ⟨b,o,c,el,rfl,h1,h2,h3,h4,h5⟩
  ·exact ⟨A,cap,[],m,none_,e,rfl,.inl rfl,fun _ h=>h.elim,(fun h=>by cases h),fun m' e=>by cases e; rfl⟩
  ·obtain ⟨ks,q1,q2,q3⟩:=inline_of_elems h5
   exact ⟨_,cap,ks,m,_,e,q1,.inr ⟨b,o,rfl,q2⟩,fun k h=>h.1,(fun h=>by cases h),fun m' e=>by cases e; rfl⟩
 | im =>
  obtain ⟨A,cap,e,hc,h⟩:=h
  rcases h with rfl | ⟨b,o,rfl,h1,h5⟩
  ·exact ⟨A,cap,[],.im,none_,e,rfl,.inl rfl,fun _ h=>h.elim,fun _=>⟨rfl,fun _ h=>h⟩,fun m' e=>by cases e⟩
  ·obtain ⟨ks,q1,q2,q3⟩:=inline_of_elems h5
   exact ⟨_,cap,ks,.im,_,e,q1,.inr ⟨b,o,rfl,q2⟩,fun k h=>h.1.elim,fun _=>⟨rfl,fun k h=>h.1⟩,fun m' e=>by cases e⟩
 | pr a b =>
  obtain ⟨A,cap,e,hc,h⟩:=h
  rcases h with rfl | ⟨b,o,rfl,h1,h5⟩
  ·exact ⟨A,cap,[],.im,none_,e,rfl,.inl rfl,fun _ h=>h.elim,fun _=>⟨rfl,fun _ h=>h⟩,fun m' e=>by cases e⟩
  ·obtain ⟨ks,q1,q2,q3⟩:=inline_of_elems h5
   exact ⟨_,cap,ks,.im,_,e,q1,.inr ⟨b,o,rfl,q2⟩,fun k h=>h.1.elim,fun _=>⟨rfl,fun k h=>h.1⟩,fun m' e=>by cases e⟩
theorem srcOf_ok (H:HR Z w sl hdr fp) {t:Ty} {m:Mk} {u:MV} {v:Value} {ys:List t.den} {us:Ups} (h:srcOf sl t m u=some (ys,us)) (hu:RelV Z w sl hdr fp u v):∃ Z' fp' F cs,Src Z w sl hdr fp us Z' fp' t m ys F cs v:=by
 have hnil:u=.nil∨(match cont sl u with
  | some ⟨.sl t',x,ac⟩ =>
   if h:t'=t then
    bif t.flat then some ((h ▸ x:List t.den),([]:Ups))
    else match ac with
     | .im=>bif t.shared m then some ((h ▸ x:List t.den),[]) else none
     | .own s hv cv []=>match sl s with
      | some S=>match S.c with
       | some c=>if c.m=.ow m then some ((h ▸ x:List t.den),[(s,gone S)]) else none
       | none=>none
      | none=>none
     | _=>none
   else none
  | _=>none)=some (ys,us):=by
  cases u <;> first | exact .inl rfl | exact .inr h
 rcases hnil with rfl | h
 ·simp only [srcOf,Option.some.injEq,Prod.mk.injEq] at h
  obtain ⟨rfl,rfl⟩:=h
  rcases hu with h0 | ⟨cs,⟨A,hA⟩,he⟩
  ·cases h0
  exact ⟨Z,fp,none_,[],H,Trans.refl _ _ _ _ _,rfl,fun _ h=>h.elim,A,0,by rw [he,hA]; rfl,.inl rfl⟩
 ·split at h
  ·rename_i t' x ac hc
   split at h
   ·rename_i e; subst e
    rcases hu with rfl | ⟨cs,hr,he⟩
    ·cases hc
    obtain ⟨hA,hout⟩:=cont_ok H hc hr
    have hv:∀ A cap,cs=[.slice A x.length cap]→v=.slice A x.length cap:=fun A cap e=>by rw [he,hout,e]; rfl
    have main:∀ {m0:Mk} {f:Bs},Rep Z w (.sl t') m0 x f cs→t'.flat=true→∃ Z' fp' F cs,Src Z w sl hdr fp [] Z' fp' t' m x F cs v:=fun h0 hf=>by
     obtain ⟨A,cap,ks,m1,f1,e1,e2,e3,e4,_⟩:=rep_row h0
     exact ⟨Z,fp,none_,ks,H,Trans.refl _ _ _ _ _,Inline.flat_ hf e2,fun _ h=>h.elim,A,cap,hv A cap e1,e3⟩
    cases hf:t'.flat with
    | true =>
     rw [hf] at h
     simp only [cond_true,Option.some.injEq,Prod.mk.injEq] at h
     obtain ⟨rfl,rfl⟩:=h
     cases ac with
     | im=>exact main (m0:=.im) (f:=none_) hA hf
     | own s hv cv p=>obtain ⟨c,_,_,⟨m0,f,h3,_⟩,_⟩:=hA; exact main h3 hf
     | ro s hv cv=>obtain ⟨c,_,_,m0,f,h3,_⟩:=hA; exact main h3 hf
    | false =>
     rw [hf] at h
     simp only [cond_false] at h
     split at h
     ·obtain ⟨hs,h⟩:=cond_some h
      simp only [Option.some.injEq,Prod.mk.injEq] at h
      obtain ⟨rfl,rfl⟩:=h
      obtain ⟨A,cap,ks,m1,f1,e1,e2,e3,e4,e5,_⟩:=rep_row (m:=.im) (f:=none_) hA
      obtain ⟨rfl,hn⟩:=e5 rfl
      exact ⟨Z,fp,none_,ks,H,Trans.refl _ _ _ _ _,Inline.unshare_ hs hn e2,fun _ h=>h.elim,A,cap,hv A cap e1,e3⟩
     ·rename_i s hv0 cv
      split at h
      ·rename_i S hS
       split at h
       ·rename_i c hcc
        split at h
        ·rename_i hm
         simp only [Option.some.injEq,Prod.mk.injEq] at h
         obtain ⟨rfl,rfl⟩:=h
         obtain ⟨c',h1,h2,⟨m0,f,h3,h4⟩,g1,g2⟩:=hA
         rw [hS] at h1
         obtain rfl:=Option.some.inj h1
         simp only [Option.some.injEq] at hcc
         subst hcc
         obtain ⟨g3,_⟩:=g2 h2
         have hroot:cs=[hdr s]:=by
          have:subc w c'.t [hdr s] []=some [hdr s]:=by cases c'.t <;> rfl
          rw [this] at g3; exact (Option.some.inj g3).symm
         have hct:getP c'.t c'.x []=some ⟨c'.t,c'.x⟩:=getP_nil _ _
         rw [hct] at g1
         obtain ⟨ct,cm,cx⟩:=c'
         simp only [Option.some.injEq,Sigma.mk.injEq] at g1 hm
         obtain ⟨rfl,hx⟩:=g1
         obtain rfl:=eq_of_heq hx
         subst hm
         have hrep:=H.rep s _ _ _ hS
         obtain ⟨A,cap,ks,m1,f1,e1,e2,e3,e4,_,e6⟩:=rep_row hrep
         obtain rfl:=e6 _ rfl
         obtain ⟨q1,q2⟩:=step_gone H hS
         refine ⟨Z,fp,f1,ks,by rw [look_cons]; exact q1,by rw [look_cons]; exact q2,e2,fun b hb=>⟨s,e4 b hb,by rw [look_cons]; exact noC_gone⟩,A,cap,hv A cap (by rw [hroot]; exact e1),e3⟩
        ·cases h
       ·cases h
      ·cases h
     ·cases h
   ·cases h
  ·cases h
end
section
variable {E:Env} {o:Oper} {a:Act} {w:World} {Z:Bs} {sl:Nat→Option Slot} {hdr:Nat→Value} {fp:Nat→Bs} {mv:MV}
def Has (w:World) (A:Option Addr) (n:Nat) (cs:List Value):Prop:=(n=0∧cs=[])∨∃ b o,A=some ⟨b,o,none⟩∧At w b o cs
theorem first_ok {P:Program} {A:Option Addr} {n size c:Nat} {cs:List Value} (hl:cs.length=n*size) (h:Has w A n cs):(Builtin.firstCells size n (.slice A n c)).run P w=.ok cs.toArray w:=by
 rcases h with ⟨rfl,rfl⟩ | ⟨b,o,rfl,h⟩
 ·cases A with
  | none=>rfl
  | some A=>simp [Builtin.firstCells,loadCells,loadCellsFrom]
 ·refine run_firstCells_some w size n _ n c cs hl (fun j v hj => ?_)
  rw [add_none,← hj]
  have hlt:j<cs.length:=by
   rcases Nat.lt_or_ge j cs.length with h' | h'
   ·exact h'
   ·rw [List.getElem?_eq_none h'] at hj; cases hj
  exact h j hlt
theorem run_app_fit {ty tid e:TypeId} {t:Ty} {nb:Nat} (hu:E.P.underlying tid=some (.slice e)) (hT:TyOK E e t nb) {A B:Option Addr} {sLen n sCap c:Nat} {news:List Value} (hl:news.length=n*t.size) (hB:Has w B n news) (hroom:sLen+n≤sCap) {w':World}
 (hs:(n=0∧w'=w)∨∃ b o,A=some ⟨b,o,none⟩∧(storeCells ⟨b,o+sLen*t.size,none⟩ news).run E.P w=.ok () w') :
 (Builtin.append_ #[tid,tid] ty #[.slice A sLen sCap,.slice B n c]).run E.P w=.ok (.slice A (sLen+n) sCap) w':=by
 have hf:=first_ok (P:=E.P) (c:=c) hl hB
 rcases hs with ⟨rfl,rfl⟩ | ⟨b,o,rfl,hs⟩
 ·have hroom':sLen≤sCap:=by omega
  have hn:news=[]:=List.eq_nil_of_length_eq_zero (by simpa using hl)
  subst hn
  cases A <;> simp [Builtin.append_,run_underlying hu,hT.size,Builtin.lenOf,hroom',hf,storeCells]
 ·simp [Builtin.append_,run_underlying hu,hT.size,Builtin.lenOf,hroom,hf,add_none,hs]
theorem run_app_grow {ty tid e:TypeId} {t:Ty} {nb:Nat} (hu:E.P.underlying tid=some (.slice e)) (hT:TyOK E e t nb) {A B:Option Addr} {sLen n sCap c:Nat} {olds news:List Value} (ho:olds.length=sLen*t.size) (hA:Has w A sLen olds) (hl:news.length=n*t.size) (hB:Has w B n news) (hg:sCap<sLen+n)
 (h63:sLen+n≤9223372036854775807) (hfit:(sLen+n)*nb≤140737488355328) :
 ∃ z:List Value,z.length=(grownCap w (sLen+n) sCap e-(sLen+n))*t.size ∧
 (Builtin.append_ #[tid,tid] ty #[.slice A sLen sCap,.slice B n c]).run E.P w=.ok (.slice (some ⟨w.heap.size,0,none⟩) (sLen+n) (grownCap w (sLen+n) sCap e)) (w.drew.alloc (.cells ((olds++news)++z).toArray e)):=by
 obtain ⟨i,z,i1,i2,i3,i4,i5⟩:=hT.info
 have hn:¬ (sLen+n≤sCap):=by omega
 have h63':¬ (9223372036854775807<((sLen:Int)+(n:Int))):=by omega
 have h48:=growslice_fits hg hfit
 have h48':¬ (281474976710656<Builtin.nextslicecap (sLen+n) sCap*i.bytes):=by rw [i3]; omega
 have hZ:z.cells.size=t.size:=by rw [← Array.length_toList,i5,t.zcells_len]
 have hf:(Builtin.firstCells t.size n (.slice B n c)).run E.P w.drew=.ok news.toArray w.drew:=first_ok (w:=w.drew) hl hB
 have hfo:(Builtin.firstCells t.size sLen (.slice A sLen sCap)).run E.P w.drew=.ok olds.toArray w.drew:=first_ok (w:=w.drew) ho hA
 refine ⟨(Builtin.zeroCells z.cells (grownCap w (sLen+n) sCap e-(sLen+n))).toList,by rw [Array.length_toList,size_zeroCells,hZ],?_⟩
 simp [Builtin.append_,run_underlying hu,sizeOf,typeInfo,zeroValue,i1,i2,i4,Builtin.lenOf,hn,h63',h48',Question.forced,hf,hfo,newRow,grownCap]
 congr 2
 apply Array.ext'
 simp [List.append_assoc]
theorem has_row {t:Ty} {xs:List t.den} {A:Option Addr} {ks:List Value} {R:t.den→Bs→List Value→Prop} {f:Bs} (hi:Inline R xs f ks) (h:xs=[]∨∃ b o,A=some ⟨b,o,none⟩∧At w b o ks):Has w A xs.length ks:=by
 rcases h with rfl | h
 ·exact .inl ⟨rfl,hi⟩
 ·exact .inr h
theorem lenB_ok {n:Nat} (h:lenB n=true):n≤68719476736:=Nat.le_of_ble_eq_true h
theorem app_new {tid e ty:TypeId} {t:Ty} {nb:Nat} {m:Mk} {ys:List t.den} {us:Ups} {Z':Bs} {fp':Nat→Bs} {F:Bs} {cs:List Value} {v:Value} (S:Src Z w sl hdr fp us Z' fp' t m ys F cs v) (hu:E.P.underlying tid=some (.slice e)) (hT:TyOK E e t nb) (hb:ys.length*nb≤70368744177664) (hlen:ys.length≤70368744177664)
 {A:Option Addr} {n:Nat} {S0:Slot} (hs:us.look sl n=some S0) :
 ∃ v' w' hdr' fp2,(Builtin.append_ #[tid,tid] ty #[.slice A 0 0,v]).run E.P w=.ok v' w'∧HR Z' w' (put (us.look sl) n ⟨S0.hv+1,0,some ⟨.sl t,.ow m,ys⟩⟩) hdr' fp2 ∧
  Trans Z' w (us.look sl) hdr fp' Z' w' (put (us.look sl) n ⟨S0.hv+1,0,some ⟨.sl t,.ow m,ys⟩⟩) hdr' fp2∧hdr' n=v'∧v'.oneCell'=true:=by
 obtain ⟨B,c,rfl,hB⟩:=S.val
 have hl:=Inline.len (fun x f c h=>Rep.len h) S.inl
 by_cases h0:ys.length=0
 ·have hy:ys=[]:=List.eq_nil_of_length_eq_zero h0
  subst hy
  have hcs:cs=[]:=S.inl
  have hrun:=run_app_fit (E:=E) (w:=w) (ty:=ty) (w':=w) (A:=A) (B:=B) (sLen:=0) (n:=0) (sCap:=0) (c:=c) (news:=[]) hu hT (by simp) (.inl ⟨rfl,rfl⟩) (by omega) (.inl ⟨rfl,rfl⟩)
  obtain ⟨fp2,_,_,H2,T2⟩:=step_set S.hr hs ⟨.sl t,.ow m,[]⟩ (.slice A 0 0) none_ ⟨A,0,rfl,.inl ⟨rfl,rfl⟩⟩ (.inl ⟨t,rfl⟩) (fun _ h=>h.elim) 0
  exact ⟨_,w,_,fp2,hrun,H2,T2,by simp,rfl⟩
 ·obtain ⟨z,hz,hrun⟩:=run_app_grow (E:=E) (w:=w) (ty:=ty) (A:=A) (B:=B) (sLen:=0) (n:=ys.length) (sCap:=0) (c:=c) (olds:=[]) (news:=cs) hu hT (by simp) (.inl ⟨rfl,rfl⟩) hl (has_row S.inl hB) (by omega) (by omega) (by rw [Nat.zero_add]; omega)
  have hdw:=step_drew S.hr
  have hge:=grownCap_ge w (0+ys.length) 0 e
  have hi':Inline (fun x f c=>Rep Z' w.drew t m x f c) ys F cs:=Inline.mono (fun x f c h=>h.keep (w:=w) (w':=w.drew) (fun b hb=>⟨hb,rfl⟩) (fun _ _=>rfl)) (fun _ h=>h) S.inl
  obtain ⟨fp2,H2,T2⟩:=new_row hdw.1 hs t m ys F cs z e (grownCap w (0+ys.length) 0 e) hi' (fun b hb=>by obtain ⟨r,h1,h2⟩:=S.hand b hb; exact ⟨r,h1,.inr h2⟩) (by omega) (by
   rw [List.length_append,hl,hz,← Nat.add_mul]; exact Nat.mul_le_mul_right _ (by omega))
  refine ⟨_,_,_,fp2,hrun,?_,hdw.2.comp T2,by simp,rfl⟩
  simpa using H2
end
section
variable {E:Env} {o:Oper} {a:Act} {w:World} {Z:Bs} {sl:Nat→Option Slot} {hdr:Nat→Value} {fp:Nat→Bs} {mv:MV}
theorem Inline.one {Z:Bs} {t:Ty} {m:Mk} {xs:List t.den} {f:Bs} {cs:List Value} (h:Inline (fun x f c=>Rep Z w t m x f c) xs f cs):∀ v∈cs,v.oneCell'=true:=Inline.all (fun x f c h=>Rep.one h) h
theorem keep_inline {Z:Bs} {w w':World} {t:Ty} {m:Mk} {xs:List t.den} {f:Bs} {cs:List Value} (hZ:∀ b,Z b→w'.heap[b]?=w.heap[b]?) (hf:∀ b,f b→w'.heap[b]?=w.heap[b]?) (h:Inline (fun x f c=>Rep Z w t m x f c) xs f cs) :
 Inline (fun x f c=>Rep Z w' t m x f c) xs f cs:=Inline.keep (fun x f' c hs hr=>hr.keep (fun b hb=>⟨hb,hZ b hb⟩) (fun b hb=>hf b (hs b hb))) h
theorem fill_room {P:Program} {Z:Bs} {w:World} {t:Ty} {m:Mk} {xs ys:List t.den} {f F:Bs} {cs:List Value} {b o' cap:Nat} {c:Array Value} {e:TypeId} (hZb:¬ Z b) (hFb:¬ F b) (hFf:∀ k,F k→¬ f k) (hfb:f b) (hrow:w.heap[b]?=some (.cells c e (0,0))) (hcap:o'+cap*t.size≤c.size)
 (hel:Elems (fun x f c=>Rep Z w t m x f c) t.size w b o' xs f) (hin:Inline (fun x f c=>Rep Z w t m x f c) ys F cs) (hroom:xs.length+ys.length≤cap) :
 ∃ w',(storeCells ⟨b,o'+xs.length*t.size,none⟩ cs).run P w=.ok () w'∧(∀ k,k≠b→w'.heap[k]?=w.heap[k]?)∧w'.heap.size=w.heap.size∧w'.os=w.os∧w'.tape=w.tape∧w'.output=w.output ∧
  Rep Z w' (.sl t) (.ow m) xs f [.slice (some ⟨b,o',none⟩) xs.length cap] ∧
  Rep Z w' (.sl t) (.ow m) (xs++ys) (fun k=>f k∨F k) [.slice (some ⟨b,o',none⟩) (xs.length+ys.length) cap]:=by
 have hl:=Inline.len (fun x f c h=>Rep.len h) hin
 obtain ⟨ks,hi,hat,hkl⟩:=inline_of_elems hel
 have hmul:(xs.length+ys.length)*t.size≤cap*t.size:=Nat.mul_le_mul_right _ hroom
 rw [Nat.add_mul] at hmul
 have hfit:o'+xs.length*t.size+cs.length≤c.size:=by omega
 have hks:∃ kz:List Value,kz.length=cs.length∧At w b (o'+xs.length*t.size) kz:=by
  refine ⟨(c.toList.drop (o'+xs.length*t.size)).take cs.length,by simp; omega,fun j hj => ?_⟩
  have hj':j<cs.length:=by simp at hj; omega
  simp only [World.cell?,hrow,Option.isSome_none,Bool.false_eq_true,if_false]
  rw [List.getElem?_take_of_lt hj',List.getElem?_drop,Array.getElem?_toList]
 obtain ⟨kz,hkz1,hkz2⟩:=hks
 obtain ⟨w',hrun,W⟩:=wrote (P:=P) ⟨c,e,hrow⟩ hkz2 hkz1.symm hin.one
 obtain ⟨c',hrow',hsz'⟩:=(W.out _ rfl).row c e hrow
 have hat1:At w' b o' ks:=hat.out (fun e=>absurd rfl e) (W.out _ rfl) (fun _=>.inl (by omega))
 have hZ':∀ k,Z k→w'.heap[k]?=w.heap[k]?:=fun k hk=>W.rest k (fun e=>hZb (e ▸ hk))
 have hi':=keep_inline hZ' (fun k hk=>W.rest k hk.2) hi
 have hin':=keep_inline hZ' (fun k hk=>W.rest k (fun e=>hFb (e ▸ hk))) hin
 have hl0:∀ x f c,Rep Z w' t m x f c→c.length=t.size:=fun x f c h=>Rep.len h
 have mk:∀ (zs:List t.den) (g g':Bs) (cz:List Value),Inline (fun x f c=>Rep Z w' t m x f c) zs g cz→At w' b o' cz→¬ g b→(∀ k,g k→g' k)→g' b→zs.length≤cap→Rep Z w' (.sl t) (.ow m) zs g' [.slice (some ⟨b,o',none⟩) zs.length cap]:=by
  intro zs g g' cz h1 h2 h3 h4 h5 h6
  obtain ⟨fps,css,q1,q2⟩:=elems_of_inline (sz:=t.size) hl0 h1 h2 h3
  exact ⟨_,cap,rfl,.inr ⟨b,o',c',e,rfl,h5,hrow',by rw [hsz']; exact hcap,h6,fps,css,fun i x hx=>let ⟨a1,a2,a3,a4⟩:=q1 i x hx; ⟨a1,a2,a3,fun k hk=>⟨h4 k (a4 k hk).1,(a4 k hk).2⟩⟩,q2⟩⟩
 refine ⟨w',hrun,W.rest,W.size,W.os,W.tape,W.output,mk xs _ f ks hi' hat1 (fun h=>h.2 rfl) (fun k h=>h.1) hfb (by omega),?_⟩
 have happ:=Inline.app (fp:=fun k=>(f k∧k≠b)∨F k) hi' hin' (fun k h h'=>hFf k h' h.1) (fun k h=>.inl h) (fun k h=>.inr h)
 have:=mk (xs++ys) _ (fun k=>f k∨F k) _ happ (At.app.2 ⟨hat1,by rw [hkl]; exact W.at_⟩) (fun h=>h.elim (fun h=>h.2 rfl) hFb) (fun k h=>h.imp (fun h=>h.1) id) (.inl hfb) (by rw [List.length_append]; exact hroom)
 rwa [List.length_append] at this
theorem app_root {tid e ty:TypeId} {t:Ty} {nb:Nat} {m:Mk} {xs ys:List t.den} {us:Ups} {Z':Bs} {fp':Nat→Bs} {F:Bs} {cs:List Value} {v:Value} (S:Src Z w sl hdr fp us Z' fp' t m ys F cs v) (hu:E.P.underlying tid=some (.slice e)) (hT:TyOK E e t nb) (hb:(xs.length+ys.length)*nb≤70368744177664)
 (hlen:xs.length+ys.length≤70368744177664) {s hv cv:Nat} (hs:us.look sl s=some ⟨hv,cv,some ⟨.sl t,.ow m,xs⟩⟩) :
 ∃ v' w' hdr' fp2,(Builtin.append_ #[tid,tid] ty #[hdr s,v]).run E.P w=.ok v' w'∧HR Z' w' (put (us.look sl) s ⟨hv+1,0,some ⟨.sl t,.ow m,xs++ys⟩⟩) hdr' fp2 ∧
  Trans Z' w (us.look sl) hdr fp' Z' w' (put (us.look sl) s ⟨hv+1,0,some ⟨.sl t,.ow m,xs++ys⟩⟩) hdr' fp2∧hdr' s=v'∧v'.oneCell'=true:=by
 have hro:=S.hr.rep s _ _ _ hs
 obtain ⟨A,cap,ehd,hrow⟩:=hro
 simp only [List.cons.injEq,and_true] at ehd
 have hnofp:∀ k,F k→¬ fp' s k:=fun k hk h=>by
  obtain ⟨r,h1,h2⟩:=S.hand k hk
  obtain rfl:=S.hr.disj _ _ _ h h1
  exact h2 _ _ _ hs
 rcases hrow with ⟨hx,hc⟩ | ⟨b,o',c,el,rfl,h1,h2,h3,h4,h5⟩
 ·simp only at hx
  subst hx; subst hc
  obtain ⟨v',w',hdr',fp2,g1,g2,g3,g4,g5⟩:=app_new (E:=E) (ty:=ty) (A:=A) S hu hT (by simpa using hb) (by simpa using hlen) hs
  rw [ehd]
  exact ⟨v',w',hdr',fp2,g1,g2,g3,g4,g5⟩
 ·simp only at h3 h4 h5 ehd
  have hS:=S
  obtain ⟨B,c2,rfl,hB⟩:=S.val
  have hl:=Inline.len (fun x f c h=>Rep.len h) S.inl
  have hhas:=has_row S.inl hB
  rw [ehd]
  by_cases hroom:xs.length+ys.length≤cap
  ·obtain ⟨w',hrun,g1,g2,g3,g4,g5,g6,g7⟩:=fill_room (P:=E.P) (fun hz=>S.hr.dz _ _ h1 hz) (fun h=>hnofp _ h h1) hnofp h1 h2 h3 h5 S.inl hroom
   have hrun':=run_app_fit (E:=E) (w:=w) (ty:=ty) (A:=some ⟨b,o',none⟩) (B:=B) (sLen:=xs.length) (n:=ys.length) (sCap:=cap) (c:=c2) (news:=cs) hu hT hl hhas hroom (.inr ⟨b,o',rfl,hrun⟩)
   obtain ⟨fp2,_,_,H2,T2⟩:=step_write S.hr hs h1 g1 g2 g3 g4 g5 (hv+1) 0 ⟨.sl t,.ow m,xs++ys⟩ (.slice (some ⟨b,o',none⟩) (xs.length+ys.length) cap) (fun k=>fp' s k∨F k) g7 (.inl ⟨t,rfl⟩)
    (fun k hk=>hk.imp id (fun h=>S.hand k h)) (.inl (Nat.lt_succ_self _))
   exact ⟨_,w',_,fp2,hrun',H2,T2,by simp,rfl⟩
  ·obtain ⟨ks,hi,hat,hkl⟩:=inline_of_elems h5
   obtain ⟨z,hz,hrun⟩:=run_app_grow (E:=E) (w:=w) (ty:=ty) (A:=some ⟨b,o',none⟩) (B:=B) (sLen:=xs.length) (n:=ys.length) (sCap:=cap) (c:=c2) (olds:=ks) (news:=cs) hu hT hkl (.inr ⟨b,o',rfl,hat⟩) hl hhas (by omega) (by omega) (by omega)
   have hdw:=step_drew S.hr
   have hge:=grownCap_ge w (xs.length+ys.length) cap e
   have kd:∀ {zs:List t.den} {g:Bs} {cz:List Value},Inline (fun x f c=>Rep Z' w t m x f c) zs g cz→Inline (fun x f c=>Rep Z' w.drew t m x f c) zs g cz:=fun h=>keep_inline (w:=w) (w':=w.drew) (fun _ _=>rfl) (fun _ _=>rfl) h
   have happ:=Inline.app (fp:=fun k=>(fp' s k∧k≠b)∨F k) (kd hi) (kd S.inl) (fun k h h'=>hnofp k h' h.1) (fun k h=>.inl h) (fun k h=>.inr h)
   obtain ⟨fp2,H2,T2⟩:=new_row hdw.1 hs t m (xs++ys) _ (ks++cs) z e (grownCap w (xs.length+ys.length) cap e) happ (fun k hk=>by
    rcases hk with hk | hk
    ·exact ⟨s,hk.1,.inl rfl⟩
    ·obtain ⟨r,q1,q2⟩:=S.hand k hk
     exact ⟨r,q1,.inr q2⟩) (by rw [List.length_append]; omega) (by
    rw [List.length_append,List.length_append,hkl,hl,hz,← Nat.add_mul,← Nat.add_mul]; exact Nat.mul_le_mul_right _ (by omega))
   refine ⟨_,_,_,fp2,hrun,?_,hdw.2.comp T2,by simp,rfl⟩
   simpa using H2
theorem setP_same:∀ (p:Path) {t:Ty} {x:t.den} {t':Ty} {y:t'.den},getP t x p=some ⟨t',y⟩→setP t x p ⟨t',y⟩=x
 | [],t,x,t',y,h=>by
  rw [getP_nil] at h
  simp only [Option.some.injEq,Sigma.mk.injEq] at h
  obtain ⟨rfl,h⟩:=h
  obtain rfl:=eq_of_heq h
  cases t <;> simp [setP,Dyn.as]
 | .f1 :: p,.pair a b,x,t',y,h=>by
  simp only [setP,setP_same p (t:=a) h]
 | .f2 :: p,.pair a b,x,t',y,h=>by
  simp only [setP,setP_same p (t:=b) h]
 | .el i :: p,.sl t,xs,t',y,h=>by
  simp only [getP] at h
  split at h
  ·rename_i x hx
   rw [setP_set (d:=⟨t',y⟩) (show tyP t p=some t' from getP_ty h) hx,setP_same p h]
   apply List.ext_getElem?
   intro j
   rw [List.getElem?_set]
   split
   ·rename_i e; subst e; rw [hx]
    have:i<xs.length:=by
     rcases Nat.lt_or_ge i xs.length with h' | h'
     ·exact h'
     ·rw [List.getElem?_eq_none h'] at hx; cases hx
    simp [this]
   ·rfl
  ·cases h
 | .el i :: p,.arr n t,xs,t',y,h=>by
  simp only [getP] at h
  split at h
  ·rename_i x hx
   rw [setP_arr,setP_set (d:=⟨t',y⟩) (show tyP t p=some t' from getP_ty h) hx,setP_same p h]
   apply List.ext_getElem?
   intro j
   rw [List.getElem?_set]
   split
   ·rename_i e; subst e; rw [hx]
    have:i<xs.length:=by
     rcases Nat.lt_or_ge i xs.length with h' | h'
     ·exact h'
     ·rw [List.getElem?_eq_none h'] at hx; cases hx
    simp [this]
   ·rfl
  ·cases h
 | .f1 :: p,.bool,_,_,_,h | .f1 :: p,.int _,_,_,_,h | .f1 :: p,.str,_,_,_,h | .f1 :: p,.unit,_,_,_,h | .f1 :: p,.arr _ _,_,_,_,h | .f1 :: p,.sl _,_,_,_,h | .f1 :: p,.mp _ _,_,_,_,h | .f1 :: p,.ex _ _ _,_,_,_,h=>by cases h
 | .f2 :: p,.bool,_,_,_,h | .f2 :: p,.int _,_,_,_,h | .f2 :: p,.str,_,_,_,h | .f2 :: p,.unit,_,_,_,h | .f2 :: p,.arr _ _,_,_,_,h | .f2 :: p,.sl _,_,_,_,h | .f2 :: p,.mp _ _,_,_,_,h | .f2 :: p,.ex _ _ _,_,_,_,h=>by cases h
 | .el _ :: p,.bool,_,_,_,h | .el _ :: p,.int _,_,_,_,h | .el _ :: p,.str,_,_,_,h | .el _ :: p,.unit,_,_,_,h | .el _ :: p,.pair _ _,_,_,_,h | .el _ :: p,.mp _ _,_,_,_,h | .el _ :: p,.ex _ _ _,_,_,_,h=>by cases h
theorem app_view {tid e ty:TypeId} {t:Ty} {nb:Nat} {m:Mk} {xs ys:List t.den} {us:Ups} {Z':Bs} {fp':Nat→Bs} {F:Bs} {cs cv0:List Value} {v:Value} (S:Src Z w sl hdr fp us Z' fp' t m ys F cs v) (hu:E.P.underlying tid=some (.slice e)) (hT:TyOK E e t nb) (hb:(xs.length+ys.length)*nb≤70368744177664)
 (hlen:xs.length+ys.length≤70368744177664) (hfl:(t.flat || t.shared m)=true) {s hv cv:Nat} {c:SlotC} (hs:us.look sl s=some ⟨hv,cv,some c⟩) {st:Step} {p:Path} (how:c.m.isOw=true) (hg:getP c.t c.x (st :: p)=some ⟨.sl t,xs⟩) (hm:mkP c.t c.m (st :: p)=some (.ow m))
 (hsub:subc w c.t [hdr s] (st :: p)=some cv0) :
 ∃ hd v' w' hdr' fp2,cv0=[hd]∧(Builtin.append_ #[tid,tid] ty #[hd,v]).run E.P w=.ok v' w'∧HR Z' w' (put (us.look sl) s ⟨hv,cv+1,some c⟩) hdr' fp2 ∧
  Trans Z' w (us.look sl) hdr fp' Z' w' (put (us.look sl) s ⟨hv,cv+1,some c⟩) hdr' fp2∧RelV Z' w' (put (us.look sl) s ⟨hv,cv+1,some c⟩) hdr' fp2 (.pend s hv (cv+1) (st :: p) t (xs++ys)) v':=by
 have hro:=S.hr.rep s _ _ _ hs
 have hsh:=S.hr.shape s _ _ _ hs
 obtain ⟨ct,cm,cx⟩:=c
 simp only at hg hm how hro hsh hsub
 obtain ⟨m0,rfl⟩:∃ m0,cm=.ow m0:=by cases cm <;> first | exact ⟨_,rfl⟩ | cases how
 rcases hsh with ⟨t0,rfl⟩ | ⟨k0,v0,rfl⟩
 rotate_left 1
 ·cases st <;> simp [getP] at hg
 cases st with
 | f1=>simp [getP] at hg
 | f2=>simp [getP] at hg
 | el i =>
 obtain ⟨ba,oa,ks,fpl,hadr,hsc,FR⟩:=focus_root none hro hg hm
 rw [hsub] at hsc
 obtain rfl:=Option.some.inj hsc
 obtain ⟨A,cap,ehd,hrow⟩:=FR.rep
 have hnofp:∀ k,F k→¬ fp' s k:=fun k hk h=>by
  obtain ⟨r,h1,h2⟩:=S.hand k hk
  obtain rfl:=S.hr.disj _ _ _ h h1
  exact h2 _ _ _ hs
 obtain ⟨B,c2,rfl,hB⟩:=S.val
 have hl:=Inline.len (fun x f c h=>Rep.len h) S.inl
 have hhas:=has_row S.inl hB
 have bare:∀ {w:World} {zs:List t.den} {f f':Bs} {cz:List Value},Inline (fun x f c=>Rep Z' w t m x f c) zs f cz→Inline (fun x f c=>Rep Z' w t m x f c) zs f' cz:=by
  intro w zs
  induction zs with
  | nil=>intro _ _ _ h; exact h
  | cons z zs ih =>
   rintro f f' cz ⟨c1,c3,f1,f2,e1,r,i1,_⟩
   refine ⟨c1,c3,none_,none_,e1,?_,ih i1,fun _ h=>h.elim,fun _ h=>h.elim,fun _ h=>h.elim⟩
   simp only [Bool.or_eq_true] at hfl
   rcases hfl with hfl | hfl
   ·exact r.flat hfl
   ·exact Rep.unshare hfl (r.share hfl)
 have fin:∀ (v':Value) (w':World) (fp2:Nat→Bs) (hd':Nat→Value),(Builtin.append_ #[tid,tid] ty #[.slice A xs.length cap,.slice B ys.length c2]).run E.P w=.ok v' w'→HR Z' w' (put (us.look sl) s ⟨hv,cv+1,some ⟨.sl t0,.ow m0,cx⟩⟩) hd' fp2 →
  Trans Z' w (us.look sl) hdr fp' Z' w' (put (us.look sl) s ⟨hv,cv+1,some ⟨.sl t0,.ow m0,cx⟩⟩) hd' fp2→hd' s=hdr s →
  (Rep Z' w' (.sl t) (.ow m) (xs++ys) none_ [v']∨∃ b0,Rep Z' w' (.sl t) (.ow m) (xs++ys) (fun k=>k=b0) [v']∧fp2 s b0 ∧
   (Rep Z' w' (.sl t0) (.ow m0) cx (fun k=>fp2 s k∧k≠b0) [hdr s]∨∃ o l cap,subc w' (.sl t0) [hdr s] (.el i :: p)=some [.slice (some ⟨b0,o,none⟩) l cap]∧0<cap))→v'.oneCell'=true →
  ∃ hd v' w' hdr' fp2,cv0=[hd]∧(Builtin.append_ #[tid,tid] ty #[hd,.slice B ys.length c2]).run E.P w=.ok v' w'∧HR Z' w' (put (us.look sl) s ⟨hv,cv+1,some ⟨.sl t0,.ow m0,cx⟩⟩) hdr' fp2 ∧
  Trans Z' w (us.look sl) hdr fp' Z' w' (put (us.look sl) s ⟨hv,cv+1,some ⟨.sl t0,.ow m0,cx⟩⟩) hdr' fp2∧RelV Z' w' (put (us.look sl) s ⟨hv,cv+1,some ⟨.sl t0,.ow m0,cx⟩⟩) hdr' fp2 (.pend s hv (cv+1) (.el i :: p) t (xs++ys)) v':=by
  intro v' w' fp2 hd' hrun H2 T2 hh hp h1
  refine ⟨_,v',w',hd',fp2,ehd,hrun,H2,T2,.inr ⟨[v'],⟨one_cells h1,⟨hv,cv+1,some ⟨.sl t0,.ow m0,cx⟩⟩,by simp [put],Nat.le_refl _,fun _=>⟨Nat.le_refl _,fun _ c' hc' _ => ?_⟩⟩,rfl⟩⟩
  obtain rfl:=Option.some.inj hc'
  refine ⟨m,xs,hm,hg,?_⟩
  rw [hh]
  exact hp
 have samehdr:∀ (r:Nat),(if r=s then hdr s else hdr r)=hdr r:=fun r=>by split <;> simp_all
 have grow:∀ (olds:List Value),Inline (fun x f c=>Rep Z' w t m x f c) xs none_ olds→Has w A xs.length olds→cap<xs.length+ys.length→∃ hd v' w' hdr' fp2,cv0=[hd]∧(Builtin.append_ #[tid,tid] ty #[hd,.slice B ys.length c2]).run E.P w=.ok v' w'∧HR Z' w' (put (us.look sl) s ⟨hv,cv+1,some ⟨.sl t0,.ow m0,cx⟩⟩) hdr' fp2 ∧
  Trans Z' w (us.look sl) hdr fp' Z' w' (put (us.look sl) s ⟨hv,cv+1,some ⟨.sl t0,.ow m0,cx⟩⟩) hdr' fp2∧RelV Z' w' (put (us.look sl) s ⟨hv,cv+1,some ⟨.sl t0,.ow m0,cx⟩⟩) hdr' fp2 (.pend s hv (cv+1) (.el i :: p) t (xs++ys)) v':=by
  intro olds hi hh hlt
  have hkl:=Inline.len (fun x f c h=>Rep.len h) hi
  obtain ⟨z,hz,hrun⟩:=run_app_grow (E:=E) (w:=w) (ty:=ty) (A:=A) (B:=B) (sLen:=xs.length) (n:=ys.length) (sCap:=cap) (c:=c2) (olds:=olds) (news:=cs) hu hT hkl hh hl hhas hlt (by omega) (by omega)
  have hge:=grownCap_ge w (xs.length+ys.length) cap e
  have hdw:=step_drew S.hr
  have hal:=step_alloc hdw.1 s (.cells ((olds++cs)++z).toArray e)
  have hroot1:Rep Z' (w.drew.alloc (.cells ((olds++cs)++z).toArray e)) (.sl t0) (.ow m0) cx (fp' s) [hdr s] :=
   Rep.keep (w:=w) (fun b hb=>⟨hb,Go.RowKit.Below.heap_alloc w.drew _ b (S.hr.zlt b hb)⟩) (fun b hb=>Go.RowKit.Below.heap_alloc w.drew _ b (S.hr.lt s b hb)) hro
  obtain ⟨fp2,q1,q2,H2,T2⟩:=step_write hal.1 hs (b:=ba) (.inl FR.own) (w':=w.drew.alloc (.cells ((olds++cs)++z).toArray e)) (fun _ _=>rfl) rfl rfl rfl rfl hv (cv+1) ⟨.sl t0,.ow m0,cx⟩ (hdr s) (fp' s) hroot1 (.inl ⟨t0,rfl⟩) (fun k h=>.inl (.inl h)) (.inr ⟨rfl,Nat.lt_succ_self _,rfl⟩)
  have hnew:Rep Z' (w.drew.alloc (.cells ((olds++cs)++z).toArray e)) (.sl t) (.ow m) (xs++ys) (fun k=>k=w.heap.size) [.slice (some ⟨w.heap.size,0,none⟩) (xs.length+ys.length) (grownCap w (xs.length+ys.length) cap e)]:=by
   have hla:(xs++ys).length=xs.length+ys.length:=List.length_append
   have happ:=Inline.app (fp:=none_) (bare hi:Inline (fun x f c=>Rep Z' w t m x f c) xs none_ olds) (bare S.inl:Inline (fun x f c=>Rep Z' w t m x f c) ys none_ cs) (fun _ h=>h.elim) (fun _ h=>h) (fun _ h=>h)
   have happ':Inline (fun x f c=>Rep Z' (w.drew.alloc (.cells ((olds++cs)++z).toArray e)) t m x f c) (xs++ys) none_ (olds++cs) :=
    keep_inline (w:=w) (fun b hb=>Go.RowKit.Below.heap_alloc w.drew _ b (S.hr.zlt b hb)) (fun b hb=>hb.elim) happ
   obtain ⟨fps,css,r1,r2⟩:=elems_of_inline (sz:=t.size) (b:=w.heap.size) (o:=0) (fun x f c h=>Rep.len h) happ' (At.app.1 (at_alloc w.drew ((olds++cs)++z) e)).1 (fun h=>h)
   refine ⟨some ⟨w.heap.size,0,none⟩,_,by rw [hla],.inr ⟨w.heap.size,0,((olds++cs)++z).toArray,e,rfl,rfl,?_,?_,by rw [hla]; exact hge,fps,css,fun j x hx=>let ⟨a1,a2,a3,a4⟩:=r1 j x hx; ⟨a1,a2,a3,fun k hk=>(a4 k hk).1.elim⟩,r2⟩⟩
   ·show (w.heap.push _)[w.heap.size]?=_
    simp
   ·rw [List.size_toArray,List.length_append,List.length_append,hkl,hl,hz,← Nat.add_mul,← Nat.add_mul,Nat.zero_add]; exact Nat.mul_le_mul_right _ (by omega)
  refine fin _ _ fp2 _ hrun H2 ((hdw.2.comp hal.2).comp T2) (by simp) (.inr ⟨w.heap.size,hnew,q2 _ (.inr ⟨rfl,rfl⟩),.inl (hroot1.mono (fun k hk=>⟨q1 k hk,fun e => ?_⟩))⟩) rfl
  have:=S.hr.lt s k hk
  omega
 rcases hrow with ⟨hx,hc⟩ | ⟨b,o',c,el,rfl,h1,h2,h3,h4,h5⟩
 ·by_cases h0:ys.length=0
  ·have hy:ys=[]:=List.eq_nil_of_length_eq_zero h0
   subst hx; subst hc; subst hy
   have hrun:=run_app_fit (E:=E) (w:=w) (ty:=ty) (w':=w) (A:=A) (B:=B) (sLen:=0) (n:=0) (sCap:=0) (c:=c2) (news:=[]) hu hT (by simp) (.inl ⟨rfl,rfl⟩) (by omega) (.inl ⟨rfl,rfl⟩)
   obtain ⟨fp2,q1,q2,H2,T2⟩:=step_write S.hr hs (b:=ba) FR.own (w':=w) (fun _ _=>rfl) rfl rfl rfl rfl hv (cv+1) ⟨.sl t0,.ow m0,cx⟩ (hdr s) (fp' s) hro (.inl ⟨t0,rfl⟩) (fun k h=>.inl h) (.inr ⟨rfl,Nat.lt_succ_self _,rfl⟩)
   exact fin _ w fp2 _ hrun H2 T2 (by simp) (.inl ⟨A,0,rfl,.inl ⟨rfl,rfl⟩⟩) rfl
  ·refine grow [] (by rw [hx]; exact rfl) (.inl ⟨by rw [hx]; rfl,rfl⟩) (by rw [hc,hx]; simp; omega)
 ·obtain ⟨ks,hi,hat,hkl⟩:=inline_of_elems h5
  by_cases hroom:xs.length+ys.length≤cap
  ·have hbb:ba≠b:=fun e=>FR.not (e ▸ h1)
   have hsb:fp' s b:=FR.sub _ h1
   obtain ⟨fps,css,r1,r2⟩:=elems_of_inline (sz:=t.size) (fun x f c h=>Rep.len h) (bare hi:Inline (fun x f c=>Rep Z' w t m x f c) xs none_ ks) hat (fun h=>h)
   have hel:Elems (fun x f c=>Rep Z' w t m x f c) t.size w b o' xs (fun k=>k=b):=⟨fps,css,fun j x hx=>let ⟨a1,a2,a3,a4⟩:=r1 j x hx; ⟨a1,a2,a3,fun k hk=>(a4 k hk).1.elim⟩,r2⟩
   obtain ⟨w',hrun,g1,g2,g3,g4,g5,g6,g7⟩:=fill_room (P:=E.P) (f:=fun k=>k=b) (F:=none_) (fun hz=>S.hr.dz _ _ hsb hz) (fun h=>h) (fun _ h=>h.elim) rfl h2 h3 hel (bare S.inl) hroom
   have hrun':=run_app_fit (E:=E) (w:=w) (ty:=ty) (A:=some ⟨b,o',none⟩) (B:=B) (sLen:=xs.length) (n:=ys.length) (sCap:=cap) (c:=c2) (news:=cs) hu hT hl hhas hroom (.inr ⟨b,o',rfl,hrun⟩)
   have hroot:=FR.put w' xs [.slice (some ⟨b,o',none⟩) xs.length cap] (fun k=>k=b) (fun k hk=>g1 k (fun e=>S.hr.dz _ _ hsb (e ▸ hk))) (fun k hk hn _=>g1 k (fun e=>hn (e ▸ h1))) ⟨fun j _=>World.cell?_of_block (a:=⟨ba,j,none⟩) (g1 ba hbb),fun c0 e0 h=>⟨c0,by rw [g1 ba hbb]; exact h,rfl⟩⟩
    g6 (by rw [← ehd]; intro j hj; rw [← FR.at_ j hj]; exact World.cell?_of_block (a:=⟨ba,_,none⟩) (g1 ba hbb)) (fun k hk _=>by rw [show k=b from hk]; exact h1) (fun h=>hbb h)
   obtain ⟨hroot,hsub'⟩:=hroot
   rw [setP_same (.el i :: p) hg] at hroot
   obtain ⟨fp2,q1,q2,H2,T2⟩:=step_write S.hr hs hsb g1 g2 g3 g4 g5 hv (cv+1) ⟨.sl t0,.ow m0,cx⟩ (hdr s) (fp' s) (hroot.mono (fun k hk=>hk.elim (fun h=>h.1) (fun h=>by rw [show k=b from h]; exact hsb))) (.inl ⟨t0,rfl⟩) (fun k h=>.inl h) (.inr ⟨rfl,Nat.lt_succ_self _,rfl⟩)
   have hcap0:0<cap∨(xs++ys=[]∧cap=0):=by
    by_cases h:cap=0
    ·right; exact ⟨List.eq_nil_of_length_eq_zero (by rw [List.length_append]; omega),h⟩
    ·left; omega
   rcases hcap0 with hcap0 | ⟨he,hcap0⟩
   ·refine fin _ w' fp2 _ hrun' H2 T2 (by simp) (.inr ⟨b,g7.mono (fun k hk=>hk.elim id (fun h=>h.elim)),q1 _ hsb,.inr ⟨o',xs.length,cap,?_,hcap0⟩⟩) rfl
    exact hsub'
   ·refine fin _ w' fp2 _ hrun' H2 T2 (by simp) (.inl ⟨some ⟨b,o',none⟩,cap,?_,.inl ⟨he,hcap0⟩⟩) rfl
    rw [List.length_append]
  ·exact grow ks (bare hi) (.inr ⟨b,o',rfl,hat⟩) (by omega)
end
section
variable {E:Env} {o:Oper} {a:Act} {w:World} {Z:Bs} {sl:Nat→Option Slot} {hdr:Nat→Value} {fp:Nat→Bs} {mv:MV}
theorem append_ok (hE:TTok E) (H:HR Z w sl hdr fp) {c:Call} {x y:Operand} {ty:TypeId} {h:OH} {us:Ups} {u v:MV} (ho:o.op=.call c) (hcal:c.callee=.builtin .append) (hargs:c.args.toList=[x,y]) (hty:c.argTypes.toList.take 2=[ty,ty])
 (hx:RelV Z w sl hdr fp u (a.eval x)) (hy:RelV Z w sl hdr fp v (a.eval y))
 (hh:appendK E sl h ty u v (fun m u=>some (m,u))=some (mv,us)):OpOK E o a w Z sl hdr fp mv (us.look sl):=by
 have harr:c.args = #[x,y]:=Array.toList_inj.1 (by simpa using hargs)
 obtain ⟨tys,htys⟩:∃ tys,c.argTypes.toList=ty :: ty :: tys:=by
  match h:c.argTypes.toList,hty with
  | a :: b :: l,hty=>simp only [List.take_succ_cons,List.take_zero,List.cons.injEq,and_true] at hty; obtain ⟨rfl,rfl⟩:=hty; exact ⟨l,rfl⟩
 have hrun:∀ v' w',(Builtin.append_ #[ty,ty] o.type #[a.eval x,a.eval y]).run E.P w=.ok v' w'→(execOp a.eval o).run E.P w=.ok (.value v') w':=by
  intro v' w' hr
  have ht0:c.argTypes[0]?=some ty:=by rw [← Array.getElem?_toList,htys]; rfl
  have ht1:c.argTypes[1]?=some ty:=by rw [← Array.getElem?_toList,htys]; rfl
  have hsame:Builtin.append_ c.argTypes o.type #[a.eval x,a.eval y]=Builtin.append_ #[ty,ty] o.type #[a.eval x,a.eval y]:=by
   simp only [Builtin.append_,ht0,ht1]; rfl
  unfold execOp; rw [ho]
  simp only [resolve,hcal,harr,pure_bind,invoke,builtin]
  simp only [Sem.run_bind,List.map_toArray,List.map_cons,List.map_nil,hsame,hr,Result.andThen_ok,Sem.run_pure]
 unfold appendK at hh
 split at hh
 ·rename_i t bytes htt
  have hT:=hE _ _ _ htt
  obtain ⟨e,ne,hu,hel⟩:=hT.desc
  have hTe:=hE _ _ _ hel
  split at hh
  ·-- nil
   split at hh
   ·rename_i n _ _
    split at hh
    ·rename_i S hS
     split at hh
     ·rename_i ys us1 hsrc
      cases hb0:us1.any (fun u=>Nat.beq u.1 n) with
      | true=>rw [hb0] at hh; cases hh
      | false =>
      rw [hb0] at hh
      simp only [cond_false] at hh
      obtain ⟨hb,hh⟩:=chk_some hh
      simp only [Option.some.injEq,Prod.mk.injEq] at hh
      obtain ⟨rfl,rfl⟩:=hh
      have hb:=lenB_ok hb
      have hl:ys.length≤70368744177664:=by omega
      have hbb:ys.length*ne≤68719476736*1024:=Nat.mul_le_mul hb hTe.small
      obtain ⟨Z',fp',F,cs,SR⟩:=srcOf_ok H hsrc hy
      rcases hx with h0 | ⟨cx,⟨A,hA⟩,he⟩
      ·cases h0
      have hev:a.eval x=.slice A 0 0:=by rw [he,hA]; rfl
      have hn:us1.look sl n=some S:=(look_other hb0).trans hS
      obtain ⟨v',w',hdr',fp2,g1,g2,g3,g4,g5⟩:=app_new (E:=E) (ty:=o.type) (A:=A) SR hu hTe (by omega) hl hn
      rw [look_cons]
      refine .val (hrun _ _ (by rw [hev]; exact g1)) g2 (SR.tr.comp g3) ?_
      have:=relV_root (Z:=Z') (w:=w') (sl:=put (us1.look sl) n ⟨S.hv+1,0,some ⟨.sl t,.ow h.m,ys⟩⟩) (hdr:=hdr') (fp:=fp2) (n:=n) (S:=S) (c:=⟨.sl t,.ow h.m,ys⟩) (by rw [g4]; exact g5) (by simp [put])
      rw [g4] at this; exact this
     ·cases hh
    ·cases hh
   ·cases hh
  ·-- root
   rename_i s hv
   split at hh
   ·rename_i cv t' m xs hlk
    split at hh
    ·rename_i e1; subst e1
     split at hh
     ·rename_i ys us1 hsrc
      cases hb0:us1.any (fun u=>Nat.beq u.1 s) with
      | true=>rw [hb0] at hh; cases hh
      | false =>
       rw [hb0] at hh
       simp only [cond_false] at hh
       obtain ⟨hb,hh⟩:=chk_some hh
       simp only [Option.some.injEq,Prod.mk.injEq] at hh
       obtain ⟨rfl,rfl⟩:=hh
       have hb:=lenB_ok hb
       have hl:xs.length+ys.length≤70368744177664:=by omega
       have hbb:(xs.length+ys.length)*ne≤68719476736*1024:=Nat.mul_le_mul hb hTe.small
       obtain ⟨Z',fp',F,cs,SR⟩:=srcOf_ok H hsrc hy
       have e2:=lookH_some hlk
       rcases hx with h0 | ⟨cx,⟨_,S0,q1,_,q3⟩,he⟩
       ·cases h0
       rw [e2] at q1; obtain rfl:=Option.some.inj q1
       obtain rfl:=q3 rfl _ rfl
       have hev:a.eval x=hdr s:=by rw [he]; rfl
       obtain ⟨v',w',hdr',fp2,g1,g2,g3,g4,g5⟩:=app_root (E:=E) (ty:=o.type) SR hu hTe (by omega) hl ((look_other hb0).trans e2)
       rw [look_cons]
       refine .val (hrun _ _ (by rw [hev]; exact g1)) g2 (SR.tr.comp g3) ?_
       have:=relV_root (Z:=Z') (w:=w') (sl:=put (us1.look sl) s ⟨hv+1,0,some ⟨.sl t',.ow m,xs++ys⟩⟩) (hdr:=hdr') (fp:=fp2) (n:=s) (S:=⟨hv,cv,none⟩) (c:=⟨.sl t',.ow m,xs++ys⟩) (by rw [g4]; exact g5) (by simp [put])
       rw [g4] at this; exact this
     ·cases hh
    ·cases hh
   ·cases hh
  ·-- view
   rename_i s hv cv p0 p1 t' xs
   split at hh
   ·rename_i c0 hlk
    simp only at hh
    split at hh
    ·rename_i m0 m hm0 hmk
     split at hh
     ·rename_i e1; subst e1
      split at hh
      ·rename_i ys us1 hsrc
       cases hb0:(us1.any (fun u=>Nat.beq u.1 s) || !(t'.flat || t'.shared m)) with
       | true=>rw [hb0] at hh; cases hh
       | false =>
        rw [hb0] at hh
        simp only [cond_false] at hh
        simp only [Bool.or_eq_false_iff,Bool.not_eq_false'] at hb0
        obtain ⟨hb,hh⟩:=chk_some hh
        simp only [Option.some.injEq,Prod.mk.injEq] at hh
        obtain ⟨rfl,rfl⟩:=hh
        have hb:=lenB_ok hb
        have hl:xs.length+ys.length≤70368744177664:=by omega
        have hbb:(xs.length+ys.length)*ne≤68719476736*1024:=Nat.mul_le_mul hb hTe.small
        obtain ⟨Z',fp',F,cs,SR⟩:=srcOf_ok H hsrc hy
        have e2:=lookC_some hlk
        rcases hx with h0 | ⟨cx,⟨hcl,S0,q1,_,q3⟩,he⟩
        ·cases h0
        rw [e2] at q1; obtain rfl:=Option.some.inj q1
        obtain ⟨_,hp⟩:=(q3 rfl).2 rfl c0 rfl
        obtain ⟨hg,hsb⟩:=hp _ rfl
        have how:c0.m.isOw=true:=by rw [hm0]; rfl
        have hs1:=(look_other hb0.1).trans e2
        have hsubc:subc w c0.t [hdr s] (p0 :: p1)=some cx:=(hsb how).1
        obtain ⟨hd,v',w',hdr',fp2,g0,g1,g2,g3,g4⟩:=app_view (E:=E) (ty:=o.type) SR hu hTe (by omega) hl hb0.2 hs1 how hg hmk hsubc
        have hev:a.eval x=hd:=by rw [he,g0]; rfl
        rw [look_cons]
        exact .val (hrun _ _ (by rw [hev]; exact g1)) g2 (SR.tr.comp g3) g4
      ·cases hh
     ·cases hh
    ·cases hh
   ·cases hh
  ·cases hh
 ·cases hh
end
theorem headT_some {t:Ty} {x:(Ty.sl t).den} {v:t.den} (h:headT t x=some v):(show List t.den from x)[0]?=some v:=by
 have h:(match (show List t.den from x) with
  | v :: _=>some v
  | []=>none)=some v:=h
 split at h
 ·rename_i e; obtain rfl:=Option.some.inj h; show (show List t.den from x)[0]?=_; rw [e]; rfl
 ·cases h
def RepA (Z:Bs) (w:World) (n:Nat) (hd:Nat→Value):Arg→List Value→Prop
 | .dyn t x,vs=>∃ cs,Rep Z w t .im x none_ cs∧vs=[t.val cs]
 | .nil,vs=>∃ A,vs=[.slice A 0 0]
 | .iad t x,vs=>∃ b o ks,vs=[.pointer (some ⟨b,o,none⟩)]∧At w b o ks∧Z b∧Rep Z w t .im x none_ ks
 | .fn f caps,vs=>∃ ks,vs=[.func (.func f) #[] ks.toArray]∧RepA Z w n hd caps ks
 | .icl a,vs=>∃ b o v,vs=[.pointer (some ⟨b,o,none⟩)]∧At w b o [v]∧Z b∧RepA Z w n hd a [v]
 | .tc a b,vs=>∃ v vs',vs=v :: vs'∧RepA Z w n hd a [v]∧RepA Z w n hd b vs'
 | .tn,vs=>vs=[]
 | .mr k,vs=>k<n∧vs=[hd k]∧Cells 1 vs
 | .mp k t,vs=>k<n∧∃ b o l cap,hd k=.slice (some ⟨b,o,none⟩) l cap∧vs=[.pointer (some ⟨b,o,none⟩)]
def RepC (Z:Bs) (w:World):(a:Ty)→Mk→a.den→Bs→Value→Prop
 | .ex .cell t _,m,x,f,v=>∃ b o l cap,v=.pointer (some ⟨b,o,none⟩)∧Rep Z w (.sl t) (.ow m) ([x]:List t.den) f [.slice (some ⟨b,o,none⟩) l cap]
 | a,m,x,f,v=>∃ cs,Rep Z w a m x f cs∧v=a.val cs
def RepR (Z:Bs) (w:World):(t:Ty)→Mk→t.den→Bs→List Value→Prop
 | .pair a b,m,x,F,vs=>∃ v vs' f1 f2,vs=v :: vs'∧RepC Z w a m.l x.1 f1 v∧RepR Z w b m.r x.2 f2 vs'∧(∀ k,f1 k→F k)∧(∀ k,f2 k→F k)∧∀ k,f1 k→¬ f2 k
 | .unit,_,_,_,vs=>vs=[]
 | _,_,_,_,_=>False
def retVal:List Value→Value
 | [v]=>v
 | vs=>.tuple vs.toArray
def ioSl (ios:List SlotC):Nat→Option Slot:=fun k=>(ios[k]?).map fun c=>⟨0,0,some c⟩
def ioSlO (ios:List (Option SlotC)):Nat→Option Slot:=fun k=>((ios[k]?).bind id).map fun c=>⟨0,0,some c⟩
structure CallPost (Z:Bs) (w:World) (hd:Nat→Value) (fp:Nat→Bs) (ios:List SlotC) (t:Ty) (m:Mk) (x:t.den) (ios':List (Option SlotC)) (e:Ending) (w':World) (Z':Bs) (fp':Nat→Bs) (F:Bs) (vs:List Value):Prop where
 ret:e=.returned (retVal vs)
 old:∀ b,b<w.heap.size→(∀ k,¬ fp k b)→w'.heap[b]?=w.heap[b]?
 size:w.heap.size≤w'.heap.size
 os:w'.os=w.os
 tape:w'.tape=w.tape
 output:w'.output=w.output
 z:∀ b,Z b→Z' b
 zn:∀ b,Z' b→b<w'.heap.size∧(Z b∨(∃ k,fp k b)∨¬ b<w.heap.size)
 f:∀ b,F b→((∃ k,fp k b)∨¬ b<w.heap.size)∧b<w'.heap.size∧¬ Z' b∧∀ k,¬ fp' k b
 iof:∀ k b,fp' k b→k<ios.length∧((∃ j,fp j b)∨¬ b<w.heap.size)
 len:ios'.length=ios.length
 io:HR Z' w' (ioSlO ios') hd fp'
 rep:RepR Z' w' t m x F vs
def CallOK (P:Program) (f:FuncId) (arg:Arg) (ios:List SlotC) (c:CallRes):Prop :=
 (∃ fn,P.funcs[f]?=some fn∧fn.body.isSome=true∧(fn.name == "runtime.NumGoroutine")=false)∧∀ r,c.run=some r→∀ (Z:Bs) (w:World) (hd:Nat→Value) (fp:Nat→Bs) (vs:List Value),HR Z w (ioSl ios) hd fp→(∀ k b,fp k b→k<ios.length)→RepA Z w ios.length hd arg vs →
  Calls P f vs.toArray w fun e w'=>∃ Z' fp' F us,CallPost Z w hd fp ios c.t c.m (c.out r) (c.io r) e w' Z' fp' F us
def panCh (T:TypeId):List PanicEntry:=[{ v:=.iface T (.agg #[]),recovered:=false }]
structure PanPost (w:World) (fp:Nat→Bs) (w':World):Prop where
 old:∀ b,b<w.heap.size→(∀ k,¬ fp k b)→w'.heap[b]?=w.heap[b]?
 size:w.heap.size≤w'.heap.size
 os:w'.os=w.os
 tape:w'.tape=w.tape
 output:w'.output=w.output
def CallPK (P:Program) (f:FuncId) (arg:Arg) (ios:List SlotC) (c:CallResP):Prop :=
 (∃ fn,P.funcs[f]?=some fn∧fn.body.isSome=true∧(fn.name == "runtime.NumGoroutine")=false)∧∀ r,c.run=some r→∀ (Z:Bs) (w:World) (hd:Nat→Value) (fp:Nat→Bs) (vs:List Value),HR Z w (ioSl ios) hd fp→(∀ k b,fp k b→k<ios.length)→RepA Z w ios.length hd arg vs →
  Calls P f vs.toArray w fun e w'=>match r with
   | .inl _=>e=.panicked (panCh c.T)∧PanPost w fp w'
   | .inr x=>∃ Z' fp' F us,CallPost Z w hd fp ios c.t c.m (c.out x) (c.io x) e w' Z' fp' F us
structure EnvOK (E:Env):Prop where
 ok:∀ f arg ios c,E.Γ f arg ios=some c→CallOK E.P f arg ios c
 pk:∀ f arg ios c,E.Γp f arg ios=some c→CallPK E.P f arg ios c
section
variable {E:Env} {o:Oper} {a:Act} {w:World} {Z:Bs} {sl:Nat→Option Slot} {hdr:Nat→Value} {fp:Nat→Bs} {mv:MV}
theorem RepA.more {Z Z':Bs} {n:Nat} {hd:Nat→Value} (hZ:∀ b,Z b→Z' b):∀ {a:Arg} {vs:List Value},RepA Z w n hd a vs→RepA Z' w n hd a vs
 | .dyn t x,_,⟨cs,h,e⟩=>⟨cs,h.more hZ,e⟩
 | .nil,_,h=>h
 | .iad t x,_,⟨b,o,ks,e,h1,h2,h3⟩=>⟨b,o,ks,e,h1,hZ b h2,h3.more hZ⟩
 | .fn f caps,_,⟨ks,e,h⟩=>⟨ks,e,h.more hZ⟩
 | .icl a,_,⟨b,o,ks,e,h1,h2,h⟩=>⟨b,o,ks,e,h1,hZ b h2,h.more hZ⟩
 | .tc a b,_,⟨v,vs,e,h1,h2⟩=>⟨v,vs,e,h1.more hZ,h2.more hZ⟩
 | .tn,_,h=>h
 | .mr _,_,h=>h
 | .mp _ _,_,h=>h
theorem posN_some:∀ {mu:List Nat} {s k:Nat},posN mu s=some k→k<mu.length∧mu.getD k 0=s
 | [],_,_,h=>by cases h
 | a :: l,s,k,h=>by
  simp only [posN] at h
  cases hb:Nat.beq a s with
  | true =>
   rw [hb] at h
   obtain rfl:=Option.some.inj h
   exact ⟨by simp,Nat.eq_of_beq_eq_true hb⟩
  | false =>
   rw [hb] at h
   simp only [cond_false] at h
   split at h
   ·rename_i k' e
    obtain rfl:=Option.some.inj h
    obtain ⟨h1,h2⟩:=posN_some e
    exact ⟨by simp; omega,by simpa using h2⟩
   ·cases h
abbrev hdM (mu:List Nat) (hdr:Nat→Value):Nat→Value:=fun k=>hdr (mu.getD k 0)
def Lent (Z:Bs) (fp:Nat→Bs) (ss:List Nat):Bs:=fun b=>Z b∨∃ s∈ss,fp s b
theorem Lent.app1 {fp:Nat→Bs} {ss ss':List Nat}:∀ b,Lent Z fp ss b→Lent Z fp (ss++ss') b:=fun b hb=>hb.imp id (fun ⟨s,hs,h⟩=>⟨s,by simp [hs],h⟩)
theorem Lent.app2 {fp:Nat→Bs} {ss ss':List Nat}:∀ b,Lent Z fp ss' b→Lent Z fp (ss++ss') b:=fun b hb=>hb.imp id (fun ⟨s,hs,h⟩=>⟨s,by simp [hs],h⟩)
theorem argOf_dyn (H:HR Z w sl hdr fp) {mu:List Nat}:∀ {u:MV} {t:Ty} {x:t.den} {ss:List Nat} {cs:List Value},argOf sl mu u=some (.dyn t x,ss)→RelC Z w sl hdr fp u cs→Rep (Lent Z fp ss) w t .im x none_ cs∧u.agg=t.agg∧u.isL=false:=by
 intro u
 induction u with
 | val t x =>
  intro t' x' ss cs h hr
  simp only [argOf,Option.some.injEq,Prod.mk.injEq,Arg.dyn.injEq] at h
  obtain ⟨⟨rfl,h⟩,rfl⟩:=h
  obtain rfl:=eq_of_heq h
  exact ⟨Rep.more (fun b hb=>.inl hb) hr,rfl,rfl⟩
 | root s hv =>
  intro t' x' ss cs h hr
  simp only [argOf] at h
  split at h
  ·split at h <;> cases h
  split at h
  ·rename_i cv c hl
   simp only [Option.some.injEq,Prod.mk.injEq,Arg.dyn.injEq] at h
   obtain ⟨⟨rfl,h⟩,rfl⟩:=h
   obtain rfl:=eq_of_heq h
   have e2:=lookH_some hl
   obtain ⟨_,S,h1,_,h3⟩:=hr
   rw [e2] at h1; obtain rfl:=Option.some.inj h1
   obtain rfl:=h3 rfl c rfl
   refine ⟨(H.rep s _ _ _ e2).freeze (Z':=Lent Z fp [s]) (fun b hb=>hb.imp id (fun h=>⟨s,by simp,h⟩)),?_,rfl⟩
   rcases H.shape s _ _ _ e2 with ⟨t0,e⟩ | ⟨k0,v0,e⟩ <;> (simp only [e]; rfl)
  ·cases h
 | view s hv cv p t x =>
  intro t' x' ss cs h hr
  simp only [argOf] at h
  split at h
  ·rename_i c hl
   simp only [Option.some.injEq,Prod.mk.injEq,Arg.dyn.injEq] at h
   obtain ⟨⟨rfl,h⟩,rfl⟩:=h
   obtain rfl:=eq_of_heq h
   have e2:=lookC_some hl
   obtain ⟨_,S,h1,_,h3⟩:=hr
   rw [e2] at h1; obtain rfl:=Option.some.inj h1
   obtain ⟨⟨m,f,h4,h5,_⟩,_⟩:=(h3 rfl).2 rfl c rfl
   exact ⟨h4.freeze (Z':=Lent Z fp [s]) (fun b hb=>hb.imp id (fun h=>⟨s,by simp,h5 b h⟩)),rfl,rfl⟩
  ·cases h
 | pr x y ih1 ih2 =>
  intro t' x' ss cs h hr
  simp only [argOf] at h
  split at h
  ·rename_i ta xa sa ea
   split at h
   ·rename_i tb xb sb eb
    simp only [Option.some.injEq,Prod.mk.injEq,Arg.dyn.injEq] at h
    obtain ⟨⟨rfl,h⟩,rfl⟩:=h
    obtain rfl:=eq_of_heq h
    obtain ⟨c1,c2,rfl,h1,h2⟩:=hr
    exact ⟨⟨c1,c2,none_,none_,rfl,(ih1 ea h1).1.more Lent.app1,(ih2 eb h2).1.more Lent.app2,fun _ h=>h.elim,fun _ h=>h.elim,fun _ h=>h.elim⟩,rfl,rfl⟩
   ·cases h
  ·cases h
 | un =>
  intro t' x' ss cs h hr
  simp only [argOf,Option.some.injEq,Prod.mk.injEq,Arg.dyn.injEq] at h
  obtain ⟨⟨rfl,h⟩,rfl⟩:=h
  obtain rfl:=eq_of_heq h
  exact ⟨hr,rfl,rfl⟩
 | nv t x b0 =>
  intro t' x' ss cs h hr
  simp only [argOf,Option.some.injEq,Prod.mk.injEq,Arg.dyn.injEq] at h
  obtain ⟨⟨rfl,h⟩,rfl⟩:=h
  obtain rfl:=eq_of_heq h
  exact ⟨Rep.more (fun b hb=>.inl hb) hr.1,rfl,rfl⟩
 | nil=>intro t' x' ss cs h; cases h
 | iadr=>intro t' x' ss cs h; cases h
 | ptr s hv t =>
  intro t' x' ss cs h
  simp only [argOf] at h
  split at h
  ·split at h <;> cases h
  ·split at h
   ·split at h
    ·split at h <;> cases h
    ·cases h
   ·cases h
 | adr=>intro t' x' ss cs h; simp only [argOf] at h; split at h <;> cases h
 | fn f caps =>
  intro t' x' ss cs h
  simp only [argOf] at h
  cases hc:caps.isL with
  | false=>rw [hc] at h; cases h
  | true=>rw [hc] at h; simp only [cond_true] at h; split at h <;> cases h
 | icl m =>
  intro t' x' ss cs h
  simp only [argOf] at h
  cases hc:m.isL with
  | true=>rw [hc] at h; cases h
  | false=>rw [hc] at h; simp only [cond_false] at h; split at h <;> cases h
 | tc x y =>
  intro t' x' ss cs h
  simp only [argOf] at h
  cases hc:(!x.isL && y.isL) with
  | false=>rw [hc] at h; cases h
  | true=>rw [hc] at h; simp only [cond_true] at h; split at h <;> (try split at h) <;> cases h
 | tn=>intro t' x' ss cs h; cases h
 | dead=>intro t' x' ss cs h; cases h
 | meth=>intro t' x' ss cs h; cases h
 | pend=>intro t' x' ss cs h; cases h
theorem out_val {u:MV} {t:Ty} {cs:List Value} (h1:u.agg=t.agg) (h2:u.isL=false):u.out cs=t.val cs:=by
 cases u <;> first | (cases h2; done) | (simp only [MV.out,Ty.val,h1])
theorem argOf_ok (H:HR Z w sl hdr fp) {mu:List Nat}:∀ {u:MV} {ar:Arg} {ss:List Nat} {cs:List Value},argOf sl mu u=some (ar,ss)→RelC Z w sl hdr fp u cs→RepA (Lent Z fp ss) w mu.length (hdM mu hdr) ar (bif u.isL then cs else [u.out cs]):=by
 intro u
 have dyn:∀ {u:MV} {ar:Arg} {ss:List Nat} {cs:List Value},argOf sl mu u=some (ar,ss)→RelC Z w sl hdr fp u cs→(∃ t x,ar=.dyn t x)→RepA (Lent Z fp ss) w mu.length (hdM mu hdr) ar (bif u.isL then cs else [u.out cs]):=by
  rintro u ar ss cs h hr ⟨t,x,rfl⟩
  obtain ⟨g1,g2,g3⟩:=argOf_dyn H h hr
  rw [g3]
  exact ⟨cs,g1,by simp only [cond_false]; rw [out_val g2 g3]⟩
 induction u with
 | val t x=>intro ar ss cs h hr; exact dyn h hr (by simp only [argOf,Option.some.injEq,Prod.mk.injEq] at h; exact ⟨_,_,h.1.symm⟩)
 | root s hv =>
  intro ar ss cs h hr
  have h0:=h
  simp only [argOf] at h
  split at h
  ·rename_i k hk
   obtain ⟨k1,k2⟩:=posN_some hk
   split at h
   ·rename_i p hl
    obtain ⟨cv,c⟩:=p
    simp only [Option.some.injEq,Prod.mk.injEq] at h
    obtain ⟨rfl,rfl⟩:=h
    have e2:=lookH_some hl
    obtain ⟨hc,S,h1,_,h3⟩:=hr
    rw [e2] at h1; obtain rfl:=Option.some.inj h1
    obtain rfl:=h3 rfl c rfl
    refine ⟨k1,?_,?_⟩
    ·simp only [hdM,k2]; rfl
    ·exact hc
   ·cases h
  ·refine dyn h0 hr ?_
   split at h
   ·simp only [Option.some.injEq,Prod.mk.injEq] at h; exact ⟨_,_,h.1.symm⟩
   ·cases h
 | view s hv cv p t x =>
  intro ar ss cs h hr
  refine dyn h hr ?_
  simp only [argOf] at h
  split at h
  ·simp only [Option.some.injEq,Prod.mk.injEq] at h; exact ⟨_,_,h.1.symm⟩
  ·cases h
 | pr x y _ _ =>
  intro ar ss cs h hr
  refine dyn h hr ?_
  simp only [argOf] at h
  split at h
  ·split at h
   ·simp only [Option.some.injEq,Prod.mk.injEq] at h; exact ⟨_,_,h.1.symm⟩
   ·cases h
  ·cases h
 | nv t x b0=>intro ar ss cs h hr; exact dyn h hr (by simp only [argOf,Option.some.injEq,Prod.mk.injEq] at h; exact ⟨_,_,h.1.symm⟩)
 | un=>intro ar ss cs h hr; exact dyn h hr (by simp only [argOf,Option.some.injEq,Prod.mk.injEq] at h; exact ⟨_,_,h.1.symm⟩)
 | ptr s hv t =>
  intro ar ss cs h hr
  simp only [argOf] at h
  split at h
  ·rename_i k hk
   obtain ⟨k1,k2⟩:=posN_some hk
   split at h
   ·rename_i p hl
    obtain ⟨cv,c⟩:=p
    simp only [Option.some.injEq,Prod.mk.injEq] at h
    obtain ⟨rfl,rfl⟩:=h
    have e2:=lookH_some hl
    obtain ⟨_,S,h1,_,h3⟩:=hr
    rw [e2] at h1; obtain rfl:=Option.some.inj h1
    obtain ⟨b,o,l,cap,q1,rfl⟩:=h3 rfl c rfl
    exact ⟨k1,b,o,l,cap,by simp only [hdM,k2]; exact q1,rfl⟩
   ·cases h
  ·split at h
   ·rename_i cv c hl
    split at h
    ·rename_i et
     split at h
     ·rename_i v hx
      simp only [Option.some.injEq,Prod.mk.injEq] at h
      obtain ⟨rfl,rfl⟩:=h
      have e2:=lookH_some hl
      obtain ⟨_,S,h1,_,h3⟩:=hr
      rw [e2] at h1; obtain rfl:=Option.some.inj h1
      obtain ⟨ct,cm,cx⟩:=c
      simp only at et
      subst et
      have hrep:=H.rep s _ _ _ e2
      simp only at hrep
      have g0:=headT_some hx
      obtain ⟨b,o',cap,ks,m1,f1,hcs,hat,hr,hf,hb,hz,_⟩:=rep_el hrep g0
      obtain ⟨b2,o2,l2,cap2,e3,rfl⟩:=h3 rfl _ rfl
      rw [e3] at hcs
      simp only [List.cons.injEq,Value.slice.injEq,Option.some.injEq,Addr.mk.injEq,and_true] at hcs
      obtain ⟨⟨rfl,rfl⟩,rfl,rfl⟩:=hcs
      exact ⟨b2,_,ks,by rw [Nat.zero_mul,Nat.add_zero]; rfl,hat,hb.elim (fun h=>.inr ⟨s,by simp,h⟩) .inl,hr.freeze (Z':=Lent Z fp [s]) (fun b hb=>hb.imp id (fun h=>⟨s,by simp,hf b h⟩))⟩
     ·cases h
    ·cases h
   ·cases h
 | nil =>
  intro ar ss cs h hr
  simp only [argOf,Option.some.injEq,Prod.mk.injEq] at h
  obtain ⟨rfl,rfl⟩:=h
  obtain ⟨A,rfl⟩:=hr
  exact ⟨A,rfl⟩
 | iadr t x =>
  intro ar ss cs h hr
  simp only [argOf,Option.some.injEq,Prod.mk.injEq] at h
  obtain ⟨rfl,rfl⟩:=h
  obtain ⟨b,o,ks,rfl,h1,h2,h3⟩:=hr
  exact ⟨b,o,ks,rfl,h1,.inl h2,h3.more (fun b hb=>.inl hb)⟩
 | adr s hv cv p t x =>
  intro ar ss cs h hr
  simp only [argOf] at h
  split at h
  ·rename_i c hl
   simp only [Option.some.injEq,Prod.mk.injEq] at h
   obtain ⟨rfl,rfl⟩:=h
   have e2:=lookC_some hl
   obtain ⟨_,S,h1,_,h3⟩:=hr
   rw [e2] at h1; obtain rfl:=Option.some.inj h1
   obtain ⟨b,o,ks,rfl,h4,h5,_,⟨m,f,h6,h7,_⟩,_⟩:=(h3 rfl).2 rfl c rfl
   exact ⟨b,o,ks,rfl,h4,h5.elim (fun h=>.inr ⟨s,by simp,h⟩) .inl,h6.freeze (Z':=Lent Z fp [s]) (fun b hb=>hb.imp id (fun h=>⟨s,by simp,h7 b h⟩))⟩
  ·cases h
 | fn f caps ih =>
  intro ar ss cs h hr
  simp only [argOf] at h
  cases hc:caps.isL with
  | false=>rw [hc] at h; cases h
  | true =>
   rw [hc] at h
   simp only [cond_true] at h
   split at h
   ·rename_i x ss' e
    simp only [Option.some.injEq,Prod.mk.injEq] at h
    obtain ⟨rfl,rfl⟩:=h
    obtain ⟨ks,rfl,hk⟩:=hr
    have:=ih e hk
    rw [hc] at this
    exact ⟨ks,rfl,this⟩
   ·cases h
 | icl m ih =>
  intro ar ss cs h hr
  simp only [argOf] at h
  cases hc:m.isL with
  | true=>rw [hc] at h; cases h
  | false =>
   rw [hc] at h
   simp only [cond_false] at h
   split at h
   ·rename_i x ss' e
    simp only [Option.some.injEq,Prod.mk.injEq] at h
    obtain ⟨rfl,rfl⟩:=h
    obtain ⟨b,o,ks,rfl,h1,h2,hk⟩:=hr
    have:=ih e hk
    rw [hc] at this
    exact ⟨b,o,_,rfl,h1,.inl h2,this⟩
   ·cases h
 | tc x y ih1 ih2 =>
  intro ar ss cs h hr
  simp only [argOf] at h
  cases hc:(!x.isL && y.isL) with
  | false=>rw [hc] at h; cases h
  | true =>
   rw [hc] at h
   simp only [cond_true] at h
   simp only [Bool.and_eq_true,Bool.not_eq_true'] at hc
   split at h
   ·rename_i ax sx ex
    split at h
    ·rename_i ay sy ey
     simp only [Option.some.injEq,Prod.mk.injEq] at h
     obtain ⟨rfl,rfl⟩:=h
     obtain ⟨c1,v,vs,rfl,h1,h2⟩:=hr
     rcases h1 with rfl | ⟨h1,rfl⟩
     ·cases ex
     have g1:=(ih1 ex h1).more (Z':=Lent Z fp (sx++sy)) Lent.app1
     have g2:=(ih2 ey h2).more (Z':=Lent Z fp (sx++sy)) Lent.app2
     rw [hc.1] at g1
     rw [hc.2] at g2
     exact ⟨_,vs,rfl,g1,g2⟩
    ·cases h
   ·cases h
 | tn =>
  intro ar ss cs h hr
  simp only [argOf,Option.some.injEq,Prod.mk.injEq] at h
  obtain ⟨rfl,rfl⟩:=h
  exact hr
 | dead=>intro ar ss cs h; cases h
 | meth=>intro ar ss cs h; cases h
 | pend=>intro ar ss cs h; cases h
def Arg.chain:Arg→Bool
 | .tn=>true
 | .tc _ b=>b.chain
 | _=>false
theorem argOf_chain {mu:List Nat}:∀ {u:MV} {ar:Arg} {ss:List Nat},argOf sl mu u=some (ar,ss)→u.isL=true→ar.chain=true:=by
 intro u
 induction u with
 | tn =>
  intro ar ss h _
  simp only [argOf,Option.some.injEq,Prod.mk.injEq] at h
  obtain ⟨rfl,rfl⟩:=h
  rfl
 | tc x y ih1 ih2 =>
  intro ar ss h _
  simp only [argOf] at h
  cases hc:(!x.isL && y.isL) with
  | false=>rw [hc] at h; cases h
  | true =>
   rw [hc] at h
   simp only [cond_true] at h
   simp only [Bool.and_eq_true,Bool.not_eq_true'] at hc
   split at h
   ·split at h
    ·rename_i ay sy ey
     simp only [Option.some.injEq,Prod.mk.injEq] at h
     obtain ⟨rfl,rfl⟩:=h
     have:=ih2 ey hc.2; exact this
    ·cases h
   ·cases h
 | _=>intro ar ss _ h; cases h
theorem RepA.app {n:Nat} {hd:Nat→Value}:∀ {x y:Arg} {vs ws:List Value},x.chain=true→RepA Z w n hd x vs→RepA Z w n hd y ws→RepA Z w n hd (x.app y) (vs++ws)
 | .tn,y,vs,ws,_,h1,h2=>by rw [show vs=[] from h1]; exact h2
 | .tc a b,y,vs,ws,hc,⟨v,vs',e,h1,h3⟩,h2=>by
  rw [e]
  exact ⟨v,vs'++ws,rfl,h1,RepA.app hc h3 h2⟩
 | .dyn _ _,_,_,_,h,_,_ | .nil,_,_,_,h,_,_ | .iad _ _,_,_,_,h,_,_ | .fn _ _,_,_,_,h,_,_ | .icl _,_,_,_,h,_,_ | .mr _,_,_,_,h,_,_ | .mp _ _,_,_,_,h,_,_=>by cases h
theorem relC_tups:∀ (l:List MV) (vs:List Value),l.length=vs.length→(∀ (i:Nat) (u:MV) (v:Value),l[i]?=some u→vs[i]?=some v→RelV Z w sl hdr fp u v)→RelC Z w sl hdr fp (tups l) vs
 | [],[],_,_=>rfl
 | [],_ :: _,h,_=>by simp at h
 | _ :: _,[],h,_=>by simp at h
 | u :: l,v :: vs,h,hr=>by
  have h0:=hr 0 u v rfl rfl
  have ih:=relC_tups l vs (by simpa using h) (fun i u v h1 h2=>hr (i+1) u v (by simpa using h1) (by simpa using h2))
  rcases h0 with rfl | ⟨cs,h1,h2⟩
  ·exact ⟨[],v,vs,rfl,.inl rfl,ih⟩
  ·exact ⟨cs,v,vs,rfl,.inr ⟨h1,h2⟩,ih⟩
theorem tups_isL (l:List MV):(tups l).isL=true:=by cases l <;> rfl
theorem argOf_some {mu:List Nat}:∀ {u:MV} {ar:Arg} {ss:List Nat},argOf sl mu u=some (ar,ss)→∀ s∈ss,∃ S,sl s=some S:=by
 intro u
 have two:∀ {sx sy:List Nat},(∀ s∈sx,∃ S,sl s=some S)→(∀ s∈sy,∃ S,sl s=some S)→∀ s∈sx++sy,∃ S,sl s=some S:=fun h1 h2 s hs=>(List.mem_append.1 hs).elim (h1 s) (h2 s)
 induction u with
 | val t x=>intro ar ss h; simp only [argOf,Option.some.injEq,Prod.mk.injEq] at h; obtain ⟨_,rfl⟩:=h; intro s hs; cases hs
 | ptr s hv t =>
  intro ar ss h
  simp only [argOf] at h
  split at h
  ·split at h
   ·simp only [Option.some.injEq,Prod.mk.injEq] at h; obtain ⟨_,rfl⟩:=h; intro s hs; cases hs
   ·cases h
  ·split at h
   ·rename_i cv c hl
    split at h
    ·split at h
     ·simp only [Option.some.injEq,Prod.mk.injEq] at h
      obtain ⟨_,rfl⟩:=h
      intro s' hs
      obtain rfl:=List.mem_singleton.1 hs
      exact ⟨_,lookH_some hl⟩
     ·cases h
    ·cases h
   ·cases h
 | nil=>intro ar ss h; simp only [argOf,Option.some.injEq,Prod.mk.injEq] at h; obtain ⟨_,rfl⟩:=h; intro s hs; cases hs
 | iadr t x=>intro ar ss h; simp only [argOf,Option.some.injEq,Prod.mk.injEq] at h; obtain ⟨_,rfl⟩:=h; intro s hs; cases hs
 | nv t x b0=>intro ar ss h; simp only [argOf,Option.some.injEq,Prod.mk.injEq] at h; obtain ⟨_,rfl⟩:=h; intro s hs; cases hs
 | un=>intro ar ss h; simp only [argOf,Option.some.injEq,Prod.mk.injEq] at h; obtain ⟨_,rfl⟩:=h; intro s hs; cases hs
 | tn=>intro ar ss h; simp only [argOf,Option.some.injEq,Prod.mk.injEq] at h; obtain ⟨_,rfl⟩:=h; intro s hs; cases hs
 | root s hv =>
  intro ar ss h
  simp only [argOf] at h
  split at h
  ·split at h
   ·simp only [Option.some.injEq,Prod.mk.injEq] at h; obtain ⟨_,rfl⟩:=h; intro s hs; cases hs
   ·cases h
  split at h
  ·rename_i cv c hl
   simp only [Option.some.injEq,Prod.mk.injEq] at h
   obtain ⟨_,rfl⟩:=h
   intro s' hs
   obtain rfl:=List.mem_singleton.1 hs
   exact ⟨_,lookH_some hl⟩
  ·cases h
 | view s hv cv p t x =>
  intro ar ss h
  simp only [argOf] at h
  split at h
  ·rename_i c hl
   simp only [Option.some.injEq,Prod.mk.injEq] at h
   obtain ⟨_,rfl⟩:=h
   intro s' hs
   obtain rfl:=List.mem_singleton.1 hs
   exact ⟨_,lookC_some hl⟩
  ·cases h
 | adr s hv cv p t x =>
  intro ar ss h
  simp only [argOf] at h
  split at h
  ·rename_i c hl
   simp only [Option.some.injEq,Prod.mk.injEq] at h
   obtain ⟨_,rfl⟩:=h
   intro s' hs
   obtain rfl:=List.mem_singleton.1 hs
   exact ⟨_,lookC_some hl⟩
  ·cases h
 | pr x y ih1 ih2 =>
  intro ar ss h
  simp only [argOf] at h
  split at h
  ·rename_i ea
   split at h
   ·rename_i eb
    simp only [Option.some.injEq,Prod.mk.injEq] at h
    obtain ⟨_,rfl⟩:=h
    exact two (ih1 ea) (ih2 eb)
   ·cases h
  ·cases h
 | fn f caps ih =>
  intro ar ss h
  simp only [argOf] at h
  cases hc:caps.isL with
  | false=>rw [hc] at h; cases h
  | true =>
   rw [hc] at h
   simp only [cond_true] at h
   split at h
   ·rename_i e
    simp only [Option.some.injEq,Prod.mk.injEq] at h
    obtain ⟨_,rfl⟩:=h
    exact ih e
   ·cases h
 | icl m ih =>
  intro ar ss h
  simp only [argOf] at h
  cases hc:m.isL with
  | true=>rw [hc] at h; cases h
  | false =>
   rw [hc] at h
   simp only [cond_false] at h
   split at h
   ·rename_i e
    simp only [Option.some.injEq,Prod.mk.injEq] at h
    obtain ⟨_,rfl⟩:=h
    exact ih e
   ·cases h
 | tc x y ih1 ih2 =>
  intro ar ss h
  simp only [argOf] at h
  cases hc:(!x.isL && y.isL) with
  | false=>rw [hc] at h; cases h
  | true =>
   rw [hc] at h
   simp only [cond_true] at h
   split at h
   ·rename_i ex
    split at h
    ·rename_i ey
     simp only [Option.some.injEq,Prod.mk.injEq] at h
     obtain ⟨_,rfl⟩:=h
     exact two (ih1 ex) (ih2 ey)
    ·cases h
   ·cases h
 | dead=>intro ar ss h; cases h
 | meth=>intro ar ss h; cases h
 | pend=>intro ar ss h; cases h
theorem freezeAll_ok (H:HR Z w sl hdr fp):∀ (ss:List Nat),(∀ s∈ss,∃ S,sl s=some S)→∃ fp',HR (Lent Z fp ss) w ((freezeAll sl ss).look sl) hdr fp'∧Trans Z w sl hdr fp (Lent Z fp ss) w ((freezeAll sl ss).look sl) hdr fp' ∧
 (∀ s S,sl s=some S→(freezeAll sl ss).look sl s=some S∨(freezeAll sl ss).look sl s=some (frozen_ S))∧(∀ s,sl s=none→(freezeAll sl ss).look sl s=none)∧(∀ s b,fp' s b→fp s b)∧(∀ s b,fp s b→fp' s b∨Lent Z fp ss b)
 | [],_=>by
  have e:Lent Z fp []=Z:=by funext b; exact propext ⟨fun h=>h.elim id (fun ⟨s,h,_⟩=>by cases h),.inl⟩
  rw [e]
  exact ⟨fp,H,Trans.refl _ _ _ _ _,fun s S h=>.inl h,fun s h=>h,fun s b h=>h,fun s b h=>.inl h⟩
 | s :: ss,hss=>by
  obtain ⟨fp1,H1,T1,h1,h2,h3,h4⟩:=freezeAll_ok H ss (fun r hr=>hss r (by simp [hr]))
  obtain ⟨S,hS⟩:=hss s (by simp)
  simp only [freezeAll,hS]
  rw [look_cons]
  have ff:frozen_ (frozen_ S)=frozen_ S:=by obtain ⟨a,b,c⟩:=S; cases c <;> rfl
  obtain ⟨cur,hcur,hfz⟩:∃ cur,(freezeAll sl ss).look sl s=some cur∧frozen_ cur=frozen_ S:=by
   rcases h1 s S hS with h | h
   ·exact ⟨S,h,rfl⟩
   ·exact ⟨_,h,ff⟩
  obtain ⟨q1,q2⟩:=step_freeze H1 hcur
  rw [hfz] at q1 q2
  have e:(fun b=>Lent Z fp ss b∨fp1 s b)=Lent Z fp (s :: ss):=by
   funext b
   refine propext ⟨fun h => ?_,fun h => ?_⟩
   ·rcases h with h | h
    ·exact h.imp id (fun ⟨r,hr,h⟩=>⟨r,by simp [hr],h⟩)
    ·exact .inr ⟨s,by simp,h3 s b h⟩
   ·rcases h with h | ⟨r,hr,h⟩
    ·exact .inl (.inl h)
    ·rcases List.mem_cons.1 hr with rfl | hr
     ·exact (h4 _ b h).symm
     ·exact .inl (.inr ⟨r,hr,h⟩)
  rw [e] at q1 q2
  refine ⟨_,q1,T1.comp q2,fun r R hr => ?_,fun r hr => ?_,fun r b h => ?_,fun r b h => ?_⟩
  ·by_cases er:r=s
   ·subst er; rw [hS] at hr; obtain rfl:=Option.some.inj hr; exact .inr (by simp [put])
   ·simp only [put,if_neg er]; exact h1 r R hr
  ·by_cases er:r=s
   ·subst er; rw [hS] at hr; cases hr
   ·simp only [put,if_neg er]; exact h2 r hr
  ·by_cases er:r=s
   ·simp [er,none_] at h
   ·simp only [if_neg er] at h; exact h3 r b h
  ·by_cases er:r=s
   ·subst er; exact .inr (.inr ⟨_,by simp,h⟩)
   ·rcases h4 r b h with h | h
    ·exact .inl (by simp [er,h])
    ·exact .inr (h.imp id (fun ⟨r',hr,h⟩=>⟨r',by simp [hr],h⟩))
end
section
variable {E:Env} {o:Oper} {a:Act} {w:World} {Z:Bs} {sl:Nat→Option Slot} {hdr:Nat→Value} {fp:Nat→Bs} {mv:MV}
def fpM (mu:List Nat) (fp:Nat→Bs):Nat→Bs:=fun k b=>k<mu.length∧fp (mu.getD k 0) b
theorem nodup_inj:∀ {mu:List Nat},nodupB mu=true→∀ {i j:Nat},i<mu.length→j<mu.length→mu.getD i 0=mu.getD j 0→i=j
 | [],_,_,_,h,_,_=>by simp at h
 | a :: l,hn,i,j,hi,hj,he=>by
  simp only [nodupB,Bool.and_eq_true,Bool.not_eq_true'] at hn
  have no:∀ k,k<l.length→l.getD k 0≠a:=fun k hk e=>by
   have:l.elem a=true:=List.elem_iff.2 (by
    rw [← e,List.getD_eq_getElem?_getD,List.getElem?_eq_getElem hk]; exact List.getElem_mem hk)
   rw [this] at hn; cases hn.1
  cases i with
  | zero =>
   cases j with
   | zero=>rfl
   | succ j=>exact absurd he.symm (by simpa using no j (by simpa using hj))
  | succ i =>
   cases j with
   | zero=>exact absurd he (by simpa using no i (by simpa using hi))
   | succ j =>
    have e:i=j:=nodup_inj (mu:=l) hn.2 (by simpa using hi) (by simpa using hj) (by simpa using he)
    rw [e]
theorem ioOf_some:∀ {mu:List Nat} {l:List SlotC},ioOf sl mu=some l→l.length=mu.length∧∀ k c,l[k]?=some c→∃ hv cv,sl (mu.getD k 0)=some ⟨hv,cv,some c⟩
 | [],l,h=>by obtain rfl:=Option.some.inj h; exact ⟨rfl,fun k c h=>by simp at h⟩
 | s :: ss,l,h=>by
  simp only [ioOf] at h
  split at h
  ·rename_i hv cv c hs
   split at h
   ·rename_i l' e
    obtain rfl:=Option.some.inj h
    obtain ⟨h1,h2⟩:=ioOf_some e
    refine ⟨by simp [h1],fun k c' hk => ?_⟩
    cases k with
    | zero =>
     simp only [List.getElem?_cons_zero,Option.some.injEq] at hk
     subst hk
     exact ⟨hv,cv,hs⟩
    | succ k=>exact h2 k c' (by simpa using hk)
   ·cases h
  ·cases h
theorem ioUps_some:∀ {mu:List Nat} {l:List (Option SlotC)} {us:Ups},nodupB mu=true→ioUps sl mu l=some us→l.length=mu.length∧(∀ s,s ∉ mu→us.look sl s=sl s)∧(∀ k,k<mu.length→∃ S,sl (mu.getD k 0)=some S∧us.look sl (mu.getD k 0)=some (ioNew S ((l[k]?).bind id)))
 | [],[],us,_,h=>by obtain rfl:=Option.some.inj h; exact ⟨rfl,fun s _=>rfl,fun k h=>by simp at h⟩
 | s :: ss,c :: l,us,hn,h=>by
  simp only [ioUps] at h
  simp only [nodupB,Bool.and_eq_true,Bool.not_eq_true'] at hn
  split at h
  ·rename_i S hS
   split at h
   ·rename_i u e
    obtain rfl:=Option.some.inj h
    obtain ⟨h1,h2,h3⟩:=ioUps_some hn.2 e
    have hs:s ∉ ss:=fun hm=>by rw [List.elem_iff.2 hm] at hn; cases hn.1
    refine ⟨by simp [h1],fun r hr => ?_,fun k hk => ?_⟩
    ·simp only [List.mem_cons,not_or] at hr
     rw [look_cons]; simp only [put,if_neg hr.1]; exact h2 r hr.2
    ·cases k with
     | zero=>exact ⟨S,hS,by rw [look_cons]; simp [put]⟩
     | succ k =>
      obtain ⟨S',g1,g2⟩:=h3 k (by simpa using hk)
      refine ⟨S',by simpa using g1,?_⟩
      rw [look_cons]
      have:ss.getD k 0≠s:=fun e=>hs (by
       have hk':k<ss.length:=by simpa using hk
       rw [← e,List.getD_eq_getElem?_getD,List.getElem?_eq_getElem hk']; exact List.getElem_mem hk')
      simp only [put,List.getD_cons_succ,if_neg this,List.getElem?_cons_succ]
      exact g2
   ·cases h
  ·cases h
 | [],_ :: _,us,_,h=>by cases h
 | _ :: _,[],us,_,h=>by cases h
theorem step_call (H:HR Z w sl hdr fp) {w':World} {Zn F:Bs} {r0:Nat} {mu:List Nat} {ios:List (Option SlotC)} {us:Ups} {fpc:Nat→Bs} (hr0:sl r0=none) (hnd:nodupB mu=true) (hio:ioUps sl mu ios=some us) (hiw:∀ k S,k<mu.length→sl (mu.getD k 0)=some S→∃ c,S.c=some c) (hz:∀ b,Z b→Zn b)
 (hzn:∀ b,Zn b→b<w'.heap.size∧(Z b∨(∃ k,fpM mu fp k b)∨¬ b<w.heap.size)) (hold:∀ b,b<w.heap.size→(∀ k,¬ fpM mu fp k b)→w'.heap[b]?=w.heap[b]?) (hsz:w.heap.size≤w'.heap.size)
 (hos:w'.os=w.os) (htp:w'.tape=w.tape) (hout:w'.output=w.output) (hF:∀ b,F b→((∃ k,fpM mu fp k b)∨¬ b<w.heap.size)∧b<w'.heap.size∧¬ Zn b∧∀ k,¬ fpc k b)
 (hiof:∀ k b,fpc k b→k<mu.length∧((∃ j,fpM mu fp j b)∨¬ b<w.heap.size)) (HC:HR Zn w' (ioSlO ios) (hdM mu hdr) fpc) :
 HR Zn w' (us.look sl) hdr (fun r b=>(r ∉ mu∧fp r b)∨(∃ k,k<mu.length∧mu.getD k 0=r∧fpc k b)∨r=r0∧F b)∧Trans Z w sl hdr fp Zn w' (us.look sl) hdr (fun r b=>(r ∉ mu∧fp r b)∨(∃ k,k<mu.length∧mu.getD k 0=r∧fpc k b)∨r=r0∧F b)∧us.look sl r0=none:=by
 obtain ⟨hlen,hout_,hin⟩:=ioUps_some hnd hio
 have mem:∀ {k},k<mu.length→mu.getD k 0∈mu:=fun hk=>by rw [List.getD_eq_getElem?_getD,List.getElem?_eq_getElem hk]; exact List.getElem_mem hk
 have idx:∀ {r},r∈mu→∃ k,k<mu.length∧mu.getD k 0=r:=fun hr=>by
  obtain ⟨k,hk,e⟩:=List.mem_iff_getElem.1 hr
  exact ⟨k,hk,by rw [List.getD_eq_getElem?_getD,List.getElem?_eq_getElem hk]; exact e⟩
 have off:∀ {r b},r ∉ mu→fp r b→∀ k,¬ fpM mu fp k b:=fun hr hb k hk=>hr (by rw [H.disj _ _ _ hb hk.2]; exact mem hk.1)
 have zoff:∀ {b},Z b→∀ k,¬ fpM mu fp k b:=fun hb k hk=>H.dz _ _ hk.2 hb
 have r0mu:r0 ∉ mu:=fun hm=>by
  obtain ⟨k,hk,e⟩:=idx hm
  obtain ⟨S,h1,_⟩:=hin k hk
  rw [e,hr0] at h1; cases h1
 refine ⟨⟨fun r hv cv c h => ?_,fun r hv cv c h => ?_,fun r r' b h h' => ?_,fun r b h => ?_,fun b h=>(hzn b h).1,fun r b h hz' => ?_⟩,
  ⟨fun b h=>⟨hz b h,hold b (H.zlt b h) (zoff h)⟩,fun r S h => ?_,fun b hb h1 h2=>⟨hold b hb (fun k hk=>h1 _ hk.2),fun r h => ?_,fun h => ?_⟩,hsz,hos,htp,hout⟩,(hout_ r0 r0mu).trans hr0⟩
 ·by_cases hm:r∈mu
  ·obtain ⟨k,hk,rfl⟩:=idx hm
   obtain ⟨S,_,h1⟩:=hin k hk
   rw [h1] at h
   cases hc:(ios[k]?).bind id with
   | none=>rw [hc] at h; simp [ioNew] at h
   | some c0 =>
   rw [hc] at h
   simp only [ioNew,Option.some.injEq,Slot.mk.injEq] at h
   obtain ⟨_,_,rfl⟩:=h
   have:=HC.rep k 0 0 c0 (by simp [ioSlO,hc])
   exact this.mono (fun b hb=>.inr (.inl ⟨k,hk,rfl,hb⟩))
  ·rw [hout_ r hm] at h
   exact ((H.rep r hv cv c h).keep (fun b hb=>⟨hz b hb,hold b (H.zlt b hb) (zoff hb)⟩) (fun b hb=>hold b (H.lt r b hb) (off hm hb))).mono (fun b hb=>.inl ⟨hm,hb⟩)
 ·by_cases hm:r∈mu
  ·obtain ⟨k,hk,rfl⟩:=idx hm
   obtain ⟨S,_,h1⟩:=hin k hk
   rw [h1] at h
   cases hc:(ios[k]?).bind id with
   | none=>rw [hc] at h; simp [ioNew] at h
   | some c0 =>
   rw [hc] at h
   simp only [ioNew,Option.some.injEq,Slot.mk.injEq] at h
   obtain ⟨_,_,rfl⟩:=h
   exact HC.shape k 0 0 c0 (by simp [ioSlO,hc])
  ·rw [hout_ r hm] at h; exact H.shape r hv cv c h
 ·have old_new:∀ {r b},r ∉ mu→fp r b→((∃ k,fpM mu fp k b)∨¬ b<w.heap.size)→False:=fun hm hb h=>h.elim (fun ⟨k,hk⟩=>off hm hb k hk) (fun h=>h (H.lt _ _ hb))
  rcases h with ⟨hm,h⟩ | ⟨k,hk,e,h⟩ | ⟨e,h⟩ <;> rcases h' with ⟨hm',h'⟩ | ⟨k',hk',e',h'⟩ | ⟨e',h'⟩
  ·exact H.disj _ _ _ h h'
  ·exact (old_new hm h (hiof _ _ h').2).elim
  ·exact (old_new hm h (hF _ h').1).elim
  ·exact (old_new hm' h' (hiof _ _ h).2).elim
  ·obtain rfl:=HC.disj _ _ _ h h'; exact e.symm.trans e'
  ·exact ((hF _ h').2.2.2 _ h).elim
  ·exact (old_new hm' h' (hF _ h).1).elim
  ·exact ((hF _ h).2.2.2 _ h').elim
  ·exact e.trans e'.symm
 ·rcases h with ⟨_,h⟩ | ⟨k,_,_,h⟩ | ⟨_,h⟩
  ·exact Nat.lt_of_lt_of_le (H.lt _ _ h) hsz
  ·exact HC.lt _ _ h
  ·exact (hF b h).2.1
 ·rcases h with ⟨hm,h⟩ | ⟨k,_,_,h⟩ | ⟨_,h⟩
  ·rcases (hzn b hz').2 with h2 | ⟨k,h2⟩ | h2
   ·exact H.dz _ _ h h2
   ·exact off hm h k h2
   ·exact h2 (H.lt _ _ h)
  ·exact HC.dz _ _ h hz'
  ·exact (hF b h).2.2.1 hz'
 ·by_cases hm:r∈mu
  ·obtain ⟨k,hk,rfl⟩:=idx hm
   obtain ⟨S',h0,h1⟩:=hin k hk
   rw [h0] at h; obtain rfl:=Option.some.inj h
   refine ⟨_,h1,?_⟩
   cases hc:(ios[k]?).bind id with
   | none=>exact .inl (Nat.lt_succ_self _)
   | some c0=>exact .inr (.inl ⟨rfl,Nat.lt_succ_self _,fun c' hc'=>⟨hiw k _ hk h0,rfl⟩⟩)
  ·refine ⟨S,by rw [hout_ r hm]; exact h,.inr (.inr ⟨rfl,rfl,fun c hc=>⟨c,hc,rfl,fun b hb=>hold b (H.lt r b hb) (off hm hb),.inl ⟨rfl,fun b hb=>.inl ⟨hm,hb⟩⟩⟩⟩)⟩
 ·rcases h with ⟨hm,h⟩ | ⟨k,_,_,h⟩ | ⟨_,h⟩
  ·exact h1 r h
  ·exact (hiof _ _ h).2.elim (fun ⟨j,hj⟩=>h1 _ hj.2) (fun h=>h hb)
  ·exact (hF b h).1.elim (fun ⟨j,hj⟩=>h1 _ hj.2) (fun h=>h hb)
 ·rcases (hzn b h).2 with h | ⟨k,h⟩ | h
  ·exact h2 h
  ·exact h1 _ h.2
  ·exact h hb
theorem resMV_ok {r0:Nat}:∀ {t:Ty} {m:Mk} {x:t.den} {ss:List Nat} {sl:Nat→Option Slot} {hdr:Nat→Value} {fp:Nat→Bs} {F:Bs} {cs:List Value} {us:Ups} {ss':List Nat} {mv:MV},resMV sl t m x ss=some (mv,us,ss')→HR Z w sl hdr fp→sl r0=none→Rep Z w t m x F cs→(∀ b,F b→fp r0 b) →
 ∃ hdr' fp',HR Z w (us.look sl) hdr' fp'∧Trans Z w sl hdr fp Z w (us.look sl) hdr' fp'∧us.look sl r0=none∧RelC Z w (us.look sl) hdr' fp' mv cs∧(∀ b,fp r0 b→¬ F b→fp' r0 b)∧mv.agg=t.agg∧mv.isL=false:=by
 intro t
 have leaf:∀ {t:Ty} {m:Mk} {x:t.den} {ss:List Nat} {sl:Nat→Option Slot} {hdr:Nat→Value} {fp:Nat→Bs} {F:Bs} {cs:List Value} {us:Ups} {ss':List Nat} {mv:MV},(bif t.shared m || t.flat then some (MV.val t x,([]:Ups),ss) else none)=some (mv,us,ss')→HR Z w sl hdr fp→sl r0=none→Rep Z w t m x F cs →
  ∃ hdr' fp',HR Z w (us.look sl) hdr' fp'∧Trans Z w sl hdr fp Z w (us.look sl) hdr' fp'∧us.look sl r0=none∧RelC Z w (us.look sl) hdr' fp' mv cs∧(∀ b,fp r0 b→¬ F b→fp' r0 b)∧mv.agg=t.agg∧mv.isL=false:=by
  intro t m x ss sl hdr fp F cs us ss' mv h H h0 hr
  obtain ⟨hb,h⟩:=cond_some h
  simp only [Option.some.injEq,Prod.mk.injEq] at h
  obtain ⟨rfl,rfl,rfl⟩:=h
  simp only [Bool.or_eq_true] at hb
  exact ⟨hdr,fp,H,Trans.refl _ _ _ _ _,h0,hb.elim (fun h=>hr.share h) (fun h=>hr.flat h),fun b h _=>h,rfl,rfl⟩
 have own:∀ {t:Ty} {m:Mk} {x:t.den} {n:Nat} {ss:List Nat} {sl:Nat→Option Slot} {hdr:Nat→Value} {fp:Nat→Bs} {F:Bs} {cs:List Value} {us:Ups} {ss':List Nat} {mv:MV},t.size=1→t.agg=false→((∃ t',t=.sl t')∨∃ k v,t=.mp k v) →
  (match sl n with
   | some S=>some (MV.root n (S.hv+1),[(n,(⟨S.hv+1,0,some ⟨t,m,x⟩⟩:Slot))],ss)
   | none=>none)=some (mv,us,ss')→HR Z w sl hdr fp→sl r0=none→Rep Z w t m x F cs→(∀ b,F b→fp r0 b) →
  ∃ hdr' fp',HR Z w (us.look sl) hdr' fp'∧Trans Z w sl hdr fp Z w (us.look sl) hdr' fp'∧us.look sl r0=none∧RelC Z w (us.look sl) hdr' fp' mv cs∧(∀ b,fp r0 b→¬ F b→fp' r0 b)∧mv.agg=t.agg∧mv.isL=false:=by
  intro t m x n ss sl hdr fp F cs us ss' mv ht1 hta hsh h H h0 hr hF
  split at h
  ·rename_i S hS
   simp only [Option.some.injEq,Prod.mk.injEq] at h
   obtain ⟨rfl,rfl,rfl⟩:=h
   obtain ⟨hd,rfl⟩:=List.length_eq_one_iff.1 (hr.len.trans ht1)
   have hne:r0≠n:=fun e=>by rw [e,hS] at h0; cases h0
   obtain ⟨fp',q1,q2,q3,q4⟩:=step_set H hS ⟨t,m,x⟩ hd F hr hsh (fun b hb=>⟨r0,hF b hb,.inr (fun hv cv c h=>by rw [h0] at h; cases h)⟩) 0
   rw [look_cons,look_nil]
   refine ⟨_,fp',q3,q4,by simp [put,hne,h0],⟨one_cells (hr.one hd (by simp)),⟨S.hv+1,0,some ⟨t,m,x⟩⟩,by simp [put],Nat.le_refl _,fun _ c' hc'=>by simp⟩,fun b h1 h2=>(q2 r0 b hne).2 ⟨h1,h2⟩,hta.symm,rfl⟩
  ·cases h
 induction t with
 | bool=>intro m x ss sl hdr fp F cs us ss' mv h H h0 hr hF; exact leaf (t:=.bool) (m:=m) (by cases m <;> exact h) H h0 hr
 | int k=>intro m x ss sl hdr fp F cs us ss' mv h H h0 hr hF; exact leaf (t:=.int k) (m:=m) (by cases m <;> exact h) H h0 hr
 | str=>intro m x ss sl hdr fp F cs us ss' mv h H h0 hr hF; exact leaf (t:=.str) (m:=m) (by cases m <;> exact h) H h0 hr
 | unit=>intro m x ss sl hdr fp F cs us ss' mv h H h0 hr hF; exact leaf (t:=.unit) (m:=m) (by cases m <;> exact h) H h0 hr
 | arr n t _=>intro m x ss sl hdr fp F cs us ss' mv h H h0 hr hF; exact leaf (t:=.arr n t) (m:=m) (by cases m <;> exact h) H h0 hr
 | ex k a b _ _=>intro m x ss sl hdr fp F cs us ss' mv h H h0 hr hF; exact leaf (t:=.ex k a b) (m:=m) (by cases m <;> exact h) H h0 hr
 | sl t _ =>
  intro m x ss sl hdr fp F cs us ss' mv h H h0 hr hF
  cases m with
  | im=>exact leaf (t:=.sl t) (m:=.im) (ss:=ss) (by cases ss <;> exact h) H h0 hr
  | pr a b=>exact leaf (t:=.sl t) (m:=.pr a b) (ss:=ss) (by cases ss <;> exact h) H h0 hr
  | ow m =>
   cases ss with
   | nil=>exact leaf (t:=.sl t) (m:=.ow m) h H h0 hr
   | cons n ss=>exact own (t:=.sl t) (m:=.ow m) rfl rfl (.inl ⟨t,rfl⟩) h H h0 hr hF
 | mp k v _ _ =>
  intro m x ss sl hdr fp F cs us ss' mv h H h0 hr hF
  cases m with
  | im=>exact leaf (t:=.mp k v) (m:=.im) (ss:=ss) (by cases ss <;> exact h) H h0 hr
  | pr a b=>exact leaf (t:=.mp k v) (m:=.pr a b) (ss:=ss) (by cases ss <;> exact h) H h0 hr
  | ow m =>
   cases ss with
   | nil=>exact leaf (t:=.mp k v) (m:=.ow m) h H h0 hr
   | cons n ss=>exact own (t:=.mp k v) (m:=.ow m) rfl rfl (.inr ⟨k,v,rfl⟩) h H h0 hr hF
 | pair ta tb ih1 ih2 =>
  intro m x ss sl hdr fp F cs us ss' mv h H h0 hr hF
  simp only [resMV] at h
  cases hb:((Ty.pair ta tb).shared m || (Ty.pair ta tb).flat) with
  | true =>
   rw [hb] at h
   exact leaf (t:=.pair ta tb) (m:=m) (ss:=ss) (by rw [hb]; exact h) H h0 hr
  | false =>
   rw [hb] at h
   simp only [cond_false] at h
   split at h
   ·rename_i u us1 ss1 e1
    split at h
    ·rename_i v vs ss2 e2
     simp only [Option.some.injEq,Prod.mk.injEq] at h
     obtain ⟨rfl,rfl,rfl⟩:=h
     obtain ⟨c1,c2,f1,f2,rfl,r1,r2,s1,s2,hd⟩:=hr
     obtain ⟨hdr1,fp1,H1,T1,z1,R1,k1,a1,l1⟩:=ih1 e1 H h0 r1 (fun b hb=>hF b (s1 b hb))
     obtain ⟨hdr2,fp2,H2,T2,z2,R2,k2,a2,l2⟩:=ih2 e2 H1 z1 r2 (fun b hb=>k1 b (hF b (s2 b hb)) (fun h=>hd b h hb))
     refine ⟨hdr2,fp2,by rw [look_app]; exact H2,by rw [look_app]; exact T1.comp T2,by rw [look_app]; exact z2,by rw [look_app]; exact relC_mkpr (R1.trans H1 H2 T2) R2,fun b h1 h2=>k2 b (k1 b h1 (fun h=>h2 (s1 b h))) (fun h=>h2 (s2 b h)),?_,?_⟩
     ·unfold MV.mkpr; split <;> rfl
     ·unfold MV.mkpr; split <;> rfl
    ·cases h
   ·cases h
theorem RepC.val_ {a:Ty} {m:Mk} {x:a.den} {f:Bs} {v:Value} (hc:∀ t u,a≠.ex .cell t u) (h:RepC Z w a m x f v):∃ cs,Rep Z w a m x f cs∧v=a.val cs:=by
 cases a with
 | ex k t u =>
  cases k with
  | cell=>exact absurd rfl (hc t u)
  | _=>exact h
 | _=>exact h
theorem resC_ok {r0:Nat} {t:Ty} {m:Mk} {x:t.den} {ss:List Nat} {sl:Nat→Option Slot} {hdr:Nat→Value} {fp:Nat→Bs} {F:Bs} {v:Value} {us:Ups} {ss':List Nat} {mv:MV} (h:resC sl t m x ss=some (mv,us,ss')) (H:HR Z w sl hdr fp) (h0:sl r0=none) (hr:RepC Z w t m x F v) (hF:∀ b,F b→fp r0 b) :
 ∃ hdr' fp',HR Z w (us.look sl) hdr' fp'∧Trans Z w sl hdr fp Z w (us.look sl) hdr' fp'∧us.look sl r0=none∧(∃ cs,RelC Z w (us.look sl) hdr' fp' mv cs∧v=mv.out cs)∧(∀ b,fp r0 b→¬ F b→fp' r0 b):=by
 have leaf:(∀ a u,t≠.ex .cell a u)→resMV sl t m x ss=some (mv,us,ss')→∃ hdr' fp',HR Z w (us.look sl) hdr' fp'∧Trans Z w sl hdr fp Z w (us.look sl) hdr' fp'∧us.look sl r0=none∧(∃ cs,RelC Z w (us.look sl) hdr' fp' mv cs∧v=mv.out cs)∧(∀ b,fp r0 b→¬ F b→fp' r0 b):=fun hc h=>by
  obtain ⟨cs,hr2,rfl⟩:=hr.val_ hc
  obtain ⟨hdr1,fp1,H1,T1,z1,R1,k1,a1,l1⟩:=resMV_ok h H h0 hr2 hF
  exact ⟨hdr1,fp1,H1,T1,z1,⟨cs,R1,(out_val a1 l1).symm⟩,k1⟩
 cases t with
 | ex k a u =>
  cases k with
  | cell =>
   cases ss with
   | nil=>cases h
   | cons n ss =>
    have h:(match sl n with
     | some S=>some (MV.ptr n (S.hv+1) a,[(n,(⟨S.hv+1,0,some ⟨.sl a,.ow m,([x]:List a.den)⟩⟩:Slot))],ss)
     | none=>none)=some (mv,us,ss'):=h
    split at h
    ·rename_i S hS
     simp only [Option.some.injEq,Prod.mk.injEq] at h
     obtain ⟨rfl,rfl,rfl⟩:=h
     obtain ⟨b,o,l,cap,rfl,hr⟩:=hr
     obtain ⟨hdr1,fp1,H1,T1,z1,R1,k1,a1,l1⟩:=resMV_ok (t:=.sl a) (m:=.ow m) (x:=([x]:List a.den)) (ss:=n :: ss) (sl:=sl) (us:=[(n,(⟨S.hv+1,0,some ⟨.sl a,.ow m,([x]:List a.den)⟩⟩:Slot))]) (mv:=.root n (S.hv+1)) (ss':=ss) (by simp only [resMV,hS]) H h0 hr hF
     refine ⟨hdr1,fp1,H1,T1,z1,⟨[.pointer (some ⟨b,o,none⟩)],?_,rfl⟩,k1⟩
     obtain ⟨_,S',g1,g2,g3⟩:=R1
     refine ⟨one_cells rfl,S',g1,g2,fun e c hc=>⟨b,o,l,cap,?_,rfl⟩⟩
     have:=g3 e c hc
     simp only [List.cons.injEq,and_true] at this
     exact this.symm
    ·cases h
  | _=>exact leaf (fun _ _ e=>by cases e) (by cases ss <;> exact h)
 | _=>exact leaf (fun _ _ e=>by cases e) (by cases ss <;> exact h)
theorem RepC.free {Z Z':Bs} {t:Ty} {m:Mk} {x:t.den} {F:Bs} {v:Value} (hf:t.free m=true) (h:RepC Z w t m x F v):RepC Z' w t m x F v:=by
 cases t with
 | ex k a b=>cases hf
 | _ =>
  obtain ⟨cs,h1,h2⟩:=h
  exact ⟨cs,h1.free hf,h2⟩
theorem RepC.more {Z Z':Bs} (hZ:∀ b,Z b→Z' b) {t:Ty} {m:Mk} {x:t.den} {F:Bs} {v:Value} (h:RepC Z w t m x F v):RepC Z' w t m x F v:=by
 cases t with
 | ex k a b =>
  cases k with
  | cell =>
   obtain ⟨b',o,l,cap,h1,h2⟩:=h
   exact ⟨b',o,l,cap,h1,h2.more hZ⟩
  | _ =>
   obtain ⟨cs,h1,h2⟩:=h
   exact ⟨cs,h1.more hZ,h2⟩
 | _ =>
  obtain ⟨cs,h1,h2⟩:=h
  exact ⟨cs,h1.more hZ,h2⟩
theorem resTup_ok {r0:Nat}:∀ {t:Ty} {m:Mk} {x:t.den} {ss:List Nat} {sl:Nat→Option Slot} {hdr:Nat→Value} {fp:Nat→Bs} {F:Bs} {vs:List Value} {us:Ups} {mv:MV},resTup sl t m x ss=some (mv,us)→HR Z w sl hdr fp→sl r0=none→RepR Z w t m x F vs→(∀ b,F b→fp r0 b) →
 ∃ hdr' fp',HR Z w (us.look sl) hdr' fp'∧Trans Z w sl hdr fp Z w (us.look sl) hdr' fp'∧RelC Z w (us.look sl) hdr' fp' mv vs∧us.look sl r0=none:=by
 intro t
 induction t with
 | pair ta tb _ ih2 =>
  intro m x ss sl hdr fp F vs us mv h H h0 hr hF
  simp only [resTup] at h
  split at h
  ·rename_i u us1 ss1 e1
   split at h
   ·rename_i v vs2 e2
    simp only [Option.some.injEq,Prod.mk.injEq] at h
    obtain ⟨rfl,rfl⟩:=h
    obtain ⟨v0,vs',f1,f2,rfl,r1,r2,s1,s2,hd⟩:=hr
    obtain ⟨hdr1,fp1,H1,T1,z1,⟨cs,R1,rv⟩,k1⟩:=resC_ok e1 H h0 r1 (fun b hb=>hF b (s1 b hb))
    obtain ⟨hdr2,fp2,H2,T2,R2,z2⟩:=ih2 e2 H1 z1 r2 (fun b hb=>k1 b (hF b (s2 b hb)) (fun h=>hd b h hb))
    refine ⟨hdr2,fp2,by rw [look_app]; exact H2,by rw [look_app]; exact T1.comp T2,?_,by rw [look_app]; exact z2⟩
    rw [look_app]
    exact ⟨cs,_,vs',rfl,.inr ⟨R1.trans H1 H2 T2,rv⟩,R2⟩
   ·cases h
  ·cases h
 | unit =>
  intro m x ss sl hdr fp F vs us mv h H h0 hr hF
  simp only [resTup,Option.some.injEq,Prod.mk.injEq] at h
  obtain ⟨rfl,rfl⟩:=h
  exact ⟨hdr,fp,H,Trans.refl _ _ _ _ _,hr,h0⟩
 | _=>intro m x ss sl hdr fp F vs us mv h; cases h
theorem RepR.free {Z Z':Bs}:∀ {t:Ty} {m:Mk} {x:t.den} {F:Bs} {vs:List Value},t.free m=true→RepR Z w t m x F vs→RepR Z' w t m x F vs:=by
 intro t
 induction t with
 | pair ta tb _ ih =>
  rintro m x F vs hf ⟨v,vs',f1,f2,e,r,r2,s⟩
  simp only [Ty.free,Bool.and_eq_true] at hf
  exact ⟨v,vs',f1,f2,e,r.free hf.1,ih hf.2 r2,s⟩
 | unit=>intro m x F vs _ h; exact h
 | _=>intro m x F vs _ h; exact h.elim
def MV.chain:MV→Bool
 | .tn=>true
 | .tc _ b=>b.chain
 | _=>false
theorem resTup_chain:∀ {t:Ty} {m:Mk} {x:t.den} {ss:List Nat} {sl:Nat→Option Slot} {us:Ups} {mv:MV},resTup sl t m x ss=some (mv,us)→mv.chain=true:=by
 intro t
 induction t with
 | pair ta tb _ ih2 =>
  intro m x ss sl us mv h
  simp only [resTup] at h
  split at h
  ·split at h
   ·rename_i e2
    simp only [Option.some.injEq,Prod.mk.injEq] at h
    obtain ⟨rfl,rfl⟩:=h
    have:=ih2 e2
    exact this
   ·cases h
  ·cases h
 | unit=>intro m x ss sl us mv h; simp only [resTup,Option.some.injEq,Prod.mk.injEq] at h; obtain ⟨rfl,rfl⟩:=h; rfl
 | _=>intro m x ss sl us mv h; cases h
theorem run_call_ {c:Call} {x:Operand} {f:FuncId} {ks:List Value} {fn:Func} (ho:o.op=.call c) (hc:c.callee=.value x) (hx:a.eval x=.func (.func f) #[] ks.toArray) (h1:E.P.funcs[f]?=some fn) (h2:fn.body.isSome=true) (h3:(fn.name == "runtime.NumGoroutine")=false) :
 (execOp a.eval o).run E.P w=.ok (.enter f (c.args.map a.eval++ks.toArray)) w:=by
 have h2':fn.body.isNone=false:=by cases hb:fn.body <;> simp_all
 have h3':¬ fn.name = "runtime.NumGoroutine":=by simpa using h3
 unfold execOp; rw [ho]
 simp only [resolve,hc,hx,Deferred.ofValue,pure_bind,invoke,callFunc,Sem.run_bind,run_program,Result.andThen_ok,h1,h2',h3,Bool.false_eq_true,if_false,Sem.run_pure]
 simp
theorem call_ok0 {f:FuncId} {h:OH} {args:List MV} {caps:MV} (hE:∀ ar ss1 br ss2 ios cr,argOf sl h.mu (tups args)=some (ar,ss1)→argOf sl h.mu caps=some (br,ss2)→ioOf sl h.mu=some ios→E.Γ f (ar.app br) ios=some cr→CallOK E.P f (ar.app br) ios cr) (H:HR Z w sl hdr fp) {c:Call} {x:Operand} {us:Ups} (ho:o.op=.call c) (hc:c.callee=.value x) (hx:RelV Z w sl hdr fp (.fn f caps) (a.eval x)) (hr0:∃ r0,sl r0=none)
 (hargs:args.length=c.args.toList.length) (harg:∀ (i:Nat) (u:MV) (y:Operand),args[i]?=some u→c.args.toList[i]?=some y→RelV Z w sl hdr fp u (a.eval y))
 (hh:callK E sl h f (tups args) caps (fun m u=>some (m,u))=some (mv,us)):OpOK E o a w Z sl hdr fp mv (us.look sl):=by
 obtain ⟨r0,hr0⟩:=hr0
 rcases hx with h0 | ⟨cx,⟨ks,rfl,hcaps⟩,he⟩
 ·cases h0
 have hev:a.eval x=.func (.func f) #[] ks.toArray:=by rw [he]; rfl
 unfold callK at hh
 cases hcl:caps.isL with
 | false=>rw [hcl] at hh; cases hh
 | true =>
 cases hnd:nodupB h.mu with
 | false=>rw [hcl,hnd] at hh; cases hh
 | true =>
 rw [hcl,hnd] at hh
 simp only [Bool.not_true,Bool.or_self,cond_false] at hh
 split at hh
 ·rename_i ar ss1 e1
  split at hh
  ·rename_i br ss2 e2
   cases hany:(ss1++ss2).any (fun s=>h.mu.elem s) with
   | true=>rw [hany] at hh; cases hh
   | false =>
   rw [hany] at hh
   simp only [cond_false] at hh
   split at hh
   ·rename_i ios eio
    split at hh
    ·rename_i cr e3
     obtain ⟨r,hrun,hh⟩:=bind_some_ hh
     have hrel:=relC_tups (Z:=Z) (w:=w) (sl:=sl) (hdr:=hdr) (fp:=fp) args (c.args.toList.map a.eval) (by simpa using hargs) (fun i u v h1 h2=>by
      rw [List.getElem?_map] at h2
      cases hk:c.args.toList[i]? with
      | none=>rw [hk] at h2; cases h2
      | some y=>rw [hk] at h2; obtain rfl:=Option.some.inj h2; exact harg i u y h1 hk)
     have hA1:=(argOf_ok H e1 hrel).more (Z':=Lent Z fp (ss1++ss2)) Lent.app1
     have hA2:=(argOf_ok H e2 hcaps).more (Z':=Lent Z fp (ss1++ss2)) Lent.app2
     rw [tups_isL] at hA1
     rw [hcl] at hA2
     obtain ⟨hio1,hio2⟩:=ioOf_some eio
     have hAll:=RepA.app (argOf_chain e1 (tups_isL _)) hA1 hA2
     rw [← hio1] at hAll
     obtain ⟨⟨fn,hf1,hf2,hf3⟩,hcall⟩:=hE _ _ _ _ _ cr e1 e2 eio e3
     have hsome:∀ s∈ss1++ss2,∃ S,sl s=some S:=fun s hs=>(List.mem_append.1 hs).elim (argOf_some e1 s) (argOf_some e2 s)
     have hlt:∀ b,Lent Z fp (ss1++ss2) b→b<w.heap.size:=fun b hb=>hb.elim (H.zlt b) (fun ⟨s,_,h⟩=>H.lt s b h)
     have hmem:∀ k,k<h.mu.length→h.mu.getD k 0∈h.mu:=fun k hk=>by rw [List.getD_eq_getElem?_getD,List.getElem?_eq_getElem hk]; exact List.getElem_mem hk
     have hapart:∀ k b,fpM h.mu fp k b→¬ Lent Z fp (ss1++ss2) b:=fun k b hk hl=>by
      rcases hl with hl | ⟨s,hs,hl⟩
      ·exact H.dz _ _ hk.2 hl
      ·obtain rfl:=H.disj _ _ _ hl hk.2
       have:=List.any_eq_false.1 hany _ hs
       exact this (List.elem_iff.2 (hmem k hk.1))
     have HRc:HR (Lent Z fp (ss1++ss2)) w (ioSl ios) (hdM h.mu hdr) (fpM h.mu fp):=by
      refine ⟨fun k hv cv c h => ?_,fun k hv cv c h => ?_,fun k k' b h h' => ?_,fun k b h=>H.lt _ _ h.2,hlt,fun k b h=>hapart k b h⟩
      ·simp only [ioSl,Option.map_eq_some_iff] at h
       obtain ⟨c',h1,h2⟩:=h
       simp only [Slot.mk.injEq,Option.some.injEq] at h2
       obtain ⟨_,_,rfl⟩:=h2
       obtain ⟨hv',cv',h3⟩:=hio2 k _ h1
       have hk:=(List.getElem?_eq_some_iff.1 h1).1
       rw [hio1] at hk
       exact ((H.rep _ _ _ _ h3).more (fun b hb=>.inl hb)).mono (fun b hb=>⟨hk,hb⟩)
      ·simp only [ioSl,Option.map_eq_some_iff] at h
       obtain ⟨c',h1,h2⟩:=h
       simp only [Slot.mk.injEq,Option.some.injEq] at h2
       obtain ⟨_,_,rfl⟩:=h2
       obtain ⟨hv',cv',h3⟩:=hio2 k _ h1
       exact H.shape _ _ _ _ h3
      ·exact nodup_inj hnd h.1 h'.1 (H.disj _ _ _ h.2 h'.2)
     have hcalls:=hcall r hrun (Lent Z fp (ss1++ss2)) w (hdM h.mu hdr) (fpM h.mu fp) _ HRc (fun k b h=>by rw [hio1]; exact h.1) hAll
     have hvals:c.args.map a.eval++ks.toArray=(c.args.toList.map a.eval++ks).toArray:=by
      apply Array.ext'; simp
     intro next Q hnext
     unfold Oper.wp
     rw [run_call_ ho hc hev hf1 hf2 hf3,Oper.upon_enter,hvals]
     refine hcalls.mono fun e w' hpost => ?_
     obtain ⟨Z',fpc,F,vs,P⟩:=hpost
     rw [P.ret]
     show next (a.put o.dst (retVal vs)) w'
     have main:∀ (Zn:Bs) (us0:Ups) (fp0:Nat→Bs),HR Zn w (us0.look sl) hdr fp0→Trans Z w sl hdr fp Zn w (us0.look sl) hdr fp0→us0.look sl r0=none→(∀ s S,sl s=some S→us0.look sl s=some S∨us0.look sl s=some (frozen_ S))→(∀ s b,fp0 s b→fp s b)→(∀ s b,fp s b→fp0 s b∨Lent Z fp (ss1++ss2) b) →
      ∀ Zm,(∀ b,Zn b→Zm b)→(∀ b,Zm b→b<w'.heap.size∧(Zn b∨(∃ k,fpM h.mu fp k b)∨¬ b<w.heap.size))→(∀ b,F b→¬ Zm b)→HR Zm w' (ioSlO (cr.io r)) (hdM h.mu hdr) fpc→RepR Zm w' cr.t cr.m (cr.out r) F vs →
      (match ioUps (us0.look sl) h.mu (cr.io r) with
       | some ws=>match resTup (ws.look (us0.look sl)) cr.t cr.m (cr.out r) h.sl with
        | some (.tc v .tn,us)=>some (v,us++(ws++us0))
        | some (mv,us)=>some (mv,us++(ws++us0))
        | none=>none
       | none=>none)=some (mv,us)→next (a.put o.dst (retVal vs)) w':=by
      intro Zn us0 fp0 H0 T0 h0 hfz hs1 hs2 Zm hz hzm hFz hioc hrep hh
      have hfp:∀ k b,fpM h.mu fp k b↔fpM h.mu fp0 k b:=fun k b=>⟨fun hk=>⟨hk.1,(hs2 _ b hk.2).elim id (fun hl=>(hapart k b hk hl).elim)⟩,fun hk=>⟨hk.1,hs1 _ b hk.2⟩⟩
      have hfpe:∀ b,(∃ k,fpM h.mu fp k b)↔∃ k,fpM h.mu fp0 k b:=fun b=>exists_congr (fun k=>hfp k b)
      split at hh
      ·rename_i ws ews
       obtain ⟨H1,T1,h1⟩:=step_call H0 (r0:=r0) (F:=F) (Zn:=Zm) h0 hnd ews (fun k S hk hS=>by
        obtain ⟨c0,hc0⟩:∃ c0,ios[k]?=some c0:=⟨_,List.getElem?_eq_getElem (by rw [hio1]; exact hk)⟩
        obtain ⟨hv',cv',h3⟩:=hio2 k c0 hc0
        rcases hfz _ _ h3 with h4 | h4
        ·rw [h4] at hS; obtain rfl:=Option.some.inj hS; exact ⟨_,rfl⟩
        ·rw [h4] at hS; obtain rfl:=Option.some.inj hS; exact ⟨_,rfl⟩) hz (fun b hb=>⟨(hzm b hb).1,by rw [← hfpe]; exact (hzm b hb).2⟩)
        (fun b hb hk=>P.old b hb (fun k h=>hk k ((hfp k b).1 h))) P.size P.os P.tape P.output (fun b hb=>⟨by rw [← hfpe]; exact (P.f b hb).1,(P.f b hb).2.1,hFz b hb,(P.f b hb).2.2.2⟩)
        (fun k b hk=>⟨by rw [← hio1]; exact (P.iof k b hk).1,by rw [← hfpe]; exact (P.iof k b hk).2⟩) hioc
       have fin:∀ {mv0:MV} {us1:Ups},resTup (ws.look (us0.look sl)) cr.t cr.m (cr.out r) h.sl=some (mv0,us1)→us=us1++(ws++us0)→(∀ {hdr2 fp2},HR Zm w' (us1.look (ws.look (us0.look sl))) hdr2 fp2→RelC Zm w' (us1.look (ws.look (us0.look sl))) hdr2 fp2 mv0 vs→RelV Zm w' (us1.look (ws.look (us0.look sl))) hdr2 fp2 mv (retVal vs))→next (a.put o.dst (retVal vs)) w':=by
        intro mv0 us1 hres hus hrv
        obtain ⟨hdr2,fp2,H2,T2,R2,_⟩:=resTup_ok hres H1 h1 hrep (fun b hb=>.inr (.inr ⟨rfl,hb⟩))
        subst hus
        exact hnext _ w' Zm hdr2 fp2 (by rw [look_app,look_app]; exact H2) (by rw [look_app,look_app]; exact (T0.comp T1).comp T2) (by rw [look_app,look_app]; exact hrv H2 R2)
       split at hh
       ·rename_i v us1 hres
        simp only [Option.some.injEq,Prod.mk.injEq] at hh
        obtain ⟨rfl,rfl⟩:=hh
        refine fin hres rfl (fun H2 R2 => ?_)
        obtain ⟨c1,v1,vs1,rfl,h1,h2⟩:=R2
        rw [show vs1=[] from h2]
        exact h1.imp id (fun h=>⟨c1,h.1,h.2⟩)
       ·rename_i mv1 us1 hne hres
        simp only [Option.some.injEq,Prod.mk.injEq] at hh
        obtain ⟨rfl,rfl⟩:=hh
        refine fin hres rfl (fun H2 R2=>.inr ⟨vs,R2,?_⟩)
        have hch:=resTup_chain hres
        cases mv1 with
        | tn=>rw [show vs=[] from R2]; rfl
        | tc x y =>
         obtain ⟨c1,v1,vs1,rfl,h1,h2⟩:=R2
         cases vs1 with
         | cons _ _=>rfl
         | nil =>
          cases y with
          | tn=>exact absurd rfl (hne x)
          | tc _ _=>obtain ⟨_,_,_,h,_⟩:=h2; cases h
          | _=>cases hch
        | _=>cases hch
       ·cases hh
      ·cases hh
     cases hfree:(cr.t.free cr.m && ioFree (cr.io r)) with
     | true =>
      rw [hfree] at hh
      simp only [cond_true] at hh
      simp only [Bool.and_eq_true] at hfree
      have hzz:∀ b,Z b→Z' b:=fun b hb=>P.z b (.inl hb)
      refine main Z [] fp H (Trans.refl _ _ _ _ _) hr0 (fun s S h=>.inl h) (fun s b h=>h) (fun s b h=>.inl h) Z (fun _ h=>h) (fun b hb=>⟨Nat.lt_of_lt_of_le (H.zlt b hb) P.size,.inl hb⟩) (fun b hb hz=>(P.f b hb).2.2.1 (hzz b hz)) ?_ (P.rep.free hfree.1) hh
      refine ⟨fun k hv cv c h => ?_,P.io.shape,P.io.disj,P.io.lt,fun b hb=>Nat.lt_of_lt_of_le (H.zlt b hb) P.size,fun k b h hz=>P.io.dz k b h (hzz b hz)⟩
      have h0:=h
      simp only [ioSlO,Option.map_eq_some_iff] at h0
      obtain ⟨c',h1,h2⟩:=h0
      simp only [Slot.mk.injEq,Option.some.injEq] at h2
      obtain ⟨_,_,rfl⟩:=h2
      obtain ⟨oc,h3,h4⟩:=Option.bind_eq_some_iff.1 h1
      have h4:oc=some c':=h4
      subst h4
      exact (P.io.rep k _ _ _ h).free (List.all_eq_true.1 hfree.2 _ (List.mem_of_getElem? h3))
     | false =>
      rw [hfree] at hh
      simp only [cond_false] at hh
      obtain ⟨fp0,H0,T0,g1,g2,g3,g4⟩:=freezeAll_ok H (ss1++ss2) hsome
      exact main (Lent Z fp (ss1++ss2)) _ fp0 H0 T0 (g2 _ hr0) g1 g3 g4 Z' P.z P.zn (fun b hb=>(P.f b hb).2.2.1) P.io P.rep hh
    ·cases hh
   ·cases hh
  ·cases hh
 ·cases hh
theorem call_ok (hE:EnvOK E) (H:HR Z w sl hdr fp) {c:Call} {x:Operand} {f:FuncId} {h:OH} {args:List MV} {caps:MV} {us:Ups} (ho:o.op=.call c) (hc:c.callee=.value x) (hx:RelV Z w sl hdr fp (.fn f caps) (a.eval x)) (hr0:∃ r0,sl r0=none)
 (hargs:args.length=c.args.toList.length) (harg:∀ (i:Nat) (u:MV) (y:Operand),args[i]?=some u→c.args.toList[i]?=some y→RelV Z w sl hdr fp u (a.eval y))
 (hh:callK E sl h f (tups args) caps (fun m u=>some (m,u))=some (mv,us)):OpOK E o a w Z sl hdr fp mv (us.look sl) :=
 call_ok0 (fun _ _ _ _ _ _ _ _ _ e=>hE.ok _ _ _ _ e) H ho hc hx hr0 hargs harg hh
end
section
variable {E:Env} {o:Oper} {a:Act} {w:World} {Z:Bs} {sl:Nat→Option Slot} {hdr:Nat→Value} {fp:Nat→Bs} {mv:MV} {ρ:Operand→MV}
theorem len_ok (hE:TTok E) (H:HR Z w sl hdr fp) {c:Call} {x:Operand} {ty:TypeId} {u:MV} {t:Ty} {xs:List t.den} {ac:Acc} (ho:o.op=.call c) (hcal:c.callee=.builtin .len) (hargs:c.args.toList=[x]) (hty:c.argTypes.toList.head?=some ty)
 (hx:RelV Z w sl hdr fp u (a.eval x)) (hc:cont sl u=some ⟨.sl t,xs,ac⟩) (ht:tyB E ty (.sl t)=true):OpOK E o a w Z sl hdr fp (.val (.int .i64) (xs.length:Int)) (Ups.look [] sl):=by
 obtain ⟨nb,hT⟩:=tyB_ok hE ht
 obtain ⟨el,ne,hu,hel⟩:=hT.desc
 have harr:c.args = #[x]:=Array.toList_inj.1 (by simpa using hargs)
 have ht0:c.argTypes[0]?=some ty:=by rw [← Array.getElem?_toList,← List.head?_eq_getElem?]; exact hty
 rcases hx with rfl | ⟨cs,hr,he⟩
 ·cases hc
 obtain ⟨hA,hout⟩:=cont_ok H hc hr
 have hev:∃ A cap,a.eval x=.slice A xs.length cap:=by
  have main:∀ {m:Mk} {f:Bs},Rep Z w (.sl t) m xs f cs→∃ A cap,a.eval x=.slice A xs.length cap:=fun h=>by
   obtain ⟨A,cap,ks,m1,f1,e1,_⟩:=rep_row h
   exact ⟨A,cap,by rw [he,hout,e1]; rfl⟩
  cases ac with
  | im=>exact main (m:=.im) (f:=none_) hA
  | own s hv cv p=>obtain ⟨c,_,_,⟨m0,f,h3,_⟩,_⟩:=hA; exact main h3
  | ro s hv cv=>obtain ⟨c,_,_,m0,f,h3,_⟩:=hA; exact main h3
 obtain ⟨A,cap,hev⟩:=hev
 refine .same H (v:=.int .i64 xs.length) ?_ (relV_int _ _)
 unfold execOp; rw [ho]
 simp only [resolve,hcal,harr,pure_bind,invoke,builtin]
 simp [Builtin.len_,ht0,hev,run_underlying hu,goInt]
theorem unMV_ok {u:MV} {v:Value} (h:RelV Z w sl hdr fp u v):RelV Z w sl hdr fp (unMV u) v:=by
 rcases h with rfl | ⟨cs,h1,h2⟩
 ·exact .inl rfl
 ·exact .inr ⟨cs,(unMV_okC h1).1,h2.trans (unMV_okC h1).2.symm⟩
theorem op_ok (hT:TTok E) (hE:EnvOK E) (H:HR Z w sl hdr fp) (hr0:∃ r0,sl r0=none) {h:OH} {us:Ups} (hρ:∀ x,RelV Z w sl hdr fp (ρ x) (a.eval x)) (hh:opCore E ρ sl o h (fun m u=>some (m,u))=some (mv,us)):OpOK E o a w Z sl hdr fp mv (us.look sl):=by
 unfold opCore at hh
 split at hh
 ·rename_i x ho
  simp only [Option.some.injEq,Prod.mk.injEq] at hh
  obtain ⟨rfl,rfl⟩:=hh
  refine .same H (v:=a.eval x) ?_ (hρ x)
  unfold execOp; rw [ho]; rfl
 ·rename_i x ho
  split at hh
  ·rename_i n _ hsl hx
   split at hh
   ·rename_i t nb ht
    obtain ⟨n,S,hS,rfl,rfl,_⟩:=new_ok (R:=Unit) hh
    have hxx:=hρ x
    rw [hx] at hxx
    rcases hxx with h0 | ⟨cx,⟨A,rfl⟩,he⟩
    ·cases h0
    obtain ⟨fp2,_,_,H2,T2⟩:=step_set H hS ⟨.sl t,.ow h.m,[]⟩ (.slice A 0 0) none_ ⟨A,0,rfl,.inl ⟨rfl,rfl⟩⟩ (.inl ⟨t,rfl⟩) (fun _ h=>h.elim) 0
    rw [look_cons,look_nil]
    have hrun:(execOp a.eval o).run E.P w=.ok (.value (.slice A 0 0)) w:=by unfold execOp; rw [ho]; simp only [he]; rfl
    refine .val hrun H2 T2 ?_
    have:=relV_root (Z:=Z) (w:=w) (sl:=put sl n ⟨S.hv+1,0,some ⟨.sl t,.ow h.m,[]⟩⟩) (hdr:=fun r=>if r=n then Value.slice A 0 0 else hdr r) (fp:=fp2) (n:=n) (S:=S) (c:=⟨.sl t,.ow h.m,[]⟩) (by simp [Value.oneCell']) (by simp [put])
    simpa using this
   ·cases hh
  ·simp only [Option.some.injEq,Prod.mk.injEq] at hh
   obtain ⟨rfl,rfl⟩:=hh
   refine .same H (v:=a.eval x) ?_ (hρ x)
   unfold execOp; rw [ho]; rfl
 ·rename_i c x y ho
  split at hh
  ·rename_i v hc
   have hcv:=hρ c
   rw [hc] at hcv
   have hev:=hcv.bool
   have hrun:(execOp a.eval o).run E.P w=.ok (.value (if v then a.eval x else a.eval y)) w:=by
    unfold execOp; rw [ho]
    simp only [hev,asBool,pure_bind,Sem.run_pure]
   split at hh
   ·rename_i p q hp hq
    simp only [Option.some.injEq,Prod.mk.injEq] at hh
    obtain ⟨rfl,rfl⟩:=hh
    have h1:=hρ x
    have h2:=hρ y
    rw [hp] at h1
    rw [hq] at h2
    refine .same H hrun ?_
    rw [h1.bool,h2.bool]
    cases v <;> exact relV_bool _
   ·cases v with
    | true =>
     simp only [cond_true,Option.some.injEq,Prod.mk.injEq] at hh
     obtain ⟨rfl,rfl⟩:=hh
     exact .same H hrun (hρ x)
    | false =>
     simp only [cond_false,Option.some.injEq,Prod.mk.injEq] at hh
     obtain ⟨rfl,rfl⟩:=hh
     exact .same H hrun (hρ y)
  ·cases hh
 ·rename_i op xt x y yt ho
  cases hn:isNilC y with
  | true=>rw [hn] at hh; exact nilK_ok hT H ho (hρ x) hn hh
  | false=>rw [hn] at hh; exact eqK_ok hT H ho (hρ x) (hρ y) hh
 ·rename_i op xt x ho
  split at hh
  ·rename_i b hx
   simp only [Option.some.injEq,Prod.mk.injEq] at hh
   obtain ⟨rfl,rfl⟩:=hh
   have h1:=hρ x
   rw [hx] at h1
   refine .same H (v:=.bool (!b)) ?_ (relV_bool _)
   unfold execOp; rw [ho]; simp only [h1.bool]; rfl
  ·rename_i k n hx
   simp only [Option.some.injEq,Prod.mk.injEq] at hh
   obtain ⟨rfl,rfl⟩:=hh
   have h1:=hρ x
   rw [hx] at h1
   refine .same H (v:=.int k (k.wrap (0-n))) ?_ (relV_int _ _)
   unfold execOp; rw [ho]; simp only [h1.int]; rfl
  ·cases hh
 ·rename_i s d x ho
  split at hh
  ·rename_i ks n1 k nb k' n ht1 ht2 hx
   simp only [Option.some.injEq,Prod.mk.injEq] at hh
   obtain ⟨rfl,rfl⟩:=hh
   have g:=hρ x
   rw [hx] at g
   have u1:E.P.underlying s=some (.int ks):=(hT _ _ _ ht1).desc
   have u2:E.P.underlying d=some (.int k):=(hT _ _ _ ht2).desc
   refine .same H (v:=.int k (k.wrap n)) ?_ (relV_int _ _)
   unfold execOp; rw [ho]
   simp only [g.int]
   simp [convert,run_underlying u1,run_underlying u2,Conv.intToInt]
  ·cases hh
 ·rename_i x i ho
  have key:∀ (u:MV) (vs:List Value) (v:Value),a.eval x=.tuple vs.toArray→vs[i]?=some v→RelV Z w sl hdr fp u v→some (u,([]:Ups))=some (mv,us)→OpOK E o a w Z sl hdr fp mv (us.look sl):=by
   intro u vs v h1 h2 h3 h4
   simp only [Option.some.injEq,Prod.mk.injEq] at h4
   obtain ⟨rfl,rfl⟩:=h4
   refine .same H (v:=v) ?_ h3
   unfold execOp; rw [ho]
   simp only [h1,Instr.extract,List.getElem?_toArray,h2,pure_bind,Sem.run_pure]
  have comp:∀ {u:MV} {c1:List Value} {v:Value},(u=.dead∨RelC Z w sl hdr fp u c1∧v=u.out c1)→RelV Z w sl hdr fp u v:=fun h=>h.imp id (fun h=>⟨_,h.1,h.2⟩)
  split at hh
  ·rename_i p q r rest hx
   have g:=hρ x
   rw [hx] at g
   rcases g with g | ⟨cs,⟨c1,v1,vs1,rfl,h1,c2,v2,vs2,rfl,h2,c3,v3,vs3,rfl,h3,_⟩,he⟩
   ·cases g
   split at hh
   ·exact key p _ v1 he rfl (comp h1) hh
   ·exact key q _ v2 he rfl (comp h2) hh
   ·exact key r _ v3 he rfl (comp h3) hh
   ·cases hh
  ·rename_i p q hx
   have g:=hρ x
   rw [hx] at g
   rcases g with g | ⟨cs,⟨c1,v1,vs1,rfl,h1,c2,v2,vs2,rfl,h2,_⟩,he⟩
   ·cases g
   split at hh
   ·exact key p _ v1 he rfl (comp h1) hh
   ·exact key q _ v2 he rfl (comp h2) hh
   ·cases hh
  ·cases hh
 ·rename_i x ho
  have key:∀ ad,a.eval x=.pointer (some ad)→(execOp a.eval o).run E.P w=.ok (.value (a.eval x)) w:=by
   intro ad h1
   unfold execOp; rw [ho]; simp only [h1]; rfl
  split at hh
  ·rename_i s hv cv p t v hx
   obtain ⟨h1,hh⟩:=cond_some hh
   simp only [Option.some.injEq,Prod.mk.injEq] at hh
   obtain ⟨rfl,rfl⟩:=hh
   have g:=hρ x
   rw [hx] at g
   have g0:=g
   rcases g0 with g0 | ⟨cs,⟨_,S,q1,_,q3⟩,he⟩
   ·cases g0
   obtain ⟨c,hc⟩:=Option.isSome_iff_exists.1 h1
   have e2:=lookC_some hc
   rw [e2] at q1; obtain rfl:=Option.some.inj q1
   obtain ⟨b,o',ks,hcs,_⟩:=(q3 rfl).2 rfl c rfl
   exact .same H (key ⟨b,o',none⟩ (by rw [he,hcs]; rfl)) g
  ·rename_i t v hx
   simp only [Option.some.injEq,Prod.mk.injEq] at hh
   obtain ⟨rfl,rfl⟩:=hh
   have g:=hρ x
   rw [hx] at g
   have g0:=g
   rcases g0 with g0 | ⟨cs,⟨b,o',ks,hcs,_⟩,he⟩
   ·cases g0
   exact .same H (key ⟨b,o',none⟩ (by rw [he,hcs]; rfl)) g
  ·rename_i t tb v hx
   obtain ⟨v0,hv0,hh⟩:=bind_some_ hh
   simp only [Option.some.injEq,Prod.mk.injEq] at hh
   obtain ⟨rfl,rfl⟩:=hh
   have g:=hρ x
   rw [hx] at g
   rcases g with g0 | ⟨cs,r0,he⟩
   ·cases g0
   rcases r0 with ⟨r1,_⟩ | ⟨v1,b,o',ks,r1,hcs,hat,hz,hr⟩
   ·rw [hv0] at r1; cases r1
   ·rw [hv0] at r1
    obtain rfl:=Option.some.inj r1
    exact .same H (key ⟨b,o',none⟩ (by rw [he,hcs]; rfl)) (.inr ⟨[.pointer (some ⟨b,o',none⟩)],⟨b,o',ks,rfl,hat,hz,hr⟩,by rw [he,hcs]; rfl⟩)
  ·cases hh
 ·rename_i e ho
  split at hh
  ·rename_i t nb ht
   exact alloc_ok hT H ho (hT _ _ _ ht).un hh
  ·cases hh
 ·rename_i e x ho
  split at hh
  ·rename_i t nb ht
   split at hh
   ·rename_i v us1 htk
    exact box_ok hT H ho (hT _ _ _ ht).un (unMV_ok (hρ x)) htk hh
   ·cases hh
  ·cases hh
 ·rename_i e parts ho
  split at hh
  ·rename_i tt0 nb ht
   split at hh
   ·rename_i ta tb ett
    obtain ⟨hb,hh⟩:=cond_some hh
    simp only [Option.some.injEq,Prod.mk.injEq] at hh
    obtain ⟨rfl,rfl⟩:=hh
    simp only [Bool.and_eq_true] at hb
    have hTe:=(hT _ _ _ ht).un
    rw [ett] at hTe
    exact build_ok hT H ho hTe hρ hb.1 hb.2
   ·cases hh
  ·cases hh
 ·rename_i e n parts ho
  split at hh
  ·rename_i t nb ht
   split at hh
   ·rename_i l us1 htk
    obtain ⟨hb,hh⟩:=chk_some hh
    simp only [Bool.and_eq_true,List.all_eq_true] at hb
    exact buildSlice_ok hT H ho ht hρ htk (Nat.le_of_ble_eq_true hb.1) (fun p hp=>Nat.lt_of_lt_of_le (Nat.lt_of_lt_of_le (Nat.lt_succ_self _) (Nat.le_of_ble_eq_true (hb.2 p hp))) (Nat.le_refl _)) hh
   ·cases hh
  ·cases hh
 ·rename_i e l c ho
  split at hh
  ·rename_i t nb ht
   split at hh
   ·rename_i k1 n k2 m hl hc
    obtain ⟨h1,hh⟩:=chk_some hh
    obtain ⟨h2,hh⟩:=chk_some hh
    obtain ⟨h3,hh⟩:=chk_some hh
    have g1:=hρ l
    have g2:=hρ c
    rw [hl] at g1
    rw [hc] at g2
    exact make_ok hT H ho ht g1 g2 (of_decide_eq_true h1) (of_decide_eq_true h2) (lenB_ok h3) hh
   ·cases hh
  ·cases hh
 ·rename_i e x ho
  split at hh
  ·rename_i s hv cv p t v hx
   obtain ⟨h1,hh⟩:=cond_some hh
   split at hh
   ·rename_i u hl
    simp only [Option.some.injEq,Prod.mk.injEq] at hh
    obtain ⟨rfl,rfl⟩:=hh
    have g:=hρ x
    rw [hx] at g
    exact load_ok hT H ho g h1 hl
   ·cases hh
  ·rename_i t v hx
   obtain ⟨h1,hh⟩:=cond_some hh
   simp only [Option.some.injEq,Prod.mk.injEq] at hh
   obtain ⟨rfl,rfl⟩:=hh
   have g:=hρ x
   rw [hx] at g
   exact load_im_ok hT H ho g h1
  ·rename_i m hx
   obtain ⟨h1,hh⟩:=cond_some hh
   simp only [Option.some.injEq,Prod.mk.injEq] at hh
   obtain ⟨rfl,rfl⟩:=hh
   have g:=hρ x
   rw [hx] at g
   rcases g with h0 | ⟨cs,⟨b,o',ks,hcs,hat,hz,hc⟩,he⟩
   ·cases h0
   have hev:a.eval x=.pointer (some ⟨b,o',none⟩):=by rw [he,hcs]; rfl
   have hc0:=hat 0 (by simp)
   simp only [Nat.add_zero,List.getElem?_cons_zero] at hc0
   have hag:(isAgg e).run E.P w=.ok false w:=by
    unfold clB at h1
    simp only [Bool.and_eq_true] at h1
    obtain ⟨h1,_⟩:=h1
    split at h1
    ·rename_i hu; simp [isAgg,run_underlying hu]
    ·rename_i hu; simp [isAgg,run_underlying hu]
    ·rename_i hu; simp [isAgg,run_underlying hu]
    ·rename_i hu; simp [isAgg,run_underlying hu]
    ·cases h1
   have hrun:(execOp a.eval o).run E.P w=.ok (.value (m.out ks)) w:=by
    unfold execOp; rw [ho]
    simp [Instr.loadAt,Instr.sureAddr,loadVar,hev,hag,run_load,hc0]
   exact .same H hrun (.inr ⟨_,hc,rfl⟩)
  ·cases hh
 ·rename_i e x y ho
  split at hh
  ·rename_i s hv cv p t v hx
   obtain ⟨h1,hh⟩:=cond_some hh
   have g:=hρ x
   rw [hx] at g
   exact store_ok hT H ho g (hρ y) h1 hh
  ·cases hh
 ·rename_i e x i ho
  split at hh
  ·rename_i t v hx
   obtain ⟨h1,hh⟩:=cond_some hh
   have g:=unMV_ok (hρ x)
   rw [hx] at g
   split at hh
   ·rename_i d hd
    cases hb:Nat.beq d.1.size 0 with
    | true=>rw [hb] at hh; cases hh
    | false =>
     rw [hb] at hh
     simp only [cond_false,Option.some.injEq,Prod.mk.injEq] at hh
     obtain ⟨rfl,rfl⟩:=hh
     exact fieldAddr_im_ok hT H ho g h1 hd (fun e=>by rw [e] at hb; cases hb)
   ·cases hh
  ·rename_i s hv cv p t v hx
   obtain ⟨h1,hh⟩:=cond_some hh
   have g:=unMV_ok (hρ x)
   rw [hx] at g
   split at hh
   ·rename_i d hd
    cases hb:(Nat.beq d.1.size 0 || (lookC sl s hv cv).isNone) with
    | true=>rw [hb] at hh; cases hh
    | false =>
     rw [hb] at hh
     simp only [cond_false,Option.some.injEq,Prod.mk.injEq] at hh
     obtain ⟨rfl,rfl⟩:=hh
     simp only [Bool.or_eq_false_iff] at hb
     exact fieldAddr_ok hT H ho g h1 hd (fun e=>by rw [e] at hb; cases hb.1) (by cases hq:lookC sl s hv cv <;> simp_all)
   ·cases hh
  ·cases hh
 ·rename_i e x i ho
  split at hh
  ·rename_i t nb ht
   obtain ⟨h1,hh⟩:=cond_some hh
   split at hh
   ·rename_i d hd
    simp only [Option.some.injEq,Prod.mk.injEq] at hh
    obtain ⟨rfl,rfl⟩:=hh
    exact field_ok hT H ho (unMV_ok (hρ x)) (hT _ _ _ ht).un h1 hd
   ·cases hh
  ·cases hh
 ·rename_i e x i ho
  split at hh
  ·rename_i k n hi
   have g:=hρ i
   rw [hi] at g
   split at hh
   ·rename_i t xs ac hc
    obtain ⟨h1,hh⟩:=cond_some hh
    obtain ⟨v,hv,hh⟩:=bind_some_ hh
    simp only [Option.some.injEq,Prod.mk.injEq] at hh
    obtain ⟨rfl,rfl⟩:=hh
    exact indexAddr_ok hT H ho (unMV_ok (hρ x)) g hc h1 hv
   ·cases hh
  ·cases hh
 ·rename_i fn first caps ho
  split at hh
  ·rename_i f
   obtain ⟨h1,hh⟩:=cond_some hh
   simp only [Option.some.injEq,Prod.mk.injEq] at hh
   obtain ⟨rfl,rfl⟩:=hh
   have hf:first = #[]:=by simpa using h1
   subst hf
   refine .same H (v:=.func (.func f) #[] (caps.toList.map a.eval).toArray) ?_ (.inr ⟨_,⟨caps.toList.map a.eval,rfl,relC_tups _ _ (by simp) (fun i u v h1 h2 => ?_)⟩,rfl⟩)
   ·unfold execOp; rw [ho]
    have hcaps:(caps.toList.map a.eval).toArray=caps.map a.eval:=by apply Array.ext'; simp
    rw [hcaps]
    simp [Instr.makeFunc]
   ·rw [List.getElem?_map] at h1 h2
    cases hk:caps.toList[i]? with
    | none=>rw [hk] at h1; cases h1
    | some y =>
     rw [hk] at h1 h2
     obtain rfl:=Option.some.inj h1
     obtain rfl:=Option.some.inj h2
     exact hρ y
  ·cases hh
 ·rename_i c ho
  split at hh
  ·rename_i f hc
   split at hh
   ·rename_i g caps hf
    have hg:=hρ f
    rw [hf] at hg
    refine call_ok hE H ho hc hg hr0 (by simp) (fun i u y h1 h2 => ?_) hh
    rw [List.getElem?_map,h2] at h1
    obtain rfl:=Option.some.inj h1
    exact hρ y
   ·cases hh
  ·rename_i hc
   split at hh
   ·rename_i x ty _ hargs hty
    split at hh
    ·rename_i hx
     split at hh
     ·rename_i t nb ht
      simp only [Option.some.injEq,Prod.mk.injEq] at hh
      obtain ⟨rfl,rfl⟩:=hh
      have g:=unMV_ok (hρ x)
      rw [hx] at g
      rcases g with g | ⟨cs,⟨A,rfl⟩,he⟩
      ·cases g
      obtain ⟨el,ne,hu,hel⟩:=(hT _ _ _ ht).desc
      have harr:c.args = #[x]:=Array.toList_inj.1 (by simpa using hargs)
      have ht0:c.argTypes[0]?=some ty:=by rw [← Array.getElem?_toList,hty]; rfl
      have hev:a.eval x=.slice A 0 0:=he
      refine .same H (v:=.int .i64 0) ?_ (relV_int _ _)
      unfold execOp; rw [ho]
      simp only [resolve,hc,harr,pure_bind,invoke,builtin]
      simp [Builtin.len_,ht0,hev,run_underlying hu,goInt]
     ·cases hh
    ·rename_i s hx
     obtain ⟨h1,hh⟩:=cond_some hh
     simp only [Option.some.injEq,Prod.mk.injEq] at hh
     obtain ⟨rfl,rfl⟩:=hh
     have g:=unMV_ok (hρ x)
     rw [hx] at g
     obtain ⟨nb,hTy⟩:=tyB_ok hT h1
     have hu:E.P.underlying ty=some .string:=hTy.desc
     have harr:c.args = #[x]:=Array.toList_inj.1 (by simpa using hargs)
     have ht0:c.argTypes[0]?=some ty:=by rw [← Array.getElem?_toList,hty]; rfl
     refine .same H (v:=.int .i64 s.size) ?_ (relV_int _ _)
     unfold execOp; rw [ho]
     simp only [resolve,hc,harr,pure_bind,invoke,builtin]
     simp [Builtin.len_,ht0,g.str,run_underlying hu,goInt]
    ·rename_i u _ _
     split at hh
     ·rename_i t xs ac hcc
      obtain ⟨h1,hh⟩:=cond_some hh
      simp only [Option.some.injEq,Prod.mk.injEq] at hh
      obtain ⟨rfl,rfl⟩:=hh
      exact len_ok hT H ho hc hargs (by rw [hty]; rfl) (unMV_ok (hρ x)) hcc h1
     ·cases hh
   ·cases hh
  ·rename_i hc
   split at hh
   ·rename_i x y ty ty' _ hargs hty
    obtain ⟨h1,hh2⟩:=cond_some hh
    clear hh
    obtain rfl:=Nat.eq_of_beq_eq_true h1
    exact append_ok hT H ho hc hargs (by rw [hty]; rfl) (hρ x) (unMV_ok (hρ y)) hh2
   ·cases hh
  ·rename_i hc
   split at hh
   ·rename_i x y hargs
    split at hh
    ·rename_i k p k' q hx hy
     simp only [Option.some.injEq,Prod.mk.injEq] at hh
     obtain ⟨rfl,rfl⟩:=hh
     have g1:=hρ x
     have g2:=hρ y
     rw [hx] at g1
     rw [hy] at g2
     have harr:c.args = #[x,y]:=Array.toList_inj.1 (by simpa using hargs)
     refine .same H (v:=.int k (if q<p then q else p)) ?_ (relV_int _ _)
     unfold execOp; rw [ho]
     simp only [resolve,hc,harr,pure_bind,invoke,builtin]
     simp [Builtin.min_,Builtin.min2,g1.int,g2.int]
    ·cases hh
   ·cases hh
  ·rename_i hc
   split at hh
   ·rename_i x y hargs
    split at hh
    ·rename_i k p k' q hx hy
     simp only [Option.some.injEq,Prod.mk.injEq] at hh
     obtain ⟨rfl,rfl⟩:=hh
     have g1:=hρ x
     have g2:=hρ y
     rw [hx] at g1
     rw [hy] at g2
     have harr:c.args = #[x,y]:=Array.toList_inj.1 (by simpa using hargs)
     refine .same H (v:=.int k (if q > p then q else p)) ?_ (relV_int _ _)
     unfold execOp; rw [ho]
     simp only [resolve,hc,harr,pure_bind,invoke,builtin]
     simp [Builtin.max_,Builtin.max2,g1.int,g2.int]
    ·cases hh
   ·cases hh
  ·cases hh
 ·cases hh
end
section
variable {R:Type} {E:Env} {look:Nat→Option Slot} {h:OH} (K:MV→Ups→Option R)
abbrev S2:MV→Ups→Option (MV × Ups):=fun m u=>some (m,u)
abbrev B2 {R:Type} (x:Option (MV × Ups)) (K:MV→Ups→Option R):Option R:=x.bind fun p=>K p.1 p.2
theorem chk_bind {A:Type} (b:Bool) (k:Option A) (f:A→Option R):(chk b k).bind f=chk b (k.bind f):=by cases b <;> rfl
theorem cond_bind {A:Type} (b:Bool) (k l:Option A) (f:A→Option R):(bif b then k else l).bind f=bif b then k.bind f else l.bind f:=by cases b <;> rfl
theorem bind_bind {A B:Type} (x:Option A) (g:A→Option B) (f:B→Option R):(x.bind g).bind f=x.bind fun y=>(g y).bind f:=by cases x <;> rfl
theorem binK_bind (xt:TypeId) (op:BinOp) (a b:MV):binK E xt op a b K=B2 (binK E xt op a b S2) K:=by
 unfold binK
 split
 ·split <;> simp only [B2,S2,cond_bind,Option.bind_none,Option.bind_some]
  ·split <;> simp only [cond_bind,Option.bind_none,Option.bind_some]
  ·split <;> simp only [cond_bind,Option.bind_none,Option.bind_some]
  ·split
   ·split <;> rfl
   ·rfl
 ·simp only [B2,S2,cond_bind,Option.bind_none]
  split <;> rfl
 ·split <;> simp only [B2,S2,chk_bind,Option.bind_none,Option.bind_some]
 ·rfl
theorem eqK_bind (xt:TypeId) (op:BinOp) (a b:MV):eqK E xt op a b K=B2 (eqK E xt op a b S2) K:=by
 unfold eqK
 split
 ·simp only [B2,S2,cond_bind,Option.bind_none]
  congr 1
  split
  ·split <;> rfl
  ·rfl
 ·simp only [B2,S2,cond_bind,Option.bind_none]
  congr 1
  split
  ·split <;> rfl
  ·rfl
 ·exact binK_bind K _ _ _ _
theorem nilK_bind (xt:TypeId) (op:BinOp) (a:MV):nilK E xt op a K=B2 (nilK E xt op a S2) K:=by
 unfold nilK
 split
 ·simp only [B2,S2,cond_bind,Option.bind_none]
  congr 1
  split <;> rfl
 ·rename_i t x
  cases tyB E xt (.sl t) with
  | true =>
   simp only [cond_true]
   unfold nes
   split
   ·rfl
   ·simp only [Option.bind_some]
    split <;> rfl
  | false=>rfl
 ·rfl
theorem newSlot_bind (c:SlotC) (us:Ups) (mk:Nat→Nat→MV):newSlot look h c us mk K=B2 (newSlot look h c us mk S2) K:=by
 unfold newSlot
 split
 ·split
  ·simp only [B2,S2,cond_bind,Option.bind_none,Option.bind_some]
  ·rfl
 ·rfl
theorem storeK_bind (ad v:MV):storeK look ad v K=B2 (storeK look ad v S2) K:=by
 unfold storeK
 split
 ·split
  ·split
   ·split
    ·simp only [B2,S2,cond_bind,chk_bind,Option.bind_none,Option.bind_some]
    ·split
     ·simp only [B2,S2,cond_bind,Option.bind_none,Option.bind_some]
     ·rfl
   ·rfl
  ·rfl
 ·rfl
theorem callK_bind (f:FuncId) (args caps:MV):callK E look h f args caps K=B2 (callK E look h f args caps S2) K:=by
 unfold callK
 simp only [B2,cond_bind,Option.bind_none]
 congr 1
 split
 ·split
  ·simp only [cond_bind,Option.bind_none]
   congr 1
   split
   ·split
    ·rw [bind_bind]
     congr 1
     funext r
     split
     ·split <;> rfl
     ·rfl
    ·rfl
   ·rfl
  ·rfl
 ·rfl
theorem appendK_bind (tid:TypeId) (base src:MV):appendK E look h tid base src K=B2 (appendK E look h tid base src S2) K:=by
 unfold appendK
 split
 ·split
  ·split
   ·split
    ·split
     ·simp only [B2,S2,cond_bind,chk_bind,Option.bind_none,Option.bind_some]
     ·rfl
    ·rfl
   ·rfl
  ·split
   ·split
    ·split
     ·simp only [B2,S2,cond_bind,chk_bind,Option.bind_none,Option.bind_some]
     ·rfl
    ·rfl
   ·rfl
  ·split
   ·simp only
    split
    ·split
     ·split
      ·simp only [B2,S2,cond_bind,chk_bind,Option.bind_none,Option.bind_some]
      ·rfl
     ·rfl
    ·rfl
   ·rfl
  ·rfl
 ·rfl
theorem opCore_bind (ρ:Operand→MV) (o:Oper):opCore E ρ look o h K=B2 (opCore E ρ look o h S2) K:=by
 unfold opCore
 split
 ·rfl
 ·split
  ·split
   ·exact newSlot_bind K _ _ _
   ·rfl
  ·rfl
 ·split
  ·split
   ·rfl
   ·simp only [B2,S2,cond_bind,Option.bind_some]
  ·rfl
 ·simp only [B2,cond_bind]
  congr 1
  ·exact nilK_bind K _ _ _
  ·exact eqK_bind K _ _ _ _
 ·split <;> rfl
 ·split <;> rfl
 ·split
  ·split <;> rfl
  ·split <;> rfl
  ·rfl
 ·split
  ·simp only [B2,S2,cond_bind,Option.bind_none,Option.bind_some]
  ·rfl
  ·simp only [B2,S2,bind_bind,Option.bind_some]
  ·rfl
 ·split
  ·exact newSlot_bind K _ _ _
  ·rfl
 ·split
  ·split
   ·exact newSlot_bind K _ _ _
   ·rfl
  ·rfl
 ·split
  ·split
   ·simp only [B2,S2,cond_bind,Option.bind_none,Option.bind_some]
   ·rfl
  ·rfl
 ·split
  ·split
   ·simp only [B2,chk_bind]; congr 1; exact newSlot_bind K _ _ _
   ·rfl
  ·rfl
 ·split
  ·split
   ·simp only [B2,chk_bind]; congr 3; exact newSlot_bind K _ _ _
   ·rfl
  ·rfl
 ·split
  ·simp only [B2,cond_bind,Option.bind_none]; congr 1; split <;> rfl
  ·simp only [B2,S2,cond_bind,Option.bind_none,Option.bind_some]
  ·simp only [B2,S2,cond_bind,Option.bind_none,Option.bind_some]
  ·rfl
 ·split
  ·simp only [B2,cond_bind,Option.bind_none]; congr 1; exact storeK_bind K _ _
  ·rfl
 ·split
  ·simp only [B2,cond_bind,Option.bind_none]; congr 1; split
   ·simp only [S2,cond_bind,Option.bind_none,Option.bind_some]
   ·rfl
  ·simp only [B2,cond_bind,Option.bind_none]; congr 1; split
   ·simp only [S2,cond_bind,Option.bind_none,Option.bind_some]
   ·rfl
  ·rfl
 ·split
  ·simp only [B2,cond_bind,Option.bind_none]; congr 1; split <;> rfl
  ·rfl
 ·split
  ·split
   ·simp only [B2,cond_bind,Option.bind_none,bind_bind]; rfl
   ·rfl
  ·rfl
 ·split
  ·simp only [B2,S2,cond_bind,Option.bind_none,Option.bind_some]
  ·rfl
 ·split
  ·split
   ·exact callK_bind K _ _ _
   ·rfl
  ·split
   ·split
    ·split <;> rfl
    ·simp only [B2,S2,cond_bind,Option.bind_none,Option.bind_some]
    ·split
     ·simp only [B2,S2,cond_bind,Option.bind_none,Option.bind_some]
     ·rfl
   ·rfl
  ·split
   ·simp only [B2,cond_bind,Option.bind_none]; congr 1; exact appendK_bind K _ _ _
   ·rfl
  ·split
   ·split <;> rfl
   ·rfl
  ·split
   ·split <;> rfl
   ·rfl
  ·rfl
 ·rfl
end
def toPtr (look:Nat→Option Slot):MV→MV
 | .adr s hv cv p t x=>match p with
  | some [.el 0]=>match lookC look s hv cv with
   | some c=>if h:c.t=.sl t then (match headT t (h ▸ c.x) with
    | some _=>bif c.m.isOw then .ptr s hv t else .dead
    | none=>.dead) else .dead
   | none=>.dead
  | _=>.dead
 | m=>m
def keeps (o:Oper):Bool :=
 match o.op with
 | .load _ _ | .store _ _ _ | .fieldAddr _ _ _ | .nilCheck _=>true
 | _=>false
def makes (o:Oper):Bool :=
 match o.op with
 | .alloc _ | .box _ _=>true
 | _=>false
def oneC:MV→Bool
 | .ptr _ _ _ | .root _ _ | .fn _ _=>true
 | _=>false
def boxI {R:Type} (E:Env) (ρ:Operand→MV) (o:Oper) (K:MV→Ups→Option R):Option R :=
 match o.op with
 | .box e x=>bif oneC (ρ x) && clB E.P e then K (.icl (ρ x)) [] else none
 | _=>none
def opX {R:Type} (E:Env) (ρ:Operand→MV) (look:Nat→Option Slot) (o:Oper) (h:OH) (K:MV→Ups→Option R):Option R :=
 bif keeps o then opCore E (fun x=>deref look (ρ x)) look o h K
 else bif makes o && Nat.beq h.fl 2 then boxI E ρ o K
 else bif makes o && Nat.beq h.fl 1 then opCore E ρ look o h fun mv us=>K (toPtr (us.look look) mv) us
 else opCore E ρ look o h K
section
variable {E:Env} {R:Type} {o:Oper} {a:Act} {w:World} {Z:Bs} {sl:Nat→Option Slot} {hdr:Nat→Value} {fp:Nat→Bs} {mv:MV} {ρ:Operand→MV}
theorem opX_bind {h:OH} {K:MV→Ups→Option R}:opX E ρ sl o h K=B2 (opX E ρ sl o h S2) K:=by
 unfold opX
 cases keeps o with
 | true=>exact opCore_bind ..
 | false =>
  simp only [cond_false]
  cases (makes o && Nat.beq h.fl 2) with
  | true =>
   simp only [cond_true]
   unfold boxI
   split
   ·simp only [B2,S2,cond_bind,Option.bind_none,Option.bind_some]
   ·rfl
  | false =>
  simp only [cond_false]
  cases (makes o && Nat.beq h.fl 1) with
  | true =>
   simp only [cond_true]
   rw [opCore_bind (K:=fun mv us=>K (toPtr (us.look sl) mv) us),opCore_bind (K:=fun mv us=>S2 (toPtr (us.look sl) mv) us)]
   simp only [B2,bind_bind,Option.bind_some]
  | false=>exact opCore_bind ..
theorem deref_ok (H:HR Z w sl hdr fp):∀ {u:MV} {cs:List Value},RelC Z w sl hdr fp u cs→deref sl u=.dead∨RelC Z w sl hdr fp (deref sl u) cs∧(deref sl u).out cs=u.out cs:=by
 intro u
 cases u with
 | ptr s hv t =>
  rintro cs ⟨hlen,S,h1,h2,h3⟩
  simp only [deref]
  split
  ·rename_i cv c hl
   have e2:=lookH_some hl
   rw [e2] at h1; obtain rfl:=Option.some.inj h1
   split
   ·rename_i et
    obtain ⟨ct,cm,cx⟩:=c
    simp only at et
    subst et
    split
    ·rename_i v hx
     refine .inr ⟨?_,rfl⟩
     have hrep:=H.rep s _ _ _ e2
     simp only at hrep
     have g0:=headT_some hx
     obtain ⟨b,o',cap,ks,m1,f1,hcs,hat,hr,hf,hb,hz,_⟩:=rep_el hrep g0
     obtain ⟨b2,o2,l2,cap2,e3,e4⟩:=h3 rfl _ rfl
     rw [e3] at hcs
     simp only [List.cons.injEq,Value.slice.injEq,Option.some.injEq,Addr.mk.injEq,and_true] at hcs
     obtain ⟨⟨rfl,rfl⟩,rfl,rfl⟩:=hcs
     have q:=subc_el (l:=List.length (α:=t.den) cx) (cap:=cap2) hat hr.len none
     refine ⟨hlen,_,e2,Nat.le_refl _,fun _=>⟨Nat.le_refl _,fun _ c' hc' => ?_⟩⟩
     obtain rfl:=Option.some.inj hc'
     have hmk:cm.isOw=true→∃ m,mkP (.sl t) cm [.el 0]=some m:=fun h=>by
      cases cm with
      | ow m=>exact ⟨m,by cases t <;> rfl⟩
      | _=>cases h
     refine ⟨b2,_,ks,by rw [e4,Nat.zero_mul,Nat.add_zero],hat,hb,fun h=>(hz h).1,⟨m1,f1,hr,hf,fun h=>(hz h).2⟩,fun p hp => ?_⟩
     obtain rfl:=Option.some.inj hp
     refine ⟨⟨getP_el g0,fun ho=>⟨?_,hmk ho⟩⟩,fun ho => ?_⟩
     ·rw [e3]; exact q.1
     ·rw [e3]; exact q.2
    ·exact .inl rfl
   ·exact .inl rfl
  ·exact .inl rfl
 | _=>intro cs h; exact .inr ⟨h,rfl⟩
theorem deref_okV (H:HR Z w sl hdr fp) {u:MV} {v:Value} (h:RelV Z w sl hdr fp u v):RelV Z w sl hdr fp (deref sl u) v:=by
 rcases h with rfl | ⟨cs,h1,h2⟩
 ·exact .inl rfl
 ·rcases deref_ok H h1 with h0 | ⟨q1,q2⟩
  ·exact .inl h0
  ·exact .inr ⟨cs,q1,h2.trans q2.symm⟩
theorem toPtr_ok (H:HR Z w sl hdr fp) {u:MV} {v:Value} (h:RelV Z w sl hdr fp u v):RelV Z w sl hdr fp (toPtr sl u) v:=by
 cases u with
 | adr s hv cv p t x =>
  rcases h with h | ⟨cs,⟨hlen,S,h1,h2,h3⟩,h4⟩
  ·cases h
  simp only [toPtr]
  split
  ·split
   ·rename_i c hl
    have e2:=lookC_some hl
    rw [e2] at h1; obtain rfl:=Option.some.inj h1
    split
    ·rename_i et
     obtain ⟨ct,cm,cx⟩:=c
     simp only at et
     subst et
     split
     ·rename_i v0 hx
      cases ho:cm.isOw with
      | false=>exact .inl rfl
      | true =>
       have hrep:=H.rep s _ _ _ e2
       simp only at hrep
       have g0:=headT_some hx
       obtain ⟨b,o',cap,ks,m1,f1,hcs,hat,hr,_⟩:=rep_el hrep g0
       simp only [List.cons.injEq,and_true] at hcs
       obtain ⟨b2,o2,ks2,e4,_,_,_,_,g5⟩:=(h3 rfl).2 rfl _ rfl
       have q:=(subc_el (l:=List.length (α:=t.den) cx) (cap:=cap) hat hr.len none).2
       have g6:=(g5 _ rfl).2 ho
       simp only at g6
       rw [hcs] at g6
       rw [q] at g6
       simp only [Option.some.injEq,Prod.mk.injEq] at g6
       obtain ⟨rfl,rfl⟩:=g6
       refine .inr ⟨cs,⟨hlen,_,e2,Nat.le_refl _,fun _ c' hc'=>⟨b,o',_,_,hcs,by rw [e4,Nat.zero_mul,Nat.add_zero]⟩⟩,h4⟩
     ·exact .inl rfl
    ·exact .inl rfl
   ·exact .inl rfl
  ·exact .inl rfl
 | _=>exact h
theorem boxI_ok (H:HR Z w sl hdr fp) (hr0:∃ r0,sl r0=none) {us:Ups} (hρ:∀ x,RelV Z w sl hdr fp (ρ x) (a.eval x)) (hh:boxI E ρ o (fun m u=>some (m,u))=some (mv,us)):OpOK E o a w Z sl hdr fp mv (us.look sl):=by
 obtain ⟨r0,hr0⟩:=hr0
 unfold boxI at hh
 split at hh
 ·rename_i e x ho
  obtain ⟨hb,hh⟩:=cond_some hh
  simp only [Option.some.injEq,Prod.mk.injEq] at hh
  obtain ⟨rfl,rfl⟩:=hh
  simp only [Bool.and_eq_true] at hb
  have hx:=hρ x
  have one:∃ cs v,RelC Z w sl hdr fp (ρ x) cs∧a.eval x=v∧(ρ x).out cs=v∧v.oneCell'=true:=by
   rcases hx with h0 | ⟨cs,h1,h2⟩
   ·rw [h0] at hb; cases hb.1
   ·refine ⟨cs,_,h1,rfl,h2.symm,?_⟩
    rw [h2]
    cases hm:ρ x with
    | ptr s hv t =>
     rw [hm] at h1
     obtain ⟨⟨hl,hc⟩,_⟩:=h1
     obtain ⟨v,rfl⟩:=List.length_eq_one_iff.1 hl
     exact hc v (by simp)
    | root s hv =>
     rw [hm] at h1
     obtain ⟨⟨hl,hc⟩,_⟩:=h1
     obtain ⟨v,rfl⟩:=List.length_eq_one_iff.1 hl
     exact hc v (by simp)
    | fn f c =>
     rw [hm] at h1
     obtain ⟨ks,rfl,_⟩:=h1
     rfl
    | _=>rw [hm] at hb; cases hb.1
  obtain ⟨cs,v,h1,h2,h3,h4⟩:=one
  have hzz:(a.eval x).cells=([v]).toArray:=by rw [h2]; exact Array.toList_inj.1 (by simpa using cells_single h4)
  have hrun:(execOp a.eval o).run E.P w=.ok (.value (.pointer (some ⟨w.heap.size,0,none⟩))) (w.alloc (.cells ([v]).toArray e)):=by
   unfold execOp; rw [ho]
   simp only [Instr.box,Sem.run_bind,Result.andThen_ok,newVar,newRow,run_newObj,Sem.run_pure,hzz]; rfl
  have hsize:(w.alloc (.cells ([v]).toArray e)).heap.size=w.heap.size+1:=by simp
  obtain ⟨H',T',_⟩:=step_call H (w':=w.alloc (.cells ([v]).toArray e)) (Zn:=fun b=>Z b∨b=w.heap.size) (F:=none_) (r0:=r0) (mu:=[]) (ios:=[]) (us:=[]) (fpc:=fun _=>none_) hr0 rfl rfl (fun k S hk=>by simp at hk) (fun b hb=>.inl hb)
   (fun b hb=>⟨hb.elim (fun h=>by have:=H.zlt b h; omega) (fun h=>by omega),hb.imp id (fun h=>.inr (by omega))⟩) (fun b hb _=>Go.RowKit.Below.heap_alloc w _ b hb) (by omega) rfl rfl rfl (fun b hb=>hb.elim) (fun k b hk=>hk.elim)
   ⟨fun k hv cv c h=>by simp [ioSlO] at h,fun k hv cv c h=>by simp [ioSlO] at h,fun k k' b h=>h.elim,fun k b h=>h.elim,fun b hb=>hb.elim (fun h=>by have:=H.zlt b h; omega) (fun h=>by omega),fun k b h=>h.elim⟩
  rw [look_nil]
  rw [look_nil] at H' T'
  refine .val hrun H' T' (.inr ⟨_,⟨w.heap.size,0,cs,rfl,?_,.inr rfl,h1.trans H H' T'⟩,rfl⟩)
  rw [h3]
  exact at_alloc w [v] e
 ·cases hh
theorem opX_ok (hT:TTok E) (hE:EnvOK E) (H:HR Z w sl hdr fp) (hr0:∃ r0,sl r0=none) {h:OH} {us:Ups} (hρ:∀ x,RelV Z w sl hdr fp (ρ x) (a.eval x)) (hh:opX E ρ sl o h (fun m u=>some (m,u))=some (mv,us)):OpOK E o a w Z sl hdr fp mv (us.look sl):=by
 unfold opX at hh
 cases hk:keeps o with
 | true =>
  rw [hk] at hh
  exact op_ok hT hE H hr0 (fun x=>deref_okV H (hρ x)) hh
 | false =>
  rw [hk] at hh
  simp only [cond_false] at hh
  cases hf2:(makes o && Nat.beq h.fl 2) with
  | true=>rw [hf2] at hh; exact boxI_ok H hr0 hρ hh
  | false =>
  rw [hf2] at hh
  simp only [cond_false] at hh
  cases hm:(makes o && Nat.beq h.fl 1) with
  | true =>
   rw [hm] at hh
   simp only [cond_true] at hh
   rw [opCore_bind] at hh
   obtain ⟨⟨mv0,us0⟩,h1,h2⟩:=bind_some_ hh
   simp only [Option.some.injEq,Prod.mk.injEq] at h2
   obtain ⟨rfl,rfl⟩:=h2
   have:=op_ok hT hE H hr0 hρ h1
   intro next Q hnext
   exact this next Q (fun v w' Z' hdr' fp' H' T' R'=>hnext v w' Z' hdr' fp' H' T' (toPtr_ok H' R'))
  | false =>
   rw [hm] at hh
   exact op_ok hT hE H hr0 hρ hh
theorem take_agg_ {sl:Nat→Option Slot} {t:Ty} {m:Mk} {u:MV} {x:t.den} {us:Ups} (h:take sl t m u=some (x,us)):u.agg=t.agg∧u.isL=false:=by
 cases u with
 | val t' y =>
  have h':(if hh:t'=t then bif t.shared m || t.flat then some ((hh ▸ y:t.den),([]:Ups)) else none else none)=some (x,us):=by cases t <;> exact h
  split at h'
  ·rename_i e; subst e; exact ⟨rfl,rfl⟩
  ·cases h'
 | view s hv cv p t' y =>
  rw [take_view] at h
  split at h
  ·split at h
   ·split at h
    ·rename_i e; subst e; exact ⟨rfl,rfl⟩
    ·cases h
   ·cases h
  ·cases h
 | nil=>cases t <;> first | (cases h; done) | exact ⟨rfl,rfl⟩
 | root s hv=>cases t <;> first | (cases h; done) | exact ⟨rfl,rfl⟩
 | pr a b=>cases t <;> first | (cases h; done) | exact ⟨rfl,rfl⟩
 | _=>cases t <;> cases h
end
section
variable {E:Env} {o:Oper} {a:Act} {w:World} {Z:Bs} {sl:Nat→Option Slot} {hdr:Nat→Value} {fp:Nat→Bs} {mv:MV} {ρ:Operand→MV}
def mget (k:Ty) {β:Type}:List (k.den × β)→k.den→Option β
 | [],_=>none
 | p :: r,y=>bif eqV k y p.1 then some p.2 else mget k r y
def mput (k:Ty) {β:Type}:List (k.den × β)→k.den→β→List (k.den × β)
 | [],y,z=>[(y,z)]
 | p :: r,y,z=>bif eqV k y p.1 then (y,z) :: r else p :: mput k r y z
def keyT (E:Env):Nat→TypeId→Bool
 | 0,_=>false
 | n+1,e=>match E.tt e with
  | some (.bool,_) | some (.int _,_) | some (.str,_)=>true
  | some (.arr _ _,_)=>(match E.P.underlying e with
   | some (.array _ el)=>keyT E n el
   | _=>false)
  | _=>false
theorem keyT_eqT:∀ (n:Nat) {e:TypeId},keyT E n e=true→eqT E n e=true
 | 0,_,h=>by cases h
 | n+1,e,h=>by
  unfold keyT at h
  unfold eqT
  split at h
  ·rename_i h0; rw [h0]
  ·rename_i h0; rw [h0]
  ·rename_i h0; rw [h0]
  ·rename_i h0
   rw [h0]
   split at h
   ·rename_i h1; simp only [h1]; exact keyT_eqT n h
   ·cases h
  ·cases h
theorem eqV_eq:∀ {t:Ty} {Z:Bs} {w:World} {m m':Mk} {x y:t.den} {f g:Bs} {c1 c2:List Value} {n:Nat} {e:TypeId} {nb:Nat},TTok E→E.tt e=some (t,nb)→keyT E n e=true→Rep Z w t m x f c1→Rep Z w t m' y g c2→eqV t x y=true→x=y∧c1=c2:=by
 intro t
 induction t with
 | bool =>
  intro Z w m m' x y f g c1 c2 n e nb _ _ _ r1 r2 h
  have h:(x == y)=true:=h
  obtain rfl:=eq_of_beq h
  exact ⟨rfl,(show c1=_ from r1).trans (show c2=_ from r2).symm⟩
 | int k =>
  intro Z w m m' x y f g c1 c2 n e nb _ _ _ r1 r2 h
  obtain rfl:=of_decide_eq_true (show decide (x=y)=true from h)
  exact ⟨rfl,(show c1=_ from r1).trans (show c2=_ from r2).symm⟩
 | str =>
  intro Z w m m' x y f g c1 c2 n e nb _ _ _ r1 r2 h
  have h:(x.toList == y.toList)=true:=h
  have h:=eq_of_beq h
  rw [ByteArray.toList_eq,ByteArray.toList_eq] at h
  obtain rfl:x=y:=ByteArray.ext (Array.toList_inj.1 h)
  exact ⟨rfl,(show c1=_ from r1).trans (show c2=_ from r2).symm⟩
 | arr l t ih =>
  intro Z w m m' xs ys f g c1 c2 n e nb hE ht hk r1 r2 h
  cases n with
  | zero=>cases hk
  | succ n =>
  obtain ⟨el,n2,hu,hel⟩:=(hE _ _ _ ht).desc
  unfold keyT at hk
  rw [ht] at hk
  simp only [hu] at hk
  obtain ⟨l1,i1⟩:=r1
  obtain ⟨l2,i2⟩:=r2
  have h:(List.zip xs ys).all (fun p=>eqV t p.1 p.2)=true:=h
  have key:∀ (xs ys:List t.den) (f g:Bs) (c1 c2:List Value),xs.length=ys.length→Inline (fun x f c=>Rep Z w t m x f c) xs f c1→Inline (fun x f c=>Rep Z w t m' x f c) ys g c2→(List.zip xs ys).all (fun p=>eqV t p.1 p.2)=true→xs=ys∧c1=c2:=by
   intro xs
   induction xs with
   | nil =>
    intro ys f g c1 c2 hl i1 i2 _
    cases ys with
    | nil=>exact ⟨rfl,(show c1=[] from i1).trans (show c2=[] from i2).symm⟩
    | cons _ _=>simp at hl
   | cons x xs ihx =>
    intro ys f g c1 c2 hl i1 i2 h
    cases ys with
    | nil=>simp at hl
    | cons y ys =>
     obtain ⟨ca,cb,f1,f2,rfl,ra,rb,_⟩:=i1
     obtain ⟨da,db,g1,g2,rfl,sa,sb,_⟩:=i2
     simp only [List.zip_cons_cons,List.all_cons,Bool.and_eq_true] at h
     obtain ⟨rfl,rfl⟩:=ih hE hel hk ra sa h.1
     obtain ⟨rfl,rfl⟩:=ihx ys f2 g2 cb db (by simpa using hl) rb sb h.2
     exact ⟨rfl,rfl⟩
  exact key xs ys f g c1 c2 (l1.trans l2.symm) i1 i2 h
 | unit | pair _ _ _ _ | sl _ _ | mp _ _ _ _ | ex _ _ _ _ _ =>
  intro Z w m m' x y f g c1 c2 n e nb _ ht hk
  cases n with
  | zero=>cases hk
  | succ n=>unfold keyT at hk; rw [ht] at hk; cases hk
theorem checkKey_ok (hE:TTok E) (em:Bool):∀ (n:Nat) {e:TypeId} {t:Ty} {nb:Nat} (d:Nat),E.tt e=some (t,nb)→keyT E n e=true→n≤d→∀ (Z:Bs) (w:World) (m:Mk) (x:t.den) (f:Bs) (c:List Value),Rep Z w t m x f c→(Instr.checkKey em d e (t.val c)).run E.P w=.ok () w
 | 0,_,_,_,_,_,h,_=>by cases h
 | n+1,e,t,nb,0,_,_,h=>absurd h (Nat.not_succ_le_zero _)
 | n+1,e,t,nb,d+1,ht,hk,hd=>by
  have hT:=hE _ _ _ ht
  have hdesc:=hT.desc
  intro Z w m x f c r
  unfold keyT at hk
  rw [ht] at hk
  cases t with
  | bool=>rw [show c=[.bool x] from r]; simp [Instr.checkKey,run_underlying hdesc,Ty.val,Ty.agg]
  | int k=>rw [show c=[.int k x] from r]; simp [Instr.checkKey,run_underlying hdesc,Ty.val,Ty.agg]
  | str=>rw [show c=[.string x] from r]; simp [Instr.checkKey,run_underlying hdesc,Ty.val,Ty.agg]
  | arr l t =>
   obtain ⟨el,n2,hu,hel⟩:=hdesc
   simp only [hu] at hk
   have hTe:=hE _ _ _ hel
   have ih:=checkKey_ok hE em n d hel hk (Nat.le_of_succ_le_succ hd)
   obtain ⟨hl,i⟩:=r
   simp only [Ty.val,Ty.agg,cond_true,Instr.checkKey,Sem.run_bind,run_underlying hu,Result.andThen_ok]
   have loop:∀ (k:Nat) (xs:List t.den) (f:Bs) (p c:List Value),xs.length=k→p.length=(l-k)*t.size→k≤l→Inline (fun x f c=>Rep Z w t m x f c) xs f c →
    Sem.run E.P (forIn (m:=Sem) (List.range' (l-k) k) () (fun i r=>do
     let s ← sizeOf el
     let u ← part el (p++c).toArray (i*s)
     Instr.checkKey em d el u
     pure (ForInStep.yield ()))) w=.ok () w:=by
    intro k
    induction k with
    | zero=>intro xs f p c _ _ _ _; rfl
    | succ k ih2 =>
     intro xs f p c h1 q1 hk j1
     cases xs with
     | nil=>simp at h1
     | cons x xs =>
      obtain ⟨ca,cb,f1,f2,rfl,ra,rb,_⟩:=j1
      have hidx:(l-(k+1))+1=l-k:=by omega
      have hp:(part el (p++(ca++cb)).toArray ((l-(k+1))*t.size)).run E.P w=.ok (t.val ca) w:=by
       have:=run_part_ (E:=E) (w:=w) hTe (cs:=p++(ca++cb)) (off:=(l-(k+1))*t.size) (by simp [q1,ra.len])
       rw [this,← q1,List.drop_left,← ra.len,List.take_left]
      rw [List.range'_succ,List.forIn_cons]
      simp only [Sem.run_bind,hTe.size w,hp,Result.andThen_ok,ih _ _ _ _ _ _ ra,Sem.run_pure]
      have:=ih2 xs f2 (p++ca) cb (by simpa using h1) (by rw [List.length_append,q1,ra.len,← hidx,Nat.succ_mul]) (by omega) rb
      rw [List.append_assoc] at this
      rw [hidx]
      simpa only [Sem.run_bind] using this
   have this:=loop l x f [] c hl (by simp) (Nat.le_refl _) i
   simp only [Nat.sub_self,List.nil_append,Sem.run_bind] at this
   simp only [Std.Legacy.Range.forIn_eq_forIn_range',Std.Legacy.Range.size,Nat.sub_zero,Nat.add_one_sub_one,Nat.div_one,Sem.run_bind,Sem.run_pure]
   first
    | exact this
    | (simp only [this,Result.andThen_ok,Sem.run_pure]; done)
    | (refine (congrArg (fun r=>Result.andThen r _) this).trans ?_; rfl)
  | _=>cases hk
theorem entries_get {α β:Type} {Rk:α→List Value→Prop} {Rv:β→Bs→List Value→Prop} {kv vv:List Value→Value}:∀ {xs:List (α × β)} {es:List MapEntry} {fp:Bs},Entries Rk Rv kv vv xs es fp→es.length=xs.length ∧
 ∀ (i:Nat) (x:α × β) (e:MapEntry),xs[i]?=some x→es[i]?=some e→∃ ck cv f,e.key=kv ck∧e.val=vv cv∧Rk x.1 ck∧Rv x.2 f cv∧∀ k,f k→fp k
 | [],es,fp,h=>by rw [show es=[] from h]; exact ⟨rfl,fun i x e h=>by simp at h⟩
 | x0 :: xs,es,fp,⟨e0,es',ck,cv,f1,f2,he,h1,h2,h3,h4,h5,s1,s2,_⟩=>by
  subst he
  obtain ⟨g1,g2⟩:=entries_get h5
  refine ⟨by simp [g1],fun i x e hx he => ?_⟩
  cases i with
  | zero =>
   simp only [List.getElem?_cons_zero,Option.some.injEq] at hx he
   subst hx; subst he
   exact ⟨ck,cv,f1,h1,h2,h3,h4,s1⟩
  | succ i =>
   obtain ⟨ck,cv,f,q1,q2,q3,q4,q5⟩:=g2 i x e (by simpa using hx) (by simpa using he)
   exact ⟨ck,cv,f,q1,q2,q3,q4,fun k hk=>s2 k (q5 k hk)⟩
theorem entries_set {α β:Type} {Rk:α→List Value→Prop} {Rv:β→Bs→List Value→Prop} {kv vv:List Value→Value} {y:α} {z:β} {e:MapEntry} {ck cv:List Value} (h1:e.key=kv ck) (h2:e.val=vv cv) (h3:Rk y ck) (h4:Rv z none_ cv):∀ {xs:List (α × β)} {es:List MapEntry} {fp:Bs} (i:Nat),Entries Rk Rv kv vv xs es fp→Entries Rk Rv kv vv (xs.set i (y,z)) (es.set i e) fp
 | [],es,fp,i,h=>by rw [show es=[] from h]; exact rfl
 | x0 :: xs,es,fp,0,⟨e0,es',ck',cv',f1,f2,he,_,_,_,_,h5,s1,s2,_⟩=>by
  subst he
  exact ⟨e,es',ck,cv,none_,f2,rfl,h1,h2,h3,h4,h5,fun _ h=>h.elim,s2,fun _ h=>h.elim⟩
 | x0 :: xs,es,fp,i+1,⟨e0,es',ck',cv',f1,f2,he,q1,q2,q3,q4,h5,s1,s2,s3⟩=>by
  subst he
  exact ⟨e0,es'.set i e,ck',cv',f1,f2,rfl,q1,q2,q3,q4,entries_set h1 h2 h3 h4 i h5,s1,s2,s3⟩
theorem entries_push {α β:Type} {Rk:α→List Value→Prop} {Rv:β→Bs→List Value→Prop} {kv vv:List Value→Value} {y:α} {z:β} {e:MapEntry} {ck cv:List Value} (h1:e.key=kv ck) (h2:e.val=vv cv) (h3:Rk y ck) (h4:Rv z none_ cv):∀ {xs:List (α × β)} {es:List MapEntry} {fp:Bs},Entries Rk Rv kv vv xs es fp→Entries Rk Rv kv vv (xs++[(y,z)]) (es++[e]) fp
 | [],es,fp,h=>by rw [show es=[] from h]; exact ⟨e,[],ck,cv,none_,none_,rfl,h1,h2,h3,h4,rfl,fun _ h=>h.elim,fun _ h=>h.elim,fun _ h=>h.elim⟩
 | x0 :: xs,es,fp,⟨e0,es',ck',cv',f1,f2,he,q1,q2,q3,q4,h5,s1,s2,s3⟩=>by
  subst he
  exact ⟨e0,es'++[e],ck',cv',f1,f2,rfl,q1,q2,q3,q4,entries_push h1 h2 h3 h4 h5,s1,s2,s3⟩
theorem mput_none {k:Ty} {β:Type} {y:k.den} {z:β}:∀ {xs:List (k.den × β)},mget k xs y=none→mput k xs y z=xs++[(y,z)]
 | [],_=>rfl
 | p :: r,h=>by
  simp only [mget] at h
  simp only [mput]
  cases hb:eqV k y p.1 with
  | true=>rw [hb] at h; cases h
  | false=>rw [hb] at h; simp only [cond_false]; rw [mput_none h]; rfl
def Found (k:Ty) {β:Type} (xs:List (k.den × β)) (es:List MapEntry) (i0:Nat) (y:k.den) (r:Option (Nat × Value)):Prop :=
 (mget k xs y=none∧r=none)∨∃ i x e,mget k xs y=some x.2∧r=some (i0+i,e.val)∧xs[i]?=some x∧es[i]?=some e∧eqV k y x.1=true∧∀ z,mput k xs y z=xs.set i (y,z)
theorem Found.skip {k:Ty} {β:Type} {xs:List (k.den × β)} {es:List MapEntry} {i0:Nat} {y:k.den} {r:Option (Nat × Value)} {p:k.den × β} {e:MapEntry} (hb:eqV k y p.1=false) (h:Found k xs es (i0+1) y r):Found k (p :: xs) (e :: es) i0 y r:=by
 rcases h with ⟨h1,h2⟩ | ⟨i,x,e',h1,h2,h3,h4,h5,h6⟩
 ·exact .inl ⟨by simp only [mget,hb,cond_false]; exact h1,h2⟩
 ·exact .inr ⟨i+1,x,e',by simp only [mget,hb,cond_false]; exact h1,by rw [h2]; congr 2; omega,by simpa using h3,by simpa using h4,h5,fun z=>by simp only [mput,hb,cond_false,h6 z]; rfl⟩
theorem Found.hit {k:Ty} {β:Type} {xs:List (k.den × β)} {es:List MapEntry} {i0:Nat} {y:k.den} {p:k.den × β} {e:MapEntry} (hb:eqV k y p.1=true):Found k (p :: xs) (e :: es) i0 y (some (i0,e.val)) :=
 .inr ⟨0,p,e,by simp only [mget,hb,cond_true],rfl,rfl,rfl,hb,fun z=>by simp only [mput,hb,cond_true]; rfl⟩
theorem findKey_ok (hE:TTok E) {n:Nat} {kt:TypeId} {k:Ty} {nb:Nat} (ht:E.tt kt=some (k,nb)) (hk:keyT E n kt=true) (hn:n≤10000) {β:Type} {Rv:β→Bs→List Value→Prop} {vv:List Value→Value} {y:k.den} {cy:List Value} (hy:Rep Z w k .im y none_ cy) {xs:List (k.den × β)} {es:List MapEntry} {f:Bs}
 (h:Entries (fun x c=>Rep Z w k .im x none_ c) Rv k.val vv xs es f):∃ r,(Instr.findKey kt (k.val cy) es).run E.P w=.ok r w∧Found k xs es 0 y r:=by
 have asking:∀ (xs:List (k.den × β)) (es:List MapEntry) (f:Bs) (i0:Nat),Entries (fun x c=>Rep Z w k .im x none_ c) Rv k.val vv xs es f→∃ r,(Instr.findAsking kt (k.val cy) es i0).run E.P w=.ok r w∧Found k xs es i0 y r:=by
  intro xs
  induction xs with
  | nil=>intro es f i0 h; rw [show es=[] from h]; exact ⟨none,rfl,.inl ⟨rfl,rfl⟩⟩
  | cons p xs ih =>
   rintro es f i0 ⟨e,es',ck,cv,f1,f2,rfl,h1,h2,h3,h4,h5,_⟩
   have hq:=equalIn_ok hE n 10000 ht (keyT_eqT n hk) hn _ _ _ _ _ _ _ _ _ _ hy h3
   have hq:(Op.equal kt (k.val cy) e.key).run E.P w=.ok (eqV k y p.1) w:=by rw [h1]; exact hq
   simp only [Instr.findAsking,Sem.run_bind,hq,Result.andThen_ok]
   cases hb:eqV k y p.1 with
   | true=>exact ⟨_,rfl,Found.hit hb⟩
   | false =>
    obtain ⟨r,g1,g2⟩:=ih es' f2 (i0+1) h5
    exact ⟨r,by simpa using g1,g2.skip hb⟩
 have now:∀ {d:TypeDesc},E.P.underlying kt=some d→(∀ (p:k.den) (ck:List Value),Rep Z w k .im p none_ ck→Instr.sameNow d (k.val cy) (k.val ck)=some (eqV k y p))→∃ r,(Instr.findKey kt (k.val cy) es).run E.P w=.ok r w∧Found k xs es 0 y r:=by
  intro d hd hs
  have key:∀ (xs:List (k.den × β)) (es:List MapEntry) (f:Bs) (i0:Nat),Entries (fun x c=>Rep Z w k .im x none_ c) Rv k.val vv xs es f→∃ r,Instr.findNow d (k.val cy) es i0=some r∧Found k xs es i0 y r:=by
   intro xs
   induction xs with
   | nil=>intro es f i0 h; rw [show es=[] from h]; exact ⟨none,rfl,.inl ⟨rfl,rfl⟩⟩
   | cons p xs ih =>
    rintro es f i0 ⟨e,es',ck,cv,f1,f2,rfl,h1,h2,h3,h4,h5,_⟩
    simp only [Instr.findNow,h1,hs p.1 ck h3]
    cases hb:eqV k y p.1 with
    | true=>exact ⟨_,rfl,Found.hit hb⟩
    | false =>
     obtain ⟨r,g1,g2⟩:=ih es' f2 (i0+1) h5
     exact ⟨r,g1,g2.skip hb⟩
  obtain ⟨r,g1,g2⟩:=key xs es f 0 h
  exact ⟨r,Go.MapKept.run_findKey hd g1,g2⟩
 have hT:=hE _ _ _ ht
 have hdesc:=hT.desc
 cases n with
 | zero=>cases hk
 | succ n =>
 unfold keyT at hk
 rw [ht] at hk
 cases k with
 | bool=>exact now hdesc (fun p ck hp=>by rw [show cy=[.bool y] from hy,show ck=[.bool p] from hp]; rfl)
 | int q =>
  refine now hdesc (fun p ck hp => ?_)
  rw [show cy=[.int q y] from hy,show ck=[.int q p] from hp]
  show (if q=q then some (y == p) else none)=_
  rw [if_pos rfl,int_beq]; rfl
 | str =>
  refine now hdesc (fun p ck hp => ?_)
  rw [show cy=[.string y] from hy,show ck=[.string p] from hp]
  show some (y == p)=_
  rw [beq_toListBytes]; rfl
 | arr l t =>
  obtain ⟨el,n2,hu,hel⟩:=hdesc
  obtain ⟨r,g1,g2⟩:=asking xs es f 0 h
  exact ⟨r,by rw [run_findKey_eq w (by rw [hu])]; exact g1,g2⟩
 | _=>cases hk
def mkIn:Mk→Mk
 | .ow q=>q
 | _=>.im
structure MapC where
 k:Ty
 v:Ty
 x:Option (List (k.den × v.den))
def mapC (look:Nat→Option Slot):MV→Option MapC
 | .val (.mp k v) x=>some ⟨k,v,x⟩
 | .root s hv=>match lookH look s hv with
  | some (_,⟨.mp k v,m,x⟩)=>bif v.shared (mkIn m) then some ⟨k,v,x⟩ else none
  | _=>none
 | _=>none
def mapB (E:Env) (e:TypeId) (k v:Ty):Bool:=tyB E e (.mp k v) && (match E.P.underlying e with
 | some (.map kt _)=>keyT E 50 kt
 | _=>false)
def opM {R:Type} (E:Env) (ρ:Operand→MV) (look:Nat→Option Slot) (o:Oper) (h:OH) (K:MV→Ups→Option R):Option R :=
 match o.op with
 | .makeMap e none=>match E.tt e with
  | some (.mp k v,_)=>newSlot look h ⟨.mp k v,.ow h.m,some []⟩ [] .root K
  | _=>none
 | .lookup e m i ok=>match mapC look (ρ m),ρ i with
  | some ⟨k,v,xs⟩,.val k' y=>bif mapB E e k v then (if hk:k'=k then
   (bif ok then K (.tc (.val v ((xs.bind fun l=>mget k l (hk ▸ y)).getD v.zero)) (.tc (.val .bool (xs.bind fun l=>mget k l (hk ▸ y)).isSome) .tn)) []
   else K (.val v ((xs.bind fun l=>mget k l (hk ▸ y)).getD v.zero)) []) else none) else none
  | _,_=>none
 | .mapUpdate e m i x=>match ρ m,ρ i with
  | .root s hv,.val k' y=>match lookH look s hv with
   | some (cv,⟨.mp k v,.ow q,xs⟩)=>bif mapB E e k v && v.shared q && Nat.ble k.size 1000 then (if hk:k'=k then (match takeX look v .im (ρ x) with
    | some (z,us)=>bif us.any (fun u=>Nat.beq u.1 s) then none else xs.bind fun l=>K .dead ((s,⟨hv,cv+1,some ⟨.mp k v,.ow q,some (mput k l (hk ▸ y) z)⟩⟩) :: us)
    | none=>none) else none) else none
   | _=>none
  | _,_=>none
 | .build e parts=>match E.tt e with
  | some (.arr n t,_)=>match takeMany t .im look (parts.toList.map fun p=>(p.1,ρ p.2)) with
   | some (l,us)=>chk (l.all fun p=>Nat.blt p.1 n) (K (.val (.arr n t) (setMany (List.replicate n t.zero) l)) us)
   | none=>none
  | _=>none
 | .index e x i=>match unMV (ρ x),ρ i with
  | .val (.arr n t) xs,.val (.int _) m=>bif tyB E e (.arr n t) then (idx xs m).bind fun v=>K (.val t v) [] else none
  | .val .str xs,.val (.int _) m=>bif tyB E e .str then (idx (xs:ByteArray).data.toList m).bind fun v=>K (.val (.int .u8) ((v.toNat:Nat):Int)) [] else none
  | _,_=>none
 | .indexAddr e x i=>match ρ i with
  | .val (.int _) m=>match deref look (ρ x) with
   | .iadr (.arr n t) xs=>bif tyB E e (.arr n t) then (idx xs m).bind fun v=>K (.iadr t v) [] else none
   | .adr s hv cv p (.arr n t) xs=>bif tyB E e (.arr n t) && (lookC look s hv cv).isSome then (idx xs m).bind fun v=>K (.adr s hv cv (p.map (·++[.el m.toNat])) t v) [] else none
   | _=>none
  | _=>none
 | .call c=>match c.callee with
  | .builtin .len=>match c.args.toList,c.argTypes.toList with
   | [x],ty :: _=>match mapC look (ρ x) with
    | some ⟨k,v,xs⟩=>bif tyB E ty (.mp k v) then K (.val (.int .i64) (((xs.getD []).length:Nat):Int)) [] else none
    | none=>match unMV (ρ x) with
     | .val (.arr n t) xs=>bif tyB E ty (.arr n t) then K (.val (.int .i64) (n:Int)) [] else none
     | _=>none
   | _,_=>none
  | _=>none
 | _=>none
theorem map_rep (H:HR Z w sl hdr fp) {u:MV} {k v:Ty} {xs:Option (List (k.den × v.den))} {cs:List Value} (h:mapC sl u=some ⟨k,v,xs⟩) (hr:RelC Z w sl hdr fp u cs) :
 (xs=none∧u.out cs=.map none)∨∃ b es n l q f,xs=some l∧u.out cs=.map (some b)∧w.heap[b]?=some (.map es n)∧v.shared q=true∧Entries (fun x c=>Rep Z w k .im x none_ c) (fun x f c=>Rep Z w v q x f c) k.val v.val l es.toList f:=by
 cases u with
 | val t x =>
  cases t with
  | mp k' v' =>
   simp only [mapC,Option.some.injEq,MapC.mk.injEq] at h
   obtain ⟨rfl,rfl,h⟩:=h
   obtain rfl:=eq_of_heq h
   rcases hr with ⟨h1,rfl⟩ | ⟨b,es,n,l,h1,rfl,h2,h3,h4⟩
   ·exact .inl ⟨h1,rfl⟩
   ·exact .inr ⟨b,es,n,l,.im,none_,h1,rfl,h3,shared_im _,h4⟩
  | _=>cases h
 | root s hv =>
  simp only [mapC] at h
  split at h
  ·rename_i cv k' v' m x hl
   obtain ⟨hb,h⟩:=cond_some h
   simp only [Option.some.injEq,MapC.mk.injEq] at h
   obtain ⟨rfl,rfl,h⟩:=h
   obtain rfl:=eq_of_heq h
   have e2:=lookH_some hl
   obtain ⟨hl1,S,h1,_,h3⟩:=hr
   rw [e2] at h1; obtain rfl:=Option.some.inj h1
   obtain rfl:=h3 rfl _ rfl
   have hrep:=H.rep s _ _ _ e2
   have hout:(MV.root s hv).out [hdr s]=hdr s:=rfl
   rw [hout]
   cases m with
   | ow q =>
    rcases hrep with ⟨h1,h2⟩ | ⟨b,es,n,l,h1,h2,h3,h4,f,h5,h6⟩
    ·exact .inl ⟨h1,by simpa using h2⟩
    ·exact .inr ⟨b,es,n,l,q,f,h1,by simpa using h2,h4,hb,h6⟩
   | im =>
    rcases hrep with ⟨h1,h2⟩ | ⟨b,es,n,l,h1,h2,h3,h4,h6⟩
    ·exact .inl ⟨h1,by simpa using h2⟩
    ·exact .inr ⟨b,es,n,l,.im,none_,h1,by simpa using h2,h4,shared_im _,h6⟩
   | pr q1 q2 =>
    rcases hrep with ⟨h1,h2⟩ | ⟨b,es,n,l,h1,h2,h3,h4,h6⟩
    ·exact .inl ⟨h1,by simpa using h2⟩
    ·exact .inr ⟨b,es,n,l,.im,none_,h1,by simpa using h2,h4,shared_im _,h6⟩
  ·cases h
 | _=>cases h
theorem lookup_core (hE:TTok E) {e:TypeId} {m i:Operand} {ok:Bool} {k v:Ty} {xs:Option (List (k.den × v.den))} {y:k.den} (ho:o.op=.lookup e m i ok) (hi:RelV Z w sl hdr fp (.val k y) (a.eval i)) (hb:mapB E e k v=true)
 (hd:(xs=none∧a.eval m=.map none)∨∃ b es n l q f,xs=some l∧a.eval m=.map (some b)∧w.heap[b]?=some (.map es n)∧v.shared q=true∧Entries (fun x c=>Rep Z w k .im x none_ c) (fun x f c=>Rep Z w v q x f c) k.val v.val l es.toList f) :
 ∃ val:Value,RelV Z w sl hdr fp (.val v ((xs.bind fun l=>mget k l y).getD v.zero)) val∧(execOp a.eval o).run E.P w=.ok (.value (if ok then .tuple #[val,.bool (xs.bind fun l=>mget k l y).isSome] else val)) w:=by
 simp only [mapB,Bool.and_eq_true] at hb
 obtain ⟨hb1,hb2⟩:=hb
 obtain ⟨nb,hT⟩:=tyB_ok hE hb1
 obtain ⟨kt,vt,n1,n2,hun,hk,hv⟩:=hT.desc
 rw [hun] at hb2
 simp only at hb2
 rcases hi with hi | ⟨ci,hi,ei⟩
 ·cases hi
 have ei:a.eval i=k.val ci:=ei
 have hTv:=hE _ _ _ hv
 obtain ⟨z,hz,hzc⟩:=hTv.zero w
 have hzv:z=v.val v.zcells:=by
  obtain ⟨i0,z0,q1,q2,q3,q4,q5⟩:=hTv.info
  have:(zeroValue vt).run E.P w=.ok z0 w:=by simp [zeroValue,typeInfo,q1,q4]
  rw [this] at hz
  obtain ⟨rfl,_⟩:=Result.ok.inj hz
  exact hTv.zv _ _ q1 q4
 have hzero:RelV Z w sl hdr fp (.val v v.zero) z:=.inr ⟨v.zcells,Rep.zero Z w v .im none_,by rw [hzv]; rfl⟩
 have hck:=fun em=>checkKey_ok hE em 50 10000 hk hb2 (by decide) _ _ _ _ _ _ hi
 have hex:∀ r,(Instr.lookup e (a.eval m) (a.eval i) ok).run E.P w=.ok r w→(execOp a.eval o).run E.P w=.ok (.value r) w:=by
  intro r hr
  unfold execOp; rw [ho]
  simp only [Sem.run_bind,hr,Result.andThen_ok,Sem.run_pure]
 rcases hd with ⟨hx,hout⟩ | ⟨b,es,n,l,q,f,hx,hout,hheap,hq,hent⟩
 ·subst hx
  refine ⟨z,hzero,hex _ ?_⟩
  rw [hout,ei]
  have hf:(Instr.findKey kt (k.val ci) []).run E.P w=.ok none w:=by
   obtain ⟨r,g1,g2⟩:=findKey_ok hE (Rv:=fun (x:v.den) f c=>True) (vv:=v.val) hk hb2 (by decide) hi (xs:=[]) (es:=[]) (f:=none_) rfl
   rcases g2 with ⟨_,g2⟩ | ⟨i,x,e,h,_⟩
   ·rw [g1,g2]
   ·cases h
  simp only [Instr.lookup,Sem.run_bind,run_underlying hun,Result.andThen_ok,Sem.run_pure,hck,Array.toList_empty,List.isEmpty_nil,hf,hz]
  cases ok <;> simp [hz]
 ·subst hx
  obtain ⟨r,g1,g2⟩:=findKey_ok hE hk hb2 (by decide) hi hent
  have hg:=Go.MapKept.run_getObj_map (P:=E.P) hheap
  rcases g2 with ⟨g2,rfl⟩ | ⟨i0,x,e0,g2,rfl,g3,g4,g5,_⟩
  ·refine ⟨z,by simp only [Option.bind_some,g2]; exact hzero,hex _ ?_⟩
   rw [hout,ei]
   simp only [Instr.lookup,Sem.run_bind,run_underlying hun,Result.andThen_ok,hg,Sem.run_pure,hck,g1,hz]
   cases ok <;> simp [g2,hz]
  ·obtain ⟨ck,cv,f',q1,q2,q3,q4,q5⟩:=(entries_get hent).2 i0 x e0 g3 g4
   refine ⟨e0.val,by simp only [Option.bind_some,g2]; exact .inr ⟨cv,q4.share hq,by rw [q2]; rfl⟩,hex _ ?_⟩
   rw [hout,ei]
   simp only [Instr.lookup,Sem.run_bind,run_underlying hun,Result.andThen_ok,hg,Sem.run_pure,hck,g1]
   cases ok <;> simp [g2]
theorem lookup_ok (hE:TTok E) (H:HR Z w sl hdr fp) {e:TypeId} {m i:Operand} {ok:Bool} {u:MV} {k v:Ty} {xs:Option (List (k.den × v.den))} {y:k.den} (ho:o.op=.lookup e m i ok) (hm:RelV Z w sl hdr fp u (a.eval m)) (hi:RelV Z w sl hdr fp (.val k y) (a.eval i)) (hu:mapC sl u=some ⟨k,v,xs⟩) (hb:mapB E e k v=true) :
 ∃ val:Value,RelV Z w sl hdr fp (.val v ((xs.bind fun l=>mget k l y).getD v.zero)) val∧(execOp a.eval o).run E.P w=.ok (.value (if ok then .tuple #[val,.bool (xs.bind fun l=>mget k l y).isSome] else val)) w:=by
 rcases hm with rfl | ⟨cm,hm,em⟩
 ·cases hu
 refine lookup_core hE ho hi hb ?_
 rcases map_rep H hu hm with ⟨hx,hout⟩ | ⟨b,es,n,l,q,f,hx,hout,h⟩
 ·exact .inl ⟨hx,em.trans hout⟩
 ·exact .inr ⟨b,es,n,l,q,f,hx,em.trans hout,h⟩
end
section
variable {E:Env} {o:Oper} {a:Act} {w:World} {Z:Bs} {sl:Nat→Option Slot} {hdr:Nat→Value} {fp:Nat→Bs} {mv:MV} {ρ:Operand→MV}
theorem makeMap_ok (hE:TTok E) {e:TypeId} {k v:Ty} {nb:Nat} {h:OH} {us:Ups} (H:HR Z w sl hdr fp) (ho:o.op=.makeMap e none) (ht:E.tt e=some (.mp k v,nb))
 (hh:newSlot sl h ⟨.mp k v,.ow h.m,some []⟩ [] .root (fun m u=>some (m,u))=some (mv,us)):OpOK E o a w Z sl hdr fp mv (us.look sl):=by
 obtain ⟨n,S,hS,rfl,rfl,_⟩:=new_ok (R:=Unit) hh
 rw [look_cons,look_nil]
 have hrun:(execOp a.eval o).run E.P w=.ok (.value (.map (some w.heap.size))) (w.alloc (.map #[] 0)):=by
  unfold execOp; rw [ho]
  have hmk:(Instr.makeMap e none).run E.P w=.ok (.map (some w.heap.size)) (w.alloc (.map #[] 0)):=rfl
  simp only [Option.map_none,Sem.run_bind,hmk,Result.andThen_ok,Sem.run_pure]
 obtain ⟨H1,T1⟩:=step_alloc H n (.map #[] 0)
 have hnew:(w.alloc (.map #[] 0)).heap[w.heap.size]?=some (.map #[] 0):=by
  show (w.heap.push _)[w.heap.size]?=_; simp
 obtain ⟨fp2,_,_,H2,T2⟩:=step_set H1 hS ⟨.mp k v,.ow h.m,(some []:Option (List (k.den × v.den)))⟩ (.map (some w.heap.size)) (fun b=>b=w.heap.size)
  (.inr ⟨w.heap.size,#[],0,[],rfl,rfl,rfl,hnew,none_,fun _ h=>h.elim,rfl⟩) (.inr ⟨k,v,rfl⟩) (fun b hb=>⟨n,.inr ⟨rfl,hb⟩,.inl rfl⟩) 0
 refine .val hrun H2 (T1.comp T2) ?_
 have:=relV_root (Z:=Z) (w:=w.alloc (.map #[] 0)) (sl:=put sl n ⟨S.hv+1,0,some ⟨.mp k v,.ow h.m,(some []:Option (List (k.den × v.den)))⟩⟩) (hdr:=fun r=>if r=n then Value.map (some w.heap.size) else hdr r) (fp:=fp2) (n:=n) (S:=S) (c:=⟨.mp k v,.ow h.m,(some []:Option (List (k.den × v.den)))⟩) (by simp [Value.oneCell']) (by simp [put])
 simpa using this
theorem sameBits_key (hE:TTok E):∀ (n:Nat) {e:TypeId} {t:Ty} {nb:Nat} (d:Nat),E.tt e=some (t,nb)→keyT E n e=true→t.size≤100000000→n≤d→∀ (Z:Bs) (w:World) (m:Mk) (x:t.den) (f:Bs) (c:List Value),Rep Z w t m x f c→Instr.sameBits d (t.val c) (t.val c)=true∧(∀ v∈c,∀ d,Instr.sameBits d v v=true)
 | 0,_,_,_,_,_,h,_,_=>by cases h
 | n+1,e,t,nb,0,_,_,_,h=>absurd h (Nat.not_succ_le_zero _)
 | n+1,e,t,nb,d+1,ht,hk,hs,hd=>by
  have hdesc:=(hE _ _ _ ht).desc
  intro Z w m x f c r
  unfold keyT at hk
  rw [ht] at hk
  have leaf:∀ v:Value,(∃ k x,v=.int k x∨(∃ b,v=.bool b)∨∃ s,v=.string s)→∀ d,Instr.sameBits d v v=true:=by
   intro v hv d
   obtain ⟨k,x,rfl | ⟨b,rfl⟩ | ⟨s,rfl⟩⟩:=hv
   ·cases d <;> simp [Instr.sameBits]
   ·cases d <;> simp [Instr.sameBits]
   ·cases d <;> simp only [Instr.sameBits,beq_toListBytes,BEq.rfl]
  have single:∀ v:Value,c=[v]→t.agg=false→(∃ k x,v=.int k x∨(∃ b,v=.bool b)∨∃ s,v=.string s)→Instr.sameBits (d+1) (t.val c) (t.val c)=true∧(∀ v∈c,∀ d,Instr.sameBits d v v=true):=by
   intro v hc ha hv
   subst hc
   simp only [Ty.val,ha,cond_false,List.headD_cons]
   exact ⟨leaf v hv _,fun u hu=>by obtain rfl:=List.mem_singleton.1 hu; exact leaf _ hv⟩
  cases t with
  | bool=>exact single _ r rfl ⟨.i64,0,.inr (.inl ⟨x,rfl⟩)⟩
  | int k=>exact single _ r rfl ⟨k,x,.inl rfl⟩
  | str=>exact single _ r rfl ⟨.i64,0,.inr (.inr ⟨x,rfl⟩)⟩
  | arr l t =>
   obtain ⟨el,n2,hu,hel⟩:=hdesc
   simp only [hu] at hk
   obtain ⟨hl,i⟩:=r
   have all:∀ (xs:List t.den) (f:Bs) (c:List Value),xs.length≤l→Inline (fun x f c=>Rep Z w t m x f c) xs f c→∀ v∈c,∀ d,Instr.sameBits d v v=true:=by
    intro xs
    induction xs with
    | nil=>intro f c _ i v hv; rw [show c=[] from i] at hv; cases hv
    | cons x xs ihx =>
     rintro f c hlx ⟨ca,cb,f1,f2,rfl,ra,rb,_⟩ v hv
     rcases List.mem_append.1 hv with hv | hv
     ·have hsz:t.size≤100000000:=by
       have:1*t.size≤l*t.size:=Nat.mul_le_mul_right _ (by simp at hlx; omega)
       have h2:l*t.size≤100000000:=hs
       omega
      exact (sameBits_key hE n n hel hk hsz (Nat.le_refl _) _ _ _ _ _ _ ra).2 v hv
     ·exact ihx f2 cb (by simp at hlx; omega) rb v hv
   have hall:=all x f c (by omega) i
   refine ⟨?_,hall⟩
   simp only [Ty.val,Ty.agg,cond_true,Instr.sameBits,BEq.rfl,Bool.true_and]
   rw [List.all_eq_true]
   intro p hp
   have:p.1=p.2∧p.1∈c:=by
    have:∀ (c:List Value),p∈c.zip c→p.1=p.2∧p.1∈c:=by
     intro c
     induction c with
     | nil=>intro h; cases h
     | cons v c ih =>
      intro h
      simp only [List.zip_cons_cons,List.mem_cons] at h
      rcases h with rfl | h
      ·exact ⟨rfl,by simp⟩
      ·obtain ⟨h1,h2⟩:=ih h; exact ⟨h1,by simp [h2]⟩
    exact this c hp
   rw [← this.1]
   exact hall _ this.2 d
  | _=>cases hk
theorem mapUpdate_ok (hE:TTok E) (H:HR Z w sl hdr fp) {e:TypeId} {m i x:Operand} {s hv cv:Nat} {k v:Ty} {q:Mk} {l:List (k.den × v.den)} {y:k.den} {z:v.den} {u:MV} {us:Ups} (ho:o.op=.mapUpdate e m i x) (hm:RelV Z w sl hdr fp (.root s hv) (a.eval m)) (hi:RelV Z w sl hdr fp (.val k y) (a.eval i)) (hx:RelV Z w sl hdr fp u (a.eval x))
 (hs:lookH sl s hv=some (cv,⟨.mp k v,.ow q,(some l:Option (List (k.den × v.den)))⟩)) (hb:mapB E e k v=true) (hq:v.shared q=true) (htk:takeX sl v .im u=some (z,us)) (hus:us.any (fun u=>Nat.beq u.1 s)=false) (hsz:k.size≤100000000) :
 OpOK E o a w Z sl hdr fp .dead (Ups.look ((s,⟨hv,cv+1,some ⟨.mp k v,.ow q,(some (mput k l y z):Option (List (k.den × v.den)))⟩⟩) :: us) sl):=by
 simp only [mapB,Bool.and_eq_true] at hb
 obtain ⟨hb1,hb2⟩:=hb
 obtain ⟨nb,hT⟩:=tyB_ok hE hb1
 obtain ⟨kt,vt,n1,n2,hun,hk,hv'⟩:=hT.desc
 rw [hun] at hb2
 simp only at hb2
 rcases hm with hm | ⟨cm,hm,em⟩
 ·cases hm
 rcases hi with hi | ⟨ci,hi,ei⟩
 ·cases hi
 have ei:a.eval i=k.val ci:=ei
 rcases hx with rfl | ⟨cx,hx,ex⟩
 ·exact (takeX_dead htk).elim
 obtain ⟨Z1,fp1,F,K⟩:=takeX_sound htk H hx
 have hxv:a.eval x=v.val cx:=by
  rw [ex]
  have:u.out cx=(MV.val v z).out cx:=by
   rcases takeX_cases htk with (h1 | h1) | ⟨a0,b0,rfl,y0,hc,h1,rfl⟩
   ·obtain ⟨g1,g2⟩:=take_agg_ h1; rw [out_val g1 g2]; rfl
   ·rw [← (unMV_okC hx).2]; obtain ⟨g1,g2⟩:=take_agg_ h1; rw [out_val g1 g2]; rfl
   ·obtain ⟨g1,g2⟩:=take_agg_ h1; rw [out_val (t:=.ex .tree a0 b0) (g1.trans (un_cells (b:=b0) hc).2.2) g2]; rfl
  rw [this]; rfl
 have e2:=lookH_some hs
 have e3:us.look sl s=some ⟨hv,cv,some ⟨.mp k v,.ow q,(some l:Option (List (k.den × v.den)))⟩⟩:=(look_other hus).trans e2
 have hrep:=K.hr.rep s _ _ _ e3
 obtain ⟨hl1,S,h1,_,h3⟩:=hm
 rw [e2] at h1; obtain rfl:=Option.some.inj h1
 obtain rfl:=h3 rfl _ rfl
 have hm:a.eval m=hdr s:=em
 rcases hrep with ⟨h0,_⟩ | ⟨b,es,n,l',h0,h4,hfb,hheap,f,h5,h6⟩
 ·cases h0
 obtain rfl:=Option.some.inj h0
 have hhd:hdr s=.map (some b):=by simpa using h4
 have hZ1:∀ b,Z b→Z1 b:=fun b hb=>(K.tr.z b hb).1
 have hi1:=Rep.more hZ1 hi
 obtain ⟨r,g1,g2⟩:=findKey_ok hE hk hb2 (by decide) hi1 h6
 have hg:=Go.MapKept.run_getObj_map (P:=E.P) hheap
 have hck:=checkKey_ok hE false 50 10000 hk hb2 (by decide) _ _ _ _ _ _ hi
 have hne:∀ o,(∀ r',r'≠b→(w.heap.setIfInBounds b o)[r']?=w.heap[r']?)∧(w.heap.setIfInBounds b o)[b]?=some o:=fun o=>⟨(Go.MapKept.heap_set hheap).2,(Go.MapKept.heap_set hheap).1⟩
 have hkq:Rep Z1 w v q z none_ cx:=(K.rep.share (shared_im _)).unshare hq
 have fin:∀ (es':Array MapEntry) (n':Nat),Entries (fun x c=>Rep Z1 w k .im x none_ c) (fun x f c=>Rep Z1 w v q x f c) k.val v.val (mput k l y z) es'.toList f →
  (Instr.mapUpdate e (a.eval m) (a.eval i) (a.eval x)).run E.P w=.ok () { w with heap:=w.heap.setIfInBounds b (.map es' n') }→OpOK E o a w Z sl hdr fp .dead (Ups.look ((s,⟨hv,cv+1,some ⟨.mp k v,.ow q,(some (mput k l y z):Option (List (k.den × v.den)))⟩⟩) :: us) sl):=by
  intro es' n' hent hrun
  have hZk:∀ b',Z1 b'→Z1 b'∧({ w with heap:=w.heap.setIfInBounds b (.map es' n') }:World).heap[b']?=w.heap[b']?:=fun b' hb'=>⟨hb',(hne _).1 b' (fun e=>K.hr.dz _ _ hfb (e ▸ hb'))⟩
  have hent':Entries (fun x c=>Rep Z1 { w with heap:=w.heap.setIfInBounds b (.map es' n') } k .im x none_ c) (fun x f c=>Rep Z1 { w with heap:=w.heap.setIfInBounds b (.map es' n') } v q x f c) k.val v.val (mput k l y z) es'.toList f :=
   Entries.keep (fun x c h=>Rep.keep hZk (fun b hb=>hb.elim) h) (fun x f' c hf h=>Rep.keep hZk (fun b' hb'=>(hne _).1 b' (h5 b' (hf b' hb')).2) h) hent
  obtain ⟨fp',_,_,H',T'⟩:=step_write K.hr e3 (w':={ w with heap:=w.heap.setIfInBounds b (.map es' n') }) hfb (hne _).1 (by simp) rfl rfl rfl hv (cv+1) ⟨.mp k v,.ow q,(some (mput k l y z):Option (List (k.den × v.den)))⟩ (hdr s) (fp1 s)
   (.inr ⟨b,es',n',mput k l y z,rfl,by rw [hhd],hfb,(hne _).2,f,h5,hent'⟩) (.inr ⟨k,v,rfl⟩) (fun k hk=>.inl hk) (.inr ⟨rfl,Nat.lt_succ_self _,rfl⟩)
  rw [look_cons]
  refine .skip ?_ H' (K.tr.comp T')
  unfold execOp; rw [ho]
  simp only [Sem.run_bind,hrun,Result.andThen_ok,Sem.run_pure]
 rcases g2 with ⟨g2,rfl⟩ | ⟨i0,x0,e0,g2,rfl,g3,g4,g5,g6⟩
 ·refine fin (es.push { key:=k.val ci,val:=v.val cx,born:=n }) (n+1) ?_ ?_
  ·rw [mput_none g2,Array.toList_push]
   exact entries_push (Rk:=fun x c=>Rep Z1 w k .im x none_ c) (Rv:=fun x f c=>Rep Z1 w v q x f c) (kv:=k.val) (vv:=v.val) rfl rfl hi1 hkq h6
  ·rw [hm,hhd,ei,hxv]
   simp only [Instr.mapUpdate,Sem.run_bind,run_underlying hun,Result.andThen_ok,hg,hck,g1,Go.MapKept.run_setObj_map _ hheap]
 ·have hin:i0<es.size:=by
   have:=(List.getElem?_eq_some_iff.1 g4).1
   simpa using this
  obtain ⟨ck,cv0,f',q1,q2,q3,q4,q5⟩:=(entries_get h6).2 i0 x0 e0 g3 g4
  obtain ⟨hyx,hcc⟩:=eqV_eq hE hk hb2 hi1 q3 g5
  have hsame:Instr.sameBits 10000 (((es[i0]?).map (·.key)).getD (k.val ci)) (k.val ci)=true:=by
   have:es[i0]?=some e0:=by rw [← Array.getElem?_toList]; exact g4
   rw [this]
   simp only [Option.map_some,Option.getD_some]
   rw [q1,← hcc]
   exact (sameBits_key hE 50 10000 hk hb2 hsz (by decide) _ _ _ _ _ _ hi).1
  refine fin (es.modify i0 fun e=>{ e with key:=k.val ci,val:=v.val cx }) n ?_ ?_
  ·rw [g6 z]
   have:(es.modify i0 fun e=>{ e with key:=k.val ci,val:=v.val cx }).toList=es.toList.set i0 { e0 with key:=k.val ci,val:=v.val cx }:=by
    apply List.ext_getElem?
    intro j
    rw [Array.getElem?_toList,Array.getElem?_modify,List.getElem?_set]
    by_cases hj:i0=j
    ·subst hj
     rw [if_pos rfl,if_pos rfl,if_pos (by simpa using hin),← Array.getElem?_toList,g4]; rfl
    ·rw [if_neg hj,if_neg hj,Array.getElem?_toList]
   rw [this]
   exact entries_set (Rk:=fun x c=>Rep Z1 w k .im x none_ c) (Rv:=fun x f c=>Rep Z1 w v q x f c) (kv:=k.val) (vv:=v.val) rfl rfl hi1 hkq i0 h6
  ·rw [hm,hhd,ei,hxv]
   have hst:∀ old,Instr.sameBits 10000 old (k.val ci)=true→(Instr.keyThatStays old (k.val ci)).run E.P w=.ok (k.val ci) w:=fun old h=>by simp [Instr.keyThatStays,h]
   simp only [Instr.mapUpdate,Sem.run_bind,run_underlying hun,Result.andThen_ok,hg,hck,g1,Nat.zero_add,hst _ hsame,Go.MapKept.run_setObj_map _ hheap]
end
section
variable {E:Env} {o:Oper} {a:Act} {w:World} {Z:Bs} {sl:Nat→Option Slot} {hdr:Nat→Value} {fp:Nat→Bs} {mv:MV} {ρ:Operand→MV}
theorem TM.inlineL {Z:Bs} {w:World} {t:Ty}:∀ {l:List (Nat × t.den)} {cps:List (Nat × List Value)} {F:Bs} {xs:List t.den} {css:List (List Value)},TM Z w t .im l cps F→InlineL (fun x f c=>Rep Z w t .im x f c) xs none_ css→(∀ p∈l,p.1<xs.length)→InlineL (fun x f c=>Rep Z w t .im x f c) (setMany xs l) none_ (setMany css cps)
 | [],cps,F,xs,css,h,hi,_=>by rw [show cps=[] from h]; exact hi
 | (i,x) :: l,cps,F,xs,css,⟨c,cps',F1,F2,e,h1,h2,_⟩,hi,hb=>by
  rw [e]
  have h0:=hb (i,x) (by simp)
  have hs:=hi.set (i:=i) (x:=x) (c:=c) h0 (h1.share (shared_im _)) (fun _ h=>h.elim)
  exact TM.inlineL (l:=l) (cps:=cps') (xs:=xs.set i x) (css:=css.set i c) h2 (InlineL.mono0 (by rintro k (hk | hk) <;> exact hk) hs) (fun p hp=>by rw [List.length_set]; exact hb p (by simp [hp]))
theorem build_arr_ok (hE:TTok E) {e:TypeId} {n:Nat} {t:Ty} {nb:Nat} {parts:Array (Nat × Operand)} {l:List (Nat × t.den)} {us:Ups} (H:HR Z w sl hdr fp) (ho:o.op=.build e parts) (ht:E.tt e=some (.arr n t,nb))
 (hρ:∀ x,RelV Z w sl hdr fp (ρ x) (a.eval x)) (htk:takeMany t .im sl (parts.toList.map fun p=>(p.1,ρ p.2))=some (l,us)) (hb:∀ p∈l,p.1<n):OpOK E o a w Z sl hdr fp (.val (.arr n t) (setMany (List.replicate n t.zero) l)) (us.look sl):=by
 have hT:=hE _ _ _ ht
 obtain ⟨el,nl,hu,hel⟩:=hT.desc
 have hTe:=hE _ _ _ hel
 obtain ⟨i,z,i1,i2,i3,i4,i5⟩:=hT.info
 obtain ⟨ie,ze,j1,j2,j3,j4,j5⟩:=hTe.info
 obtain ⟨Z1,fp1,F,cps,T1,hTM,hand,hnm,hnm2,hcs⟩:=takeMany_sound (parts.toList.map fun p=>(p.1,ρ p.2)) (parts.toList.map fun p=>(p.1,a.eval p.2)) htk H (by simp) (fun k p v hp hv=>by
  rw [List.getElem?_map] at hp hv
  cases hk:parts.toList[k]? with
  | none=>rw [hk] at hp; cases hp
  | some q =>
   rw [hk] at hp hv
   simp only [Option.map_some,Option.some.injEq] at hp hv
   subst hp; subst hv
   exact hρ _)
 have hi:=TM.inlineL hTM (InlineL.replicate (R:=fun x f c=>Rep Z1 w t .im x f c) (fun f=>Rep.zero Z1 w t .im f) n none_) (fun p hp=>by rw [List.length_replicate]; exact hb p hp)
 have hz:z.cells=(List.replicate n t.zcells).flatten.toArray:=Array.toList_inj.1 (by rw [i5]; rfl)
 have hfill:Instr.fill (fun i=>some (i*ie.size,ie.size)) z.cells (parts.map fun p=>(p.1,a.eval p.2)).toList=some (setMany (List.replicate n t.zcells) cps).flatten.toArray:=by
  rw [hz,j2,Array.toList_map]
  refine fill_all _ cps _ (fun i c hc => ?_) hnm (fun k p q hp hq => ?_)
  ·have hi:i<n:=by
    rcases Nat.lt_or_ge i n with h | h
    ·exact h
    ·rw [List.getElem?_eq_none (by simpa using h)] at hc; cases hc
   rw [List.getElem?_replicate,if_pos hi] at hc
   obtain rfl:=Option.some.inj hc
   simp [startOf,List.take_replicate,Nat.min_eq_left (Nat.le_of_lt hi),t.zcells_len]
  ·obtain ⟨q1,q2⟩:=hcs k p q hp hq
   refine ⟨q1,t.zcells,?_,by rw [q2,t.zcells_len]⟩
   rw [List.getElem?_replicate,if_pos]
   have hm1:(parts.toList.map fun p=>(p.1,a.eval p.2)).map (·.1)=(parts.toList.map fun p=>(p.1,ρ p.2)).map (·.1):=by simp
   have:p.1∈l.map (·.1):=by
    rw [hnm2,← hm1]
    exact List.mem_map.2 ⟨p,List.mem_of_getElem? hp,rfl⟩
   obtain ⟨p',hp',e'⟩:=List.mem_map.1 this
   rw [← e']; exact hb p' hp'
 have hbuilt:E.P.built e (parts.map fun p=>(p.1,a.eval p.2)).toList=some (setMany (List.replicate n t.zcells) cps).flatten.toArray:=by
  unfold Program.built
  simp only [i1,hu,i4,j1]
  exact hfill
 have hrun:(execOp a.eval o).run E.P w=.ok (.value (.agg (setMany (List.replicate n t.zcells) cps).flatten.toArray)) w:=by
  have:=run_build w e (parts.map fun p=>(p.1,a.eval p.2)) _ hbuilt
  unfold execOp; rw [ho]
  simp only [Sem.run_bind,this,Result.andThen_ok,Sem.run_pure]
 refine .val hrun T1.hr T1.tr (.inr ⟨_,⟨by rw [setMany_len,List.length_replicate],hi.inline⟩,rfl⟩)
theorem arr_el {n:Nat} {t:Ty} {m:Mk} {xs:List t.den} {f:Bs} {cs:List Value} {i:Int} {v:t.den} (hr:Rep Z w (.arr n t) m xs f cs) (hi:idx xs i=some v) :
 0≤i∧i<n∧∃ fi ci pre post,cs=pre++(ci++post)∧pre.length=i.toNat*t.size∧Rep Z w t m v fi ci∧(∀ k,fi k→f k):=by
 obtain ⟨h1,h2,h3⟩:=idx_some hi
 obtain ⟨hl,hin⟩:=hr
 obtain ⟨fi,ci,pre,post,e,hpl,hri,hsi,_⟩:=Inline.at_ (fun x f c h=>Rep.len h) hin h3
 exact ⟨h1,by rw [← hl]; exact h2,fi,ci,pre,post,e,hpl,hri,hsi⟩
theorem index_ok (hE:TTok E) (H:HR Z w sl hdr fp) {e:TypeId} {x i:Operand} {n:Nat} {t:Ty} {xs:List t.den} {k:IntKind} {m:Int} {v:t.den} (ho:o.op=.index e x i) (hx:RelV Z w sl hdr fp (.val (.arr n t) xs) (a.eval x)) (hi:RelV Z w sl hdr fp (.val (.int k) m) (a.eval i))
 (ht:tyB E e (.arr n t)=true) (hv:idx xs m=some v):OpOK E o a w Z sl hdr fp (.val t v) (Ups.look [] sl):=by
 obtain ⟨nb,hT⟩:=tyB_ok hE ht
 obtain ⟨el,ne,hu,hel⟩:=hT.desc
 have hTe:=hE _ _ _ hel
 rcases hx with hx | ⟨cs,hr,he⟩
 ·cases hx
 obtain ⟨g0,g1,fi,ci,pre,post,rfl,hpl,hri,hsi⟩:=arr_el hr hv
 have he:a.eval x=.agg (pre++(ci++post)).toArray:=he
 have hp:=run_part_ (E:=E) (w:=w) hTe (cs:=pre++(ci++post)) (off:=m.toNat*t.size) (by simp [hpl,hri.len])
 rw [← hpl,List.drop_left,← hri.len,List.take_left,hpl] at hp
 have hrun:(execOp a.eval o).run E.P w=.ok (.value (t.val ci)) w:=by
  unfold execOp; rw [ho]
  simp only [Sem.run_bind,Instr.index,he,hi.int,asIntOf,Sem.run_pure,run_underlying hu,Result.andThen_ok,g0,g1,and_self,if_true,hTe.size w]
  rw [← hri.len] at hp
  simp only [hri.len] at hp
  simp [hp]
 exact .same H hrun (.inr ⟨ci,hri.none (fun k hk=>(hsi k hk).elim),rfl⟩)
theorem index_str_ok (hE:TTok E) (H:HR Z w sl hdr fp) {e:TypeId} {x i:Operand} {xs:ByteArray} {k:IntKind} {m:Int} {v:UInt8} (ho:o.op=.index e x i) (hx:RelV Z w sl hdr fp (.val .str xs) (a.eval x)) (hi:RelV Z w sl hdr fp (.val (.int k) m) (a.eval i))
 (ht:tyB E e .str=true) (hv:idx xs.data.toList m=some v):OpOK E o a w Z sl hdr fp (.val (.int .u8) ((v.toNat:Nat):Int)) (Ups.look [] sl):=by
 obtain ⟨nb,hT⟩:=tyB_ok hE ht
 have hu:E.P.underlying e=some .string:=hT.desc
 rcases hx with hx | ⟨cs,hr,he⟩
 ·cases hx
 obtain rfl:cs=[.string xs]:=hr
 have he:a.eval x=.string xs:=he
 obtain ⟨h1,h2,h3⟩:=idx_some hv
 have hg:xs[m.toNat]?=some v:=by
  rw [← h3,Array.getElem?_toList]
  simp only [getElem?_def]
  rfl
 have hrun:(execOp a.eval o).run E.P w=.ok (.value (.int .u8 ((v.toNat:Nat):Int))) w:=by
  unfold execOp; rw [ho]
  simp only [Sem.run_bind,Instr.index,he,hi.int,asIntOf,Sem.run_pure,run_underlying hu,Result.andThen_ok,h1,if_true,hg]
 exact .same H hrun (relV_int _ _)
theorem run_index_arr {e el:TypeId} {n nb:Nat} {t:Ty} (hu:E.P.underlying e=some (.array n el)) (hT:TyOK E el t nb) (b o:Nat) (k:IntKind) (i:Int) (h0:0≤i) (h1:i<n) :
 (Instr.indexAt e (.pointer (some ⟨b,o,none⟩)) (.int k i)).run E.P w=.ok (.pointer (some ⟨b,o+i.toNat*t.size,none⟩)) w:=by
 simp only [Instr.indexAt,asIntOf,pure_bind,Sem.run_bind,run_underlying hu,Result.andThen_ok,Instr.sureAddr,Sem.run_pure,h0,h1,and_self,if_true,hT.size w,add_none]
theorem indexAddr_arr_ok (hE:TTok E) (H:HR Z w sl hdr fp) {e:TypeId} {x i:Operand} {n:Nat} {t:Ty} {xs:List t.den} {k:IntKind} {m:Int} {v:t.den} {s hv cv:Nat} {po:Option Path} (ho:o.op=.indexAddr e x i) (hx:RelV Z w sl hdr fp (.adr s hv cv po (.arr n t) xs) (a.eval x)) (hi:RelV Z w sl hdr fp (.val (.int k) m) (a.eval i))
 (ht:tyB E e (.arr n t)=true) (hc:(lookC sl s hv cv).isSome=true) (hvv:idx xs m=some v):OpOK E o a w Z sl hdr fp (.adr s hv cv (po.map (·++[.el m.toNat])) t v) (Ups.look [] sl):=by
 obtain ⟨nb,hT⟩:=tyB_ok hE ht
 obtain ⟨el,ne,hu,hel⟩:=hT.desc
 have hTe:=hE _ _ _ hel
 rcases hx with hx | ⟨cs,hr,he⟩
 ·cases hx
 obtain ⟨hcl,S,h1,h2,h3⟩:=hr
 cases hcl2:lookC sl s hv cv with
 | none=>rw [hcl2] at hc; cases hc
 | some c =>
  have e2:=lookC_some hcl2
  rw [e2] at h1; obtain rfl:=Option.some.inj h1
  obtain ⟨b,o',ks,hcs,hat,hbz,hz,⟨mm,f,hrep,hf,hfz⟩,hp⟩:=(h3 rfl).2 rfl c rfl
  have hev:a.eval x=.pointer (some ⟨b,o',none⟩):=by rw [he,hcs]; rfl
  obtain ⟨g0,g1,fi,ci,pre,post,rfl,hpl,hri,hsi⟩:=arr_el hrep hvv
  obtain ⟨a1,a2⟩:=At.app.1 hat
  obtain ⟨a3,a4⟩:=At.app.1 a2
  rw [hpl] at a3
  have hrun:(execOp a.eval o).run E.P w=.ok (.value (.pointer (some ⟨b,o'+m.toNat*t.size,none⟩))) w:=by
   unfold execOp; rw [ho]
   simp only [Sem.run_bind,hev,hi.int,run_index_arr (w:=w) hu hTe b o' k m g0 g1,Result.andThen_ok,Sem.run_pure]
  refine .same H hrun (.inr ⟨[.pointer (some ⟨b,o'+m.toNat*t.size,none⟩)],⟨⟨rfl,fun u hu=>by obtain rfl:=List.mem_singleton.1 hu; rfl⟩,_,e2,Nat.le_refl _,fun _=>⟨Nat.le_refl _,fun _ c' hc' => ?_⟩⟩,rfl⟩)
  obtain rfl:=Option.some.inj hc'
  refine ⟨b,_,ci,rfl,a3,hbz,hz,⟨mm,fi,hri,fun k hk=>hf k (hsi k hk),fun h k hk=>hfz h k (hsi k hk)⟩,fun p hp0 => ?_⟩
  cases po with
  | none=>cases hp0
  | some p0 =>
   simp only [Option.map_some,Option.some.injEq] at hp0
   subst hp0
   obtain ⟨⟨g5,g6⟩,g7⟩:=hp p0 rfl
   have ht':tyP c.t p0=some (.arr n t):=getP_ty g5
   obtain ⟨_,_,h3'⟩:=idx_some hvv
   have hgel:getP (.arr n t) xs [.el m.toNat]=some ⟨t,v⟩:=by
    simp only [getP,h3']
   have hsub0:subc w (.arr n t) (pre++(ci++post)) [.el m.toNat]=some ci:=by
    simp only [subc]
    rw [← hpl,List.drop_left,← hri.len,List.take_left]
   have hadr0:∀ here:Option (Nat × Nat),addrOf w (.arr n t) (pre++(ci++post)) here [.el m.toNat]=here.map fun h=>(h.1,h.2+m.toNat*t.size):=by
    intro here
    simp only [addrOf]
   refine ⟨⟨by rw [getP_app p0 _ g5]; exact hgel,fun how => ?_⟩,fun how => ?_⟩
   ·obtain ⟨q1,m1,q2⟩:=g6 how
    have hsub:=subc_app (w:=w) p0 [.el m.toNat] q1 ht'
    refine ⟨by rw [hsub.1]; exact hsub0,m1,?_⟩
    rw [mkP_app p0 _ q2 ht']
    simp only [mkP]
   ·obtain ⟨q1,m1,q2⟩:=g6 how
    have hsub:=subc_app (w:=w) p0 [.el m.toNat] q1 ht'
    rw [hsub.2,hadr0,g7 how]; rfl
theorem indexAddr_arr_im_ok (hE:TTok E) (H:HR Z w sl hdr fp) {e:TypeId} {x i:Operand} {n:Nat} {t:Ty} {xs:List t.den} {k:IntKind} {m:Int} {v:t.den} (ho:o.op=.indexAddr e x i) (hx:RelV Z w sl hdr fp (.iadr (.arr n t) xs) (a.eval x)) (hi:RelV Z w sl hdr fp (.val (.int k) m) (a.eval i))
 (ht:tyB E e (.arr n t)=true) (hvv:idx xs m=some v):OpOK E o a w Z sl hdr fp (.iadr t v) (Ups.look [] sl):=by
 obtain ⟨nb,hT⟩:=tyB_ok hE ht
 obtain ⟨el,ne,hu,hel⟩:=hT.desc
 have hTe:=hE _ _ _ hel
 rcases hx with hx | ⟨cs,⟨b,o',ks,hcs,hat,hz,hrep⟩,he⟩
 ·cases hx
 have hev:a.eval x=.pointer (some ⟨b,o',none⟩):=by rw [he,hcs]; rfl
 obtain ⟨g0,g1,fi,ci,pre,post,rfl,hpl,hri,hsi⟩:=arr_el hrep hvv
 obtain ⟨a1,a2⟩:=At.app.1 hat
 obtain ⟨a3,a4⟩:=At.app.1 a2
 rw [hpl] at a3
 have hrun:(execOp a.eval o).run E.P w=.ok (.value (.pointer (some ⟨b,o'+m.toNat*t.size,none⟩))) w:=by
  unfold execOp; rw [ho]
  simp only [Sem.run_bind,hev,hi.int,run_index_arr (w:=w) hu hTe b o' k m g0 g1,Result.andThen_ok,Sem.run_pure]
 exact .same H hrun (.inr ⟨_,⟨b,_,ci,rfl,a3,hz,hri.none (fun k hk=>(hsi k hk).elim)⟩,rfl⟩)
theorem opM_ok (hT:TTok E) (H:HR Z w sl hdr fp) {h:OH} {us:Ups} (hρ:∀ x,RelV Z w sl hdr fp (ρ x) (a.eval x)) (hh:opM E ρ sl o h (fun m u=>some (m,u))=some (mv,us)):OpOK E o a w Z sl hdr fp mv (us.look sl):=by
 unfold opM at hh
 split at hh
 ·rename_i e ho
  split at hh
  ·rename_i k v nb ht
   exact makeMap_ok hT H ho ht hh
  ·cases hh
 ·rename_i e m i ok ho
  split at hh
  ·rename_i k v xs k' y hm hi
   obtain ⟨hb,hh⟩:=cond_some hh
   split at hh
   ·rename_i ek
    subst ek
    have gi:=hρ i
    rw [hi] at gi
    obtain ⟨val,h1,h2⟩:=lookup_ok hT H ho (hρ m) gi hm hb
    cases ok with
    | true =>
     simp only [cond_true,Option.some.injEq,Prod.mk.injEq] at hh
     obtain ⟨rfl,rfl⟩:=hh
     refine .same H h2 (.inr ⟨[val,.bool _],?_,rfl⟩)
     rcases h1 with h1 | ⟨c1,h1,h3⟩
     ·cases h1
     ·exact ⟨c1,val,_,rfl,.inr ⟨h1,h3⟩,[.bool _],.bool _,[],rfl,.inr ⟨rfl,rfl⟩,rfl⟩
    | false =>
     simp only [cond_false,Option.some.injEq,Prod.mk.injEq] at hh
     obtain ⟨rfl,rfl⟩:=hh
     exact .same H h2 h1
   ·cases hh
  ·cases hh
 ·rename_i e m i x ho
  split at hh
  ·rename_i s hv k' y hm hi
   split at hh
   ·rename_i cv k v q xs hl
    obtain ⟨hb,hh⟩:=cond_some hh
    simp only [Bool.and_eq_true] at hb
    split at hh
    ·rename_i ek
     subst ek
     split at hh
     ·rename_i z us1 htk
      cases hus:us1.any (fun u=>Nat.beq u.1 s) with
      | true=>rw [hus] at hh; cases hh
      | false =>
       rw [hus] at hh
       simp only [cond_false] at hh
       obtain ⟨l,rfl,hh⟩:=bind_some_ hh
       simp only [Option.bind_some,Option.some.injEq,Prod.mk.injEq] at hh
       obtain ⟨rfl,rfl⟩:=hh
       have gm:=hρ m
       rw [hm] at gm
       have gi:=hρ i
       rw [hi] at gi
       exact mapUpdate_ok hT H ho gm gi (hρ x) hl hb.1.1 hb.1.2 htk hus (Nat.le_trans (Nat.le_of_ble_eq_true hb.2) (by decide))
     ·cases hh
    ·cases hh
   ·cases hh
  ·cases hh
 ·rename_i e parts ho
  split at hh
  ·rename_i n t nb ht
   split at hh
   ·rename_i l us1 htk
    obtain ⟨hb,hh⟩:=chk_some hh
    simp only [Option.some.injEq,Prod.mk.injEq] at hh
    obtain ⟨rfl,rfl⟩:=hh
    exact build_arr_ok hT H ho ht hρ htk (fun p hp=>Nat.lt_of_succ_le (Nat.le_of_ble_eq_true (List.all_eq_true.1 hb p hp)))
   ·cases hh
  ·cases hh
 ·rename_i e x i ho
  split at hh
  ·rename_i n t xs k m hx hi
   obtain ⟨hb,hh⟩:=cond_some hh
   obtain ⟨v,hv,hh⟩:=bind_some_ hh
   simp only [Option.some.injEq,Prod.mk.injEq] at hh
   obtain ⟨rfl,rfl⟩:=hh
   have gx:=unMV_ok (hρ x)
   rw [hx] at gx
   have gi:=hρ i
   rw [hi] at gi
   exact index_ok hT H ho gx gi hb hv
  ·rename_i xs k m hx hi
   obtain ⟨hb,hh⟩:=cond_some hh
   obtain ⟨v,hv,hh⟩:=bind_some_ hh
   simp only [Option.some.injEq,Prod.mk.injEq] at hh
   obtain ⟨rfl,rfl⟩:=hh
   have gx:=unMV_ok (hρ x)
   rw [hx] at gx
   have gi:=hρ i
   rw [hi] at gi
   exact index_str_ok hT H ho gx gi hb hv
  ·cases hh
 ·rename_i e x i ho
  split at hh
  ·rename_i k m hi
   have gi:=hρ i
   rw [hi] at gi
   have gx:=deref_okV H (hρ x)
   split at hh
   ·rename_i n t xs hx
    obtain ⟨hb,hh⟩:=cond_some hh
    obtain ⟨v,hv,hh⟩:=bind_some_ hh
    simp only [Option.some.injEq,Prod.mk.injEq] at hh
    obtain ⟨rfl,rfl⟩:=hh
    rw [hx] at gx
    exact indexAddr_arr_im_ok hT H ho gx gi hb hv
   ·rename_i s hv cv p n t xs hx
    obtain ⟨hb,hh⟩:=cond_some hh
    simp only [Bool.and_eq_true] at hb
    obtain ⟨v,hv,hh⟩:=bind_some_ hh
    simp only [Option.some.injEq,Prod.mk.injEq] at hh
    obtain ⟨rfl,rfl⟩:=hh
    rw [hx] at gx
    exact indexAddr_arr_ok hT H ho gx gi hb.1 hb.2 hv
   ·cases hh
  ·cases hh
 ·rename_i c ho
  split at hh
  ·rename_i hc
   split at hh
   ·rename_i x ty _ hargs hty
    have harr:c.args = #[x]:=Array.toList_inj.1 (by simpa using hargs)
    have ht0:c.argTypes[0]?=some ty:=by rw [← Array.getElem?_toList,hty]; rfl
    split at hh
    ·rename_i k v xs hm
     obtain ⟨hb,hh⟩:=cond_some hh
     simp only [Option.some.injEq,Prod.mk.injEq] at hh
     obtain ⟨rfl,rfl⟩:=hh
     obtain ⟨nb,hTy⟩:=tyB_ok hT hb
     obtain ⟨kt,vt,n1,n2,hun,_,_⟩:=hTy.desc
     rcases hρ x with hx | ⟨cx,hx,ex⟩
     ·rw [hx] at hm; cases hm
     rcases map_rep H hm hx with ⟨rfl,hout⟩ | ⟨b,es,n,l,q,f,rfl,hout,hheap,hq,hent⟩
     ·refine .same H (v:=.int .i64 0) ?_ (relV_int _ _)
      unfold execOp; rw [ho]
      simp only [resolve,hc,harr,pure_bind,invoke,builtin]
      simp [Builtin.len_,ht0,ex,hout,run_underlying hun,goInt]
     ·have hlen:=(entries_get hent).1
      refine .same H (v:=.int .i64 (l.length:Nat)) ?_ (relV_int _ _)
      unfold execOp; rw [ho]
      simp only [resolve,hc,harr,pure_bind,invoke,builtin]
      have hlen':es.size=l.length:=by rw [← hlen]; simp
      simp [Builtin.len_,ht0,ex,hout,run_underlying hun,goInt,Go.MapKept.run_getObj_map (P:=E.P) hheap,hlen']
    ·split at hh
     ·rename_i n t xs hx
      obtain ⟨hb,hh⟩:=cond_some hh
      simp only [Option.some.injEq,Prod.mk.injEq] at hh
      obtain ⟨rfl,rfl⟩:=hh
      obtain ⟨nb,hTy⟩:=tyB_ok hT hb
      obtain ⟨el,ne,hu,_⟩:=hTy.desc
      refine .same H (v:=.int .i64 (n:Nat)) ?_ (relV_int _ _)
      unfold execOp; rw [ho]
      simp only [resolve,hc,harr,pure_bind,invoke,builtin]
      simp [Builtin.len_,ht0,run_underlying hu,goInt]
     ·cases hh
   ·cases hh
  ·cases hh
 ·cases hh
variable {R:Type} {look:Nat→Option Slot} {h:OH}
theorem opM_bind (ρ:Operand→MV) (o:Oper) {K:MV→Ups→Option R}:opM E ρ look o h K=B2 (opM E ρ look o h S2) K:=by
 unfold opM
 split
 ·split
  ·exact newSlot_bind K _ _ _
  ·rfl
 ·split
  ·simp only [B2,cond_bind,Option.bind_none]
   congr 1
   split
   ·simp only [S2,cond_bind,Option.bind_some]
   ·rfl
  ·rfl
 ·split
  ·split
   ·simp only [B2,cond_bind,Option.bind_none]
    congr 1
    split
    ·split
     ·simp only [S2,cond_bind,Option.bind_none,bind_bind,Option.bind_some]
     ·rfl
    ·rfl
   ·rfl
  ·rfl
 ·split
  ·split
   ·simp only [B2,S2,chk_bind,Option.bind_some]
   ·rfl
  ·rfl
 ·split
  ·simp only [B2,S2,cond_bind,Option.bind_none,bind_bind,Option.bind_some]
  ·simp only [B2,S2,cond_bind,Option.bind_none,bind_bind,Option.bind_some]
  ·rfl
 ·split
  ·split
   ·simp only [B2,S2,cond_bind,Option.bind_none,bind_bind,Option.bind_some]
   ·simp only [B2,S2,cond_bind,Option.bind_none,bind_bind,Option.bind_some]
   ·rfl
  ·rfl
 ·split
  ·split
   ·split
    ·simp only [B2,S2,cond_bind,Option.bind_none,Option.bind_some]
    ·split
     ·simp only [B2,S2,cond_bind,Option.bind_none,Option.bind_some]
     ·rfl
   ·rfl
  ·rfl
 ·rfl
end
def subs {α:Type} (xs:List α) (l h:Nat):List α:=(xs.drop l).take (h-l)
theorem subs_length {α:Type} {xs:List α} {l h:Nat} (h1:l≤h) (h2:h≤xs.length):(subs xs l h).length=h-l:=by
 unfold subs; rw [List.length_take,List.length_drop]; omega
theorem subs_get {α:Type} {xs:List α} {l h i:Nat} {x:α} (hx:(subs xs l h)[i]?=some x):i<h-l∧xs[l+i]?=some x:=by
 unfold subs at hx
 rw [List.getElem?_take] at hx
 split at hx
 ·rename_i h0
  rw [List.getElem?_drop] at hx
  exact ⟨h0,hx⟩
 ·cases hx
theorem Elems.subs {α:Type} {R:α→Bs→List Value→Prop} {sz:Nat} {w:World} {b o:Nat} {xs:List α} {fp:Bs} {l h:Nat} (he:Elems R sz w b o xs fp) (h2:h≤xs.length):Elems R sz w b (o+l*sz) (V.subs xs l h) fp:=by
 obtain ⟨fps,css,h3,h4⟩:=he
 refine ⟨fun i=>fps (l+i),fun i=>css (l+i),fun i x hx => ?_,fun i j k h5 h6 h7 h8 => ?_⟩
 ·obtain ⟨_,hx2⟩:=subs_get hx
  obtain ⟨a1,a2,a3,a4⟩:=h3 _ _ hx2
  refine ⟨a1,a2,fun j hj => ?_,a4⟩
  rw [← a3 j hj,Nat.add_mul]
  congr 2; omega
 ·have e7:i<h-l:=by
   have:=List.length_take_le (h-l) (xs.drop l)
   unfold V.subs at h7; omega
  have e8:j<h-l:=by
   have:=List.length_take_le (h-l) (xs.drop l)
   unfold V.subs at h8; omega
  have:=h4 (l+i) (l+j) k h5 h6 (by omega) (by omega)
  omega
section
variable {E:Env} {o:Oper} {a:Act} {w:World} {Z:Bs} {sl:Nat→Option Slot} {hdr:Nat→Value} {fp:Nat→Bs} {mv:MV} {ρ:Operand→MV}
def subH (t:Ty) (l h:Nat):Value→Value
 | .slice A len cap=>.slice (if cap=l then A else A.map (·.add (l*t.size))) (h-l) (cap-l)
 | v=>v
theorem Rep.subs {t:Ty} {m:Mk} {xs:List t.den} {f:Bs} {v:Value} {l h:Nat} (hr:Rep Z w (.sl t) m xs f [v]) (h1:l≤h) (h2:h≤xs.length):Rep Z w (.sl t) m (V.subs xs l h) f [subH t l h v]:=by
 have hl:=subs_length h1 h2
 cases m with
 | ow q =>
  obtain ⟨A,cap,hv,hd⟩:=hr
  obtain rfl:v=.slice A xs.length cap:=by simpa using hv
  refine ⟨_,_,by rw [hl]; rfl,?_⟩
  rcases hd with ⟨rfl,rfl⟩ | ⟨b,o,c,e,rfl,g1,g2,g3,g4,g5⟩
  ·exact .inl ⟨by simp [V.subs],by omega⟩
  ·by_cases c0:cap=l
   ·exact .inl ⟨by apply List.eq_nil_of_length_eq_zero; omega,by omega⟩
   ·refine .inr ⟨b,o+l*t.size,c,e,by rw [if_neg c0]; simp [add_none],g1,g2,?_,by rw [hl]; omega,g5.subs h2⟩
    have:l*t.size+(cap-l)*t.size=cap*t.size:=by rw [← Nat.add_mul]; congr 1; omega
    omega
 | im =>
  obtain ⟨A,cap,hv,hc,hd⟩:=hr
  obtain rfl:v=.slice A xs.length cap:=by simpa using hv
  refine ⟨_,_,by rw [hl]; rfl,by rw [hl]; omega,?_⟩
  rcases hd with rfl | ⟨b,o,rfl,g1,g2⟩
  ·exact .inl (by simp [V.subs])
  ·by_cases c0:cap=l
   ·exact .inl (by apply List.eq_nil_of_length_eq_zero; omega)
   ·exact .inr ⟨b,o+l*t.size,by rw [if_neg c0]; simp [add_none],g1,g2.subs h2⟩
 | pr p q =>
  obtain ⟨A,cap,hv,hc,hd⟩:=hr
  obtain rfl:v=.slice A xs.length cap:=by simpa using hv
  refine ⟨_,_,by rw [hl]; rfl,by rw [hl]; omega,?_⟩
  rcases hd with rfl | ⟨b,o,rfl,g1,g2⟩
  ·exact .inl (by simp [V.subs])
  ·by_cases c0:cap=l
   ·exact .inl (by apply List.eq_nil_of_length_eq_zero; omega)
   ·exact .inr ⟨b,o+l*t.size,by rw [if_neg c0]; simp [add_none],g1,g2.subs h2⟩
def bndK (ρ:Operand→MV) (x:Option Operand) (d:Int):Option Int :=
 match x with
 | none=>some d
 | some x=>match ρ x with
  | .val (.int _) i=>some i
  | _=>none
def partK {R:Type} (E:Env) (ρ:Operand→MV) (e:TypeId) (lo hi:Option Operand) (t:Ty) (xs:List t.den) (k:List t.den→Option R):Option R :=
 bif tyB E e (.sl t) then (match bndK ρ lo 0,bndK ρ hi (xs.length:Nat) with
  | some l,some g=>chk (decide (0≤l)) (chk (decide (l≤g)) (chk (decide (g≤(xs.length:Nat))) (k (V.subs xs l.toNat g.toNat))))
  | _,_=>none) else none
def sliceK {R:Type} (E:Env) (ρ:Operand→MV) (look:Nat→Option Slot) (h:OH) (e:TypeId) (x:Operand) (lo hi:Option Operand) (K:MV→Ups→Option R):Option R :=
 match unMV (ρ x) with
 | .val (.sl t) xs=>partK E ρ e lo hi t xs fun ys=>K (.val (.sl t) ys) []
 | .root s hv=>match lookH look s hv with
  | some (cv,⟨.sl t,m,xs⟩)=>partK E ρ e lo hi t xs fun ys=>bif Nat.beq h.fl 5 then K (.root s (hv+1)) [(s,⟨hv+1,0,some ⟨.sl t,m,ys⟩⟩)] else K (.view s hv cv none (.sl t) ys) []
  | _=>none
 | .view s hv cv _ (.sl t) xs=>bif (lookC look s hv cv).isSome then partK E ρ e lo hi t xs fun ys=>K (.view s hv cv none (.sl t) ys) [] else none
 | _=>none
theorem bnd_ok (hρ:∀ x,RelV Z w sl hdr fp (ρ x) (a.eval x)) {x:Option Operand} {d i:Int} (h:bndK ρ x d=some i):(x=none∧i=d)∨∃ y k,x=some y∧a.eval y=.int k i:=by
 cases x with
 | none=>simp only [bndK,Option.some.injEq] at h; exact .inl ⟨rfl,h.symm⟩
 | some y =>
  simp only [bndK] at h
  split at h
  ·rename_i k j hj
   obtain rfl:=Option.some.inj h
   have:=hρ y
   rw [hj] at this
   exact .inr ⟨y,k,rfl,this.int⟩
  ·cases h
theorem run_slice {e el:TypeId} {nb:Nat} {t:Ty} (hu:E.P.underlying e=some (.slice el)) (hT:TyOK E el t nb) (hρ:∀ x,RelV Z w sl hdr fp (ρ x) (a.eval x)) {x:Operand} {lo hi:Option Operand} {A:Option Addr} {len cap:Nat} {l g:Int} (ho:o.op=.slice e x lo hi none) (hx:a.eval x=.slice A len cap)
 (hl:bndK ρ lo 0=some l) (hg:bndK ρ hi (len:Nat)=some g) (h0:0≤l) (h1:l≤g) (h2:g≤(len:Nat)) (hc:len≤cap):(execOp a.eval o).run E.P w=.ok (.value (subH t l.toNat g.toNat (.slice A len cap))) w:=by
 have hb:(Instr.sliceBounds true len cap (lo.map a.eval) (hi.map a.eval) none).run E.P w=.ok (l.toNat,g.toNat,cap) w:=by
  have g1:g.toNat≤cap:=by omega
  rcases bnd_ok hρ hl with ⟨rfl,rfl⟩ | ⟨y,k,rfl,ey⟩ <;> rcases bnd_ok hρ hg with ⟨rfl,rfl⟩ | ⟨y',k',rfl,ey'⟩
  ·simp [Instr.sliceBounds]
  ·have e1:(0:Int)≤g∧g≤(cap:Int):=by omega
   simp [Instr.sliceBounds,Instr.sliceBound,ey',asIntOf,e1]
  ·have e1:(0:Int)≤l∧l≤(len:Int):=by omega
   simp [Instr.sliceBounds,Instr.sliceBound,ey,asIntOf,e1]
  ·have e1:(0:Int)≤g∧g≤(cap:Int):=by omega
   have e2:(0:Int)≤l∧l≤(g.toNat:Int):=by omega
   have e3:¬ max g 0<l:=by omega
   simp [Instr.sliceBounds,Instr.sliceBound,ey,ey',asIntOf,e1,e2,e3]
 unfold execOp; rw [ho]
 simp only [Instr.sliceAt,Instr.slice,Sem.run_bind,run_underlying hu,Result.andThen_ok,hx,Option.map_none,hb,hT.size w,Sem.run_pure,subH]
theorem head_up (H:HR Z w sl hdr fp) {s hv cv:Nat} {c:SlotC} {t:Ty} {ys:List t.den} {v:Value} (hs:sl s=some ⟨hv,cv,some c⟩) (hr:Rep Z w (.sl t) c.m ys (fp s) [v]) :
 HR Z w (put sl s ⟨hv+1,0,some ⟨.sl t,c.m,ys⟩⟩) (fun k=>if k=s then v else hdr k) fp∧Trans Z w sl hdr fp Z w (put sl s ⟨hv+1,0,some ⟨.sl t,c.m,ys⟩⟩) (fun k=>if k=s then v else hdr k) fp:=by
 refine ⟨⟨fun s' hv' cv' c' h' => ?_,fun s' hv' cv' c' h' => ?_,H.disj,H.lt,H.zlt,H.dz⟩,⟨fun b hb=>⟨hb,rfl⟩,fun s' S h' => ?_,fun b _ h2 h3=>⟨rfl,h2,h3⟩,Nat.le_refl _,rfl,rfl,rfl⟩⟩
 ·by_cases e:s'=s
  ·subst e
   simp only [put,if_true,Option.some.injEq,Slot.mk.injEq] at h'
   obtain ⟨rfl,rfl,rfl⟩:=h'
   simp only [if_true]
   exact hr
  ·simp only [put,if_neg e] at h' ⊢
   exact H.rep _ _ _ _ h'
 ·by_cases e:s'=s
  ·subst e
   simp only [put,if_true,Option.some.injEq,Slot.mk.injEq] at h'
   obtain ⟨rfl,rfl,rfl⟩:=h'
   exact .inl ⟨t,rfl⟩
  ·simp only [put,if_neg e] at h'
   exact H.shape _ _ _ _ h'
 ·by_cases e:s'=s
  ·subst e
   rw [hs] at h'; obtain rfl:=Option.some.inj h'
   exact ⟨⟨hv+1,0,some ⟨.sl t,c.m,ys⟩⟩,by simp [put],.inl (Nat.lt_succ_self hv)⟩
  ·refine ⟨S,by simp only [put,if_neg e]; exact h',.inr (.inr ⟨rfl,rfl,fun c' hc'=>⟨c',hc',by simp only [if_neg e],fun _ _=>rfl,.inl ⟨rfl,fun _ h=>h⟩⟩⟩)⟩
theorem chkK {R:Type} {E:Env} {e:TypeId} {t:Ty} {xs:List t.den} {ρ:Operand→MV} {lo hi:Option Operand} {k:List t.den→Option R} {r:R} (h:partK E ρ e lo hi t xs k=some r):tyB E e (.sl t)=true∧∃ l g,bndK ρ lo 0=some l∧bndK ρ hi (xs.length:Nat)=some g∧0≤l∧l≤g∧g≤(xs.length:Nat)∧k (V.subs xs l.toNat g.toNat)=some r:=by
 unfold partK at h
 obtain ⟨hb,h⟩:=cond_some h
 refine ⟨hb,?_⟩
 split at h
 ·rename_i l g h1 h2
  obtain ⟨a1,h⟩:=chk_some h
  obtain ⟨a2,h⟩:=chk_some h
  obtain ⟨a3,h⟩:=chk_some h
  exact ⟨l,g,h1,h2,of_decide_eq_true a1,of_decide_eq_true a2,of_decide_eq_true a3,h⟩
 ·cases h
theorem partK_bind {R:Type} {E:Env} {e:TypeId} {t:Ty} {xs:List t.den} {ρ:Operand→MV} {lo hi:Option Operand} {k:List t.den→Option R} {k2:List t.den→Option (MV × Ups)} {K:MV→Ups→Option R} (hk:∀ y,k y=B2 (k2 y) K):partK E ρ e lo hi t xs k=B2 (partK E ρ e lo hi t xs k2) K:=by
 unfold partK
 cases tyB E e (.sl t) with
 | false=>rfl
 | true =>
  simp only [cond_true]
  cases bndK ρ lo 0 with
  | none=>rfl
  | some l =>
   cases bndK ρ hi (xs.length:Nat) with
   | none=>rfl
   | some g =>
    simp only [B2,chk_bind]
    rw [hk]
theorem rep_hdr {t:Ty} {m:Mk} {xs:List t.den} {f:Bs} {cs:List Value} (h:Rep Z w (.sl t) m xs f cs):∃ A cap,cs=[.slice A xs.length cap]∧xs.length≤cap:=by
 cases m with
 | ow q =>
  obtain ⟨A,cap,e,hd⟩:=h
  refine ⟨A,cap,e,?_⟩
  rcases hd with ⟨rfl,rfl⟩ | ⟨b,o,c,e,_,_,_,_,g,_⟩
  ·exact Nat.le_refl _
  ·exact g
 | im=>obtain ⟨A,cap,e,g,_⟩:=h; exact ⟨A,cap,e,g⟩
 | pr p q=>obtain ⟨A,cap,e,g,_⟩:=h; exact ⟨A,cap,e,g⟩
theorem slice_ok (hT:TTok E) (H:HR Z w sl hdr fp) {h:OH} {us:Ups} {e:TypeId} {x:Operand} {lo hi:Option Operand} (ho:o.op=.slice e x lo hi none) (hρ:∀ x,RelV Z w sl hdr fp (ρ x) (a.eval x)) (hh:sliceK E ρ sl h e x lo hi (fun m u=>some (m,u))=some (mv,us)):OpOK E o a w Z sl hdr fp mv (us.look sl):=by
 unfold sliceK at hh
 have gx:=unMV_ok (hρ x)
 split at hh
 ·rename_i t xs hx
  rw [hx] at gx
  obtain ⟨hb,l,g,b1,b2,b3,b4,b5,hh⟩:=chkK hh
  obtain ⟨nb,hTy⟩:=tyB_ok hT hb
  obtain ⟨el,ne,hu,hel⟩:=hTy.desc
  simp only [Option.some.injEq,Prod.mk.injEq] at hh
  obtain ⟨rfl,rfl⟩:=hh
  rcases gx with gx | ⟨cs,gx,ev⟩
  ·cases gx
  have gx:Rep Z w (.sl t) .im xs none_ cs:=gx
  obtain ⟨A,cap,rfl,hc⟩:=rep_hdr gx
  have hrun:=run_slice hu (hT _ _ _ hel) hρ ho (show a.eval x=.slice A xs.length cap from ev) b1 b2 b3 b4 b5 hc
  exact .same H hrun (.inr ⟨_,gx.subs (l:=l.toNat) (h:=g.toNat) (by omega) (by omega),rfl⟩)
 ·rename_i s hv hx
  rw [hx] at gx
  split at hh
  ·rename_i cv t m xs hl
   obtain ⟨hb,l,g,b1,b2,b3,b4,b5,hh⟩:=chkK hh
   obtain ⟨nb,hTy⟩:=tyB_ok hT hb
   obtain ⟨el,ne,hu,hel⟩:=hTy.desc
   have e2:=lookH_some hl
   rcases gx with gx | ⟨cs,gx,ev⟩
   ·cases gx
   obtain ⟨_,S,q1,q2,q3⟩:=gx
   rw [e2] at q1; obtain rfl:=Option.some.inj q1
   have q4:=q3 rfl _ rfl
   have hr:=H.rep _ _ _ _ e2
   obtain ⟨A,cap,eh,hc⟩:=rep_hdr hr
   have eh:hdr s=.slice A xs.length cap:=by simpa using eh
   have ev2:a.eval x=.slice A xs.length cap:=by rw [ev,q4]; exact eh
   have hrun:=run_slice hu (hT _ _ _ hel) hρ ho ev2 b1 b2 b3 b4 b5 hc
   have hr2:=Rep.subs (xs:=xs) (l:=l.toNat) (h:=g.toNat) hr (by omega) (by omega)
   rw [eh] at hr2
   cases hf:Nat.beq h.fl 5 with
   | true =>
    rw [hf] at hh
    simp only [cond_true,Option.some.injEq,Prod.mk.injEq] at hh
    obtain ⟨rfl,rfl⟩:=hh
    obtain ⟨H2,T2⟩:=head_up H e2 hr2
    refine OpOK.val (sl':=Ups.look _ sl) hrun (by rw [look_cons,look_nil]; exact H2) (by rw [look_cons,look_nil]; exact T2) ?_
    rw [look_cons,look_nil]
    exact .inr ⟨[subH t l.toNat g.toNat (.slice A xs.length cap)],⟨⟨rfl,fun u hu=>by obtain rfl:=List.mem_singleton.1 hu; rfl⟩,⟨hv+1,0,some ⟨.sl t,m,_⟩⟩,(if_pos rfl),Nat.le_refl _,fun _ c' hc'=>by simp⟩,rfl⟩
   | false =>
    rw [hf] at hh
    simp only [cond_false,Option.some.injEq,Prod.mk.injEq] at hh
    obtain ⟨rfl,rfl⟩:=hh
    refine .same H hrun (.inr ⟨[_],⟨⟨rfl,fun u hu=>by obtain rfl:=List.mem_singleton.1 hu; rfl⟩,_,e2,Nat.le_refl _,fun _=>⟨Nat.le_refl _,fun _ c' hc' => ?_⟩⟩,rfl⟩)
    obtain rfl:=Option.some.inj hc'
    refine ⟨?_,fun p hp=>by cases hp⟩
    cases m with
    | ow q=>exact ⟨_,_,hr2,fun k hk=>hk,fun h=>by cases h⟩
    | im=>exact ⟨.im,none_,hr2,fun k hk=>hk.elim,fun _ k hk=>hk⟩
    | pr p q=>exact ⟨.im,none_,hr2,fun k hk=>hk.elim,fun _ k hk=>hk⟩
  ·cases hh
 ·rename_i s hv cv p t xs hx
  rw [hx] at gx
  obtain ⟨hc,hh⟩:=cond_some hh
  obtain ⟨hb,l,g,b1,b2,b3,b4,b5,hh⟩:=chkK hh
  obtain ⟨nb,hTy⟩:=tyB_ok hT hb
  obtain ⟨el,ne,hu,hel⟩:=hTy.desc
  simp only [Option.some.injEq,Prod.mk.injEq] at hh
  obtain ⟨rfl,rfl⟩:=hh
  rcases gx with gx | ⟨cs,gx,ev⟩
  ·cases gx
  obtain ⟨_,S,q1,q2,q3⟩:=gx
  cases hcl2:lookC sl s hv cv with
  | none=>rw [hcl2] at hc; cases hc
  | some c =>
   have e2:=lookC_some hcl2
   rw [e2] at q1; obtain rfl:=Option.some.inj q1
   obtain ⟨⟨m,f,q4,q5,q6⟩,_⟩:=(q3 rfl).2 rfl c rfl
   obtain ⟨A,cap,rfl,hcp⟩:=rep_hdr q4
   have hrun:=run_slice hu (hT _ _ _ hel) hρ ho (show a.eval x=.slice A xs.length cap from ev) b1 b2 b3 b4 b5 hcp
   have hr2:=q4.subs (l:=l.toNat) (h:=g.toNat) (by omega) (by omega)
   refine .same H hrun (.inr ⟨[_],⟨⟨rfl,fun u hu=>by obtain rfl:=List.mem_singleton.1 hu; rfl⟩,_,e2,Nat.le_refl _,fun _=>⟨Nat.le_refl _,fun _ c' hc' => ?_⟩⟩,rfl⟩)
   obtain rfl:=Option.some.inj hc'
   exact ⟨⟨m,f,hr2,q5,q6⟩,fun p hp=>by cases hp⟩
 ·cases hh
theorem sliceK_bind {R:Type} {look:Nat→Option Slot} {h:OH} {e:TypeId} {x:Operand} {lo hi:Option Operand} {K:MV→Ups→Option R}:sliceK E ρ look h e x lo hi K=B2 (sliceK E ρ look h e x lo hi S2) K:=by
 unfold sliceK
 split
 ·exact partK_bind (fun y=>rfl)
 ·split
  ·refine partK_bind (fun y => ?_)
   cases Nat.beq h.fl 5 <;> rfl
  ·rfl
 ·rename_i s hv cv p t xs _
  cases (lookC look s hv cv).isSome with
  | true =>
   simp only [cond_true]
   exact partK_bind (fun y=>rfl)
  | false=>rfl
 ·rfl
end
section
variable {E:Env} {o:Oper} {a:Act} {w:World} {Z:Bs} {sl:Nat→Option Slot} {hdr:Nat→Value} {fp:Nat→Bs} {mv:MV} {ρ:Operand→MV}
theorem mapRun {C:Prop} (hE:TTok E) {Z1:Bs} {e:TypeId} {m i x:Operand} {k v:Ty} {q:Mk} {l:List (k.den × v.den)} {y:k.den} {z:v.den} {b n:Nat} {es:Array MapEntry} {f:Bs} {ci cx:List Value}
 (hb:mapB E e k v=true) (hsz:k.size≤100000000) (hm:a.eval m=.map (some b)) (ei:a.eval i=k.val ci) (hxv:a.eval x=v.val cx) (hi:Rep Z w k .im y none_ ci) (hi1:Rep Z1 w k .im y none_ ci) (hkq:Rep Z1 w v q z none_ cx) (hheap:w.heap[b]?=some (.map es n))
 (h6:Entries (fun x c=>Rep Z1 w k .im x none_ c) (fun x f c=>Rep Z1 w v q x f c) k.val v.val l es.toList f)
 (fin:∀ (es':Array MapEntry) (n':Nat),Entries (fun x c=>Rep Z1 w k .im x none_ c) (fun x f c=>Rep Z1 w v q x f c) k.val v.val (mput k l y z) es'.toList f →
  (Instr.mapUpdate e (a.eval m) (a.eval i) (a.eval x)).run E.P w=.ok () { w with heap:=w.heap.setIfInBounds b (.map es' n') }→C):C:=by
 simp only [mapB,Bool.and_eq_true] at hb
 obtain ⟨hb1,hb2⟩:=hb
 obtain ⟨nb,hT⟩:=tyB_ok hE hb1
 obtain ⟨kt,vt,n1,n2,hun,hk,hv'⟩:=hT.desc
 rw [hun] at hb2
 simp only at hb2
 obtain ⟨r,g1,g2⟩:=findKey_ok hE hk hb2 (by decide) hi1 h6
 have hg:=Go.MapKept.run_getObj_map (P:=E.P) hheap
 have hck:=checkKey_ok hE false 50 10000 hk hb2 (by decide) _ _ _ _ _ _ hi
 rcases g2 with ⟨g2,rfl⟩ | ⟨i0,x0,e0,g2,rfl,g3,g4,g5,g6⟩
 ·refine fin (es.push { key:=k.val ci,val:=v.val cx,born:=n }) (n+1) ?_ ?_
  ·rw [mput_none g2,Array.toList_push]
   exact entries_push (Rk:=fun x c=>Rep Z1 w k .im x none_ c) (Rv:=fun x f c=>Rep Z1 w v q x f c) (kv:=k.val) (vv:=v.val) rfl rfl hi1 hkq h6
  ·rw [hm,ei,hxv]
   simp only [Instr.mapUpdate,Sem.run_bind,run_underlying hun,Result.andThen_ok,hg,hck,g1,Go.MapKept.run_setObj_map _ hheap]
 ·have hin:i0<es.size:=by
   have:=(List.getElem?_eq_some_iff.1 g4).1
   simpa using this
  obtain ⟨ck,cv0,f',q1,q2,q3,q4,q5⟩:=(entries_get h6).2 i0 x0 e0 g3 g4
  obtain ⟨hyx,hcc⟩:=eqV_eq hE hk hb2 hi1 q3 g5
  have hsame:Instr.sameBits 10000 (((es[i0]?).map (·.key)).getD (k.val ci)) (k.val ci)=true:=by
   have:es[i0]?=some e0:=by rw [← Array.getElem?_toList]; exact g4
   rw [this]
   simp only [Option.map_some,Option.getD_some]
   rw [q1,← hcc]
   exact (sameBits_key hE 50 10000 hk hb2 hsz (by decide) _ _ _ _ _ _ hi).1
  refine fin (es.modify i0 fun e=>{ e with key:=k.val ci,val:=v.val cx }) n ?_ ?_
  ·rw [g6 z]
   have:(es.modify i0 fun e=>{ e with key:=k.val ci,val:=v.val cx }).toList=es.toList.set i0 { e0 with key:=k.val ci,val:=v.val cx }:=by
    apply List.ext_getElem?
    intro j
    rw [Array.getElem?_toList,Array.getElem?_modify,List.getElem?_set]
    by_cases hj:i0=j
    ·subst hj
     rw [if_pos rfl,if_pos rfl,if_pos (by simpa using hin),← Array.getElem?_toList,g4]; rfl
    ·rw [if_neg hj,if_neg hj,Array.getElem?_toList]
   rw [this]
   exact entries_set (Rk:=fun x c=>Rep Z1 w k .im x none_ c) (Rv:=fun x f c=>Rep Z1 w v q x f c) (kv:=k.val) (vv:=v.val) rfl rfl hi1 hkq i0 h6
  ·rw [hm,ei,hxv]
   have hst:∀ old,Instr.sameBits 10000 old (k.val ci)=true→(Instr.keyThatStays old (k.val ci)).run E.P w=.ok (k.val ci) w:=fun old h=>by simp [Instr.keyThatStays,h]
   simp only [Instr.mapUpdate,Sem.run_bind,run_underlying hun,Result.andThen_ok,hg,hck,g1,Nat.zero_add,hst _ hsame,Go.MapKept.run_setObj_map _ hheap]
def mapUpdV {R:Type} (E:Env) (ρ:Operand→MV) (look:Nat→Option Slot) (e:TypeId) (m i x:Operand) (K:MV→Ups→Option R):Option R :=
 match ρ m,ρ i with
 | .view s hv cv (some [.el 0]) (.mp _ _) _,.val k' y=>match lookC look s hv cv with
  | some ⟨.sl (.mp k v),.ow (.ow q),xs⟩=>match (xs:List (Option (List (k.den × v.den)))) with
   | [c]=>bif mapB E e k v && v.shared q && Nat.ble k.size 1000 then (if hk:k'=k then (match takeX look v .im (ρ x) with
    | some (z,us)=>bif us.any (fun u=>Nat.beq u.1 s) then none else c.bind fun l=>K .dead ((s,⟨hv,cv+1,some ⟨.sl (.mp k v),.ow (.ow q),([some (mput k l (hk ▸ y) z)]:List (Option (List (k.den × v.den))))⟩⟩) :: us)
    | none=>none) else none) else none
   | _=>none
  | _=>none
 | _,_=>none
theorem mapUpdV_ok (hE:TTok E) (H:HR Z w sl hdr fp) {e:TypeId} {m i x:Operand} {us:Ups} (ho:o.op=.mapUpdate e m i x) (hρ:∀ x,RelV Z w sl hdr fp (ρ x) (a.eval x)) (hh:mapUpdV E ρ sl e m i x (fun m u=>some (m,u))=some (mv,us)):OpOK E o a w Z sl hdr fp mv (us.look sl):=by
 unfold mapUpdV at hh
 split at hh
 ·rename_i s hv cv k0 v0 x0 k' y hm hi
  split at hh
  ·rename_i k v q xs hl
   split at hh
   ·rename_i c
    obtain ⟨hb,hh⟩:=cond_some hh
    simp only [Bool.and_eq_true] at hb
    split at hh
    ·rename_i ek
     subst ek
     split at hh
     ·rename_i z us1 htk
      cases hus:us1.any (fun u=>Nat.beq u.1 s) with
      | true=>rw [hus] at hh; cases hh
      | false =>
       rw [hus] at hh
       simp only [cond_false] at hh
       obtain ⟨l,rfl,hh⟩:=bind_some_ hh
       simp only [Option.bind_some,Option.some.injEq,Prod.mk.injEq] at hh
       obtain ⟨rfl,rfl⟩:=hh
       have gm:=hρ m
       rw [hm] at gm
       have gi:=hρ i
       rw [hi] at gi
       rcases gm with gm | ⟨cm,gm,em⟩
       ·cases gm
       rcases gi with gi | ⟨ci,gi,ei⟩
       ·cases gi
       have ei:a.eval i=k'.val ci:=ei
       have hx:=hρ x
       rcases hx with hx | ⟨cx,hx,ex⟩
       ·rw [hx] at htk; exact (takeX_dead htk).elim
       obtain ⟨Z1,fp1,F,K⟩:=takeX_sound htk H hx
       have hxv:a.eval x=v.val cx:=by
        rw [ex]
        have:(ρ x).out cx=(MV.val v z).out cx:=by
         rcases takeX_cases htk with (h1 | h1) | ⟨a0,b0,rfl,y0,hc,h1,rfl⟩
         ·obtain ⟨g1,g2⟩:=take_agg_ h1; rw [out_val g1 g2]; rfl
         ·rw [← (unMV_okC hx).2]; obtain ⟨g1,g2⟩:=take_agg_ h1; rw [out_val g1 g2]; rfl
         ·obtain ⟨g1,g2⟩:=take_agg_ h1; rw [out_val (t:=.ex .tree a0 b0) (g1.trans (un_cells (b:=b0) hc).2.2) g2]; rfl
        rw [this]; rfl
       have e2:=lookC_some hl
       have e3:=(look_other hus).trans e2
       have hrep:=K.hr.rep s _ _ _ e3
       obtain ⟨hl1,S,h1,_,h3⟩:=gm
       rw [e2] at h1; obtain rfl:=Option.some.inj h1
       obtain ⟨_,hpath⟩:=(h3 rfl).2 rfl _ rfl
       obtain ⟨_,hsub⟩:=hpath _ rfl
       obtain ⟨hsub,_⟩:=hsub rfl
       obtain ⟨A,cap,ehd,hd⟩:=hrep
       have ehd:hdr s=.slice A 1 cap:=by simpa using ehd
       rcases hd with ⟨h0,_⟩ | ⟨b0,o0,c0,e0,rfl,q1,q2,q3,q4,fps,css,q5,q6⟩
       ·cases h0
       obtain ⟨r1,r2,r3,r4⟩:=q5 0 (some l) rfl
       rcases r1 with ⟨h0,_⟩ | ⟨b,es,n,l',h0,h4,hfb,hheap,f,h5,h6⟩
       ·cases h0
       obtain rfl:=Option.some.inj h0
       have hcm:cm=[.map (some b)]:=by
        rw [ehd] at hsub
        have:=r3 0 (by show 0<1; omega)
        rw [h4] at this
        simp only [subc,Ty.size,List.range_one,List.map_cons,List.map_nil,Option.some.injEq] at hsub
        rw [← hsub]
        simp only [Ty.size,Nat.zero_mul,Nat.add_zero] at this ⊢
        rw [this]; rfl
       have hm2:a.eval m=.map (some b):=by rw [em,hcm]; rfl
       have hZ1:∀ b,Z b→Z1 b:=fun b hb=>(K.tr.z b hb).1
       have hbb:b≠b0:=(r4 b hfb).2
       have hfs:fp1 s b:=(r4 b hfb).1
       have hkq:Rep Z1 w v q z none_ cx:=(K.rep.share (shared_im _)).unshare hb.1.2
       have hne:∀ o,(∀ r',r'≠b→(w.heap.setIfInBounds b o)[r']?=w.heap[r']?)∧(w.heap.setIfInBounds b o)[b]?=some o:=fun o=>⟨(Go.MapKept.heap_set hheap).2,(Go.MapKept.heap_set hheap).1⟩
       refine mapRun hE hb.1.1 (Nat.le_trans (Nat.le_of_ble_eq_true hb.2) (by decide)) hm2 ei hxv gi (Rep.more hZ1 gi) hkq hheap h6 (fun es' n' hent hrun => ?_)
       have hZk:∀ b',Z1 b'→Z1 b'∧({ w with heap:=w.heap.setIfInBounds b (.map es' n') }:World).heap[b']?=w.heap[b']?:=fun b' hb'=>⟨hb',(hne _).1 b' (fun e=>K.hr.dz _ _ hfs (e ▸ hb'))⟩
       have hent':Entries (fun x c=>Rep Z1 { w with heap:=w.heap.setIfInBounds b (.map es' n') } k' .im x none_ c) (fun x f c=>Rep Z1 { w with heap:=w.heap.setIfInBounds b (.map es' n') } v q x f c) k'.val v.val (mput k' l y z) es'.toList f :=
        Entries.keep (fun x c h=>Rep.keep hZk (fun b hb=>hb.elim) h) (fun x f' c hf h=>Rep.keep hZk (fun b' hb'=>(hne _).1 b' (h5 b' (hf b' hb')).2) h) hent
       have hcell:∀ j,({ w with heap:=w.heap.setIfInBounds b (.map es' n') }:World).cell? ⟨b0,o0+0*(Ty.mp k' v).size+j,none⟩=w.cell? ⟨b0,o0+0*(Ty.mp k' v).size+j,none⟩:=fun j=>by
        simp only [World.cell?,(hne _).1 b0 (fun e=>hbb e.symm)]
       obtain ⟨fp',_,_,H',T'⟩:=step_write K.hr e3 (w':={ w with heap:=w.heap.setIfInBounds b (.map es' n') }) hfs (hne _).1 (by simp) rfl rfl rfl hv (cv+1) ⟨.sl (.mp k' v),.ow (.ow q),([some (mput k' l y z)]:List (Option (List (k'.den × v.den))))⟩ (hdr s) (fp1 s)
        ⟨some ⟨b0,o0,none⟩,cap,by rw [ehd]; rfl,.inr ⟨b0,o0,c0,e0,rfl,q1,((hne _).1 b0 (fun e=>hbb e.symm)).trans q2,q3,q4,fps,css,fun j x hx=>by
         match j,hx with
         | 0,hx =>
          obtain rfl:=Option.some.inj hx
          exact ⟨.inr ⟨b,es',n',mput k' l y z,rfl,h4,hfb,(hne _).2,f,h5,hent'⟩,r2,fun j hj=>(hcell j).trans (r3 j hj),r4⟩
         | j+1,hx=>simp at hx,fun i j k h1 h2 h3 h4=>by simp at h3 h4; omega⟩⟩ (.inl ⟨_,rfl⟩) (fun k hk=>.inl hk) (.inr ⟨rfl,Nat.lt_succ_self _,rfl⟩)
       rw [look_cons]
       refine .skip ?_ H' (K.tr.comp T')
       unfold execOp; rw [ho]
       simp only [Sem.run_bind,hrun,Result.andThen_ok,Sem.run_pure]
     ·cases hh
    ·cases hh
   ·cases hh
  ·cases hh
 ·cases hh
theorem mapUpdV_bind {R:Type} {look:Nat→Option Slot} {e:TypeId} {m i x:Operand} {K:MV→Ups→Option R}:mapUpdV E ρ look e m i x K=B2 (mapUpdV E ρ look e m i x S2) K:=by
 unfold mapUpdV
 split
 ·split
  ·split
   ·simp only [B2,cond_bind,Option.bind_none]
    congr 1
    split
    ·split
     ·simp only [S2,cond_bind,Option.bind_none,bind_bind,Option.bind_some]
     ·rfl
    ·rfl
   ·rfl
  ·rfl
 ·rfl
def lookupV {R:Type} (E:Env) (ρ:Operand→MV) (look:Nat→Option Slot) (e:TypeId) (m i:Operand) (ok:Bool) (K:MV→Ups→Option R):Option R :=
 match ρ m,ρ i with
 | .view s hv cv (some [.el 0]) (.mp _ _) _,.val k' y=>match lookC look s hv cv with
  | some ⟨.sl (.mp k v),.ow (.ow q),xs⟩=>match (xs:List (Option (List (k.den × v.den)))) with
   | [c]=>bif mapB E e k v && v.shared q then (if hk:k'=k then
    (bif ok then K (.tc (.val v ((c.bind fun l=>mget k l (hk ▸ y)).getD v.zero)) (.tc (.val .bool (c.bind fun l=>mget k l (hk ▸ y)).isSome) .tn)) []
    else K (.val v ((c.bind fun l=>mget k l (hk ▸ y)).getD v.zero)) []) else none) else none
   | _=>none
  | _=>none
 | _,_=>none
theorem lookupV_ok (hE:TTok E) (H:HR Z w sl hdr fp) {e:TypeId} {m i:Operand} {ok:Bool} {us:Ups} (ho:o.op=.lookup e m i ok) (hρ:∀ x,RelV Z w sl hdr fp (ρ x) (a.eval x)) (hh:lookupV E ρ sl e m i ok (fun m u=>some (m,u))=some (mv,us)):OpOK E o a w Z sl hdr fp mv (us.look sl):=by
 unfold lookupV at hh
 split at hh
 ·rename_i s hv cv k0 v0 x0 k' y hm hi
  split at hh
  ·rename_i k v q xs hl
   split at hh
   ·rename_i c
    obtain ⟨hb,hh⟩:=cond_some hh
    simp only [Bool.and_eq_true] at hb
    split at hh
    ·rename_i ek
     subst ek
     have gm:=hρ m
     rw [hm] at gm
     have gi:=hρ i
     rw [hi] at gi
     rcases gm with gm | ⟨cm,gm,em⟩
     ·cases gm
     have e2:=lookC_some hl
     have hrep:=H.rep s _ _ _ e2
     obtain ⟨hl1,S,h1,_,h3⟩:=gm
     rw [e2] at h1; obtain rfl:=Option.some.inj h1
     obtain ⟨_,hpath⟩:=(h3 rfl).2 rfl _ rfl
     obtain ⟨_,hsub⟩:=hpath _ rfl
     obtain ⟨hsub,_⟩:=hsub rfl
     obtain ⟨A,cap,ehd,hd⟩:=hrep
     have ehd:hdr s=.slice A 1 cap:=by simpa using ehd
     have key:(c=none∧a.eval m=.map none)∨∃ b es n l q f,c=some l∧a.eval m=.map (some b)∧w.heap[b]?=some (.map es n)∧v.shared q=true∧Entries (fun x c=>Rep Z w k' .im x none_ c) (fun x f c=>Rep Z w v q x f c) k'.val v.val l es.toList f:=by
      rcases hd with ⟨h0,_⟩ | ⟨b0,o0,c0,e0,rfl,q1,q2,q3,q4,fps,css,q5,q6⟩
      ·cases h0
      obtain ⟨r1,r2,r3,r4⟩:=q5 0 c rfl
      have hcm:∀ v0,css 0=[v0]→cm=[v0]:=fun v0 h4=>by
       rw [ehd] at hsub
       have:=r3 0 (by show 0<1; omega)
       rw [h4] at this
       simp only [subc,Ty.size,List.range_one,List.map_cons,List.map_nil,Option.some.injEq] at hsub
       rw [← hsub]
       simp only [Ty.size,Nat.zero_mul,Nat.add_zero] at this ⊢
       rw [this]; rfl
      rcases r1 with ⟨h0,h4⟩ | ⟨b,es,n,l,h0,h4,hfb,hheap,f,h5,h6⟩
      ·exact .inl ⟨h0,by rw [em,hcm _ h4]; rfl⟩
      ·exact .inr ⟨b,es,n,l,q,f,h0,by rw [em,hcm _ h4]; rfl,hheap,hb.2,h6⟩
     obtain ⟨val,h1,h2⟩:=lookup_core hE ho gi hb.1 key
     cases ok with
     | true =>
      simp only [cond_true,Option.some.injEq,Prod.mk.injEq] at hh
      obtain ⟨rfl,rfl⟩:=hh
      refine .same H h2 (.inr ⟨[val,.bool _],?_,rfl⟩)
      rcases h1 with h1 | ⟨c1,h1,h3⟩
      ·cases h1
      ·exact ⟨c1,val,_,rfl,.inr ⟨h1,h3⟩,[.bool _],.bool _,[],rfl,.inr ⟨rfl,rfl⟩,rfl⟩
     | false =>
      simp only [cond_false,Option.some.injEq,Prod.mk.injEq] at hh
      obtain ⟨rfl,rfl⟩:=hh
      exact .same H h2 h1
    ·cases hh
   ·cases hh
  ·cases hh
 ·cases hh
theorem lookupV_bind {R:Type} {look:Nat→Option Slot} {e:TypeId} {m i:Operand} {ok:Bool} {K:MV→Ups→Option R}:lookupV E ρ look e m i ok K=B2 (lookupV E ρ look e m i ok S2) K:=by
 unfold lookupV
 split
 ·split
  ·split
   ·simp only [B2,cond_bind,Option.bind_none]
    congr 1
    split
    ·simp only [S2,cond_bind,Option.bind_some]
    ·rfl
   ·rfl
  ·rfl
 ·rfl
end
def zprs (t:Ty):Nat→MV
 | 0=>.un
 | n+1=>.pr (.nv t [] true) (zprs t n)
def zmv:Ty→Option MV
 | .arr (n+1) (.sl t)=>some (zprs t (n+1))
 | _=>none
def oel {α R:Type} (o:Option α) (a:Option R) (f:α→Option R):Option R :=
 match o with
 | none=>a
 | some x=>f x
def lookupN {R:Type} (E:Env) (ρ:Operand→MV) (look:Nat→Option Slot) (e:TypeId) (m i:Operand) (ok:Bool) (K:MV→Ups→Option R):Option R :=
 match mapC look (ρ m),ρ i with
 | some ⟨k,v,xs⟩,.val k' y=>bif mapB E e k v && !ok then (if hk:k'=k then
  (match zmv v with
  | some z=>oel (xs.bind fun l=>mget k l (hk ▸ y)) (K z []) (fun x=>K (.val v x) [])
  | none=>none) else none) else none
 | _,_=>none
def isZ (t:Ty):Nat→MV→Bool
 | 0,.un=>true
 | n+1,.pr (.nv t' x true) r=>decide (t'=t) && List.isEmpty (x:List t'.den) && isZ t n r
 | _,_=>false
def indexZ {R:Type} (E:Env) (ρ:Operand→MV) (e:TypeId) (x i:Operand) (K:MV→Ups→Option R):Option R :=
 match E.tt e,ρ i with
 | some (.arr n (.sl t),_),.val (.int _) m=>bif isZ t n (ρ x) && (ρ x).agg && decide (0≤m) && decide (m<(n:Int)) then K (.nv t [] true) [] else none
 | _,_=>none
section
variable {E:Env} {R:Type} {o:Oper} {a:Act} {w:World} {Z:Bs} {sl:Nat→Option Slot} {hdr:Nat→Value} {fp:Nat→Bs} {mv:MV} {ρ:Operand→MV}
theorem lookupN_bind {look:Nat→Option Slot} {e:TypeId} {m i:Operand} {ok:Bool} {K:MV→Ups→Option R}:lookupN E ρ look e m i ok K=B2 (lookupN E ρ look e m i ok S2) K:=by
 unfold lookupN
 split
 ·rename_i k v xs k' y h1 h2
  cases (mapB E e k v && !ok) with
  | true =>
   simp only [cond_true]
   by_cases hk:k'=k
   ·rw [dif_pos hk,dif_pos hk]
    split
    ·unfold oel
     split <;> rfl
    ·rfl
   ·rw [dif_neg hk,dif_neg hk]; rfl
  | false=>rfl
 ·rfl
theorem indexZ_bind {e:TypeId} {x i:Operand} {K:MV→Ups→Option R}:indexZ E ρ e x i K=B2 (indexZ E ρ e x i S2) K:=by
 unfold indexZ
 split
 ·rename_i n t nb ik m h1 h2
  cases (isZ t n (ρ x) && (ρ x).agg && decide (0≤m) && decide (m<(n:Int))) <;> rfl
 ·rfl
theorem zprs_rel (t:Ty):∀ n,RelC Z w sl hdr fp (zprs t n) (List.replicate n (Ty.sl t).zcells).flatten
 | 0=>rfl
 | n+1=>⟨(Ty.sl t).zcells,_,rfl,⟨Rep.zero Z w (.sl t) .im none_,fun A l c h=>by
  have h:[Value.slice none 0 0]=[.slice A l c]:=h
  simp only [List.cons.injEq,Value.slice.injEq,and_true] at h
  rw [← h.1]; rfl⟩,zprs_rel t n⟩
theorem zmv_rel {v:Ty} {z:MV} (h:zmv v=some z):RelV Z w sl hdr fp z (v.val v.zcells):=by
 cases v with
 | arr n t =>
  cases n with
  | zero=>cases t <;> cases h
  | succ n =>
   cases t with
   | sl t =>
    obtain rfl:=(Option.some.inj h:zprs t (n+1)=z)
    exact .inr ⟨_,zprs_rel t (n+1),rfl⟩
   | _=>cases h
 | _=>cases h
theorem lookup_core2 (hE:TTok E) {e:TypeId} {m i:Operand} {k v:Ty} {xs:Option (List (k.den × v.den))} {y:k.den} (ho:o.op=.lookup e m i false) (hi:RelV Z w sl hdr fp (.val k y) (a.eval i)) (hb:mapB E e k v=true)
 (hd:(xs=none∧a.eval m=.map none)∨∃ b es n l q f,xs=some l∧a.eval m=.map (some b)∧w.heap[b]?=some (.map es n)∧v.shared q=true∧Entries (fun x c=>Rep Z w k .im x none_ c) (fun x f c=>Rep Z w v q x f c) k.val v.val l es.toList f) :
 ∃ val:Value,(((xs.bind fun l=>mget k l y)=none∧val=v.val v.zcells)∨∃ x,(xs.bind fun l=>mget k l y)=some x∧RelV Z w sl hdr fp (.val v x) val)∧(execOp a.eval o).run E.P w=.ok (.value val) w:=by
 simp only [mapB,Bool.and_eq_true] at hb
 obtain ⟨hb1,hb2⟩:=hb
 obtain ⟨nb,hT⟩:=tyB_ok hE hb1
 obtain ⟨kt,vt,n1,n2,hun,hk,hv⟩:=hT.desc
 rw [hun] at hb2
 simp only at hb2
 rcases hi with hi | ⟨ci,hi,ei⟩
 ·cases hi
 have ei:a.eval i=k.val ci:=ei
 have hTv:=hE _ _ _ hv
 obtain ⟨z,hz,hzc⟩:=hTv.zero w
 have hzv:z=v.val v.zcells:=by
  obtain ⟨i0,z0,q1,q2,q3,q4,q5⟩:=hTv.info
  have:(zeroValue vt).run E.P w=.ok z0 w:=by simp [zeroValue,typeInfo,q1,q4]
  rw [this] at hz
  obtain ⟨rfl,_⟩:=Result.ok.inj hz
  exact hTv.zv _ _ q1 q4
 have hck:=fun em=>checkKey_ok hE em 50 10000 hk hb2 (by decide) _ _ _ _ _ _ hi
 have hex:∀ r,(Instr.lookup e (a.eval m) (a.eval i) false).run E.P w=.ok r w→(execOp a.eval o).run E.P w=.ok (.value r) w:=by
  intro r hr
  unfold execOp; rw [ho]
  simp only [Sem.run_bind,hr,Result.andThen_ok,Sem.run_pure]
 rcases hd with ⟨hx,hout⟩ | ⟨b,es,n,l,q,f,hx,hout,hheap,hq,hent⟩
 ·subst hx
  refine ⟨z,.inl ⟨rfl,hzv⟩,hex _ ?_⟩
  rw [hout,ei]
  have hf:(Instr.findKey kt (k.val ci) []).run E.P w=.ok none w:=by
   obtain ⟨r,g1,g2⟩:=findKey_ok hE (Rv:=fun (x:v.den) f c=>True) (vv:=v.val) hk hb2 (by decide) hi (xs:=[]) (es:=[]) (f:=none_) rfl
   rcases g2 with ⟨_,g2⟩ | ⟨i,x,e,h,_⟩
   ·rw [g1,g2]
   ·cases h
  simp only [Instr.lookup,Sem.run_bind,run_underlying hun,Result.andThen_ok,Sem.run_pure,hck,Array.toList_empty,List.isEmpty_nil,hf,hz]
  simp [hz]
 ·subst hx
  obtain ⟨r,g1,g2⟩:=findKey_ok hE hk hb2 (by decide) hi hent
  have hg:=Go.MapKept.run_getObj_map (P:=E.P) hheap
  rcases g2 with ⟨g2,rfl⟩ | ⟨i0,x,e0,g2,rfl,g3,g4,g5,_⟩
  ·refine ⟨z,.inl ⟨by simp only [Option.bind_some,g2],hzv⟩,hex _ ?_⟩
   rw [hout,ei]
   simp only [Instr.lookup,Sem.run_bind,run_underlying hun,Result.andThen_ok,hg,Sem.run_pure,hck,g1,hz]
   simp [hz]
  ·obtain ⟨ck,cv,f',q1,q2,q3,q4,q5⟩:=(entries_get hent).2 i0 x e0 g3 g4
   refine ⟨e0.val,.inr ⟨x.2,by simp only [Option.bind_some,g2],.inr ⟨cv,q4.share hq,by rw [q2]; rfl⟩⟩,hex _ ?_⟩
   rw [hout,ei]
   simp only [Instr.lookup,Sem.run_bind,run_underlying hun,Result.andThen_ok,hg,Sem.run_pure,hck,g1]
   simp
theorem lookupN_ok (hE:TTok E) (H:HR Z w sl hdr fp) {e:TypeId} {m i:Operand} {ok:Bool} {us:Ups} (ho:o.op=.lookup e m i ok) (hρ:∀ x,RelV Z w sl hdr fp (ρ x) (a.eval x)) (hh:lookupN E ρ sl e m i ok (fun m u=>some (m,u))=some (mv,us)):OpOK E o a w Z sl hdr fp mv (us.look sl):=by
 unfold lookupN at hh
 split at hh
 ·rename_i k v xs k' y hm hi
  have hh2:=cond_some hh
  clear hh
  obtain ⟨hb,hh⟩:=hh2
  simp only [Bool.and_eq_true,Bool.not_eq_true'] at hb
  obtain ⟨hb,rfl⟩:=hb
  split at hh
  ·rename_i ek
   subst ek
   split at hh
   ·rename_i z hz
    have gm:=hρ m
    have gi:=hρ i
    rw [hi] at gi
    rcases gm with gm | ⟨cm,gm,em⟩
    ·rw [gm] at hm; cases hm
    obtain ⟨val,h1,h2⟩:=lookup_core2 hE ho gi hb (xs:=xs) (by
     rcases map_rep H hm gm with ⟨hx,hout⟩ | ⟨b,es,n,l,q,f,hx,hout,h⟩
     ·exact .inl ⟨hx,em.trans hout⟩
     ·exact .inr ⟨b,es,n,l,q,f,hx,em.trans hout,h⟩)
    unfold oel at hh
    rcases h1 with ⟨h1,rfl⟩ | ⟨x,h1,h3⟩
    ·rw [h1] at hh
     simp only [Option.some.injEq,Prod.mk.injEq] at hh
     obtain ⟨rfl,rfl⟩:=hh
     exact .same H h2 (zmv_rel hz)
    ·rw [h1] at hh
     simp only [Option.some.injEq,Prod.mk.injEq] at hh
     obtain ⟨rfl,rfl⟩:=hh
     exact .same H h2 h3
   ·cases hh
  ·cases hh
 ·cases hh
theorem isZ_rel {t:Ty}:∀ {n:Nat} {mv:MV} {cs:List Value},isZ t n mv=true→RelC Z w sl hdr fp mv cs→cs.length=n∧∀ v∈cs,RelC Z w sl hdr fp (.nv t [] true) [v]
 | 0,.un,cs,_,h=>by
  have h:cs=[]:=h
  subst h
  exact ⟨rfl,fun v hv=>nomatch hv⟩
 | n+1,.pr (.nv t' x true) r,cs,hz,⟨c1,c2,e,h1,h2⟩=>by
  simp only [isZ,Bool.and_eq_true,decide_eq_true_eq] at hz
  obtain ⟨⟨rfl,hx⟩,hz⟩:=hz
  obtain ⟨i1,i2⟩:=isZ_rel hz h2
  have hx:(x:List t'.den)=[]:=List.isEmpty_iff.1 hx
  subst hx
  have h1':=h1
  obtain ⟨⟨A,cap,rfl,_⟩,_⟩:=h1
  subst e
  refine ⟨by simp [i1],fun v hv => ?_⟩
  simp only [List.cons_append,List.nil_append,List.mem_cons] at hv
  rcases hv with rfl | hv
  ·exact h1'
  ·exact i2 v hv
theorem isZ_out {t:Ty} {n:Nat}:∀ {mv:MV},isZ t n mv=true→∀ cs,mv.out cs=.agg cs.toArray:=by
 intro mv hz cs
 cases n <;> cases mv <;> first | (cases hz; done) | rfl
theorem indexZ_core (hE:TTok E) (H:HR Z w sl hdr fp) {e:TypeId} {x i:Operand} {n nb:Nat} {t:Ty} {k:IntKind} {m:Int} (ho:o.op=.index e x i) (hx:∃ cs,RelC Z w sl hdr fp (ρ x) cs∧a.eval x=(ρ x).out cs) (hi:RelV Z w sl hdr fp (.val (.int k) m) (a.eval i))
 (ht:E.tt e=some (.arr n (.sl t),nb)) (hz:isZ t n (ρ x)=true) (g0:0≤m) (g1:m<(n:Int)):OpOK E o a w Z sl hdr fp (.nv t [] true) (Ups.look [] sl):=by
 have hT:=hE _ _ _ ht
 obtain ⟨el,ne,hu,hel⟩:=hT.desc
 have hTe:=hE _ _ _ hel
 obtain ⟨cs,hr,he⟩:=hx
 obtain ⟨hl,hall⟩:=isZ_rel hz hr
 have he2:a.eval x=.agg cs.toArray:=by rw [he,isZ_out hz]
 have hlt:m.toNat<cs.length:=by omega
 have hsplit:cs=cs.take m.toNat++([cs[m.toNat]]++cs.drop (m.toNat+1)):=by
  rw [List.singleton_append,← List.drop_eq_getElem_cons hlt,List.take_append_drop]
 have hpl:(cs.take m.toNat).length=m.toNat*(Ty.sl t).size:=by rw [List.length_take]; simp only [Ty.size]; omega
 have hp:=run_part_ (E:=E) (w:=w) hTe (cs:=cs.take m.toNat++([cs[m.toNat]]++cs.drop (m.toNat+1))) (off:=m.toNat*(Ty.sl t).size) (by simp only [Ty.size,List.length_append,List.length_take,List.length_cons,List.length_nil]; omega)
 have hd:(cs.take m.toNat++([cs[m.toNat]]++cs.drop (m.toNat+1))).drop (m.toNat*(Ty.sl t).size)=[cs[m.toNat]]++cs.drop (m.toNat+1):=by
  rw [← hpl,List.drop_left]
 rw [hd,← hsplit] at hp
 have hrun:(execOp a.eval o).run E.P w=.ok (.value ((Ty.sl t).val [cs[m.toNat]])) w:=by
  unfold execOp; rw [ho]
  simp only [Sem.run_bind,Instr.index,he2,hi.int,asIntOf,Sem.run_pure,run_underlying hu,Result.andThen_ok,g0,g1,and_self,if_true,hTe.size w]
  simp only [Ty.size,Nat.mul_one] at hp ⊢
  have h1:List.take 1 (List.drop m.toNat cs)=[cs[m.toNat]]:=by rw [List.drop_eq_getElem_cons hlt]; rfl
  simp [hp,h1]
 exact .same H hrun (.inr ⟨[cs[m.toNat]],hall _ (List.getElem_mem hlt),rfl⟩)
theorem indexZ_ok (hE:TTok E) (H:HR Z w sl hdr fp) {e:TypeId} {x i:Operand} {us:Ups} (ho:o.op=.index e x i) (hρ:∀ x,RelV Z w sl hdr fp (ρ x) (a.eval x)) (hh:indexZ E ρ e x i (fun m u=>some (m,u))=some (mv,us)):OpOK E o a w Z sl hdr fp mv (us.look sl):=by
 unfold indexZ at hh
 split at hh
 ·rename_i n t nb ik m ht hi
  have hh2:=cond_some hh
  clear hh
  obtain ⟨hb,hh⟩:=hh2
  simp only [Bool.and_eq_true] at hb
  obtain ⟨⟨⟨hz,hag⟩,g0⟩,g1⟩:=hb
  simp only [Option.some.injEq,Prod.mk.injEq] at hh
  obtain ⟨rfl,rfl⟩:=hh
  have gi:=hρ i
  rw [hi] at gi
  rcases hρ x with hx | hx
  ·rw [hx] at hag; cases hag
  ·exact indexZ_core hE H ho hx gi ht hz (of_decide_eq_true g0) (of_decide_eq_true g1)
 ·cases hh
end
def isUnitT (E:Env) (e:TypeId):Bool :=
 match E.tt e with
 | some (.unit,_)=>true
 | _=>false
def isIfcT (E:Env) (e:TypeId):Bool :=
 match E.P.underlying e with
 | some (.interface _)=>true
 | _=>false
def isNilI:Operand→Bool
 | .const .nilIface=>true
 | _=>false
def ifcOf:MV→Option (TypeId × Bool)
 | .val (.ex (.ifc T _) .unit .unit) x=>match (x:Option (Unit ⊕ Unit)) with
  | none=>some (T,false)
  | some (.inl _)=>some (T,true)
  | _=>none
 | _=>none
def isUnitV:MV→Bool
 | .val .unit _=>true
 | _=>false
def isU (o:Oper):Bool :=
 match o.op with
 | .build _ _=>true
 | .makeInterface _ _=>true
 | .binOp _ _ _ _ _=>true
 | .typeAssert _ _ _ _=>true
 | _=>false
def opU {R:Type} (E:Env) (ρ:Operand→MV) (o:Oper) (K:MV→Ups→Option R):Option R :=
 match o.op with
 | .build e parts=>bif isUnitT E e && parts.isEmpty then K (.val .unit ()) [] else none
 | .makeInterface e x=>bif isUnitT E e && isUnitV (ρ x) then K (.val (.ex (.ifc e 0) .unit .unit) (some (.inl ()))) [] else none
 | .binOp .eql xt x y _=>bif isNilI y && isIfcT E xt then (match ifcOf (ρ x) with
  | some p=>K (.val .bool (!p.2)) []
  | none=>none) else none
 | .binOp .neq xt x y _=>bif isNilI y && isIfcT E xt then (match ifcOf (ρ x) with
  | some p=>K (.val .bool p.2) []
  | none=>none) else none
 | .typeAssert x _ T true=>match ifcOf (ρ x) with
  | some p=>bif p.2 && Nat.beq p.1 T && isUnitT E T then K (.tc (.val .unit ()) (.tc (.val .bool true) .tn)) [] else none
  | none=>none
 | _=>none
section
variable {E:Env} {R:Type} {o:Oper} {a:Act} {w:World} {Z:Bs} {sl:Nat→Option Slot} {hdr:Nat→Value} {fp:Nat→Bs} {mv:MV} {ρ:Operand→MV}
theorem opU_bind {K:MV→Ups→Option R}:opU E ρ o K=B2 (opU E ρ o S2) K:=by
 unfold opU
 split
 ·rename_i e parts ho
  cases (isUnitT E e && parts.isEmpty) <;> rfl
 ·rename_i e x ho
  cases (isUnitT E e && isUnitV (ρ x)) <;> rfl
 ·rename_i xt x y yt ho
  cases (isNilI y && isIfcT E xt) with
  | true =>
   simp only [cond_true]
   split <;> rfl
  | false=>rfl
 ·rename_i xt x y yt ho
  cases (isNilI y && isIfcT E xt) with
  | true =>
   simp only [cond_true]
   split <;> rfl
  | false=>rfl
 ·rename_i x xt T ho
  split
  ·rename_i p hp
   cases (p.2 && Nat.beq p.1 T && isUnitT E T) <;> rfl
  ·rfl
 ·rfl
theorem isUnitT_ok (hT:TTok E) {e:TypeId} (h:isUnitT E e=true):∃ n,TyOK E e .unit n:=by
 unfold isUnitT at h
 split at h
 ·rename_i n e1; exact ⟨n,hT _ _ _ e1⟩
 ·cases h
theorem ifcOf_ok {u:MV} {p:TypeId × Bool} (h:ifcOf u=some p) {v:Value} (hr:RelV Z w sl hdr fp u v):v=if p.2=true then .iface p.1 (.agg #[]) else .nilIface:=by
 unfold ifcOf at h
 split at h
 ·rename_i T j x
  rcases hr with h0 | ⟨cs,h1,h2⟩
  ·cases h0
  ·split at h
   ·obtain rfl:=Option.some.inj h
    rcases h1 with ⟨_,e⟩ | ⟨v,ks,e,_,_⟩ | ⟨v,ks,e,_,_⟩
    ·rw [h2,e]; rfl
    ·cases e
    ·cases e
   ·obtain rfl:=Option.some.inj h
    rcases h1 with ⟨e,_⟩ | ⟨v,ks,e,e2,e3⟩ | ⟨v,ks,e,_,_⟩
    ·cases e
    ·rw [h2,e2,show ks=[] from e3]; rfl
    ·cases e
   ·cases h
 ·cases h
theorem isIfcT_ok {e:TypeId} (h:isIfcT E e=true):∃ ms,E.P.underlying e=some (.interface ms):=by
 unfold isIfcT at h
 split at h
 ·rename_i ms e1; exact ⟨ms,e1⟩
 ·cases h
theorem eqI_nil {P:Program} {t:TypeId} {ms:_} (h:P.underlying t=some (.interface ms)) (d:Nat):(Op.equalIn (d+1) t .nilIface .nilIface).run P w=.ok true w:=by
 unfold Op.equalIn
 simp only [Sem.run_bind,run_underlying h,Result.andThen_ok,Sem.run_pure]
theorem eqI_ifc {P:Program} {t T:TypeId} {v:Value} {ms:_} (h:P.underlying t=some (.interface ms)) (d:Nat):(Op.equalIn (d+1) t (.iface T v) .nilIface).run P w=.ok false w:=by
 unfold Op.equalIn
 simp only [Sem.run_bind,run_underlying h,Result.andThen_ok,Sem.run_pure]
theorem relV_unit:RelV Z w sl hdr fp (.val .unit ()) (.agg #[]):=.inr ⟨[],rfl,rfl⟩
theorem opU_ok (hT:TTok E) (H:HR Z w sl hdr fp) {us:Ups} (hρ:∀ x,RelV Z w sl hdr fp (ρ x) (a.eval x)) (hh:opU E ρ o (fun m u=>some (m,u))=some (mv,us)):OpOK E o a w Z sl hdr fp mv (us.look sl):=by
 unfold opU at hh
 split at hh
 ·rename_i e parts ho
  obtain ⟨hb,hh⟩:=cond_some hh
  simp only [Option.some.injEq,Prod.mk.injEq] at hh
  obtain ⟨rfl,rfl⟩:=hh
  simp only [Bool.and_eq_true] at hb
  obtain ⟨n,ht⟩:=isUnitT_ok hT hb.1
  obtain ⟨fs,hu,hf⟩:∃ fs,E.P.underlying e=some (.struct fs)∧Fields E.tt fs.toList .unit 0:=ht.desc
  have hfs:fs = #[]:=by
   cases hl:fs.toList with
   | nil=>exact Array.toList_inj.1 (by rw [hl])
   | cons f l=>rw [hl] at hf; exact hf.elim
  subst hfs
  obtain ⟨i,z,i1,i2,_,i4,i5⟩:=ht.info
  have hz:=ht.zv i z i1 i4
  have hp:parts = #[]:=Array.toList_inj.1 (by simpa using hb.2)
  subst hp
  refine .same H (v:=.agg #[]) ?_ relV_unit
  unfold execOp; rw [ho]
  have hmp:(Array.map (fun x:Nat × Operand=>(x.fst,a.eval x.snd)) #[]).toList=[]:=by simp
  have hm:∀ f:Field→Sem (Nat × Nat),Array.mapM f (#[]:Array Field)=pure #[]:=fun f=>by simp
  simp only [Instr.build,Sem.run_bind,zeroValue,typeInfo,run_program,Result.andThen_ok,i1,i4,Sem.run_pure,run_underlying hu,hz,hm,hmp]
  rfl
 ·rename_i e x ho
  obtain ⟨hb,hh⟩:=cond_some hh
  simp only [Option.some.injEq,Prod.mk.injEq] at hh
  obtain ⟨rfl,rfl⟩:=hh
  simp only [Bool.and_eq_true] at hb
  obtain ⟨n,ht⟩:=isUnitT_ok hT hb.1
  obtain ⟨fs,hu,hf⟩:∃ fs,E.P.underlying e=some (.struct fs)∧Fields E.tt fs.toList .unit 0:=ht.desc
  have hx:a.eval x=.agg #[]:=by
   have h1:=hb.2
   have h2:=hρ x
   unfold isUnitV at h1
   split at h1
   ·rename_i u hu'
    rw [hu'] at h2
    rcases h2 with h0 | ⟨cs,h3,h4⟩
    ·cases h0
    ·rw [h4,show cs=[] from h3]; rfl
   ·cases h1
  refine .same H (v:=.iface e (.agg #[])) ?_ (.inr ⟨[.iface e (.agg #[])],.inr (.inl ⟨(),[],rfl,rfl,rfl⟩),rfl⟩)
  unfold execOp; rw [ho]
  simp only [Instr.makeInterface,Sem.run_bind,run_underlying hu,Result.andThen_ok,hx,Sem.run_pure]
 ·rename_i xt x y yt ho
  obtain ⟨hb,hh⟩:=cond_some hh
  split at hh
  ·rename_i p hp
   simp only [Option.some.injEq,Prod.mk.injEq] at hh
   obtain ⟨rfl,rfl⟩:=hh
   have hx:=ifcOf_ok hp (hρ x)
   simp only [Bool.and_eq_true] at hb
   obtain ⟨hb1,hb2⟩:=hb
   have hy:y=.const .nilIface:=by
    unfold isNilI at hb1
    split at hb1
    ·rfl
    ·cases hb1
   subst hy
   refine .same H (v:=.bool (!p.2)) ?_ (relV_bool _)
   unfold execOp; rw [ho]
   obtain ⟨ms,hi⟩:=isIfcT_ok hb2
   cases hp2:p.2 with
   | true =>
    rw [hp2,if_pos rfl] at hx
    have e1:(binOp .eql xt (.iface p.1 (.agg #[])) .nilIface).run E.P w=.ok (.bool false) w:=by
     show (do pure (.bool (← Op.equal xt (.iface p.1 (.agg #[])) .nilIface)):Sem Value).run E.P w=_
     simp only [Sem.run_bind,show Op.equal xt (.iface p.1 (.agg #[])) .nilIface=Op.equalIn (9999+1) xt (.iface p.1 (.agg #[])) .nilIface from rfl,eqI_ifc hi 9999,Result.andThen_ok,Sem.run_pure]
     try rfl
    have e2:(eqGuard .eql xt x (.const .nilIface) (.iface p.1 (.agg #[])) .nilIface).run E.P w=.ok () w:=rfl
    simp only [hx,show a.eval (.const .nilIface)=.nilIface from rfl,Sem.run_bind,e1,e2,Result.andThen_ok,Sem.run_pure]
    try rfl
   | false =>
    rw [hp2,if_neg (by decide)] at hx
    have e1:(binOp .eql xt .nilIface .nilIface).run E.P w=.ok (.bool true) w:=by
     show (do pure (.bool (← Op.equal xt .nilIface .nilIface)):Sem Value).run E.P w=_
     simp only [Sem.run_bind,show Op.equal xt .nilIface .nilIface=Op.equalIn (9999+1) xt .nilIface .nilIface from rfl,eqI_nil hi 9999,Result.andThen_ok,Sem.run_pure]
     try rfl
    have e2:(eqGuard .eql xt x (.const .nilIface) .nilIface .nilIface).run E.P w=.ok () w:=by
     unfold eqGuard
     cases x <;> rfl
    simp only [hx,show a.eval (.const .nilIface)=.nilIface from rfl,Sem.run_bind,e1,e2,Result.andThen_ok,Sem.run_pure]
    try rfl
  ·cases hh
 ·rename_i xt x y yt ho
  obtain ⟨hb,hh⟩:=cond_some hh
  split at hh
  ·rename_i p hp
   simp only [Option.some.injEq,Prod.mk.injEq] at hh
   obtain ⟨rfl,rfl⟩:=hh
   have hx:=ifcOf_ok hp (hρ x)
   simp only [Bool.and_eq_true] at hb
   obtain ⟨hb1,hb2⟩:=hb
   have hy:y=.const .nilIface:=by
    unfold isNilI at hb1
    split at hb1
    ·rfl
    ·cases hb1
   subst hy
   refine .same H (v:=.bool p.2) ?_ (relV_bool _)
   unfold execOp; rw [ho]
   obtain ⟨ms,hi⟩:=isIfcT_ok hb2
   cases hp2:p.2 with
   | true =>
    rw [hp2,if_pos rfl] at hx
    have e1:(binOp .neq xt (.iface p.1 (.agg #[])) .nilIface).run E.P w=.ok (.bool true) w:=by
     show (do pure (.bool (!(← Op.equal xt (.iface p.1 (.agg #[])) .nilIface))):Sem Value).run E.P w=_
     simp only [Sem.run_bind,show Op.equal xt (.iface p.1 (.agg #[])) .nilIface=Op.equalIn (9999+1) xt (.iface p.1 (.agg #[])) .nilIface from rfl,eqI_ifc hi 9999,Result.andThen_ok,Sem.run_pure]
     try rfl
    have e2:(eqGuard .neq xt x (.const .nilIface) (.iface p.1 (.agg #[])) .nilIface).run E.P w=.ok () w:=rfl
    simp only [hx,show a.eval (.const .nilIface)=.nilIface from rfl,Sem.run_bind,e1,e2,Result.andThen_ok,Sem.run_pure]
    try rfl
   | false =>
    rw [hp2,if_neg (by decide)] at hx
    have e1:(binOp .neq xt .nilIface .nilIface).run E.P w=.ok (.bool false) w:=by
     show (do pure (.bool (!(← Op.equal xt .nilIface .nilIface))):Sem Value).run E.P w=_
     simp only [Sem.run_bind,show Op.equal xt .nilIface .nilIface=Op.equalIn (9999+1) xt .nilIface .nilIface from rfl,eqI_nil hi 9999,Result.andThen_ok,Sem.run_pure]
     try rfl
    have e2:(eqGuard .neq xt x (.const .nilIface) .nilIface .nilIface).run E.P w=.ok () w:=by
     unfold eqGuard
     cases x <;> rfl
    simp only [hx,show a.eval (.const .nilIface)=.nilIface from rfl,Sem.run_bind,e1,e2,Result.andThen_ok,Sem.run_pure]
    try rfl
  ·cases hh
 ·rename_i x xt T ho
  split at hh
  ·rename_i p hp
   obtain ⟨hb,hh⟩:=cond_some hh
   simp only [Option.some.injEq,Prod.mk.injEq] at hh
   obtain ⟨rfl,rfl⟩:=hh
   simp only [Bool.and_eq_true] at hb
   obtain ⟨⟨hb1,hb2⟩,hb3⟩:=hb
   have hx:=ifcOf_ok hp (hρ x)
   rw [hb1,if_pos rfl,Nat.eq_of_beq_eq_true hb2] at hx
   obtain ⟨n,ht⟩:=isUnitT_ok hT hb3
   obtain ⟨fs,hu,hf⟩:∃ fs,E.P.underlying T=some (.struct fs)∧Fields E.tt fs.toList .unit 0:=ht.desc
   refine .same H (v:=.tuple #[.agg #[],.bool true]) ?_ (.inr ⟨[.agg #[],.bool true],⟨[],.agg #[],[.bool true],rfl,.inr ⟨rfl,rfl⟩,⟨[.bool true],.bool true,[],rfl,.inr ⟨rfl,rfl⟩,rfl⟩⟩,rfl⟩)
   unfold execOp; rw [ho]
   simp only [Instr.typeAssert,Sem.run_bind,run_underlying hu,Result.andThen_ok,hx,if_true,Sem.run_pure]
  ·cases hh
 ·cases hh
end
end Go.Proofs.YtibphkgcdnconaaGreat.V
