/- Values held against each other. -/
import Derived.Laws.StructEq
import Derived.Laws.Pointers
import Derived.Test.YtibphkgcdnconaaVP
namespace Go.Proofs.Ytibphkgcdnconaa.V
open Go
set_option linter.unusedVariables false
set_option linter.all false
section
variable {E : Env} {o : Oper} {a : Act} {w : World} {Z : Bs} {sl : Nat → Option Slot} {hdr : Nat → Value} {fp : Nat → Bs} {mv : MV}
def EqOK (E : Env) (d : Nat) (e : TypeId) (t : Ty) : Prop := ∀ (Z : Bs) (w : World) (m m' : Mk) (x y : t.den) (f g : Bs) (c1 c2 : List Value), Rep Z w t m x f c1 → Rep Z w t m' y g c2 → (Op.equalIn d e (t.val c1) (t.val c2)).run E.P w = .ok (eqV t x y) w
theorem eqFields_ok {d : Nat} (hE : TTok E) : ∀ {fs : List Field} {t : Ty} {off : Nat}, Fields E.tt fs t off → (∀ f ∈ fs, f.name ≠ "_" ∧ ∀ t n, E.tt f.type = some (t, n) → EqOK E d f.type t) →
    ∀ (Z : Bs) (w : World) (m m' : Mk) (x y : t.den) (f g : Bs) (c1 c2 p1 p2 : List Value), p1.length = off → p2.length = off → Rep Z w t m x f c1 → Rep Z w t m' y g c2 → (Op.eqFields d (p1 ++ c1).toArray (p2 ++ c2).toArray fs).run E.P w = .ok (eqV t x y) w
  | [], t, off, h, _ => by
    cases t with
    | unit => intro Z w m m' x y f g c1 c2 p1 p2 _ _ _ _; rfl
    | _ => cases h
  | f0 :: fs, t, off, h, hq => by
    cases t with
    | pair ta tb =>
      obtain ⟨h1, ⟨n, h2⟩, h3⟩ := h
      intro Z w m m' x y f g c1 c2 p1 p2 l1 l2 r1 r2
      obtain ⟨ca, cb, f1, f2, rfl, ra, rb, _⟩ := r1
      obtain ⟨da, db, g1, g2, rfl, sa, sb, _⟩ := r2
      obtain ⟨hname, he⟩ := hq f0 (by simp)
      have hT := hE _ _ _ h2
      have part1 : ∀ {p ca cb : List Value} {m : Mk} {x : ta.den} {f : Bs}, p.length = off → Rep Z w ta m x f ca → (part f0.type (p ++ (ca ++ cb)).toArray f0.offset).run E.P w = .ok (ta.val ca) w := by
        intro p ca cb m x f hp hr
        have := run_part_ (E := E) (w := w) hT (cs := p ++ (ca ++ cb)) (off := off) (by simp [hp, hr.len])
        rw [h1, this]
        rw [← hp, List.drop_left, ← hr.len, List.take_left]
      simp only [Op.eqFields, if_pos hname, Sem.run_bind, part1 l1 ra, part1 l2 sa, Result.andThen_ok, he _ _ h2 _ _ _ _ _ _ _ _ _ _ ra sa]
      have ih := eqFields_ok hE h3 (fun f hf => hq f (by simp [hf])) _ _ _ _ _ _ _ _ _ _ (p1 ++ ca) (p2 ++ da) (by simp [l1, ra.len]) (by simp [l2, sa.len]) rb sb
      rw [List.append_assoc, List.append_assoc] at ih
      show _ = Result.ok (eqV ta x.1 y.1 && eqV tb x.2 y.2) w
      cases hb : eqV ta x.1 y.1 with
      | false => simp
      | true => simp only [Bool.not_true, Bool.false_eq_true, if_false, Bool.true_and]; exact ih
    | _ => cases h
theorem fieldsOf_eq {P : Program} {e : TypeId} {fs : Array Field} (h : P.underlying e = some (.struct fs)) : P.fieldsOf e = fs := by simp [Program.fieldsOf, h]
theorem equalIn_ok (hE : TTok E) : ∀ (n : Nat) {e : TypeId} {t : Ty} {nb : Nat} (d : Nat), E.tt e = some (t, nb) → eqT E n e = true → n ≤ d → EqOK E d e t
  | 0, _, _, _, _, _, h, _ => by cases h
  | n + 1, e, t, nb, 0, _, _, h => absurd h (Nat.not_succ_le_zero _)
  | n + 1, e, t, nb, d + 1, ht, hq, hd => by
    have hT := hE _ _ _ ht
    have hdesc := hT.desc
    simp only [eqT, ht] at hq
    have st : ∀ {t : Ty}, t.agg = true → E.tt e = some (t, nb) → (∃ fs, E.P.underlying e = some (.struct fs) ∧ Fields E.tt fs.toList t 0) → (match E.P.underlying e with
        | some (.struct fs) => !E.P.stoodInHeld e && fs.toList.all (fun f => f.name != "_" && eqT E n f.type)
        | _ => false) = true → EqOK E (d + 1) e t := by
      intro t hag ht ⟨fs, hu, hf⟩ hq
      rw [hu] at hq
      simp only [Bool.and_eq_true, Bool.not_eq_true', List.all_eq_true, bne_iff_ne, ne_eq] at hq
      intro Z w m m' x y f g c1 c2 r1 r2
      have key := eqFields_ok hE hf (fun f hf => ⟨(hq.2 f hf).1, fun t n' htt => equalIn_ok hE n d htt (hq.2 f hf).2 (Nat.le_of_succ_le_succ hd)⟩) _ _ _ _ _ _ _ _ _ _ [] [] rfl rfl r1 r2
      have hfs := fieldsOf_eq hu
      simp only [Ty.val, hag, cond_true]
      rw [run_equalIn_struct w d e c1.toArray c2.toArray (by rw [hfs]; exact hu) hq.1, hfs]
      exact key
    cases t with
    | bool =>
      intro Z w m m' x y f g c1 c2 r1 r2
      rw [show c1 = [.bool x] from r1, show c2 = [.bool y] from r2]
      exact run_equalIn_bool w d e x y hdesc
    | int k =>
      intro Z w m m' x y f g c1 c2 r1 r2
      rw [show c1 = [.int k x] from r1, show c2 = [.int k y] from r2]
      have := run_equalIn_int w d e k k x y hdesc
      rw [int_beq] at this
      exact this
    | str =>
      intro Z w m m' x y f g c1 c2 r1 r2
      rw [show c1 = [.string x] from r1, show c2 = [.string y] from r2]
      exact run_equalIn_string w d e x y hdesc
    | unit => exact st rfl ht hdesc hq
    | pair ta tb => exact st rfl ht hdesc hq
    | arr l t =>
      obtain ⟨el, n2, hu, hel⟩ := hdesc
      rw [hu] at hq
      simp only at hq
      have ih := equalIn_ok hE n d hel hq (Nat.le_of_succ_le_succ hd)
      have hTe := hE _ _ _ hel
      intro Z w m m' xs ys f g c1 c2 r1 r2
      obtain ⟨hl1, i1⟩ := r1
      obtain ⟨hl2, i2⟩ := r2
      simp only [Ty.val, Ty.agg, cond_true, Op.equalIn, Sem.run_bind, run_underlying hu, Result.andThen_ok, hTe.size w]
      have loop : ∀ (F : Option Bool × Unit → Sem Bool), F (none, ()) = pure true → (∀ b, F (some b, ()) = pure b) → ∀ (k : Nat) (xs ys : List t.den) (f g : Bs) (p1 c1 p2 c2 : List Value), xs.length = k → ys.length = k → p1.length = (l - k) * t.size → p2.length = (l - k) * t.size → k ≤ l → Inline (fun x f c => Rep Z w t m x f c) xs f c1 → Inline (fun x f c => Rep Z w t m' x f c) ys g c2 →
          Sem.run E.P (do
            let r ← forIn (m := Sem) (List.range' (l - k) k) ((none, ()) : Option Bool × Unit) (fun i r => do
              let u ← part el (p1 ++ c1).toArray (i * t.size)
              let v ← part el (p2 ++ c2).toArray (i * t.size)
              let b ← Op.equalIn d el u v
              if (!b) = true then pure (ForInStep.done (some false, ())) else pure (ForInStep.yield (none, ())))
            F r) w = .ok (xs.zip ys |>.all fun p => eqV t p.1 p.2) w := by
        intro F hF1 hF2 k
        induction k with
        | zero =>
          intro xs ys f g p1 c1 p2 c2 h1 h2 _ _ _ _ _
          obtain rfl := List.length_eq_zero_iff.1 h1
          simp [hF1]
        | succ k ih2 =>
          intro xs ys f g p1 c1 p2 c2 h1 h2 q1 q2 hk j1 j2
          cases xs with
          | nil => simp at h1
          | cons x xs =>
            cases ys with
            | nil => simp at h2
            | cons y ys =>
              obtain ⟨ca, cb, f1, f2, rfl, ra, rb, _⟩ := j1
              obtain ⟨da, db, g1, g2, rfl, sa, sb, _⟩ := j2
              have hidx : (l - (k + 1)) + 1 = l - k := by omega
              have part1 : ∀ {p ca cb : List Value} {m : Mk} {x : t.den} {f : Bs}, p.length = (l - (k + 1)) * t.size → Rep Z w t m x f ca → (part el (p ++ (ca ++ cb)).toArray ((l - (k + 1)) * t.size)).run E.P w = .ok (t.val ca) w := by
                intro p ca cb m x f hp hr
                have := run_part_ (E := E) (w := w) hTe (cs := p ++ (ca ++ cb)) (off := (l - (k + 1)) * t.size) (by simp [hp, hr.len])
                rw [this, ← hp, List.drop_left, ← hr.len, List.take_left]
              rw [List.range'_succ, List.forIn_cons]
              simp only [Sem.run_bind, part1 q1 ra, part1 q2 sa, Result.andThen_ok, ih _ _ _ _ _ _ _ _ _ _ ra sa]
              simp only [List.zip_cons_cons, List.all_cons]
              cases hb : eqV t x y with
              | false => simp [hF2]
              | true =>
                simp only [Bool.not_true, Bool.false_eq_true, if_false, Sem.run_pure, Result.andThen_ok, Bool.true_and]
                have hp : ∀ {p ca : List Value} {m : Mk} {x : t.den} {f : Bs}, p.length = (l - (k + 1)) * t.size → Rep Z w t m x f ca → (p ++ ca).length = (l - k) * t.size := by
                  intro p ca m x f hp hr
                  rw [List.length_append, hp, hr.len, ← hidx, Nat.succ_mul]
                have := ih2 xs ys f2 g2 (p1 ++ ca) cb (p2 ++ da) db (by simpa using h1) (by simpa using h2) (hp q1 ra) (hp q2 sa) (by omega) rb sb
                rw [List.append_assoc, List.append_assoc] at this
                rw [hidx]
                simpa only [Sem.run_bind] using this
      simp only [Std.Legacy.Range.forIn_eq_forIn_range', Std.Legacy.Range.size, Nat.sub_zero, Nat.add_one_sub_one, Nat.div_one]
      have this := fun F h1 h2 => loop F h1 h2 l xs ys f g [] c1 [] c2 hl1 hl2 (by simp) (by simp) (Nat.le_refl _) i1 i2
      simp only [Nat.sub_self, List.nil_append, Sem.run_bind] at this
      exact this _ rfl (fun _ => rfl)
    | sl t => cases hq
    | mp k v => cases hq
    | ex k a b => cases hq
theorem eqK_ok (hE : TTok E) {op : BinOp} {xt yt : TypeId} {x y : Operand} {m1 m2 : MV} {us : Ups} (H : HR Z w sl hdr fp) (ho : o.op = .binOp op xt x y yt) (hx : RelV Z w sl hdr fp m1 (a.eval x)) (hy : RelV Z w sl hdr fp m2 (a.eval y))
    (h : eqK E xt op m1 m2 (fun m u => some (m, u)) = some (mv, us)) : OpOK E o a w Z sl hdr fp mv (us.look sl) := by
  unfold eqK at h
  split at h
  · rename_i a1 b1 u t' v
    obtain ⟨hb, h⟩ := cond_some h
    simp only [Bool.and_eq_true, Bool.not_eq_true'] at hb
    obtain ⟨⟨hb1, hb2⟩, hb3⟩ := hb
    split at h
    · rename_i e
      subst e
      have ht : ∃ nb, E.tt xt = some (.pair a1 b1, nb) := by
        split at hb1
        · rename_i t n e; obtain rfl := of_decide_eq_true hb1; exact ⟨n, e⟩
        · cases hb1
      obtain ⟨nb, ht⟩ := ht
      have hq := equalIn_ok hE 100 10000 ht hb2 (by decide)
      rcases hx with hx | ⟨c1, r1, e1⟩
      · cases hx
      rcases hy with hy | ⟨c2, r2, e2⟩
      · cases hy
      have hr := hq _ _ _ _ _ _ _ _ _ _ r1 r2
      have e1 : a.eval x = .agg c1.toArray := e1
      have e2 : a.eval y = .agg c2.toArray := e2
      have hr : (Op.equalIn 10000 xt (.agg c1.toArray) (.agg c2.toArray)).run E.P w = .ok (eqV (.pair a1 b1) u v) w := hr
      have key : ∀ v, (do eqGuard op xt x y (a.eval x) (a.eval y); binOp op xt (a.eval x) (a.eval y) : Sem Value).run E.P w = .ok v w → (execOp a.eval o).run E.P w = .ok (.value v) w := by
        intro v hv
        unfold execOp
        rw [ho]
        simp only [Sem.run_bind] at hv ⊢
        rw [hv]; rfl
      split at h
      · simp only [Option.some.injEq, Prod.mk.injEq] at h
        obtain ⟨rfl, rfl⟩ := h
        refine .same H (key (.bool (eqV (.pair a1 b1) u v)) ?_) (relV_bool _)
        rw [e1, e2]
        simp only [Sem.run_bind, run_eqGuard_agg w _ _ _ _ _ _ hb3, Result.andThen_ok, run_eql_struct, hr]
      · simp only [Option.some.injEq, Prod.mk.injEq] at h
        obtain ⟨rfl, rfl⟩ := h
        refine .same H (key (.bool (!eqV (.pair a1 b1) u v)) ?_) (relV_bool _)
        rw [e1, e2]
        simp only [Sem.run_bind, run_eqGuard_agg w _ _ _ _ _ _ hb3, Result.andThen_ok, run_neq_struct, hr]
      · cases h
    · cases h
  · rename_i a1 b1 u a2 b2 v
    obtain ⟨hb, h⟩ := cond_some h
    obtain ⟨nb, hT⟩ := tyB_ok hE hb
    obtain ⟨el, n2, hu, _⟩ := hT.desc
    have key : ∀ v, (do eqGuard op xt x y (a.eval x) (a.eval y); binOp op xt (a.eval x) (a.eval y) : Sem Value).run E.P w = .ok v w → (execOp a.eval o).run E.P w = .ok (.value v) w := by
      intro v hv
      unfold execOp
      rw [ho]
      simp only [Sem.run_bind] at hv ⊢
      rw [hv]; rfl
    split at h
    · rename_i ev
      rcases hy with hy | ⟨c2, r2, e2⟩
      · cases hy
      have hy : a.eval y = .pointer none := by
        rcases r2 with ⟨_, r2⟩ | ⟨_, _, _, _, r2, _⟩
        · rw [e2, r2]; rfl
        · cases r2
      have hx : ∃ q : Option Addr, a.eval x = .pointer q ∧ (q.isNone = Option.isNone u) := by
        rcases hx with hx | ⟨c1, r1, e1⟩
        · cases hx
        rcases r1 with ⟨r0, r1⟩ | ⟨v0, b0, o0, ks, r0, r1, _⟩
        · exact ⟨none, by rw [e1, r1]; rfl, by rw [r0]; rfl⟩
        · exact ⟨some ⟨b0, o0, none⟩, by rw [e1, r1]; rfl, by rw [r0]; rfl⟩
      obtain ⟨q, hq1, hq2⟩ := hx
      have hg : ∀ op, (eqGuard op xt x y (.pointer q) (.pointer none)).run E.P w = .ok () w := by intro op; cases op <;> rfl
      have hpp : E.P.underlying xt = some (.pointer (E.P.pointee xt)) := by simp [Program.pointee, hu]
      split at h
      · simp only [Option.some.injEq, Prod.mk.injEq] at h
        obtain ⟨rfl, rfl⟩ := h
        refine .same H (key (.bool (Option.isNone u)) ?_) (relV_bool _)
        rw [hq1, hy]
        simp only [Sem.run_bind, hg, Result.andThen_ok, run_eql_pointer_nil w xt q hpp, hq2]
      · simp only [Option.some.injEq, Prod.mk.injEq] at h
        obtain ⟨rfl, rfl⟩ := h
        refine .same H (key (.bool (!Option.isNone u)) ?_) (relV_bool _)
        rw [hq1, hy]
        simp only [Sem.run_bind, hg, Result.andThen_ok, run_neq_pointer_nil w xt q hpp, hq2]
      · cases h
    · cases h
  · exact bin_ok hE H ho hx hy h
theorem run_equalIn_nil_ {P : Program} {w : World} {t e : TypeId} {A : Option Addr} {l c : Nat} (d : Nat) (h : P.underlying t = some (.slice e)) : (Op.equalIn (d + 1) t (.slice A l c) (.slice none 0 0)).run P w = .ok A.isNone w := by
  cases A <;> simp [Op.equalIn, run_underlying h]
theorem run_equal_nil_ {P : Program} {w : World} {t e : TypeId} {A : Option Addr} {l c : Nat} (h : P.underlying t = some (.slice e)) : (Op.equal t (.slice A l c) (.slice none 0 0)).run P w = .ok A.isNone w := run_equalIn_nil_ 9999 h
theorem run_eql_nil_ {P : Program} {w : World} {t e : TypeId} {A : Option Addr} {l c : Nat} (h : P.underlying t = some (.slice e)) : (binOp .eql t (.slice A l c) (.slice none 0 0)).run P w = .ok (.bool A.isNone) w := by
  simp only [binOp]
  simp [run_equal_nil_ h]
theorem run_neq_nil_ {P : Program} {w : World} {t e : TypeId} {A : Option Addr} {l c : Nat} (h : P.underlying t = some (.slice e)) : (binOp .neq t (.slice A l c) (.slice none 0 0)).run P w = .ok (.bool (!A.isNone)) w := by
  simp only [binOp]
  simp [run_equal_nil_ h]
theorem nilK_ok (hE : TTok E) {op : BinOp} {xt yt : TypeId} {x y : Operand} {m1 : MV} {us : Ups} (H : HR Z w sl hdr fp) (ho : o.op = .binOp op xt x y yt) (hx : RelV Z w sl hdr fp m1 (a.eval x)) (hy : isNilC y = true)
    (h : nilK E xt op m1 (fun m u => some (m, u)) = some (mv, us)) : OpOK E o a w Z sl hdr fp mv (us.look sl) := by
  have hye : a.eval y = .slice none 0 0 := by
    unfold isNilC at hy
    split at hy
    · rfl
    · cases hy
  unfold nilK at h
  split at h
  · rename_i t u b0
    obtain ⟨hb, h⟩ := cond_some h
    obtain ⟨nb, hT⟩ := tyB_ok hE hb
    obtain ⟨el, n2, hu, _⟩ := hT.desc
    rcases hx with hx | ⟨c1, ⟨⟨A, cap, rfl, _⟩, r2⟩, e1⟩
    · cases hx
    have hA := r2 A _ _ rfl
    have hx : a.eval x = .slice A u.length cap := e1
    have hr : ∀ op, op = .eql ∨ op = .neq → (do eqGuard op xt x y (a.eval x) (a.eval y); binOp op xt (a.eval x) (a.eval y) : Sem Value).run E.P w = .ok (.bool (match op with | .eql => b0 | _ => !b0)) w := by
      intro op hop
      rw [hx, hye]
      have hg : (eqGuard op xt x y (.slice A u.length cap) (.slice none 0 0)).run E.P w = .ok () w := by cases op <;> rfl
      rcases hop with rfl | rfl
      · simp only [Sem.run_bind, hg, Result.andThen_ok, run_eql_nil_ hu, hA]
      · simp only [Sem.run_bind, hg, Result.andThen_ok, run_neq_nil_ hu, hA]
    have key : ∀ v, (do eqGuard op xt x y (a.eval x) (a.eval y); binOp op xt (a.eval x) (a.eval y) : Sem Value).run E.P w = .ok v w → (execOp a.eval o).run E.P w = .ok (.value v) w := by
      intro v hv
      unfold execOp
      rw [ho]
      simp only [Sem.run_bind] at hv ⊢
      rw [hv]; rfl
    split at h
    · simp only [Option.some.injEq, Prod.mk.injEq] at h
      obtain ⟨rfl, rfl⟩ := h
      exact .same H (key _ (hr _ (.inl rfl))) (relV_bool _)
    · simp only [Option.some.injEq, Prod.mk.injEq] at h
      obtain ⟨rfl, rfl⟩ := h
      exact .same H (key _ (hr _ (.inr rfl))) (relV_bool _)
    · cases h
  · cases h
end
end Go.Proofs.Ytibphkgcdnconaa.V
