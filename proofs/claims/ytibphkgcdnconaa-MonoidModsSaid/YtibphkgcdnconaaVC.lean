/- Places inside of a value, continued: the value that is written at a place. -/
import Derived.Test.YtibphkgcdnconaaVB
namespace Go.Proofs.Ytibphkgcdnconaa.V
open Go
set_option linter.unusedVariables false
set_option linter.all false
theorem Inline.at_ {α : Type} {R : α → Bs → List Value → Prop} {n : Nat} (hn : ∀ x f c, R x f c → c.length = n) : ∀ {xs : List α} {fp : Bs} {cs : List Value} {i : Nat} {x : α}, Inline R xs fp cs → xs[i]? = some x →
    ∃ fi ci pre post, cs = pre ++ (ci ++ post) ∧ pre.length = i * n ∧ R x fi ci ∧ (∀ k, fi k → fp k) ∧
      ∀ (R' : α → Bs → List Value → Prop) (x' : α) (ci' : List Value) (fi' : Bs), (∀ y f c, (∀ k, f k → fp k ∧ ¬ fi k) → R y f c → R' y f c) → R' x' fi' ci' → (∀ k, fi' k → fp k → fi k) →
        Inline R' (xs.set i x') (fun k => (fp k ∧ ¬ fi k) ∨ fi' k) (pre ++ (ci' ++ post))
  | [], _, _, _, _, _, hx => by simp at hx
  | y :: xs, fp, cs, 0, x, ⟨c1, c2, f1, f2, e, r, i, a, b, d⟩, hx => by
    obtain rfl : y = x := by simpa using hx
    refine ⟨f1, c1, [], c2, by simpa using e, by simp, r, a, fun R' x' ci' fi' hR hr hf => ?_⟩
    refine ⟨ci', c2, fi', f2, rfl, hr, ?_, fun k hk => .inr hk, fun k hk => .inl ⟨b k hk, fun h => d k h hk⟩, fun k h1 h2 => d k (hf k h1 (b k h2)) h2⟩
    exact Inline.keep (fun x f c hf hr => hR _ _ _ (fun k hk => ⟨b k (hf k hk), fun h => d k h (hf k hk)⟩) hr) i
  | y :: xs, fp, cs, i + 1, x, ⟨c1, c2, f1, f2, e, r, i', a, b, d⟩, hx => by
    obtain ⟨fi, ci, pre, post, e2, hl, hr, hs, hput⟩ := Inline.at_ hn i' (by simpa using hx)
    refine ⟨fi, ci, c1 ++ pre, post, by rw [e, e2, List.append_assoc], by rw [List.length_append, hn _ _ _ r, hl, Nat.succ_mul]; omega, hr, fun k hk => b k (hs k hk), fun R' x' ci' fi' hR hr' hf => ?_⟩
    refine ⟨c1, pre ++ (ci' ++ post), f1, fun k => (f2 k ∧ ¬ fi k) ∨ fi' k, by rw [List.append_assoc], hR _ _ _ (fun k hk => ⟨a k hk, fun h => d k hk (hs k h)⟩) r,
      hput R' x' ci' fi' (fun y f c hf' => hR y f c (fun k hk => ⟨b k (hf' k hk).1, (hf' k hk).2⟩)) hr' (fun k h1 h2 => hf k h1 (b k h2)),
      fun k hk => .inl ⟨a k hk, fun h => d k hk (hs k h)⟩, fun k hk => hk.imp (fun h => ⟨b k h.1, h.2⟩) id, fun k h1 h2 => ?_⟩
    rcases h2 with h2 | h2
    · exact d k h1 h2.1
    · exact d k h1 (hs k (hf k h2 (a k h1)))
theorem setP_set {t : Ty} {xs : List t.den} {i : Nat} {p : Path} {d : Dyn} {x : t.den} (h : tyP t p = some d.1) (hx : xs[i]? = some x) : (setP (.sl t) xs (.el i :: p) d : List t.den) = xs.set i (setP t x p d) := by
  apply List.ext_getElem?
  intro j
  rw [setP_sl xs i p d h j, List.getElem?_set]
  have hl : i < xs.length := by
    rcases Nat.lt_or_ge i xs.length with h | h
    · exact h
    · rw [List.getElem?_eq_none h] at hx; cases hx
  split
  · rename_i e; subst e; rw [hx]; first | rfl | (rw [if_pos hl]; rfl)
  · rfl
theorem range_at {w : World} {b o : Nat} {cs : List Value} (h : At w b o cs) : (List.range cs.length).map (fun j => (w.cell? ⟨b, o + j, none⟩).getD (.tuple #[])) = cs := by
  apply List.ext_getElem
  · simp
  · intro j h1 h2
    simp only [List.getElem_map, List.getElem_range, h j h2, List.getElem?_eq_getElem h2, Option.getD_some]
/-- The same of a slice whose header is no cell of memory (a slot's). -/
structure FocusR (Z : Bs) (w : World) (t : Ty) (m : Mk) (x : t.den) (fp : Bs) (cs : List Value) (p : Path) (t' : Ty) (m' : Mk) (x' : t'.den) (b o : Nat) (cs' : List Value) (fp' : Bs) : Prop where
  rep : Rep Z w t' m' x' fp' cs'
  at_ : At w b o cs'
  sub : ∀ k, fp' k → fp k
  not : ¬ fp' b
  blk : Own w b
  own : fp b
  put : ∀ (w' : World) (y : t'.den) (cs'' : List Value) (fp'' : Bs), (∀ k, Z k → w'.heap[k]? = w.heap[k]?) → (∀ k, fp k → ¬ fp' k → k ≠ b → w'.heap[k]? = w.heap[k]?) → Out w w' b o t'.size →
    Rep Z w' t' m' y fp'' cs'' → At w' b o cs'' → (∀ k, fp'' k → fp k → fp' k) → ¬ fp'' b →
    Rep Z w' t m (setP t x p ⟨t', y⟩) (fun k => (fp k ∧ ¬ fp' k) ∨ fp'' k) cs ∧ subc w' t cs p = some cs''
theorem focus_el {Z : Bs} {w : World} {p : Path} {t : Ty} {m : Mk} {t' : Ty} {x' : t'.den} {m' : Mk}
    (IH : ∀ {x : t.den} {fp : Bs} {cs : List Value} {b0 o0 : Nat}, Rep Z w t m x fp cs → At w b0 o0 cs → ¬ fp b0 → Own w b0 → getP t x p = some ⟨t', x'⟩ →
      ∃ b o cs' fp', addrOf w t cs (some (b0, o0)) p = some (b, o) ∧ subc w t cs p = some cs' ∧ Focus Z w t m x fp b0 o0 p t' m' x' b o cs' fp')
    {i : Nat} {xs : List t.den} {fp : Bs} {cs : List Value} (here : Option (Nat × Nat)) (hr : Rep Z w (.sl t) (.ow m) xs fp cs) (hg : getP (.sl t) xs (.el i :: p) = some ⟨t', x'⟩) :
    ∃ b o cs' fp', addrOf w (.sl t) cs here (.el i :: p) = some (b, o) ∧ subc w (.sl t) cs (.el i :: p) = some cs' ∧ FocusR Z w (.sl t) (.ow m) xs fp cs (.el i :: p) t' m' x' b o cs' fp' := by
    obtain ⟨A, cap, e, h⟩ := hr
    subst e
    simp only [getP] at hg
    split at hg
    · rename_i x hx
      rcases h with ⟨rfl, rfl⟩ | ⟨b1, o1, c, el, rfl, hfb, hrow, hcap, hlc, fps, css, hel, hdis⟩
      · simp at hx
      · have hil : i < xs.length := by
          rcases Nat.lt_or_ge i xs.length with h | h
          · exact h
          · rw [List.getElem?_eq_none h] at hx; cases hx
        obtain ⟨hri, hcl, hcell, hsub⟩ := hel i x hx
        have hai : At w b1 (o1 + i * t.size) (css i) := fun j hj => hcell j (by omega)
        obtain ⟨b, o, cs', fp', hadr, hsc, F⟩ := IH hri hai (fun h => (hsub _ h).2 rfl) ⟨c, el, hrow⟩ hg
        have hbb : b = b1 ∨ fps i b := F.here.imp (fun h => h.1) id
        have hfbb : fp b := by
          rcases hbb with h | h
          · exact h ▸ hfb
          · exact (hsub _ h).1
        have hn1 : ¬ fp' b1 := fun h => (hsub _ (F.sub _ h)).2 rfl
        refine ⟨b, o, cs', fp', ?_, ?_, F.rep, F.at_, fun k hk => (hsub k (F.sub k hk)).1, F.not, F.blk, hfbb, fun w' y cs'' fp'' hZ hk ho hr' ha' hs h1 => ?_⟩
        · simp only [addrOf]
          have := range_at hai
          rw [hcl] at this
          rw [this]; exact hadr
        · simp only [subc]
          have := range_at hai
          rw [hcl] at this
          rw [this]; exact hsc
        · have hnf1 : ¬ fp'' b1 := fun h => hn1 (hs _ h hfb)
          obtain ⟨cs1, g1, g2, g3⟩ := F.put w' y cs'' fp'' hZ (fun k h hne => h.elim (fun h => hk k (hsub _ h.1).1 h.2 hne) (fun e => hk k (e ▸ hfb) (e ▸ hn1) hne)) ho hr' ha' (fun k a b => hs k a (hsub k b).1) h1 hnf1
          have hl2 := g1.len
          refine ⟨⟨some ⟨b1, o1, none⟩, cap, by rw [setP_sl_len], .inr ?_⟩, ?_⟩
          rotate_left 1
          · have e5 := range_at g2
            rw [hl2] at e5
            simp only [subc, e5]
            exact g3
          · obtain ⟨c', hrow', hsz'⟩ : ∃ c', w'.heap[b1]? = some (.cells c' el (0, 0)) ∧ c'.size = c.size := by
              by_cases e : b1 = b
              · subst e; exact ho.row c el hrow
              · exact ⟨c, (hk b1 hfb hn1 e).trans hrow, rfl⟩
            refine ⟨b1, o1, c', el, rfl, .inl ⟨hfb, hn1⟩, hrow', by rw [hsz']; exact hcap, by rw [setP_sl_len]; exact hlc, ?_⟩
            refine ⟨fun j => if j = i then (fun k => (fps i k ∧ ¬ fp' k) ∨ fp'' k) else fps j, fun j => if j = i then cs1 else css j, fun j z hz => ?_, fun j j' k hj hj' hl hl' => ?_⟩
            · rw [setP_sl xs i p ⟨t', y⟩ (show tyP t p = some t' from getP_ty hg) j] at hz
              by_cases e : j = i
              · subst e
                rw [if_pos rfl, hx, Option.map_some] at hz
                obtain rfl := Option.some.inj hz
                simp only [if_true]
                refine ⟨g1, hl2, fun j' hj' => g2 j' (by omega), fun k h => ?_⟩
                rcases h with h | h
                · exact ⟨.inl ⟨(hsub k h.1).1, h.2⟩, (hsub k h.1).2⟩
                · exact ⟨.inr h, fun e => hnf1 (e ▸ h)⟩
              · rw [if_neg (fun h => e h.symm)] at hz
                simp only [if_neg e]
                obtain ⟨q1, q2, q3, q4⟩ := hel j z hz
                have hjl : j < xs.length := by
                  rcases Nat.lt_or_ge j xs.length with h | h
                  · exact h
                  · rw [List.getElem?_eq_none h] at hz; cases hz
                have hdj : ∀ k, fps j k → ¬ fps i k := fun k h h' => e (hdis j i k h h' hjl hil)
                have hnb : ∀ k, fps j k → k ≠ b := fun k h e' => by
                  subst e'
                  rcases hbb with h' | h'
                  · exact (q4 k h).2 h'
                  · exact hdj k h h'
                refine ⟨q1.keep (fun b hb => ⟨hb, hZ b hb⟩) (fun k h => hk k (q4 k h).1 (fun h' => hdj k h (F.sub k h')) (hnb k h)), q2, fun j' hj' => ?_, fun k h => ⟨.inl ⟨(q4 k h).1, fun h' => hdj k h (F.sub k h')⟩, (q4 k h).2⟩⟩
                rw [← q3 j' hj']
                by_cases eb : b1 = b
                · subst eb
                  refine ho.cell _ ?_
                  rcases F.here with ⟨_, h2, h3⟩ | h'
                  · rcases Nat.lt_or_gt_of_ne e with hlt | hgt
                    · left
                      have := Nat.mul_le_mul_right t.size hlt
                      rw [Nat.succ_mul] at this
                      omega
                    · right
                      have := Nat.mul_le_mul_right t.size hgt
                      rw [Nat.succ_mul] at this
                      omega
                  · exact absurd rfl (hsub _ h').2
                · exact World.cell?_of_block (a := ⟨b1, _, none⟩) (hk b1 hfb hn1 eb)
            · rw [setP_sl_len] at hl hl'
              have fwd : ∀ j, (if j = i then (fun k => (fps i k ∧ ¬ fp' k) ∨ fp'' k) else fps j) k → fps j k ∨ (j = i ∧ fp'' k) := by
                intro j h
                by_cases e : j = i
                · subst e; rw [if_pos rfl] at h; exact h.imp (fun h => h.1) (fun h => ⟨rfl, h⟩)
                · rw [if_neg e] at h; exact .inl h
              rcases fwd j hj with h | ⟨e, h⟩ <;> rcases fwd j' hj' with h' | ⟨e', h'⟩
              · exact hdis j j' k h h' hl hl'
              · have hfk : fp k := by
                  obtain ⟨z, hz⟩ : ∃ z, xs[j]? = some z := ⟨_, List.getElem?_eq_getElem hl⟩
                  exact ((hel j z hz).2.2.2 k h).1
                exact (hdis j i k h (F.sub k (hs k h' hfk)) hl hil).trans e'.symm
              · have hfk : fp k := by
                  obtain ⟨z, hz⟩ : ∃ z, xs[j']? = some z := ⟨_, List.getElem?_eq_getElem hl'⟩
                  exact ((hel j' z hz).2.2.2 k h').1
                exact (e.trans (hdis j' i k h' (F.sub k (hs k h hfk)) hl' hil).symm)
              · exact e.trans e'.symm
    · cases hg
theorem focus {Z : Bs} {w : World} : ∀ (p : Path) {t : Ty} {m : Mk} {x : t.den} {fp : Bs} {cs : List Value} {b0 o0 : Nat} {t' : Ty} {x' : t'.den} {m' : Mk},
    Rep Z w t m x fp cs → At w b0 o0 cs → ¬ fp b0 → Own w b0 → getP t x p = some ⟨t', x'⟩ → mkP t m p = some m' →
    ∃ b o cs' fp', addrOf w t cs (some (b0, o0)) p = some (b, o) ∧ subc w t cs p = some cs' ∧ Focus Z w t m x fp b0 o0 p t' m' x' b o cs' fp'
  | [], t, m, x, fp, cs, b0, o0, t', x', m', hr, ha, hb, hO, hg, hm => by
    obtain ⟨rfl, hx⟩ : t = t' ∧ HEq x x' := by cases t <;> (simp only [getP, Option.some.injEq, Sigma.mk.injEq] at hg; exact hg)
    obtain rfl := eq_of_heq hx
    obtain rfl : m = m' := by cases t <;> (simp only [mkP, Option.some.injEq] at hm; exact hm)
    refine ⟨b0, o0, cs, fp, by cases t <;> rfl, by cases t <;> rfl, hr, ha, fun _ h => h, hb, hO, .inl ⟨rfl, Nat.le_refl _, Nat.le_refl _⟩, fun w' y cs'' fp'' hZ hk ho hr' ha' hs h1 h2 => ⟨cs'', ?_, ha', by cases t <;> rfl⟩⟩
    have e : setP t x [] ⟨t, y⟩ = y := by cases t <;> simp [setP, Dyn.as]
    rw [e]
    exact hr'.mono fun k hk => .inr hk
  | .f1 :: p, .pair ta tb, m, x, fp, cs, b0, o0, t', x', m', ⟨c1, c2, f1, f2, e, r1, r2, s1, s2, hd⟩, ha, hb, hO, hg, hm => by
    subst e
    obtain ⟨ha1, ha2⟩ := At.app.1 ha
    obtain ⟨b, o, cs', fp', hadr, hsc, F⟩ := focus p r1 ha1 (fun h => hb (s1 _ h)) hO hg hm
    have hl1 := r1.len
    refine ⟨b, o, cs', fp', by simp only [addrOf]; rw [← hl1, List.take_left]; exact hadr, by simp only [subc]; rw [← hl1, List.take_left]; exact hsc, F.rep, F.at_, fun k hk => s1 k (F.sub k hk), F.not, F.blk, ?_, fun w' y cs'' fp'' hZ hk ho hr' ha' hs h1 h2 => ?_⟩
    · rcases F.here with ⟨h1, h2, h3⟩ | h
      · exact .inl ⟨h1, h2, by simp only [Ty.size]; omega⟩
      · exact .inr (s1 _ h)
    · obtain ⟨cs1, g1, g2, g3⟩ := F.put w' y cs'' fp'' hZ (fun k h => hk k (h.imp (fun h => ⟨s1 _ h.1, h.2⟩) id)) ho hr' ha' (fun k a b => hs k a (s1 k b)) h1 h2
      have hl2 := g1.len
      have hnb : ¬ f2 b := fun h => by
        rcases F.here with ⟨e, _⟩ | h'
        · exact hb (e ▸ s2 _ h)
        · exact hd _ h' h
      have r2' : Rep Z w' tb m.r x.2 f2 c2 := r2.keep (fun b hb => ⟨hb, hZ b hb⟩) (fun k h => hk k (.inl ⟨s2 k h, fun h' => hd k (F.sub k h') h⟩) (fun e => hnb (e ▸ h)))
      refine ⟨cs1 ++ c2, ⟨cs1, c2, _, f2, rfl, g1, r2', fun k h => h.imp (fun h => ⟨s1 k h.1, h.2⟩) id, fun k h => .inl ⟨s2 k h, fun h' => hd k (F.sub k h') h⟩, fun k h h' => ?_⟩, At.app.2 ⟨g2, ?_⟩, by simp only [subc]; rw [← hl2, List.take_left]; exact g3⟩
      · rcases h with h | h
        · exact hd k h.1 h'
        · exact hd k (F.sub k (hs k h (s2 k h'))) h'
      · rw [show o0 + cs1.length = o0 + c1.length by rw [hl1, hl2]]
        refine ha2.out (fun e => hk _ (.inr rfl) e) ho (fun e => ?_)
        rcases F.here with ⟨_, h2, h3⟩ | h'
        · right; omega
        · exact absurd (e ▸ s1 _ h') hb
  | .f2 :: p, .pair ta tb, m, x, fp, cs, b0, o0, t', x', m', ⟨c1, c2, f1, f2, e, r1, r2, s1, s2, hd⟩, ha, hb, hO, hg, hm => by
    subst e
    obtain ⟨ha1, ha2⟩ := At.app.1 ha
    have hl1 := r1.len
    obtain ⟨b, o, cs', fp', hadr, hsc, F⟩ := focus p r2 ha2 (fun h => hb (s2 _ h)) hO hg hm
    refine ⟨b, o, cs', fp', by simp only [addrOf]; rw [← hl1, List.drop_left]; exact hadr, by simp only [subc]; rw [← hl1, List.drop_left]; exact hsc, F.rep, F.at_, fun k hk => s2 k (F.sub k hk), F.not, F.blk, ?_, fun w' y cs'' fp'' hZ hk ho hr' ha' hs h1 h2 => ?_⟩
    · rcases F.here with ⟨h1, h2, h3⟩ | h
      · exact .inl ⟨h1, by omega, by simp only [Ty.size]; omega⟩
      · exact .inr (s2 _ h)
    · obtain ⟨cs1, g1, g2, g3⟩ := F.put w' y cs'' fp'' hZ (fun k h => hk k (h.imp (fun h => ⟨s2 _ h.1, h.2⟩) id)) ho hr' ha' (fun k a b => hs k a (s2 k b)) h1 h2
      have hnb : ¬ f1 b := fun h => by
        rcases F.here with ⟨e, _⟩ | h'
        · exact hb (e ▸ s1 _ h)
        · exact hd _ h h'
      have r1' : Rep Z w' ta m.l x.1 f1 c1 := r1.keep (fun b hb => ⟨hb, hZ b hb⟩) (fun k h => hk k (.inl ⟨s1 k h, fun h' => hd k h (F.sub k h')⟩) (fun e => hnb (e ▸ h)))
      refine ⟨c1 ++ cs1, ⟨c1, cs1, f1, _, rfl, r1', g1, fun k h => .inl ⟨s1 k h, fun h' => hd k h (F.sub k h')⟩, fun k h => h.imp (fun h => ⟨s2 k h.1, h.2⟩) id, fun k h h' => ?_⟩, At.app.2 ⟨?_, g2⟩, by simp only [subc]; rw [← hl1, List.drop_left]; exact g3⟩
      · rcases h' with h' | h'
        · exact hd k h h'.1
        · exact hd k h (F.sub k (hs k h' (s1 k h)))
      · refine ha1.out (fun e => hk _ (.inr rfl) e) ho (fun e => ?_)
        rcases F.here with ⟨_, h2, h3⟩ | h'
        · left; omega
        · exact absurd (e ▸ s2 _ h') hb
  | .el i :: p, .arr n t, m, xs, fp, cs, b0, o0, t', x', m', ⟨hlen, hin⟩, ha, hb, hO, hg, hm => by
    simp only [getP] at hg
    split at hg
    · rename_i x hx
      obtain ⟨fi, ci, pre, post, e, hpl, hri, hsi, hput⟩ := Inline.at_ (fun x f c h => Rep.len h) hin hx
      subst e
      have hci := hri.len
      obtain ⟨ha1, ha2⟩ := At.app.1 ha
      obtain ⟨ha2, ha3⟩ := At.app.1 ha2
      have hil : i < n := by
        rw [← hlen]
        rcases Nat.lt_or_ge i xs.length with h | h
        · exact h
        · rw [List.getElem?_eq_none h] at hx; cases hx
      have hmul : (i + 1) * t.size ≤ n * t.size := Nat.mul_le_mul_right _ hil
      rw [Nat.succ_mul] at hmul
      obtain ⟨b, o, cs', fp', hadr, hsc, F⟩ := focus p hri ha2 (fun h => hb (hsi _ h)) hO hg hm
      refine ⟨b, o, cs', fp', ?_, ?_, F.rep, F.at_, fun k hk => hsi k (F.sub k hk), F.not, F.blk, ?_, fun w' y cs'' fp'' hZ hk ho hr' ha' hs h1 h2 => ?_⟩
      · simp only [addrOf]
        rw [← hpl, List.drop_left, ← hci, List.take_left]; exact hadr
      · simp only [subc]
        rw [← hpl, List.drop_left, ← hci, List.take_left]; exact hsc
      · rcases F.here with ⟨h1, h2, h3⟩ | h
        · exact .inl ⟨h1, by omega, by simp only [Ty.size]; omega⟩
        · exact .inr (hsi _ h)
      · obtain ⟨cs1, g1, g2, g3⟩ := F.put w' y cs'' fp'' hZ (fun k h => hk k (h.imp (fun h => ⟨hsi _ h.1, h.2⟩) id)) ho hr' ha' (fun k a b => hs k a (hsi k b)) h1 h2
        have hl2 := g1.len
        have hnb : fi b ∨ ¬ fp b := by
          rcases F.here with ⟨e, _⟩ | h'
          · exact .inr (fun h => hb (e ▸ h))
          · exact .inl h'
        refine ⟨pre ++ (cs1 ++ post), ⟨by rw [setP_arr, setP_sl_len]; exact hlen, ?_⟩, At.app.2 ⟨?_, At.app.2 ⟨g2, ?_⟩⟩, by simp only [subc]; rw [← hpl, List.drop_left, ← hl2, List.take_left]; exact g3⟩
        · rw [setP_arr, setP_set (d := ⟨t', y⟩) (show tyP t p = some t' from getP_ty hg) hx]
          refine Inline.mono (fun _ _ _ h => h) ?_ (hput (fun x f c => Rep Z w' t m x f c) _ cs1 _ (fun y f c hf hr => ?_) g1 ?_)
          · intro k h
            rcases h with h | h | h
            · exact .inl ⟨h.1, fun h' => h.2 (F.sub k h')⟩
            · exact .inl ⟨hsi k h.1, h.2⟩
            · exact .inr h
          · exact hr.keep (fun b hb => ⟨hb, hZ b hb⟩) (fun k h => hk k (.inl ⟨(hf k h).1, fun h' => (hf k h).2 (F.sub k h')⟩) (fun e => by
              subst e
              rcases hnb with h' | h'
              · exact (hf k h).2 h'
              · exact h' (hf k h).1))
          · intro k h h'
            rcases h with h | h
            · exact h.1
            · exact F.sub k (hs k h h')
        · refine ha1.out (fun e => hk _ (.inr rfl) e) ho (fun e => ?_)
          rcases F.here with ⟨_, h2, h3⟩ | h'
          · left; omega
          · exact absurd (e ▸ hsi _ h') hb
        · rw [show o0 + pre.length + cs1.length = o0 + pre.length + ci.length by rw [hci, hl2]]
          refine ha3.out (fun e => hk _ (.inr rfl) e) ho (fun e => ?_)
          rcases F.here with ⟨_, h2, h3⟩ | h'
          · right; omega
          · exact absurd (e ▸ hsi _ h') hb
    · cases hg
  | .el i :: p, .sl t, .ow m, xs, fp, cs, b0, o0, t', x', m', hr, ha, hb, hO, hg, hm => by
    obtain ⟨b, o, cs', fp', hadr, hsc, F⟩ := focus_el (fun hr ha hb hO hg => focus p hr ha hb hO hg hm) (some (b0, o0)) hr hg
    have hb0 : b0 ≠ b := fun e => hb (e ▸ F.own)
    exact ⟨b, o, cs', fp', hadr, hsc, F.rep, F.at_, F.sub, F.not, F.blk, .inr F.own, fun w' y cs'' fp'' hZ hk ho hr' ha' hs h1 h2 =>
      have q := F.put w' y cs'' fp'' hZ (fun k h h' hne => hk k (.inl ⟨h, h'⟩) hne) ho hr' ha' hs h1; ⟨cs, q.1, ha.out (fun _ => hk b0 (.inr rfl) hb0) ho (fun e => absurd e hb0), q.2⟩⟩
/-- A place inside of a slot's slice. -/
theorem focus_root {Z : Bs} {w : World} {p : Path} {t : Ty} {m : Mk} {i : Nat} {xs : List t.den} {fp : Bs} {cs : List Value} {t' : Ty} {x' : t'.den} {m' : Mk} (here : Option (Nat × Nat))
    (hr : Rep Z w (.sl t) (.ow m) xs fp cs) (hg : getP (.sl t) xs (.el i :: p) = some ⟨t', x'⟩) (hm : mkP (.sl t) (.ow m) (.el i :: p) = some m') :
    ∃ b o cs' fp', addrOf w (.sl t) cs here (.el i :: p) = some (b, o) ∧ subc w (.sl t) cs (.el i :: p) = some cs' ∧ FocusR Z w (.sl t) (.ow m) xs fp cs (.el i :: p) t' m' x' b o cs' fp' :=
  focus_el (fun hr ha hb hO hg => focus p hr ha hb hO hg hm) here hr hg
end Go.Proofs.Ytibphkgcdnconaa.V
