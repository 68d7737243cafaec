/- Rows: made, read as one list of cells, longer. -/
import Derived.Test.YtibphkgcdnconaaVH
namespace Go.Proofs.Ytibphkgcdnconaa.V
open Go
set_option linter.unusedVariables false
set_option linter.all false
section
variable {α : Type} {R : α → Bs → List Value → Prop} {sz : Nat} {w : World}
theorem Inline.app {xs ys : List α} {f1 f2 fp : Bs} {c1 c2 : List Value} (h1 : Inline R xs f1 c1) (h2 : Inline R ys f2 c2) (hd : ∀ k, f1 k → ¬ f2 k) (s1 : ∀ k, f1 k → fp k) (s2 : ∀ k, f2 k → fp k) : Inline R (xs ++ ys) fp (c1 ++ c2) := by
  induction xs generalizing f1 c1 fp with
  | nil => rw [show c1 = [] from h1]; exact Inline.mono (fun _ _ _ h => h) s2 h2
  | cons x xs ih =>
    obtain ⟨a1, a2, g1, g2, e, r, i, q1, q2, q3⟩ := h1
    subst e
    refine ⟨a1, a2 ++ c2, g1, fun k => g2 k ∨ f2 k, by simp, r, ih i (fun k h => hd k (q2 k h)) (fun k h => .inl h) (fun k h => .inr h), fun k h => s1 k (q1 k h), fun k h => h.elim (fun h => s1 k (q2 k h)) (s2 k), fun k h h' => ?_⟩
    rcases h' with h' | h'
    · exact q3 k h h'
    · exact hd k (q1 k h) h'
theorem elems_of_inline (hn : ∀ x f c, R x f c → c.length = sz) {b : Nat} : ∀ {xs : List α} {o : Nat} {F : Bs} {cs : List Value}, Inline R xs F cs → At w b o cs → ¬ F b → Elems R sz w b o xs F
  | [], o, F, cs, _, _, _ => ⟨fun _ => none_, fun _ => [], fun i x h => by simp at h, fun i j k h => h.elim⟩
  | x :: xs, o, F, cs, ⟨c1, c2, f1, f2, e, r, i, q1, q2, q3⟩, ha, hb => by
    subst e
    obtain ⟨a1, a2⟩ := At.app.1 ha
    have hl := hn _ _ _ r
    obtain ⟨fps, css, h1, h2⟩ := elems_of_inline hn i a2 (fun h => hb (q2 _ h))
    refine ⟨fun n => match n with | 0 => f1 | n + 1 => fun k => fps n k ∧ f2 k ∧ n < xs.length, fun n => match n with | 0 => c1 | n + 1 => css n, fun n y hy => ?_, fun n m k hn' hm' ln lm => ?_⟩
    · cases n with
      | zero =>
        obtain rfl : x = y := by simpa using hy
        exact ⟨r, hl, fun j hj => by rw [Nat.zero_mul, Nat.add_zero]; exact a1 j (by omega), fun k hk => ⟨q1 k hk, fun e => hb (e ▸ q1 k hk)⟩⟩
      | succ n =>
        have hy' : xs[n]? = some y := by simpa using hy
        obtain ⟨g1, g2, g3, g4⟩ := h1 n y hy'
        have hlt : n < xs.length := by
          rcases Nat.lt_or_ge n xs.length with h | h
          · exact h
          · rw [List.getElem?_eq_none h] at hy'; cases hy'
        have hfn : (fun k => fps n k ∧ f2 k ∧ n < xs.length) = fps n := by
          funext k; exact propext ⟨fun h => h.1, fun h => ⟨h, (g4 k h).1, hlt⟩⟩
        refine ⟨by simp only [hfn]; exact g1, g2, fun j hj => ?_, fun k hk => ⟨q2 k hk.2.1, fun e => hb (e ▸ q2 k hk.2.1)⟩⟩
        rw [← g3 j hj, Nat.succ_mul]
        congr 2
        omega
    · cases n with
      | zero =>
        cases m with
        | zero => rfl
        | succ m => exact absurd hm'.2.1 (q3 k hn')
      | succ n =>
        cases m with
        | zero => exact absurd hn'.2.1 (q3 k hm')
        | succ m => exact congrArg _ (h2 n m k hn'.1 hm'.1 hn'.2.2 hm'.2.2)
theorem inline_of_elems {b : Nat} {fp : Bs} : ∀ {xs : List α} {o : Nat}, Elems R sz w b o xs fp → ∃ cs, Inline R xs (fun k => fp k ∧ k ≠ b) cs ∧ At w b o cs ∧ cs.length = xs.length * sz
  | [], o, _ => ⟨[], rfl, fun j hj => by simp at hj, by simp⟩
  | x :: xs, o, ⟨fps, css, h1, h2⟩ => by
    obtain ⟨g1, g2, g3, g4⟩ := h1 0 x rfl
    have hrest : Elems R sz w b (o + sz) xs (fun k => fp k ∧ ∀ h : k = k, ¬ fps 0 k) := by
      refine ⟨fun n => fun k => fps (n + 1) k ∧ n < xs.length, fun n => css (n + 1), fun n y hy => ?_, fun n m k hn' hm' ln lm => by have := h2 (n + 1) (m + 1) k hn'.1 hm'.1 (by simp; exact ln) (by simp; exact lm); omega⟩
      obtain ⟨k1, k2, k3, k4⟩ := h1 (n + 1) y (by simpa using hy)
      have hlt : n < xs.length := by
        rcases Nat.lt_or_ge n xs.length with h | h
        · exact h
        · rw [List.getElem?_eq_none h] at hy; cases hy
      have hfn : (fun k => fps (n + 1) k ∧ n < xs.length) = fps (n + 1) := by
        funext k; exact propext ⟨fun h => h.1, fun h => ⟨h, hlt⟩⟩
      refine ⟨by simp only [hfn]; exact k1, k2, fun j hj => ?_, fun k hk => ⟨⟨(k4 k hk.1).1, fun _ h0 => ?_⟩, (k4 k hk.1).2⟩⟩
      · rw [← k3 j hj, Nat.succ_mul]; congr 2; omega
      · have := h2 (n + 1) 0 k hk.1 h0 (by simp; exact hlt) (by simp); omega
    obtain ⟨cs, q1, q2, q3⟩ := inline_of_elems hrest
    refine ⟨css 0 ++ cs, ⟨css 0, cs, fps 0, _, rfl, g1, q1, fun k hk => ⟨(g4 k hk).1, (g4 k hk).2⟩, fun k hk => ⟨hk.1.1, hk.2⟩, fun k hk h => h.1.2 rfl hk⟩, At.app.2 ⟨fun j hj => ?_, by rw [g2]; exact q2⟩, by rw [List.length_append, g2, q3, List.length_cons, Nat.succ_mul]; omega⟩
    have := g3 j (by omega)
    rw [Nat.zero_mul, Nat.add_zero] at this
    exact this
theorem Inline.replicate {x : α} {c : List Value} (h : ∀ fp, R x fp c) : ∀ (n : Nat) (fp : Bs), Inline R (List.replicate n x) fp (List.replicate n c).flatten
  | 0, _ => rfl
  | n + 1, fp => ⟨c, _, none_, none_, rfl, h _, Inline.replicate h n _, fun _ h => h.elim, fun _ h => h.elim, fun _ h => h.elim⟩
theorem inline_one {x : α} {f : Bs} {c : List Value} (h : R x f c) : Inline R [x] f c := ⟨c, [], f, none_, by simp, h, rfl, fun _ h => h, fun _ h => h.elim, fun _ _ h => h.elim⟩
end
section
variable {w : World} {Z : Bs} {sl : Nat → Option Slot} {hdr : Nat → Value} {fp : Nat → Bs}
theorem at_alloc (w : World) (cs : List Value) (e : TypeId) : At (w.alloc (.cells cs.toArray e)) w.heap.size 0 cs := by
  intro j hj
  rw [Nat.zero_add, World.cell?_alloc_new]
  simp
/-- A new row that holds what is at hand, in slot n. -/
theorem new_row (H : HR Z w sl hdr fp) {n : Nat} {S : Slot} (hs : sl n = some S) (t : Ty) (m : Mk) (xs : List t.den) (F : Bs) (cs rest : List Value) (e : TypeId) (cap : Nat) (hi : Inline (fun x f c => Rep Z w t m x f c) xs F cs)
    (hF : ∀ b, F b → ∃ r, fp r b ∧ (r = n ∨ noC sl r)) (hcap : xs.length ≤ cap) (hsz : cap * t.size ≤ (cs ++ rest).length) :
    ∃ fp', HR Z (w.alloc (.cells (cs ++ rest).toArray e)) (put sl n ⟨S.hv + 1, 0, some ⟨.sl t, .ow m, xs⟩⟩) (fun r => if r = n then .slice (some ⟨w.heap.size, 0, none⟩) xs.length cap else hdr r) fp' ∧
      Trans Z w sl hdr fp Z (w.alloc (.cells (cs ++ rest).toArray e)) (put sl n ⟨S.hv + 1, 0, some ⟨.sl t, .ow m, xs⟩⟩) (fun r => if r = n then .slice (some ⟨w.heap.size, 0, none⟩) xs.length cap else hdr r) fp' := by
  have hk : ∀ k, k < w.heap.size → (w.alloc (.cells (cs ++ rest).toArray e)).heap[k]? = w.heap[k]? := fun k h => Go.RowKit.Below.heap_alloc w _ k h
  obtain ⟨H1, T1⟩ := step_alloc H n (.cells (cs ++ rest).toArray e)
  have hFl : ∀ b, F b → b < w.heap.size := fun b hb => by obtain ⟨r, h, _⟩ := hF b hb; exact H.lt _ _ h
  have hrep : Rep Z (w.alloc (.cells (cs ++ rest).toArray e)) (.sl t) (.ow m) xs (fun k => F k ∨ k = w.heap.size) [.slice (some ⟨w.heap.size, 0, none⟩) xs.length cap] := by
    refine ⟨some ⟨w.heap.size, 0, none⟩, cap, rfl, .inr ⟨w.heap.size, 0, (cs ++ rest).toArray, e, rfl, .inr rfl, ?_, by simpa using hsz, hcap, ?_⟩⟩
    · show (w.heap.push _)[w.heap.size]? = _
      simp
    · have hi' : Inline (fun x f c => Rep Z (w.alloc (.cells (cs ++ rest).toArray e)) t m x f c) xs F cs :=
        Inline.keep (fun x f c hf hr => hr.keep (fun b hb => ⟨hb, hk b (H.zlt b hb)⟩) (fun b hb => hk b (hFl b (hf b hb)))) hi
      have he := elems_of_inline (sz := t.size) (fun x f c h => Rep.len h) hi' (At.app.1 (at_alloc w (cs ++ rest) e)).1 (fun h => Nat.lt_irrefl _ (hFl _ h))
      obtain ⟨fps, css, h6, h7⟩ := he
      exact ⟨fps, css, fun i x hx => let ⟨a1, a2, a3, a4⟩ := h6 i x hx; ⟨a1, a2, a3, fun k hk => ⟨.inl (a4 k hk).1, (a4 k hk).2⟩⟩, h7⟩
  obtain ⟨fp', _, _, H2, T2⟩ := step_set H1 hs ⟨.sl t, .ow m, xs⟩ (.slice (some ⟨w.heap.size, 0, none⟩) xs.length cap) _ hrep (.inl ⟨t, rfl⟩) (fun b hb => by
    rcases hb with hb | hb
    · obtain ⟨r, h1, h2⟩ := hF b hb
      exact ⟨r, .inl h1, h2⟩
    · exact ⟨n, .inr ⟨rfl, hb⟩, .inl rfl⟩) 0
  exact ⟨fp', H2, T1.comp T2⟩
end
end Go.Proofs.Ytibphkgcdnconaa.V
