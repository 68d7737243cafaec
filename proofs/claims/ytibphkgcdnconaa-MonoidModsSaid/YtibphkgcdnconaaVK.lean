/- The operations on memory, continued: structs and slices written out. -/
import Derived.Test.YtibphkgcdnconaaVJ
import Derived.Laws.Tables
namespace Go.Proofs.Ytibphkgcdnconaa.V
open Go
set_option linter.unusedVariables false
set_option linter.all false
theorem fill_seg : ∀ (l : List Value) (k off : Nat) (arr : Array Value), off + k + l.length ≤ arr.size →
    (l.zipIdx k).foldl (fun cs (x : Value × Nat) => cs.setIfInBounds (off + x.2) x.1) arr = (arr.toList.take (off + k) ++ l ++ arr.toList.drop (off + k + l.length)).toArray
  | [], k, off, arr, _ => by simp
  | v :: l, k, off, arr, h => by
    simp only [List.length_cons] at h
    have hal : arr.toList.length = arr.size := Array.length_toList
    rw [List.zipIdx_cons, List.foldl_cons, fill_seg l (k + 1) off _ (by simp at h ⊢; omega)]
    apply Array.ext'
    simp only [Array.toList_setIfInBounds]
    apply List.ext_getElem?
    intro j
    have hs : off + k < arr.toList.length := by simp at h ⊢; omega
    by_cases h1 : j < off + k
    · rw [List.append_assoc, List.append_assoc, List.getElem?_append_left (by simp; omega), List.getElem?_append_left (by simp; omega), List.getElem?_take_of_lt (by omega), List.getElem?_take_of_lt h1, List.getElem?_set, if_neg (by omega)]
    · by_cases h2 : j = off + k
      · subst h2
        rw [List.append_assoc, List.append_assoc, List.getElem?_append_left (by simp; omega), List.getElem?_take_of_lt (by omega), List.getElem?_set, if_pos rfl, if_pos (by simpa using hs), List.getElem?_append_right (by simp; omega)]
        have : off + k - (List.take (off + k) arr.toList).length = 0 := by simp; omega
        rw [this]; rfl
      · rw [List.append_assoc, List.append_assoc, List.getElem?_append_right (l₁ := List.take (off + (k + 1)) (arr.toList.set (off + k) v)) (by simp; omega), List.getElem?_append_right (l₁ := List.take (off + k) arr.toList) (by simp; omega)]
        have e1 : j - (List.take (off + (k + 1)) (arr.toList.set (off + k) v)).length = j - (off + k) - 1 := by simp; omega
        have e2 : j - (List.take (off + k) arr.toList).length = (j - (off + k) - 1) + 1 := by simp; omega
        rw [e1, e2, List.cons_append, List.getElem?_cons_succ]
        by_cases h3 : j - (off + k) - 1 < l.length
        · rw [List.getElem?_append_left h3, List.getElem?_append_left h3]
        · rw [List.getElem?_append_right (l₁ := l) (l₂ := List.drop (off + (k + 1) + l.length) (arr.toList.set (off + k) v)) (by omega), List.getElem?_append_right (by omega), List.getElem?_drop, List.getElem?_drop, List.getElem?_set, if_neg (by omega)]
          congr 1
          simp only [List.length_cons]
          omega
def startOf (css : List (List Value)) (i : Nat) : Nat := (css.take i).flatten.length
theorem flatten_at {css : List (List Value)} {i : Nat} {c : List Value} (h : css[i]? = some c) : css.flatten = (css.take i).flatten ++ (c ++ (css.drop (i + 1)).flatten) := by
  have hl : i < css.length := by
    rcases Nat.lt_or_ge i css.length with h' | h'
    · exact h'
    · rw [List.getElem?_eq_none h'] at h; cases h
  conv => lhs; rw [← List.take_append_drop i css]
  rw [List.flatten_append, List.drop_eq_getElem_cons hl, List.flatten_cons]
  have : css[i] = c := by rw [List.getElem?_eq_getElem hl] at h; exact Option.some.inj h
  rw [this]
theorem fill_step {places : Nat → Option (Nat × Nat)} {css : List (List Value)} {i : Nat} {c c' : List Value} {v : Value} {rest : List (Nat × Value)} (hp : places i = some (startOf css i, c.length)) (hi : css[i]? = some c) (hv : v.cells.toList = c') (hl : c'.length = c.length) :
    Instr.fill places css.flatten.toArray ((i, v) :: rest) = Instr.fill places (css.set i c').flatten.toArray rest := by
  have hlt : i < css.length := by
    rcases Nat.lt_or_ge i css.length with h' | h'
    · exact h'
    · rw [List.getElem?_eq_none h'] at hi; cases hi
  have e := flatten_at hi
  have hvs : v.cells.size = c.length := by rw [← Array.length_toList, hv, hl]
  have hsz : startOf css i + v.cells.size ≤ css.flatten.toArray.size := by
    have e3 : css.flatten.toArray.size = css.flatten.length := List.size_toArray
    rw [e3, e, hvs]; simp only [List.length_append, startOf]; omega
  have e' := flatten_at (css := css.set i c') (i := i) (c := c') (by rw [List.getElem?_set, if_pos rfl, if_pos hlt])
  have e3 : css.flatten.toArray.size = css.flatten.length := List.size_toArray
  have hcond : ¬ (startOf css i + c.length > css.flatten.toArray.size) := by rw [hvs] at hsz; omega
  simp only [Instr.fill, hp, hvs, ne_eq, not_true, decide_false, Bool.false_or, decide_eq_true_eq]
  rw [if_neg hcond]
  congr 1
  rw [← Array.foldl_toList]
  have hz : v.cells.zipIdx.toList = c'.zipIdx := by rw [Array.toList_zipIdx, hv]
  rw [hz]
  have := fill_seg c' 0 (startOf css i) css.flatten.toArray (by rw [Nat.add_zero, hl, ← hvs]; exact hsz)
  simp only [Nat.add_zero] at this
  refine Eq.trans ?_ (this.trans ?_)
  · rfl
  · congr 1
    rw [e', List.take_set_of_le (Nat.le_refl _), List.drop_set_of_lt (Nat.lt_succ_self _), e]
    simp only [startOf]
    rw [List.take_left, List.append_assoc]
    congr 2
    rw [hl, ← List.append_assoc, show (List.take i css).flatten.length + c.length = ((List.take i css).flatten ++ c).length by simp, List.drop_left]
theorem startOf_set {css : List (List Value)} {i : Nat} {c c' : List Value} (hi : css[i]? = some c) (hl : c'.length = c.length) (j : Nat) : startOf (css.set i c') j = startOf css j := by
  unfold startOf
  rw [List.length_flatten, List.length_flatten]
  congr 1
  apply List.ext_getElem?
  intro k
  rw [List.getElem?_map, List.getElem?_map, List.getElem?_take, List.getElem?_take]
  split
  · rw [List.getElem?_set]
    split
    · rename_i e; subst e
      have hlt : i < css.length := by
        rcases Nat.lt_or_ge i css.length with h' | h'
        · exact h'
        · rw [List.getElem?_eq_none h'] at hi; cases hi
      rw [hi, if_pos hlt, Option.map_some, Option.map_some, hl]
    · rfl
  · rfl
/-- All parts put where they belong. -/
theorem fill_all {places : Nat → Option (Nat × Nat)} : ∀ (ps : List (Nat × Value)) (cps : List (Nat × List Value)) (css : List (List Value)), (∀ i c, css[i]? = some c → places i = some (startOf css i, c.length)) →
    ps.map (·.1) = cps.map (·.1) → (∀ (k : Nat) (p : Nat × Value) (q : Nat × List Value), ps[k]? = some p → cps[k]? = some q → p.2.cells.toList = q.2 ∧ ∃ c, css[p.1]? = some c ∧ q.2.length = c.length) →
    Instr.fill places css.flatten.toArray ps = some (setMany css cps).flatten.toArray
  | [], [], css, _, _, _ => rfl
  | [], _ :: _, _, _, h, _ => by simp at h
  | _ :: _, [], _, _, h, _ => by simp at h
  | (i, v) :: ps, (i', c') :: cps, css, hp, h, hv => by
    simp only [List.map_cons, List.cons.injEq] at h
    obtain ⟨rfl, h⟩ := h
    obtain ⟨h1, c, h2, h3⟩ := hv 0 _ _ rfl rfl
    rw [fill_step (hp _ _ h2) h2 h1 h3]
    refine fill_all ps cps _ (fun j d hd => ?_) h (fun k p q hk hq => ?_)
    · rw [startOf_set h2 h3]
      rw [List.getElem?_set] at hd
      split at hd
      · rename_i e; subst e
        split at hd
        · obtain rfl := Option.some.inj hd
          rw [hp _ _ h2, h3]
        · cases hd
      · exact hp _ _ hd
    · obtain ⟨q1, d, q2, q3⟩ := hv (k + 1) p q (by simpa using hk) (by simpa using hq)
      refine ⟨q1, ?_⟩
      rw [List.getElem?_set]
      split
      · rename_i e
        rw [← e, h2] at q2; obtain rfl := Option.some.inj q2
        have hlt : i < css.length := by
          rcases Nat.lt_or_ge i css.length with h' | h'
          · exact h'
          · rw [List.getElem?_eq_none h'] at h2; cases h2
        rw [if_pos (show (i, v).fst < css.length from hlt)]
        exact ⟨c', rfl, q3.trans h3.symm⟩
      · exact ⟨d, q2, q3⟩
theorem setMany_len {α : Type} : ∀ (ps : List (Nat × α)) (l : List α), (setMany l ps).length = l.length
  | [], _ => rfl
  | (i, x) :: ps, l => by simp [setMany, setMany_len ps]
/-- A row with its elements' cells, one list each. -/
def InlineL {α : Type} (R : α → Bs → List Value → Prop) : List α → Bs → List (List Value) → Prop
  | [], _, css => css = []
  | x :: xs, fp, css => ∃ c css' f1 f2, css = c :: css' ∧ R x f1 c ∧ InlineL R xs f2 css' ∧ (∀ k, f1 k → fp k) ∧ (∀ k, f2 k → fp k) ∧ ∀ k, f1 k → ¬ f2 k
theorem InlineL.inline {α : Type} {R : α → Bs → List Value → Prop} : ∀ {xs : List α} {fp : Bs} {css : List (List Value)}, InlineL R xs fp css → Inline R xs fp css.flatten
  | [], _, _, h => by rw [show _ = [] from h]; rfl
  | _ :: _, _, _, ⟨c, css', f1, f2, e, r, i, a, b, d⟩ => by rw [e]; exact ⟨c, css'.flatten, f1, f2, rfl, r, i.inline, a, b, d⟩
theorem InlineL.mono0 {α : Type} {R : α → Bs → List Value → Prop} : ∀ {xs : List α} {fp fp' : Bs} {css : List (List Value)}, (∀ k, fp k → fp' k) → InlineL R xs fp css → InlineL R xs fp' css
  | [], _, _, _, _, h => h
  | _ :: _, _, _, _, hf, ⟨c, css', f1, f2, e, r, i, s1, s2, d⟩ => ⟨c, css', f1, f2, e, r, i, fun k hk => hf k (s1 k hk), fun k hk => hf k (s2 k hk), d⟩
theorem InlineL.set {α : Type} {R : α → Bs → List Value → Prop} : ∀ {xs : List α} {fp F : Bs} {css : List (List Value)} {i : Nat} {x : α} {c : List Value}, InlineL R xs fp css → i < xs.length → R x F c → (∀ k, F k → ¬ fp k) → InlineL R (xs.set i x) (fun k => fp k ∨ F k) (css.set i c)
  | [], _, _, _, _, _, _, _, h, _, _ => by simp at h
  | _ :: _, fp, F, _, 0, x, c, ⟨c0, css', f1, f2, e, r, i, a, b, d⟩, _, hr, hd => by
    rw [e]
    exact ⟨c, css', F, f2, rfl, hr, i, fun k h => .inr h, fun k h => .inl (b k h), fun k h h' => hd k h (b k h')⟩
  | _ :: _, fp, F, _, n + 1, x, c, ⟨c0, css', f1, f2, e, r, i, a, b, d⟩, hl, hr, hd => by
    rw [e]
    refine ⟨c0, css'.set n c, f1, fun k => f2 k ∨ F k, rfl, r, i.set (by simpa using hl) hr (fun k h h' => hd k h (b k h')), fun k h => .inl (a k h), fun k h => h.imp (b k) id, fun k h h' => ?_⟩
    rcases h' with h' | h'
    · exact d k h h'
    · exact hd k h' (a k h)
theorem InlineL.replicate {α : Type} {R : α → Bs → List Value → Prop} {x : α} {c : List Value} (h : ∀ f, R x f c) : ∀ (n : Nat) (fp : Bs), InlineL R (List.replicate n x) fp (List.replicate n c)
  | 0, _ => rfl
  | n + 1, _ => ⟨c, _, none_, none_, rfl, h _, InlineL.replicate h n _, fun _ h => h.elim, fun _ h => h.elim, fun _ h => h.elim⟩
theorem InlineL.keep {α : Type} {R R' : α → Bs → List Value → Prop} (h : ∀ x f c, R x f c → R' x f c) : ∀ {xs : List α} {fp : Bs} {css : List (List Value)}, InlineL R xs fp css → InlineL R' xs fp css
  | [], _, _, h0 => h0
  | _ :: _, _, _, ⟨c, css', f1, f2, e, r, i, a, b, d⟩ => ⟨c, css', f1, f2, e, h _ _ _ r, i.keep h, a, b, d⟩
end Go.Proofs.Ytibphkgcdnconaa.V
