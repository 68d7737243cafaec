import Derived.Test.YtibphkgcdnconaaWWords
import Derived.SizedLaws
import Derived.ChangeArms
import Derived.ChangeSlices
namespace Go.Proofs.YtibphkgcdnconaaX
open Go Go.RowKit Go.Proofs.YtibphkgcdnconaaW.PrintWords
set_option linter.unusedVariables false
set_option linter.unusedSimpArgs false
structure Opn {α : Type} (P : Program) (t : TypeId) (d : Kd α) (Wf : α → Prop) : Prop where
  sz : P.cellsOf t = d.sz
  op : ∀ {H : Type} {enc : TypeId × Value → H} {w : World} {sp : Nat → Bool} {hd : Bool} {fuel : Nat} {cs : List Value} {x : DataW H × List MemPlace},
    DataW.trod enc P w 0 sp hd fuel t cs = some x → (∀ n ∈ DataW.weights P t x.1, n ≤ reachBytes) → ∃ a, d.K w a cs ∧ Wf a
def WInt (k : IntKind) (n : Int) : Prop := (Lit.int k n).wf = true
def WSl {α : Type} (B : Nat) (Wf : α → Prop) (xs : List α) : Prop := xs.length * B ≤ 140737488351232 ∧ ∀ x ∈ xs, Wf x
theorem opn_int {P : Program} {t : TypeId} {k : IntKind} (hu : P.underlying t = some (.int k)) (hc : P.cellsOf t = 1) : Opn P t (Kd.int k) (WInt k) where
  sz := hc
  op := by
    intro H enc w sp hd fuel cs x h _
    cases fuel with
    | zero => simp [DataW.trod] at h
    | succ n =>
      clear hc
      suffices hh : ∃ b, cs = [.int k b] ∧ (Lit.int k b).wf = true by
        obtain ⟨b, rfl, hb⟩ := hh
        exact ⟨b, rfl, hb⟩
      unfold DataW.trod at h
      rw [hu] at h
      split at h <;> simp_all
theorem opn_slice {α : Type} {P : Program} {t e : TypeId} {d : Kd α} {Wf : α → Prop} (B : Nat) (hu : P.underlying t = some (.slice e)) (hc : P.cellsOf t = 1) (hB : P.bytesOf e = B) (he : Opn P e d Wf) :
    Opn P t (Kd.slice e d) (WSl B Wf) where
  sz := hc
  op := by
    intro H enc w sp hd fuel cs x h hw
    rcases DataW.trod_slice hu h with ⟨rfl, rfl⟩ | ⟨a, len, cap, elems, rest, n, _, rfl, rfl, hb, hl, hm, hlen, hel, _, _⟩
    · refine ⟨[], ⟨none, 0, rfl, Nat.le_refl _, rfl, Nat.zero_le _, fun h => absurd h (by simp)⟩, by simp, by simp⟩
    · have hsz : (elems.length + rest.length) * B ≤ reachBytes := by
        have := hw ((elems.length + rest.length) * B) (by simp [DataW.weights, hu, hB])
        exact this
      have hall : ∀ i, i < len → ∃ a', ∃ c, w.cells? 0 (a.add (i * P.cellsOf e)) (P.cellsOf e) = some c ∧ d.K w a' c ∧ Wf a' := by
        intro i hi
        have hx := hel i hi
        obtain ⟨y, hy⟩ : ∃ y, elems[i]? = some y := ⟨elems[i]'(by omega), List.getElem?_eq_getElem (by omega)⟩
        rw [hy] at hx
        obtain ⟨c, hc1, hc2⟩ := Option.bind_eq_some_iff.1 hx
        have hmem : y ∈ elems := List.mem_of_getElem? hy
        have hwy : ∀ n ∈ DataW.weights P e y.1, n ≤ reachBytes := by
          intro n hn
          refine hw n ?_
          simp only [DataW.weights, hu, List.mem_cons, List.mem_append]
          refine Or.inr (Or.inl ?_)
          have gen : ∀ l : List (DataW H), y.1 ∈ l → n ∈ DataW.weightsAll P e l := by
            intro l hl'
            induction l with
            | nil => cases hl'
            | cons z r ih =>
              simp only [DataW.weightsAll, List.mem_append]
              rcases List.mem_cons.1 hl' with h1 | h1
              · rw [← h1]; exact Or.inl hn
              · exact Or.inr (ih h1)
          exact gen _ (List.mem_map.2 ⟨y, hmem, rfl⟩)
        obtain ⟨a', hk, hwf⟩ := he.op hc2 hwy
        exact ⟨a', c, hc1, hk, hwf⟩
      have hch : ∃ xs : List α, xs.length = len ∧ ∀ i y, xs[i]? = some y → ∃ c, w.cells? 0 (a.add (i * P.cellsOf e)) (P.cellsOf e) = some c ∧ d.K w y c ∧ Wf y := by
        have : ∀ m, m ≤ len → ∃ xs : List α, xs.length = m ∧ ∀ i y, xs[i]? = some y → ∃ c, w.cells? 0 (a.add (i * P.cellsOf e)) (P.cellsOf e) = some c ∧ d.K w y c ∧ Wf y := by
          intro m
          induction m with
          | zero => intro _; exact ⟨[], rfl, by simp⟩
          | succ m ih =>
            intro hm'
            obtain ⟨xs, hxl, hxs⟩ := ih (by omega)
            obtain ⟨y, c, h1, h2, h3⟩ := hall m (by omega)
            refine ⟨xs ++ [y], by simp [hxl], fun i z hz => ?_⟩
            rcases Nat.lt_or_ge i m with hi | hi
            · rw [List.getElem?_append_left (by omega)] at hz
              exact hxs i z hz
            · have : i = m := by
                have := (List.getElem?_eq_some_iff.1 hz).1
                simp at this; omega
              subst this
              rw [List.getElem?_append_right (by omega)] at hz
              simp [hxl] at hz
              subst hz
              exact ⟨c, h1, h2, h3⟩
        exact this len (Nat.le_refl _)
      obtain ⟨xs, hxl, hxs⟩ := hch
      subst hxl
      refine ⟨xs, ⟨some a, cap, rfl, hl, rfl, ?_, fun _ => ⟨a, rfl, fun j p hj => ?_⟩⟩, ?_, fun y hy => ?_⟩
      · unfold maxLen at hm; omega
      · obtain ⟨c, h1, h2, _⟩ := hxs j p hj
        have hcl := d.K_len h2
        refine ⟨c, hcl, h2, fun i u hu' => ?_⟩
        rw [he.sz] at h1
        unfold World.cells? at h1
        split at h1
        · have hg := mapM_some_get h1 i i (by
            have := (List.getElem?_eq_some_iff.1 hu').1
            rw [List.getElem?_range (by omega)])
          rw [hu'] at hg
          rw [← hg]
          congr 1
          unfold Addr.add
          (repeat' split) <;> simp_all <;> omega
        · cases h1
      · have : xs.length * B ≤ (elems.length + rest.length) * B := Nat.mul_le_mul_right _ (by omega)
        have h2 : reachBytes = 140737488351232 := by decide
        omega
      · obtain ⟨i, hi⟩ := List.mem_iff_getElem?.1 hy
        obtain ⟨_, _, _, h3⟩ := hxs i y hi
        exact h3
structure OpnF {α : Type} (P : Program) (fs : List Field) (off : Nat) (d : Kd α) (Wf : α → Prop) : Prop where
  op : ∀ {H : Type} {enc : TypeId × Value → H} {w : World} {sp : Nat → Bool} {hd : Bool} {fuel : Nat} {cs : List Value} {xs : List (DataW H × List MemPlace)},
    cs.length = off + d.sz → xs.length = fs.length →
    (∀ (i : Nat) (f : Field), fs[i]? = some f → DataW.trod enc P w 0 sp hd fuel f.type ((cs.drop f.offset).take (P.cellsOf f.type)) = xs[i]?) →
    (∀ n ∈ DataW.weightsEach P (fs.map (·.type)) (xs.map (·.1)), n ≤ reachBytes) → ∃ a, d.K w a (cs.drop off) ∧ Wf a
end Go.Proofs.YtibphkgcdnconaaX
