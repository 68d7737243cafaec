import Derived.Test.YtibphkgcdnconaaWWords
import Derived.SizedLaws
import Derived.ChangeArms
import Derived.ChangeSlices
namespace Go.Proofs.YtibphkgcdnconaaX
open Go Go.RowKit Go.Proofs.YtibphkgcdnconaaW.PrintWords
set_option linter.unusedVariables false
set_option linter.unusedSimpArgs false
structure Opn {α : Type} (P : Program) (t : TypeId) (d : Kd α) (Wf : α → Prop) : Prop where
  sz : P.cellsOf t = d.sz
  op : ∀ {H : Type} {enc : TypeId × Value → H} {w : World} {sp : Nat → Bool} {hd : Bool} {fuel : Nat} {cs : List Value} {x : DataW H × List MemPlace},
    DataW.trod enc P w 0 sp hd fuel t cs = some x → (∀ n ∈ DataW.weights P t x.1, n ≤ reachBytes) → ∃ a, d.K w a cs ∧ Wf a
def WInt (k : IntKind) (n : Int) : Prop := (Lit.int k n).wf = true
def WAny {α : Type} (_ : α) : Prop := True
def WSl {α : Type} (B : Nat) (Wf : α → Prop) (xs : List α) : Prop := xs.length * B ≤ 140737488351232 ∧ ∀ x ∈ xs, Wf x
def WPr {α β : Type} (W : α → Prop) (W' : β → Prop) (p : α × β) : Prop := W p.1 ∧ W' p.2
theorem opn_int {P : Program} {t : TypeId} {k : IntKind} (hu : P.underlying t = some (.int k)) (hc : P.cellsOf t = 1) : Opn P t (Kd.int k) (WInt k) where
  sz := hc
  op := by
    intro H enc w sp hd fuel cs x h _
    cases fuel with
    | zero => simp [DataW.trod] at h
    | succ n =>
      clear hc
      suffices hh : ∃ b, cs = [.int k b] ∧ (Lit.int k b).wf = true by
        obtain ⟨b, rfl, hb⟩ := hh
        exact ⟨b, rfl, hb⟩
      unfold DataW.trod at h
      rw [hu] at h
      split at h <;> simp_all
theorem opn_bool {P : Program} {t : TypeId} (hu : P.underlying t = some .bool) (hc : P.cellsOf t = 1) : Opn P t Kd.bool (WAny) where
  sz := hc
  op := by
    intro H enc w sp hd fuel cs x h _
    cases fuel with
    | zero => simp [DataW.trod] at h
    | succ n =>
      clear hc
      suffices hh : ∃ b, cs = [.bool b] by
        obtain ⟨b, rfl⟩ := hh
        exact ⟨b, rfl, trivial⟩
      unfold DataW.trod at h
      rw [hu] at h
      split at h
      all_goals first
        | exact ⟨_, rfl⟩
        | simp_all
theorem opn_slice {α : Type} {P : Program} {t e : TypeId} {d : Kd α} {Wf : α → Prop} (B : Nat) (hu : P.underlying t = some (.slice e)) (hc : P.cellsOf t = 1) (hB : P.bytesOf e = B) (he : Opn P e d Wf) :
    Opn P t (Kd.slice e d) (WSl B Wf) where
  sz := hc
  op := by
    intro H enc w sp hd fuel cs x h hw
    rcases DataW.trod_slice hu h with ⟨rfl, rfl⟩ | ⟨a, len, cap, elems, rest, n, _, rfl, rfl, hb, hl, hm, hlen, hel, _, _⟩
    · refine ⟨[], ⟨none, 0, rfl, Nat.le_refl _, rfl, Nat.zero_le _, fun h => absurd h (by simp)⟩, by simp, by simp⟩
    · have hsz : (elems.length + rest.length) * B ≤ reachBytes := by
        have := hw ((elems.length + rest.length) * B) (by simp [DataW.weights, hu, hB])
        exact this
      have hall : ∀ i, i < len → ∃ a', ∃ c, w.cells? 0 (a.add (i * P.cellsOf e)) (P.cellsOf e) = some c ∧ d.K w a' c ∧ Wf a' := by
        intro i hi
        have hx := hel i hi
        obtain ⟨y, hy⟩ : ∃ y, elems[i]? = some y := ⟨elems[i]'(by omega), List.getElem?_eq_getElem (by omega)⟩
        rw [hy] at hx
        obtain ⟨c, hc1, hc2⟩ := Option.bind_eq_some_iff.1 hx
        have hmem : y ∈ elems := List.mem_of_getElem? hy
        have hwy : ∀ n ∈ DataW.weights P e y.1, n ≤ reachBytes := by
          intro n hn
          refine hw n ?_
          simp only [DataW.weights, hu, List.mem_cons, List.mem_append]
          refine Or.inr (Or.inl ?_)
          have gen : ∀ l : List (DataW H), y.1 ∈ l → n ∈ DataW.weightsAll P e l := by
            intro l hl'
            induction l with
            | nil => cases hl'
            | cons z r ih =>
              simp only [DataW.weightsAll, List.mem_append]
              rcases List.mem_cons.1 hl' with h1 | h1
              · rw [← h1]; exact Or.inl hn
              · exact Or.inr (ih h1)
          exact gen _ (List.mem_map.2 ⟨y, hmem, rfl⟩)
        obtain ⟨a', hk, hwf⟩ := he.op hc2 hwy
        exact ⟨a', c, hc1, hk, hwf⟩
      have hch : ∃ xs : List α, xs.length = len ∧ ∀ i y, xs[i]? = some y → ∃ c, w.cells? 0 (a.add (i * P.cellsOf e)) (P.cellsOf e) = some c ∧ d.K w y c ∧ Wf y := by
        have : ∀ m, m ≤ len → ∃ xs : List α, xs.length = m ∧ ∀ i y, xs[i]? = some y → ∃ c, w.cells? 0 (a.add (i * P.cellsOf e)) (P.cellsOf e) = some c ∧ d.K w y c ∧ Wf y := by
          intro m
          induction m with
          | zero => intro _; exact ⟨[], rfl, by simp⟩
          | succ m ih =>
            intro hm'
            obtain ⟨xs, hxl, hxs⟩ := ih (by omega)
            obtain ⟨y, c, h1, h2, h3⟩ := hall m (by omega)
            refine ⟨xs ++ [y], by simp [hxl], fun i z hz => ?_⟩
            rcases Nat.lt_or_ge i m with hi | hi
            · rw [List.getElem?_append_left (by omega)] at hz
              exact hxs i z hz
            · have : i = m := by
                have := (List.getElem?_eq_some_iff.1 hz).1
                simp at this; omega
              subst this
              rw [List.getElem?_append_right (by omega)] at hz
              simp [hxl] at hz
              subst hz
              exact ⟨c, h1, h2, h3⟩
        exact this len (Nat.le_refl _)
      obtain ⟨xs, hxl, hxs⟩ := hch
      subst hxl
      refine ⟨xs, ⟨some a, cap, rfl, hl, rfl, ?_, fun _ => ⟨a, rfl, fun j p hj => ?_⟩⟩, ?_, fun y hy => ?_⟩
      · unfold maxLen at hm; omega
      · obtain ⟨c, h1, h2, _⟩ := hxs j p hj
        have hcl := d.K_len h2
        refine ⟨c, hcl, h2, fun i u hu' => ?_⟩
        rw [he.sz] at h1
        unfold World.cells? at h1
        split at h1
        · have hg := mapM_some_get h1 i i (by
            have := (List.getElem?_eq_some_iff.1 hu').1
            rw [List.getElem?_range (by omega)])
          rw [hu'] at hg
          rw [← hg]
          congr 1
          unfold Addr.add
          (repeat' split) <;> simp_all <;> omega
        · cases h1
      · have : xs.length * B ≤ (elems.length + rest.length) * B := Nat.mul_le_mul_right _ (by omega)
        have h2 : reachBytes = 140737488351232 := by decide
        omega
      · obtain ⟨i, hi⟩ := List.mem_iff_getElem?.1 hy
        obtain ⟨_, _, _, h3⟩ := hxs i y hi
        exact h3
structure OpnF {α : Type} (P : Program) (fs : List Field) (off : Nat) (d : Kd α) (Wf : α → Prop) : Prop where
  op : ∀ {H : Type} {enc : TypeId × Value → H} {w : World} {sp : Nat → Bool} {hd : Bool} {fuel : Nat} {cs : List Value} {xs : List (DataW H × List MemPlace)},
    cs.length = off + d.sz → xs.length = fs.length →
    (∀ (i : Nat) (f : Field), fs[i]? = some f → DataW.trod enc P w 0 sp hd fuel f.type ((cs.drop f.offset).take (P.cellsOf f.type)) = xs[i]?) →
    (∀ n ∈ DataW.weightsEach P (fs.map (·.type)) (xs.map (·.1)), n ≤ reachBytes) → ∃ a, d.K w a (cs.drop off) ∧ Wf a
theorem opnF_one {α : Type} {P : Program} {f : Field} {off : Nat} {d : Kd α} {Wf : α → Prop} (ho : f.offset = off) (h : Opn P f.type d Wf) : OpnF P [f] off d Wf where
  op := by
    intro H enc w sp hd fuel cs xs hl hxl hf hw
    obtain ⟨y, rfl⟩ : ∃ y, xs = [y] := by
      cases xs with
      | nil => simp at hxl
      | cons y r => cases r with
        | nil => exact ⟨y, rfl⟩
        | cons z r => simp at hxl
    have h0 := hf 0 f rfl
    simp only [List.getElem?_cons_zero] at h0
    rw [ho, h.sz, List.take_of_length_le (by rw [List.length_drop]; omega)] at h0
    exact h.op h0 (fun n hn => hw n (by simp [DataW.weightsEach]; exact hn))
theorem opnF_cons {α β : Type} {P : Program} {f : Field} {fs : List Field} {off off' : Nat} {d : Kd α} {d' : Kd β} {Wf : α → Prop} {Wf' : β → Prop} (ho : f.offset = off) (ho' : off' = off + d.sz)
    (h : Opn P f.type d Wf) (hs : OpnF P fs off' d' Wf') : OpnF P (f :: fs) off (Kd.pair d d') (WPr Wf Wf') where
  op := by
    intro H enc w sp hd fuel cs xs hl hxl hf hw
    subst ho'
    have hp : (Kd.pair d d').sz = d.sz + d'.sz := rfl
    rw [hp] at hl
    cases xs with
    | nil => simp at hxl
    | cons y r =>
      have h0 := hf 0 f rfl
      simp only [List.getElem?_cons_zero] at h0
      rw [ho, h.sz] at h0
      obtain ⟨a, hk, hwf⟩ := h.op h0 (fun n hn => hw n (by simp only [List.map_cons, DataW.weightsEach, List.mem_append]; exact Or.inl hn))
      obtain ⟨b, hk', hwf'⟩ := hs.op (cs := cs) (xs := r) (fuel := fuel) (enc := enc) (sp := sp) (hd := hd) (w := w) (by omega) (by simpa using hxl) (fun i g hg => by
        have := hf (i + 1) g (by simpa using hg)
        simpa using this) (fun n hn => hw n (by simp only [List.map_cons, DataW.weightsEach, List.mem_append]; exact Or.inr hn))
      refine ⟨(a, b), ⟨_, _, ?_, hk, hk'⟩, hwf, hwf'⟩
      rw [← List.drop_drop, List.take_append_drop]
theorem opn_struct {α β : Type} {P : Program} {t : TypeId} {fs : Array Field} {d : Kd α} {Wf : α → Prop} (hu : P.underlying t = some (.struct fs)) (hc : P.cellsOf t = d.sz) (h : OpnF P fs.toList 0 d Wf)
    (proj : β → α) (inv : α → β) (hpi : ∀ a, proj (inv a) = a) : Opn P t (Kd.iso d proj) (fun b => Wf (proj b)) where
  sz := hc
  op := by
    intro H enc w sp hd fuel cs x hx hw
    obtain ⟨xs, n, _, rfl, hl, hxl, hf⟩ := DataW.trod_struct hu hx
    obtain ⟨a, hk, hwf⟩ := h.op (cs := cs) (xs := xs) (by rw [hl, hc]; omega) (by rw [hxl]; simp) (fun i f hi => hf i f (by simpa using hi)) (fun n hn => hw n (by
      simp only [DataW.weights, hu]
      exact hn))
    refine ⟨inv a, ?_, ?_⟩
    · show d.K w (proj (inv a)) cs
      rw [hpi]; exact hk
    · show Wf (proj (inv a))
      rw [hpi]; exact hwf
end Go.Proofs.YtibphkgcdnconaaX
