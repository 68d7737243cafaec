/- Monoids: the program's own Valid, Wide, Copy. -/
import Derived.Test.YtibphkgcdnconaaPA
namespace Go.Proofs.Ytibphkgcdnconaa.PureM
open Go Go.RowKit Go.Proofs.Ytibphkgcdnconaa.QMon Go.Proofs.YtibphkgcdnconaaW.PrintWords Go.Proofs.YtibphkgcdnconaaW.PrintLast Go.Proofs.YtibphkgcdnconaaW.PrintMore Go.Proofs.YtibphkgcdnconaaX
open Classical
set_option linter.unusedVariables false
set_option linter.unusedSimpArgs false

theorem first_bad {P : Nat → Prop} {n : Nat} (h : ¬ ∀ j, j < n → P j) : ∃ i, i < n ∧ ¬ P i ∧ ∀ j, j < i → P j := by
  induction n with
  | zero => exact absurd (fun j hj => by omega) h
  | succ n ih =>
    by_cases h' : ∀ j, j < n → P j
    · refine ⟨n, by omega, fun hp => h (fun j hj => ?_), h'⟩
      by_cases e : j = n
      · subst e; exact hp
      · exact h' j (by omega)
    · obtain ⟨i, hi, h1, h2⟩ := ih h'
      exact ⟨i, by omega, h1, h2⟩

theorem any_loop {F : Nat → Nat → Option Int} {P : Nat → Prop} (n : Nat) (hyes : ∀ i, i < n → P i → Ev (fun k => F k i) (i : Int)) (hno : ∀ i, i < n → ¬ P i → ∀ r, Ev (fun k => F k (i + 1)) r → Ev (fun k => F k i) r)
    (hend : Ev (fun k => F k n) (-1)) (b : Bool) (hb : b = true ↔ ∃ i, i < n ∧ P i) : Ev (fun k => (F k 0).bind fun t => some (decide (t ≥ 0))) b := by
  by_cases h : ∃ i, i < n ∧ P i
  · rw [hb.2 h]
    obtain ⟨i, h1, h2, h3⟩ := first_bad (n := n) (P := fun j => ¬ P j) (fun z => by obtain ⟨i, hi, hp⟩ := h; exact z i hi hp)
    have hi := loop_go (F := F) (r := (i : Int)) i (fun j hj hn => hno j (by omega) (h3 j hj) _ hn) (hyes i h1 (Classical.not_not.1 h2)) 0 (by omega)
    refine Ev.bind hi (Ev.ret (decide_eq_true (by omega)))
  · have hf : b = false := by
      cases e : b with
      | false => rfl
      | true => exact absurd (hb.1 e) h
    rw [hf]
    have hi := loop_go (F := F) (r := (-1 : Int)) n (fun j hj hn => hno j hj (fun z => h ⟨j, hj, z⟩) _ hn) hend 0 (by omega)
    exact Ev.bind hi (Ev.ret (by decide))

/-! ### Valid -/
def InR (l : List Int) (e : Int) (i : Nat) : Prop := 0 ≤ rd l (i : Int) ∧ rd l (i : Int) < e
theorem out_ev (x e : Int) : monoid_Valid_1.f x e = some (decide (¬ (0 ≤ x ∧ x < e))) := by
  unfold monoid_Valid_1.f
  by_cases h : x < 0
  · rw [if_pos h]
    have : decide (¬ (0 ≤ x ∧ x < e)) = true := decide_eq_true (by omega)
    rw [this]
  · rw [if_neg h]
    congr 1
    apply decide_eq_decide.2
    omega
theorem idx_go (l : List Int) (hl : l.length < 1000000) (e : Int) (i : Nat) (hi : i ≤ l.length) (h : ∀ j, j < i → InR l e j) (r : Int) (hr : Ev (fun k => slices_IndexFunc_int_int_at_monoid_Valid_1.l0 k l (l.length : Int) (i : Int) e) r) :
    Ev (fun k => slices_IndexFunc_int_int_at_monoid_Valid_1.l0 k l (l.length : Int) ((0 : Nat) : Int) e) r := by
  refine loop_go (F := fun k j => slices_IndexFunc_int_int_at_monoid_Valid_1.l0 k l (l.length : Int) ((j : Nat) : Int) e) i (fun j hj hn => ?_) hr 0 (by omega)
  refine Ev.step (fun k => by rw [slices_IndexFunc_int_int_at_monoid_Valid_1.l0]) ?_
  refine Ev.pos (by omega) ?_
  refine Ev.pos (by omega) ?_
  refine Ev.pos (by omega) ?_
  have hz : decide (¬ (0 ≤ rd l (j : Int) ∧ rd l (j : Int) < e)) = false := decide_eq_false (fun z => z (h j hj))
  rw [out_ev, hz, up1 (by omega)]
  exact Ev.sb (Ev.neg (by simp) hn)
theorem contains_ev (l : List Int) (hl : l.length < 1000000) (e : Int) : Ev (fun k => slices_ContainsFunc_int_int_at_monoid_Valid_1.f k l e) (!decide (∀ i, i < l.length → InR l e i)) := by
  unfold slices_ContainsFunc_int_int_at_monoid_Valid_1.f slices_IndexFunc_int_int_at_monoid_Valid_1.f
  by_cases h : ∀ i, i < l.length → InR l e i
  · have hi : Ev (fun k => slices_IndexFunc_int_int_at_monoid_Valid_1.l0 k l (l.length : Int) ((0 : Nat) : Int) e) (-1) := by
      refine idx_go l hl e l.length (Nat.le_refl _) h _ ?_
      refine Ev.step (fun k => by rw [slices_IndexFunc_int_int_at_monoid_Valid_1.l0]) ?_
      exact Ev.neg (by omega) (Ev.ret rfl)
    refine Ev.bind hi ?_
    rw [decide_eq_true h]
    exact Ev.ret (by decide)
  · obtain ⟨i, h1, h2, h3⟩ := first_bad h
    have hi : Ev (fun k => slices_IndexFunc_int_int_at_monoid_Valid_1.l0 k l (l.length : Int) ((0 : Nat) : Int) e) (i : Int) := by
      refine idx_go l hl e i (by omega) h3 _ ?_
      refine Ev.step (fun k => by rw [slices_IndexFunc_int_int_at_monoid_Valid_1.l0]) ?_
      refine Ev.pos (by omega) ?_
      refine Ev.pos (by omega) ?_
      refine Ev.pos (by omega) ?_
      have hz : decide (¬ (0 ≤ rd l (i : Int) ∧ rd l (i : Int) < e)) = true := decide_eq_true h2
      rw [out_ev, hz]
      exact Ev.sb (Ev.pos rfl (Ev.ret rfl))
    refine Ev.bind hi ?_
    rw [decide_eq_false h]
    exact Ev.ret (by simp)
theorem own_l3_step (m : List (List Int)) (h : TV m) {a b c : Nat} (ha : a < m.length) (hb : b < m.length) (hc : c < m.length) (r : Bool)
    (hy : mu m (mu m a b) c = mu m a (mu m b c) → Ev (fun k => monoid_Valid.l3 k m (a : Int) (b : Int) (m.length : Int) (a : Int) (m.length : Int) (b : Int) (m.length : Int) ((c + 1 : Nat) : Int)) r) (hn : mu m (mu m a b) c ≠ mu m a (mu m b c) → r = false) :
    Ev (fun k => monoid_Valid.l3 k m (a : Int) (b : Int) (m.length : Int) (a : Int) (m.length : Int) (b : Int) (m.length : Int) (c : Int)) r := by
  have hab := h.lt ha hb
  have hbc := h.lt hb hc
  have := h.2.1
  refine Ev.step (fun k => by rw [monoid_Valid.l3]) ?_
  simp only [rd_row, h.at ha hb, h.at hb hc, h.len ha, h.len hb, h.len hab, h.at hab hc, h.at ha hbc]
  refine Ev.pos (by omega) ?_
  refine Ev.pos (by omega) ?_
  refine Ev.pos (by omega) ?_
  refine Ev.pos (by omega) ?_
  refine Ev.pos (by omega) ?_
  refine Ev.pos (by omega) ?_
  refine Ev.pos (by omega) ?_
  refine Ev.pos (by omega) ?_
  refine Ev.pos (by omega) ?_
  refine Ev.pos (by omega) ?_
  refine Ev.pos (by omega) ?_
  refine Ev.pos (by omega) ?_
  refine Ev.pos (by omega) ?_
  rw [up1 (by omega)]
  by_cases e : mu m (mu m a b) c = mu m a (mu m b c)
  · exact Ev.pos (by omega) (hy e)
  · exact Ev.neg (by omega) (Ev.ret (hn e).symm)
theorem own_l3_go (m : List (List Int)) (h : TV m) {a b : Nat} (ha : a < m.length) (hb : b < m.length) (hA : AssV m a b) (r : Bool) (hr : Ev (fun k => monoid_Valid.l2 k m (a : Int) (m.length : Int) (a : Int) (m.length : Int) ((b + 1 : Nat) : Int)) r) :
    Ev (fun k => monoid_Valid.l3 k m (a : Int) (b : Int) (m.length : Int) (a : Int) (m.length : Int) (b : Int) (m.length : Int) ((0 : Nat) : Int)) r := by
  have := h.2.1
  refine loop_go (F := fun k i => monoid_Valid.l3 k m (a : Int) (b : Int) (m.length : Int) (a : Int) (m.length : Int) (b : Int) (m.length : Int) ((i : Nat) : Int)) m.length (fun i hi hn => ?_) ?_ 0 (by omega)
  · exact own_l3_step m h ha hb hi r (fun _ => hn) (fun hne => absurd (hA i hi) hne)
  · refine Ev.step (fun k => by rw [monoid_Valid.l3]) ?_
    refine Ev.neg (by omega) ?_
    rw [up1 (by omega)]
    exact hr
theorem own_l3_no (m : List (List Int)) (h : TV m) {a b : Nat} (ha : a < m.length) (hb : b < m.length) (hA : ¬ AssV m a b) :
    Ev (fun k => monoid_Valid.l3 k m (a : Int) (b : Int) (m.length : Int) (a : Int) (m.length : Int) (b : Int) (m.length : Int) ((0 : Nat) : Int)) false := by
  refine loop_no (F := fun k i => monoid_Valid.l3 k m (a : Int) (b : Int) (m.length : Int) (a : Int) (m.length : Int) (b : Int) (m.length : Int) ((i : Nat) : Int)) m.length hA (fun i hi hp hn => ?_) (fun i hi _ hp => ?_)
  · exact own_l3_step m h ha hb hi false (fun _ => hn) (fun _ => rfl)
  · exact own_l3_step m h ha hb hi false (fun e => absurd e hp) (fun _ => rfl)
theorem own_l2_go (m : List (List Int)) (h : TV m) {a : Nat} (ha : a < m.length) (hA : ∀ b, b < m.length → AssV m a b) (r : Bool) (hr : Ev (fun k => monoid_Valid.l1 k m (m.length : Int) ((a + 1 : Nat) : Int)) r) :
    Ev (fun k => monoid_Valid.l2 k m (a : Int) (m.length : Int) (a : Int) (m.length : Int) ((0 : Nat) : Int)) r := by
  have := h.2.1
  refine loop_go (F := fun k i => monoid_Valid.l2 k m (a : Int) (m.length : Int) (a : Int) (m.length : Int) ((i : Nat) : Int)) m.length (fun i hi hn => ?_) ?_ 0 (by omega)
  · refine Ev.step (fun k => by rw [monoid_Valid.l2]) ?_
    refine Ev.pos (by omega) ?_
    exact own_l3_go m h ha hi (hA i hi) r hn
  · refine Ev.step (fun k => by rw [monoid_Valid.l2]) ?_
    refine Ev.neg (by omega) ?_
    rw [up1 (by omega)]
    exact hr
theorem own_l2_no (m : List (List Int)) (h : TV m) {a : Nat} (ha : a < m.length) (hA : ¬ ∀ b, b < m.length → AssV m a b) :
    Ev (fun k => monoid_Valid.l2 k m (a : Int) (m.length : Int) (a : Int) (m.length : Int) ((0 : Nat) : Int)) false := by
  refine loop_no (F := fun k i => monoid_Valid.l2 k m (a : Int) (m.length : Int) (a : Int) (m.length : Int) ((i : Nat) : Int)) m.length hA (fun i hi hp hn => ?_) (fun i hi _ hp => ?_)
  · refine Ev.step (fun k => by rw [monoid_Valid.l2]) ?_
    refine Ev.pos (by omega) ?_
    exact own_l3_go m h ha hi (hp i (by omega)) false hn
  · refine Ev.step (fun k => by rw [monoid_Valid.l2]) ?_
    refine Ev.pos (by omega) ?_
    exact own_l3_no m h ha hi hp
theorem own_l1 (m : List (List Int)) (h : TV m) : Ev (fun k => monoid_Valid.l1 k m (m.length : Int) ((0 : Nat) : Int)) (decide (∀ a, a < m.length → ∀ b, b < m.length → AssV m a b)) := by
  by_cases hA : ∀ a, a < m.length → ∀ b, b < m.length → AssV m a b
  · rw [decide_eq_true hA]
    refine loop_go (F := fun k i => monoid_Valid.l1 k m (m.length : Int) ((i : Nat) : Int)) m.length (fun i hi hn => ?_) ?_ 0 (by omega)
    · refine Ev.step (fun k => by rw [monoid_Valid.l1]) ?_
      exact Ev.pos (by omega) (own_l2_go m h hi (hA i hi) true hn)
    · refine Ev.step (fun k => by rw [monoid_Valid.l1]) ?_
      exact Ev.neg (by omega) (Ev.ret rfl)
  · rw [decide_eq_false hA]
    refine loop_no (F := fun k i => monoid_Valid.l1 k m (m.length : Int) ((i : Nat) : Int)) m.length hA (fun i hi hp hn => ?_) (fun i hi _ hp => ?_)
    · refine Ev.step (fun k => by rw [monoid_Valid.l1]) ?_
      exact Ev.pos (by omega) (own_l2_go m h hi (hp i (by omega)) false hn)
    · refine Ev.step (fun k => by rw [monoid_Valid.l1]) ?_
      exact Ev.pos (by omega) (own_l2_no m h hi hp)
def Row1 (m : List (List Int)) (a : Nat) : Prop := RowV m a ∧ OneV m a
theorem own_l0_step (m : List (List Int)) (h1 : 1 ≤ m.length) (h2 : m.length ≤ 120) {a : Nat} (ha : a < m.length) (h0 : ∀ j, j < a → Row1 m j) (r : Bool)
    (hy : Row1 m a → Ev (fun k => monoid_Valid.l0 k m m (m.length : Int) ((a + 1 : Nat) : Int) (m.length : Int)) r) (hn : ¬ Row1 m a → r = false) :
    Ev (fun k => monoid_Valid.l0 k m m (m.length : Int) (a : Int) (m.length : Int)) r := by
  refine Ev.step (fun k => by rw [monoid_Valid.l0]) ?_
  simp only [rd_row, rd_row0]
  refine Ev.pos (by omega) ?_
  refine Ev.pos (by omega) ?_
  refine Ev.pos (by omega) ?_
  by_cases hl : (row m a).length = m.length
  · refine Ev.pos (by omega) ?_
    refine Ev.bind (contains_ev (row m a) (by omega) (m.length : Int)) ?_
    by_cases hr : ∀ i, i < (row m a).length → InR (row m a) (m.length : Int) i
    · rw [decide_eq_true hr]
      have hR : RowV m a := ⟨hl, fun b hb => hr b (by omega)⟩
      have hR0 : RowV m 0 := by
        by_cases e : a = 0
        · subst e; exact hR
        · exact (h0 0 (by omega)).1
      refine Ev.neg (by simp) ?_
      refine Ev.pos (by omega) ?_
      have e0 : rd (row m a) 0 = (mu m a 0 : Int) := hR.mu (b := 0) (by omega)
      rw [e0, hR0.mu ha, up1 (by omega)]
      by_cases c1 : mu m a 0 = a
      · refine Ev.pos (by omega) ?_
        refine Ev.pos (by omega) ?_
        refine Ev.pos (by have := hR0.1; omega) ?_
        by_cases c2 : mu m 0 a = a
        · exact Ev.pos (by omega) (hy ⟨hR, c2, c1⟩)
        · exact Ev.neg (by omega) (Ev.ret (hn (fun z => c2 z.2.1)).symm)
      · exact Ev.neg (by omega) (Ev.ret (hn (fun z => c1 z.2.2)).symm)
    · rw [decide_eq_false hr]
      refine Ev.pos (by simp) ?_
      exact Ev.ret (hn (fun z => hr (fun i hi => z.1.2 i (by omega)))).symm
  · refine Ev.neg (by omega) ?_
    exact Ev.ret (hn (fun z => hl z.1.1)).symm
theorem ownValid_ev (m : List (List Int)) : Ev (fun k => monoid_Valid.f k m) (decide (VM m)) := by
  unfold monoid_Valid.f
  by_cases h1 : m.length < 1
  · rw [decide_eq_false (fun h : VM m => by have := h.1.1; omega)]
    refine Ev.pos (by omega) ?_
    refine Ev.step (fun k => by rw [monoid_Valid.j0]) ?_
    exact Ev.pos rfl (Ev.ret rfl)
  refine Ev.neg (by omega) ?_
  by_cases h2 : m.length > 120
  · rw [decide_eq_false (fun h : VM m => by have := h.1.2.1; omega)]
    refine Ev.step (fun k => by rw [monoid_Valid.j0]) ?_
    exact Ev.pos (decide_eq_true (by omega)) (Ev.ret rfl)
  refine Ev.step (fun k => by rw [monoid_Valid.j0]) ?_
  refine Ev.neg (by simp; omega) ?_
  by_cases hR : ∀ a, a < m.length → Row1 m a
  · have hT : TV m := ⟨by omega, by omega, fun a ha => (hR a ha).1⟩
    have e : decide (VM m) = decide (∀ a, a < m.length → ∀ b, b < m.length → AssV m a b) := by
      congr 1; exact propext ⟨fun h a ha => (h.2 a ha).2, fun h => ⟨hT, fun a ha => ⟨(hR a ha).2, h a ha⟩⟩⟩
    rw [e]
    refine loop_go (F := fun k i => monoid_Valid.l0 k m m (m.length : Int) ((i : Nat) : Int) (m.length : Int)) m.length (fun i hi hn => ?_) ?_ 0 (by omega)
    · exact own_l0_step m (by omega) (by omega) hi (fun j hj => hR j (by omega)) _ (fun _ => hn) (fun z => absurd (hR i hi) z)
    · refine Ev.step (fun k => by rw [monoid_Valid.l0]) ?_
      exact Ev.neg (by omega) (own_l1 m hT)
  · rw [decide_eq_false (fun h : VM m => hR (fun a ha => ⟨h.1.2.2 a ha, (h.2 a ha).1⟩))]
    refine loop_no (F := fun k i => monoid_Valid.l0 k m m (m.length : Int) ((i : Nat) : Int) (m.length : Int)) m.length hR (fun i hi hp hn => ?_) (fun i hi hp0 hp => ?_)
    · exact own_l0_step m (by omega) (by omega) hi (fun j hj => hp j (by omega)) _ (fun _ => hn) (fun _ => rfl)
    · exact own_l0_step m (by omega) (by omega) hi hp0 _ (fun z => absurd z hp) (fun _ => rfl)

/-! ### Wide -/
def esum (g : List (List Int)) : Nat := sumN g.length (fun u => (row g u).length)
theorem wide_loop (g : List (List Int)) (hl : ∀ u, u < g.length → (row g u).length * 8 ≤ 140737488351232) (hg : g.length * 24 ≤ 140737488351232) :
    ∀ (d i : Nat), i + d = g.length → ∃ b, Ev (fun k => commodatumlaw10_Wide.l0 k g ((g.length + sumN i (fun u => (row g u).length) : Nat) : Int) (i : Int)) b ∧ (b = false → g.length + esum g ≤ 20000) := by
  intro d
  induction d with
  | zero =>
    intro i hi
    have hi' : i = g.length := by omega
    subst hi'
    refine ⟨decide (((g.length + esum g : Nat) : Int) > 20000), ?_, ?_⟩
    · refine Ev.step (fun k => by rw [commodatumlaw10_Wide.l0]) ?_
      refine Ev.neg (by omega) ?_
      exact Ev.ret rfl
    · intro h
      have := of_decide_eq_false h
      omega
  | succ d ih =>
    intro i hi
    have hli := hl i (by omega)
    by_cases hn : g.length + sumN i (fun u => (row g u).length) ≤ 20000
    · obtain ⟨b, hb, h⟩ := ih (i + 1) (by omega)
      refine ⟨b, ?_, h⟩
      refine Ev.step (fun k => by rw [commodatumlaw10_Wide.l0]) ?_
      refine Ev.pos (by omega) ?_
      refine Ev.pos (by omega) ?_
      refine Ev.pos (by omega) ?_
      rw [rd_row, up1 (by omega), w64 (by omega) (by omega)]
      have e : ((g.length + sumN i (fun u => (row g u).length) : Nat) : Int) + ((row g i).length : Int) = ((g.length + sumN (i + 1) (fun u => (row g u).length) : Nat) : Int) := by
        rw [sumN]; omega
      rw [e]
      exact hb
    · refine ⟨true, ?_, fun h => by cases h⟩
      refine Ev.step (fun k => by rw [commodatumlaw10_Wide.l0]) ?_
      refine Ev.pos (by omega) ?_
      refine Ev.neg (by omega) ?_
      exact Ev.ret (decide_eq_true (by omega))
theorem wide_ev (g : List (List Int)) (hg : WSl 24 (WSl 8 (WInt .i64)) g) : ∃ b, Ev (fun k => commodatumlaw10_Wide.f k g) b ∧ (b = false → g.length + esum g ≤ 20000) := by
  obtain ⟨b, hb, h⟩ := wide_loop g (fun u hu => (hg.2 _ (row_mem hu)).1) hg.1 g.length 0 (by omega)
  refine ⟨b, ?_, h⟩
  unfold commodatumlaw10_Wide.f
  simpa [sumN] using hb

/-! ### Copy -/
theorem copy_ev (g : List (List Int)) (hn : g.length ≤ 20000) (hl : ∀ u, u < g.length → (row g u).length ≤ 20000) : Ev (fun k => commodatumlaw10_Copy.f k g) g := by
  unfold commodatumlaw10_Copy.f
  have h := loop_go (F := fun k i => commodatumlaw10_Copy.l0 k g (g.take i) ((i : Nat) : Int)) (r := g) g.length (fun i hi hnx => ?_) ?_ 0 (by omega)
  · exact h
  · refine Ev.step (fun k => by rw [commodatumlaw10_Copy.l0]) ?_
    have := hl i hi
    refine Ev.pos (by omega) ?_
    refine Ev.sb ?_
    refine Ev.pos (by omega) ?_
    refine Ev.pos (by rw [rd_row]; simp; omega) ?_
    refine Ev.pos (by rw [List.length_take]; omega) ?_
    rw [rd_row, up1 (by omega), List.nil_append]
    have e : g.take i ++ [row g i] = g.take (i + 1) := by
      rw [List.take_add_one]
      congr 1
      unfold row
      rw [List.getD_eq_getElem?_getD, List.getElem?_eq_getElem hi]; rfl
    rw [e]
    exact hnx
  · refine Ev.step (fun k => by rw [commodatumlaw10_Copy.l0]) ?_
    refine Ev.neg (by omega) ?_
    exact Ev.ret (by rw [List.take_length])
end Go.Proofs.Ytibphkgcdnconaa.PureM
