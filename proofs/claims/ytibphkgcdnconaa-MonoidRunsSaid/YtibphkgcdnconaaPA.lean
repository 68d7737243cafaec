/- Monoids: what Wide, Valid (both) and Copy come to. -/
import Derived.Test.YtibphkgcdnconaaXPlain
import Derived.Test.YtibphkgcdnconaaSMonoidRuns
import Derived.Test.YtibphkgcdnconaaXOpn
namespace Go.Proofs.Ytibphkgcdnconaa.PureM
open Go Go.RowKit Go.Proofs.Ytibphkgcdnconaa.QMon Go.Proofs.YtibphkgcdnconaaW.PrintWords Go.Proofs.YtibphkgcdnconaaW.PrintLast Go.Proofs.YtibphkgcdnconaaW.PrintMore Go.Proofs.YtibphkgcdnconaaX
open Classical
set_option linter.unusedVariables false
set_option linter.unusedSimpArgs false

theorem up1 {i : Nat} (h : i < 4611686018427387904) : wrap64 ((i : Int) + 1) = ((i + 1 : Nat) : Int) := by
  rw [w64 (by omega) (by omega)]; omega
/-- Row u. -/
def row (g : List (List Int)) (u : Nat) : List Int := g.getD u []
theorem rd_row (g : List (List Int)) (u : Nat) : rd_L1 g (u : Int) = row g u := by
  unfold rd_L1 row; rw [Int.toNat_natCast]
theorem rd_row0 (g : List (List Int)) : rd_L1 g 0 = row g 0 := rd_row g 0
theorem row_mem {g : List (List Int)} {u : Nat} (h : u < g.length) : row g u ∈ g := by
  unfold row; rw [List.getD_eq_getElem?_getD, List.getElem?_eq_getElem h]; exact List.getElem_mem h

/-! ### rounds -/
theorem loop_go {β : Type} {F : Nat → Nat → Option β} {r : β} (n : Nat) (hstep : ∀ i, i < n → Ev (fun k => F k (i + 1)) r → Ev (fun k => F k i) r) (hend : Ev (fun k => F k n) r) :
    ∀ i, i ≤ n → Ev (fun k => F k i) r := by
  have main : ∀ d i, i + d = n → Ev (fun k => F k i) r := by
    intro d
    induction d with
    | zero => intro i hi; have : i = n := by omega
              subst this; exact hend
    | succ d ih => intro i hi; exact hstep i (by omega) (ih (i + 1) (by omega))
  intro i hi
  exact main (n - i) i (by omega)
/-- A search that stops at the first place that isn't right. -/
theorem loop_no {β : Type} {F : Nat → Nat → Option β} {r : β} {P : Nat → Prop} (n : Nat) (hn : ¬ ∀ j, j < n → P j) (hstep : ∀ i, i < n → (∀ j, j ≤ i → P j) → Ev (fun k => F k (i + 1)) r → Ev (fun k => F k i) r)
    (hstop : ∀ i, i < n → (∀ j, j < i → P j) → ¬ P i → Ev (fun k => F k i) r) : Ev (fun k => F k 0) r := by
  have main : ∀ d i, i + d = n → (∀ j, j < i → P j) → Ev (fun k => F k i) r := by
    intro d
    induction d with
    | zero => intro i hi hp; exact absurd (fun j hj => hp j (by omega)) hn
    | succ d ih =>
      intro i hi hp
      by_cases h : P i
      · have hp' : ∀ j, j ≤ i → P j := fun j hj => by
          by_cases e : j = i
          · subst e; exact h
          · exact hp j (by omega)
        exact hstep i (by omega) hp' (ih (i + 1) (by omega) (fun j hj => hp' j (by omega)))
      · exact hstop i (by omega) hp h
  exact main n 0 (by omega) (fun j hj => by omega)

/-! ### tables -/
/-- The product of a and b. -/
def mu (m : List (List Int)) (a b : Nat) : Nat := (rd (row m a) (b : Int)).toNat
/-- A table of n rows of n numbers below n. -/
def RowV (m : List (List Int)) (a : Nat) : Prop := (row m a).length = m.length ∧ ∀ b, b < m.length → 0 ≤ rd (row m a) (b : Int) ∧ rd (row m a) (b : Int) < (m.length : Int)
def TV (m : List (List Int)) : Prop := 1 ≤ m.length ∧ m.length ≤ 120 ∧ ∀ a, a < m.length → RowV m a
def OneV (m : List (List Int)) (a : Nat) : Prop := mu m 0 a = a ∧ mu m a 0 = a
def AssV (m : List (List Int)) (a b : Nat) : Prop := ∀ c, c < m.length → mu m (mu m a b) c = mu m a (mu m b c)
def VM (m : List (List Int)) : Prop := TV m ∧ ∀ a, a < m.length → OneV m a ∧ ∀ b, b < m.length → AssV m a b
theorem RowV.mu {m : List (List Int)} {a : Nat} (h : RowV m a) {b : Nat} (hb : b < m.length) : rd (row m a) (b : Int) = (PureM.mu m a b : Int) := by
  have := h.2 b hb
  unfold PureM.mu; omega
theorem RowV.lt {m : List (List Int)} {a : Nat} (h : RowV m a) {b : Nat} (hb : b < m.length) : PureM.mu m a b < m.length := by
  have := h.2 b hb
  unfold PureM.mu; omega
theorem TV.len {m : List (List Int)} (h : TV m) {a : Nat} (ha : a < m.length) : (row m a).length = m.length := (h.2.2 a ha).1
theorem TV.at {m : List (List Int)} (h : TV m) {a b : Nat} (ha : a < m.length) (hb : b < m.length) : rd (row m a) (b : Int) = (mu m a b : Int) := (h.2.2 a ha).mu hb
theorem TV.lt {m : List (List Int)} (h : TV m) {a b : Nat} (ha : a < m.length) (hb : b < m.length) : mu m a b < m.length := (h.2.2 a ha).lt hb

/-! ### the reference's Valid -/
theorem ref_l1_go (m : List (List Int)) (hm : m.length ≤ 120) (a : Nat) (ha : a < m.length) (h : RowV m a) (r : Bool) (hr : Ev (fun k => commodatumref10_Valid.l0 k m (m.length : Int) ((a + 1 : Nat) : Int)) r) :
    Ev (fun k => commodatumref10_Valid.l1 k m (m.length : Int) (a : Int) ((0 : Nat) : Int)) r := by
  refine loop_go (F := fun k i => commodatumref10_Valid.l1 k m (m.length : Int) (a : Int) ((i : Nat) : Int)) m.length (fun i hi hn => ?_) ?_ 0 (by omega)
  · refine Ev.step (fun k => by rw [commodatumref10_Valid.l1]) ?_
    have := h.2 i hi
    have hl := h.1
    refine Ev.pos (by omega) ?_
    refine Ev.pos (by omega) ?_
    refine Ev.pos (by omega) ?_
    refine Ev.pos (by omega) ?_
    refine Ev.pos (by rw [rd_row]; omega) ?_
    rw [rd_row, up1 (by omega)]
    refine Ev.neg (by omega) ?_
    exact Ev.neg (by omega) hn
  · refine Ev.step (fun k => by rw [commodatumref10_Valid.l1]) ?_
    refine Ev.neg (by omega) ?_
    rw [up1 (by omega)]
    exact hr
theorem ref_l1_no (m : List (List Int)) (hm : m.length ≤ 120) (a : Nat) (ha : a < m.length) (hl : (row m a).length = m.length) (h : ¬ ∀ b, b < m.length → 0 ≤ rd (row m a) (b : Int) ∧ rd (row m a) (b : Int) < (m.length : Int)) :
    Ev (fun k => commodatumref10_Valid.l1 k m (m.length : Int) (a : Int) ((0 : Nat) : Int)) false := by
  refine loop_no (F := fun k i => commodatumref10_Valid.l1 k m (m.length : Int) (a : Int) ((i : Nat) : Int)) m.length h (fun i hi hp hn => ?_) (fun i hi _ hp => ?_)
  · have := hp i (by omega)
    refine Ev.step (fun k => by rw [commodatumref10_Valid.l1]) ?_
    refine Ev.pos (by omega) ?_
    refine Ev.pos (by omega) ?_
    refine Ev.pos (by omega) ?_
    refine Ev.pos (by omega) ?_
    refine Ev.pos (by rw [rd_row]; omega) ?_
    rw [rd_row, up1 (by omega)]
    refine Ev.neg (by omega) ?_
    exact Ev.neg (by omega) hn
  · refine Ev.step (fun k => by rw [commodatumref10_Valid.l1]) ?_
    refine Ev.pos (by omega) ?_
    refine Ev.pos (by omega) ?_
    refine Ev.pos (by omega) ?_
    refine Ev.pos (by omega) ?_
    refine Ev.pos (by rw [rd_row]; omega) ?_
    rw [rd_row]
    by_cases h0 : rd (row m a) (i : Int) < 0
    · exact Ev.pos h0 (Ev.ret rfl)
    · exact Ev.neg h0 (Ev.pos (by omega) (Ev.ret rfl))
theorem ref_l4_step (m : List (List Int)) (h : TV m) {a b c : Nat} (ha : a < m.length) (hb : b < m.length) (hc : c < m.length) (r : Bool)
    (hy : mu m (mu m a b) c = mu m a (mu m b c) → Ev (fun k => commodatumref10_Valid.l4 k m (m.length : Int) (a : Int) (b : Int) ((c + 1 : Nat) : Int)) r) (hn : mu m (mu m a b) c ≠ mu m a (mu m b c) → r = false) :
    Ev (fun k => commodatumref10_Valid.l4 k m (m.length : Int) (a : Int) (b : Int) (c : Int)) r := by
  have hab := h.lt ha hb
  have hbc := h.lt hb hc
  have := h.2.1
  refine Ev.step (fun k => by rw [commodatumref10_Valid.l4]) ?_
  simp only [rd_row, h.at ha hb, h.at hb hc, h.len ha, h.len hb, h.len hab, h.at hab hc, h.at ha hbc]
  refine Ev.pos (by omega) ?_
  refine Ev.pos (by omega) ?_
  refine Ev.pos (by omega) ?_
  refine Ev.pos (by omega) ?_
  refine Ev.pos (by omega) ?_
  refine Ev.pos (by omega) ?_
  refine Ev.pos (by omega) ?_
  refine Ev.pos (by omega) ?_
  refine Ev.pos (by omega) ?_
  refine Ev.pos (by omega) ?_
  refine Ev.pos (by omega) ?_
  refine Ev.pos (by omega) ?_
  refine Ev.pos (by omega) ?_
  rw [up1 (by omega)]
  by_cases e : mu m (mu m a b) c = mu m a (mu m b c)
  · exact Ev.pos (by omega) (hy e)
  · exact Ev.neg (by omega) (Ev.ret (hn e).symm)
theorem ref_l4_go (m : List (List Int)) (h : TV m) {a b : Nat} (ha : a < m.length) (hb : b < m.length) (hA : AssV m a b) (r : Bool) (hr : Ev (fun k => commodatumref10_Valid.l3 k m (m.length : Int) (a : Int) ((b + 1 : Nat) : Int)) r) :
    Ev (fun k => commodatumref10_Valid.l4 k m (m.length : Int) (a : Int) (b : Int) ((0 : Nat) : Int)) r := by
  have := h.2.1
  refine loop_go (F := fun k i => commodatumref10_Valid.l4 k m (m.length : Int) (a : Int) (b : Int) ((i : Nat) : Int)) m.length (fun i hi hn => ?_) ?_ 0 (by omega)
  · exact ref_l4_step m h ha hb hi r (fun _ => hn) (fun hne => absurd (hA i hi) hne)
  · refine Ev.step (fun k => by rw [commodatumref10_Valid.l4]) ?_
    refine Ev.neg (by omega) ?_
    rw [up1 (by omega)]
    exact hr
theorem ref_l4_no (m : List (List Int)) (h : TV m) {a b : Nat} (ha : a < m.length) (hb : b < m.length) (hA : ¬ AssV m a b) :
    Ev (fun k => commodatumref10_Valid.l4 k m (m.length : Int) (a : Int) (b : Int) ((0 : Nat) : Int)) false := by
  refine loop_no (F := fun k i => commodatumref10_Valid.l4 k m (m.length : Int) (a : Int) (b : Int) ((i : Nat) : Int)) m.length hA (fun i hi hp hn => ?_) (fun i hi _ hp => ?_)
  · exact ref_l4_step m h ha hb hi false (fun _ => hn) (fun _ => rfl)
  · exact ref_l4_step m h ha hb hi false (fun e => absurd e hp) (fun _ => rfl)
theorem ref_l3_go (m : List (List Int)) (h : TV m) {a : Nat} (ha : a < m.length) (hA : ∀ b, b < m.length → AssV m a b) (r : Bool) (hr : Ev (fun k => commodatumref10_Valid.l2 k m (m.length : Int) ((a + 1 : Nat) : Int)) r) :
    Ev (fun k => commodatumref10_Valid.l3 k m (m.length : Int) (a : Int) ((0 : Nat) : Int)) r := by
  have := h.2.1
  refine loop_go (F := fun k i => commodatumref10_Valid.l3 k m (m.length : Int) (a : Int) ((i : Nat) : Int)) m.length (fun i hi hn => ?_) ?_ 0 (by omega)
  · refine Ev.step (fun k => by rw [commodatumref10_Valid.l3]) ?_
    refine Ev.pos (by omega) ?_
    exact ref_l4_go m h ha hi (hA i hi) r hn
  · refine Ev.step (fun k => by rw [commodatumref10_Valid.l3]) ?_
    refine Ev.neg (by omega) ?_
    rw [up1 (by omega)]
    exact hr
theorem ref_l3_no (m : List (List Int)) (h : TV m) {a : Nat} (ha : a < m.length) (hA : ¬ ∀ b, b < m.length → AssV m a b) :
    Ev (fun k => commodatumref10_Valid.l3 k m (m.length : Int) (a : Int) ((0 : Nat) : Int)) false := by
  refine loop_no (F := fun k i => commodatumref10_Valid.l3 k m (m.length : Int) (a : Int) ((i : Nat) : Int)) m.length hA (fun i hi hp hn => ?_) (fun i hi _ hp => ?_)
  · refine Ev.step (fun k => by rw [commodatumref10_Valid.l3]) ?_
    refine Ev.pos (by omega) ?_
    exact ref_l4_go m h ha hi (hp i (by omega)) false hn
  · refine Ev.step (fun k => by rw [commodatumref10_Valid.l3]) ?_
    refine Ev.pos (by omega) ?_
    exact ref_l4_no m h ha hi hp
theorem ref_l2_step (m : List (List Int)) (h : TV m) {a : Nat} (ha : a < m.length) (r : Bool)
    (hy : OneV m a → Ev (fun k => commodatumref10_Valid.l3 k m (m.length : Int) (a : Int) ((0 : Nat) : Int)) r) (hn : ¬ OneV m a → r = false) :
    Ev (fun k => commodatumref10_Valid.l2 k m (m.length : Int) (a : Int)) r := by
  have h1 := h.1
  have h0 : 0 < m.length := by omega
  have e0 : rd (row m a) 0 = (mu m a 0 : Int) := h.at ha h0
  refine Ev.step (fun k => by rw [commodatumref10_Valid.l2]) ?_
  simp only [rd_row, rd_row0, h.at h0 ha, h.len h0, h.len ha, e0]
  refine Ev.pos (by omega) ?_
  refine Ev.pos (by omega) ?_
  refine Ev.pos (by omega) ?_
  refine Ev.pos (by omega) ?_
  by_cases e : mu m 0 a = a
  · refine Ev.pos (by omega) ?_
    refine Ev.pos (by omega) ?_
    refine Ev.pos (by omega) ?_
    refine Ev.step (fun k => by rw [commodatumref10_Valid.j4]) ?_
    by_cases e1 : mu m a 0 = a
    · refine Ev.neg (by rw [e1]; simp) ?_
      exact hy ⟨e, e1⟩
    · refine Ev.pos (by simp; omega) ?_
      exact Ev.ret (hn (fun z => e1 z.2)).symm
  · refine Ev.neg (by omega) ?_
    refine Ev.step (fun k => by rw [commodatumref10_Valid.j4]) ?_
    exact Ev.pos rfl (Ev.ret (hn (fun z => e z.1)).symm)
def Mon2 (m : List (List Int)) (a : Nat) : Prop := OneV m a ∧ ∀ b, b < m.length → AssV m a b
theorem ref_l2 (m : List (List Int)) (h : TV m) : Ev (fun k => commodatumref10_Valid.l2 k m (m.length : Int) ((0 : Nat) : Int)) (decide (∀ a, a < m.length → Mon2 m a)) := by
  by_cases hA : ∀ a, a < m.length → Mon2 m a
  · rw [decide_eq_true hA]
    refine loop_go (F := fun k i => commodatumref10_Valid.l2 k m (m.length : Int) ((i : Nat) : Int)) m.length (fun i hi hn => ?_) ?_ 0 (by omega)
    · exact ref_l2_step m h hi true (fun _ => ref_l3_go m h hi (hA i hi).2 true hn) (fun z => absurd (hA i hi).1 z)
    · refine Ev.step (fun k => by rw [commodatumref10_Valid.l2]) ?_
      exact Ev.neg (by omega) (Ev.ret rfl)
  · rw [decide_eq_false hA]
    refine loop_no (F := fun k i => commodatumref10_Valid.l2 k m (m.length : Int) ((i : Nat) : Int)) m.length hA (fun i hi hp hn => ?_) (fun i hi _ hp => ?_)
    · exact ref_l2_step m h hi false (fun _ => ref_l3_go m h hi (hp i (by omega)).2 false hn) (fun _ => rfl)
    · refine ref_l2_step m h hi false (fun z => ref_l3_no m h hi (fun z2 => hp ⟨z, z2⟩)) (fun _ => rfl)
theorem refValid_ev (m : List (List Int)) : Ev (fun k => commodatumref10_Valid.f k m) (decide (VM m)) := by
  unfold commodatumref10_Valid.f
  by_cases h1 : m.length < 1
  · rw [decide_eq_false (fun h : VM m => by have := h.1.1; omega)]
    refine Ev.pos (by omega) ?_
    refine Ev.step (fun k => by rw [commodatumref10_Valid.j0]) ?_
    exact Ev.pos rfl (Ev.ret rfl)
  refine Ev.neg (by omega) ?_
  by_cases h2 : m.length > 120
  · rw [decide_eq_false (fun h : VM m => by have := h.1.2.1; omega)]
    refine Ev.step (fun k => by rw [commodatumref10_Valid.j0]) ?_
    exact Ev.pos (decide_eq_true (by omega)) (Ev.ret rfl)
  refine Ev.step (fun k => by rw [commodatumref10_Valid.j0]) ?_
  refine Ev.neg (by simp; omega) ?_
  by_cases hR : ∀ a, a < m.length → RowV m a
  · have hT : TV m := ⟨by omega, by omega, hR⟩
    have e : decide (VM m) = decide (∀ a, a < m.length → Mon2 m a) := by
      congr 1; exact propext ⟨fun h => h.2, fun h => ⟨hT, h⟩⟩
    rw [e]
    refine loop_go (F := fun k i => commodatumref10_Valid.l0 k m (m.length : Int) ((i : Nat) : Int)) m.length (fun i hi hn => ?_) ?_ 0 (by omega)
    · refine Ev.step (fun k => by rw [commodatumref10_Valid.l0]) ?_
      refine Ev.pos (by omega) ?_
      refine Ev.pos (by omega) ?_
      refine Ev.pos (by omega) ?_
      refine Ev.pos (by rw [rd_row, (hR i hi).1]) ?_
      exact ref_l1_go m (by omega) i hi (hR i hi) _ hn
    · refine Ev.step (fun k => by rw [commodatumref10_Valid.l0]) ?_
      exact Ev.neg (by omega) (ref_l2 m hT)
  · rw [decide_eq_false (fun h : VM m => hR h.1.2.2)]
    refine loop_no (F := fun k i => commodatumref10_Valid.l0 k m (m.length : Int) ((i : Nat) : Int)) m.length hR (fun i hi hp hn => ?_) (fun i hi _ hp => ?_)
    · refine Ev.step (fun k => by rw [commodatumref10_Valid.l0]) ?_
      refine Ev.pos (by omega) ?_
      refine Ev.pos (by omega) ?_
      refine Ev.pos (by omega) ?_
      refine Ev.pos (by rw [rd_row, (hp i (by omega)).1]) ?_
      exact ref_l1_go m (by omega) i hi (hp i (by omega)) _ hn
    · refine Ev.step (fun k => by rw [commodatumref10_Valid.l0]) ?_
      refine Ev.pos (by omega) ?_
      refine Ev.pos (by omega) ?_
      refine Ev.pos (by omega) ?_
      by_cases hl : (row m i).length = m.length
      · refine Ev.pos (by rw [rd_row, hl]) ?_
        exact ref_l1_no m (by omega) i hi hl (fun z => hp ⟨hl, z⟩)
      · exact Ev.neg (by rw [rd_row]; omega) (Ev.ret rfl)
end Go.Proofs.Ytibphkgcdnconaa.PureM
