import Derived.Test.YtibphkgcdnconaaSMonoidParts
import Derived.Test.YtibphkgcdnconaaPC
import Derived.Test.YtibphkgcdnconaaPD
namespace Go.Proofs.Ytibphkgcdnconaa.Pure
open Go Go.RowKit Go.Proofs.Ytibphkgcdnconaa.QMon Go.Proofs.YtibphkgcdnconaaW.PrintWords Go.Proofs.YtibphkgcdnconaaW.PrintLast Go.Proofs.YtibphkgcdnconaaW.PrintMore Go.Proofs.YtibphkgcdnconaaX Go.Proofs.Ytibphkgcdnconaa.PureM
open Classical
set_option linter.unusedVariables false
set_option linter.unusedSimpArgs false

/-! ### how often a number is in a list -/
theorem count_lt {l : List Nat} (h : l.Pairwise (· < ·)) (a : Nat) : l.count a ≤ 1 := by
  induction l with
  | nil => simp
  | cons b l ih =>
    have hp := List.pairwise_cons.1 h
    rw [List.count_cons]
    by_cases e : b = a
    · subst e
      have : l.count b = 0 := List.count_eq_zero.2 (fun hm => Nat.lt_irrefl _ (hp.1 _ hm))
      rw [this]; simp
    · have := ih hp.2
      simp [e]; exact this
theorem count_flat (f : Nat → List Nat) (a : Nat) (I : List Nat) (hI : I.Pairwise (· < ·)) (hf : ∀ x, (f x).Pairwise (· < ·)) (h1 : ∀ x y, x ∈ I → y ∈ I → a ∈ f x → a ∈ f y → x = y) :
    ((I.map f).flatten).count a ≤ 1 := by
  induction I with
  | nil => simp
  | cons x I ih =>
    have hp := List.pairwise_cons.1 hI
    have ih' := ih hp.2 (fun y z hy hz => h1 y z (List.mem_cons_of_mem _ hy) (List.mem_cons_of_mem _ hz))
    rw [List.map_cons, List.flatten_cons, List.count_append]
    by_cases hm : a ∈ f x
    · have : ((I.map f).flatten).count a = 0 := by
        refine List.count_eq_zero.2 (fun hz => ?_)
        obtain ⟨l, hl, ha⟩ := List.mem_flatten.1 hz
        obtain ⟨y, hy, e⟩ := List.mem_map.1 hl
        subst e
        have := h1 x y (List.mem_cons_self) (List.mem_cons_of_mem _ hy) hm ha
        subst this
        exact Nat.lt_irrefl _ (hp.1 _ hy)
      have := count_lt (hf x) a
      omega
    · have : (f x).count a = 0 := List.count_eq_zero.2 hm
      omega
/-- How often each number was met. -/
def met (n : Nat) (V : List Nat) : List Int := tab n (fun a => ((V.count a : Nat) : Int))
theorem met_length (n : Nat) (V : List Nat) : (met n V).length = n := by unfold met; simp
theorem met_nil (n : Nat) : List.replicate n (0 : Int) = met n [] := by
  rw [replicate_tab]; unfold met; simp
theorem met_set {n a : Nat} (h : a < n) (V : List Nat) (hc : V.count a ≤ 1) : (met n V).set a (wrap64 (rd (met n V) (a : Int) + 1)) = met n (V ++ [a]) := by
  unfold met
  rw [rd_tab h, w64 (by omega) (by omega), tab_set]
  refine tab_congr (fun j hj => ?_)
  rw [List.count_append]
  by_cases e : j = a
  · subst e; simp
  · rw [if_neg e]
    have : List.count j [a] = 0 := List.count_eq_zero.2 (by simp [e])
    omega

/-! ### In -/
theorem in_ev (l : List Nat) (hl : l.length < 1000000) (v : Nat) (hv : v ∈ l) : Ev (fun k => commodatumref10_In.f k (ints l) (v : Int)) true := by
  unfold commodatumref10_In.f
  obtain ⟨i0, hi0, e0⟩ := List.getElem_of_mem hv
  obtain ⟨i, h1, h2, h3⟩ := first_bad (n := l.length) (P := fun j => rd (ints l) (j : Int) ≠ (v : Int)) (fun z => z i0 hi0 (by rw [rd_ints hi0, e0]))
  clear hi0 e0
  refine loop_go (F := fun k i => commodatumref10_In.l0 k (ints l) (v : Int) ((i : Nat) : Int)) i (fun j hj hn => ?_) ?_ 0 (by omega)
  · refine Ev.step (fun k => by rw [commodatumref10_In.l0]) ?_
    have hne := h3 j hj
    refine Ev.pos (by rw [ints_length]; omega) ?_
    refine Ev.pos (by omega) ?_
    rw [up1 (by omega)]
    exact Ev.neg hne hn
  · refine Ev.step (fun k => by rw [commodatumref10_In.l0]) ?_
    refine Ev.pos (by rw [ints_length]; omega) ?_
    refine Ev.pos (by omega) ?_
    exact Ev.pos (Classical.not_not.1 h2) (Ev.ret rfl)

section
variable {m : List (List Int)} (h : VM m)
include h
omit h in
theorem grp_len (_ : VM m) : (grp m).length = (idem m).length := by unfold grp; simp
omit h in
theorem row_grp {i : Nat} (hi : i < (idem m).length) : row (grp m) i = ints (unit m (idem m)[i]) := by
  unfold row grp
  rw [List.getD_eq_getElem?_getD, List.getElem?_eq_getElem (by simpa using hi)]
  simp
/-- What was met ahead of group i. -/
noncomputable def seen (m : List (List Int)) (i : Nat) : List Nat := (((idem m).take i).map (unit m)).flatten
omit h in
theorem seen_succ {i : Nat} (hi : i < (idem m).length) : seen m (i + 1) = seen m i ++ unit m (idem m)[i] := by
  unfold seen
  rw [take_snoc _ hi, List.map_append, List.flatten_append]; simp
theorem seen_count (i a : Nat) : (seen m i).count a ≤ 1 := by
  unfold seen
  refine count_flat (unit m) a _ ((idem_lt m).sublist (List.take_sublist _ _)) (unit_lt m) (fun x y hx hy h1 h2 => ?_)
  have hx' := mem_idem.1 (List.mem_of_mem_take hx)
  have hy' := mem_idem.1 (List.mem_of_mem_take hy)
  exact unit_one h hx'.1 hy'.1 h1 h2
theorem seen_count' {i : Nat} (hi : i < (idem m).length) (k a : Nat) : (seen m i ++ (unit m (idem m)[i]).take k).count a ≤ 1 := by
  have h1 := seen_count h (i + 1) a
  rw [seen_succ hi, List.count_append] at h1
  rw [List.count_append]
  have h2 := (List.take_sublist k (unit m (idem m)[i])).count_le a
  omega

/-! ### a group -/
theorem parts_l4 {i : Nat} (hi : i < (idem m).length) {p : Nat} (hp : p < (unit m (idem m)[i]).length) (V : List Nat) (x6 : Int)
    (hr : Ev (fun k => commodatumlaw10_MonoidParts.l3 k m (grp m) (met m.length V) x6 (i : Int) ((idem m)[i] : Nat) ((p + 1 : Nat) : Int)) true) :
    Ev (fun k => commodatumlaw10_MonoidParts.l4 k m (grp m) (met m.length V) x6 (i : Int) (((idem m)[i] : Nat) : Int) (p : Int) (((unit m (idem m)[i])[p] : Nat) : Int) false ((0 : Nat) : Int)) true := by
  have hn := h.1.2.1
  have hul := unit_len m (idem m)[i]
  have hil := idem_len m
  obtain ⟨x1, x2⟩ := mem_idem.1 (List.getElem_mem hi)
  have ha := List.getElem_mem hp
  obtain ⟨a1, ⟨a2, a3⟩, _⟩ := mem_unit.1 ha
  generalize hx : (idem m)[i] = x at *
  generalize hae : (unit m x)[p] = a at *
  have hrow : row (grp m) i = ints (unit m x) := by rw [row_grp hi, hx]
  have hb : ∀ j, decide (∃ q, q < j ∧ ∃ hq : q < (unit m x).length, mu m a (unit m x)[q] = x ∧ mu m (unit m x)[q] a = x) = decide (∃ q, q < j ∧ ∃ hq : q < (unit m x).length, mu m a (unit m x)[q] = x ∧ mu m (unit m x)[q] a = x) := fun _ => rfl
  have hq := loop_go (F := fun k j => commodatumlaw10_MonoidParts.l4 k m (grp m) (met m.length V) x6 (i : Int) (x : Int) (p : Int) (a : Int) (decide (∃ q, q < j ∧ ∃ hq : q < (unit m x).length, mu m a (unit m x)[q] = x ∧ mu m (unit m x)[q] a = x)) ((j : Nat) : Int)) (r := true) (unit m x).length (fun j hj hnx => ?_) ?_ 0 (by omega)
  · rw [decide_eq_false (by rintro ⟨q, hq, _⟩; omega)] at hq
    exact hq
  · have hbm := List.getElem_mem hj
    obtain ⟨b1, _, _⟩ := mem_unit.1 hbm
    refine Ev.step (fun k => by rw [commodatumlaw10_MonoidParts.l4]) ?_
    simp only [rd_row, hrow, ints_length, rd_ints hj, h.1.at a1 b1, h.1.at b1 a1, h.1.len a1, h.1.len b1]
    refine Ev.pos (by omega) ?_
    refine Ev.pos (by rw [grp_len h]; omega) ?_
    refine Ev.pos (by omega) ?_
    refine Ev.pos (by omega) ?_
    refine Ev.pos (by omega) ?_
    refine Ev.pos (by omega) ?_
    refine Ev.pos (by omega) ?_
    refine Ev.pos (by omega) ?_
    refine Ev.bind (in_ev (unit m x) (by omega) _ (unit_mul h x1 x2 ha hbm)) ?_
    refine Ev.pos rfl ?_
    rw [up1 (by omega)]
    by_cases c : ∃ q, q < j ∧ ∃ hq : q < (unit m x).length, mu m a (unit m x)[q] = x ∧ mu m (unit m x)[q] a = x
    · rw [decide_eq_true c]
      refine Ev.pos rfl ?_
      obtain ⟨q, h1, h2⟩ := c
      rw [decide_eq_true (show ∃ q, q < j + 1 ∧ ∃ hq : q < (unit m x).length, mu m a (unit m x)[q] = x ∧ mu m (unit m x)[q] a = x from ⟨q, by omega, h2⟩)] at hnx
      exact hnx
    · rw [decide_eq_false c]
      refine Ev.neg (by simp) ?_
      have hstep : decide (∃ q, q < j + 1 ∧ ∃ hq : q < (unit m x).length, mu m a (unit m x)[q] = x ∧ mu m (unit m x)[q] a = x) = decide (mu m a (unit m x)[j] = x ∧ mu m (unit m x)[j] a = x) := by
        apply decide_eq_decide.2
        constructor
        · rintro ⟨q, h1, h2, h3⟩
          by_cases e : q = j
          · subst e; exact h3
          · exact absurd ⟨q, by omega, h2, h3⟩ c
        · intro h3
          exact ⟨j, by omega, hj, h3⟩
      rw [hstep] at hnx
      by_cases e : mu m a (unit m x)[j] = x
      · refine Ev.pos (by omega) ?_
        refine Ev.pos (by omega) ?_
        refine Ev.pos (by omega) ?_
        have e2 : (((mu m (unit m x)[j] a : Nat) : Int) == (x : Int)) = decide (mu m a (unit m x)[j] = x ∧ mu m (unit m x)[j] a = x) := by
          by_cases e3 : mu m (unit m x)[j] a = x
          · rw [decide_eq_true ⟨e, e3⟩, e3]; simp
          · rw [decide_eq_false (fun z => e3 z.2)]; simp; omega
        rw [e2]
        exact hnx
      · refine Ev.neg (by omega) ?_
        rw [decide_eq_false (fun z => e z.1)] at hnx
        exact hnx
  · refine Ev.step (fun k => by rw [commodatumlaw10_MonoidParts.l4]) ?_
    simp only [rd_row, hrow, ints_length, h.1.at a1 x1, h.1.at x1 a1, h.1.len a1, h.1.len x1]
    refine Ev.pos (by omega) ?_
    refine Ev.pos (by rw [grp_len h]; omega) ?_
    refine Ev.neg (by omega) ?_
    refine Ev.pos ?_ ?_
    · obtain ⟨c, hc, c1, c2⟩ := unit_inv ha
      obtain ⟨q, hq, e⟩ := List.getElem_of_mem hc
      exact decide_eq_true ⟨q, hq, hq, by rw [e]; exact ⟨c1, c2⟩⟩
    refine Ev.pos (by omega) ?_
    refine Ev.pos (by omega) ?_
    refine Ev.pos (by omega) ?_
    refine Ev.pos (by omega) ?_
    refine Ev.pos (by omega) ?_
    refine Ev.pos (by omega) ?_
    refine Ev.pos (by omega) ?_
    refine Ev.pos (by omega) ?_
    rw [up1 (by omega)]
    exact hr
theorem parts_l3 {i : Nat} (hi : i < (idem m).length) (V : List Nat) (x6 : Int)
    (hr : Ev (fun k => commodatumlaw10_MonoidParts.l1 k m (grp m) (met m.length V) x6 ((i + 1 : Nat) : Int)) true) :
    Ev (fun k => commodatumlaw10_MonoidParts.l3 k m (grp m) (met m.length V) x6 (i : Int) (((idem m)[i] : Nat) : Int) ((0 : Nat) : Int)) true := by
  have hn := h.1.2.1
  have hul := unit_len m (idem m)[i]
  have hil := idem_len m
  refine loop_go (F := fun k j => commodatumlaw10_MonoidParts.l3 k m (grp m) (met m.length V) x6 (i : Int) (((idem m)[i] : Nat) : Int) ((j : Nat) : Int)) (unit m (idem m)[i]).length (fun j hj hnx => ?_) ?_ 0 (by omega)
  · refine Ev.step (fun k => by rw [commodatumlaw10_MonoidParts.l3]) ?_
    simp only [rd_row, row_grp hi, ints_length, rd_ints hj]
    refine Ev.pos (by omega) ?_
    refine Ev.pos (by rw [grp_len h]; omega) ?_
    refine Ev.pos (by omega) ?_
    refine Ev.pos (by omega) ?_
    exact parts_l4 h hi hj V x6 hnx
  · refine Ev.step (fun k => by rw [commodatumlaw10_MonoidParts.l3]) ?_
    simp only [rd_row, row_grp hi, ints_length]
    refine Ev.pos (by omega) ?_
    refine Ev.pos (by rw [grp_len h]; omega) ?_
    refine Ev.neg (by omega) ?_
    rw [up1 (by omega)]
    exact hr
theorem parts_l2 {i : Nat} (hi : i < (idem m).length) (x6 : Int)
    (hr : Ev (fun k => commodatumlaw10_MonoidParts.l1 k m (grp m) (met m.length (seen m (i + 1))) x6 ((i + 1 : Nat) : Int)) true) :
    Ev (fun k => commodatumlaw10_MonoidParts.l2 k m (grp m) (met m.length (seen m i)) x6 (i : Int) (-1) ((0 : Nat) : Int)) true := by
  have hn := h.1.2.1
  have hul := unit_len m (idem m)[i]
  have hil := idem_len m
  have hpw := unit_lt m (idem m)[i]
  have hsc := seen_count' h hi
  obtain ⟨x1, x2⟩ := mem_idem.1 (List.getElem_mem hi)
  have hself := unit_self x1 x2
  rw [seen_succ hi] at hr
  have hl3 := parts_l3 h hi _ x6 hr
  have hrow := row_grp hi
  generalize hx : (idem m)[i] = x at *
  have hq := loop_go (F := fun k j => commodatumlaw10_MonoidParts.l2 k m (grp m) (met m.length (seen m i ++ (unit m x).take j)) x6 (i : Int) (if x ∈ (unit m x).take j then (x : Int) else -1) ((j : Nat) : Int)) (r := true) (unit m x).length (fun j hj hnx => ?_) ?_ 0 (by omega)
  · simpa using hq
  · have ham := List.getElem_mem hj
    obtain ⟨a1, _, _⟩ := mem_unit.1 ham
    have hc := hsc j (unit m x)[j]
    have hset := met_set a1 (seen m i ++ (unit m x).take j) hc
    rw [take_snoc _ hj] at hnx
    have hj4 : Ev (fun k => commodatumlaw10_MonoidParts.j4 k m (grp m) (met m.length (seen m i ++ (unit m x).take j)) x6 (i : Int) (if x ∈ (unit m x).take j then (x : Int) else -1) (j : Int) (((unit m x)[j] : Nat) : Int) false) true := by
      refine Ev.step (fun k => by rw [commodatumlaw10_MonoidParts.j4]) ?_
      simp only [rd_row, h.1.at a1 a1, h.1.len a1, met_length, Int.toNat_natCast, hset]
      refine Ev.neg (by simp) ?_
      refine Ev.pos (by omega) ?_
      refine Ev.pos (by omega) ?_
      refine Ev.sb ?_
      refine Ev.pos (by omega) ?_
      refine Ev.pos (by omega) ?_
      rw [up1 (by omega)]
      rw [List.append_assoc]
      by_cases e : mu m (unit m x)[j] (unit m x)[j] = (unit m x)[j]
      · have hax := unit_idem h x1 ham e
        have hnot : ¬ x ∈ (unit m x).take j := by
          intro hm
          obtain ⟨q, hq, eq⟩ := List.getElem_of_mem hm
          rw [List.length_take] at hq
          rw [List.getElem_take] at eq
          have := List.pairwise_iff_getElem.1 hpw q j (by omega) hj (by omega)
          omega
        refine Ev.pos (by omega) ?_
        rw [if_neg hnot]
        refine Ev.neg (by omega) ?_
        rw [if_pos (by rw [List.mem_append]; exact Or.inr (by rw [hax]; simp))] at hnx
        rw [hax] at hnx ⊢
        exact hnx
      · refine Ev.neg (by omega) ?_
        have hne : x ≠ (unit m x)[j] := fun z => e (by rw [← z]; exact x2)
        have heq : (x ∈ (unit m x).take j ++ [(unit m x)[j]]) = (x ∈ (unit m x).take j) := by
          apply propext
          rw [List.mem_append]
          constructor
          · rintro (h1 | h1)
            · exact h1
            · exact absurd (by simpa using h1) hne
          · exact Or.inl
        simp only [heq] at hnx
        exact hnx
    refine Ev.step (fun k => by rw [commodatumlaw10_MonoidParts.l2]) ?_
    simp only [rd_row, hrow, ints_length, rd_ints hj]
    refine Ev.pos (by omega) ?_
    refine Ev.pos (by rw [grp_len h]; omega) ?_
    refine Ev.pos (by omega) ?_
    refine Ev.pos (by omega) ?_
    refine Ev.neg (by omega) ?_
    refine Ev.neg (by omega) ?_
    by_cases c : j = 0
    · subst c
      exact Ev.neg (by omega) hj4
    · refine Ev.pos (by omega) ?_
      have e1 : wrap64 ((j : Int) - 1) = ((j - 1 : Nat) : Int) := by rw [w64 (by omega) (by omega)]; omega
      rw [e1]
      refine Ev.pos (by omega) ?_
      refine Ev.pos (by omega) ?_
      rw [rd_ints (show j - 1 < (unit m x).length by omega)]
      have := List.pairwise_iff_getElem.1 hpw (j - 1) j (by omega) hj (by omega)
      rw [decide_eq_false (by omega)]
      exact hj4
  · refine Ev.step (fun k => by rw [commodatumlaw10_MonoidParts.l2]) ?_
    simp only [rd_row, hrow, ints_length]
    refine Ev.pos (by omega) ?_
    refine Ev.pos (by rw [grp_len h]; omega) ?_
    refine Ev.neg (by omega) ?_
    rw [List.take_length, if_pos hself]
    refine Ev.neg (by omega) ?_
    exact hl3
theorem parts_l5 (x6 : Int) (he : ((grp m).length : Int) = x6) : Ev (fun k => commodatumlaw10_MonoidParts.l5 k m (grp m) (met m.length (seen m (idem m).length)) x6 ((0 : Nat) : Int)) true := by
  have hn := h.1.2.1
  refine loop_go (F := fun k j => commodatumlaw10_MonoidParts.l5 k m (grp m) (met m.length (seen m (idem m).length)) x6 ((j : Nat) : Int)) m.length (fun j hj hnx => ?_) ?_ 0 (by omega)
  · refine Ev.step (fun k => by rw [commodatumlaw10_MonoidParts.l5]) ?_
    have hc := seen_count h (idem m).length j
    refine Ev.pos (by omega) ?_
    refine Ev.pos (by omega) ?_
    refine Ev.pos (by rw [met_length]; omega) ?_
    refine Ev.neg (by unfold met; rw [rd_tab hj]; omega) ?_
    rw [up1 (by omega)]
    exact hnx
  · refine Ev.step (fun k => by rw [commodatumlaw10_MonoidParts.l5]) ?_
    refine Ev.neg (by omega) ?_
    refine Ev.pos he ?_
    exact Ev.bind awake_ev (Ev.ret rfl)
theorem parts_l1 (x6 : Int) (he : ((grp m).length : Int) = x6) : Ev (fun k => commodatumlaw10_MonoidParts.l1 k m (grp m) (met m.length (seen m 0)) x6 ((0 : Nat) : Int)) true := by
  have hn := h.1.2.1
  have hil := idem_len m
  refine loop_go (F := fun k j => commodatumlaw10_MonoidParts.l1 k m (grp m) (met m.length (seen m j)) x6 ((j : Nat) : Int)) (idem m).length (fun j hj hnx => ?_) ?_ 0 (by omega)
  · refine Ev.step (fun k => by rw [commodatumlaw10_MonoidParts.l1]) ?_
    refine Ev.pos (by rw [grp_len h]; omega) ?_
    exact parts_l2 h hj x6 hnx
  · refine Ev.step (fun k => by rw [commodatumlaw10_MonoidParts.l1]) ?_
    refine Ev.neg (by rw [grp_len h]; omega) ?_
    exact parts_l5 h x6 he
theorem parts_l0 : Ev (fun k => commodatumlaw10_MonoidParts.l0 k m (grp m) (met m.length []) 0 0) true := by
  have hn := h.1.2.1
  have hq := loop_go (F := fun k j => commodatumlaw10_MonoidParts.l0 k m (grp m) (met m.length []) ((((List.range j).filter (fun x => decide (mu m x x = x))).length : Nat) : Int) ((j : Nat) : Int)) (r := true) m.length (fun j hj hnx => ?_) ?_ 0 (by omega)
  · exact hq
  · have hlen := List.length_filter_le (fun x => decide (mu m x x = x)) (List.range j)
    rw [List.length_range] at hlen
    refine Ev.step (fun k => by rw [commodatumlaw10_MonoidParts.l0]) ?_
    simp only [rd_row, h.1.at hj hj, h.1.len hj]
    refine Ev.pos (by omega) ?_
    refine Ev.pos (by omega) ?_
    refine Ev.pos (by omega) ?_
    rw [filter_snoc] at hnx
    rw [up1 (i := j) (by omega)]
    by_cases e : mu m j j = j
    · refine Ev.pos (by omega) ?_
      rw [up1 (by omega)]
      rw [if_pos (decide_eq_true e), List.length_append] at hnx
      exact hnx
    · refine Ev.neg (by omega) ?_
      rw [if_neg (by simp [e]), List.append_nil] at hnx
      exact hnx
  · refine Ev.step (fun k => by rw [commodatumlaw10_MonoidParts.l0]) ?_
    refine Ev.neg (by omega) ?_
    have e : seen m 0 = [] := by unfold seen; simp
    have := parts_l1 h (((idem m).length : Nat) : Int) (by rw [grp_len h])
    rw [e] at this
    exact this
end

theorem MonoidParts : commodatumlaw10_MonoidParts.Pure := by
  intro m hm
  refine Ev.rounds ?_
  unfold commodatumlaw10_MonoidParts.f
  obtain ⟨b, hb, hs⟩ := wide_ev m hm
  refine Ev.bind hb ?_
  cases b with
  | true =>
    refine Ev.pos rfl ?_
    refine Ev.step (fun k => by rw [commodatumlaw10_MonoidParts.j0]) ?_
    exact Ev.pos rfl (Ev.bind awake_ev (Ev.ret rfl))
  | false =>
    refine Ev.neg (by decide) ?_
    refine Ev.bind (refValid_ev m) ?_
    refine Ev.step (fun k => by rw [commodatumlaw10_MonoidParts.j0]) ?_
    by_cases h : VM m
    · have hn := h.1.2.1
      rw [decide_eq_true h]
      refine Ev.neg (by simp) ?_
      refine Ev.bind (copy_ev m (by omega) (fun u hu => by rw [h.1.len hu]; omega)) ?_
      refine Ev.bind (Groups_ev m h) ?_
      refine Ev.pos rfl ?_
      refine Ev.pos (by omega) ?_
      refine Ev.pos (by omega) ?_
      rw [Int.toNat_natCast, met_nil]
      exact parts_l0 h
    · rw [decide_eq_false h]
      refine Ev.pos (by simp) ?_
      exact Ev.bind awake_ev (Ev.ret rfl)
end Go.Proofs.Ytibphkgcdnconaa.Pure
