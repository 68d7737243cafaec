/- Functions of the program as Lean functions, and proofs that the calls come to them (written by xprint.py, this session's program, over the kit's print). -/
import Derived.Test.YtibphkgcdnconaaQMonx0
namespace Go.Proofs.Ytibphkgcdnconaa.QMon
open Go.RowKit Go.Proofs.YtibphkgcdnconaaW.PrintWords Go.Proofs.YtibphkgcdnconaaW.PrintLast Go.Proofs.YtibphkgcdnconaaW.PrintMore Go.Proofs.YtibphkgcdnconaaX
attribute [local go_sem] max2_int min2_int max_two min_two max_three min_three max_four min_four   -- for this text's walks alone
set_option linter.unusedVariables false
set_option linter.unusedSimpArgs false

/-! ### monoid_groups_1: function 117 -/
def monoid_groups_1.f (a0 : Int) (l1_0_0 : List (List Int)) (a2_0_0 : Int) (a3_0_0 : Int) : Option (Bool) := if 0 ≤ a2_0_0 then (if a2_0_0 < (l1_0_0.length : Int) then (if 0 ≤ a0 then (if a0 < ((rd_L1 l1_0_0 a2_0_0).length : Int) then (if (rd (rd_L1 l1_0_0 a2_0_0) a0) = a3_0_0 then (if a0 < (l1_0_0.length : Int) then (if a2_0_0 < ((rd_L1 l1_0_0 a0).length : Int) then (some ((rd (rd_L1 l1_0_0 a0) a2_0_0) == a3_0_0)) else (none)) else (none)) else (some false)) else (none)) else (none)) else (none)) else (none)
set_option maxHeartbeats 8000000 in
set_option maxRecDepth 100000 in
theorem monoid_groups_1.calls (a0 : Int) (g1_0 : Nat) (A1_0_0 : Option Addr) (c1_0_0 : Nat) (l1_0_0 : List (List Int)) (g2_0 : Nat) (a2_0_0 : Int) (g3_0 : Nat) (a3_0_0 : Int) (r : Bool) (w : World) (hb1_0 : w.heap[g1_0]? = some (.cells #[.slice A1_0_0 l1_0_0.length c1_0_0] 23 (0, 0))) (hr1_0_0 : Kd.C (Kd.slice 3 (Kd.int .i64)) w A1_0_0 l1_0_0.length l1_0_0) (hc1_0_0 : l1_0_0.length ≤ c1_0_0) (hb2_0 : w.heap[g2_0]? = some (.cells #[.int .i64 a2_0_0] 3 (0, 0))) (hb3_0 : w.heap[g3_0]? = some (.cells #[.int .i64 a3_0_0] 3 (0, 0))) (h : monoid_groups_1.f a0 l1_0_0 a2_0_0 a3_0_0 = some r) :
    Calls Try.prog 53 #[.int .i64 a0, .pointer (some ⟨g1_0, 0, none⟩), .pointer (some ⟨g2_0, 0, none⟩), .pointer (some ⟨g3_0, 0, none⟩)] w fun e w' => e = .returned (.bool r) ∧ Drawn0 w w' := by
  have HR1_0_0 := Aside0.mk hr1_0_0
  have HC1_0_0 := Aside0.mk hc1_0_0
  clear hr1_0_0 hc1_0_0
  have BK50100 := Aside0.mk hb1_0
  clear hb1_0
  have BK50200 := Aside0.mk hb2_0
  clear hb2_0
  have BK50300 := Aside0.mk hb3_0
  clear hb3_0
  have H : (if 0 ≤ a2_0_0 then (if a2_0_0 < (l1_0_0.length : Int) then (if 0 ≤ a0 then (if a0 < ((rd_L1 l1_0_0 a2_0_0).length : Int) then (if (rd (rd_L1 l1_0_0 a2_0_0) a0) = a3_0_0 then (if a0 < (l1_0_0.length : Int) then (if a2_0_0 < ((rd_L1 l1_0_0 a0).length : Int) then (some ((rd (rd_L1 l1_0_0 a0) a2_0_0) == a3_0_0)) else (none)) else (none)) else (some false)) else (none)) else (none)) else (none)) else (none)) = some r := h
  clear h
  by_cases c5 : 0 ≤ a2_0_0
  · rw [if_pos c5] at H
    have c5b0 : decide (0 ≤ a2_0_0) = true := decide_eq_true c5
    clear c5
    by_cases c6 : a2_0_0 < (l1_0_0.length : Int)
    · rw [if_pos c6] at H
      have c6b0 : decide (a2_0_0 < (l1_0_0.length : Int)) = true := decide_eq_true c6
      clear c6
      by_cases c7 : 0 ≤ a0
      · rw [if_pos c7] at H
        have c7b0 : decide (0 ≤ a0) = true := decide_eq_true c7
        clear c7
        by_cases c8 : a0 < ((rd_L1 l1_0_0 a2_0_0).length : Int)
        · rw [if_pos c8] at H
          have c8b0 : decide (a0 < ((rd_L1 l1_0_0 a2_0_0).length : Int)) = true := decide_eq_true c8
          clear c8
          by_cases c9 : (rd (rd_L1 l1_0_0 a2_0_0) a0) = a3_0_0
          · rw [if_pos c9] at H
            have c9b0 : ((rd (rd_L1 l1_0_0 a2_0_0) a0) == a3_0_0) = true := beq_iff_eq.mpr c9
            have c9b1 : ((rd (rd_L1 l1_0_0 a2_0_0) a0) != a3_0_0) = false := bne_eq_false_iff_eq.mpr c9
            clear c9
            by_cases c10 : a0 < (l1_0_0.length : Int)
            · rw [if_pos c10] at H
              have c10b0 : decide (a0 < (l1_0_0.length : Int)) = true := decide_eq_true c10
              clear c10
              by_cases c11 : a2_0_0 < ((rd_L1 l1_0_0 a0).length : Int)
              · rw [if_pos c11] at H
                have c11b0 : decide (a2_0_0 < ((rd_L1 l1_0_0 a0).length : Int)) = true := decide_eq_true c11
                clear c11
                obtain rfl := Option.some.inj H
                have hcz12_0 : w.cell? ⟨g1_0, 0, none⟩ = some (.slice A1_0_0 l1_0_0.length c1_0_0) := (blk_cell BK50100.out 0).trans rfl
                have hfz12_0 := blk_frozen BK50100.out 0
                have hcz13_0 : w.cell? ⟨g2_0, 0, none⟩ = some (.int .i64 a2_0_0) := (blk_cell BK50200.out 0).trans rfl
                have hfz13_0 := blk_frozen BK50200.out 0
                have p136 : 0 ≤ (a2_0_0 : Int) := of_decide_eq_true (by first | (with_reducible assumption) | assumption)
                have q136 : a2_0_0 < (l1_0_0.length : Int) := of_decide_eq_true (by first | (with_reducible assumption) | assumption)
                obtain ⟨ad136, A136_0, c136_0, e136, hx136_0, hl136_0, hi136_0⟩ := at_L1 HR1_0_0.out a2_0_0 p136 q136
                cases e136
                have HR136_0 := Aside0.mk hi136_0
                have HC136_0 := Aside0.mk hl136_0
                clear hi136_0 hl136_0
                replace p136 := eq_true p136
                replace q136 := eq_true q136
                have p137 : 0 ≤ (a0 : Int) := of_decide_eq_true (by first | (with_reducible assumption) | assumption)
                have q137 : a0 < ((rd_L1 l1_0_0 a2_0_0).length : Int) := of_decide_eq_true (by first | (with_reducible assumption) | assumption)
                obtain ⟨ad137, e137, hx137_0⟩ := Kd.at_int HR136_0.out a0 p137 q137
                cases e137
                replace p137 := eq_true p137
                replace q137 := eq_true q137
                have hcz14_0 : w.cell? ⟨g3_0, 0, none⟩ = some (.int .i64 a3_0_0) := (blk_cell BK50300.out 0).trans rfl
                have hfz14_0 := blk_frozen BK50300.out 0
                have p138 : 0 ≤ (a0 : Int) := of_decide_eq_true (by first | (with_reducible assumption) | assumption)
                have q138 : a0 < (l1_0_0.length : Int) := of_decide_eq_true (by first | (with_reducible assumption) | assumption)
                obtain ⟨ad138, A138_0, c138_0, e138, hx138_0, hl138_0, hi138_0⟩ := at_L1 HR1_0_0.out a0 p138 q138
                obtain rfl : ad136 = ad138 := (by injection e138)
                have HR138_0 := Aside0.mk hi138_0
                have HC138_0 := Aside0.mk hl138_0
                clear hi138_0 hl138_0
                replace p138 := eq_true p138
                replace q138 := eq_true q138
                have p139 : 0 ≤ (a2_0_0 : Int) := of_decide_eq_true (by first | (with_reducible assumption) | assumption)
                have q139 : a2_0_0 < ((rd_L1 l1_0_0 a0).length : Int) := of_decide_eq_true (by first | (with_reducible assumption) | assumption)
                obtain ⟨ad139, e139, hx139_0⟩ := Kd.at_int HR138_0.out a2_0_0 p139 q139
                cases e139
                replace p139 := eq_true p139
                replace q139 := eq_true q139
                go_enter Try.func53, Try.ntmps53
                go_wp2
                repeat (go_quiet (fail); try go_wp2)
                go_ret
                exact ⟨by first | rfl | (simp; done) | (simp [*]; done), by repeat (first | exact Drawn0.refl _ | apply Drawn0.step)⟩
              · rw [if_neg c11] at H
                exact absurd H (by simp)
            · rw [if_neg c10] at H
              exact absurd H (by simp)
          · rw [if_neg c9] at H
            have c9b0 : ((rd (rd_L1 l1_0_0 a2_0_0) a0) == a3_0_0) = false := beq_eq_false_iff_ne.mpr c9
            have c9b1 : ((rd (rd_L1 l1_0_0 a2_0_0) a0) != a3_0_0) = true := bne_iff_ne.mpr c9
            obtain rfl := Option.some.inj H
            have hcz15_0 : w.cell? ⟨g1_0, 0, none⟩ = some (.slice A1_0_0 l1_0_0.length c1_0_0) := (blk_cell BK50100.out 0).trans rfl
            have hfz15_0 := blk_frozen BK50100.out 0
            have hcz16_0 : w.cell? ⟨g2_0, 0, none⟩ = some (.int .i64 a2_0_0) := (blk_cell BK50200.out 0).trans rfl
            have hfz16_0 := blk_frozen BK50200.out 0
            have p136 : 0 ≤ (a2_0_0 : Int) := of_decide_eq_true (by first | (with_reducible assumption) | assumption)
            have q136 : a2_0_0 < (l1_0_0.length : Int) := of_decide_eq_true (by first | (with_reducible assumption) | assumption)
            obtain ⟨ad136, A136_0, c136_0, e136, hx136_0, hl136_0, hi136_0⟩ := at_L1 HR1_0_0.out a2_0_0 p136 q136
            cases e136
            have HR136_0 := Aside0.mk hi136_0
            have HC136_0 := Aside0.mk hl136_0
            clear hi136_0 hl136_0
            replace p136 := eq_true p136
            replace q136 := eq_true q136
            have p137 : 0 ≤ (a0 : Int) := of_decide_eq_true (by first | (with_reducible assumption) | assumption)
            have q137 : a0 < ((rd_L1 l1_0_0 a2_0_0).length : Int) := of_decide_eq_true (by first | (with_reducible assumption) | assumption)
            obtain ⟨ad137, e137, hx137_0⟩ := Kd.at_int HR136_0.out a0 p137 q137
            cases e137
            replace p137 := eq_true p137
            replace q137 := eq_true q137
            have hcz17_0 : w.cell? ⟨g3_0, 0, none⟩ = some (.int .i64 a3_0_0) := (blk_cell BK50300.out 0).trans rfl
            have hfz17_0 := blk_frozen BK50300.out 0
            go_enter Try.func53, Try.ntmps53
            go_wp2
            repeat (go_quiet (fail); try go_wp2)
            go_ret
            exact ⟨by first | rfl | (simp; done) | (simp [*]; done), by repeat (first | exact Drawn0.refl _ | apply Drawn0.step)⟩
        · rw [if_neg c8] at H
          exact absurd H (by simp)
      · rw [if_neg c7] at H
        exact absurd H (by simp)
    · rw [if_neg c6] at H
      exact absurd H (by simp)
  · rw [if_neg c5] at H
    exact absurd H (by simp)

/-! ### slices_IndexFunc_int_int_at_monoid_groups_1: function 116 -/
def slices_IndexFunc_int_int_at_monoid_groups_1.l0 : Nat → List Int → Int → Int → List (List Int) → Int → Int → Option (Int)
  | 0, _, _, _, _, _, _ => none
  | k + 1, x0, x7, x8, x50101000, x50102000, x50103000 => if x8 < x7 then (if 0 ≤ x8 then (if x8 < (x0.length : Int) then ((monoid_groups_1.f (rd x0 x8) x50101000 x50102000 x50103000).bind fun t141 => (if t141 = true then (some x8) else (slices_IndexFunc_int_int_at_monoid_groups_1.l0 k x0 x7 (wrap64 (x8 + 1)) x50101000 x50102000 x50103000))) else (none)) else (none)) else (some (-1))
def slices_IndexFunc_int_int_at_monoid_groups_1.f (k : Nat) (l0 : List Int) (l1_0_0 : List (List Int)) (a1_1_0 : Int) (a1_2_0 : Int) : Option (Int) := slices_IndexFunc_int_int_at_monoid_groups_1.l0 k l0 (l0.length : Int) 0 l1_0_0 a1_1_0 a1_2_0
theorem slices_IndexFunc_int_int_at_monoid_groups_1.mono_l : ∀ k, (∀ y0 y1 y2 y3 y4 y5, LeO (slices_IndexFunc_int_int_at_monoid_groups_1.l0 k y0 y1 y2 y3 y4 y5) (slices_IndexFunc_int_int_at_monoid_groups_1.l0 (k + 1) y0 y1 y2 y3 y4 y5))
  | 0 => fun _ _ _ _ _ _ r h => by simp [slices_IndexFunc_int_int_at_monoid_groups_1.l0] at h
  | k + 1 => by
    have ih0 := slices_IndexFunc_int_int_at_monoid_groups_1.mono_l k
    · intro y0 y1 y2 y3 y4 y5
      unfold slices_IndexFunc_int_int_at_monoid_groups_1.l0
      repeat' first
      | (with_reducible exact ih0 _ _ _ _ _ _)
      | (with_reducible exact LeO.refl _)
      | (with_reducible exact LeO.none _)
      | (with_reducible refine LeO.ite ?_ ?_)
      | (with_reducible refine LeO.bind ?_ (fun _ => ?_))
      | exact ih0 _ _ _ _ _ _
      | exact LeO.none _
      | refine LeO.ite ?_ ?_
      | refine LeO.bind ?_ (fun _ => ?_)
theorem slices_IndexFunc_int_int_at_monoid_groups_1.mono : ∀ a0 a1 a2 a3 k, LeO (slices_IndexFunc_int_int_at_monoid_groups_1.f k a0 a1 a2 a3) (slices_IndexFunc_int_int_at_monoid_groups_1.f (k + 1) a0 a1 a2 a3) := by
  intro a0 a1 a2 a3 k
  have ih0 := slices_IndexFunc_int_int_at_monoid_groups_1.mono_l k
  unfold slices_IndexFunc_int_int_at_monoid_groups_1.f
  repeat' first
      | (with_reducible exact ih0 _ _ _ _ _ _)
      | (with_reducible exact LeO.refl _)
      | (with_reducible exact LeO.none _)
      | (with_reducible refine LeO.ite ?_ ?_)
      | (with_reducible refine LeO.bind ?_ (fun _ => ?_))
      | exact ih0 _ _ _ _ _ _
      | exact LeO.none _
      | refine LeO.ite ?_ ?_
      | refine LeO.bind ?_ (fun _ => ?_)
set_option maxHeartbeats 8000000 in
set_option maxRecDepth 100000 in
theorem slices_IndexFunc_int_int_at_monoid_groups_1.calls (k : Nat) (A0 : Option Addr) (c0 : Nat) (l0 : List Int) (g1_0 : Nat) (g1_1 : Nat) (g1_2 : Nat) (A1_0_0 : Option Addr) (c1_0_0 : Nat) (l1_0_0 : List (List Int)) (a1_1_0 : Int) (a1_2_0 : Int) (r : Int) (w : World) (hr0 : Kd.C (Kd.int .i64) w A0 l0.length l0) (hc0 : l0.length ≤ c0) (hb1_0 : w.heap[g1_0]? = some (.cells #[.slice A1_0_0 l1_0_0.length c1_0_0] 23 (0, 0))) (hr1_0_0 : Kd.C (Kd.slice 3 (Kd.int .i64)) w A1_0_0 l1_0_0.length l1_0_0) (hc1_0_0 : l1_0_0.length ≤ c1_0_0) (hb1_1 : w.heap[g1_1]? = some (.cells #[.int .i64 a1_1_0] 3 (0, 0))) (hb1_2 : w.heap[g1_2]? = some (.cells #[.int .i64 a1_2_0] 3 (0, 0))) (h : slices_IndexFunc_int_int_at_monoid_groups_1.f k l0 l1_0_0 a1_1_0 a1_2_0 = some r) :
    Calls Try.prog 59 #[.slice A0 l0.length c0, .func (.func 53) #[] #[.pointer (some ⟨g1_0, 0, none⟩), .pointer (some ⟨g1_1, 0, none⟩), .pointer (some ⟨g1_2, 0, none⟩)]] w fun e w' => e = .returned (.int .i64 r) ∧ Drawn0 w w' := by
  have HR0 := Aside0.mk hr0
  have HC0 := Aside0.mk hc0
  clear hr0 hc0
  have HR1_0_0 := Aside0.mk hr1_0_0
  have HC1_0_0 := Aside0.mk hc1_0_0
  clear hr1_0_0 hc1_0_0
  have BK50100 := Aside0.mk hb1_0
  clear hb1_0
  have BK50101 := Aside0.mk hb1_1
  clear hb1_1
  have BK50102 := Aside0.mk hb1_2
  clear hb1_2
  have H : (slices_IndexFunc_int_int_at_monoid_groups_1.l0 k l0 (l0.length : Int) 0 l1_0_0 a1_1_0 a1_2_0) = some r := h
  clear h
  have H' := Aside0.mk H
  clear H
  go_enter Try.func59, Try.ntmps59
  go_wp2
  go_loopg [8] k (fun kq v8 w' => ∃ (x8_1 : Int), v8 = .int .i64 x8_1 ∧ Aside0 (slices_IndexFunc_int_int_at_monoid_groups_1.l0 kq l0 (l0.length : Int) x8_1 l1_0_0 a1_1_0 a1_2_0 = some r) ∧ Aside0 (kq ≤ k) ∧ Aside0 (w'.heap[g1_0]? = some (.cells #[(.slice A1_0_0 l1_0_0.length c1_0_0)] 23 (0, 0))) ∧ Aside0 (w'.heap[g1_1]? = some (.cells #[.int .i64 a1_1_0] 3 (0, 0))) ∧ Aside0 (w'.heap[g1_2]? = some (.cells #[.int .i64 a1_2_0] 3 (0, 0))) ∧ Drawn0 w w')
  case atStart => exact ⟨(0), (by first | rfl | (simp; done) | (simp [*]; done)), H', ⟨Nat.le_refl _⟩, ⟨by repeat (first | (with_reducible exact BK50100.out) | (with_reducible refine blk_drewN ?_ _) | (with_reducible refine blk_drew ?_) | (with_reducible refine blk_alloc ?_ _) | exact BK50100.out)⟩, ⟨by repeat (first | (with_reducible exact BK50101.out) | (with_reducible refine blk_drewN ?_ _) | (with_reducible refine blk_drew ?_) | (with_reducible refine blk_alloc ?_ _) | exact BK50101.out)⟩, ⟨by repeat (first | (with_reducible exact BK50102.out) | (with_reducible refine blk_drewN ?_ _) | (with_reducible refine blk_drew ?_) | (with_reducible refine blk_alloc ?_ _) | exact BK50102.out)⟩, by repeat (first | exact Drawn0.refl _ | apply Drawn0.step)⟩
  case round =>
    clear H'
    try clear c1
    try clear p2
    obtain ⟨x8_1, rfl, HA, HK1, BK50100, BK50101, BK50102, ⟨m1, rfl⟩⟩ := hrel
    cases gk with
    | zero => exact absurd HA.out (by simp [slices_IndexFunc_int_int_at_monoid_groups_1.l0])
    | succ k1 =>
      have H := HA.out
      clear HA
      simp only [slices_IndexFunc_int_int_at_monoid_groups_1.l0] at H
      by_cases c3 : x8_1 < (l0.length : Int)
      · rw [if_pos c3] at H
        have c3b0 : decide (x8_1 < (l0.length : Int)) = true := decide_eq_true c3
        clear c3
        by_cases c4 : 0 ≤ x8_1
        · rw [if_pos c4] at H
          have c4b0 : decide (0 ≤ x8_1) = true := decide_eq_true c4
          clear c4
          by_cases c5 : x8_1 < (l0.length : Int)
          · rw [if_pos c5] at H
            have c5b0 : decide (x8_1 < (l0.length : Int)) = true := decide_eq_true c5
            clear c5
            replace H := Option.bind_eq_some_iff.mp H
            obtain ⟨t141, A60, H⟩ := H
            replace H : (if t141 = true then (some x8_1) else (slices_IndexFunc_int_int_at_monoid_groups_1.l0 k1 l0 (l0.length : Int) (wrap64 (x8_1 + 1)) l1_0_0 a1_1_0 a1_2_0)) = some r := H
            have A6 := Aside0.mk A60
            clear A60
            by_cases c7 : t141 = true
            · subst c7
              have H1 : (some x8_1) = some r := by rw [if_pos rfl] at H; exact H
              clear H
              have H := H1
              clear H1
              obtain rfl := Option.some.inj H
              have p140 : 0 ≤ (x8_1 : Int) := of_decide_eq_true (by first | (with_reducible assumption) | assumption)
              have q140 : x8_1 < (l0.length : Int) := of_decide_eq_true (by first | (with_reducible assumption) | assumption)
              obtain ⟨ad140, e140, hx140_0⟩ := Kd.at_int HR0.out x8_1 p140 q140
              cases e140
              replace p140 := eq_true p140
              replace q140 := eq_true q140
              go_wp2_with (first | (go_at_call 53; (with_reducible refine (monoid_groups_1.calls (rd l0 x8_1) g1_0 ?cA1_0_0 ?cC1_0_0 l1_0_0 g1_1 a1_1_0 g1_2 a1_2_0 true _ ?side1 ?side2 ?side3 ?side4 ?side5 A6.out).mono ?_); (case side1 => repeat (first | (with_reducible exact BK50100.out) | (with_reducible refine blk_drewN ?_ _) | (with_reducible refine blk_drew ?_) | (with_reducible refine blk_alloc ?_ _) | exact BK50100.out)); (case side2 => repeat (first | exact HR1_0_0.out | (with_reducible refine Kd.C_alloc ?_ _) | (with_reducible refine Kd.C_drewN ?_ _) | (with_reducible refine Kd.C_drew ?_))); (case side3 => exact HC1_0_0.out); (case side4 => repeat (first | (with_reducible exact BK50101.out) | (with_reducible refine blk_drewN ?_ _) | (with_reducible refine blk_drew ?_) | (with_reducible refine blk_alloc ?_ _) | exact BK50101.out)); (case side5 => repeat (first | (with_reducible exact BK50102.out) | (with_reducible refine blk_drewN ?_ _) | (with_reducible refine blk_drew ?_) | (with_reducible refine blk_alloc ?_ _) | exact BK50102.out)); rintro e w' ⟨rfl, ⟨nd, rfl⟩⟩))
              go_ret
              exact ⟨by first | rfl | (simp; done) | (simp [*]; done), by repeat (first | exact Drawn0.refl _ | apply Drawn0.step)⟩
            · replace c7 := Bool.eq_false_iff.mpr c7
              subst c7
              have H1 : (slices_IndexFunc_int_int_at_monoid_groups_1.l0 k1 l0 (l0.length : Int) (wrap64 (x8_1 + 1)) l1_0_0 a1_1_0 a1_2_0) = some r := by rw [if_neg (show ¬ (false = true) by decide)] at H; exact H
              clear H
              have H := H1
              clear H1
              have H' := Aside0.mk H
              clear H
              have p140 : 0 ≤ (x8_1 : Int) := of_decide_eq_true (by first | (with_reducible assumption) | assumption)
              have q140 : x8_1 < (l0.length : Int) := of_decide_eq_true (by first | (with_reducible assumption) | assumption)
              obtain ⟨ad140, e140, hx140_0⟩ := Kd.at_int HR0.out x8_1 p140 q140
              cases e140
              replace p140 := eq_true p140
              replace q140 := eq_true q140
              go_wp2_with (first | (go_at_call 53; (with_reducible refine (monoid_groups_1.calls (rd l0 x8_1) g1_0 ?cA1_0_0 ?cC1_0_0 l1_0_0 g1_1 a1_1_0 g1_2 a1_2_0 false _ ?side1 ?side2 ?side3 ?side4 ?side5 A6.out).mono ?_); (case side1 => repeat (first | (with_reducible exact BK50100.out) | (with_reducible refine blk_drewN ?_ _) | (with_reducible refine blk_drew ?_) | (with_reducible refine blk_alloc ?_ _) | exact BK50100.out)); (case side2 => repeat (first | exact HR1_0_0.out | (with_reducible refine Kd.C_alloc ?_ _) | (with_reducible refine Kd.C_drewN ?_ _) | (with_reducible refine Kd.C_drew ?_))); (case side3 => exact HC1_0_0.out); (case side4 => repeat (first | (with_reducible exact BK50101.out) | (with_reducible refine blk_drewN ?_ _) | (with_reducible refine blk_drew ?_) | (with_reducible refine blk_alloc ?_ _) | exact BK50101.out)); (case side5 => repeat (first | (with_reducible exact BK50102.out) | (with_reducible refine blk_drewN ?_ _) | (with_reducible refine blk_drew ?_) | (with_reducible refine blk_alloc ?_ _) | exact BK50102.out)); rintro e w' ⟨rfl, ⟨nd, rfl⟩⟩))
              go_roundg k1
              case measure => have := HK1.out; omega
              case rel => exact ⟨(wrap64 (x8_1 + 1)), (by first | rfl | (simp; done) | (simp [*]; done)), H', ⟨by have := HK1.out; omega⟩, ⟨by repeat (first | (with_reducible exact BK50100.out) | (with_reducible refine blk_drewN ?_ _) | (with_reducible refine blk_drew ?_) | (with_reducible refine blk_alloc ?_ _) | exact BK50100.out)⟩, ⟨by repeat (first | (with_reducible exact BK50101.out) | (with_reducible refine blk_drewN ?_ _) | (with_reducible refine blk_drew ?_) | (with_reducible refine blk_alloc ?_ _) | exact BK50101.out)⟩, ⟨by repeat (first | (with_reducible exact BK50102.out) | (with_reducible refine blk_drewN ?_ _) | (with_reducible refine blk_drew ?_) | (with_reducible refine blk_alloc ?_ _) | exact BK50102.out)⟩, by repeat (first | exact Drawn0.refl _ | apply Drawn0.step)⟩
          · rw [if_neg c5] at H
            exact absurd H (by simp)
        · rw [if_neg c4] at H
          exact absurd H (by simp)
      · rw [if_neg c3] at H
        have c3b0 : decide (x8_1 < (l0.length : Int)) = false := decide_eq_false c3
        clear c3
        obtain rfl := Option.some.inj H
        go_wp2
        go_ret
        exact ⟨by first | rfl | (simp; done) | (simp [*]; done), by repeat (first | exact Drawn0.refl _ | apply Drawn0.step)⟩

/-! ### slices_ContainsFunc_int_int_at_monoid_groups_1: function 115 -/
def slices_ContainsFunc_int_int_at_monoid_groups_1.f (k : Nat) (l0 : List Int) (l1_0_0 : List (List Int)) (a1_1_0 : Int) (a1_2_0 : Int) : Option (Bool) := (slices_IndexFunc_int_int_at_monoid_groups_1.f k l0 l1_0_0 a1_1_0 a1_2_0).bind fun t142 => (some (decide (t142 ≥ 0)))
theorem slices_ContainsFunc_int_int_at_monoid_groups_1.mono : ∀ a0 a1 a2 a3 k, LeO (slices_ContainsFunc_int_int_at_monoid_groups_1.f k a0 a1 a2 a3) (slices_ContainsFunc_int_int_at_monoid_groups_1.f (k + 1) a0 a1 a2 a3) := by
  intro a0 a1 a2 a3 k
  unfold slices_ContainsFunc_int_int_at_monoid_groups_1.f
  repeat' first
      | (with_reducible exact slices_IndexFunc_int_int_at_monoid_groups_1.mono _ _ _ _ _)
      | (with_reducible exact LeO.refl _)
      | (with_reducible exact LeO.none _)
      | (with_reducible refine LeO.ite ?_ ?_)
      | (with_reducible refine LeO.bind ?_ (fun _ => ?_))
      | exact slices_IndexFunc_int_int_at_monoid_groups_1.mono _ _ _ _ _
      | exact LeO.none _
      | refine LeO.ite ?_ ?_
      | refine LeO.bind ?_ (fun _ => ?_)
set_option maxHeartbeats 8000000 in
set_option maxRecDepth 100000 in
theorem slices_ContainsFunc_int_int_at_monoid_groups_1.calls (k : Nat) (A0 : Option Addr) (c0 : Nat) (l0 : List Int) (g1_0 : Nat) (g1_1 : Nat) (g1_2 : Nat) (A1_0_0 : Option Addr) (c1_0_0 : Nat) (l1_0_0 : List (List Int)) (a1_1_0 : Int) (a1_2_0 : Int) (r : Bool) (w : World) (hr0 : Kd.C (Kd.int .i64) w A0 l0.length l0) (hc0 : l0.length ≤ c0) (hb1_0 : w.heap[g1_0]? = some (.cells #[.slice A1_0_0 l1_0_0.length c1_0_0] 23 (0, 0))) (hr1_0_0 : Kd.C (Kd.slice 3 (Kd.int .i64)) w A1_0_0 l1_0_0.length l1_0_0) (hc1_0_0 : l1_0_0.length ≤ c1_0_0) (hb1_1 : w.heap[g1_1]? = some (.cells #[.int .i64 a1_1_0] 3 (0, 0))) (hb1_2 : w.heap[g1_2]? = some (.cells #[.int .i64 a1_2_0] 3 (0, 0))) (h : slices_ContainsFunc_int_int_at_monoid_groups_1.f k l0 l1_0_0 a1_1_0 a1_2_0 = some r) :
    Calls Try.prog 46 #[.slice A0 l0.length c0, .func (.func 53) #[] #[.pointer (some ⟨g1_0, 0, none⟩), .pointer (some ⟨g1_1, 0, none⟩), .pointer (some ⟨g1_2, 0, none⟩)]] w fun e w' => e = .returned (.bool r) ∧ Drawn0 w w' := by
  have HR0 := Aside0.mk hr0
  have HC0 := Aside0.mk hc0
  clear hr0 hc0
  have HR1_0_0 := Aside0.mk hr1_0_0
  have HC1_0_0 := Aside0.mk hc1_0_0
  clear hr1_0_0 hc1_0_0
  have BK50100 := Aside0.mk hb1_0
  clear hb1_0
  have BK50101 := Aside0.mk hb1_1
  clear hb1_1
  have BK50102 := Aside0.mk hb1_2
  clear hb1_2
  have H : ((slices_IndexFunc_int_int_at_monoid_groups_1.f k l0 l1_0_0 a1_1_0 a1_2_0).bind fun t142 => (some (decide (t142 ≥ 0)))) = some r := h
  clear h
  replace H := Option.bind_eq_some_iff.mp H
  obtain ⟨t142, A30, H⟩ := H
  replace H : (some (decide (t142 ≥ 0))) = some r := H
  have A3 := Aside0.mk A30
  clear A30
  obtain rfl := Option.some.inj H
  go_enter Try.func46, Try.ntmps46
  go_wp2_with (first | (go_at_call 59; (with_reducible refine (slices_IndexFunc_int_int_at_monoid_groups_1.calls k _ _ l0 g1_0 g1_1 g1_2 ?cA3_0_0 ?cC3_0_0 l1_0_0 a1_1_0 a1_2_0 t142 _ ?side1 ?side2 ?side3 ?side4 ?side5 ?side6 ?side7 A3.out).mono ?_); (case side1 => repeat (first | exact HR0.out | (with_reducible refine Kd.C_alloc ?_ _) | (with_reducible refine Kd.C_drewN ?_ _) | (with_reducible refine Kd.C_drew ?_))); (case side2 => exact HC0.out); (case side3 => repeat (first | (with_reducible exact BK50100.out) | (with_reducible refine blk_drewN ?_ _) | (with_reducible refine blk_drew ?_) | (with_reducible refine blk_alloc ?_ _) | exact BK50100.out)); (case side4 => repeat (first | exact HR1_0_0.out | (with_reducible refine Kd.C_alloc ?_ _) | (with_reducible refine Kd.C_drewN ?_ _) | (with_reducible refine Kd.C_drew ?_))); (case side5 => exact HC1_0_0.out); (case side6 => repeat (first | (with_reducible exact BK50101.out) | (with_reducible refine blk_drewN ?_ _) | (with_reducible refine blk_drew ?_) | (with_reducible refine blk_alloc ?_ _) | exact BK50101.out)); (case side7 => repeat (first | (with_reducible exact BK50102.out) | (with_reducible refine blk_drewN ?_ _) | (with_reducible refine blk_drew ?_) | (with_reducible refine blk_alloc ?_ _) | exact BK50102.out)); rintro e w' ⟨rfl, ⟨nd, rfl⟩⟩))
  go_ret
  exact ⟨by first | rfl | (simp; done) | (simp [*]; done), by repeat (first | exact Drawn0.refl _ | apply Drawn0.step)⟩

end Go.Proofs.Ytibphkgcdnconaa.QMon
