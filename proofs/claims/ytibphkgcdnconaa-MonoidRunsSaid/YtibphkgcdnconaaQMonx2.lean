/- Functions of the program as Lean functions, and proofs that the calls come to them (written by xprint.py, this session's program, over the kit's print). -/
import Derived.Test.YtibphkgcdnconaaQMonx0
namespace Go.Proofs.Ytibphkgcdnconaa.QMon
open Go.RowKit Go.Proofs.YtibphkgcdnconaaW.PrintWords Go.Proofs.YtibphkgcdnconaaW.PrintLast Go.Proofs.YtibphkgcdnconaaW.PrintMore Go.Proofs.YtibphkgcdnconaaX
attribute [local go_sem] max2_int min2_int max_two min_two max_three min_three max_four min_four   -- for this text's walks alone
set_option linter.unusedVariables false
set_option linter.unusedSimpArgs false

/-! ### commodatumref10_Valid: function 8 -/
mutual
def commodatumref10_Valid.j0 : Nat → List (List Int) → Int → Bool → Option (Bool)
 | 0, _, _, _ => none
 | k + 1, x0, x3, x16 => if x16 = true then (some false) else (commodatumref10_Valid.l0 k x0 x3 0)
def commodatumref10_Valid.l0 : Nat → List (List Int) → Int → Int → Option (Bool)
 | 0, _, _, _ => none
 | k + 1, x0, x3, x4 => if x4 < x3 then (if 0 ≤ x4 then (if x4 < (x0.length : Int) then (if ((rd_L1 x0 x4).length : Int) = x3 then (commodatumref10_Valid.l1 k x0 x3 x4 0) else (some false)) else (none)) else (none)) else (commodatumref10_Valid.l2 k x0 x3 0)
def commodatumref10_Valid.l1 : Nat → List (List Int) → Int → Int → Int → Option (Bool)
 | 0, _, _, _, _ => none
 | k + 1, x0, x3, x4, x5 => if x5 < x3 then (if 0 ≤ x4 then (if x4 < (x0.length : Int) then (if 0 ≤ x5 then (if x5 < ((rd_L1 x0 x4).length : Int) then (if (rd (rd_L1 x0 x4) x5) < 0 then (some false) else (if (rd (rd_L1 x0 x4) x5) ≥ x3 then (some false) else (commodatumref10_Valid.l1 k x0 x3 x4 (wrap64 (x5 + 1))))) else (none)) else (none)) else (none)) else (none)) else (commodatumref10_Valid.l0 k x0 x3 (wrap64 (x4 + 1)))
def commodatumref10_Valid.l2 : Nat → List (List Int) → Int → Int → Option (Bool)
 | 0, _, _, _ => none
 | k + 1, x0, x3, x6 => if x6 < x3 then (if 0 < (x0.length : Int) then (if 0 ≤ x6 then (if x6 < ((rd_L1 x0 0).length : Int) then (if (rd (rd_L1 x0 0) x6) = x6 then (if x6 < (x0.length : Int) then (if 0 < ((rd_L1 x0 x6).length : Int) then (commodatumref10_Valid.j4 k x0 x3 x6 ((rd (rd_L1 x0 x6) 0) != x6)) else (none)) else (none)) else (commodatumref10_Valid.j4 k x0 x3 x6 true)) else (none)) else (none)) else (none)) else (some true)
def commodatumref10_Valid.j4 : Nat → List (List Int) → Int → Int → Bool → Option (Bool)
 | 0, _, _, _, _ => none
 | k + 1, x0, x3, x6, x75 => if x75 = true then (some false) else (commodatumref10_Valid.l3 k x0 x3 x6 0)
def commodatumref10_Valid.l3 : Nat → List (List Int) → Int → Int → Int → Option (Bool)
 | 0, _, _, _, _ => none
 | k + 1, x0, x3, x6, x7 => if x7 < x3 then (commodatumref10_Valid.l4 k x0 x3 x6 x7 0) else (commodatumref10_Valid.l2 k x0 x3 (wrap64 (x6 + 1)))
def commodatumref10_Valid.l4 : Nat → List (List Int) → Int → Int → Int → Int → Option (Bool)
 | 0, _, _, _, _, _ => none
 | k + 1, x0, x3, x6, x7, x8 => if x8 < x3 then (if 0 ≤ x6 then (if x6 < (x0.length : Int) then (if 0 ≤ x7 then (if x7 < ((rd_L1 x0 x6).length : Int) then (if 0 ≤ (rd (rd_L1 x0 x6) x7) then (if (rd (rd_L1 x0 x6) x7) < (x0.length : Int) then (if 0 ≤ x8 then (if x8 < ((rd_L1 x0 (rd (rd_L1 x0 x6) x7)).length : Int) then (if x7 < (x0.length : Int) then (if x8 < ((rd_L1 x0 x7).length : Int) then (if 0 ≤ (rd (rd_L1 x0 x7) x8) then (if (rd (rd_L1 x0 x7) x8) < ((rd_L1 x0 x6).length : Int) then (if (rd (rd_L1 x0 (rd (rd_L1 x0 x6) x7)) x8) = (rd (rd_L1 x0 x6) (rd (rd_L1 x0 x7) x8)) then (commodatumref10_Valid.l4 k x0 x3 x6 x7 (wrap64 (x8 + 1))) else (some false)) else (none)) else (none)) else (none)) else (none)) else (none)) else (none)) else (none)) else (none)) else (none)) else (none)) else (none)) else (none)) else (commodatumref10_Valid.l3 k x0 x3 x6 (wrap64 (x7 + 1)))
end
def commodatumref10_Valid.f (k : Nat) (l0 : List (List Int)) : Option (Bool) := if (l0.length : Int) < 1 then (commodatumref10_Valid.j0 k l0 (l0.length : Int) true) else (commodatumref10_Valid.j0 k l0 (l0.length : Int) (decide ((l0.length : Int) > 120)))
theorem commodatumref10_Valid.mono_l : ∀ k, (∀ y0 y1 y2, LeO (commodatumref10_Valid.j0 k y0 y1 y2) (commodatumref10_Valid.j0 (k + 1) y0 y1 y2)) ∧ (∀ y0 y1 y2, LeO (commodatumref10_Valid.l0 k y0 y1 y2) (commodatumref10_Valid.l0 (k + 1) y0 y1 y2)) ∧ (∀ y0 y1 y2 y3, LeO (commodatumref10_Valid.l1 k y0 y1 y2 y3) (commodatumref10_Valid.l1 (k + 1) y0 y1 y2 y3)) ∧ (∀ y0 y1 y2, LeO (commodatumref10_Valid.l2 k y0 y1 y2) (commodatumref10_Valid.l2 (k + 1) y0 y1 y2)) ∧ (∀ y0 y1 y2 y3, LeO (commodatumref10_Valid.j4 k y0 y1 y2 y3) (commodatumref10_Valid.j4 (k + 1) y0 y1 y2 y3)) ∧ (∀ y0 y1 y2 y3, LeO (commodatumref10_Valid.l3 k y0 y1 y2 y3) (commodatumref10_Valid.l3 (k + 1) y0 y1 y2 y3)) ∧ (∀ y0 y1 y2 y3 y4, LeO (commodatumref10_Valid.l4 k y0 y1 y2 y3 y4) (commodatumref10_Valid.l4 (k + 1) y0 y1 y2 y3 y4))
 | 0 => ⟨fun _ _ _ r h => by simp [commodatumref10_Valid.j0] at h, fun _ _ _ r h => by simp [commodatumref10_Valid.l0] at h, fun _ _ _ _ r h => by simp [commodatumref10_Valid.l1] at h, fun _ _ _ r h => by simp [commodatumref10_Valid.l2] at h, fun _ _ _ _ r h => by simp [commodatumref10_Valid.j4] at h, fun _ _ _ _ r h => by simp [commodatumref10_Valid.l3] at h, fun _ _ _ _ _ r h => by simp [commodatumref10_Valid.l4] at h⟩
 | k + 1 => by
  obtain ⟨ih0, ih1, ih2, ih3, ih4, ih5, ih6⟩ := commodatumref10_Valid.mono_l k
  refine ⟨?_, ?_, ?_, ?_, ?_, ?_, ?_⟩
  ·intro y0 y1 y2
   unfold commodatumref10_Valid.j0
   repeat' first
   | (with_reducible exact ih0 _ _ _)
   | (with_reducible exact ih1 _ _ _)
   | (with_reducible exact ih2 _ _ _ _)
   | (with_reducible exact ih3 _ _ _)
   | (with_reducible exact ih4 _ _ _ _)
   | (with_reducible exact ih5 _ _ _ _)
   | (with_reducible exact ih6 _ _ _ _ _)
   | (with_reducible exact LeO.refl _)
   | (with_reducible exact LeO.none _)
   | (with_reducible refine LeO.ite ?_ ?_)
   | (with_reducible refine LeO.bind ?_ (fun _ => ?_))
   | exact LeO.none _
   | refine LeO.ite ?_ ?_
   | refine LeO.bind ?_ (fun _ => ?_)
  ·intro y0 y1 y2
   unfold commodatumref10_Valid.l0
   repeat' first
   | (with_reducible exact ih0 _ _ _)
   | (with_reducible exact ih1 _ _ _)
   | (with_reducible exact ih2 _ _ _ _)
   | (with_reducible exact ih3 _ _ _)
   | (with_reducible exact ih4 _ _ _ _)
   | (with_reducible exact ih5 _ _ _ _)
   | (with_reducible exact ih6 _ _ _ _ _)
   | (with_reducible exact LeO.refl _)
   | (with_reducible exact LeO.none _)
   | (with_reducible refine LeO.ite ?_ ?_)
   | (with_reducible refine LeO.bind ?_ (fun _ => ?_))
   | exact LeO.none _
   | refine LeO.ite ?_ ?_
   | refine LeO.bind ?_ (fun _ => ?_)
  ·intro y0 y1 y2 y3
   unfold commodatumref10_Valid.l1
   repeat' first
   | (with_reducible exact ih0 _ _ _)
   | (with_reducible exact ih1 _ _ _)
   | (with_reducible exact ih2 _ _ _ _)
   | (with_reducible exact ih3 _ _ _)
   | (with_reducible exact ih4 _ _ _ _)
   | (with_reducible exact ih5 _ _ _ _)
   | (with_reducible exact ih6 _ _ _ _ _)
   | (with_reducible exact LeO.refl _)
   | (with_reducible exact LeO.none _)
   | (with_reducible refine LeO.ite ?_ ?_)
   | (with_reducible refine LeO.bind ?_ (fun _ => ?_))
   | exact LeO.none _
   | refine LeO.ite ?_ ?_
   | refine LeO.bind ?_ (fun _ => ?_)
  ·intro y0 y1 y2
   unfold commodatumref10_Valid.l2
   repeat' first
   | (with_reducible exact ih0 _ _ _)
   | (with_reducible exact ih1 _ _ _)
   | (with_reducible exact ih2 _ _ _ _)
   | (with_reducible exact ih3 _ _ _)
   | (with_reducible exact ih4 _ _ _ _)
   | (with_reducible exact ih5 _ _ _ _)
   | (with_reducible exact ih6 _ _ _ _ _)
   | (with_reducible exact LeO.refl _)
   | (with_reducible exact LeO.none _)
   | (with_reducible refine LeO.ite ?_ ?_)
   | (with_reducible refine LeO.bind ?_ (fun _ => ?_))
   | exact LeO.none _
   | refine LeO.ite ?_ ?_
   | refine LeO.bind ?_ (fun _ => ?_)
  ·intro y0 y1 y2 y3
   unfold commodatumref10_Valid.j4
   repeat' first
   | (with_reducible exact ih0 _ _ _)
   | (with_reducible exact ih1 _ _ _)
   | (with_reducible exact ih2 _ _ _ _)
   | (with_reducible exact ih3 _ _ _)
   | (with_reducible exact ih4 _ _ _ _)
   | (with_reducible exact ih5 _ _ _ _)
   | (with_reducible exact ih6 _ _ _ _ _)
   | (with_reducible exact LeO.refl _)
   | (with_reducible exact LeO.none _)
   | (with_reducible refine LeO.ite ?_ ?_)
   | (with_reducible refine LeO.bind ?_ (fun _ => ?_))
   | exact LeO.none _
   | refine LeO.ite ?_ ?_
   | refine LeO.bind ?_ (fun _ => ?_)
  ·intro y0 y1 y2 y3
   unfold commodatumref10_Valid.l3
   repeat' first
   | (with_reducible exact ih0 _ _ _)
   | (with_reducible exact ih1 _ _ _)
   | (with_reducible exact ih2 _ _ _ _)
   | (with_reducible exact ih3 _ _ _)
   | (with_reducible exact ih4 _ _ _ _)
   | (with_reducible exact ih5 _ _ _ _)
   | (with_reducible exact ih6 _ _ _ _ _)
   | (with_reducible exact LeO.refl _)
   | (with_reducible exact LeO.none _)
   | (with_reducible refine LeO.ite ?_ ?_)
   | (with_reducible refine LeO.bind ?_ (fun _ => ?_))
   | exact LeO.none _
   | refine LeO.ite ?_ ?_
   | refine LeO.bind ?_ (fun _ => ?_)
  ·intro y0 y1 y2 y3 y4
   unfold commodatumref10_Valid.l4
   repeat' first
   | (with_reducible exact ih0 _ _ _)
   | (with_reducible exact ih1 _ _ _)
   | (with_reducible exact ih2 _ _ _ _)
   | (with_reducible exact ih3 _ _ _)
   | (with_reducible exact ih4 _ _ _ _)
   | (with_reducible exact ih5 _ _ _ _)
   | (with_reducible exact ih6 _ _ _ _ _)
   | (with_reducible exact LeO.refl _)
   | (with_reducible exact LeO.none _)
   | (with_reducible refine LeO.ite ?_ ?_)
   | (with_reducible refine LeO.bind ?_ (fun _ => ?_))
   | exact LeO.none _
   | refine LeO.ite ?_ ?_
   | refine LeO.bind ?_ (fun _ => ?_)
theorem commodatumref10_Valid.mono : ∀ a0 k, LeO (commodatumref10_Valid.f k a0) (commodatumref10_Valid.f (k + 1) a0) := by
 intro a0 k
 obtain ⟨ih0, ih1, ih2, ih3, ih4, ih5, ih6⟩ := commodatumref10_Valid.mono_l k
 unfold commodatumref10_Valid.f
 repeat' first
   | (with_reducible exact ih0 _ _ _)
   | (with_reducible exact ih1 _ _ _)
   | (with_reducible exact ih2 _ _ _ _)
   | (with_reducible exact ih3 _ _ _)
   | (with_reducible exact ih4 _ _ _ _)
   | (with_reducible exact ih5 _ _ _ _)
   | (with_reducible exact ih6 _ _ _ _ _)
   | (with_reducible exact LeO.refl _)
   | (with_reducible exact LeO.none _)
   | (with_reducible refine LeO.ite ?_ ?_)
   | (with_reducible refine LeO.bind ?_ (fun _ => ?_))
   | exact LeO.none _
   | refine LeO.ite ?_ ?_
   | refine LeO.bind ?_ (fun _ => ?_)
set_option maxHeartbeats 8000000 in
set_option maxRecDepth 100000 in
theorem commodatumref10_Valid.calls (k : Nat) (A0 : Option Addr) (c0 : Nat) (l0 : List (List Int)) (r : Bool) (w : World) (hr0 : Kd.C (Kd.slice 3 (Kd.int .i64)) w A0 l0.length l0) (hc0 : l0.length ≤ c0) (h : commodatumref10_Valid.f k l0 = some r) :
  Calls Try.prog 8 #[.slice A0 l0.length c0] w fun e w' => e = .returned (.bool r) ∧ Drawn0 w w' := by
 have HR0 := Aside0.mk hr0
 have HC0 := Aside0.mk hc0
 clear hr0 hc0
 have H : (if (l0.length : Int) < 1 then (commodatumref10_Valid.j0 k l0 (l0.length : Int) true) else (commodatumref10_Valid.j0 k l0 (l0.length : Int) (decide ((l0.length : Int) > 120)))) = some r := h
 clear h
 have HC2 := Aside0.mk H
 clear H
 go_enter Try.func8, Try.ntmps8
 go_upto_region 2 with (fail)
 repeat (go_quiet (fail); go_upto_region 2 with (fail))
 go_cut [16] (fun v16 wc => ∃ (kq : Nat) (x16_1 : Bool), v16 = .bool x16_1 ∧ Aside0 (commodatumref10_Valid.j0 kq l0 (l0.length : Int) x16_1 = some r) ∧ Aside0 (kq ≤ k) ∧ Drawn0 w wc)
 case first =>
  have H := HC2.out
  clear HC2
  by_cases c3 : (l0.length : Int) < 1
  ·rw [if_pos c3] at H
   have c3b0 : decide ((l0.length : Int) < 1) = true := decide_eq_true c3
   have c3b1 : decide (l0.length < 1) = true := decide_eq_true (by omega)
   clear c3
   (first | rw [c3b0] | (simp only [i64_w, i32_w]; rw [c3b0]) | skip)
   have H' := Aside0.mk H
   clear H
   go_wp2
   repeat (go_quiet (fail); try go_wp2)
   go_meet
   case rel => exact ⟨_, (true), (by first | rfl | (simp; done) | (simp [*]; done)), H', ⟨by first | omega | exact Nat.le_refl _⟩, by repeat (first | exact Drawn0.refl _ | apply Drawn0.step)⟩
  ·rw [if_neg c3] at H
   have c3b0 : decide ((l0.length : Int) < 1) = false := decide_eq_false c3
   have c3b1 : decide (l0.length < 1) = false := decide_eq_false (by omega)
   clear c3
   (first | rw [c3b0] | (simp only [i64_w, i32_w]; rw [c3b0]) | skip)
   have H' := Aside0.mk H
   clear H
   go_wp2
   repeat (go_quiet (fail); try go_wp2)
   go_meet
   case rel => exact ⟨_, (decide ((l0.length : Int) > 120)), (by first | rfl | (simp; done) | (simp [*]; done)), H', ⟨by first | omega | exact Nat.le_refl _⟩, by repeat (first | exact Drawn0.refl _ | apply Drawn0.step)⟩
 case rest => as_aux_lemma =>
  clear HC2
  (try clear p2); (try clear c3); (try clear c3b0); (try clear c3b1)
  obtain ⟨kq, x16_1, rfl, HA, HJ1, ⟨mc1, rfl⟩⟩ := hcut
  cases kq with
  | zero => exact absurd HA.out (by simp [commodatumref10_Valid.j0])
  | succ kj1 =>
   have H := HA.out
   clear HA
   simp only [commodatumref10_Valid.j0] at H
   by_cases c4 : x16_1 = true
   ·subst c4
    have H1 : (some false) = some r := by rw [if_pos rfl] at H; exact H
    clear H
    have H := H1
    clear H1
    obtain rfl := Option.some.inj H
    go_wp2
    repeat (go_quiet (fail); try go_wp2)
    go_ret
    exact ⟨by first | rfl | (simp; done) | (simp [*]; done), by repeat (first | exact Drawn0.refl _ | apply Drawn0.step)⟩
   ·replace c4 := Bool.eq_false_iff.mpr c4
    subst c4
    have H1 : (commodatumref10_Valid.l0 kj1 l0 (l0.length : Int) 0) = some r := by rw [if_neg (show ¬ (false = true) by decide)] at H; exact H
    clear H
    have H := H1
    clear H1
    have H' := Aside0.mk H
    clear H
    go_wp2
    repeat (go_quiet (fail); try go_wp2)
    go_loopg [4] kj1 (fun kq v4 w' => ∃ (x4_2 : Int), v4 = .int .i64 x4_2 ∧ Aside0 (commodatumref10_Valid.l0 kq l0 (l0.length : Int) x4_2 = some r) ∧ Aside0 (kq ≤ kj1) ∧ Drawn0 w w')
    case atStart => exact ⟨(0), (by first | rfl | (simp; done) | (simp [*]; done)), H', ⟨Nat.le_refl _⟩, by repeat (first | exact Drawn0.refl _ | apply Drawn0.step)⟩
    case round => as_aux_lemma =>
     clear H'
     (try clear c1); (try clear p2); (try clear c3); (try clear c3b0); (try clear c3b1); (try clear c4); (try clear p2)
     obtain ⟨x4_2, rfl, HA, HK2, ⟨m2, rfl⟩⟩ := hrel
     cases gk with
     | zero => exact absurd HA.out (by simp [commodatumref10_Valid.l0])
     | succ k2 =>
      have H := HA.out
      clear HA
      simp only [commodatumref10_Valid.l0] at H
      by_cases c5 : x4_2 < (l0.length : Int)
      ·rw [if_pos c5] at H
       have c5b0 : decide (x4_2 < (l0.length : Int)) = true := decide_eq_true c5
       clear c5
       by_cases c6 : 0 ≤ x4_2
       ·rw [if_pos c6] at H
        have c6b0 : decide (0 ≤ x4_2) = true := decide_eq_true c6
        clear c6
        by_cases c7 : x4_2 < (l0.length : Int)
        ·rw [if_pos c7] at H
         have c7b0 : decide (x4_2 < (l0.length : Int)) = true := decide_eq_true c7
         clear c7
         by_cases c8 : ((rd_L1 l0 x4_2).length : Int) = (l0.length : Int)
         ·rw [if_pos c8] at H
          have c8b0 : (((rd_L1 l0 x4_2).length : Int) == (l0.length : Int)) = true := beq_iff_eq.mpr c8
          have c8b1 : (((rd_L1 l0 x4_2).length : Int) != (l0.length : Int)) = false := bne_eq_false_iff_eq.mpr c8
          have c8b2 : ((rd_L1 l0 x4_2).length == l0.length) = true := by first | simpa using c8 | (simp at c8 ⊢; omega)
          clear c8
          have H' := Aside0.mk H
          clear H
          have p102 : 0 ≤ (x4_2 : Int) := odt
          have q102 : x4_2 < (l0.length : Int) := odt
          obtain ⟨ad102, A102_0, c102_0, e102, hx102_0, hl102_0, hi102_0⟩ := at_L1 HR0.out x4_2 p102 q102
          cases e102
          have HR102_0 := Aside0.mk hi102_0
          have HC102_0 := Aside0.mk hl102_0
          clear hi102_0 hl102_0
          replace p102 := eq_true p102
          replace q102 := eq_true q102
          go_wp2
          repeat (go_quiet (fail); try go_wp2)
          go_loopg [5] k2 (fun kq v5 w' => ∃ (x5_3 : Int), v5 = .int .i64 x5_3 ∧ Aside0 (commodatumref10_Valid.l1 kq l0 (l0.length : Int) x4_2 x5_3 = some r) ∧ Aside0 (kq ≤ k2) ∧ Drawn0 w w')
          case atStart => exact ⟨(0), (by first | rfl | (simp; done) | (simp [*]; done)), H', ⟨Nat.le_refl _⟩, by repeat (first | exact Drawn0.refl _ | apply Drawn0.step)⟩
          case round => as_aux_lemma =>
           clear H'
           (try clear c1); (try clear p1); (try clear q1); (try clear hx1); (try clear p2); (try clear c3); (try clear c3b0); (try clear c3b1); (try clear c4); (try clear c5); (try clear c5b0); (try clear c6); (try clear c6b0); (try clear c7); (try clear c7b0); (try clear c8); (try clear c8b0); (try clear c8b1); (try clear c8b2); (try clear hx102_0); (try clear p102); (try clear p2); (try clear q102)
           obtain ⟨x5_3, rfl, HA, HK3, ⟨m3, rfl⟩⟩ := hrel
           cases gk with
           | zero => exact absurd HA.out (by simp [commodatumref10_Valid.l1])
           | succ k3 =>
            have H := HA.out
            clear HA
            simp only [commodatumref10_Valid.l1] at H
            by_cases c9 : x5_3 < (l0.length : Int)
            ·rw [if_pos c9] at H
             have c9b0 : decide (x5_3 < (l0.length : Int)) = true := decide_eq_true c9
             clear c9
             by_cases c10 : 0 ≤ x4_2
             ·rw [if_pos c10] at H
              have c10b0 : decide (0 ≤ x4_2) = true := decide_eq_true c10
              clear c10
              by_cases c11 : x4_2 < (l0.length : Int)
              ·rw [if_pos c11] at H
               have c11b0 : decide (x4_2 < (l0.length : Int)) = true := decide_eq_true c11
               clear c11
               by_cases c12 : 0 ≤ x5_3
               ·rw [if_pos c12] at H
                have c12b0 : decide (0 ≤ x5_3) = true := decide_eq_true c12
                clear c12
                by_cases c13 : x5_3 < ((rd_L1 l0 x4_2).length : Int)
                ·rw [if_pos c13] at H
                 have c13b0 : decide (x5_3 < ((rd_L1 l0 x4_2).length : Int)) = true := decide_eq_true c13
                 clear c13
                 by_cases c14 : (rd (rd_L1 l0 x4_2) x5_3) < 0
                 ·rw [if_pos c14] at H
                  have c14b0 : decide ((rd (rd_L1 l0 x4_2) x5_3) < 0) = true := decide_eq_true c14
                  clear c14
                  obtain rfl := Option.some.inj H
                  have p103 : 0 ≤ (x4_2 : Int) := odt
                  have q103 : x4_2 < (l0.length : Int) := odt
                  obtain ⟨ad103, A103_0, c103_0, e103, hx103_0, hl103_0, hi103_0⟩ := at_L1 HR0.out x4_2 p103 q103
                  obtain rfl : ad102 = ad103 := (by injection e103)
                  have HR103_0 := Aside0.mk hi103_0
                  have HC103_0 := Aside0.mk hl103_0
                  clear hi103_0 hl103_0
                  replace p103 := eq_true p103
                  replace q103 := eq_true q103
                  have p104 : 0 ≤ (x5_3 : Int) := odt
                  have q104 : x5_3 < ((rd_L1 l0 x4_2).length : Int) := odt
                  obtain ⟨ad104, e104, hx104_0⟩ := Kd.at_int HR103_0.out x5_3 p104 q104
                  cases e104
                  replace p104 := eq_true p104
                  replace q104 := eq_true q104
                  go_wp2
                  repeat (go_quiet (fail); try go_wp2)
                  go_ret
                  exact ⟨by first | rfl | (simp; done) | (simp [*]; done), by repeat (first | exact Drawn0.refl _ | apply Drawn0.step)⟩
                 ·rw [if_neg c14] at H
                  have c14b0 : decide ((rd (rd_L1 l0 x4_2) x5_3) < 0) = false := decide_eq_false c14
                  clear c14
                  by_cases c15 : (rd (rd_L1 l0 x4_2) x5_3) ≥ (l0.length : Int)
                  ·rw [if_pos c15] at H
                   have c15b0 : decide ((l0.length : Int) ≤ (rd (rd_L1 l0 x4_2) x5_3)) = true := decide_eq_true c15
                   clear c15
                   obtain rfl := Option.some.inj H
                   have p103 : 0 ≤ (x4_2 : Int) := odt
                   have q103 : x4_2 < (l0.length : Int) := odt
                   obtain ⟨ad103, A103_0, c103_0, e103, hx103_0, hl103_0, hi103_0⟩ := at_L1 HR0.out x4_2 p103 q103
                   obtain rfl : ad102 = ad103 := (by injection e103)
                   have HR103_0 := Aside0.mk hi103_0
                   have HC103_0 := Aside0.mk hl103_0
                   clear hi103_0 hl103_0
                   replace p103 := eq_true p103
                   replace q103 := eq_true q103
                   have p104 : 0 ≤ (x5_3 : Int) := odt
                   have q104 : x5_3 < ((rd_L1 l0 x4_2).length : Int) := odt
                   obtain ⟨ad104, e104, hx104_0⟩ := Kd.at_int HR103_0.out x5_3 p104 q104
                   cases e104
                   replace p104 := eq_true p104
                   replace q104 := eq_true q104
                   have p105 : 0 ≤ (x4_2 : Int) := odt
                   have q105 : x4_2 < (l0.length : Int) := odt
                   obtain ⟨ad105, A105_0, c105_0, e105, hx105_0, hl105_0, hi105_0⟩ := at_L1 HR0.out x4_2 p105 q105
                   obtain rfl : ad102 = ad105 := (by injection e105)
                   have HR105_0 := Aside0.mk hi105_0
                   have HC105_0 := Aside0.mk hl105_0
                   clear hi105_0 hl105_0
                   replace p105 := eq_true p105
                   replace q105 := eq_true q105
                   have ea_ := Option.some.inj (hx103_0.symm.trans hx105_0)
                   injection ea_ with ea_ en_ ec_
                   subst ea_
                   subst ec_
                   clear en_
                   have p106 : 0 ≤ (x5_3 : Int) := odt
                   have q106 : x5_3 < ((rd_L1 l0 x4_2).length : Int) := odt
                   obtain ⟨ad106, e106, hx106_0⟩ := Kd.at_int HR105_0.out x5_3 p106 q106
                   cases e106
                   replace p106 := eq_true p106
                   replace q106 := eq_true q106
                   go_wp2
                   repeat (go_quiet (fail); try go_wp2)
                   go_ret
                   exact ⟨by first | rfl | (simp; done) | (simp [*]; done), by repeat (first | exact Drawn0.refl _ | apply Drawn0.step)⟩
                  ·rw [if_neg c15] at H
                   have c15b0 : decide ((l0.length : Int) ≤ (rd (rd_L1 l0 x4_2) x5_3)) = false := decide_eq_false c15
                   clear c15
                   have H' := Aside0.mk H
                   clear H
                   have p103 : 0 ≤ (x4_2 : Int) := odt
                   have q103 : x4_2 < (l0.length : Int) := odt
                   obtain ⟨ad103, A103_0, c103_0, e103, hx103_0, hl103_0, hi103_0⟩ := at_L1 HR0.out x4_2 p103 q103
                   obtain rfl : ad102 = ad103 := (by injection e103)
                   have HR103_0 := Aside0.mk hi103_0
                   have HC103_0 := Aside0.mk hl103_0
                   clear hi103_0 hl103_0
                   replace p103 := eq_true p103
                   replace q103 := eq_true q103
                   have p104 : 0 ≤ (x5_3 : Int) := odt
                   have q104 : x5_3 < ((rd_L1 l0 x4_2).length : Int) := odt
                   obtain ⟨ad104, e104, hx104_0⟩ := Kd.at_int HR103_0.out x5_3 p104 q104
                   cases e104
                   replace p104 := eq_true p104
                   replace q104 := eq_true q104
                   have p105 : 0 ≤ (x4_2 : Int) := odt
                   have q105 : x4_2 < (l0.length : Int) := odt
                   obtain ⟨ad105, A105_0, c105_0, e105, hx105_0, hl105_0, hi105_0⟩ := at_L1 HR0.out x4_2 p105 q105
                   obtain rfl : ad102 = ad105 := (by injection e105)
                   have HR105_0 := Aside0.mk hi105_0
                   have HC105_0 := Aside0.mk hl105_0
                   clear hi105_0 hl105_0
                   replace p105 := eq_true p105
                   replace q105 := eq_true q105
                   have ea_ := Option.some.inj (hx103_0.symm.trans hx105_0)
                   injection ea_ with ea_ en_ ec_
                   subst ea_
                   subst ec_
                   clear en_
                   have p106 : 0 ≤ (x5_3 : Int) := odt
                   have q106 : x5_3 < ((rd_L1 l0 x4_2).length : Int) := odt
                   obtain ⟨ad106, e106, hx106_0⟩ := Kd.at_int HR105_0.out x5_3 p106 q106
                   cases e106
                   replace p106 := eq_true p106
                   replace q106 := eq_true q106
                   go_wp2
                   repeat (go_quiet (fail); try go_wp2)
                   go_roundg k3
                   case measure => have := HJ1.out; have := HK2.out; have := HK3.out; omega
                   case rel => exact ⟨(wrap64 (x5_3 + 1)), (by first | rfl | (simp; done) | (simp [*]; done)), H', ⟨by have := HJ1.out; have := HK2.out; have := HK3.out; omega⟩, by repeat (first | exact Drawn0.refl _ | apply Drawn0.step)⟩
                ·rw [if_neg c13] at H
                 exact absurd H (by simp)
               ·rw [if_neg c12] at H
                exact absurd H (by simp)
              ·rw [if_neg c11] at H
               exact absurd H (by simp)
             ·rw [if_neg c10] at H
              exact absurd H (by simp)
            ·rw [if_neg c9] at H
             have c9b0 : decide (x5_3 < (l0.length : Int)) = false := decide_eq_false c9
             clear c9
             have H' := Aside0.mk H
             clear H
             go_wp2
             repeat (go_quiet (fail); try go_wp2)
             go_roundg k3
             case measure => have := HJ1.out; have := HK2.out; have := HK3.out; omega
             case rel => exact ⟨(wrap64 (x4_2 + 1)), (by first | rfl | (simp; done) | (simp [*]; done)), H', ⟨by have := HJ1.out; have := HK2.out; have := HK3.out; omega⟩, by repeat (first | exact Drawn0.refl _ | apply Drawn0.step)⟩
         ·rw [if_neg c8] at H
          have c8b0 : (((rd_L1 l0 x4_2).length : Int) == (l0.length : Int)) = false := beq_eq_false_iff_ne.mpr c8
          have c8b1 : (((rd_L1 l0 x4_2).length : Int) != (l0.length : Int)) = true := bne_iff_ne.mpr c8
          have c8b2 : ((rd_L1 l0 x4_2).length == l0.length) = false := by first | simpa using c8 | (simp at c8 ⊢; omega)
          obtain rfl := Option.some.inj H
          have p102 : 0 ≤ (x4_2 : Int) := odt
          have q102 : x4_2 < (l0.length : Int) := odt
          obtain ⟨ad102, A102_0, c102_0, e102, hx102_0, hl102_0, hi102_0⟩ := at_L1 HR0.out x4_2 p102 q102
          cases e102
          have HR102_0 := Aside0.mk hi102_0
          have HC102_0 := Aside0.mk hl102_0
          clear hi102_0 hl102_0
          replace p102 := eq_true p102
          replace q102 := eq_true q102
          go_wp2
          repeat (go_quiet (fail); try go_wp2)
          go_ret
          exact ⟨by first | rfl | (simp; done) | (simp [*]; done), by repeat (first | exact Drawn0.refl _ | apply Drawn0.step)⟩
        ·rw [if_neg c7] at H
         exact absurd H (by simp)
       ·rw [if_neg c6] at H
        exact absurd H (by simp)
      ·rw [if_neg c5] at H
       have c5b0 : decide (x4_2 < (l0.length : Int)) = false := decide_eq_false c5
       clear c5
       have H' := Aside0.mk H
       clear H
       go_wp2
       repeat (go_quiet (fail); try go_wp2)
       go_loopg [6] k2 (fun kq v6 w' => ∃ (x6_3 : Int), v6 = .int .i64 x6_3 ∧ Aside0 (commodatumref10_Valid.l2 kq l0 (l0.length : Int) x6_3 = some r) ∧ Aside0 (kq ≤ k2) ∧ Drawn0 w w')
       case atStart => exact ⟨(0), (by first | rfl | (simp; done) | (simp [*]; done)), H', ⟨Nat.le_refl _⟩, by repeat (first | exact Drawn0.refl _ | apply Drawn0.step)⟩
       case round => as_aux_lemma =>
        clear H'
        (try clear c1); (try clear p1); (try clear q1); (try clear hx1); (try clear p2); (try clear c3); (try clear c3b0); (try clear c3b1); (try clear c4); (try clear c5); (try clear c5b0); (try clear c6); (try clear c6b0); (try clear p6); (try clear c7); (try clear c7b0); (try clear c8); (try clear c8b0); (try clear c8b1); (try clear c8b2); (try clear c9); (try clear c9b0); (try clear c10); (try clear c10b0); (try clear p10); (try clear q10); (try clear hx10); (try clear c11); (try clear c11b0); (try clear c12); (try clear c12b0); (try clear c13); (try clear c13b0); (try clear c14); (try clear c14b0); (try clear c15); (try clear c15b0); (try clear hx102_0); (try clear hx103_0); (try clear hx104_0); (try clear hx105_0); (try clear hx106_0); (try clear p1); (try clear p102); (try clear p103); (try clear p104); (try clear p105); (try clear p106); (try clear p2); (try clear q1); (try clear q102); (try clear q103); (try clear q104); (try clear q105); (try clear q106)
        obtain ⟨x6_3, rfl, HA, HK3, ⟨m3, rfl⟩⟩ := hrel
        cases gk with
        | zero => exact absurd HA.out (by simp [commodatumref10_Valid.l2])
        | succ k3 =>
         have H := HA.out
         clear HA
         simp only [commodatumref10_Valid.l2] at H
         by_cases c16 : x6_3 < (l0.length : Int)
         ·rw [if_pos c16] at H
          have c16b0 : decide (x6_3 < (l0.length : Int)) = true := decide_eq_true c16
          clear c16
          have HC17 := Aside0.mk H
          clear H
          go_upto_region 17 with (fail)
          repeat (go_quiet (fail); go_upto_region 17 with (fail))
          go_cut [75] (fun v75 wc => ∃ (kq : Nat) (x75_16 : Bool), v75 = .bool x75_16 ∧ Aside0 (commodatumref10_Valid.j4 kq l0 (l0.length : Int) x6_3 x75_16 = some r) ∧ Aside0 (kq ≤ k3) ∧ Drawn0 w wc)
          case first =>
           have H := HC17.out
           clear HC17
           by_cases c18 : 0 < (l0.length : Int)
           ·rw [if_pos c18] at H
            have c18b0 : decide (0 < (l0.length : Int)) = true := decide_eq_true c18
            have c18b1 : decide (0 < l0.length) = true := decide_eq_true (by omega)
            clear c18
            (first | rw [c18b0] | (simp only [i64_w, i32_w]; rw [c18b0]) | skip)
            by_cases c19 : 0 ≤ x6_3
            ·rw [if_pos c19] at H
             have c19b0 : decide (0 ≤ x6_3) = true := decide_eq_true c19
             clear c19
             by_cases c20 : x6_3 < ((rd_L1 l0 0).length : Int)
             ·rw [if_pos c20] at H
              have c20b0 : decide (x6_3 < ((rd_L1 l0 0).length : Int)) = true := decide_eq_true c20
              clear c20
              by_cases c21 : (rd (rd_L1 l0 0) x6_3) = x6_3
              ·rw [if_pos c21] at H
               have c21b0 : ((rd (rd_L1 l0 0) x6_3) == x6_3) = true := beq_iff_eq.mpr c21
               have c21b1 : ((rd (rd_L1 l0 0) x6_3) != x6_3) = false := bne_eq_false_iff_eq.mpr c21
               clear c21
               by_cases c22 : x6_3 < (l0.length : Int)
               ·rw [if_pos c22] at H
                have c22b0 : decide (x6_3 < (l0.length : Int)) = true := decide_eq_true c22
                clear c22
                by_cases c23 : 0 < ((rd_L1 l0 x6_3).length : Int)
                ·rw [if_pos c23] at H
                 have c23b0 : decide (0 < ((rd_L1 l0 x6_3).length : Int)) = true := decide_eq_true c23
                 have c23b1 : decide (0 < (rd_L1 l0 x6_3).length) = true := decide_eq_true (by omega)
                 clear c23
                 have H' := Aside0.mk H
                 clear H
                 have p107 : 0 ≤ (0 : Int) := (by omega)
                 have q107 : 0 < (l0.length : Int) := odt
                 obtain ⟨ad107, A107_0, c107_0, e107, hx107_0, hl107_0, hi107_0⟩ := at_L1 HR0.out 0 p107 q107
                 cases e107
                 have qi107 : (0 < l0.length) = True := eq_true (by omega)
                 (try rw [show ((0 : Int)).toNat = 0 from rfl] at hx107_0)
                 (try rw [Addr.add_zero'] at hx107_0)
                 have HR107_0 := Aside0.mk hi107_0
                 have HC107_0 := Aside0.mk hl107_0
                 clear hi107_0 hl107_0
                 replace p107 := eq_true p107
                 replace q107 := eq_true q107
                 have p108 : 0 ≤ (x6_3 : Int) := odt
                 have q108 : x6_3 < ((rd_L1 l0 0).length : Int) := odt
                 obtain ⟨ad108, e108, hx108_0⟩ := Kd.at_int HR107_0.out x6_3 p108 q108
                 cases e108
                 replace p108 := eq_true p108
                 replace q108 := eq_true q108
                 have p109 : 0 ≤ (x6_3 : Int) := odt
                 have q109 : x6_3 < (l0.length : Int) := odt
                 obtain ⟨ad109, A109_0, c109_0, e109, hx109_0, hl109_0, hi109_0⟩ := at_L1 HR0.out x6_3 p109 q109
                 obtain rfl : ad107 = ad109 := (by injection e109)
                 have HR109_0 := Aside0.mk hi109_0
                 have HC109_0 := Aside0.mk hl109_0
                 clear hi109_0 hl109_0
                 replace p109 := eq_true p109
                 replace q109 := eq_true q109
                 have p110 : 0 ≤ (0 : Int) := (by omega)
                 have q110 : 0 < ((rd_L1 l0 x6_3).length : Int) := odt
                 obtain ⟨ad110, e110, hx110_0⟩ := Kd.at_int HR109_0.out 0 p110 q110
                 cases e110
                 have qi110 : (0 < (rd_L1 l0 x6_3).length) = True := eq_true (by omega)
                 (try rw [show ((0 : Int)).toNat = 0 from rfl] at hx110_0)
                 (try rw [Addr.add_zero'] at hx110_0)
                 replace p110 := eq_true p110
                 replace q110 := eq_true q110
                 go_wp2
                 repeat (go_quiet (fail); try go_wp2)
                 go_meet
                 case rel => exact ⟨_, (((rd (rd_L1 l0 x6_3) 0) != x6_3)), (by first | rfl | (simp; done) | (simp [*]; done)), H', ⟨by have := HJ1.out; have := HK2.out; have := HK3.out; first | omega | exact Nat.le_refl _⟩, by repeat (first | exact Drawn0.refl _ | apply Drawn0.step)⟩
                ·rw [if_neg c23] at H
                 exact absurd H (by simp)
               ·rw [if_neg c22] at H
                exact absurd H (by simp)
              ·rw [if_neg c21] at H
               have c21b0 : ((rd (rd_L1 l0 0) x6_3) == x6_3) = false := beq_eq_false_iff_ne.mpr c21
               have c21b1 : ((rd (rd_L1 l0 0) x6_3) != x6_3) = true := bne_iff_ne.mpr c21
               have H' := Aside0.mk H
               clear H
               have p107 : 0 ≤ (0 : Int) := (by omega)
               have q107 : 0 < (l0.length : Int) := odt
               obtain ⟨ad107, A107_0, c107_0, e107, hx107_0, hl107_0, hi107_0⟩ := at_L1 HR0.out 0 p107 q107
               cases e107
               have qi107 : (0 < l0.length) = True := eq_true (by omega)
               (try rw [show ((0 : Int)).toNat = 0 from rfl] at hx107_0)
               (try rw [Addr.add_zero'] at hx107_0)
               have HR107_0 := Aside0.mk hi107_0
               have HC107_0 := Aside0.mk hl107_0
               clear hi107_0 hl107_0
               replace p107 := eq_true p107
               replace q107 := eq_true q107
               have p108 : 0 ≤ (x6_3 : Int) := odt
               have q108 : x6_3 < ((rd_L1 l0 0).length : Int) := odt
               obtain ⟨ad108, e108, hx108_0⟩ := Kd.at_int HR107_0.out x6_3 p108 q108
               cases e108
               replace p108 := eq_true p108
               replace q108 := eq_true q108
               go_wp2
               repeat (go_quiet (fail); try go_wp2)
               go_meet
               case rel => exact ⟨_, (true), (by first | rfl | (simp; done) | (simp [*]; done)), H', ⟨by have := HJ1.out; have := HK2.out; have := HK3.out; first | omega | exact Nat.le_refl _⟩, by repeat (first | exact Drawn0.refl _ | apply Drawn0.step)⟩
             ·rw [if_neg c20] at H
              exact absurd H (by simp)
            ·rw [if_neg c19] at H
             exact absurd H (by simp)
           ·rw [if_neg c18] at H
            exact absurd H (by simp)
          case rest => as_aux_lemma =>
           clear HC17
           (try clear c1); (try clear p1); (try clear q1); (try clear hx1); (try clear qi1); (try clear c2); (try clear p2); (try clear c3); (try clear c3b0); (try clear c3b1); (try clear c4); (try clear c5); (try clear c5b0); (try clear c6); (try clear c6b0); (try clear p6); (try clear c7); (try clear c7b0); (try clear c8); (try clear c8b0); (try clear c8b1); (try clear c8b2); (try clear c9); (try clear c9b0); (try clear c10); (try clear c10b0); (try clear p10); (try clear q10); (try clear hx10); (try clear qi10); (try clear c11); (try clear c11b0); (try clear p11); (try clear q11); (try clear hx11); (try clear qi11); (try clear c12); (try clear c12b0); (try clear c13); (try clear c13b0); (try clear c14); (try clear c14b0); (try clear c15); (try clear c15b0); (try clear c16); (try clear c16b0); (try clear c18); (try clear c18b0); (try clear c18b1); (try clear c19); (try clear c19b0); (try clear c20); (try clear c20b0); (try clear c21); (try clear c21b0); (try clear c21b1); (try clear c22); (try clear c22b0); (try clear c23); (try clear c23b0); (try clear c23b1); (try clear hx102_0); (try clear hx103_0); (try clear hx104_0); (try clear hx105_0); (try clear hx106_0); (try clear hx107_0); (try clear hx108_0); (try clear hx109_0); (try clear hx110_0); (try clear p1); (try clear p10); (try clear p102); (try clear p103); (try clear p104); (try clear p105); (try clear p106); (try clear p107); (try clear p108); (try clear p109); (try clear p110); (try clear p2); (try clear p6); (try clear q1); (try clear q10); (try clear q102); (try clear q103); (try clear q104); (try clear q105); (try clear q106); (try clear q107); (try clear q108); (try clear q109); (try clear q110)
           obtain ⟨kq, x75_16, rfl, HA, HJ16, ⟨mc16, rfl⟩⟩ := hcut
           cases kq with
           | zero => exact absurd HA.out (by simp [commodatumref10_Valid.j4])
           | succ kj16 =>
            have H := HA.out
            clear HA
            simp only [commodatumref10_Valid.j4] at H
            by_cases c24 : x75_16 = true
            ·subst c24
             have H1 : (some false) = some r := by rw [if_pos rfl] at H; exact H
             clear H
             have H := H1
             clear H1
             obtain rfl := Option.some.inj H
             go_wp2
             repeat (go_quiet (fail); try go_wp2)
             go_ret
             exact ⟨by first | rfl | (simp; done) | (simp [*]; done), by repeat (first | exact Drawn0.refl _ | apply Drawn0.step)⟩
            ·replace c24 := Bool.eq_false_iff.mpr c24
             subst c24
             have H1 : (commodatumref10_Valid.l3 kj16 l0 (l0.length : Int) x6_3 0) = some r := by rw [if_neg (show ¬ (false = true) by decide)] at H; exact H
             clear H
             have H := H1
             clear H1
             have H' := Aside0.mk H
             clear H
             go_wp2
             repeat (go_quiet (fail); try go_wp2)
             go_loopg [7] kj16 (fun kq v7 w' => ∃ (x7_5 : Int), v7 = .int .i64 x7_5 ∧ Aside0 (commodatumref10_Valid.l3 kq l0 (l0.length : Int) x6_3 x7_5 = some r) ∧ Aside0 (kq ≤ kj16) ∧ Drawn0 w w')
             case atStart => exact ⟨(0), (by first | rfl | (simp; done) | (simp [*]; done)), H', ⟨Nat.le_refl _⟩, by repeat (first | exact Drawn0.refl _ | apply Drawn0.step)⟩
             case round => as_aux_lemma =>
              clear H'
              (try clear c1); (try clear p1); (try clear q1); (try clear hx1); (try clear qi1); (try clear c2); (try clear p2); (try clear c3); (try clear c3b0); (try clear c3b1); (try clear c4); (try clear c5); (try clear c5b0); (try clear c6); (try clear c6b0); (try clear p6); (try clear c7); (try clear c7b0); (try clear c8); (try clear c8b0); (try clear c8b1); (try clear c8b2); (try clear c9); (try clear c9b0); (try clear c10); (try clear c10b0); (try clear p10); (try clear q10); (try clear hx10); (try clear qi10); (try clear c11); (try clear c11b0); (try clear p11); (try clear q11); (try clear hx11); (try clear qi11); (try clear c12); (try clear c12b0); (try clear c13); (try clear c13b0); (try clear c14); (try clear c14b0); (try clear c15); (try clear c15b0); (try clear c16); (try clear c16b0); (try clear c18); (try clear c18b0); (try clear c18b1); (try clear c19); (try clear c19b0); (try clear c20); (try clear c20b0); (try clear c21); (try clear c21b0); (try clear c21b1); (try clear c22); (try clear c22b0); (try clear c23); (try clear c23b0); (try clear c23b1); (try clear c24); (try clear hx102_0); (try clear hx103_0); (try clear hx104_0); (try clear hx105_0); (try clear hx106_0); (try clear hx107_0); (try clear hx108_0); (try clear hx109_0); (try clear hx110_0); (try clear p1); (try clear p10); (try clear p102); (try clear p103); (try clear p104); (try clear p105); (try clear p106); (try clear p107); (try clear p108); (try clear p109); (try clear p11); (try clear p110); (try clear p2); (try clear p6); (try clear q1); (try clear q10); (try clear q102); (try clear q103); (try clear q104); (try clear q105); (try clear q106); (try clear q107); (try clear q108); (try clear q109); (try clear q11); (try clear q110)
              obtain ⟨x7_5, rfl, HA, HK5, ⟨m5, rfl⟩⟩ := hrel
              cases gk with
              | zero => exact absurd HA.out (by simp [commodatumref10_Valid.l3])
              | succ k5 =>
               have H := HA.out
               clear HA
               simp only [commodatumref10_Valid.l3] at H
               by_cases c25 : x7_5 < (l0.length : Int)
               ·rw [if_pos c25] at H
                have c25b0 : decide (x7_5 < (l0.length : Int)) = true := decide_eq_true c25
                clear c25
                have H' := Aside0.mk H
                clear H
                go_wp2
                repeat (go_quiet (fail); try go_wp2)
                go_loopg [8] k5 (fun kq v8 w' => ∃ (x8_6 : Int), v8 = .int .i64 x8_6 ∧ Aside0 (commodatumref10_Valid.l4 kq l0 (l0.length : Int) x6_3 x7_5 x8_6 = some r) ∧ Aside0 (kq ≤ k5) ∧ Drawn0 w w')
                case atStart => exact ⟨(0), (by first | rfl | (simp; done) | (simp [*]; done)), H', ⟨Nat.le_refl _⟩, by repeat (first | exact Drawn0.refl _ | apply Drawn0.step)⟩
                case round => as_aux_lemma =>
                 clear H'
                 (try clear c1); (try clear p1); (try clear q1); (try clear hx1); (try clear qi1); (try clear c2); (try clear p2); (try clear c3); (try clear c3b0); (try clear c3b1); (try clear c4); (try clear c5); (try clear c5b0); (try clear c6); (try clear c6b0); (try clear p6); (try clear c7); (try clear c7b0); (try clear c8); (try clear c8b0); (try clear c8b1); (try clear c8b2); (try clear c9); (try clear c9b0); (try clear c10); (try clear c10b0); (try clear p10); (try clear q10); (try clear hx10); (try clear qi10); (try clear c11); (try clear c11b0); (try clear p11); (try clear q11); (try clear hx11); (try clear qi11); (try clear c12); (try clear c12b0); (try clear c13); (try clear c13b0); (try clear c14); (try clear c14b0); (try clear c15); (try clear c15b0); (try clear c16); (try clear c16b0); (try clear c18); (try clear c18b0); (try clear c18b1); (try clear c19); (try clear c19b0); (try clear c20); (try clear c20b0); (try clear c21); (try clear c21b0); (try clear c21b1); (try clear c22); (try clear c22b0); (try clear c23); (try clear c23b0); (try clear c23b1); (try clear c24); (try clear c25); (try clear c25b0); (try clear hx102_0); (try clear hx103_0); (try clear hx104_0); (try clear hx105_0); (try clear hx106_0); (try clear hx107_0); (try clear hx108_0); (try clear hx109_0); (try clear hx110_0); (try clear p1); (try clear p10); (try clear p102); (try clear p103); (try clear p104); (try clear p105); (try clear p106); (try clear p107); (try clear p108); (try clear p109); (try clear p11); (try clear p110); (try clear p2); (try clear p6); (try clear q1); (try clear q10); (try clear q102); (try clear q103); (try clear q104); (try clear q105); (try clear q106); (try clear q107); (try clear q108); (try clear q109); (try clear q11); (try clear q110)
                 obtain ⟨x8_6, rfl, HA, HK6, ⟨m6, rfl⟩⟩ := hrel
                 cases gk with
                 | zero => exact absurd HA.out (by simp [commodatumref10_Valid.l4])
                 | succ k6 =>
                  have H := HA.out
                  clear HA
                  simp only [commodatumref10_Valid.l4] at H
                  by_cases c26 : x8_6 < (l0.length : Int)
                  ·rw [if_pos c26] at H
                   have c26b0 : decide (x8_6 < (l0.length : Int)) = true := decide_eq_true c26
                   clear c26
                   by_cases c27 : 0 ≤ x6_3
                   ·rw [if_pos c27] at H
                    have c27b0 : decide (0 ≤ x6_3) = true := decide_eq_true c27
                    clear c27
                    by_cases c28 : x6_3 < (l0.length : Int)
                    ·rw [if_pos c28] at H
                     have c28b0 : decide (x6_3 < (l0.length : Int)) = true := decide_eq_true c28
                     clear c28
                     by_cases c29 : 0 ≤ x7_5
                     ·rw [if_pos c29] at H
                      have c29b0 : decide (0 ≤ x7_5) = true := decide_eq_true c29
                      clear c29
                      by_cases c30 : x7_5 < ((rd_L1 l0 x6_3).length : Int)
                      ·rw [if_pos c30] at H
                       have c30b0 : decide (x7_5 < ((rd_L1 l0 x6_3).length : Int)) = true := decide_eq_true c30
                       clear c30
                       by_cases c31 : 0 ≤ (rd (rd_L1 l0 x6_3) x7_5)
                       ·rw [if_pos c31] at H
                        have c31b0 : decide (0 ≤ (rd (rd_L1 l0 x6_3) x7_5)) = true := decide_eq_true c31
                        clear c31
                        by_cases c32 : (rd (rd_L1 l0 x6_3) x7_5) < (l0.length : Int)
                        ·rw [if_pos c32] at H
                         have c32b0 : decide ((rd (rd_L1 l0 x6_3) x7_5) < (l0.length : Int)) = true := decide_eq_true c32
                         clear c32
                         by_cases c33 : 0 ≤ x8_6
                         ·rw [if_pos c33] at H
                          have c33b0 : decide (0 ≤ x8_6) = true := decide_eq_true c33
                          clear c33
                          by_cases c34 : x8_6 < ((rd_L1 l0 (rd (rd_L1 l0 x6_3) x7_5)).length : Int)
                          ·rw [if_pos c34] at H
                           have c34b0 : decide (x8_6 < ((rd_L1 l0 (rd (rd_L1 l0 x6_3) x7_5)).length : Int)) = true := decide_eq_true c34
                           clear c34
                           by_cases c35 : x7_5 < (l0.length : Int)
                           ·rw [if_pos c35] at H
                            have c35b0 : decide (x7_5 < (l0.length : Int)) = true := decide_eq_true c35
                            clear c35
                            by_cases c36 : x8_6 < ((rd_L1 l0 x7_5).length : Int)
                            ·rw [if_pos c36] at H
                             have c36b0 : decide (x8_6 < ((rd_L1 l0 x7_5).length : Int)) = true := decide_eq_true c36
                             clear c36
                             by_cases c37 : 0 ≤ (rd (rd_L1 l0 x7_5) x8_6)
                             ·rw [if_pos c37] at H
                              have c37b0 : decide (0 ≤ (rd (rd_L1 l0 x7_5) x8_6)) = true := decide_eq_true c37
                              clear c37
                              by_cases c38 : (rd (rd_L1 l0 x7_5) x8_6) < ((rd_L1 l0 x6_3).length : Int)
                              ·rw [if_pos c38] at H
                               have c38b0 : decide ((rd (rd_L1 l0 x7_5) x8_6) < ((rd_L1 l0 x6_3).length : Int)) = true := decide_eq_true c38
                               clear c38
                               by_cases c39 : (rd (rd_L1 l0 (rd (rd_L1 l0 x6_3) x7_5)) x8_6) = (rd (rd_L1 l0 x6_3) (rd (rd_L1 l0 x7_5) x8_6))
                               ·rw [if_pos c39] at H
                                have c39b0 : ((rd (rd_L1 l0 (rd (rd_L1 l0 x6_3) x7_5)) x8_6) == (rd (rd_L1 l0 x6_3) (rd (rd_L1 l0 x7_5) x8_6))) = true := beq_iff_eq.mpr c39
                                have c39b1 : ((rd (rd_L1 l0 (rd (rd_L1 l0 x6_3) x7_5)) x8_6) != (rd (rd_L1 l0 x6_3) (rd (rd_L1 l0 x7_5) x8_6))) = false := bne_eq_false_iff_eq.mpr c39
                                clear c39
                                have H' := Aside0.mk H
                                clear H
                                have p111 : 0 ≤ (x6_3 : Int) := odt
                                have q111 : x6_3 < (l0.length : Int) := odt
                                obtain ⟨ad111, A111_0, c111_0, e111, hx111_0, hl111_0, hi111_0⟩ := at_L1 HR0.out x6_3 p111 q111
                                cases e111
                                have HR111_0 := Aside0.mk hi111_0
                                have HC111_0 := Aside0.mk hl111_0
                                clear hi111_0 hl111_0
                                replace p111 := eq_true p111
                                replace q111 := eq_true q111
                                have p112 : 0 ≤ (x7_5 : Int) := odt
                                have q112 : x7_5 < ((rd_L1 l0 x6_3).length : Int) := odt
                                obtain ⟨ad112, e112, hx112_0⟩ := Kd.at_int HR111_0.out x7_5 p112 q112
                                cases e112
                                replace p112 := eq_true p112
                                replace q112 := eq_true q112
                                have p113 : 0 ≤ ((rd (rd_L1 l0 x6_3) x7_5) : Int) := odt
                                have q113 : (rd (rd_L1 l0 x6_3) x7_5) < (l0.length : Int) := odt
                                obtain ⟨ad113, A113_0, c113_0, e113, hx113_0, hl113_0, hi113_0⟩ := at_L1 HR0.out (rd (rd_L1 l0 x6_3) x7_5) p113 q113
                                obtain rfl : ad111 = ad113 := (by injection e113)
                                have HR113_0 := Aside0.mk hi113_0
                                have HC113_0 := Aside0.mk hl113_0
                                clear hi113_0 hl113_0
                                replace p113 := eq_true p113
                                replace q113 := eq_true q113
                                have p114 : 0 ≤ (x8_6 : Int) := odt
                                have q114 : x8_6 < ((rd_L1 l0 (rd (rd_L1 l0 x6_3) x7_5)).length : Int) := odt
                                obtain ⟨ad114, e114, hx114_0⟩ := Kd.at_int HR113_0.out x8_6 p114 q114
                                cases e114
                                replace p114 := eq_true p114
                                replace q114 := eq_true q114
                                have p115 : 0 ≤ (x6_3 : Int) := odt
                                have q115 : x6_3 < (l0.length : Int) := odt
                                obtain ⟨ad115, A115_0, c115_0, e115, hx115_0, hl115_0, hi115_0⟩ := at_L1 HR0.out x6_3 p115 q115
                                obtain rfl : ad111 = ad115 := (by injection e115)
                                have HR115_0 := Aside0.mk hi115_0
                                have HC115_0 := Aside0.mk hl115_0
                                clear hi115_0 hl115_0
                                replace p115 := eq_true p115
                                replace q115 := eq_true q115
                                have ea_ := Option.some.inj (hx111_0.symm.trans hx115_0)
                                injection ea_ with ea_ en_ ec_
                                subst ea_
                                subst ec_
                                clear en_
                                have p116 : 0 ≤ (x7_5 : Int) := odt
                                have q116 : x7_5 < (l0.length : Int) := odt
                                obtain ⟨ad116, A116_0, c116_0, e116, hx116_0, hl116_0, hi116_0⟩ := at_L1 HR0.out x7_5 p116 q116
                                obtain rfl : ad111 = ad116 := (by injection e116)
                                have HR116_0 := Aside0.mk hi116_0
                                have HC116_0 := Aside0.mk hl116_0
                                clear hi116_0 hl116_0
                                replace p116 := eq_true p116
                                replace q116 := eq_true q116
                                have p117 : 0 ≤ (x8_6 : Int) := odt
                                have q117 : x8_6 < ((rd_L1 l0 x7_5).length : Int) := odt
                                obtain ⟨ad117, e117, hx117_0⟩ := Kd.at_int HR116_0.out x8_6 p117 q117
                                cases e117
                                replace p117 := eq_true p117
                                replace q117 := eq_true q117
                                have p118 : 0 ≤ ((rd (rd_L1 l0 x7_5) x8_6) : Int) := odt
                                have q118 : (rd (rd_L1 l0 x7_5) x8_6) < ((rd_L1 l0 x6_3).length : Int) := odt
                                obtain ⟨ad118, e118, hx118_0⟩ := Kd.at_int HR115_0.out (rd (rd_L1 l0 x7_5) x8_6) p118 q118
                                cases e118
                                replace p118 := eq_true p118
                                replace q118 := eq_true q118
                                go_wp2
                                repeat (go_quiet (fail); try go_wp2)
                                go_roundg k6
                                case measure => have := HJ1.out; have := HK2.out; have := HK3.out; have := HJ16.out; have := HK5.out; have := HK6.out; omega
                                case rel => exact ⟨(wrap64 (x8_6 + 1)), (by first | rfl | (simp; done) | (simp [*]; done)), H', ⟨by have := HJ1.out; have := HK2.out; have := HK3.out; have := HJ16.out; have := HK5.out; have := HK6.out; omega⟩, by repeat (first | exact Drawn0.refl _ | apply Drawn0.step)⟩
                               ·rw [if_neg c39] at H
                                have c39b0 : ((rd (rd_L1 l0 (rd (rd_L1 l0 x6_3) x7_5)) x8_6) == (rd (rd_L1 l0 x6_3) (rd (rd_L1 l0 x7_5) x8_6))) = false := beq_eq_false_iff_ne.mpr c39
                                have c39b1 : ((rd (rd_L1 l0 (rd (rd_L1 l0 x6_3) x7_5)) x8_6) != (rd (rd_L1 l0 x6_3) (rd (rd_L1 l0 x7_5) x8_6))) = true := bne_iff_ne.mpr c39
                                obtain rfl := Option.some.inj H
                                have p111 : 0 ≤ (x6_3 : Int) := odt
                                have q111 : x6_3 < (l0.length : Int) := odt
                                obtain ⟨ad111, A111_0, c111_0, e111, hx111_0, hl111_0, hi111_0⟩ := at_L1 HR0.out x6_3 p111 q111
                                cases e111
                                have HR111_0 := Aside0.mk hi111_0
                                have HC111_0 := Aside0.mk hl111_0
                                clear hi111_0 hl111_0
                                replace p111 := eq_true p111
                                replace q111 := eq_true q111
                                have p112 : 0 ≤ (x7_5 : Int) := odt
                                have q112 : x7_5 < ((rd_L1 l0 x6_3).length : Int) := odt
                                obtain ⟨ad112, e112, hx112_0⟩ := Kd.at_int HR111_0.out x7_5 p112 q112
                                cases e112
                                replace p112 := eq_true p112
                                replace q112 := eq_true q112
                                have p113 : 0 ≤ ((rd (rd_L1 l0 x6_3) x7_5) : Int) := odt
                                have q113 : (rd (rd_L1 l0 x6_3) x7_5) < (l0.length : Int) := odt
                                obtain ⟨ad113, A113_0, c113_0, e113, hx113_0, hl113_0, hi113_0⟩ := at_L1 HR0.out (rd (rd_L1 l0 x6_3) x7_5) p113 q113
                                obtain rfl : ad111 = ad113 := (by injection e113)
                                have HR113_0 := Aside0.mk hi113_0
                                have HC113_0 := Aside0.mk hl113_0
                                clear hi113_0 hl113_0
                                replace p113 := eq_true p113
                                replace q113 := eq_true q113
                                have p114 : 0 ≤ (x8_6 : Int) := odt
                                have q114 : x8_6 < ((rd_L1 l0 (rd (rd_L1 l0 x6_3) x7_5)).length : Int) := odt
                                obtain ⟨ad114, e114, hx114_0⟩ := Kd.at_int HR113_0.out x8_6 p114 q114
                                cases e114
                                replace p114 := eq_true p114
                                replace q114 := eq_true q114
                                have p115 : 0 ≤ (x6_3 : Int) := odt
                                have q115 : x6_3 < (l0.length : Int) := odt
                                obtain ⟨ad115, A115_0, c115_0, e115, hx115_0, hl115_0, hi115_0⟩ := at_L1 HR0.out x6_3 p115 q115
                                obtain rfl : ad111 = ad115 := (by injection e115)
                                have HR115_0 := Aside0.mk hi115_0
                                have HC115_0 := Aside0.mk hl115_0
                                clear hi115_0 hl115_0
                                replace p115 := eq_true p115
                                replace q115 := eq_true q115
                                have ea_ := Option.some.inj (hx111_0.symm.trans hx115_0)
                                injection ea_ with ea_ en_ ec_
                                subst ea_
                                subst ec_
                                clear en_
                                have p116 : 0 ≤ (x7_5 : Int) := odt
                                have q116 : x7_5 < (l0.length : Int) := odt
                                obtain ⟨ad116, A116_0, c116_0, e116, hx116_0, hl116_0, hi116_0⟩ := at_L1 HR0.out x7_5 p116 q116
                                obtain rfl : ad111 = ad116 := (by injection e116)
                                have HR116_0 := Aside0.mk hi116_0
                                have HC116_0 := Aside0.mk hl116_0
                                clear hi116_0 hl116_0
                                replace p116 := eq_true p116
                                replace q116 := eq_true q116
                                have p117 : 0 ≤ (x8_6 : Int) := odt
                                have q117 : x8_6 < ((rd_L1 l0 x7_5).length : Int) := odt
                                obtain ⟨ad117, e117, hx117_0⟩ := Kd.at_int HR116_0.out x8_6 p117 q117
                                cases e117
                                replace p117 := eq_true p117
                                replace q117 := eq_true q117
                                have p118 : 0 ≤ ((rd (rd_L1 l0 x7_5) x8_6) : Int) := odt
                                have q118 : (rd (rd_L1 l0 x7_5) x8_6) < ((rd_L1 l0 x6_3).length : Int) := odt
                                obtain ⟨ad118, e118, hx118_0⟩ := Kd.at_int HR115_0.out (rd (rd_L1 l0 x7_5) x8_6) p118 q118
                                cases e118
                                replace p118 := eq_true p118
                                replace q118 := eq_true q118
                                go_wp2
                                repeat (go_quiet (fail); try go_wp2)
                                go_ret
                                exact ⟨by first | rfl | (simp; done) | (simp [*]; done), by repeat (first | exact Drawn0.refl _ | apply Drawn0.step)⟩
                              ·rw [if_neg c38] at H
                               exact absurd H (by simp)
                             ·rw [if_neg c37] at H
                              exact absurd H (by simp)
                            ·rw [if_neg c36] at H
                             exact absurd H (by simp)
                           ·rw [if_neg c35] at H
                            exact absurd H (by simp)
                          ·rw [if_neg c34] at H
                           exact absurd H (by simp)
                         ·rw [if_neg c33] at H
                          exact absurd H (by simp)
                        ·rw [if_neg c32] at H
                         exact absurd H (by simp)
                       ·rw [if_neg c31] at H
                        exact absurd H (by simp)
                      ·rw [if_neg c30] at H
                       exact absurd H (by simp)
                     ·rw [if_neg c29] at H
                      exact absurd H (by simp)
                    ·rw [if_neg c28] at H
                     exact absurd H (by simp)
                   ·rw [if_neg c27] at H
                    exact absurd H (by simp)
                  ·rw [if_neg c26] at H
                   have c26b0 : decide (x8_6 < (l0.length : Int)) = false := decide_eq_false c26
                   clear c26
                   have H' := Aside0.mk H
                   clear H
                   go_wp2
                   repeat (go_quiet (fail); try go_wp2)
                   go_roundg k6
                   case measure => have := HJ1.out; have := HK2.out; have := HK3.out; have := HJ16.out; have := HK5.out; have := HK6.out; omega
                   case rel => exact ⟨(wrap64 (x7_5 + 1)), (by first | rfl | (simp; done) | (simp [*]; done)), H', ⟨by have := HJ1.out; have := HK2.out; have := HK3.out; have := HJ16.out; have := HK5.out; have := HK6.out; omega⟩, by repeat (first | exact Drawn0.refl _ | apply Drawn0.step)⟩
               ·rw [if_neg c25] at H
                have c25b0 : decide (x7_5 < (l0.length : Int)) = false := decide_eq_false c25
                clear c25
                have H' := Aside0.mk H
                clear H
                go_wp2
                repeat (go_quiet (fail); try go_wp2)
                go_roundg k5
                case measure => have := HJ1.out; have := HK2.out; have := HK3.out; have := HJ16.out; have := HK5.out; omega
                case rel => exact ⟨(wrap64 (x6_3 + 1)), (by first | rfl | (simp; done) | (simp [*]; done)), H', ⟨by have := HJ1.out; have := HK2.out; have := HK3.out; have := HJ16.out; have := HK5.out; omega⟩, by repeat (first | exact Drawn0.refl _ | apply Drawn0.step)⟩
         ·rw [if_neg c16] at H
          have c16b0 : decide (x6_3 < (l0.length : Int)) = false := decide_eq_false c16
          clear c16
          obtain rfl := Option.some.inj H
          go_wp2
          repeat (go_quiet (fail); try go_wp2)
          go_ret
          exact ⟨by first | rfl | (simp; done) | (simp [*]; done), by repeat (first | exact Drawn0.refl _ | apply Drawn0.step)⟩

end Go.Proofs.Ytibphkgcdnconaa.QMon
