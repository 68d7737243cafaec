/- Functions of the program as Lean functions, and proofs that the calls come to them (written by xprint.py, this session's program, over the kit's print). -/
import Derived.Test.YtibphkgcdnconaaQMonx0
namespace Go.Proofs.Ytibphkgcdnconaa.QMon
open Go.RowKit Go.Proofs.YtibphkgcdnconaaW.PrintWords Go.Proofs.YtibphkgcdnconaaW.PrintLast Go.Proofs.YtibphkgcdnconaaW.PrintMore Go.Proofs.YtibphkgcdnconaaX
attribute [local go_sem] max2_int min2_int max_two min_two max_three min_three max_four min_four   -- for this text's walks alone
set_option linter.unusedVariables false
set_option linter.unusedSimpArgs false

/-! ### slices_IndexFunc_int_int_59: function 59 -/
set_option maxHeartbeats 8000000 in
set_option maxRecDepth 100000 in
theorem slices_IndexFunc_int.calls (g : Nat) (lb : Array Value) (eg : ∀ args w, (callFunc g args).run Try.prog w = .ok (.enter g args) w) (p : Int → Option Bool) (A0 : Option Addr) (c0 : Nat) (l0 : List Int) (r : Int) (w : World)
    (hp : PredM Try.prog g lb (Value.int .i64) p w) (hr0 : Kd.C (Kd.int .i64) w A0 l0.length l0) (h : idxM p l0 0 = some r) :
    Calls Try.prog 59 #[.slice A0 l0.length c0, .func (.func g) #[] lb] w fun e w' => e = .returned (.int .i64 r) ∧ Below w.heap.size w w' := by
  have hbig := hr0.2.1
  have HR := Aside0.mk hr0
  have HP := Aside0.mk hp
  clear hr0 hp
  have H' := Aside0.mk h
  clear h
  go_enter Try.func59, Try.ntmps59
  go_wp2
  go_loopg [5, 8] l0.length (fun gg v5 v8 wr => ∃ x8 : Int, v8 = .int .i64 x8 ∧ Aside0 (0 ≤ x8 ∧ x8 ≤ (l0.length : Int) ∧ (l0.length : Int) - x8 ≤ (gg : Int)) ∧ Aside0 (idxM p (l0.drop x8.toNat) x8 = some r) ∧ Aside0 (Below w.heap.size w wr))
  case atStart => exact ⟨0, by first | rfl | (simp; done), ⟨by omega, by omega, by omega⟩, H', ⟨Below.refl _ _⟩⟩
  case round =>
    clear H'
    obtain ⟨x8, rfl, HI, HA, HB⟩ := hrel
    have hi0 : 0 ≤ x8 := HI.out.1
    have hi1 : x8 ≤ (l0.length : Int) := HI.out.2.1
    have hi2 := HI.out.2.2
    clear HI
    by_cases c3 : x8 < (l0.length : Int)
    · have c3b0 : decide (x8 < (l0.length : Int)) = true := decide_eq_true c3
      have H := HA.out
      clear HA
      have hdr : l0.drop x8.toNat = rd l0 x8 :: l0.drop (x8 + 1).toNat := by
        have e1 : (x8 + 1).toNat = x8.toNat + 1 := by omega
        rw [e1, rd, List.drop_eq_getElem_cons (by omega)]
        congr 1
        rw [List.getD_eq_getElem?_getD, List.getElem?_eq_getElem (by omega)]
        rfl
      rw [hdr] at H
      simp only [idxM] at H
      obtain ⟨b, hb, H⟩ := Option.bind_eq_some_iff.1 H
      obtain ⟨ad, e, hx⟩ := Kd.at_int HR.out x8 hi0 c3
      cases e
      replace hx := pw_cell_below HB.out hx
      have hcall := HP.out wr (rd l0 x8) b HB.out hb
      have hw1 : wrap64 (x8 + 1) = x8 + 1 := by unfold wrap64; omega
      have p105 : (0 ≤ (x8 : Int)) = True := eq_true hi0
      have q105 : (x8 < (l0.length : Int)) = True := eq_true c3
      have HW1 := Aside0.mk hw1
      have HI0 := Aside0.mk hi0
      have HI1 := Aside0.mk hi1
      have HI2 := Aside0.mk hi2
      have HC3 := Aside0.mk c3
      clear hw1 hdr hb c3 hi0 hi1 hi2 hbig
      cases b with
      | true =>
        simp only [if_true, Option.some.injEq] at H
        subst H
        go_wp2_with (go_at_fn g; refine hcall.mono ?_; rintro e w' ⟨rfl, hb'⟩)
        go_ret
        exact ⟨rfl, hb'⟩
      | false =>
        simp only [Bool.false_eq_true, if_false] at H
        have HH := Aside0.mk H
        clear H
        go_wp2_with (go_at_fn g; refine hcall.mono ?_; rintro e w' ⟨rfl, hb'⟩)
        go_roundg (l0.length - (x8 + 1).toNat)
        case measure => have := HI2.out; have := HI0.out; have := HC3.out; omega
        case rel => exact ⟨x8 + 1, by rw [HW1.out], ⟨by have := HI0.out; have := HC3.out; omega⟩, HH, ⟨hb'⟩⟩
    · have c3b0 : decide (x8 < (l0.length : Int)) = false := decide_eq_false c3
      have hx : x8.toNat = l0.length := by omega
      have H := HA.out
      clear HA
      rw [hx, List.drop_length] at H
      simp only [idxM, Option.some.injEq] at H
      clear hx hi0 hi1 hi2 c3
      subst H
      go_wp2
      go_ret
      exact ⟨rfl, HB.out⟩

/-! ### slices_ContainsFunc_int_int_46: function 46 -/
set_option maxHeartbeats 8000000 in
set_option maxRecDepth 100000 in
theorem slices_ContainsFunc_int.calls (g : Nat) (lb : Array Value) (eg : ∀ args w, (callFunc g args).run Try.prog w = .ok (.enter g args) w) (p : Int → Option Bool) (A0 : Option Addr) (c0 : Nat) (l0 : List Int) (r : Bool) (w : World)
    (hp : PredM Try.prog g lb (Value.int .i64) p w) (hr0 : Kd.C (Kd.int .i64) w A0 l0.length l0) (h : anyM p l0 = some r) :
    Calls Try.prog 46 #[.slice A0 l0.length c0, .func (.func g) #[] lb] w fun e w' => e = .returned (.bool r) ∧ Below w.heap.size w w' := by
  obtain ⟨j, hj, hd⟩ := idxM_any l0 0 (Int.le_refl _) r h
  have hcon := slices_IndexFunc_int.calls g lb eg p A0 c0 l0 j w hp hr0 hj
  clear hj h hp hr0
  subst hd
  go_enter Try.func46, Try.ntmps46
  go_wp2_with (go_at_call 59; refine hcon.mono ?_; rintro e w' ⟨rfl, hb'⟩)
  go_ret
  exact ⟨rfl, hb'⟩

/-! ### monoid_Valid_1: function 114 -/
def monoid_Valid_1.f (a0 : Int) (a1_0_0 : Int) : Option (Bool) := if a0 < 0 then (some true) else (some (decide (a0 ≥ a1_0_0)))
set_option maxHeartbeats 8000000 in
set_option maxRecDepth 100000 in
theorem monoid_Valid_1.calls (a0 : Int) (g1_0 : Nat) (a1_0_0 : Int) (r : Bool) (w : World) (hb1_0 : w.heap[g1_0]? = some (.cells #[.int .i64 a1_0_0] 3 (0, 0))) (h : monoid_Valid_1.f a0 a1_0_0 = some r) :
  Calls Try.prog 47 #[.int .i64 a0, .pointer (some ⟨g1_0, 0, none⟩)] w fun e w' => e = .returned (.bool r) ∧ Drawn0 w w' := by
 have BK50100 := Aside0.mk hb1_0
 clear hb1_0
 have H : (if a0 < 0 then (some true) else (some (decide (a0 ≥ a1_0_0)))) = some r := h
 clear h
 by_cases c3 : a0 < 0
 ·rw [if_pos c3] at H
  have c3b0 : decide (a0 < 0) = true := decide_eq_true c3
  clear c3
  obtain rfl := Option.some.inj H
  go_enter Try.func47, Try.ntmps47
  go_wp2
  go_ret
  exact ⟨by first | rfl | (simp; done) | (simp [*]; done), by repeat (first | exact Drawn0.refl _ | apply Drawn0.step)⟩
 ·rw [if_neg c3] at H
  have c3b0 : decide (a0 < 0) = false := decide_eq_false c3
  clear c3
  obtain rfl := Option.some.inj H
  have hcz4_0 : w.cell? ⟨g1_0, 0, none⟩ = some (.int .i64 a1_0_0) := (blk_cell BK50100.out 0).trans rfl
  have hfz4_0 := blk_frozen BK50100.out 0
  go_enter Try.func47, Try.ntmps47
  go_wp2
  go_ret
  exact ⟨by first | rfl | (simp; done) | (simp [*]; done), by repeat (first | exact Drawn0.refl _ | apply Drawn0.step)⟩

/-! ### slices_IndexFunc_int_int_at_monoid_Valid_1: function 113 -/
def slices_IndexFunc_int_int_at_monoid_Valid_1.l0 : Nat → List Int → Int → Int → Int → Option (Int)
 | 0, _, _, _, _ => none
 | k + 1, x0, x7, x8, x50101000 => if x8 < x7 then (if 0 ≤ x8 then (if x8 < (x0.length : Int) then ((monoid_Valid_1.f (rd x0 x8) x50101000).bind fun t120 => (if t120 = true then (some x8) else (slices_IndexFunc_int_int_at_monoid_Valid_1.l0 k x0 x7 (wrap64 (x8 + 1)) x50101000))) else (none)) else (none)) else (some (-1))
def slices_IndexFunc_int_int_at_monoid_Valid_1.f (k : Nat) (l0 : List Int) (a1_0_0 : Int) : Option (Int) := slices_IndexFunc_int_int_at_monoid_Valid_1.l0 k l0 (l0.length : Int) 0 a1_0_0
theorem slices_IndexFunc_int_int_at_monoid_Valid_1.mono_l : ∀ k, (∀ y0 y1 y2 y3, LeO (slices_IndexFunc_int_int_at_monoid_Valid_1.l0 k y0 y1 y2 y3) (slices_IndexFunc_int_int_at_monoid_Valid_1.l0 (k + 1) y0 y1 y2 y3))
 | 0 => fun _ _ _ _ r h => by simp [slices_IndexFunc_int_int_at_monoid_Valid_1.l0] at h
 | k + 1 => by
  have ih0 := slices_IndexFunc_int_int_at_monoid_Valid_1.mono_l k
  ·intro y0 y1 y2 y3
   unfold slices_IndexFunc_int_int_at_monoid_Valid_1.l0
   repeat' first
   | (with_reducible exact ih0 _ _ _ _)
   | (with_reducible exact LeO.refl _)
   | (with_reducible exact LeO.none _)
   | (with_reducible refine LeO.ite ?_ ?_)
   | (with_reducible refine LeO.bind ?_ (fun _ => ?_))
   | exact LeO.none _
   | refine LeO.ite ?_ ?_
   | refine LeO.bind ?_ (fun _ => ?_)
theorem slices_IndexFunc_int_int_at_monoid_Valid_1.mono : ∀ a0 a1 k, LeO (slices_IndexFunc_int_int_at_monoid_Valid_1.f k a0 a1) (slices_IndexFunc_int_int_at_monoid_Valid_1.f (k + 1) a0 a1) := by
 intro a0 a1 k
 have ih0 := slices_IndexFunc_int_int_at_monoid_Valid_1.mono_l k
 unfold slices_IndexFunc_int_int_at_monoid_Valid_1.f
 repeat' first
   | (with_reducible exact ih0 _ _ _ _)
   | (with_reducible exact LeO.refl _)
   | (with_reducible exact LeO.none _)
   | (with_reducible refine LeO.ite ?_ ?_)
   | (with_reducible refine LeO.bind ?_ (fun _ => ?_))
   | exact LeO.none _
   | refine LeO.ite ?_ ?_
   | refine LeO.bind ?_ (fun _ => ?_)
set_option maxHeartbeats 8000000 in
set_option maxRecDepth 100000 in
theorem slices_IndexFunc_int_int_at_monoid_Valid_1.calls (k : Nat) (A0 : Option Addr) (c0 : Nat) (l0 : List Int) (g1_0 : Nat) (a1_0_0 : Int) (r : Int) (w : World) (hr0 : Kd.C (Kd.int .i64) w A0 l0.length l0) (hc0 : l0.length ≤ c0) (hb1_0 : w.heap[g1_0]? = some (.cells #[.int .i64 a1_0_0] 3 (0, 0))) (h : slices_IndexFunc_int_int_at_monoid_Valid_1.f k l0 a1_0_0 = some r) :
  Calls Try.prog 59 #[.slice A0 l0.length c0, .func (.func 47) #[] #[.pointer (some ⟨g1_0, 0, none⟩)]] w fun e w' => e = .returned (.int .i64 r) ∧ Drawn0 w w' := by
 have HR0 := Aside0.mk hr0
 have HC0 := Aside0.mk hc0
 clear hr0 hc0
 have BK50100 := Aside0.mk hb1_0
 clear hb1_0
 have H : (slices_IndexFunc_int_int_at_monoid_Valid_1.l0 k l0 (l0.length : Int) 0 a1_0_0) = some r := h
 clear h
 have H' := Aside0.mk H
 clear H
 go_enter Try.func59, Try.ntmps59
 go_wp2
 go_loopg [8] k (fun kq v8 w' => ∃ (x8_1 : Int), v8 = .int .i64 x8_1 ∧ Aside0 (slices_IndexFunc_int_int_at_monoid_Valid_1.l0 kq l0 (l0.length : Int) x8_1 a1_0_0 = some r) ∧ Aside0 (kq ≤ k) ∧ Aside0 (w'.heap[g1_0]? = some (.cells #[.int .i64 a1_0_0] 3 (0, 0))) ∧ Drawn0 w w')
 case atStart => exact ⟨(0), (by first | rfl | (simp; done) | (simp [*]; done)), H', ⟨Nat.le_refl _⟩, ⟨by repeat (first | (with_reducible first | exact BK50100.out | refine blk_drewN ?_ _ | refine blk_drew ?_ | refine blk_alloc ?_ _) | exact BK50100.out)⟩, by repeat (first | exact Drawn0.refl _ | apply Drawn0.step)⟩
 case round =>
  clear H'
  try clear p2
  obtain ⟨x8_1, rfl, HA, HK1, BK50100, ⟨m1, rfl⟩⟩ := hrel
  cases gk with
  | zero => exact absurd HA.out (by simp [slices_IndexFunc_int_int_at_monoid_Valid_1.l0])
  | succ k1 =>
   have H := HA.out
   clear HA
   simp only [slices_IndexFunc_int_int_at_monoid_Valid_1.l0] at H
   by_cases c3 : x8_1 < (l0.length : Int)
   ·rw [if_pos c3] at H
    have c3b0 : decide (x8_1 < (l0.length : Int)) = true := decide_eq_true c3
    clear c3
    by_cases c4 : 0 ≤ x8_1
    ·rw [if_pos c4] at H
     have c4b0 : decide (0 ≤ x8_1) = true := decide_eq_true c4
     clear c4
     by_cases c5 : x8_1 < (l0.length : Int)
     ·rw [if_pos c5] at H
      have c5b0 : decide (x8_1 < (l0.length : Int)) = true := decide_eq_true c5
      clear c5
      replace H := Option.bind_eq_some_iff.mp H
      obtain ⟨t120, A60, H⟩ := H
      replace H : (if t120 = true then (some x8_1) else (slices_IndexFunc_int_int_at_monoid_Valid_1.l0 k1 l0 (l0.length : Int) (wrap64 (x8_1 + 1)) a1_0_0)) = some r := H
      have A6 := Aside0.mk A60
      clear A60
      by_cases c7 : t120 = true
      ·subst c7
       have H1 : (some x8_1) = some r := by rw [if_pos rfl] at H; exact H
       clear H
       have H := H1
       clear H1
       obtain rfl := Option.some.inj H
       have p119 : 0 ≤ (x8_1 : Int) := odt
       have q119 : x8_1 < (l0.length : Int) := odt
       obtain ⟨ad119, e119, hx119_0⟩ := Kd.at_int HR0.out x8_1 p119 q119
       cases e119
       replace p119 := eq_true p119
       replace q119 := eq_true q119
       go_wp2_with (first | (go_at_call 47; (with_reducible refine (monoid_Valid_1.calls (rd l0 x8_1) g1_0 a1_0_0 true _ ?side1 A6.out).mono ?_); (case side1 => repeat (first | (with_reducible first | exact BK50100.out | refine blk_drewN ?_ _ | refine blk_drew ?_ | refine blk_alloc ?_ _) | exact BK50100.out)); rintro e w' ⟨rfl, ⟨nd, rfl⟩⟩))
       go_ret
       exact ⟨by first | rfl | (simp; done) | (simp [*]; done), by repeat (first | exact Drawn0.refl _ | apply Drawn0.step)⟩
      ·replace c7 := Bool.eq_false_iff.mpr c7
       subst c7
       have H1 : (slices_IndexFunc_int_int_at_monoid_Valid_1.l0 k1 l0 (l0.length : Int) (wrap64 (x8_1 + 1)) a1_0_0) = some r := by rw [if_neg (show ¬ (false = true) by decide)] at H; exact H
       clear H
       have H := H1
       clear H1
       have H' := Aside0.mk H
       clear H
       have p119 : 0 ≤ (x8_1 : Int) := odt
       have q119 : x8_1 < (l0.length : Int) := odt
       obtain ⟨ad119, e119, hx119_0⟩ := Kd.at_int HR0.out x8_1 p119 q119
       cases e119
       replace p119 := eq_true p119
       replace q119 := eq_true q119
       go_wp2_with (first | (go_at_call 47; (with_reducible refine (monoid_Valid_1.calls (rd l0 x8_1) g1_0 a1_0_0 false _ ?side1 A6.out).mono ?_); (case side1 => repeat (first | (with_reducible first | exact BK50100.out | refine blk_drewN ?_ _ | refine blk_drew ?_ | refine blk_alloc ?_ _) | exact BK50100.out)); rintro e w' ⟨rfl, ⟨nd, rfl⟩⟩))
       go_roundg k1
       case measure => have := HK1.out; omega
       case rel => exact ⟨(wrap64 (x8_1 + 1)), (by first | rfl | (simp; done) | (simp [*]; done)), H', ⟨by have := HK1.out; omega⟩, ⟨by repeat (first | (with_reducible first | exact BK50100.out | refine blk_drewN ?_ _ | refine blk_drew ?_ | refine blk_alloc ?_ _) | exact BK50100.out)⟩, by repeat (first | exact Drawn0.refl _ | apply Drawn0.step)⟩
     ·rw [if_neg c5] at H
      exact absurd H (by simp)
    ·rw [if_neg c4] at H
     exact absurd H (by simp)
   ·rw [if_neg c3] at H
    have c3b0 : decide (x8_1 < (l0.length : Int)) = false := decide_eq_false c3
    clear c3
    obtain rfl := Option.some.inj H
    go_wp2
    go_ret
    exact ⟨by first | rfl | (simp; done) | (simp [*]; done), by repeat (first | exact Drawn0.refl _ | apply Drawn0.step)⟩

/-! ### slices_ContainsFunc_int_int_at_monoid_Valid_1: function 112 -/
def slices_ContainsFunc_int_int_at_monoid_Valid_1.f (k : Nat) (l0 : List Int) (a1_0_0 : Int) : Option (Bool) := (slices_IndexFunc_int_int_at_monoid_Valid_1.f k l0 a1_0_0).bind fun t121 => (some (decide (t121 ≥ 0)))
theorem slices_ContainsFunc_int_int_at_monoid_Valid_1.mono : ∀ a0 a1 k, LeO (slices_ContainsFunc_int_int_at_monoid_Valid_1.f k a0 a1) (slices_ContainsFunc_int_int_at_monoid_Valid_1.f (k + 1) a0 a1) := by
 intro a0 a1 k
 unfold slices_ContainsFunc_int_int_at_monoid_Valid_1.f
 repeat' first
   | (with_reducible exact slices_IndexFunc_int_int_at_monoid_Valid_1.mono _ _ _)
   | (with_reducible exact LeO.refl _)
   | (with_reducible exact LeO.none _)
   | (with_reducible refine LeO.ite ?_ ?_)
   | (with_reducible refine LeO.bind ?_ (fun _ => ?_))
   | exact LeO.none _
   | refine LeO.ite ?_ ?_
   | refine LeO.bind ?_ (fun _ => ?_)
set_option maxHeartbeats 8000000 in
set_option maxRecDepth 100000 in
theorem slices_ContainsFunc_int_int_at_monoid_Valid_1.calls (k : Nat) (A0 : Option Addr) (c0 : Nat) (l0 : List Int) (g1_0 : Nat) (a1_0_0 : Int) (r : Bool) (w : World) (hr0 : Kd.C (Kd.int .i64) w A0 l0.length l0) (hc0 : l0.length ≤ c0) (hb1_0 : w.heap[g1_0]? = some (.cells #[.int .i64 a1_0_0] 3 (0, 0))) (h : slices_ContainsFunc_int_int_at_monoid_Valid_1.f k l0 a1_0_0 = some r) :
  Calls Try.prog 46 #[.slice A0 l0.length c0, .func (.func 47) #[] #[.pointer (some ⟨g1_0, 0, none⟩)]] w fun e w' => e = .returned (.bool r) ∧ Drawn0 w w' := by
 have HR0 := Aside0.mk hr0
 have HC0 := Aside0.mk hc0
 clear hr0 hc0
 have BK50100 := Aside0.mk hb1_0
 clear hb1_0
 have H : ((slices_IndexFunc_int_int_at_monoid_Valid_1.f k l0 a1_0_0).bind fun t121 => (some (decide (t121 ≥ 0)))) = some r := h
 clear h
 replace H := Option.bind_eq_some_iff.mp H
 obtain ⟨t121, A30, H⟩ := H
 replace H : (some (decide (t121 ≥ 0))) = some r := H
 have A3 := Aside0.mk A30
 clear A30
 obtain rfl := Option.some.inj H
 go_enter Try.func46, Try.ntmps46
 go_wp2_with (first | (go_at_call 59; (with_reducible refine (slices_IndexFunc_int_int_at_monoid_Valid_1.calls k _ _ l0 g1_0 a1_0_0 t121 _ ?side1 ?side2 ?side3 A3.out).mono ?_); (case side1 => repeat (first | exact HR0.out | (with_reducible first | refine Kd.C_alloc ?_ _ | refine Kd.C_drewN ?_ _ | refine Kd.C_drew ?_))); (case side2 => exact HC0.out); (case side3 => repeat (first | (with_reducible first | exact BK50100.out | refine blk_drewN ?_ _ | refine blk_drew ?_ | refine blk_alloc ?_ _) | exact BK50100.out)); rintro e w' ⟨rfl, ⟨nd, rfl⟩⟩))
 go_ret
 exact ⟨by first | rfl | (simp; done) | (simp [*]; done), by repeat (first | exact Drawn0.refl _ | apply Drawn0.step)⟩

end Go.Proofs.Ytibphkgcdnconaa.QMon
