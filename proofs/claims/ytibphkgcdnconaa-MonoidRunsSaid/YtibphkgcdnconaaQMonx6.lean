/- Functions of the program as Lean functions, and proofs that the calls come to them (written by xprint.py, this session's program, over the kit's print). -/
import Derived.Test.YtibphkgcdnconaaQMonx0
import Derived.Test.YtibphkgcdnconaaQMonx4
import Derived.Test.YtibphkgcdnconaaQMonx5
namespace Go.Proofs.Ytibphkgcdnconaa.QMon
open Go.RowKit Go.Proofs.YtibphkgcdnconaaW.PrintWords Go.Proofs.YtibphkgcdnconaaW.PrintLast Go.Proofs.YtibphkgcdnconaaW.PrintMore Go.Proofs.YtibphkgcdnconaaX
attribute [local go_sem] max2_int min2_int max_two min_two max_three min_three max_four min_four   -- for this text's walks alone
set_option linter.unusedVariables false
set_option linter.unusedSimpArgs false

/-! ### monoid_fits_2: function 120 -/
def monoid_fits_2.j0 : Nat → Bool → Option (Bool)
 | 0, _ => none
 | k + 1, x4 => some x4
def monoid_fits_2.f (k : Nat) (a0_0 : Int) (a0_1 : Int) (a0_2 : Int) (a1_0_0 : Int) (l1_0_1 : List (S64)) (l1_0_2 : List Int) (l2_1_0 : List (List Int)) : Option (Bool) := if a0_0 < 0 then (monoid_fits_2.j0 k true) else (if a0_0 ≥ a1_0_0 then (monoid_fits_2.j0 k true) else ((monoid_fits_1.f a0_1 l2_1_0).bind fun t168 => (if t168 = true then ((monoid_fits_1.f a0_2 l2_1_0).bind fun t169 => (monoid_fits_2.j0 k (!t169))) else (monoid_fits_2.j0 k true))))
theorem monoid_fits_2.mono_l : ∀ k, (∀ y0, LeO (monoid_fits_2.j0 k y0) (monoid_fits_2.j0 (k + 1) y0))
 | 0 => fun _ r h => by simp [monoid_fits_2.j0] at h
 | k + 1 => by
  have ih0 := monoid_fits_2.mono_l k
  ·intro y0
   unfold monoid_fits_2.j0
   repeat' first
   | (with_reducible exact ih0 _)
   | (with_reducible exact LeO.refl _)
   | (with_reducible exact LeO.none _)
   | (with_reducible refine LeO.ite ?_ ?_)
   | (with_reducible refine LeO.bind ?_ (fun _ => ?_))
   | exact LeO.none _
   | refine LeO.ite ?_ ?_
   | refine LeO.bind ?_ (fun _ => ?_)
theorem monoid_fits_2.mono : ∀ a0 a1 a2 a3 a4 a5 a6 k, LeO (monoid_fits_2.f k a0 a1 a2 a3 a4 a5 a6) (monoid_fits_2.f (k + 1) a0 a1 a2 a3 a4 a5 a6) := by
 intro a0 a1 a2 a3 a4 a5 a6 k
 have ih0 := monoid_fits_2.mono_l k
 unfold monoid_fits_2.f
 repeat' first
   | (with_reducible exact ih0 _)
   | (with_reducible exact LeO.refl _)
   | (with_reducible exact LeO.none _)
   | (with_reducible refine LeO.ite ?_ ?_)
   | (with_reducible refine LeO.bind ?_ (fun _ => ?_))
   | exact LeO.none _
   | refine LeO.ite ?_ ?_
   | refine LeO.bind ?_ (fun _ => ?_)
set_option maxHeartbeats 8000000 in
set_option maxRecDepth 100000 in
theorem monoid_fits_2.calls (k : Nat) (a0_0 : Int) (a0_1 : Int) (a0_2 : Int) (g1_0 : Nat) (a1_0_0 : Int) (A1_0_1 : Option Addr) (c1_0_1 : Nat) (l1_0_1 : List (S64)) (A1_0_2 : Option Addr) (c1_0_2 : Nat) (l1_0_2 : List Int) (g2_0 : Nat) (g2_1 : Nat) (A2_1_0 : Option Addr) (c2_1_0 : Nat) (l2_1_0 : List (List Int)) (r : Bool) (w : World) (hb1_0 : w.heap[g1_0]? = some (.cells #[.int .i64 a1_0_0, .slice A1_0_1 l1_0_1.length c1_0_1, .slice A1_0_2 l1_0_2.length c1_0_2] 34 (0, 0))) (hr1_0_1 : Kd.C k64 w A1_0_1 l1_0_1.length l1_0_1) (hc1_0_1 : l1_0_1.length ≤ c1_0_1) (hr1_0_2 : Kd.C (Kd.int .i64) w A1_0_2 l1_0_2.length l1_0_2) (hc1_0_2 : l1_0_2.length ≤ c1_0_2) (hb2_0 : w.heap[g2_0]? = some (.cells #[.func (.func 60) #[] #[.pointer (some ⟨g2_1, 0, none⟩)]] 68 (0, 0))) (hb2_1 : w.heap[g2_1]? = some (.cells #[.slice A2_1_0 l2_1_0.length c2_1_0] 23 (0, 0))) (hr2_1_0 : Kd.C (Kd.slice 3 (Kd.int .i64)) w A2_1_0 l2_1_0.length l2_1_0) (hc2_1_0 : l2_1_0.length ≤ c2_1_0) (h : monoid_fits_2.f k a0_0 a0_1 a0_2 a1_0_0 l1_0_1 l1_0_2 l2_1_0 = some r) :
  Calls Try.prog 62 #[.agg #[.int .i64 a0_0, .int .i64 a0_1, .int .i64 a0_2], .pointer (some ⟨g1_0, 0, none⟩), .pointer (some ⟨g2_0, 0, none⟩)] w fun e w' => e = .returned (.bool r) ∧ Below w.heap.size w w' := by
 have hu64 := Try.underlying64
 have HR1_0_1 := Aside0.mk hr1_0_1
 have HC1_0_1 := Aside0.mk hc1_0_1
 clear hr1_0_1 hc1_0_1
 have HR1_0_2 := Aside0.mk hr1_0_2
 have HC1_0_2 := Aside0.mk hc1_0_2
 clear hr1_0_2 hc1_0_2
 have HR2_1_0 := Aside0.mk hr2_1_0
 have HC2_1_0 := Aside0.mk hc2_1_0
 clear hr2_1_0 hc2_1_0
 have BK50100 := Aside0.mk hb1_0
 clear hb1_0
 have BK50200 := Aside0.mk hb2_0
 clear hb2_0
 have BK50201 := Aside0.mk hb2_1
 clear hb2_1
 have HB := Aside0.mk (Below.refl w.heap.size w)
 have H : (if a0_0 < 0 then (monoid_fits_2.j0 k true) else (if a0_0 ≥ a1_0_0 then (monoid_fits_2.j0 k true) else ((monoid_fits_1.f a0_1 l2_1_0).bind fun t168 => (if t168 = true then ((monoid_fits_1.f a0_2 l2_1_0).bind fun t169 => (monoid_fits_2.j0 k (!t169))) else (monoid_fits_2.j0 k true))))) = some r := h
 clear h
 have HC4 := Aside0.mk H
 clear H
 go_enter Try.func62, Try.ntmps62
 go_upto_region 1 with (first | ((with_reducible refine gate_dst (N := 3) rfl ?_); refine box_event ?hg (N := 3) ?hd (cs := #[.int .i64 a0_0, .int .i64 a0_1, .int .i64 a0_2]) (t := 64) ?hr ?_; (case hd => rfl); (case hg => rfl); (case hr => first | (go_simp; done) | (go_simp; rfl)); intro gb167 hg w5 hbox hb; have n0_ := Aside0.mk (blk_below (g := g1_0) (o := .cells #[.int .i64 a1_0_0, .slice A1_0_1 l1_0_1.length c1_0_1, .slice A1_0_2 l1_0_2.length c1_0_2] 34 (0, 0)) (by repeat (first | (with_reducible first | exact BK50100.out | refine blk_drewN ?_ _ | refine blk_drew ?_ | refine blk_alloc ?_ _) | exact BK50100.out)) hb); have n1_ := Aside0.mk (blk_below (g := g2_0) (o := .cells #[.func (.func 60) #[] #[.pointer (some ⟨g2_1, 0, none⟩)]] 68 (0, 0)) (by repeat (first | (with_reducible first | exact BK50200.out | refine blk_drewN ?_ _ | refine blk_drew ?_ | refine blk_alloc ?_ _) | exact BK50200.out)) hb); have n2_ := Aside0.mk (blk_below (g := g2_1) (o := .cells #[.slice A2_1_0 l2_1_0.length c2_1_0] 23 (0, 0)) (by repeat (first | (with_reducible first | exact BK50201.out | refine blk_drewN ?_ _ | refine blk_drew ?_ | refine blk_alloc ?_ _) | exact BK50201.out)) hb); have n3_ := Aside0.mk (below_step (by repeat (first | (with_reducible first | exact HB.out | apply below_alloc | apply pw_below_drewN | apply below_drew1 | refine below_set ?_ GE50100.out | refine below_set ?_ GE50200.out | refine below_set ?_ GE50201.out) | exact HB.out)) hb); have n4_ := Aside0.mk (hbox); have n5_ := Aside0.mk ((by rw [hg]; exact (below_size (by repeat (first | (with_reducible first | exact HB.out | apply below_alloc | apply pw_below_drewN | apply below_drew1 | refine below_set ?_ GE50100.out | refine below_set ?_ GE50200.out | refine below_set ?_ GE50201.out) | exact HB.out))) : w.heap.size ≤ gb167)); have n6_ := Aside0.mk ((by rw [hg]; exact (below_size (by repeat (first | (with_reducible first | exact HB.out | apply below_alloc | apply pw_below_drewN | apply below_drew1 | refine below_set ?_ GE50100.out | refine below_set ?_ GE50200.out | refine below_set ?_ GE50201.out) | exact HB.out))) : w.heap.size ≤ gb167)); have n7_ := Aside0.mk ((by rw [hg]; exact Nat.ne_of_lt (blk_lt (g := g1_0) (o := .cells #[.int .i64 a1_0_0, .slice A1_0_1 l1_0_1.length c1_0_1, .slice A1_0_2 l1_0_2.length c1_0_2] 34 (0, 0)) (by repeat (first | (with_reducible first | exact BK50100.out | refine blk_drewN ?_ _ | refine blk_drew ?_ | refine blk_alloc ?_ _) | exact BK50100.out))) : g1_0 ≠ gb167)); have n8_ := Aside0.mk ((by rw [hg]; exact Nat.ne_of_gt (blk_lt (g := g1_0) (o := .cells #[.int .i64 a1_0_0, .slice A1_0_1 l1_0_1.length c1_0_1, .slice A1_0_2 l1_0_2.length c1_0_2] 34 (0, 0)) (by repeat (first | (with_reducible first | exact BK50100.out | refine blk_drewN ?_ _ | refine blk_drew ?_ | refine blk_alloc ?_ _) | exact BK50100.out))) : gb167 ≠ g1_0)); have n9_ := Aside0.mk ((by rw [hg]; exact Nat.ne_of_lt (blk_lt (g := g2_0) (o := .cells #[.func (.func 60) #[] #[.pointer (some ⟨g2_1, 0, none⟩)]] 68 (0, 0)) (by repeat (first | (with_reducible first | exact BK50200.out | refine blk_drewN ?_ _ | refine blk_drew ?_ | refine blk_alloc ?_ _) | exact BK50200.out))) : g2_0 ≠ gb167)); have n10_ := Aside0.mk ((by rw [hg]; exact Nat.ne_of_gt (blk_lt (g := g2_0) (o := .cells #[.func (.func 60) #[] #[.pointer (some ⟨g2_1, 0, none⟩)]] 68 (0, 0)) (by repeat (first | (with_reducible first | exact BK50200.out | refine blk_drewN ?_ _ | refine blk_drew ?_ | refine blk_alloc ?_ _) | exact BK50200.out))) : gb167 ≠ g2_0)); have n11_ := Aside0.mk ((by rw [hg]; exact Nat.ne_of_lt (blk_lt (g := g2_1) (o := .cells #[.slice A2_1_0 l2_1_0.length c2_1_0] 23 (0, 0)) (by repeat (first | (with_reducible first | exact BK50201.out | refine blk_drewN ?_ _ | refine blk_drew ?_ | refine blk_alloc ?_ _) | exact BK50201.out))) : g2_1 ≠ gb167)); have n12_ := Aside0.mk ((by rw [hg]; exact Nat.ne_of_gt (blk_lt (g := g2_1) (o := .cells #[.slice A2_1_0 l2_1_0.length c2_1_0] 23 (0, 0)) (by repeat (first | (with_reducible first | exact BK50201.out | refine blk_drewN ?_ _ | refine blk_drew ?_ | refine blk_alloc ?_ _) | exact BK50201.out))) : gb167 ≠ g2_1)); clear BK50100; clear BK50200; clear BK50201; clear HB; have BK50100 := n0_; have BK50200 := n1_; have BK50201 := n2_; have HB := n3_; have BK167 := n4_; have GW167 := n5_; have GE167 := n6_; have NB50100_167 := n7_; have NB167_50100 := n8_; have NB50200_167 := n9_; have NB167_50200 := n10_; have NB50201_167 := n11_; have NB167_50201 := n12_; clear n0_ n1_ n2_ n3_ n4_ n5_ n6_ n7_ n8_ n9_ n10_ n11_ n12_; clear hb hbox hg))
 (try simp only [Act.put, List.setIfInBounds_toArray, List.set_cons_zero, List.set_cons_succ])
 go_cut [4] (fun v4 wc => ∃ (kq : Nat) (x4_3 : Bool), v4 = .bool x4_3 ∧ Aside0 (monoid_fits_2.j0 kq x4_3 = some r) ∧ Aside0 (kq ≤ k) ∧ Aside0 (wc.heap[g1_0]? = some (.cells #[.int .i64 a1_0_0, (.slice A1_0_1 l1_0_1.length c1_0_1), (.slice A1_0_2 l1_0_2.length c1_0_2)] 34 (0, 0))) ∧ Aside0 (wc.heap[g2_0]? = some (.cells #[(.func (.func 60) #[] #[.pointer (some ⟨g2_1, 0, none⟩)])] 68 (0, 0))) ∧ Aside0 (wc.heap[g2_1]? = some (.cells #[(.slice A2_1_0 l2_1_0.length c2_1_0)] 23 (0, 0))) ∧ Aside0 (wc.heap[gb167]? = some (.cells #[.int .i64 a0_0, .int .i64 a0_1, .int .i64 a0_2] 64 (0, 0))) ∧ Aside0 (Below w.heap.size w wc))
 case first =>
  have H := HC4.out
  clear HC4
  by_cases c6 : a0_0 < 0
  ·rw [if_pos c6] at H
   have c6b0 : decide (a0_0 < 0) = true := decide_eq_true c6
   clear c6
   (first | rw [c6b0] | (simp only [i64_w, i32_w]; rw [c6b0]) | skip)
   have H' := Aside0.mk H
   clear H
   have hnb7 := NB167_50100.out
   have hnc7 := NB50100_167.out
   have hnb8 := NB167_50200.out
   have hnc8 := NB50200_167.out
   have hnb9 := NB167_50201.out
   have hnc9 := NB50201_167.out
   have hcz10_0 : w5.cell? ⟨gb167, 0, none⟩ = some (.int .i64 a0_0) := (blk_cell BK167.out 0).trans rfl
   have hcz10_1 : w5.cell? ⟨gb167, 1, none⟩ = some (.int .i64 a0_1) := (blk_cell BK167.out 1).trans rfl
   have hcz10_2 : w5.cell? ⟨gb167, 2, none⟩ = some (.int .i64 a0_2) := (blk_cell BK167.out 2).trans rfl
   have hfz10_0 := blk_frozen BK167.out 0
   have hfz10_1 := blk_frozen BK167.out 1
   have hfz10_2 := blk_frozen BK167.out 2
   go_wp2
   go_meet
   case rel => exact ⟨_, (true), (by first | rfl | (simp; done) | (simp [*]; done)), H', ⟨by first | omega | exact Nat.le_refl _⟩, ⟨by repeat (first | (with_reducible first | exact BK50100.out | refine blk_drewN ?_ _ | refine blk_drew ?_ | refine blk_alloc ?_ _) | exact BK50100.out)⟩, ⟨by repeat (first | (with_reducible first | exact BK50200.out | refine blk_drewN ?_ _ | refine blk_drew ?_ | refine blk_alloc ?_ _) | exact BK50200.out)⟩, ⟨by repeat (first | (with_reducible first | exact BK50201.out | refine blk_drewN ?_ _ | refine blk_drew ?_ | refine blk_alloc ?_ _) | exact BK50201.out)⟩, ⟨by repeat (first | (with_reducible first | exact BK167.out | refine blk_drewN ?_ _ | refine blk_drew ?_ | refine blk_alloc ?_ _) | exact BK167.out)⟩, ⟨by repeat (first | (with_reducible first | exact HB.out | apply below_alloc | apply pw_below_drewN | apply below_drew1 | refine below_set ?_ GE50100.out | refine below_set ?_ GE50200.out | refine below_set ?_ GE50201.out | refine below_set ?_ GE167.out) | exact HB.out)⟩⟩
  ·rw [if_neg c6] at H
   have c6b0 : decide (a0_0 < 0) = false := decide_eq_false c6
   clear c6
   (first | rw [c6b0] | (simp only [i64_w, i32_w]; rw [c6b0]) | skip)
   by_cases c11 : a0_0 ≥ a1_0_0
   ·rw [if_pos c11] at H
    have c11b0 : decide (a1_0_0 ≤ a0_0) = true := decide_eq_true c11
    clear c11
    have H' := Aside0.mk H
    clear H
    have hnb12 := NB167_50100.out
    have hnc12 := NB50100_167.out
    have hnb13 := NB167_50200.out
    have hnc13 := NB50200_167.out
    have hnb14 := NB167_50201.out
    have hnc14 := NB50201_167.out
    have hcz15_0 : w5.cell? ⟨gb167, 0, none⟩ = some (.int .i64 a0_0) := (blk_cell BK167.out 0).trans rfl
    have hcz15_1 : w5.cell? ⟨gb167, 1, none⟩ = some (.int .i64 a0_1) := (blk_cell BK167.out 1).trans rfl
    have hcz15_2 : w5.cell? ⟨gb167, 2, none⟩ = some (.int .i64 a0_2) := (blk_cell BK167.out 2).trans rfl
    have hfz15_0 := blk_frozen BK167.out 0
    have hfz15_1 := blk_frozen BK167.out 1
    have hfz15_2 := blk_frozen BK167.out 2
    have hcz16_0 : w5.cell? ⟨g1_0, 0, none⟩ = some (.int .i64 a1_0_0) := (blk_cell BK50100.out 0).trans rfl
    have hcz16_1 : w5.cell? ⟨g1_0, 1, none⟩ = some (.slice A1_0_1 l1_0_1.length c1_0_1) := (blk_cell BK50100.out 1).trans rfl
    have hcz16_2 : w5.cell? ⟨g1_0, 2, none⟩ = some (.slice A1_0_2 l1_0_2.length c1_0_2) := (blk_cell BK50100.out 2).trans rfl
    have hfz16_0 := blk_frozen BK50100.out 0
    have hfz16_1 := blk_frozen BK50100.out 1
    have hfz16_2 := blk_frozen BK50100.out 2
    go_wp2
    go_meet
    case rel => exact ⟨_, (true), (by first | rfl | (simp; done) | (simp [*]; done)), H', ⟨by first | omega | exact Nat.le_refl _⟩, ⟨by repeat (first | (with_reducible first | exact BK50100.out | refine blk_drewN ?_ _ | refine blk_drew ?_ | refine blk_alloc ?_ _) | exact BK50100.out)⟩, ⟨by repeat (first | (with_reducible first | exact BK50200.out | refine blk_drewN ?_ _ | refine blk_drew ?_ | refine blk_alloc ?_ _) | exact BK50200.out)⟩, ⟨by repeat (first | (with_reducible first | exact BK50201.out | refine blk_drewN ?_ _ | refine blk_drew ?_ | refine blk_alloc ?_ _) | exact BK50201.out)⟩, ⟨by repeat (first | (with_reducible first | exact BK167.out | refine blk_drewN ?_ _ | refine blk_drew ?_ | refine blk_alloc ?_ _) | exact BK167.out)⟩, ⟨by repeat (first | (with_reducible first | exact HB.out | apply below_alloc | apply pw_below_drewN | apply below_drew1 | refine below_set ?_ GE50100.out | refine below_set ?_ GE50200.out | refine below_set ?_ GE50201.out | refine below_set ?_ GE167.out) | exact HB.out)⟩⟩
   ·rw [if_neg c11] at H
    have c11b0 : decide (a1_0_0 ≤ a0_0) = false := decide_eq_false c11
    clear c11
    replace H := Option.bind_eq_some_iff.mp H
    obtain ⟨t168, A170, H⟩ := H
    replace H : (if t168 = true then ((monoid_fits_1.f a0_2 l2_1_0).bind fun t169 => (monoid_fits_2.j0 k (!t169))) else (monoid_fits_2.j0 k true)) = some r := H
    have A17 := Aside0.mk A170
    clear A170
    by_cases c18 : t168 = true
    ·subst c18
     have H1 : ((monoid_fits_1.f a0_2 l2_1_0).bind fun t169 => (monoid_fits_2.j0 k (!t169))) = some r := by rw [if_pos rfl] at H; exact H
     clear H
     have H := H1
     clear H1
     replace H := Option.bind_eq_some_iff.mp H
     obtain ⟨t169, A190, H⟩ := H
     replace H : (monoid_fits_2.j0 k (!t169)) = some r := H
     have A19 := Aside0.mk A190
     clear A190
     have H' := Aside0.mk H
     clear H
     have hnb20 := NB167_50100.out
     have hnc20 := NB50100_167.out
     have hnb21 := NB167_50200.out
     have hnc21 := NB50200_167.out
     have hnb22 := NB167_50201.out
     have hnc22 := NB50201_167.out
     have hcz23_0 : w5.cell? ⟨gb167, 0, none⟩ = some (.int .i64 a0_0) := (blk_cell BK167.out 0).trans rfl
     have hcz23_1 : w5.cell? ⟨gb167, 1, none⟩ = some (.int .i64 a0_1) := (blk_cell BK167.out 1).trans rfl
     have hcz23_2 : w5.cell? ⟨gb167, 2, none⟩ = some (.int .i64 a0_2) := (blk_cell BK167.out 2).trans rfl
     have hfz23_0 := blk_frozen BK167.out 0
     have hfz23_1 := blk_frozen BK167.out 1
     have hfz23_2 := blk_frozen BK167.out 2
     have hcz24_0 : w5.cell? ⟨g1_0, 0, none⟩ = some (.int .i64 a1_0_0) := (blk_cell BK50100.out 0).trans rfl
     have hcz24_1 : w5.cell? ⟨g1_0, 1, none⟩ = some (.slice A1_0_1 l1_0_1.length c1_0_1) := (blk_cell BK50100.out 1).trans rfl
     have hcz24_2 : w5.cell? ⟨g1_0, 2, none⟩ = some (.slice A1_0_2 l1_0_2.length c1_0_2) := (blk_cell BK50100.out 2).trans rfl
     have hfz24_0 := blk_frozen BK50100.out 0
     have hfz24_1 := blk_frozen BK50100.out 1
     have hfz24_2 := blk_frozen BK50100.out 2
     have hcz25_0 : w5.cell? ⟨g2_0, 0, none⟩ = some (.func (.func 60) #[] #[.pointer (some ⟨g2_1, 0, none⟩)]) := (blk_cell BK50200.out 0).trans rfl
     have hfz25_0 := blk_frozen BK50200.out 0
     go_wp2_with (first | (go_at_call 60; (with_reducible refine (monoid_fits_1.calls a0_1 g2_1 ?cA1_0_0 ?cC1_0_0 l2_1_0 true _ ?side1 ?side2 ?side3 A17.out).mono ?_); (case side1 => repeat (first | (with_reducible first | exact BK50201.out | refine blk_drewN ?_ _ | refine blk_drew ?_ | refine blk_alloc ?_ _) | exact BK50201.out)); (case side2 => repeat (first | exact (Kd.C_below HR2_1_0.out HB.out) | (with_reducible first | refine Kd.C_alloc ?_ _ | refine Kd.C_drewN ?_ _ | refine Kd.C_drew ?_))); (case side3 => exact HC2_1_0.out); rintro e w' ⟨rfl, ⟨nd, rfl⟩⟩) | (go_at_call 60; (with_reducible refine (monoid_fits_1.calls a0_2 g2_1 ?cA1_0_0 ?cC1_0_0 l2_1_0 t169 _ ?side1 ?side2 ?side3 A19.out).mono ?_); (case side1 => repeat (first | (with_reducible first | exact BK50201.out | refine blk_drewN ?_ _ | refine blk_drew ?_ | refine blk_alloc ?_ _) | exact BK50201.out)); (case side2 => repeat (first | exact (Kd.C_below HR2_1_0.out (by repeat (first | (with_reducible first | exact HB.out | apply below_alloc | apply pw_below_drewN | apply below_drew1 | refine below_set ?_ GE50100.out | refine below_set ?_ GE50200.out | refine below_set ?_ GE50201.out | refine below_set ?_ GE167.out) | exact HB.out))) | (with_reducible first | refine Kd.C_alloc ?_ _ | refine Kd.C_drewN ?_ _ | refine Kd.C_drew ?_))); (case side3 => exact HC2_1_0.out); rintro e w' ⟨rfl, ⟨nd, rfl⟩⟩))
     go_meet
     case rel => exact ⟨_, (!t169), (by first | rfl | (simp; done) | (simp [*]; done)), H', ⟨by first | omega | exact Nat.le_refl _⟩, ⟨by repeat (first | (with_reducible first | exact BK50100.out | refine blk_drewN ?_ _ | refine blk_drew ?_ | refine blk_alloc ?_ _) | exact BK50100.out)⟩, ⟨by repeat (first | (with_reducible first | exact BK50200.out | refine blk_drewN ?_ _ | refine blk_drew ?_ | refine blk_alloc ?_ _) | exact BK50200.out)⟩, ⟨by repeat (first | (with_reducible first | exact BK50201.out | refine blk_drewN ?_ _ | refine blk_drew ?_ | refine blk_alloc ?_ _) | exact BK50201.out)⟩, ⟨by repeat (first | (with_reducible first | exact BK167.out | refine blk_drewN ?_ _ | refine blk_drew ?_ | refine blk_alloc ?_ _) | exact BK167.out)⟩, ⟨by repeat (first | (with_reducible first | exact HB.out | apply below_alloc | apply pw_below_drewN | apply below_drew1 | refine below_set ?_ GE50100.out | refine below_set ?_ GE50200.out | refine below_set ?_ GE50201.out | refine below_set ?_ GE167.out) | exact HB.out)⟩⟩
    ·replace c18 := Bool.eq_false_iff.mpr c18
     subst c18
     have H1 : (monoid_fits_2.j0 k true) = some r := by rw [if_neg (show ¬ (false = true) by decide)] at H; exact H
     clear H
     have H := H1
     clear H1
     have H' := Aside0.mk H
     clear H
     have hnb26 := NB167_50100.out
     have hnc26 := NB50100_167.out
     have hnb27 := NB167_50200.out
     have hnc27 := NB50200_167.out
     have hnb28 := NB167_50201.out
     have hnc28 := NB50201_167.out
     have hcz29_0 : w5.cell? ⟨gb167, 0, none⟩ = some (.int .i64 a0_0) := (blk_cell BK167.out 0).trans rfl
     have hcz29_1 : w5.cell? ⟨gb167, 1, none⟩ = some (.int .i64 a0_1) := (blk_cell BK167.out 1).trans rfl
     have hcz29_2 : w5.cell? ⟨gb167, 2, none⟩ = some (.int .i64 a0_2) := (blk_cell BK167.out 2).trans rfl
     have hfz29_0 := blk_frozen BK167.out 0
     have hfz29_1 := blk_frozen BK167.out 1
     have hfz29_2 := blk_frozen BK167.out 2
     have hcz30_0 : w5.cell? ⟨g1_0, 0, none⟩ = some (.int .i64 a1_0_0) := (blk_cell BK50100.out 0).trans rfl
     have hcz30_1 : w5.cell? ⟨g1_0, 1, none⟩ = some (.slice A1_0_1 l1_0_1.length c1_0_1) := (blk_cell BK50100.out 1).trans rfl
     have hcz30_2 : w5.cell? ⟨g1_0, 2, none⟩ = some (.slice A1_0_2 l1_0_2.length c1_0_2) := (blk_cell BK50100.out 2).trans rfl
     have hfz30_0 := blk_frozen BK50100.out 0
     have hfz30_1 := blk_frozen BK50100.out 1
     have hfz30_2 := blk_frozen BK50100.out 2
     have hcz31_0 : w5.cell? ⟨g2_0, 0, none⟩ = some (.func (.func 60) #[] #[.pointer (some ⟨g2_1, 0, none⟩)]) := (blk_cell BK50200.out 0).trans rfl
     have hfz31_0 := blk_frozen BK50200.out 0
     go_wp2_with (first | (go_at_call 60; (with_reducible refine (monoid_fits_1.calls a0_1 g2_1 ?cA1_0_0 ?cC1_0_0 l2_1_0 false _ ?side1 ?side2 ?side3 A17.out).mono ?_); (case side1 => repeat (first | (with_reducible first | exact BK50201.out | refine blk_drewN ?_ _ | refine blk_drew ?_ | refine blk_alloc ?_ _) | exact BK50201.out)); (case side2 => repeat (first | exact (Kd.C_below HR2_1_0.out HB.out) | (with_reducible first | refine Kd.C_alloc ?_ _ | refine Kd.C_drewN ?_ _ | refine Kd.C_drew ?_))); (case side3 => exact HC2_1_0.out); rintro e w' ⟨rfl, ⟨nd, rfl⟩⟩))
     go_meet
     case rel => exact ⟨_, (true), (by first | rfl | (simp; done) | (simp [*]; done)), H', ⟨by first | omega | exact Nat.le_refl _⟩, ⟨by repeat (first | (with_reducible first | exact BK50100.out | refine blk_drewN ?_ _ | refine blk_drew ?_ | refine blk_alloc ?_ _) | exact BK50100.out)⟩, ⟨by repeat (first | (with_reducible first | exact BK50200.out | refine blk_drewN ?_ _ | refine blk_drew ?_ | refine blk_alloc ?_ _) | exact BK50200.out)⟩, ⟨by repeat (first | (with_reducible first | exact BK50201.out | refine blk_drewN ?_ _ | refine blk_drew ?_ | refine blk_alloc ?_ _) | exact BK50201.out)⟩, ⟨by repeat (first | (with_reducible first | exact BK167.out | refine blk_drewN ?_ _ | refine blk_drew ?_ | refine blk_alloc ?_ _) | exact BK167.out)⟩, ⟨by repeat (first | (with_reducible first | exact HB.out | apply below_alloc | apply pw_below_drewN | apply below_drew1 | refine below_set ?_ GE50100.out | refine below_set ?_ GE50200.out | refine below_set ?_ GE50201.out | refine below_set ?_ GE167.out) | exact HB.out)⟩⟩
 case rest =>
  clear HC4
  (try clear c1); (try clear c2); (try clear p2); (try clear c6); (try clear c6b0); (try clear c7); (try clear c8); (try clear c9); (try clear c11); (try clear c11b0); (try clear c12); (try clear c13); (try clear c14); (try clear c18); (try clear c20); (try clear c21); (try clear c22); (try clear c26); (try clear c27); (try clear c28); (try clear hcz10_0); (try clear hcz10_1); (try clear hcz10_2); (try clear hcz15_0); (try clear hcz15_1); (try clear hcz15_2); (try clear hcz16_0); (try clear hcz16_1); (try clear hcz16_2); (try clear hcz23_0); (try clear hcz23_1); (try clear hcz23_2); (try clear hcz24_0); (try clear hcz24_1); (try clear hcz24_2); (try clear hcz25_0); (try clear hcz29_0); (try clear hcz29_1); (try clear hcz29_2); (try clear hcz30_0); (try clear hcz30_1); (try clear hcz30_2); (try clear hcz31_0); (try clear hfz10_0); (try clear hfz10_1); (try clear hfz10_2); (try clear hfz15_0); (try clear hfz15_1); (try clear hfz15_2); (try clear hfz16_0); (try clear hfz16_1); (try clear hfz16_2); (try clear hfz23_0); (try clear hfz23_1); (try clear hfz23_2); (try clear hfz24_0); (try clear hfz24_1); (try clear hfz24_2); (try clear hfz25_0); (try clear hfz29_0); (try clear hfz29_1); (try clear hfz29_2); (try clear hfz30_0); (try clear hfz30_1); (try clear hfz30_2); (try clear hfz31_0)
  obtain ⟨kq, x4_3, rfl, HA, HJ3, BK50100, BK50200, BK50201, BK167, HB⟩ := hcut
  cases kq with
  | zero => exact absurd HA.out (by simp [monoid_fits_2.j0])
  | succ kj3 =>
   have H := HA.out
   clear HA
   simp only [monoid_fits_2.j0] at H
   obtain rfl := Option.some.inj H
   go_wp2
   go_ret
   exact ⟨by first | rfl | (simp [errW_none, errW_some] <;> rfl) | (simp [*, errW_none, errW_some] <;> rfl), by repeat (first | (with_reducible first | exact HB.out | apply below_alloc | apply pw_below_drewN | apply below_drew1 | refine below_set ?_ GE50100.out | refine below_set ?_ GE50200.out | refine below_set ?_ GE50201.out | refine below_set ?_ GE167.out) | exact HB.out)⟩

/-! ### api_MonIns_at_monoid_fits_2_119: function 119 -/
def api_MonIns_at_monoid_fits_2_119.l0 : Nat → List (S64) → Int → Int → Int → List (S64) → List Int → List (List Int) → Option (Int)
 | 0, _, _, _, _, _, _, _ => none
 | k + 1, x0, x7, x8, x50101000, x50101001, x50101002, x50103000 => if x8 < x7 then (if 0 ≤ x8 then (if x8 < (x0.length : Int) then ((monoid_fits_2.f k ((rd_T64 x0 x8).f0) ((rd_T64 x0 x8).f1) ((rd_T64 x0 x8).f2) x50101000 x50101001 x50101002 x50103000).bind fun t171 => (if t171 = true then (some x8) else (api_MonIns_at_monoid_fits_2_119.l0 k x0 x7 (wrap64 (x8 + 1)) x50101000 x50101001 x50101002 x50103000))) else (none)) else (none)) else (some (-1))
def api_MonIns_at_monoid_fits_2_119.f (k : Nat) (l0 : List (S64)) (a1_0_0 : Int) (l1_0_1 : List (S64)) (l1_0_2 : List Int) (l1_2_0 : List (List Int)) : Option (Int) := api_MonIns_at_monoid_fits_2_119.l0 k l0 (l0.length : Int) 0 a1_0_0 l1_0_1 l1_0_2 l1_2_0
theorem api_MonIns_at_monoid_fits_2_119.mono_l : ∀ k, (∀ y0 y1 y2 y3 y4 y5 y6, LeO (api_MonIns_at_monoid_fits_2_119.l0 k y0 y1 y2 y3 y4 y5 y6) (api_MonIns_at_monoid_fits_2_119.l0 (k + 1) y0 y1 y2 y3 y4 y5 y6))
 | 0 => fun _ _ _ _ _ _ _ r h => by simp [api_MonIns_at_monoid_fits_2_119.l0] at h
 | k + 1 => by
  have ih0 := api_MonIns_at_monoid_fits_2_119.mono_l k
  ·intro y0 y1 y2 y3 y4 y5 y6
   unfold api_MonIns_at_monoid_fits_2_119.l0
   repeat' first
   | (with_reducible exact ih0 _ _ _ _ _ _ _)
   | (with_reducible exact monoid_fits_2.mono _ _ _ _ _ _ _ _)
   | (with_reducible exact LeO.refl _)
   | (with_reducible exact LeO.none _)
   | (with_reducible refine LeO.ite ?_ ?_)
   | (with_reducible refine LeO.bind ?_ (fun _ => ?_))
   | exact LeO.none _
   | refine LeO.ite ?_ ?_
   | refine LeO.bind ?_ (fun _ => ?_)
theorem api_MonIns_at_monoid_fits_2_119.mono : ∀ a0 a1 a2 a3 a4 k, LeO (api_MonIns_at_monoid_fits_2_119.f k a0 a1 a2 a3 a4) (api_MonIns_at_monoid_fits_2_119.f (k + 1) a0 a1 a2 a3 a4) := by
 intro a0 a1 a2 a3 a4 k
 have ih0 := api_MonIns_at_monoid_fits_2_119.mono_l k
 unfold api_MonIns_at_monoid_fits_2_119.f
 repeat' first
   | (with_reducible exact ih0 _ _ _ _ _ _ _)
   | (with_reducible exact monoid_fits_2.mono _ _ _ _ _ _ _ _)
   | (with_reducible exact LeO.refl _)
   | (with_reducible exact LeO.none _)
   | (with_reducible refine LeO.ite ?_ ?_)
   | (with_reducible refine LeO.bind ?_ (fun _ => ?_))
   | exact LeO.none _
   | refine LeO.ite ?_ ?_
   | refine LeO.bind ?_ (fun _ => ?_)
set_option maxHeartbeats 8000000 in
set_option maxRecDepth 100000 in
theorem api_MonIns_at_monoid_fits_2_119.calls (k : Nat) (A0 : Option Addr) (c0 : Nat) (l0 : List (S64)) (g1_0 : Nat) (g1_1 : Nat) (g1_2 : Nat) (a1_0_0 : Int) (A1_0_1 : Option Addr) (c1_0_1 : Nat) (l1_0_1 : List (S64)) (A1_0_2 : Option Addr) (c1_0_2 : Nat) (l1_0_2 : List Int) (A1_2_0 : Option Addr) (c1_2_0 : Nat) (l1_2_0 : List (List Int)) (r : Int) (w : World) (hr0 : Kd.C k64 w A0 l0.length l0) (hc0 : l0.length ≤ c0) (hb1_0 : w.heap[g1_0]? = some (.cells #[.int .i64 a1_0_0, .slice A1_0_1 l1_0_1.length c1_0_1, .slice A1_0_2 l1_0_2.length c1_0_2] 34 (0, 0))) (hr1_0_1 : Kd.C k64 w A1_0_1 l1_0_1.length l1_0_1) (hc1_0_1 : l1_0_1.length ≤ c1_0_1) (hr1_0_2 : Kd.C (Kd.int .i64) w A1_0_2 l1_0_2.length l1_0_2) (hc1_0_2 : l1_0_2.length ≤ c1_0_2) (hb1_1 : w.heap[g1_1]? = some (.cells #[.func (.func 60) #[] #[.pointer (some ⟨g1_2, 0, none⟩)]] 68 (0, 0))) (hb1_2 : w.heap[g1_2]? = some (.cells #[.slice A1_2_0 l1_2_0.length c1_2_0] 23 (0, 0))) (hr1_2_0 : Kd.C (Kd.slice 3 (Kd.int .i64)) w A1_2_0 l1_2_0.length l1_2_0) (hc1_2_0 : l1_2_0.length ≤ c1_2_0) (h : api_MonIns_at_monoid_fits_2_119.f k l0 a1_0_0 l1_0_1 l1_0_2 l1_2_0 = some r) :
  Calls Try.prog 67 #[.slice A0 l0.length c0, .func (.func 62) #[] #[.pointer (some ⟨g1_0, 0, none⟩), .pointer (some ⟨g1_1, 0, none⟩)]] w fun e w' => e = .returned (.int .i64 r) ∧ Below w.heap.size w w' := by
 have hu64 := Try.underlying64
 have HR0 := Aside0.mk hr0
 have HC0 := Aside0.mk hc0
 clear hr0 hc0
 have HR1_0_1 := Aside0.mk hr1_0_1
 have HC1_0_1 := Aside0.mk hc1_0_1
 clear hr1_0_1 hc1_0_1
 have HR1_0_2 := Aside0.mk hr1_0_2
 have HC1_0_2 := Aside0.mk hc1_0_2
 clear hr1_0_2 hc1_0_2
 have HR1_2_0 := Aside0.mk hr1_2_0
 have HC1_2_0 := Aside0.mk hc1_2_0
 clear hr1_2_0 hc1_2_0
 have BK50100 := Aside0.mk hb1_0
 clear hb1_0
 have BK50101 := Aside0.mk hb1_1
 clear hb1_1
 have BK50102 := Aside0.mk hb1_2
 clear hb1_2
 have HB := Aside0.mk (Below.refl w.heap.size w)
 have H : (api_MonIns_at_monoid_fits_2_119.l0 k l0 (l0.length : Int) 0 a1_0_0 l1_0_1 l1_0_2 l1_2_0) = some r := h
 clear h
 have H' := Aside0.mk H
 clear H
 go_enter Try.func67, Try.ntmps67
 go_wp2
 go_loopg [8] k (fun kq v8 w' => ∃ (x8_1 : Int), v8 = .int .i64 x8_1 ∧ Aside0 (api_MonIns_at_monoid_fits_2_119.l0 kq l0 (l0.length : Int) x8_1 a1_0_0 l1_0_1 l1_0_2 l1_2_0 = some r) ∧ Aside0 (kq ≤ k) ∧ Aside0 (w'.heap[g1_0]? = some (.cells #[.int .i64 a1_0_0, (.slice A1_0_1 l1_0_1.length c1_0_1), (.slice A1_0_2 l1_0_2.length c1_0_2)] 34 (0, 0))) ∧ Aside0 (w'.heap[g1_1]? = some (.cells #[(.func (.func 60) #[] #[.pointer (some ⟨g1_2, 0, none⟩)])] 68 (0, 0))) ∧ Aside0 (w'.heap[g1_2]? = some (.cells #[(.slice A1_2_0 l1_2_0.length c1_2_0)] 23 (0, 0))) ∧ Aside0 (Below w.heap.size w w'))
 case atStart => exact ⟨(0), (by first | rfl | (simp; done) | (simp [*]; done)), H', ⟨Nat.le_refl _⟩, ⟨by repeat (first | (with_reducible first | exact BK50100.out | refine blk_drewN ?_ _ | refine blk_drew ?_ | refine blk_alloc ?_ _) | exact BK50100.out)⟩, ⟨by repeat (first | (with_reducible first | exact BK50101.out | refine blk_drewN ?_ _ | refine blk_drew ?_ | refine blk_alloc ?_ _) | exact BK50101.out)⟩, ⟨by repeat (first | (with_reducible first | exact BK50102.out | refine blk_drewN ?_ _ | refine blk_drew ?_ | refine blk_alloc ?_ _) | exact BK50102.out)⟩, ⟨by repeat (first | (with_reducible first | exact HB.out | apply below_alloc | apply pw_below_drewN | apply below_drew1 | refine below_set ?_ GE50100.out | refine below_set ?_ GE50101.out | refine below_set ?_ GE50102.out) | exact HB.out)⟩⟩
 case round =>
  clear H'
  (try clear c1); (try clear p2)
  obtain ⟨x8_1, rfl, HA, HK1, BK50100, BK50101, BK50102, HB⟩ := hrel
  cases gk with
  | zero => exact absurd HA.out (by simp [api_MonIns_at_monoid_fits_2_119.l0])
  | succ k1 =>
   have H := HA.out
   clear HA
   simp only [api_MonIns_at_monoid_fits_2_119.l0] at H
   by_cases c3 : x8_1 < (l0.length : Int)
   ·rw [if_pos c3] at H
    have c3b0 : decide (x8_1 < (l0.length : Int)) = true := decide_eq_true c3
    clear c3
    by_cases c4 : 0 ≤ x8_1
    ·rw [if_pos c4] at H
     have c4b0 : decide (0 ≤ x8_1) = true := decide_eq_true c4
     clear c4
     by_cases c5 : x8_1 < (l0.length : Int)
     ·rw [if_pos c5] at H
      have c5b0 : decide (x8_1 < (l0.length : Int)) = true := decide_eq_true c5
      clear c5
      replace H := Option.bind_eq_some_iff.mp H
      obtain ⟨t171, A60, H⟩ := H
      replace H : (if t171 = true then (some x8_1) else (api_MonIns_at_monoid_fits_2_119.l0 k1 l0 (l0.length : Int) (wrap64 (x8_1 + 1)) a1_0_0 l1_0_1 l1_0_2 l1_2_0)) = some r := H
      have A6 := Aside0.mk A60
      clear A60
      by_cases c7 : t171 = true
      ·subst c7
       have H1 : (some x8_1) = some r := by rw [if_pos rfl] at H; exact H
       clear H
       have H := H1
       clear H1
       obtain rfl := Option.some.inj H
       have p170 : 0 ≤ (x8_1 : Int) := odt
       have q170 : x8_1 < (l0.length : Int) := odt
       obtain ⟨ad170, e170, hx170_0, hx170_1, hx170_2⟩ := at_T64 HR0.out x8_1 p170 q170
       cases e170
       replace hx170_0 := (HB.out.cell (World.block_lt_of_cell? w _ hx170_0)).trans hx170_0
       replace hx170_1 := (HB.out.cell (World.block_lt_of_cell? w _ hx170_1)).trans hx170_1
       replace hx170_2 := (HB.out.cell (World.block_lt_of_cell? w _ hx170_2)).trans hx170_2
       replace p170 := eq_true p170
       replace q170 := eq_true q170
       go_wp2_with (first | (go_at_call 62; (with_reducible refine (monoid_fits_2.calls k1 ((rd_T64 l0 x8_1).f0) ((rd_T64 l0 x8_1).f1) ((rd_T64 l0 x8_1).f2) g1_0 a1_0_0 ?cA1_0_1 ?cC1_0_1 l1_0_1 ?cA1_0_2 ?cC1_0_2 l1_0_2 g1_1 g1_2 ?cA2_1_0 ?cC2_1_0 l1_2_0 true _ ?side1 ?side2 ?side3 ?side4 ?side5 ?side6 ?side7 ?side8 ?side9 A6.out).mono ?_); (case side1 => repeat (first | (with_reducible first | exact BK50100.out | refine blk_drewN ?_ _ | refine blk_drew ?_ | refine blk_alloc ?_ _) | exact BK50100.out)); (case side2 => repeat (first | exact (Kd.C_below HR1_0_1.out HB.out) | (with_reducible first | refine Kd.C_alloc ?_ _ | refine Kd.C_drewN ?_ _ | refine Kd.C_drew ?_))); (case side3 => exact HC1_0_1.out); (case side4 => repeat (first | exact (Kd.C_below HR1_0_2.out HB.out) | (with_reducible first | refine Kd.C_alloc ?_ _ | refine Kd.C_drewN ?_ _ | refine Kd.C_drew ?_))); (case side5 => exact HC1_0_2.out); (case side6 => repeat (first | (with_reducible first | exact BK50101.out | refine blk_drewN ?_ _ | refine blk_drew ?_ | refine blk_alloc ?_ _) | exact BK50101.out)); (case side7 => repeat (first | (with_reducible first | exact BK50102.out | refine blk_drewN ?_ _ | refine blk_drew ?_ | refine blk_alloc ?_ _) | exact BK50102.out)); (case side8 => repeat (first | exact (Kd.C_below HR1_2_0.out HB.out) | (with_reducible first | refine Kd.C_alloc ?_ _ | refine Kd.C_drewN ?_ _ | refine Kd.C_drew ?_))); (case side9 => exact HC1_2_0.out); rintro e w8 ⟨rfl, hb⟩; have n0_ := Aside0.mk (blk_below (g := g1_0) (o := .cells #[.int .i64 a1_0_0, .slice A1_0_1 l1_0_1.length c1_0_1, .slice A1_0_2 l1_0_2.length c1_0_2] 34 (0, 0)) (by repeat (first | (with_reducible first | exact BK50100.out | refine blk_drewN ?_ _ | refine blk_drew ?_ | refine blk_alloc ?_ _) | exact BK50100.out)) hb); have n1_ := Aside0.mk (blk_below (g := g1_1) (o := .cells #[.func (.func 60) #[] #[.pointer (some ⟨g1_2, 0, none⟩)]] 68 (0, 0)) (by repeat (first | (with_reducible first | exact BK50101.out | refine blk_drewN ?_ _ | refine blk_drew ?_ | refine blk_alloc ?_ _) | exact BK50101.out)) hb); have n2_ := Aside0.mk (blk_below (g := g1_2) (o := .cells #[.slice A1_2_0 l1_2_0.length c1_2_0] 23 (0, 0)) (by repeat (first | (with_reducible first | exact BK50102.out | refine blk_drewN ?_ _ | refine blk_drew ?_ | refine blk_alloc ?_ _) | exact BK50102.out)) hb); have n3_ := Aside0.mk (below_step (by repeat (first | (with_reducible first | exact HB.out | apply below_alloc | apply pw_below_drewN | apply below_drew1 | refine below_set ?_ GE50100.out | refine below_set ?_ GE50101.out | refine below_set ?_ GE50102.out) | exact HB.out)) hb); clear BK50100; clear BK50101; clear BK50102; clear HB; have BK50100 := n0_; have BK50101 := n1_; have BK50102 := n2_; have HB := n3_; clear n0_ n1_ n2_ n3_; (try clear hb); (try clear hb2); (try clear hk); (try clear hi)))
       go_ret
       exact ⟨by first | rfl | (simp [errW_none, errW_some] <;> rfl) | (simp [*, errW_none, errW_some] <;> rfl), by repeat (first | (with_reducible first | exact HB.out | apply below_alloc | apply pw_below_drewN | apply below_drew1 | refine below_set ?_ GE50100.out | refine below_set ?_ GE50101.out | refine below_set ?_ GE50102.out) | exact HB.out)⟩
      ·replace c7 := Bool.eq_false_iff.mpr c7
       subst c7
       have H1 : (api_MonIns_at_monoid_fits_2_119.l0 k1 l0 (l0.length : Int) (wrap64 (x8_1 + 1)) a1_0_0 l1_0_1 l1_0_2 l1_2_0) = some r := by rw [if_neg (show ¬ (false = true) by decide)] at H; exact H
       clear H
       have H := H1
       clear H1
       have H' := Aside0.mk H
       clear H
       have p170 : 0 ≤ (x8_1 : Int) := odt
       have q170 : x8_1 < (l0.length : Int) := odt
       obtain ⟨ad170, e170, hx170_0, hx170_1, hx170_2⟩ := at_T64 HR0.out x8_1 p170 q170
       cases e170
       replace hx170_0 := (HB.out.cell (World.block_lt_of_cell? w _ hx170_0)).trans hx170_0
       replace hx170_1 := (HB.out.cell (World.block_lt_of_cell? w _ hx170_1)).trans hx170_1
       replace hx170_2 := (HB.out.cell (World.block_lt_of_cell? w _ hx170_2)).trans hx170_2
       replace p170 := eq_true p170
       replace q170 := eq_true q170
       go_wp2_with (first | (go_at_call 62; (with_reducible refine (monoid_fits_2.calls k1 ((rd_T64 l0 x8_1).f0) ((rd_T64 l0 x8_1).f1) ((rd_T64 l0 x8_1).f2) g1_0 a1_0_0 ?cA1_0_1 ?cC1_0_1 l1_0_1 ?cA1_0_2 ?cC1_0_2 l1_0_2 g1_1 g1_2 ?cA2_1_0 ?cC2_1_0 l1_2_0 false _ ?side1 ?side2 ?side3 ?side4 ?side5 ?side6 ?side7 ?side8 ?side9 A6.out).mono ?_); (case side1 => repeat (first | (with_reducible first | exact BK50100.out | refine blk_drewN ?_ _ | refine blk_drew ?_ | refine blk_alloc ?_ _) | exact BK50100.out)); (case side2 => repeat (first | exact (Kd.C_below HR1_0_1.out HB.out) | (with_reducible first | refine Kd.C_alloc ?_ _ | refine Kd.C_drewN ?_ _ | refine Kd.C_drew ?_))); (case side3 => exact HC1_0_1.out); (case side4 => repeat (first | exact (Kd.C_below HR1_0_2.out HB.out) | (with_reducible first | refine Kd.C_alloc ?_ _ | refine Kd.C_drewN ?_ _ | refine Kd.C_drew ?_))); (case side5 => exact HC1_0_2.out); (case side6 => repeat (first | (with_reducible first | exact BK50101.out | refine blk_drewN ?_ _ | refine blk_drew ?_ | refine blk_alloc ?_ _) | exact BK50101.out)); (case side7 => repeat (first | (with_reducible first | exact BK50102.out | refine blk_drewN ?_ _ | refine blk_drew ?_ | refine blk_alloc ?_ _) | exact BK50102.out)); (case side8 => repeat (first | exact (Kd.C_below HR1_2_0.out HB.out) | (with_reducible first | refine Kd.C_alloc ?_ _ | refine Kd.C_drewN ?_ _ | refine Kd.C_drew ?_))); (case side9 => exact HC1_2_0.out); rintro e w9 ⟨rfl, hb⟩; have n0_ := Aside0.mk (blk_below (g := g1_0) (o := .cells #[.int .i64 a1_0_0, .slice A1_0_1 l1_0_1.length c1_0_1, .slice A1_0_2 l1_0_2.length c1_0_2] 34 (0, 0)) (by repeat (first | (with_reducible first | exact BK50100.out | refine blk_drewN ?_ _ | refine blk_drew ?_ | refine blk_alloc ?_ _) | exact BK50100.out)) hb); have n1_ := Aside0.mk (blk_below (g := g1_1) (o := .cells #[.func (.func 60) #[] #[.pointer (some ⟨g1_2, 0, none⟩)]] 68 (0, 0)) (by repeat (first | (with_reducible first | exact BK50101.out | refine blk_drewN ?_ _ | refine blk_drew ?_ | refine blk_alloc ?_ _) | exact BK50101.out)) hb); have n2_ := Aside0.mk (blk_below (g := g1_2) (o := .cells #[.slice A1_2_0 l1_2_0.length c1_2_0] 23 (0, 0)) (by repeat (first | (with_reducible first | exact BK50102.out | refine blk_drewN ?_ _ | refine blk_drew ?_ | refine blk_alloc ?_ _) | exact BK50102.out)) hb); have n3_ := Aside0.mk (below_step (by repeat (first | (with_reducible first | exact HB.out | apply below_alloc | apply pw_below_drewN | apply below_drew1 | refine below_set ?_ GE50100.out | refine below_set ?_ GE50101.out | refine below_set ?_ GE50102.out) | exact HB.out)) hb); clear BK50100; clear BK50101; clear BK50102; clear HB; have BK50100 := n0_; have BK50101 := n1_; have BK50102 := n2_; have HB := n3_; clear n0_ n1_ n2_ n3_; (try clear hb); (try clear hb2); (try clear hk); (try clear hi)))
       go_roundg k1
       case measure => have := HK1.out; omega
       case rel => exact ⟨(wrap64 (x8_1 + 1)), (by first | rfl | (simp; done) | (simp [*]; done)), H', ⟨by have := HK1.out; omega⟩, ⟨by repeat (first | (with_reducible first | exact BK50100.out | refine blk_drewN ?_ _ | refine blk_drew ?_ | refine blk_alloc ?_ _) | exact BK50100.out)⟩, ⟨by repeat (first | (with_reducible first | exact BK50101.out | refine blk_drewN ?_ _ | refine blk_drew ?_ | refine blk_alloc ?_ _) | exact BK50101.out)⟩, ⟨by repeat (first | (with_reducible first | exact BK50102.out | refine blk_drewN ?_ _ | refine blk_drew ?_ | refine blk_alloc ?_ _) | exact BK50102.out)⟩, ⟨by repeat (first | (with_reducible first | exact HB.out | apply below_alloc | apply pw_below_drewN | apply below_drew1 | refine below_set ?_ GE50100.out | refine below_set ?_ GE50101.out | refine below_set ?_ GE50102.out) | exact HB.out)⟩⟩
     ·rw [if_neg c5] at H
      exact absurd H (by simp)
    ·rw [if_neg c4] at H
     exact absurd H (by simp)
   ·rw [if_neg c3] at H
    have c3b0 : decide (x8_1 < (l0.length : Int)) = false := decide_eq_false c3
    clear c3
    obtain rfl := Option.some.inj H
    go_wp2
    go_ret
    exact ⟨by first | rfl | (simp [errW_none, errW_some] <;> rfl) | (simp [*, errW_none, errW_some] <;> rfl), by repeat (first | (with_reducible first | exact HB.out | apply below_alloc | apply pw_below_drewN | apply below_drew1 | refine below_set ?_ GE50100.out | refine below_set ?_ GE50101.out | refine below_set ?_ GE50102.out) | exact HB.out)⟩

/-! ### api_MonIns_at_monoid_fits_2: function 118 -/
def api_MonIns_at_monoid_fits_2.f (k : Nat) (l0 : List (S64)) (a1_0_0 : Int) (l1_0_1 : List (S64)) (l1_0_2 : List Int) (l1_2_0 : List (List Int)) : Option (Bool) := (api_MonIns_at_monoid_fits_2_119.f k l0 a1_0_0 l1_0_1 l1_0_2 l1_2_0).bind fun t172 => (some (decide (t172 ≥ 0)))
theorem api_MonIns_at_monoid_fits_2.mono : ∀ a0 a1 a2 a3 a4 k, LeO (api_MonIns_at_monoid_fits_2.f k a0 a1 a2 a3 a4) (api_MonIns_at_monoid_fits_2.f (k + 1) a0 a1 a2 a3 a4) := by
 intro a0 a1 a2 a3 a4 k
 unfold api_MonIns_at_monoid_fits_2.f
 repeat' first
   | (with_reducible exact api_MonIns_at_monoid_fits_2_119.mono _ _ _ _ _ _)
   | (with_reducible exact LeO.refl _)
   | (with_reducible exact LeO.none _)
   | (with_reducible refine LeO.ite ?_ ?_)
   | (with_reducible refine LeO.bind ?_ (fun _ => ?_))
   | exact LeO.none _
   | refine LeO.ite ?_ ?_
   | refine LeO.bind ?_ (fun _ => ?_)
set_option maxHeartbeats 8000000 in
set_option maxRecDepth 100000 in
theorem api_MonIns_at_monoid_fits_2.calls (k : Nat) (A0 : Option Addr) (c0 : Nat) (l0 : List (S64)) (g1_0 : Nat) (g1_1 : Nat) (g1_2 : Nat) (a1_0_0 : Int) (A1_0_1 : Option Addr) (c1_0_1 : Nat) (l1_0_1 : List (S64)) (A1_0_2 : Option Addr) (c1_0_2 : Nat) (l1_0_2 : List Int) (A1_2_0 : Option Addr) (c1_2_0 : Nat) (l1_2_0 : List (List Int)) (r : Bool) (w : World) (hr0 : Kd.C k64 w A0 l0.length l0) (hc0 : l0.length ≤ c0) (hb1_0 : w.heap[g1_0]? = some (.cells #[.int .i64 a1_0_0, .slice A1_0_1 l1_0_1.length c1_0_1, .slice A1_0_2 l1_0_2.length c1_0_2] 34 (0, 0))) (hr1_0_1 : Kd.C k64 w A1_0_1 l1_0_1.length l1_0_1) (hc1_0_1 : l1_0_1.length ≤ c1_0_1) (hr1_0_2 : Kd.C (Kd.int .i64) w A1_0_2 l1_0_2.length l1_0_2) (hc1_0_2 : l1_0_2.length ≤ c1_0_2) (hb1_1 : w.heap[g1_1]? = some (.cells #[.func (.func 60) #[] #[.pointer (some ⟨g1_2, 0, none⟩)]] 68 (0, 0))) (hb1_2 : w.heap[g1_2]? = some (.cells #[.slice A1_2_0 l1_2_0.length c1_2_0] 23 (0, 0))) (hr1_2_0 : Kd.C (Kd.slice 3 (Kd.int .i64)) w A1_2_0 l1_2_0.length l1_2_0) (hc1_2_0 : l1_2_0.length ≤ c1_2_0) (h : api_MonIns_at_monoid_fits_2.f k l0 a1_0_0 l1_0_1 l1_0_2 l1_2_0 = some r) :
  Calls Try.prog 61 #[.slice A0 l0.length c0, .func (.func 62) #[] #[.pointer (some ⟨g1_0, 0, none⟩), .pointer (some ⟨g1_1, 0, none⟩)]] w fun e w' => e = .returned (.bool r) ∧ Below w.heap.size w w' := by
 have HR0 := Aside0.mk hr0
 have HC0 := Aside0.mk hc0
 clear hr0 hc0
 have HR1_0_1 := Aside0.mk hr1_0_1
 have HC1_0_1 := Aside0.mk hc1_0_1
 clear hr1_0_1 hc1_0_1
 have HR1_0_2 := Aside0.mk hr1_0_2
 have HC1_0_2 := Aside0.mk hc1_0_2
 clear hr1_0_2 hc1_0_2
 have HR1_2_0 := Aside0.mk hr1_2_0
 have HC1_2_0 := Aside0.mk hc1_2_0
 clear hr1_2_0 hc1_2_0
 have BK50100 := Aside0.mk hb1_0
 clear hb1_0
 have BK50101 := Aside0.mk hb1_1
 clear hb1_1
 have BK50102 := Aside0.mk hb1_2
 clear hb1_2
 have HB := Aside0.mk (Below.refl w.heap.size w)
 have H : ((api_MonIns_at_monoid_fits_2_119.f k l0 a1_0_0 l1_0_1 l1_0_2 l1_2_0).bind fun t172 => (some (decide (t172 ≥ 0)))) = some r := h
 clear h
 replace H := Option.bind_eq_some_iff.mp H
 obtain ⟨t172, A30, H⟩ := H
 replace H : (some (decide (t172 ≥ 0))) = some r := H
 have A3 := Aside0.mk A30
 clear A30
 obtain rfl := Option.some.inj H
 go_enter Try.func61, Try.ntmps61
 go_wp2_with (first | (go_at_call 67; (with_reducible refine (api_MonIns_at_monoid_fits_2_119.calls k _ _ l0 g1_0 g1_1 g1_2 a1_0_0 ?cA3_0_1 ?cC3_0_1 l1_0_1 ?cA3_0_2 ?cC3_0_2 l1_0_2 ?cA3_2_0 ?cC3_2_0 l1_2_0 t172 _ ?side1 ?side2 ?side3 ?side4 ?side5 ?side6 ?side7 ?side8 ?side9 ?side10 ?side11 A3.out).mono ?_); (case side1 => repeat (first | exact HR0.out | (with_reducible first | refine Kd.C_alloc ?_ _ | refine Kd.C_drewN ?_ _ | refine Kd.C_drew ?_))); (case side2 => exact HC0.out); (case side3 => repeat (first | (with_reducible first | exact BK50100.out | refine blk_drewN ?_ _ | refine blk_drew ?_ | refine blk_alloc ?_ _) | exact BK50100.out)); (case side4 => repeat (first | exact HR1_0_1.out | (with_reducible first | refine Kd.C_alloc ?_ _ | refine Kd.C_drewN ?_ _ | refine Kd.C_drew ?_))); (case side5 => exact HC1_0_1.out); (case side6 => repeat (first | exact HR1_0_2.out | (with_reducible first | refine Kd.C_alloc ?_ _ | refine Kd.C_drewN ?_ _ | refine Kd.C_drew ?_))); (case side7 => exact HC1_0_2.out); (case side8 => repeat (first | (with_reducible first | exact BK50101.out | refine blk_drewN ?_ _ | refine blk_drew ?_ | refine blk_alloc ?_ _) | exact BK50101.out)); (case side9 => repeat (first | (with_reducible first | exact BK50102.out | refine blk_drewN ?_ _ | refine blk_drew ?_ | refine blk_alloc ?_ _) | exact BK50102.out)); (case side10 => repeat (first | exact HR1_2_0.out | (with_reducible first | refine Kd.C_alloc ?_ _ | refine Kd.C_drewN ?_ _ | refine Kd.C_drew ?_))); (case side11 => exact HC1_2_0.out); rintro e w4 ⟨rfl, hb⟩; have n0_ := Aside0.mk (blk_below (g := g1_0) (o := .cells #[.int .i64 a1_0_0, .slice A1_0_1 l1_0_1.length c1_0_1, .slice A1_0_2 l1_0_2.length c1_0_2] 34 (0, 0)) (by repeat (first | (with_reducible first | exact BK50100.out | refine blk_drewN ?_ _ | refine blk_drew ?_ | refine blk_alloc ?_ _) | exact BK50100.out)) hb); have n1_ := Aside0.mk (blk_below (g := g1_1) (o := .cells #[.func (.func 60) #[] #[.pointer (some ⟨g1_2, 0, none⟩)]] 68 (0, 0)) (by repeat (first | (with_reducible first | exact BK50101.out | refine blk_drewN ?_ _ | refine blk_drew ?_ | refine blk_alloc ?_ _) | exact BK50101.out)) hb); have n2_ := Aside0.mk (blk_below (g := g1_2) (o := .cells #[.slice A1_2_0 l1_2_0.length c1_2_0] 23 (0, 0)) (by repeat (first | (with_reducible first | exact BK50102.out | refine blk_drewN ?_ _ | refine blk_drew ?_ | refine blk_alloc ?_ _) | exact BK50102.out)) hb); have n3_ := Aside0.mk (below_step (by repeat (first | (with_reducible first | exact HB.out | apply below_alloc | apply pw_below_drewN | apply below_drew1 | refine below_set ?_ GE50100.out | refine below_set ?_ GE50101.out | refine below_set ?_ GE50102.out) | exact HB.out)) hb); clear BK50100; clear BK50101; clear BK50102; clear HB; have BK50100 := n0_; have BK50101 := n1_; have BK50102 := n2_; have HB := n3_; clear n0_ n1_ n2_ n3_; (try clear hb); (try clear hb2); (try clear hk); (try clear hi)))
 go_ret
 exact ⟨by first | rfl | (simp [errW_none, errW_some] <;> rfl) | (simp [*, errW_none, errW_some] <;> rfl), by repeat (first | (with_reducible first | exact HB.out | apply below_alloc | apply pw_below_drewN | apply below_drew1 | refine below_set ?_ GE50100.out | refine below_set ?_ GE50101.out | refine below_set ?_ GE50102.out) | exact HB.out)⟩

/-! ### monoid_fits: function 48 -/
mutual
def monoid_fits.j0 : Nat → Bool → List (List Int) → Int → List (S64) → List Int → Option (Bool)
 | 0, _, _, _, _, _ => none
 | k + 1, x22, x174000, x175000, x175001, x175002 => if x22 = true then (some false) else (monoid_fits.l0 k x175002 (x175002.length : Int) 0 x174000 x175000 x175001 x175002)
def monoid_fits.l0 : Nat → List Int → Int → Int → List (List Int) → Int → List (S64) → List Int → Option (Bool)
 | 0, _, _, _, _, _, _, _ => none
 | k + 1, x24, x25, x26, x174000, x175000, x175001, x175002 => if x26 < x25 then (if 0 ≤ x26 then (if x26 < (x24.length : Int) then ((monoid_fits_1.f (rd x24 x26) x174000).bind fun t178 => (if t178 = true then (if x26 > 0 then (if 0 ≤ (wrap64 (x26 - 1)) then (if (wrap64 (x26 - 1)) < (x175002.length : Int) then (if (rd x24 x26) ≤ (rd x175002 (wrap64 (x26 - 1))) then (some false) else (monoid_fits.l0 k x24 x25 (wrap64 (x26 + 1)) x174000 x175000 x175001 x175002)) else (none)) else (none)) else (monoid_fits.l0 k x24 x25 (wrap64 (x26 + 1)) x174000 x175000 x175001 x175002)) else (some false))) else (none)) else (none)) else ((api_MonIns_at_monoid_fits_2.f k x175001 x175000 x175001 x175002 x174000).bind fun t176 => (some (!t176)))
end
def monoid_fits.f (k : Nat) (l0 : List (List Int)) (a1_0 : Int) (l1_1 : List (S64)) (l1_2 : List Int) : Option (Bool) := if a1_0 < 0 then (monoid_fits.j0 k true l0 a1_0 l1_1 l1_2) else (if a1_0 > 16 then (monoid_fits.j0 k true l0 a1_0 l1_1 l1_2) else (monoid_fits.j0 k (decide ((l1_1.length : Int) > 200000)) l0 a1_0 l1_1 l1_2))
theorem monoid_fits.mono_l : ∀ k, (∀ y0 y1 y2 y3 y4, LeO (monoid_fits.j0 k y0 y1 y2 y3 y4) (monoid_fits.j0 (k + 1) y0 y1 y2 y3 y4)) ∧ (∀ y0 y1 y2 y3 y4 y5 y6, LeO (monoid_fits.l0 k y0 y1 y2 y3 y4 y5 y6) (monoid_fits.l0 (k + 1) y0 y1 y2 y3 y4 y5 y6))
 | 0 => ⟨fun _ _ _ _ _ r h => by simp [monoid_fits.j0] at h, fun _ _ _ _ _ _ _ r h => by simp [monoid_fits.l0] at h⟩
 | k + 1 => by
  obtain ⟨ih0, ih1⟩ := monoid_fits.mono_l k
  refine ⟨?_, ?_⟩
  ·intro y0 y1 y2 y3 y4
   unfold monoid_fits.j0
   repeat' first
   | (with_reducible exact ih0 _ _ _ _ _)
   | (with_reducible exact ih1 _ _ _ _ _ _ _)
   | (with_reducible exact api_MonIns_at_monoid_fits_2.mono _ _ _ _ _ _)
   | (with_reducible exact LeO.refl _)
   | (with_reducible exact LeO.none _)
   | (with_reducible refine LeO.ite ?_ ?_)
   | (with_reducible refine LeO.bind ?_ (fun _ => ?_))
   | exact LeO.none _
   | refine LeO.ite ?_ ?_
   | refine LeO.bind ?_ (fun _ => ?_)
  ·intro y0 y1 y2 y3 y4 y5 y6
   unfold monoid_fits.l0
   repeat' first
   | (with_reducible exact ih0 _ _ _ _ _)
   | (with_reducible exact ih1 _ _ _ _ _ _ _)
   | (with_reducible exact api_MonIns_at_monoid_fits_2.mono _ _ _ _ _ _)
   | (with_reducible exact LeO.refl _)
   | (with_reducible exact LeO.none _)
   | (with_reducible refine LeO.ite ?_ ?_)
   | (with_reducible refine LeO.bind ?_ (fun _ => ?_))
   | exact LeO.none _
   | refine LeO.ite ?_ ?_
   | refine LeO.bind ?_ (fun _ => ?_)
theorem monoid_fits.mono : ∀ a0 a1 a2 a3 k, LeO (monoid_fits.f k a0 a1 a2 a3) (monoid_fits.f (k + 1) a0 a1 a2 a3) := by
 intro a0 a1 a2 a3 k
 obtain ⟨ih0, ih1⟩ := monoid_fits.mono_l k
 unfold monoid_fits.f
 repeat' first
   | (with_reducible exact ih0 _ _ _ _ _)
   | (with_reducible exact ih1 _ _ _ _ _ _ _)
   | (with_reducible exact api_MonIns_at_monoid_fits_2.mono _ _ _ _ _ _)
   | (with_reducible exact LeO.refl _)
   | (with_reducible exact LeO.none _)
   | (with_reducible refine LeO.ite ?_ ?_)
   | (with_reducible refine LeO.bind ?_ (fun _ => ?_))
   | exact LeO.none _
   | refine LeO.ite ?_ ?_
   | refine LeO.bind ?_ (fun _ => ?_)
set_option maxHeartbeats 8000000 in
set_option maxRecDepth 100000 in
theorem monoid_fits.calls (k : Nat) (A0 : Option Addr) (c0 : Nat) (l0 : List (List Int)) (a1_0 : Int) (A1_1 : Option Addr) (c1_1 : Nat) (l1_1 : List (S64)) (A1_2 : Option Addr) (c1_2 : Nat) (l1_2 : List Int) (r : Bool) (w : World) (hr0 : Kd.C (Kd.slice 3 (Kd.int .i64)) w A0 l0.length l0) (hc0 : l0.length ≤ c0) (hr1_1 : Kd.C k64 w A1_1 l1_1.length l1_1) (hc1_1 : l1_1.length ≤ c1_1) (hr1_2 : Kd.C (Kd.int .i64) w A1_2 l1_2.length l1_2) (hc1_2 : l1_2.length ≤ c1_2) (h : monoid_fits.f k l0 a1_0 l1_1 l1_2 = some r) :
  Calls Try.prog 48 #[.slice A0 l0.length c0, .agg #[.int .i64 a1_0, .slice A1_1 l1_1.length c1_1, .slice A1_2 l1_2.length c1_2]] w fun e w' => e = .returned (.bool r) ∧ Below w.heap.size w w' := by
 have hu34 := Try.underlying34
 have HR0 := Aside0.mk hr0
 have HC0 := Aside0.mk hc0
 clear hr0 hc0
 have HR1_1 := Aside0.mk hr1_1
 have HC1_1 := Aside0.mk hc1_1
 clear hr1_1 hc1_1
 have HR1_2 := Aside0.mk hr1_2
 have HC1_2 := Aside0.mk hc1_2
 clear hr1_2 hc1_2
 have HB := Aside0.mk (Below.refl w.heap.size w)
 have H : (if a1_0 < 0 then (monoid_fits.j0 k true l0 a1_0 l1_1 l1_2) else (if a1_0 > 16 then (monoid_fits.j0 k true l0 a1_0 l1_1 l1_2) else (monoid_fits.j0 k (decide ((l1_1.length : Int) > 200000)) l0 a1_0 l1_1 l1_2))) = some r := h
 clear h
 have HC3 := Aside0.mk H
 clear H
 go_enter Try.func48, Try.ntmps48
 go_upto_region 2 with (first | ((with_reducible refine gate_dst (N := 2) rfl ?_); (try (refine gate_guard (by rfl) ?_; dsimp only)); refine box_event ?hg (N := 2) ?hd (cs := #[.slice A0 l0.length c0]) (t := 23) ?hr ?_; (case hd => rfl); (case hg => rfl); (case hr => first | (go_simp; done) | (go_simp; rfl)); intro gb173 hg w4 hbox hb; have n0_ := Aside0.mk (below_step (by repeat (first | (with_reducible first | exact HB.out | apply below_alloc | apply pw_below_drewN | apply below_drew1) | exact HB.out)) hb); have n1_ := Aside0.mk (hbox); have n2_ := Aside0.mk ((by rw [hg]; exact (below_size (by repeat (first | (with_reducible first | exact HB.out | apply below_alloc | apply pw_below_drewN | apply below_drew1) | exact HB.out))) : w.heap.size ≤ gb173)); have n3_ := Aside0.mk ((by rw [hg]; exact (below_size (by repeat (first | (with_reducible first | exact HB.out | apply below_alloc | apply pw_below_drewN | apply below_drew1) | exact HB.out))) : w.heap.size ≤ gb173)); clear HB; have HB := n0_; have BK173 := n1_; have GW173 := n2_; have GE173 := n3_; clear n0_ n1_ n2_ n3_; clear hb hbox hg) | ((with_reducible refine gate_dst (N := 3) rfl ?_); (try (refine gate_guard (by rfl) ?_; dsimp only)); refine box_event ?hg (N := 3) ?hd (cs := #[.int .i64 a1_0, .slice A1_1 l1_1.length c1_1, .slice A1_2 l1_2.length c1_2]) (t := 34) ?hr ?_; (case hd => rfl); (case hg => rfl); (case hr => first | (go_simp; done) | (go_simp; rfl)); intro gb174 hg w5 hbox hb; have n0_ := Aside0.mk (blk_below (g := gb173) (o := .cells #[.slice A0 l0.length c0] 23 (0, 0)) (by repeat (first | (with_reducible first | exact BK173.out | refine blk_drewN ?_ _ | refine blk_drew ?_ | refine blk_alloc ?_ _) | exact BK173.out)) hb); have n1_ := Aside0.mk (below_step (by repeat (first | (with_reducible first | exact HB.out | apply below_alloc | apply pw_below_drewN | apply below_drew1 | refine below_set ?_ GE173.out) | exact HB.out)) hb); have n2_ := Aside0.mk (hbox); have n3_ := Aside0.mk ((by rw [hg]; exact (below_size (by repeat (first | (with_reducible first | exact HB.out | apply below_alloc | apply pw_below_drewN | apply below_drew1 | refine below_set ?_ GE173.out) | exact HB.out))) : w.heap.size ≤ gb174)); have n4_ := Aside0.mk ((by rw [hg]; exact (below_size (by repeat (first | (with_reducible first | exact HB.out | apply below_alloc | apply pw_below_drewN | apply below_drew1 | refine below_set ?_ GE173.out) | exact HB.out))) : w.heap.size ≤ gb174)); have n5_ := Aside0.mk ((by rw [hg]; exact Nat.ne_of_lt (blk_lt (g := gb173) (o := .cells #[.slice A0 l0.length c0] 23 (0, 0)) (by repeat (first | (with_reducible first | exact BK173.out | refine blk_drewN ?_ _ | refine blk_drew ?_ | refine blk_alloc ?_ _) | exact BK173.out))) : gb173 ≠ gb174)); have n6_ := Aside0.mk ((by rw [hg]; exact Nat.ne_of_gt (blk_lt (g := gb173) (o := .cells #[.slice A0 l0.length c0] 23 (0, 0)) (by repeat (first | (with_reducible first | exact BK173.out | refine blk_drewN ?_ _ | refine blk_drew ?_ | refine blk_alloc ?_ _) | exact BK173.out))) : gb174 ≠ gb173)); clear BK173; clear HB; have BK173 := n0_; have HB := n1_; have BK174 := n2_; have GW174 := n3_; have GE174 := n4_; have NB173_174 := n5_; have NB174_173 := n6_; clear n0_ n1_ n2_ n3_ n4_ n5_ n6_; clear hb hbox hg) | ((with_reducible refine gate_dst (N := 5) rfl ?_); (try (refine gate_guard (by rfl) ?_; dsimp only)); refine box_event ?hg (N := 5) ?hd (cs := #[.nilFunc]) (t := 68) ?hr ?_; (case hd => rfl); (case hg => rfl); (case hr => first | (go_simp; done) | (go_simp; rfl)); intro gb175 hg w6 hbox hb; have n0_ := Aside0.mk (blk_below (g := gb173) (o := .cells #[.slice A0 l0.length c0] 23 (0, 0)) (by repeat (first | (with_reducible first | exact BK173.out | refine blk_drewN ?_ _ | refine blk_drew ?_ | refine blk_alloc ?_ _) | exact BK173.out)) hb); have n1_ := Aside0.mk (blk_below (g := gb174) (o := .cells #[.int .i64 a1_0, .slice A1_1 l1_1.length c1_1, .slice A1_2 l1_2.length c1_2] 34 (0, 0)) (by repeat (first | (with_reducible first | exact BK174.out | refine blk_drewN ?_ _ | refine blk_drew ?_ | refine blk_alloc ?_ _) | exact BK174.out)) hb); have n2_ := Aside0.mk (below_step (by repeat (first | (with_reducible first | exact HB.out | apply below_alloc | apply pw_below_drewN | apply below_drew1 | refine below_set ?_ GE173.out | refine below_set ?_ GE174.out) | exact HB.out)) hb); have n3_ := Aside0.mk (hbox); have n4_ := Aside0.mk ((by rw [hg]; exact (below_size (by repeat (first | (with_reducible first | exact HB.out | apply below_alloc | apply pw_below_drewN | apply below_drew1 | refine below_set ?_ GE173.out | refine below_set ?_ GE174.out) | exact HB.out))) : w.heap.size ≤ gb175)); have n5_ := Aside0.mk ((by rw [hg]; exact (below_size (by repeat (first | (with_reducible first | exact HB.out | apply below_alloc | apply pw_below_drewN | apply below_drew1 | refine below_set ?_ GE173.out | refine below_set ?_ GE174.out) | exact HB.out))) : w.heap.size ≤ gb175)); have n6_ := Aside0.mk ((by rw [hg]; exact Nat.ne_of_lt (blk_lt (g := gb173) (o := .cells #[.slice A0 l0.length c0] 23 (0, 0)) (by repeat (first | (with_reducible first | exact BK173.out | refine blk_drewN ?_ _ | refine blk_drew ?_ | refine blk_alloc ?_ _) | exact BK173.out))) : gb173 ≠ gb175)); have n7_ := Aside0.mk ((by rw [hg]; exact Nat.ne_of_gt (blk_lt (g := gb173) (o := .cells #[.slice A0 l0.length c0] 23 (0, 0)) (by repeat (first | (with_reducible first | exact BK173.out | refine blk_drewN ?_ _ | refine blk_drew ?_ | refine blk_alloc ?_ _) | exact BK173.out))) : gb175 ≠ gb173)); have n8_ := Aside0.mk ((by rw [hg]; exact Nat.ne_of_lt (blk_lt (g := gb174) (o := .cells #[.int .i64 a1_0, .slice A1_1 l1_1.length c1_1, .slice A1_2 l1_2.length c1_2] 34 (0, 0)) (by repeat (first | (with_reducible first | exact BK174.out | refine blk_drewN ?_ _ | refine blk_drew ?_ | refine blk_alloc ?_ _) | exact BK174.out))) : gb174 ≠ gb175)); have n9_ := Aside0.mk ((by rw [hg]; exact Nat.ne_of_gt (blk_lt (g := gb174) (o := .cells #[.int .i64 a1_0, .slice A1_1 l1_1.length c1_1, .slice A1_2 l1_2.length c1_2] 34 (0, 0)) (by repeat (first | (with_reducible first | exact BK174.out | refine blk_drewN ?_ _ | refine blk_drew ?_ | refine blk_alloc ?_ _) | exact BK174.out))) : gb175 ≠ gb174)); clear BK173; clear BK174; clear HB; have BK173 := n0_; have BK174 := n1_; have HB := n2_; have BK175 := n3_; have GW175 := n4_; have GE175 := n5_; have NB173_175 := n6_; have NB175_173 := n7_; have NB174_175 := n8_; have NB175_174 := n9_; clear n0_ n1_ n2_ n3_ n4_ n5_ n6_ n7_ n8_ n9_; clear hb hbox hg; have hnb7 := NB175_173.out; have hnc7 := NB173_175.out; have hnb8 := NB175_174.out; have hnc8 := NB174_175.out; have hcz9_0 : w6.cell? ⟨gb175, 0, none⟩ = some (.nilFunc) := (blk_cell BK175.out 0).trans rfl; have hfz9_0 := blk_frozen BK175.out 0))
 (try simp only [Act.put, List.setIfInBounds_toArray, List.set_cons_zero, List.set_cons_succ])
 go_cut [22] (fun v22 wc => ∃ (kq : Nat) (x22_2 : Bool), v22 = .bool x22_2 ∧ Aside0 (monoid_fits.j0 kq x22_2 l0 a1_0 l1_1 l1_2 = some r) ∧ Aside0 (kq ≤ k) ∧ Aside0 (wc.heap[gb173]? = some (.cells #[(.slice A0 l0.length c0)] 23 (0, 0))) ∧ Aside0 (wc.heap[gb174]? = some (.cells #[.int .i64 a1_0, (.slice A1_1 l1_1.length c1_1), (.slice A1_2 l1_2.length c1_2)] 34 (0, 0))) ∧ Aside0 (wc.heap[gb175]? = some (.cells #[(.func (.func 60) #[] #[.pointer (some ⟨gb173, 0, none⟩)])] 68 (0, 0))) ∧ Aside0 (Below w.heap.size w wc))
 case first =>
  have H := HC3.out
  clear HC3
  by_cases c10 : a1_0 < 0
  ·rw [if_pos c10] at H
   have c10b0 : decide (a1_0 < 0) = true := decide_eq_true c10
   clear c10
   (first | rw [c10b0] | (simp only [i64_w, i32_w]; rw [c10b0]) | skip)
   have H' := Aside0.mk H
   clear H
   have hnb11 := NB174_173.out
   have hnc11 := NB173_174.out
   have hnb12 := NB174_175.out
   have hnc12 := NB175_174.out
   have hcz13_0 : w6.cell? ⟨gb174, 0, none⟩ = some (.int .i64 a1_0) := (blk_cell BK174.out 0).trans rfl
   have hcz13_1 : w6.cell? ⟨gb174, 1, none⟩ = some (.slice A1_1 l1_1.length c1_1) := (blk_cell BK174.out 1).trans rfl
   have hcz13_2 : w6.cell? ⟨gb174, 2, none⟩ = some (.slice A1_2 l1_2.length c1_2) := (blk_cell BK174.out 2).trans rfl
   have hfz13_0 := blk_frozen BK174.out 0
   have hfz13_1 := blk_frozen BK174.out 1
   have hfz13_2 := blk_frozen BK174.out 2
   go_wp2
   go_meet
   case rel => exact ⟨_, (true), (by first | rfl | (simp; done) | (simp [*]; done)), H', ⟨by first | omega | exact Nat.le_refl _⟩, ⟨by (with_reducible repeat (first | refine blk_drewN ?_ _ | refine blk_drew ?_ | refine blk_alloc ?_ _)); refine blk_far ?_ NB173_175.out _; repeat (first | (with_reducible first | exact BK173.out | refine blk_drewN ?_ _ | refine blk_drew ?_ | refine blk_alloc ?_ _) | exact BK173.out)⟩, ⟨by (with_reducible repeat (first | refine blk_drewN ?_ _ | refine blk_drew ?_ | refine blk_alloc ?_ _)); refine blk_far ?_ NB174_175.out _; repeat (first | (with_reducible first | exact BK174.out | refine blk_drewN ?_ _ | refine blk_drew ?_ | refine blk_alloc ?_ _) | exact BK174.out)⟩, ⟨by (with_reducible repeat (first | refine blk_drewN ?_ _ | refine blk_drew ?_ | refine blk_alloc ?_ _)); refine blk_put (cs := #[.nilFunc]) ?_ 0 _ rfl; repeat (first | (with_reducible first | exact BK175.out | refine blk_drewN ?_ _ | refine blk_drew ?_ | refine blk_alloc ?_ _) | exact BK175.out)⟩, ⟨by repeat (first | (with_reducible first | exact HB.out | apply below_alloc | apply pw_below_drewN | apply below_drew1 | refine below_set ?_ GE173.out | refine below_set ?_ GE174.out | refine below_set ?_ GE175.out) | exact HB.out)⟩⟩
  ·rw [if_neg c10] at H
   have c10b0 : decide (a1_0 < 0) = false := decide_eq_false c10
   clear c10
   (first | rw [c10b0] | (simp only [i64_w, i32_w]; rw [c10b0]) | skip)
   by_cases c14 : a1_0 > 16
   ·rw [if_pos c14] at H
    have c14b0 : decide (16 < a1_0) = true := decide_eq_true c14
    clear c14
    have H' := Aside0.mk H
    clear H
    have hnb15 := NB174_173.out
    have hnc15 := NB173_174.out
    have hnb16 := NB174_175.out
    have hnc16 := NB175_174.out
    have hcz17_0 : w6.cell? ⟨gb174, 0, none⟩ = some (.int .i64 a1_0) := (blk_cell BK174.out 0).trans rfl
    have hcz17_1 : w6.cell? ⟨gb174, 1, none⟩ = some (.slice A1_1 l1_1.length c1_1) := (blk_cell BK174.out 1).trans rfl
    have hcz17_2 : w6.cell? ⟨gb174, 2, none⟩ = some (.slice A1_2 l1_2.length c1_2) := (blk_cell BK174.out 2).trans rfl
    have hfz17_0 := blk_frozen BK174.out 0
    have hfz17_1 := blk_frozen BK174.out 1
    have hfz17_2 := blk_frozen BK174.out 2
    go_wp2
    go_meet
    case rel => exact ⟨_, (true), (by first | rfl | (simp; done) | (simp [*]; done)), H', ⟨by first | omega | exact Nat.le_refl _⟩, ⟨by (with_reducible repeat (first | refine blk_drewN ?_ _ | refine blk_drew ?_ | refine blk_alloc ?_ _)); refine blk_far ?_ NB173_175.out _; repeat (first | (with_reducible first | exact BK173.out | refine blk_drewN ?_ _ | refine blk_drew ?_ | refine blk_alloc ?_ _) | exact BK173.out)⟩, ⟨by (with_reducible repeat (first | refine blk_drewN ?_ _ | refine blk_drew ?_ | refine blk_alloc ?_ _)); refine blk_far ?_ NB174_175.out _; repeat (first | (with_reducible first | exact BK174.out | refine blk_drewN ?_ _ | refine blk_drew ?_ | refine blk_alloc ?_ _) | exact BK174.out)⟩, ⟨by (with_reducible repeat (first | refine blk_drewN ?_ _ | refine blk_drew ?_ | refine blk_alloc ?_ _)); refine blk_put (cs := #[.nilFunc]) ?_ 0 _ rfl; repeat (first | (with_reducible first | exact BK175.out | refine blk_drewN ?_ _ | refine blk_drew ?_ | refine blk_alloc ?_ _) | exact BK175.out)⟩, ⟨by repeat (first | (with_reducible first | exact HB.out | apply below_alloc | apply pw_below_drewN | apply below_drew1 | refine below_set ?_ GE173.out | refine below_set ?_ GE174.out | refine below_set ?_ GE175.out) | exact HB.out)⟩⟩
   ·rw [if_neg c14] at H
    have c14b0 : decide (16 < a1_0) = false := decide_eq_false c14
    clear c14
    have H' := Aside0.mk H
    clear H
    have hnb18 := NB174_173.out
    have hnc18 := NB173_174.out
    have hnb19 := NB174_175.out
    have hnc19 := NB175_174.out
    have hcz20_0 : w6.cell? ⟨gb174, 0, none⟩ = some (.int .i64 a1_0) := (blk_cell BK174.out 0).trans rfl
    have hcz20_1 : w6.cell? ⟨gb174, 1, none⟩ = some (.slice A1_1 l1_1.length c1_1) := (blk_cell BK174.out 1).trans rfl
    have hcz20_2 : w6.cell? ⟨gb174, 2, none⟩ = some (.slice A1_2 l1_2.length c1_2) := (blk_cell BK174.out 2).trans rfl
    have hfz20_0 := blk_frozen BK174.out 0
    have hfz20_1 := blk_frozen BK174.out 1
    have hfz20_2 := blk_frozen BK174.out 2
    go_wp2
    go_meet
    case rel => exact ⟨_, (decide ((l1_1.length : Int) > 200000)), (by first | rfl | (simp; done) | (simp [*]; done)), H', ⟨by first | omega | exact Nat.le_refl _⟩, ⟨by (with_reducible repeat (first | refine blk_drewN ?_ _ | refine blk_drew ?_ | refine blk_alloc ?_ _)); refine blk_far ?_ NB173_175.out _; repeat (first | (with_reducible first | exact BK173.out | refine blk_drewN ?_ _ | refine blk_drew ?_ | refine blk_alloc ?_ _) | exact BK173.out)⟩, ⟨by (with_reducible repeat (first | refine blk_drewN ?_ _ | refine blk_drew ?_ | refine blk_alloc ?_ _)); refine blk_far ?_ NB174_175.out _; repeat (first | (with_reducible first | exact BK174.out | refine blk_drewN ?_ _ | refine blk_drew ?_ | refine blk_alloc ?_ _) | exact BK174.out)⟩, ⟨by (with_reducible repeat (first | refine blk_drewN ?_ _ | refine blk_drew ?_ | refine blk_alloc ?_ _)); refine blk_put (cs := #[.nilFunc]) ?_ 0 _ rfl; repeat (first | (with_reducible first | exact BK175.out | refine blk_drewN ?_ _ | refine blk_drew ?_ | refine blk_alloc ?_ _) | exact BK175.out)⟩, ⟨by repeat (first | (with_reducible first | exact HB.out | apply below_alloc | apply pw_below_drewN | apply below_drew1 | refine below_set ?_ GE173.out | refine below_set ?_ GE174.out | refine below_set ?_ GE175.out) | exact HB.out)⟩⟩
 case rest =>
  clear HC3
  (try clear c1); (try clear p2); (try clear c4); (try clear c7); (try clear c8); (try clear c10); (try clear c10b0); (try clear c11); (try clear c12); (try clear c14); (try clear c14b0); (try clear c15); (try clear c16); (try clear c18); (try clear c19); (try clear hcz13_0); (try clear hcz13_1); (try clear hcz13_2); (try clear hcz17_0); (try clear hcz17_1); (try clear hcz17_2); (try clear hcz20_0); (try clear hcz20_1); (try clear hcz20_2); (try clear hcz9_0); (try clear hfz13_0); (try clear hfz13_1); (try clear hfz13_2); (try clear hfz17_0); (try clear hfz17_1); (try clear hfz17_2); (try clear hfz20_0); (try clear hfz20_1); (try clear hfz20_2); (try clear hfz9_0)
  obtain ⟨kq, x22_2, rfl, HA, HJ2, BK173, BK174, BK175, HB⟩ := hcut
  cases kq with
  | zero => exact absurd HA.out (by simp [monoid_fits.j0])
  | succ kj2 =>
   have H := HA.out
   clear HA
   simp only [monoid_fits.j0] at H
   by_cases c21 : x22_2 = true
   ·subst c21
    have H1 : (some false) = some r := by rw [if_pos rfl] at H; exact H
    clear H
    have H := H1
    clear H1
    obtain rfl := Option.some.inj H
    go_wp2
    go_ret
    exact ⟨by first | rfl | (simp [errW_none, errW_some] <;> rfl) | (simp [*, errW_none, errW_some] <;> rfl), by repeat (first | (with_reducible first | exact HB.out | apply below_alloc | apply pw_below_drewN | apply below_drew1 | refine below_set ?_ GE173.out | refine below_set ?_ GE174.out | refine below_set ?_ GE175.out) | exact HB.out)⟩
   ·replace c21 := Bool.eq_false_iff.mpr c21
    subst c21
    have H1 : (monoid_fits.l0 kj2 l1_2 (l1_2.length : Int) 0 l0 a1_0 l1_1 l1_2) = some r := by rw [if_neg (show ¬ (false = true) by decide)] at H; exact H
    clear H
    have H := H1
    clear H1
    have H' := Aside0.mk H
    clear H
    have hnb22 := NB174_173.out
    have hnc22 := NB173_174.out
    have hnb23 := NB174_175.out
    have hnc23 := NB175_174.out
    have hcz24_0 : wc.cell? ⟨gb174, 0, none⟩ = some (.int .i64 a1_0) := (blk_cell BK174.out 0).trans rfl
    have hcz24_1 : wc.cell? ⟨gb174, 1, none⟩ = some (.slice A1_1 l1_1.length c1_1) := (blk_cell BK174.out 1).trans rfl
    have hcz24_2 : wc.cell? ⟨gb174, 2, none⟩ = some (.slice A1_2 l1_2.length c1_2) := (blk_cell BK174.out 2).trans rfl
    have hfz24_0 := blk_frozen BK174.out 0
    have hfz24_1 := blk_frozen BK174.out 1
    have hfz24_2 := blk_frozen BK174.out 2
    go_wp2
    go_loopg [26] kj2 (fun kq v26 w' => ∃ (x26_2 : Int), v26 = .int .i64 x26_2 ∧ Aside0 (monoid_fits.l0 kq l1_2 (l1_2.length : Int) x26_2 l0 a1_0 l1_1 l1_2 = some r) ∧ Aside0 (kq ≤ kj2) ∧ Aside0 (w'.heap[gb173]? = some (.cells #[(.slice A0 l0.length c0)] 23 (0, 0))) ∧ Aside0 (w'.heap[gb174]? = some (.cells #[.int .i64 a1_0, (.slice A1_1 l1_1.length c1_1), (.slice A1_2 l1_2.length c1_2)] 34 (0, 0))) ∧ Aside0 (w'.heap[gb175]? = some (.cells #[(.func (.func 60) #[] #[.pointer (some ⟨gb173, 0, none⟩)])] 68 (0, 0))) ∧ Aside0 (Below w.heap.size w w'))
    case atStart => exact ⟨(0), (by first | rfl | (simp; done) | (simp [*]; done)), H', ⟨Nat.le_refl _⟩, ⟨by repeat (first | (with_reducible first | exact BK173.out | refine blk_drewN ?_ _ | refine blk_drew ?_ | refine blk_alloc ?_ _) | exact BK173.out)⟩, ⟨by repeat (first | (with_reducible first | exact BK174.out | refine blk_drewN ?_ _ | refine blk_drew ?_ | refine blk_alloc ?_ _) | exact BK174.out)⟩, ⟨by repeat (first | (with_reducible first | exact BK175.out | refine blk_drewN ?_ _ | refine blk_drew ?_ | refine blk_alloc ?_ _) | exact BK175.out)⟩, ⟨by repeat (first | (with_reducible first | exact HB.out | apply below_alloc | apply pw_below_drewN | apply below_drew1 | refine below_set ?_ GE173.out | refine below_set ?_ GE174.out | refine below_set ?_ GE175.out) | exact HB.out)⟩⟩
    case round =>
     clear H'
     (try clear c1); (try clear c2); (try clear p2); (try clear c4); (try clear c7); (try clear c8); (try clear c10); (try clear c10b0); (try clear c11); (try clear c12); (try clear c14); (try clear c14b0); (try clear c15); (try clear c16); (try clear c18); (try clear c19); (try clear c21); (try clear c22); (try clear c23); (try clear hcz13_0); (try clear hcz13_1); (try clear hcz13_2); (try clear hcz17_0); (try clear hcz17_1); (try clear hcz17_2); (try clear hcz20_0); (try clear hcz20_1); (try clear hcz20_2); (try clear hcz24_0); (try clear hcz24_1); (try clear hcz24_2); (try clear hcz9_0); (try clear hfz13_0); (try clear hfz13_1); (try clear hfz13_2); (try clear hfz17_0); (try clear hfz17_1); (try clear hfz17_2); (try clear hfz20_0); (try clear hfz20_1); (try clear hfz20_2); (try clear hfz24_0); (try clear hfz24_1); (try clear hfz24_2); (try clear hfz9_0); (try clear p2)
     obtain ⟨x26_2, rfl, HA, HK2, BK173, BK174, BK175, HB⟩ := hrel
     cases gk with
     | zero => exact absurd HA.out (by simp [monoid_fits.l0])
     | succ k2 =>
      have H := HA.out
      clear HA
      simp only [monoid_fits.l0] at H
      by_cases c25 : x26_2 < (l1_2.length : Int)
      ·rw [if_pos c25] at H
       have c25b0 : decide (x26_2 < (l1_2.length : Int)) = true := decide_eq_true c25
       clear c25
       by_cases c26 : 0 ≤ x26_2
       ·rw [if_pos c26] at H
        have c26b0 : decide (0 ≤ x26_2) = true := decide_eq_true c26
        clear c26
        by_cases c27 : x26_2 < (l1_2.length : Int)
        ·rw [if_pos c27] at H
         have c27b0 : decide (x26_2 < (l1_2.length : Int)) = true := decide_eq_true c27
         clear c27
         replace H := Option.bind_eq_some_iff.mp H
         obtain ⟨t178, A280, H⟩ := H
         replace H : (if t178 = true then (if x26_2 > 0 then (if 0 ≤ (wrap64 (x26_2 - 1)) then (if (wrap64 (x26_2 - 1)) < (l1_2.length : Int) then (if (rd l1_2 x26_2) ≤ (rd l1_2 (wrap64 (x26_2 - 1))) then (some false) else (monoid_fits.l0 k2 l1_2 (l1_2.length : Int) (wrap64 (x26_2 + 1)) l0 a1_0 l1_1 l1_2)) else (none)) else (none)) else (monoid_fits.l0 k2 l1_2 (l1_2.length : Int) (wrap64 (x26_2 + 1)) l0 a1_0 l1_1 l1_2)) else (some false)) = some r := H
         have A28 := Aside0.mk A280
         clear A280
         by_cases c29 : t178 = true
         ·subst c29
          have H1 : (if x26_2 > 0 then (if 0 ≤ (wrap64 (x26_2 - 1)) then (if (wrap64 (x26_2 - 1)) < (l1_2.length : Int) then (if (rd l1_2 x26_2) ≤ (rd l1_2 (wrap64 (x26_2 - 1))) then (some false) else (monoid_fits.l0 k2 l1_2 (l1_2.length : Int) (wrap64 (x26_2 + 1)) l0 a1_0 l1_1 l1_2)) else (none)) else (none)) else (monoid_fits.l0 k2 l1_2 (l1_2.length : Int) (wrap64 (x26_2 + 1)) l0 a1_0 l1_1 l1_2)) = some r := by rw [if_pos rfl] at H; exact H
          clear H
          have H := H1
          clear H1
          by_cases c30 : x26_2 > 0
          ·rw [if_pos c30] at H
           have c30b0 : decide (0 < x26_2) = true := decide_eq_true c30
           clear c30
           obtain ⟨ji31, hji31⟩ : ∃ j_ : Int, (wrap64 (x26_2 - 1)) = j_ := ⟨_, rfl⟩
           replace H : (if 0 ≤ (ji31) then (if (ji31) < (l1_2.length : Int) then (if (rd l1_2 x26_2) ≤ (rd l1_2 (ji31)) then (some false) else (monoid_fits.l0 k2 l1_2 (l1_2.length : Int) (wrap64 (x26_2 + 1)) l0 a1_0 l1_1 l1_2)) else (none)) else (none)) = some r := by first | (rw [hji31] at H; exact H) | (simp only [hji31] at H ⊢; exact H)
           (try rw [hji31] at A28)
           have hji31w : (IntKind.i64.wrap (x26_2 - 1)) = ji31 := (i64_w _).trans hji31
           by_cases c32 : 0 ≤ (ji31)
           ·rw [if_pos c32] at H
            have c32b0 : decide (0 ≤ (ji31)) = true := decide_eq_true c32
            clear c32
            by_cases c33 : (ji31) < (l1_2.length : Int)
            ·rw [if_pos c33] at H
             have c33b0 : decide ((ji31) < (l1_2.length : Int)) = true := decide_eq_true c33
             clear c33
             by_cases c34 : (rd l1_2 x26_2) ≤ (rd l1_2 (ji31))
             ·rw [if_pos c34] at H
              have c34b0 : decide ((rd l1_2 x26_2) ≤ (rd l1_2 (ji31))) = true := decide_eq_true c34
              clear c34
              obtain rfl := Option.some.inj H
              have p177 : 0 ≤ (x26_2 : Int) := odt
              have q177 : x26_2 < (l1_2.length : Int) := odt
              obtain ⟨ad177, e177, hx177_0⟩ := Kd.at_int HR1_2.out x26_2 p177 q177
              cases e177
              replace hx177_0 := (HB.out.cell (World.block_lt_of_cell? w _ hx177_0)).trans hx177_0
              replace p177 := eq_true p177
              replace q177 := eq_true q177
              have hnb35 := NB175_173.out
              have hnc35 := NB173_175.out
              have hnb36 := NB175_174.out
              have hnc36 := NB174_175.out
              have hcz37_0 : wr.cell? ⟨gb175, 0, none⟩ = some (.func (.func 60) #[] #[.pointer (some ⟨gb173, 0, none⟩)]) := (blk_cell BK175.out 0).trans rfl
              have hfz37_0 := blk_frozen BK175.out 0
              go_wp2_with (first | (go_at_call 60; (with_reducible refine (monoid_fits_1.calls (rd l1_2 x26_2) gb173 ?cA1_0_0 ?cC1_0_0 l0 true _ ?side1 ?side2 ?side3 A28.out).mono ?_); (case side1 => repeat (first | (with_reducible first | exact BK173.out | refine blk_drewN ?_ _ | refine blk_drew ?_ | refine blk_alloc ?_ _) | exact BK173.out)); (case side2 => repeat (first | exact (Kd.C_below HR0.out HB.out) | (with_reducible first | refine Kd.C_alloc ?_ _ | refine Kd.C_drewN ?_ _ | refine Kd.C_drew ?_))); (case side3 => exact HC0.out); rintro e w' ⟨rfl, ⟨nd, rfl⟩⟩; have hnb38 := NB174_173.out; have hnc38 := NB173_174.out; have hcz39_0 : wr.cell? ⟨gb174, 0, none⟩ = some (.int .i64 a1_0) := (blk_cell BK174.out 0).trans rfl; have hcz39_1 : wr.cell? ⟨gb174, 1, none⟩ = some (.slice A1_1 l1_1.length c1_1) := (blk_cell BK174.out 1).trans rfl; have hcz39_2 : wr.cell? ⟨gb174, 2, none⟩ = some (.slice (some ad177) l1_2.length c1_2) := (blk_cell BK174.out 2).trans rfl; have hfz39_0 := blk_frozen BK174.out 0; have hfz39_1 := blk_frozen BK174.out 1; have hfz39_2 := blk_frozen BK174.out 2; have p179 : 0 ≤ ((ji31) : Int) := odt; have q179 : (ji31) < (l1_2.length : Int) := odt; obtain ⟨ad179, e179, hx179_0⟩ := Kd.at_int HR1_2.out (ji31) p179 q179; obtain rfl : ad177 = ad179 := (by injection e179); replace hx179_0 := (HB.out.cell (World.block_lt_of_cell? w _ hx179_0)).trans hx179_0; replace p179 := eq_true p179; replace q179 := eq_true q179))
              go_ret
              exact ⟨by first | rfl | (simp [errW_none, errW_some] <;> rfl) | (simp only [← hji31]; first | rfl | (simp [errW_none, errW_some] <;> rfl)) | (simp [*, errW_none, errW_some] <;> rfl), by repeat (first | (with_reducible first | exact HB.out | apply below_alloc | apply pw_below_drewN | apply below_drew1 | refine below_set ?_ GE173.out | refine below_set ?_ GE174.out | refine below_set ?_ GE175.out) | exact HB.out)⟩
             ·rw [if_neg c34] at H
              have c34b0 : decide ((rd l1_2 x26_2) ≤ (rd l1_2 (ji31))) = false := decide_eq_false c34
              clear c34
              have H' := Aside0.mk H
              clear H
              have p177 : 0 ≤ (x26_2 : Int) := odt
              have q177 : x26_2 < (l1_2.length : Int) := odt
              obtain ⟨ad177, e177, hx177_0⟩ := Kd.at_int HR1_2.out x26_2 p177 q177
              cases e177
              replace hx177_0 := (HB.out.cell (World.block_lt_of_cell? w _ hx177_0)).trans hx177_0
              replace p177 := eq_true p177
              replace q177 := eq_true q177
              have hnb40 := NB175_173.out
              have hnc40 := NB173_175.out
              have hnb41 := NB175_174.out
              have hnc41 := NB174_175.out
              have hcz42_0 : wr.cell? ⟨gb175, 0, none⟩ = some (.func (.func 60) #[] #[.pointer (some ⟨gb173, 0, none⟩)]) := (blk_cell BK175.out 0).trans rfl
              have hfz42_0 := blk_frozen BK175.out 0
              go_wp2_with (first | (go_at_call 60; (with_reducible refine (monoid_fits_1.calls (rd l1_2 x26_2) gb173 ?cA1_0_0 ?cC1_0_0 l0 true _ ?side1 ?side2 ?side3 A28.out).mono ?_); (case side1 => repeat (first | (with_reducible first | exact BK173.out | refine blk_drewN ?_ _ | refine blk_drew ?_ | refine blk_alloc ?_ _) | exact BK173.out)); (case side2 => repeat (first | exact (Kd.C_below HR0.out HB.out) | (with_reducible first | refine Kd.C_alloc ?_ _ | refine Kd.C_drewN ?_ _ | refine Kd.C_drew ?_))); (case side3 => exact HC0.out); rintro e w' ⟨rfl, ⟨nd, rfl⟩⟩; have hnb43 := NB174_173.out; have hnc43 := NB173_174.out; have hcz44_0 : wr.cell? ⟨gb174, 0, none⟩ = some (.int .i64 a1_0) := (blk_cell BK174.out 0).trans rfl; have hcz44_1 : wr.cell? ⟨gb174, 1, none⟩ = some (.slice A1_1 l1_1.length c1_1) := (blk_cell BK174.out 1).trans rfl; have hcz44_2 : wr.cell? ⟨gb174, 2, none⟩ = some (.slice (some ad177) l1_2.length c1_2) := (blk_cell BK174.out 2).trans rfl; have hfz44_0 := blk_frozen BK174.out 0; have hfz44_1 := blk_frozen BK174.out 1; have hfz44_2 := blk_frozen BK174.out 2; have p179 : 0 ≤ ((ji31) : Int) := odt; have q179 : (ji31) < (l1_2.length : Int) := odt; obtain ⟨ad179, e179, hx179_0⟩ := Kd.at_int HR1_2.out (ji31) p179 q179; obtain rfl : ad177 = ad179 := (by injection e179); replace hx179_0 := (HB.out.cell (World.block_lt_of_cell? w _ hx179_0)).trans hx179_0; replace p179 := eq_true p179; replace q179 := eq_true q179))
              go_roundg k2
              case measure => have := HJ2.out; have := HK2.out; omega
              case rel => exact ⟨(wrap64 (x26_2 + 1)), (by first | rfl | (simp; done) | (simp [*]; done)), H', ⟨by have := HJ2.out; have := HK2.out; omega⟩, ⟨by repeat (first | (with_reducible first | exact BK173.out | refine blk_drewN ?_ _ | refine blk_drew ?_ | refine blk_alloc ?_ _) | exact BK173.out)⟩, ⟨by repeat (first | (with_reducible first | exact BK174.out | refine blk_drewN ?_ _ | refine blk_drew ?_ | refine blk_alloc ?_ _) | exact BK174.out)⟩, ⟨by repeat (first | (with_reducible first | exact BK175.out | refine blk_drewN ?_ _ | refine blk_drew ?_ | refine blk_alloc ?_ _) | exact BK175.out)⟩, ⟨by repeat (first | (with_reducible first | exact HB.out | apply below_alloc | apply pw_below_drewN | apply below_drew1 | refine below_set ?_ GE173.out | refine below_set ?_ GE174.out | refine below_set ?_ GE175.out) | exact HB.out)⟩⟩
            ·rw [if_neg c33] at H
             exact absurd H (by simp)
           ·rw [if_neg c32] at H
            exact absurd H (by simp)
          ·rw [if_neg c30] at H
           have c30b0 : decide (0 < x26_2) = false := decide_eq_false c30
           clear c30
           have H' := Aside0.mk H
           clear H
           have p177 : 0 ≤ (x26_2 : Int) := odt
           have q177 : x26_2 < (l1_2.length : Int) := odt
           obtain ⟨ad177, e177, hx177_0⟩ := Kd.at_int HR1_2.out x26_2 p177 q177
           cases e177
           replace hx177_0 := (HB.out.cell (World.block_lt_of_cell? w _ hx177_0)).trans hx177_0
           replace p177 := eq_true p177
           replace q177 := eq_true q177
           have hnb45 := NB175_173.out
           have hnc45 := NB173_175.out
           have hnb46 := NB175_174.out
           have hnc46 := NB174_175.out
           have hcz47_0 : wr.cell? ⟨gb175, 0, none⟩ = some (.func (.func 60) #[] #[.pointer (some ⟨gb173, 0, none⟩)]) := (blk_cell BK175.out 0).trans rfl
           have hfz47_0 := blk_frozen BK175.out 0
           go_wp2_with (first | (go_at_call 60; (with_reducible refine (monoid_fits_1.calls (rd l1_2 x26_2) gb173 ?cA1_0_0 ?cC1_0_0 l0 true _ ?side1 ?side2 ?side3 A28.out).mono ?_); (case side1 => repeat (first | (with_reducible first | exact BK173.out | refine blk_drewN ?_ _ | refine blk_drew ?_ | refine blk_alloc ?_ _) | exact BK173.out)); (case side2 => repeat (first | exact (Kd.C_below HR0.out HB.out) | (with_reducible first | refine Kd.C_alloc ?_ _ | refine Kd.C_drewN ?_ _ | refine Kd.C_drew ?_))); (case side3 => exact HC0.out); rintro e w' ⟨rfl, ⟨nd, rfl⟩⟩))
           go_roundg k2
           case measure => have := HJ2.out; have := HK2.out; omega
           case rel => exact ⟨(wrap64 (x26_2 + 1)), (by first | rfl | (simp; done) | (simp [*]; done)), H', ⟨by have := HJ2.out; have := HK2.out; omega⟩, ⟨by repeat (first | (with_reducible first | exact BK173.out | refine blk_drewN ?_ _ | refine blk_drew ?_ | refine blk_alloc ?_ _) | exact BK173.out)⟩, ⟨by repeat (first | (with_reducible first | exact BK174.out | refine blk_drewN ?_ _ | refine blk_drew ?_ | refine blk_alloc ?_ _) | exact BK174.out)⟩, ⟨by repeat (first | (with_reducible first | exact BK175.out | refine blk_drewN ?_ _ | refine blk_drew ?_ | refine blk_alloc ?_ _) | exact BK175.out)⟩, ⟨by repeat (first | (with_reducible first | exact HB.out | apply below_alloc | apply pw_below_drewN | apply below_drew1 | refine below_set ?_ GE173.out | refine below_set ?_ GE174.out | refine below_set ?_ GE175.out) | exact HB.out)⟩⟩
         ·replace c29 := Bool.eq_false_iff.mpr c29
          subst c29
          have H1 : (some false) = some r := by rw [if_neg (show ¬ (false = true) by decide)] at H; exact H
          clear H
          have H := H1
          clear H1
          obtain rfl := Option.some.inj H
          have p177 : 0 ≤ (x26_2 : Int) := odt
          have q177 : x26_2 < (l1_2.length : Int) := odt
          obtain ⟨ad177, e177, hx177_0⟩ := Kd.at_int HR1_2.out x26_2 p177 q177
          cases e177
          replace hx177_0 := (HB.out.cell (World.block_lt_of_cell? w _ hx177_0)).trans hx177_0
          replace p177 := eq_true p177
          replace q177 := eq_true q177
          have hnb48 := NB175_173.out
          have hnc48 := NB173_175.out
          have hnb49 := NB175_174.out
          have hnc49 := NB174_175.out
          have hcz50_0 : wr.cell? ⟨gb175, 0, none⟩ = some (.func (.func 60) #[] #[.pointer (some ⟨gb173, 0, none⟩)]) := (blk_cell BK175.out 0).trans rfl
          have hfz50_0 := blk_frozen BK175.out 0
          go_wp2_with (first | (go_at_call 60; (with_reducible refine (monoid_fits_1.calls (rd l1_2 x26_2) gb173 ?cA1_0_0 ?cC1_0_0 l0 false _ ?side1 ?side2 ?side3 A28.out).mono ?_); (case side1 => repeat (first | (with_reducible first | exact BK173.out | refine blk_drewN ?_ _ | refine blk_drew ?_ | refine blk_alloc ?_ _) | exact BK173.out)); (case side2 => repeat (first | exact (Kd.C_below HR0.out HB.out) | (with_reducible first | refine Kd.C_alloc ?_ _ | refine Kd.C_drewN ?_ _ | refine Kd.C_drew ?_))); (case side3 => exact HC0.out); rintro e w' ⟨rfl, ⟨nd, rfl⟩⟩))
          go_ret
          exact ⟨by first | rfl | (simp [errW_none, errW_some] <;> rfl) | (simp [*, errW_none, errW_some] <;> rfl), by repeat (first | (with_reducible first | exact HB.out | apply below_alloc | apply pw_below_drewN | apply below_drew1 | refine below_set ?_ GE173.out | refine below_set ?_ GE174.out | refine below_set ?_ GE175.out) | exact HB.out)⟩
        ·rw [if_neg c27] at H
         exact absurd H (by simp)
       ·rw [if_neg c26] at H
        exact absurd H (by simp)
      ·rw [if_neg c25] at H
       have c25b0 : decide (x26_2 < (l1_2.length : Int)) = false := decide_eq_false c25
       clear c25
       replace H := Option.bind_eq_some_iff.mp H
       obtain ⟨t176, A510, H⟩ := H
       replace H : (some (!t176)) = some r := H
       have A51 := Aside0.mk A510
       clear A510
       obtain rfl := Option.some.inj H
       have hnb52 := NB174_173.out
       have hnc52 := NB173_174.out
       have hnb53 := NB174_175.out
       have hnc53 := NB175_174.out
       have hcz54_0 : wr.cell? ⟨gb174, 0, none⟩ = some (.int .i64 a1_0) := (blk_cell BK174.out 0).trans rfl
       have hcz54_1 : wr.cell? ⟨gb174, 1, none⟩ = some (.slice A1_1 l1_1.length c1_1) := (blk_cell BK174.out 1).trans rfl
       have hcz54_2 : wr.cell? ⟨gb174, 2, none⟩ = some (.slice A1_2 l1_2.length c1_2) := (blk_cell BK174.out 2).trans rfl
       have hfz54_0 := blk_frozen BK174.out 0
       have hfz54_1 := blk_frozen BK174.out 1
       have hfz54_2 := blk_frozen BK174.out 2
       go_wp2_with (first | (go_at_call 61; (with_reducible refine (api_MonIns_at_monoid_fits_2.calls k2 _ _ l1_1 gb174 gb175 gb173 a1_0 ?cA3_0_1 ?cC3_0_1 l1_1 ?cA3_0_2 ?cC3_0_2 l1_2 ?cA3_2_0 ?cC3_2_0 l0 t176 _ ?side1 ?side2 ?side3 ?side4 ?side5 ?side6 ?side7 ?side8 ?side9 ?side10 ?side11 A51.out).mono ?_); (case side1 => repeat (first | exact (Kd.C_below HR1_1.out HB.out) | (with_reducible first | refine Kd.C_alloc ?_ _ | refine Kd.C_drewN ?_ _ | refine Kd.C_drew ?_))); (case side2 => exact HC1_1.out); (case side3 => repeat (first | (with_reducible first | exact BK174.out | refine blk_drewN ?_ _ | refine blk_drew ?_ | refine blk_alloc ?_ _) | exact BK174.out)); (case side4 => repeat (first | exact (Kd.C_below HR1_1.out HB.out) | (with_reducible first | refine Kd.C_alloc ?_ _ | refine Kd.C_drewN ?_ _ | refine Kd.C_drew ?_))); (case side5 => exact HC1_1.out); (case side6 => repeat (first | exact (Kd.C_below HR1_2.out HB.out) | (with_reducible first | refine Kd.C_alloc ?_ _ | refine Kd.C_drewN ?_ _ | refine Kd.C_drew ?_))); (case side7 => exact HC1_2.out); (case side8 => repeat (first | (with_reducible first | exact BK175.out | refine blk_drewN ?_ _ | refine blk_drew ?_ | refine blk_alloc ?_ _) | exact BK175.out)); (case side9 => repeat (first | (with_reducible first | exact BK173.out | refine blk_drewN ?_ _ | refine blk_drew ?_ | refine blk_alloc ?_ _) | exact BK173.out)); (case side10 => repeat (first | exact (Kd.C_below HR0.out HB.out) | (with_reducible first | refine Kd.C_alloc ?_ _ | refine Kd.C_drewN ?_ _ | refine Kd.C_drew ?_))); (case side11 => exact HC0.out); rintro e w55 ⟨rfl, hb⟩; have n0_ := Aside0.mk (blk_below (g := gb173) (o := .cells #[.slice A0 l0.length c0] 23 (0, 0)) (by repeat (first | (with_reducible first | exact BK173.out | refine blk_drewN ?_ _ | refine blk_drew ?_ | refine blk_alloc ?_ _) | exact BK173.out)) hb); have n1_ := Aside0.mk (blk_below (g := gb174) (o := .cells #[.int .i64 a1_0, .slice A1_1 l1_1.length c1_1, .slice A1_2 l1_2.length c1_2] 34 (0, 0)) (by repeat (first | (with_reducible first | exact BK174.out | refine blk_drewN ?_ _ | refine blk_drew ?_ | refine blk_alloc ?_ _) | exact BK174.out)) hb); have n2_ := Aside0.mk (blk_below (g := gb175) (o := .cells #[.func (.func 60) #[] #[.pointer (some ⟨gb173, 0, none⟩)]] 68 (0, 0)) (by repeat (first | (with_reducible first | exact BK175.out | refine blk_drewN ?_ _ | refine blk_drew ?_ | refine blk_alloc ?_ _) | exact BK175.out)) hb); have n3_ := Aside0.mk (below_step (by repeat (first | (with_reducible first | exact HB.out | apply below_alloc | apply pw_below_drewN | apply below_drew1 | refine below_set ?_ GE173.out | refine below_set ?_ GE174.out | refine below_set ?_ GE175.out) | exact HB.out)) hb); clear BK173; clear BK174; clear BK175; clear HB; have BK173 := n0_; have BK174 := n1_; have BK175 := n2_; have HB := n3_; clear n0_ n1_ n2_ n3_; (try clear hb); (try clear hb2); (try clear hk); (try clear hi)))
       go_ret
       exact ⟨by first | rfl | (simp [errW_none, errW_some] <;> rfl) | (simp [*, errW_none, errW_some] <;> rfl), by repeat (first | (with_reducible first | exact HB.out | apply below_alloc | apply pw_below_drewN | apply below_drew1 | refine below_set ?_ GE173.out | refine below_set ?_ GE174.out | refine below_set ?_ GE175.out) | exact HB.out)⟩

/-! ### monoid_ValidProgram: function 36 -/
def monoid_ValidProgram.f (k : Nat) (l0 : List (List Int)) (a1_0 : Int) (l1_1 : List (S64)) (l1_2 : List Int) : Option (Bool) := (monoid_Valid.f k l0).bind fun t181 => (if t181 = true then ((monoid_fits.f k l0 a1_0 l1_1 l1_2).bind fun t182 => (some t182)) else (some false))
theorem monoid_ValidProgram.mono : ∀ a0 a1 a2 a3 k, LeO (monoid_ValidProgram.f k a0 a1 a2 a3) (monoid_ValidProgram.f (k + 1) a0 a1 a2 a3) := by
 intro a0 a1 a2 a3 k
 unfold monoid_ValidProgram.f
 repeat' first
   | (with_reducible exact monoid_Valid.mono _ _)
   | (with_reducible exact monoid_fits.mono _ _ _ _ _)
   | (with_reducible exact LeO.refl _)
   | (with_reducible exact LeO.none _)
   | (with_reducible refine LeO.ite ?_ ?_)
   | (with_reducible refine LeO.bind ?_ (fun _ => ?_))
   | exact LeO.none _
   | refine LeO.ite ?_ ?_
   | refine LeO.bind ?_ (fun _ => ?_)
set_option maxHeartbeats 8000000 in
set_option maxRecDepth 100000 in
theorem monoid_ValidProgram.calls (k : Nat) (A0 : Option Addr) (c0 : Nat) (l0 : List (List Int)) (a1_0 : Int) (A1_1 : Option Addr) (c1_1 : Nat) (l1_1 : List (S64)) (A1_2 : Option Addr) (c1_2 : Nat) (l1_2 : List Int) (r : Bool) (w : World) (hr0 : Kd.C (Kd.slice 3 (Kd.int .i64)) w A0 l0.length l0) (hc0 : l0.length ≤ c0) (hr1_1 : Kd.C k64 w A1_1 l1_1.length l1_1) (hc1_1 : l1_1.length ≤ c1_1) (hr1_2 : Kd.C (Kd.int .i64) w A1_2 l1_2.length l1_2) (hc1_2 : l1_2.length ≤ c1_2) (h : monoid_ValidProgram.f k l0 a1_0 l1_1 l1_2 = some r) :
  Calls Try.prog 36 #[.slice A0 l0.length c0, .agg #[.int .i64 a1_0, .slice A1_1 l1_1.length c1_1, .slice A1_2 l1_2.length c1_2]] w fun e w' => e = .returned (.bool r) ∧ Below w.heap.size w w' := by
 have hu34 := Try.underlying34
 have HR0 := Aside0.mk hr0
 have HC0 := Aside0.mk hc0
 clear hr0 hc0
 have HR1_1 := Aside0.mk hr1_1
 have HC1_1 := Aside0.mk hc1_1
 clear hr1_1 hc1_1
 have HR1_2 := Aside0.mk hr1_2
 have HC1_2 := Aside0.mk hc1_2
 clear hr1_2 hc1_2
 have HB := Aside0.mk (Below.refl w.heap.size w)
 have H : ((monoid_Valid.f k l0).bind fun t181 => (if t181 = true then ((monoid_fits.f k l0 a1_0 l1_1 l1_2).bind fun t182 => (some t182)) else (some false))) = some r := h
 clear h
 replace H := Option.bind_eq_some_iff.mp H
 obtain ⟨t181, A30, H⟩ := H
 replace H : (if t181 = true then ((monoid_fits.f k l0 a1_0 l1_1 l1_2).bind fun t182 => (some t182)) else (some false)) = some r := H
 have A3 := Aside0.mk A30
 clear A30
 by_cases c4 : t181 = true
 ·subst c4
  have H1 : ((monoid_fits.f k l0 a1_0 l1_1 l1_2).bind fun t182 => (some t182)) = some r := by rw [if_pos rfl] at H; exact H
  clear H
  have H := H1
  clear H1
  replace H := Option.bind_eq_some_iff.mp H
  obtain ⟨t182, A50, H⟩ := H
  replace H : (some t182) = some r := H
  have A5 := Aside0.mk A50
  clear A50
  obtain rfl := Option.some.inj H
  go_enter Try.func36, Try.ntmps36
  go_wp2_with (first | ((with_reducible refine gate_dst (N := 3) rfl ?_); refine box_event ?hg (N := 3) ?hd (cs := #[.int .i64 a1_0, .slice A1_1 l1_1.length c1_1, .slice A1_2 l1_2.length c1_2]) (t := 34) ?hr ?_; (case hd => rfl); (case hg => rfl); (case hr => first | (go_simp; done) | (go_simp; rfl)); intro gb180 hg w6 hbox hb; have n0_ := Aside0.mk (below_step (by repeat (first | (with_reducible first | exact HB.out | apply below_alloc | apply pw_below_drewN | apply below_drew1) | exact HB.out)) hb); have n1_ := Aside0.mk (hbox); have n2_ := Aside0.mk ((by rw [hg]; exact (below_size (by repeat (first | (with_reducible first | exact HB.out | apply below_alloc | apply pw_below_drewN | apply below_drew1) | exact HB.out))) : w.heap.size ≤ gb180)); have n3_ := Aside0.mk ((by rw [hg]; exact (below_size (by repeat (first | (with_reducible first | exact HB.out | apply below_alloc | apply pw_below_drewN | apply below_drew1) | exact HB.out))) : w.heap.size ≤ gb180)); clear HB; have HB := n0_; have BK180 := n1_; have GW180 := n2_; have GE180 := n3_; clear n0_ n1_ n2_ n3_; clear hb hbox hg) | ((with_reducible refine gate_callee (f := 35) rfl ?_); refine goesL_ (some 6) rfl rfl Try.func35 (by kernel_rfl) rfl #[.slice A0 l0.length c0] rfl (by (try simp only [List.map_toArray, List.map_cons, List.map_nil]); first | done | rfl | (simp only [List.length_drop, List.length_take]; rfl)) ?_; (with_reducible refine (monoid_Valid.calls k _ _ l0 true _ ?side1 ?side2 A3.out).mono ?_); (case side1 => repeat (first | exact (Kd.C_below HR0.out HB.out) | (with_reducible first | refine Kd.C_alloc ?_ _ | refine Kd.C_drewN ?_ _ | refine Kd.C_drew ?_))); (case side2 => exact HC0.out); rintro e w7 ⟨rfl, hb⟩; refine ⟨_, rfl, ?_⟩; have n0_ := Aside0.mk (blk_below (g := gb180) (o := .cells #[.int .i64 a1_0, .slice A1_1 l1_1.length c1_1, .slice A1_2 l1_2.length c1_2] 34 (0, 0)) (by repeat (first | (with_reducible first | exact BK180.out | refine blk_drewN ?_ _ | refine blk_drew ?_ | refine blk_alloc ?_ _) | exact BK180.out)) hb); have n1_ := Aside0.mk (below_step (by repeat (first | (with_reducible first | exact HB.out | apply below_alloc | apply pw_below_drewN | apply below_drew1 | refine below_set ?_ GE180.out) | exact HB.out)) hb); clear BK180; clear HB; have BK180 := n0_; have HB := n1_; clear n0_ n1_; (try clear hb); (try clear hb2); (try clear hk); (try clear hi); have hcz8_0 : w7.cell? ⟨gb180, 0, none⟩ = some (.int .i64 a1_0) := (blk_cell BK180.out 0).trans rfl; have hcz8_1 : w7.cell? ⟨gb180, 1, none⟩ = some (.slice A1_1 l1_1.length c1_1) := (blk_cell BK180.out 1).trans rfl; have hcz8_2 : w7.cell? ⟨gb180, 2, none⟩ = some (.slice A1_2 l1_2.length c1_2) := (blk_cell BK180.out 2).trans rfl; have hfz8_0 := blk_frozen BK180.out 0; have hfz8_1 := blk_frozen BK180.out 1; have hfz8_2 := blk_frozen BK180.out 2) | (go_at_call 48; (with_reducible refine (monoid_fits.calls k _ _ l0 a1_0 _ _ l1_1 _ _ l1_2 t182 _ ?side1 ?side2 ?side3 ?side4 ?side5 ?side6 A5.out).mono ?_); (case side1 => repeat (first | exact (Kd.C_below HR0.out HB.out) | (with_reducible first | refine Kd.C_alloc ?_ _ | refine Kd.C_drewN ?_ _ | refine Kd.C_drew ?_))); (case side2 => exact HC0.out); (case side3 => repeat (first | exact (Kd.C_below HR1_1.out HB.out) | (with_reducible first | refine Kd.C_alloc ?_ _ | refine Kd.C_drewN ?_ _ | refine Kd.C_drew ?_))); (case side4 => exact HC1_1.out); (case side5 => repeat (first | exact (Kd.C_below HR1_2.out HB.out) | (with_reducible first | refine Kd.C_alloc ?_ _ | refine Kd.C_drewN ?_ _ | refine Kd.C_drew ?_))); (case side6 => exact HC1_2.out); rintro e w9 ⟨rfl, hb⟩; have n0_ := Aside0.mk (blk_below (g := gb180) (o := .cells #[.int .i64 a1_0, .slice A1_1 l1_1.length c1_1, .slice A1_2 l1_2.length c1_2] 34 (0, 0)) (by repeat (first | (with_reducible first | exact BK180.out | refine blk_drewN ?_ _ | refine blk_drew ?_ | refine blk_alloc ?_ _) | exact BK180.out)) hb); have n1_ := Aside0.mk (below_step (by repeat (first | (with_reducible first | exact HB.out | apply below_alloc | apply pw_below_drewN | apply below_drew1 | refine below_set ?_ GE180.out) | exact HB.out)) hb); clear BK180; clear HB; have BK180 := n0_; have HB := n1_; clear n0_ n1_; (try clear hb); (try clear hb2); (try clear hk); (try clear hi)))
  go_ret
  exact ⟨by first | rfl | (simp [errW_none, errW_some] <;> rfl) | (simp [*, errW_none, errW_some] <;> rfl), by repeat (first | (with_reducible first | exact HB.out | apply below_alloc | apply pw_below_drewN | apply below_drew1 | refine below_set ?_ GE180.out) | exact HB.out)⟩
 ·replace c4 := Bool.eq_false_iff.mpr c4
  subst c4
  have H1 : (some false) = some r := by rw [if_neg (show ¬ (false = true) by decide)] at H; exact H
  clear H
  have H := H1
  clear H1
  obtain rfl := Option.some.inj H
  go_enter Try.func36, Try.ntmps36
  go_wp2_with (first | ((with_reducible refine gate_dst (N := 3) rfl ?_); refine box_event ?hg (N := 3) ?hd (cs := #[.int .i64 a1_0, .slice A1_1 l1_1.length c1_1, .slice A1_2 l1_2.length c1_2]) (t := 34) ?hr ?_; (case hd => rfl); (case hg => rfl); (case hr => first | (go_simp; done) | (go_simp; rfl)); intro gb180 hg w10 hbox hb; have n0_ := Aside0.mk (below_step (by repeat (first | (with_reducible first | exact HB.out | apply below_alloc | apply pw_below_drewN | apply below_drew1) | exact HB.out)) hb); have n1_ := Aside0.mk (hbox); have n2_ := Aside0.mk ((by rw [hg]; exact (below_size (by repeat (first | (with_reducible first | exact HB.out | apply below_alloc | apply pw_below_drewN | apply below_drew1) | exact HB.out))) : w.heap.size ≤ gb180)); have n3_ := Aside0.mk ((by rw [hg]; exact (below_size (by repeat (first | (with_reducible first | exact HB.out | apply below_alloc | apply pw_below_drewN | apply below_drew1) | exact HB.out))) : w.heap.size ≤ gb180)); clear HB; have HB := n0_; have BK180 := n1_; have GW180 := n2_; have GE180 := n3_; clear n0_ n1_ n2_ n3_; clear hb hbox hg) | ((with_reducible refine gate_callee (f := 35) rfl ?_); refine goesL_ (some 6) rfl rfl Try.func35 (by kernel_rfl) rfl #[.slice A0 l0.length c0] rfl (by (try simp only [List.map_toArray, List.map_cons, List.map_nil]); first | done | rfl | (simp only [List.length_drop, List.length_take]; rfl)) ?_; (with_reducible refine (monoid_Valid.calls k _ _ l0 false _ ?side1 ?side2 A3.out).mono ?_); (case side1 => repeat (first | exact (Kd.C_below HR0.out HB.out) | (with_reducible first | refine Kd.C_alloc ?_ _ | refine Kd.C_drewN ?_ _ | refine Kd.C_drew ?_))); (case side2 => exact HC0.out); rintro e w11 ⟨rfl, hb⟩; refine ⟨_, rfl, ?_⟩; have n0_ := Aside0.mk (blk_below (g := gb180) (o := .cells #[.int .i64 a1_0, .slice A1_1 l1_1.length c1_1, .slice A1_2 l1_2.length c1_2] 34 (0, 0)) (by repeat (first | (with_reducible first | exact BK180.out | refine blk_drewN ?_ _ | refine blk_drew ?_ | refine blk_alloc ?_ _) | exact BK180.out)) hb); have n1_ := Aside0.mk (below_step (by repeat (first | (with_reducible first | exact HB.out | apply below_alloc | apply pw_below_drewN | apply below_drew1 | refine below_set ?_ GE180.out) | exact HB.out)) hb); clear BK180; clear HB; have BK180 := n0_; have HB := n1_; clear n0_ n1_; (try clear hb); (try clear hb2); (try clear hk); (try clear hi)))
  go_ret
  exact ⟨by first | rfl | (simp [errW_none, errW_some] <;> rfl) | (simp [*, errW_none, errW_some] <;> rfl), by repeat (first | (with_reducible first | exact HB.out | apply below_alloc | apply pw_below_drewN | apply below_drew1 | refine below_set ?_ GE180.out) | exact HB.out)⟩

end Go.Proofs.Ytibphkgcdnconaa.QMon
