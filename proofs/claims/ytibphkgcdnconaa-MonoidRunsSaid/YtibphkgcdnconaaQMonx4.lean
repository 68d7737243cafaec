/- Functions of the program as Lean functions, and proofs that the calls come to them (written by xprint.py, this session's program, over the kit's print). -/
import Derived.Test.YtibphkgcdnconaaQMonx0
import Derived.Test.YtibphkgcdnconaaQMonx3
namespace Go.Proofs.Ytibphkgcdnconaa.QMon
open Go.RowKit Go.Proofs.YtibphkgcdnconaaW.PrintWords Go.Proofs.YtibphkgcdnconaaW.PrintLast Go.Proofs.YtibphkgcdnconaaW.PrintMore Go.Proofs.YtibphkgcdnconaaX
attribute [local go_sem] max2_int min2_int max_two min_two max_three min_three max_four min_four   -- for this text's walks alone
set_option linter.unusedVariables false
set_option linter.unusedSimpArgs false

/-! ### monoid_Valid: function 35 -/
mutual
def monoid_Valid.j0 : Nat → List (List Int) → Bool → Int → Option (Bool)
 | 0, _, _, _ => none
 | k + 1, x0, x16, x123000 => if x16 = true then (some false) else (monoid_Valid.l0 k x0 x0 (x0.length : Int) 0 x123000)
def monoid_Valid.l0 : Nat → List (List Int) → List (List Int) → Int → Int → Int → Option (Bool)
 | 0, _, _, _, _, _ => none
 | k + 1, x0, x17, x18, x19, x123000 => if x19 < x18 then (if 0 ≤ x19 then (if x19 < (x17.length : Int) then (if ((rd_L1 x17 x19).length : Int) = x123000 then ((slices_ContainsFunc_int_int_at_monoid_Valid_1.f k (rd_L1 x17 x19) x123000).bind fun t124 => (if t124 = true then (some false) else (if 0 < ((rd_L1 x17 x19).length : Int) then (if (rd (rd_L1 x17 x19) 0) = x19 then (if 0 < (x0.length : Int) then (if x19 < ((rd_L1 x0 0).length : Int) then (if (rd (rd_L1 x0 0) x19) = x19 then (monoid_Valid.l0 k x0 x17 x18 (wrap64 (x19 + 1)) x123000) else (some false)) else (none)) else (none)) else (some false)) else (none)))) else (some false)) else (none)) else (none)) else (monoid_Valid.l1 k x0 (x0.length : Int) 0)
def monoid_Valid.l1 : Nat → List (List Int) → Int → Int → Option (Bool)
 | 0, _, _, _ => none
 | k + 1, x0, x52, x53 => if x53 < x52 then (monoid_Valid.l2 k x0 x53 x52 x53 (x0.length : Int) 0) else (some true)
def monoid_Valid.l2 : Nat → List (List Int) → Int → Int → Int → Int → Int → Option (Bool)
 | 0, _, _, _, _, _, _ => none
 | k + 1, x0, x6, x52, x53, x57, x58 => if x58 < x57 then (monoid_Valid.l3 k x0 x6 x58 x52 x53 x57 x58 (x0.length : Int) 0) else (monoid_Valid.l1 k x0 x52 (wrap64 (x53 + 1)))
def monoid_Valid.l3 : Nat → List (List Int) → Int → Int → Int → Int → Int → Int → Int → Int → Option (Bool)
 | 0, _, _, _, _, _, _, _, _, _ => none
 | k + 1, x0, x6, x7, x52, x53, x57, x58, x62, x63 => if x63 < x62 then (if 0 ≤ x6 then (if x6 < (x0.length : Int) then (if 0 ≤ x7 then (if x7 < ((rd_L1 x0 x6).length : Int) then (if 0 ≤ (rd (rd_L1 x0 x6) x7) then (if (rd (rd_L1 x0 x6) x7) < (x0.length : Int) then (if 0 ≤ x63 then (if x63 < ((rd_L1 x0 (rd (rd_L1 x0 x6) x7)).length : Int) then (if x7 < (x0.length : Int) then (if x63 < ((rd_L1 x0 x7).length : Int) then (if 0 ≤ (rd (rd_L1 x0 x7) x63) then (if (rd (rd_L1 x0 x7) x63) < ((rd_L1 x0 x6).length : Int) then (if (rd (rd_L1 x0 (rd (rd_L1 x0 x6) x7)) x63) = (rd (rd_L1 x0 x6) (rd (rd_L1 x0 x7) x63)) then (monoid_Valid.l3 k x0 x6 x7 x52 x53 x57 x58 x62 (wrap64 (x63 + 1))) else (some false)) else (none)) else (none)) else (none)) else (none)) else (none)) else (none)) else (none)) else (none)) else (none)) else (none)) else (none)) else (none)) else (monoid_Valid.l2 k x0 x6 x52 x53 x57 (wrap64 (x58 + 1)))
end
def monoid_Valid.f (k : Nat) (l0 : List (List Int)) : Option (Bool) := if (l0.length : Int) < 1 then (monoid_Valid.j0 k l0 true (l0.length : Int)) else (monoid_Valid.j0 k l0 (decide ((l0.length : Int) > 120)) (l0.length : Int))
theorem monoid_Valid.mono_l : ∀ k, (∀ y0 y1 y2, LeO (monoid_Valid.j0 k y0 y1 y2) (monoid_Valid.j0 (k + 1) y0 y1 y2)) ∧ (∀ y0 y1 y2 y3 y4, LeO (monoid_Valid.l0 k y0 y1 y2 y3 y4) (monoid_Valid.l0 (k + 1) y0 y1 y2 y3 y4)) ∧ (∀ y0 y1 y2, LeO (monoid_Valid.l1 k y0 y1 y2) (monoid_Valid.l1 (k + 1) y0 y1 y2)) ∧ (∀ y0 y1 y2 y3 y4 y5, LeO (monoid_Valid.l2 k y0 y1 y2 y3 y4 y5) (monoid_Valid.l2 (k + 1) y0 y1 y2 y3 y4 y5)) ∧ (∀ y0 y1 y2 y3 y4 y5 y6 y7 y8, LeO (monoid_Valid.l3 k y0 y1 y2 y3 y4 y5 y6 y7 y8) (monoid_Valid.l3 (k + 1) y0 y1 y2 y3 y4 y5 y6 y7 y8))
 | 0 => ⟨fun _ _ _ r h => by simp [monoid_Valid.j0] at h, fun _ _ _ _ _ r h => by simp [monoid_Valid.l0] at h, fun _ _ _ r h => by simp [monoid_Valid.l1] at h, fun _ _ _ _ _ _ r h => by simp [monoid_Valid.l2] at h, fun _ _ _ _ _ _ _ _ _ r h => by simp [monoid_Valid.l3] at h⟩
 | k + 1 => by
  obtain ⟨ih0, ih1, ih2, ih3, ih4⟩ := monoid_Valid.mono_l k
  refine ⟨?_, ?_, ?_, ?_, ?_⟩
  ·intro y0 y1 y2
   unfold monoid_Valid.j0
   repeat' first
   | (with_reducible exact ih0 _ _ _)
   | (with_reducible exact ih1 _ _ _ _ _)
   | (with_reducible exact ih2 _ _ _)
   | (with_reducible exact ih3 _ _ _ _ _ _)
   | (with_reducible exact ih4 _ _ _ _ _ _ _ _ _)
   | (with_reducible exact slices_ContainsFunc_int_int_at_monoid_Valid_1.mono _ _ _)
   | (with_reducible exact LeO.refl _)
   | (with_reducible exact LeO.none _)
   | (with_reducible refine LeO.ite ?_ ?_)
   | (with_reducible refine LeO.bind ?_ (fun _ => ?_))
   | exact LeO.none _
   | refine LeO.ite ?_ ?_
   | refine LeO.bind ?_ (fun _ => ?_)
  ·intro y0 y1 y2 y3 y4
   unfold monoid_Valid.l0
   repeat' first
   | (with_reducible exact ih0 _ _ _)
   | (with_reducible exact ih1 _ _ _ _ _)
   | (with_reducible exact ih2 _ _ _)
   | (with_reducible exact ih3 _ _ _ _ _ _)
   | (with_reducible exact ih4 _ _ _ _ _ _ _ _ _)
   | (with_reducible exact slices_ContainsFunc_int_int_at_monoid_Valid_1.mono _ _ _)
   | (with_reducible exact LeO.refl _)
   | (with_reducible exact LeO.none _)
   | (with_reducible refine LeO.ite ?_ ?_)
   | (with_reducible refine LeO.bind ?_ (fun _ => ?_))
   | exact LeO.none _
   | refine LeO.ite ?_ ?_
   | refine LeO.bind ?_ (fun _ => ?_)
  ·intro y0 y1 y2
   unfold monoid_Valid.l1
   repeat' first
   | (with_reducible exact ih0 _ _ _)
   | (with_reducible exact ih1 _ _ _ _ _)
   | (with_reducible exact ih2 _ _ _)
   | (with_reducible exact ih3 _ _ _ _ _ _)
   | (with_reducible exact ih4 _ _ _ _ _ _ _ _ _)
   | (with_reducible exact slices_ContainsFunc_int_int_at_monoid_Valid_1.mono _ _ _)
   | (with_reducible exact LeO.refl _)
   | (with_reducible exact LeO.none _)
   | (with_reducible refine LeO.ite ?_ ?_)
   | (with_reducible refine LeO.bind ?_ (fun _ => ?_))
   | exact LeO.none _
   | refine LeO.ite ?_ ?_
   | refine LeO.bind ?_ (fun _ => ?_)
  ·intro y0 y1 y2 y3 y4 y5
   unfold monoid_Valid.l2
   repeat' first
   | (with_reducible exact ih0 _ _ _)
   | (with_reducible exact ih1 _ _ _ _ _)
   | (with_reducible exact ih2 _ _ _)
   | (with_reducible exact ih3 _ _ _ _ _ _)
   | (with_reducible exact ih4 _ _ _ _ _ _ _ _ _)
   | (with_reducible exact slices_ContainsFunc_int_int_at_monoid_Valid_1.mono _ _ _)
   | (with_reducible exact LeO.refl _)
   | (with_reducible exact LeO.none _)
   | (with_reducible refine LeO.ite ?_ ?_)
   | (with_reducible refine LeO.bind ?_ (fun _ => ?_))
   | exact LeO.none _
   | refine LeO.ite ?_ ?_
   | refine LeO.bind ?_ (fun _ => ?_)
  ·intro y0 y1 y2 y3 y4 y5 y6 y7 y8
   unfold monoid_Valid.l3
   repeat' first
   | (with_reducible exact ih0 _ _ _)
   | (with_reducible exact ih1 _ _ _ _ _)
   | (with_reducible exact ih2 _ _ _)
   | (with_reducible exact ih3 _ _ _ _ _ _)
   | (with_reducible exact ih4 _ _ _ _ _ _ _ _ _)
   | (with_reducible exact slices_ContainsFunc_int_int_at_monoid_Valid_1.mono _ _ _)
   | (with_reducible exact LeO.refl _)
   | (with_reducible exact LeO.none _)
   | (with_reducible refine LeO.ite ?_ ?_)
   | (with_reducible refine LeO.bind ?_ (fun _ => ?_))
   | exact LeO.none _
   | refine LeO.ite ?_ ?_
   | refine LeO.bind ?_ (fun _ => ?_)
theorem monoid_Valid.mono : ∀ a0 k, LeO (monoid_Valid.f k a0) (monoid_Valid.f (k + 1) a0) := by
 intro a0 k
 obtain ⟨ih0, ih1, ih2, ih3, ih4⟩ := monoid_Valid.mono_l k
 unfold monoid_Valid.f
 repeat' first
   | (with_reducible exact ih0 _ _ _)
   | (with_reducible exact ih1 _ _ _ _ _)
   | (with_reducible exact ih2 _ _ _)
   | (with_reducible exact ih3 _ _ _ _ _ _)
   | (with_reducible exact ih4 _ _ _ _ _ _ _ _ _)
   | (with_reducible exact slices_ContainsFunc_int_int_at_monoid_Valid_1.mono _ _ _)
   | (with_reducible exact LeO.refl _)
   | (with_reducible exact LeO.none _)
   | (with_reducible refine LeO.ite ?_ ?_)
   | (with_reducible refine LeO.bind ?_ (fun _ => ?_))
   | exact LeO.none _
   | refine LeO.ite ?_ ?_
   | refine LeO.bind ?_ (fun _ => ?_)
set_option maxHeartbeats 8000000 in
set_option maxRecDepth 100000 in
theorem monoid_Valid.calls (k : Nat) (A0 : Option Addr) (c0 : Nat) (l0 : List (List Int)) (r : Bool) (w : World) (hr0 : Kd.C (Kd.slice 3 (Kd.int .i64)) w A0 l0.length l0) (hc0 : l0.length ≤ c0) (h : monoid_Valid.f k l0 = some r) :
  Calls Try.prog 35 #[.slice A0 l0.length c0] w fun e w' => e = .returned (.bool r) ∧ Below w.heap.size w w' := by
 have HR0 := Aside0.mk hr0
 have HC0 := Aside0.mk hc0
 clear hr0 hc0
 have HB := Aside0.mk (Below.refl w.heap.size w)
 have H : (if (l0.length : Int) < 1 then (monoid_Valid.j0 k l0 true (l0.length : Int)) else (monoid_Valid.j0 k l0 (decide ((l0.length : Int) > 120)) (l0.length : Int))) = some r := h
 clear h
 have HC2 := Aside0.mk H
 clear H
 go_enter Try.func35, Try.ntmps35
 go_upto_region 2 with (first | ((with_reducible refine gate_dst (N := 3) rfl ?_); refine box_event ?hg (N := 3) ?hd (cs := #[.int .i64 0]) (t := 3) ?hr ?_; (case hd => rfl); (case hg => rfl); (case hr => first | (go_simp; done) | (go_simp; rfl)); intro gb122 hg w3 hbox hb; have n0_ := Aside0.mk (below_step (by repeat (first | (with_reducible first | exact HB.out | apply below_alloc | apply pw_below_drewN | apply below_drew1) | exact HB.out)) hb); have n1_ := Aside0.mk (hbox); have n2_ := Aside0.mk ((by rw [hg]; exact (below_size (by repeat (first | (with_reducible first | exact HB.out | apply below_alloc | apply pw_below_drewN | apply below_drew1) | exact HB.out))) : w.heap.size ≤ gb122)); have n3_ := Aside0.mk ((by rw [hg]; exact (below_size (by repeat (first | (with_reducible first | exact HB.out | apply below_alloc | apply pw_below_drewN | apply below_drew1) | exact HB.out))) : w.heap.size ≤ gb122)); clear HB; have HB := n0_; have BK122 := n1_; have GW122 := n2_; have GE122 := n3_; clear n0_ n1_ n2_ n3_; clear hb hbox hg; have hcz4_0 : w3.cell? ⟨gb122, 0, none⟩ = some (.int .i64 0) := (blk_cell BK122.out 0).trans rfl; have hfz4_0 := blk_frozen BK122.out 0))
 repeat (go_quiet (first | ((with_reducible refine gate_dst (N := 3) rfl ?_); refine box_event ?hg (N := 3) ?hd (cs := #[.int .i64 0]) (t := 3) ?hr ?_; (case hd => rfl); (case hg => rfl); (case hr => first | (go_simp; done) | (go_simp; rfl)); intro gb122 hg w3 hbox hb; have n0_ := Aside0.mk (below_step (by repeat (first | (with_reducible first | exact HB.out | apply below_alloc | apply pw_below_drewN | apply below_drew1) | exact HB.out)) hb); have n1_ := Aside0.mk (hbox); have n2_ := Aside0.mk ((by rw [hg]; exact (below_size (by repeat (first | (with_reducible first | exact HB.out | apply below_alloc | apply pw_below_drewN | apply below_drew1) | exact HB.out))) : w.heap.size ≤ gb122)); have n3_ := Aside0.mk ((by rw [hg]; exact (below_size (by repeat (first | (with_reducible first | exact HB.out | apply below_alloc | apply pw_below_drewN | apply below_drew1) | exact HB.out))) : w.heap.size ≤ gb122)); clear HB; have HB := n0_; have BK122 := n1_; have GW122 := n2_; have GE122 := n3_; clear n0_ n1_ n2_ n3_; clear hb hbox hg; have hcz4_0 : w3.cell? ⟨gb122, 0, none⟩ = some (.int .i64 0) := (blk_cell BK122.out 0).trans rfl; have hfz4_0 := blk_frozen BK122.out 0)); go_upto_region 2 with (first | ((with_reducible refine gate_dst (N := 3) rfl ?_); refine box_event ?hg (N := 3) ?hd (cs := #[.int .i64 0]) (t := 3) ?hr ?_; (case hd => rfl); (case hg => rfl); (case hr => first | (go_simp; done) | (go_simp; rfl)); intro gb122 hg w3 hbox hb; have n0_ := Aside0.mk (below_step (by repeat (first | (with_reducible first | exact HB.out | apply below_alloc | apply pw_below_drewN | apply below_drew1) | exact HB.out)) hb); have n1_ := Aside0.mk (hbox); have n2_ := Aside0.mk ((by rw [hg]; exact (below_size (by repeat (first | (with_reducible first | exact HB.out | apply below_alloc | apply pw_below_drewN | apply below_drew1) | exact HB.out))) : w.heap.size ≤ gb122)); have n3_ := Aside0.mk ((by rw [hg]; exact (below_size (by repeat (first | (with_reducible first | exact HB.out | apply below_alloc | apply pw_below_drewN | apply below_drew1) | exact HB.out))) : w.heap.size ≤ gb122)); clear HB; have HB := n0_; have BK122 := n1_; have GW122 := n2_; have GE122 := n3_; clear n0_ n1_ n2_ n3_; clear hb hbox hg; have hcz4_0 : w3.cell? ⟨gb122, 0, none⟩ = some (.int .i64 0) := (blk_cell BK122.out 0).trans rfl; have hfz4_0 := blk_frozen BK122.out 0)))
 (try simp only [Act.put, List.setIfInBounds_toArray, List.set_cons_zero, List.set_cons_succ])
 go_cut [16] (fun v16 wc => ∃ (kq : Nat) (x16_1 : Bool), v16 = .bool x16_1 ∧ Aside0 (monoid_Valid.j0 kq l0 x16_1 (l0.length : Int) = some r) ∧ Aside0 (kq ≤ k) ∧ Aside0 (wc.heap[gb122]? = some (.cells #[.int .i64 (l0.length : Int)] 3 (0, 0))) ∧ Aside0 (Below w.heap.size w wc))
 case first =>
  have H := HC2.out
  clear HC2
  by_cases c5 : (l0.length : Int) < 1
  ·rw [if_pos c5] at H
   have c5b0 : decide ((l0.length : Int) < 1) = true := decide_eq_true c5
   have c5b1 : decide (l0.length < 1) = true := decide_eq_true (by omega)
   clear c5
   (first | rw [c5b0] | (simp only [i64_w, i32_w]; rw [c5b0]) | skip)
   have H' := Aside0.mk H
   clear H
   have hcz6_0 : w3.cell? ⟨gb122, 0, none⟩ = some (.int .i64 0) := (blk_cell BK122.out 0).trans rfl
   have hfz6_0 := blk_frozen BK122.out 0
   go_wp2
   repeat (go_quiet (fail); try go_wp2)
   go_meet
   case rel => exact ⟨_, (true), (by first | rfl | (simp; done) | (simp [*]; done)), H', ⟨by first | omega | exact Nat.le_refl _⟩, ⟨by (with_reducible repeat (first | refine blk_drewN ?_ _ | refine blk_drew ?_ | refine blk_alloc ?_ _)); refine blk_put (cs := #[.int .i64 0]) ?_ 0 _ rfl; repeat (first | (with_reducible first | exact BK122.out | refine blk_drewN ?_ _ | refine blk_drew ?_ | refine blk_alloc ?_ _) | exact BK122.out)⟩, ⟨by repeat (first | (with_reducible first | exact HB.out | apply below_alloc | apply pw_below_drewN | apply below_drew1 | refine below_set ?_ GE122.out) | exact HB.out)⟩⟩
  ·rw [if_neg c5] at H
   have c5b0 : decide ((l0.length : Int) < 1) = false := decide_eq_false c5
   have c5b1 : decide (l0.length < 1) = false := decide_eq_false (by omega)
   clear c5
   (first | rw [c5b0] | (simp only [i64_w, i32_w]; rw [c5b0]) | skip)
   have H' := Aside0.mk H
   clear H
   have hcz7_0 : w3.cell? ⟨gb122, 0, none⟩ = some (.int .i64 0) := (blk_cell BK122.out 0).trans rfl
   have hfz7_0 := blk_frozen BK122.out 0
   go_wp2
   repeat (go_quiet (fail); try go_wp2)
   go_meet
   case rel => exact ⟨_, (decide ((l0.length : Int) > 120)), (by first | rfl | (simp; done) | (simp [*]; done)), H', ⟨by first | omega | exact Nat.le_refl _⟩, ⟨by (with_reducible repeat (first | refine blk_drewN ?_ _ | refine blk_drew ?_ | refine blk_alloc ?_ _)); refine blk_put (cs := #[.int .i64 0]) ?_ 0 _ rfl; repeat (first | (with_reducible first | exact BK122.out | refine blk_drewN ?_ _ | refine blk_drew ?_ | refine blk_alloc ?_ _) | exact BK122.out)⟩, ⟨by repeat (first | (with_reducible first | exact HB.out | apply below_alloc | apply pw_below_drewN | apply below_drew1 | refine below_set ?_ GE122.out) | exact HB.out)⟩⟩
 case rest => as_aux_lemma =>
  clear HC2
  (try clear p2); (try clear c3); (try clear c5); (try clear c5b0); (try clear c5b1); (try clear hcz4_0); (try clear hcz6_0); (try clear hcz7_0); (try clear hfz4_0); (try clear hfz6_0); (try clear hfz7_0)
  obtain ⟨kq, x16_1, rfl, HA, HJ1, BK122, HB⟩ := hcut
  cases kq with
  | zero => exact absurd HA.out (by simp [monoid_Valid.j0])
  | succ kj1 =>
   have H := HA.out
   clear HA
   simp only [monoid_Valid.j0] at H
   by_cases c8 : x16_1 = true
   ·subst c8
    have H1 : (some false) = some r := by rw [if_pos rfl] at H; exact H
    clear H
    have H := H1
    clear H1
    obtain rfl := Option.some.inj H
    go_wp2
    repeat (go_quiet (fail); try go_wp2)
    go_ret
    exact ⟨by first | rfl | (simp [errW_none, errW_some] <;> rfl) | (simp [*, errW_none, errW_some] <;> rfl), by repeat (first | (with_reducible first | exact HB.out | apply below_alloc | apply pw_below_drewN | apply below_drew1 | refine below_set ?_ GE122.out) | exact HB.out)⟩
   ·replace c8 := Bool.eq_false_iff.mpr c8
    subst c8
    have H1 : (monoid_Valid.l0 kj1 l0 l0 (l0.length : Int) 0 (l0.length : Int)) = some r := by rw [if_neg (show ¬ (false = true) by decide)] at H; exact H
    clear H
    have H := H1
    clear H1
    have H' := Aside0.mk H
    clear H
    go_wp2
    repeat (go_quiet (fail); try go_wp2)
    go_loopg [19] kj1 (fun kq v19 w' => ∃ (x19_2 : Int), v19 = .int .i64 x19_2 ∧ Aside0 (monoid_Valid.l0 kq l0 l0 (l0.length : Int) x19_2 (l0.length : Int) = some r) ∧ Aside0 (kq ≤ kj1) ∧ Aside0 (w'.heap[gb122]? = some (.cells #[.int .i64 (l0.length : Int)] 3 (0, 0))) ∧ Aside0 (Below w.heap.size w w'))
    case atStart => exact ⟨(0), (by first | rfl | (simp; done) | (simp [*]; done)), H', ⟨Nat.le_refl _⟩, ⟨by repeat (first | (with_reducible first | exact BK122.out | refine blk_drewN ?_ _ | refine blk_drew ?_ | refine blk_alloc ?_ _) | exact BK122.out)⟩, ⟨by repeat (first | (with_reducible first | exact HB.out | apply below_alloc | apply pw_below_drewN | apply below_drew1 | refine below_set ?_ GE122.out) | exact HB.out)⟩⟩
    case round => as_aux_lemma =>
     clear H'
     (try clear p2); (try clear c3); (try clear c5); (try clear c5b0); (try clear c5b1); (try clear c8); (try clear hcz4_0); (try clear hcz6_0); (try clear hcz7_0); (try clear hfz4_0); (try clear hfz6_0); (try clear hfz7_0); (try clear p2)
     obtain ⟨x19_2, rfl, HA, HK2, BK122, HB⟩ := hrel
     cases gk with
     | zero => exact absurd HA.out (by simp [monoid_Valid.l0])
     | succ k2 =>
      have H := HA.out
      clear HA
      simp only [monoid_Valid.l0] at H
      by_cases c9 : x19_2 < (l0.length : Int)
      ·rw [if_pos c9] at H
       have c9b0 : decide (x19_2 < (l0.length : Int)) = true := decide_eq_true c9
       clear c9
       by_cases c10 : 0 ≤ x19_2
       ·rw [if_pos c10] at H
        have c10b0 : decide (0 ≤ x19_2) = true := decide_eq_true c10
        clear c10
        by_cases c11 : x19_2 < (l0.length : Int)
        ·rw [if_pos c11] at H
         have c11b0 : decide (x19_2 < (l0.length : Int)) = true := decide_eq_true c11
         clear c11
         by_cases c12 : ((rd_L1 l0 x19_2).length : Int) = (l0.length : Int)
         ·rw [if_pos c12] at H
          have c12b0 : (((rd_L1 l0 x19_2).length : Int) == (l0.length : Int)) = true := beq_iff_eq.mpr c12
          have c12b1 : (((rd_L1 l0 x19_2).length : Int) != (l0.length : Int)) = false := bne_eq_false_iff_eq.mpr c12
          have c12b2 : ((rd_L1 l0 x19_2).length == l0.length) = true := by first | simpa using c12 | (simp at c12 ⊢; omega)
          clear c12
          replace H := Option.bind_eq_some_iff.mp H
          obtain ⟨t124, A130, H⟩ := H
          replace H : (if t124 = true then (some false) else (if 0 < ((rd_L1 l0 x19_2).length : Int) then (if (rd (rd_L1 l0 x19_2) 0) = x19_2 then (if 0 < (l0.length : Int) then (if x19_2 < ((rd_L1 l0 0).length : Int) then (if (rd (rd_L1 l0 0) x19_2) = x19_2 then (monoid_Valid.l0 k2 l0 l0 (l0.length : Int) (wrap64 (x19_2 + 1)) (l0.length : Int)) else (some false)) else (none)) else (none)) else (some false)) else (none))) = some r := H
          have A13 := Aside0.mk A130
          clear A130
          by_cases c14 : t124 = true
          ·subst c14
           have H1 : (some false) = some r := by rw [if_pos rfl] at H; exact H
           clear H
           have H := H1
           clear H1
           obtain rfl := Option.some.inj H
           have p123 : 0 ≤ (x19_2 : Int) := odt
           have q123 : x19_2 < (l0.length : Int) := odt
           obtain ⟨ad123, A123_0, c123_0, e123, hx123_0, hl123_0, hi123_0⟩ := at_L1 HR0.out x19_2 p123 q123
           cases e123
           replace hx123_0 := (HB.out.cell (World.block_lt_of_cell? w _ hx123_0)).trans hx123_0
           have HR123_0 := Aside0.mk hi123_0
           have HC123_0 := Aside0.mk hl123_0
           clear hi123_0 hl123_0
           replace p123 := eq_true p123
           replace q123 := eq_true q123
           have hcz15_0 : wr.cell? ⟨gb122, 0, none⟩ = some (.int .i64 (l0.length : Int)) := (blk_cell BK122.out 0).trans rfl
           have hfz15_0 := blk_frozen BK122.out 0
           go_wp2_with (first | (go_at_call 46; (with_reducible refine (slices_ContainsFunc_int_int_at_monoid_Valid_1.calls k2 _ _ (rd_L1 l0 x19_2) gb122 (l0.length : Int) true _ ?side1 ?side2 ?side3 A13.out).mono ?_); (case side1 => repeat (first | exact (Kd.C_below HR123_0.out HB.out) | (with_reducible first | refine Kd.C_alloc ?_ _ | refine Kd.C_drewN ?_ _ | refine Kd.C_drew ?_))); (case side2 => exact HC123_0.out); (case side3 => repeat (first | (with_reducible first | exact BK122.out | refine blk_drewN ?_ _ | refine blk_drew ?_ | refine blk_alloc ?_ _) | exact BK122.out)); rintro e w' ⟨rfl, ⟨nd, rfl⟩⟩; (try first | exact ⟨rfl, _, World.drewN_drewN _ _ _⟩ | exact ⟨rfl, _, Eq.trans (World.drewN_drewN _ _ _) (congrArg (World.drewN _) (Nat.add_assoc _ _ _))⟩)))
           repeat (go_quiet (first | (go_at_call 46; (with_reducible refine (slices_ContainsFunc_int_int_at_monoid_Valid_1.calls k2 _ _ (rd_L1 l0 x19_2) gb122 (l0.length : Int) true _ ?side1 ?side2 ?side3 A13.out).mono ?_); (case side1 => repeat (first | exact (Kd.C_below HR123_0.out HB.out) | (with_reducible first | refine Kd.C_alloc ?_ _ | refine Kd.C_drewN ?_ _ | refine Kd.C_drew ?_))); (case side2 => exact HC123_0.out); (case side3 => repeat (first | (with_reducible first | exact BK122.out | refine blk_drewN ?_ _ | refine blk_drew ?_ | refine blk_alloc ?_ _) | exact BK122.out)); rintro e w' ⟨rfl, ⟨nd, rfl⟩⟩; (try first | exact ⟨rfl, _, World.drewN_drewN _ _ _⟩ | exact ⟨rfl, _, Eq.trans (World.drewN_drewN _ _ _) (congrArg (World.drewN _) (Nat.add_assoc _ _ _))⟩))); try go_wp2_with (first | (go_at_call 46; (with_reducible refine (slices_ContainsFunc_int_int_at_monoid_Valid_1.calls k2 _ _ (rd_L1 l0 x19_2) gb122 (l0.length : Int) true _ ?side1 ?side2 ?side3 A13.out).mono ?_); (case side1 => repeat (first | exact (Kd.C_below HR123_0.out HB.out) | (with_reducible first | refine Kd.C_alloc ?_ _ | refine Kd.C_drewN ?_ _ | refine Kd.C_drew ?_))); (case side2 => exact HC123_0.out); (case side3 => repeat (first | (with_reducible first | exact BK122.out | refine blk_drewN ?_ _ | refine blk_drew ?_ | refine blk_alloc ?_ _) | exact BK122.out)); rintro e w' ⟨rfl, ⟨nd, rfl⟩⟩; (try first | exact ⟨rfl, _, World.drewN_drewN _ _ _⟩ | exact ⟨rfl, _, Eq.trans (World.drewN_drewN _ _ _) (congrArg (World.drewN _) (Nat.add_assoc _ _ _))⟩))))
           go_ret
           exact ⟨by first | rfl | (simp [errW_none, errW_some] <;> rfl) | (simp [*, errW_none, errW_some] <;> rfl), by repeat (first | (with_reducible first | exact HB.out | apply below_alloc | apply pw_below_drewN | apply below_drew1 | refine below_set ?_ GE122.out) | exact HB.out)⟩
          ·replace c14 := Bool.eq_false_iff.mpr c14
           subst c14
           have H1 : (if 0 < ((rd_L1 l0 x19_2).length : Int) then (if (rd (rd_L1 l0 x19_2) 0) = x19_2 then (if 0 < (l0.length : Int) then (if x19_2 < ((rd_L1 l0 0).length : Int) then (if (rd (rd_L1 l0 0) x19_2) = x19_2 then (monoid_Valid.l0 k2 l0 l0 (l0.length : Int) (wrap64 (x19_2 + 1)) (l0.length : Int)) else (some false)) else (none)) else (none)) else (some false)) else (none)) = some r := by rw [if_neg (show ¬ (false = true) by decide)] at H; exact H
           clear H
           have H := H1
           clear H1
           by_cases c16 : 0 < ((rd_L1 l0 x19_2).length : Int)
           ·rw [if_pos c16] at H
            have c16b0 : decide (0 < ((rd_L1 l0 x19_2).length : Int)) = true := decide_eq_true c16
            have c16b1 : decide (0 < (rd_L1 l0 x19_2).length) = true := decide_eq_true (by omega)
            clear c16
            by_cases c17 : (rd (rd_L1 l0 x19_2) 0) = x19_2
            ·rw [if_pos c17] at H
             have c17b0 : ((rd (rd_L1 l0 x19_2) 0) == x19_2) = true := beq_iff_eq.mpr c17
             have c17b1 : ((rd (rd_L1 l0 x19_2) 0) != x19_2) = false := bne_eq_false_iff_eq.mpr c17
             clear c17
             by_cases c18 : 0 < (l0.length : Int)
             ·rw [if_pos c18] at H
              have c18b0 : decide (0 < (l0.length : Int)) = true := decide_eq_true c18
              have c18b1 : decide (0 < l0.length) = true := decide_eq_true (by omega)
              clear c18
              by_cases c19 : x19_2 < ((rd_L1 l0 0).length : Int)
              ·rw [if_pos c19] at H
               have c19b0 : decide (x19_2 < ((rd_L1 l0 0).length : Int)) = true := decide_eq_true c19
               clear c19
               by_cases c20 : (rd (rd_L1 l0 0) x19_2) = x19_2
               ·rw [if_pos c20] at H
                have c20b0 : ((rd (rd_L1 l0 0) x19_2) == x19_2) = true := beq_iff_eq.mpr c20
                have c20b1 : ((rd (rd_L1 l0 0) x19_2) != x19_2) = false := bne_eq_false_iff_eq.mpr c20
                clear c20
                have H' := Aside0.mk H
                clear H
                have p123 : 0 ≤ (x19_2 : Int) := odt
                have q123 : x19_2 < (l0.length : Int) := odt
                obtain ⟨ad123, A123_0, c123_0, e123, hx123_0, hl123_0, hi123_0⟩ := at_L1 HR0.out x19_2 p123 q123
                cases e123
                replace hx123_0 := (HB.out.cell (World.block_lt_of_cell? w _ hx123_0)).trans hx123_0
                have HR123_0 := Aside0.mk hi123_0
                have HC123_0 := Aside0.mk hl123_0
                clear hi123_0 hl123_0
                replace p123 := eq_true p123
                replace q123 := eq_true q123
                have hcz21_0 : wr.cell? ⟨gb122, 0, none⟩ = some (.int .i64 (l0.length : Int)) := (blk_cell BK122.out 0).trans rfl
                have hfz21_0 := blk_frozen BK122.out 0
                go_wp2_with (first | (go_at_call 46; (with_reducible refine (slices_ContainsFunc_int_int_at_monoid_Valid_1.calls k2 _ _ (rd_L1 l0 x19_2) gb122 (l0.length : Int) false _ ?side1 ?side2 ?side3 A13.out).mono ?_); (case side1 => repeat (first | exact (Kd.C_below HR123_0.out HB.out) | (with_reducible first | refine Kd.C_alloc ?_ _ | refine Kd.C_drewN ?_ _ | refine Kd.C_drew ?_))); (case side2 => exact HC123_0.out); (case side3 => repeat (first | (with_reducible first | exact BK122.out | refine blk_drewN ?_ _ | refine blk_drew ?_ | refine blk_alloc ?_ _) | exact BK122.out)); rintro e w' ⟨rfl, ⟨nd, rfl⟩⟩; (try first | exact ⟨rfl, _, World.drewN_drewN _ _ _⟩ | exact ⟨rfl, _, Eq.trans (World.drewN_drewN _ _ _) (congrArg (World.drewN _) (Nat.add_assoc _ _ _))⟩); have p125 : 0 ≤ (0 : Int) := (by omega); have q125 : 0 < ((rd_L1 l0 x19_2).length : Int) := odt; obtain ⟨ad125, e125, hx125_0⟩ := Kd.at_int HR123_0.out 0 p125 q125; cases e125; have qi125 : (0 < (rd_L1 l0 x19_2).length) = True := eq_true (by omega); (try rw [show ((0 : Int)).toNat = 0 from rfl] at hx125_0); (try rw [Addr.add_zero'] at hx125_0); replace hx125_0 := (HB.out.cell (World.block_lt_of_cell? w _ hx125_0)).trans hx125_0; replace p125 := eq_true p125; replace q125 := eq_true q125; have p126 : 0 ≤ (0 : Int) := (by omega); have q126 : 0 < (l0.length : Int) := odt; obtain ⟨ad126, A126_0, c126_0, e126, hx126_0, hl126_0, hi126_0⟩ := at_L1 HR0.out 0 p126 q126; obtain rfl : ad123 = ad126 := (by injection e126); have qi126 : (0 < l0.length) = True := eq_true (by omega); (try rw [show ((0 : Int)).toNat = 0 from rfl] at hx126_0); (try rw [Addr.add_zero'] at hx126_0); replace hx126_0 := (HB.out.cell (World.block_lt_of_cell? w _ hx126_0)).trans hx126_0; have HR126_0 := Aside0.mk hi126_0; have HC126_0 := Aside0.mk hl126_0; clear hi126_0 hl126_0; replace p126 := eq_true p126; replace q126 := eq_true q126; have p127 : 0 ≤ (x19_2 : Int) := odt; have q127 : x19_2 < ((rd_L1 l0 0).length : Int) := odt; obtain ⟨ad127, e127, hx127_0⟩ := Kd.at_int HR126_0.out x19_2 p127 q127; cases e127; replace hx127_0 := (HB.out.cell (World.block_lt_of_cell? w _ hx127_0)).trans hx127_0; replace p127 := eq_true p127; replace q127 := eq_true q127))
                repeat (go_quiet (first | (go_at_call 46; (with_reducible refine (slices_ContainsFunc_int_int_at_monoid_Valid_1.calls k2 _ _ (rd_L1 l0 x19_2) gb122 (l0.length : Int) false _ ?side1 ?side2 ?side3 A13.out).mono ?_); (case side1 => repeat (first | exact (Kd.C_below HR123_0.out HB.out) | (with_reducible first | refine Kd.C_alloc ?_ _ | refine Kd.C_drewN ?_ _ | refine Kd.C_drew ?_))); (case side2 => exact HC123_0.out); (case side3 => repeat (first | (with_reducible first | exact BK122.out | refine blk_drewN ?_ _ | refine blk_drew ?_ | refine blk_alloc ?_ _) | exact BK122.out)); rintro e w' ⟨rfl, ⟨nd, rfl⟩⟩; (try first | exact ⟨rfl, _, World.drewN_drewN _ _ _⟩ | exact ⟨rfl, _, Eq.trans (World.drewN_drewN _ _ _) (congrArg (World.drewN _) (Nat.add_assoc _ _ _))⟩); have p125 : 0 ≤ (0 : Int) := (by omega); have q125 : 0 < ((rd_L1 l0 x19_2).length : Int) := odt; obtain ⟨ad125, e125, hx125_0⟩ := Kd.at_int HR123_0.out 0 p125 q125; cases e125; have qi125 : (0 < (rd_L1 l0 x19_2).length) = True := eq_true (by omega); (try rw [show ((0 : Int)).toNat = 0 from rfl] at hx125_0); (try rw [Addr.add_zero'] at hx125_0); replace hx125_0 := (HB.out.cell (World.block_lt_of_cell? w _ hx125_0)).trans hx125_0; replace p125 := eq_true p125; replace q125 := eq_true q125; have p126 : 0 ≤ (0 : Int) := (by omega); have q126 : 0 < (l0.length : Int) := odt; obtain ⟨ad126, A126_0, c126_0, e126, hx126_0, hl126_0, hi126_0⟩ := at_L1 HR0.out 0 p126 q126; obtain rfl : ad123 = ad126 := (by injection e126); have qi126 : (0 < l0.length) = True := eq_true (by omega); (try rw [show ((0 : Int)).toNat = 0 from rfl] at hx126_0); (try rw [Addr.add_zero'] at hx126_0); replace hx126_0 := (HB.out.cell (World.block_lt_of_cell? w _ hx126_0)).trans hx126_0; have HR126_0 := Aside0.mk hi126_0; have HC126_0 := Aside0.mk hl126_0; clear hi126_0 hl126_0; replace p126 := eq_true p126; replace q126 := eq_true q126; have p127 : 0 ≤ (x19_2 : Int) := odt; have q127 : x19_2 < ((rd_L1 l0 0).length : Int) := odt; obtain ⟨ad127, e127, hx127_0⟩ := Kd.at_int HR126_0.out x19_2 p127 q127; cases e127; replace hx127_0 := (HB.out.cell (World.block_lt_of_cell? w _ hx127_0)).trans hx127_0; replace p127 := eq_true p127; replace q127 := eq_true q127)); try go_wp2_with (first | (go_at_call 46; (with_reducible refine (slices_ContainsFunc_int_int_at_monoid_Valid_1.calls k2 _ _ (rd_L1 l0 x19_2) gb122 (l0.length : Int) false _ ?side1 ?side2 ?side3 A13.out).mono ?_); (case side1 => repeat (first | exact (Kd.C_below HR123_0.out HB.out) | (with_reducible first | refine Kd.C_alloc ?_ _ | refine Kd.C_drewN ?_ _ | refine Kd.C_drew ?_))); (case side2 => exact HC123_0.out); (case side3 => repeat (first | (with_reducible first | exact BK122.out | refine blk_drewN ?_ _ | refine blk_drew ?_ | refine blk_alloc ?_ _) | exact BK122.out)); rintro e w' ⟨rfl, ⟨nd, rfl⟩⟩; (try first | exact ⟨rfl, _, World.drewN_drewN _ _ _⟩ | exact ⟨rfl, _, Eq.trans (World.drewN_drewN _ _ _) (congrArg (World.drewN _) (Nat.add_assoc _ _ _))⟩); have p125 : 0 ≤ (0 : Int) := (by omega); have q125 : 0 < ((rd_L1 l0 x19_2).length : Int) := odt; obtain ⟨ad125, e125, hx125_0⟩ := Kd.at_int HR123_0.out 0 p125 q125; cases e125; have qi125 : (0 < (rd_L1 l0 x19_2).length) = True := eq_true (by omega); (try rw [show ((0 : Int)).toNat = 0 from rfl] at hx125_0); (try rw [Addr.add_zero'] at hx125_0); replace hx125_0 := (HB.out.cell (World.block_lt_of_cell? w _ hx125_0)).trans hx125_0; replace p125 := eq_true p125; replace q125 := eq_true q125; have p126 : 0 ≤ (0 : Int) := (by omega); have q126 : 0 < (l0.length : Int) := odt; obtain ⟨ad126, A126_0, c126_0, e126, hx126_0, hl126_0, hi126_0⟩ := at_L1 HR0.out 0 p126 q126; obtain rfl : ad123 = ad126 := (by injection e126); have qi126 : (0 < l0.length) = True := eq_true (by omega); (try rw [show ((0 : Int)).toNat = 0 from rfl] at hx126_0); (try rw [Addr.add_zero'] at hx126_0); replace hx126_0 := (HB.out.cell (World.block_lt_of_cell? w _ hx126_0)).trans hx126_0; have HR126_0 := Aside0.mk hi126_0; have HC126_0 := Aside0.mk hl126_0; clear hi126_0 hl126_0; replace p126 := eq_true p126; replace q126 := eq_true q126; have p127 : 0 ≤ (x19_2 : Int) := odt; have q127 : x19_2 < ((rd_L1 l0 0).length : Int) := odt; obtain ⟨ad127, e127, hx127_0⟩ := Kd.at_int HR126_0.out x19_2 p127 q127; cases e127; replace hx127_0 := (HB.out.cell (World.block_lt_of_cell? w _ hx127_0)).trans hx127_0; replace p127 := eq_true p127; replace q127 := eq_true q127)))
                go_roundg k2
                case measure => have := HJ1.out; have := HK2.out; omega
                case rel => exact ⟨(wrap64 (x19_2 + 1)), (by first | rfl | (simp; done) | (simp [*]; done)), H', ⟨by have := HJ1.out; have := HK2.out; omega⟩, ⟨by repeat (first | (with_reducible first | exact BK122.out | refine blk_drewN ?_ _ | refine blk_drew ?_ | refine blk_alloc ?_ _) | exact BK122.out)⟩, ⟨by repeat (first | (with_reducible first | exact HB.out | apply below_alloc | apply pw_below_drewN | apply below_drew1 | refine below_set ?_ GE122.out) | exact HB.out)⟩⟩
               ·rw [if_neg c20] at H
                have c20b0 : ((rd (rd_L1 l0 0) x19_2) == x19_2) = false := beq_eq_false_iff_ne.mpr c20
                have c20b1 : ((rd (rd_L1 l0 0) x19_2) != x19_2) = true := bne_iff_ne.mpr c20
                obtain rfl := Option.some.inj H
                have p123 : 0 ≤ (x19_2 : Int) := odt
                have q123 : x19_2 < (l0.length : Int) := odt
                obtain ⟨ad123, A123_0, c123_0, e123, hx123_0, hl123_0, hi123_0⟩ := at_L1 HR0.out x19_2 p123 q123
                cases e123
                replace hx123_0 := (HB.out.cell (World.block_lt_of_cell? w _ hx123_0)).trans hx123_0
                have HR123_0 := Aside0.mk hi123_0
                have HC123_0 := Aside0.mk hl123_0
                clear hi123_0 hl123_0
                replace p123 := eq_true p123
                replace q123 := eq_true q123
                have hcz22_0 : wr.cell? ⟨gb122, 0, none⟩ = some (.int .i64 (l0.length : Int)) := (blk_cell BK122.out 0).trans rfl
                have hfz22_0 := blk_frozen BK122.out 0
                go_wp2_with (first | (go_at_call 46; (with_reducible refine (slices_ContainsFunc_int_int_at_monoid_Valid_1.calls k2 _ _ (rd_L1 l0 x19_2) gb122 (l0.length : Int) false _ ?side1 ?side2 ?side3 A13.out).mono ?_); (case side1 => repeat (first | exact (Kd.C_below HR123_0.out HB.out) | (with_reducible first | refine Kd.C_alloc ?_ _ | refine Kd.C_drewN ?_ _ | refine Kd.C_drew ?_))); (case side2 => exact HC123_0.out); (case side3 => repeat (first | (with_reducible first | exact BK122.out | refine blk_drewN ?_ _ | refine blk_drew ?_ | refine blk_alloc ?_ _) | exact BK122.out)); rintro e w' ⟨rfl, ⟨nd, rfl⟩⟩; (try first | exact ⟨rfl, _, World.drewN_drewN _ _ _⟩ | exact ⟨rfl, _, Eq.trans (World.drewN_drewN _ _ _) (congrArg (World.drewN _) (Nat.add_assoc _ _ _))⟩); have p125 : 0 ≤ (0 : Int) := (by omega); have q125 : 0 < ((rd_L1 l0 x19_2).length : Int) := odt; obtain ⟨ad125, e125, hx125_0⟩ := Kd.at_int HR123_0.out 0 p125 q125; cases e125; have qi125 : (0 < (rd_L1 l0 x19_2).length) = True := eq_true (by omega); (try rw [show ((0 : Int)).toNat = 0 from rfl] at hx125_0); (try rw [Addr.add_zero'] at hx125_0); replace hx125_0 := (HB.out.cell (World.block_lt_of_cell? w _ hx125_0)).trans hx125_0; replace p125 := eq_true p125; replace q125 := eq_true q125; have p126 : 0 ≤ (0 : Int) := (by omega); have q126 : 0 < (l0.length : Int) := odt; obtain ⟨ad126, A126_0, c126_0, e126, hx126_0, hl126_0, hi126_0⟩ := at_L1 HR0.out 0 p126 q126; obtain rfl : ad123 = ad126 := (by injection e126); have qi126 : (0 < l0.length) = True := eq_true (by omega); (try rw [show ((0 : Int)).toNat = 0 from rfl] at hx126_0); (try rw [Addr.add_zero'] at hx126_0); replace hx126_0 := (HB.out.cell (World.block_lt_of_cell? w _ hx126_0)).trans hx126_0; have HR126_0 := Aside0.mk hi126_0; have HC126_0 := Aside0.mk hl126_0; clear hi126_0 hl126_0; replace p126 := eq_true p126; replace q126 := eq_true q126; have p127 : 0 ≤ (x19_2 : Int) := odt; have q127 : x19_2 < ((rd_L1 l0 0).length : Int) := odt; obtain ⟨ad127, e127, hx127_0⟩ := Kd.at_int HR126_0.out x19_2 p127 q127; cases e127; replace hx127_0 := (HB.out.cell (World.block_lt_of_cell? w _ hx127_0)).trans hx127_0; replace p127 := eq_true p127; replace q127 := eq_true q127))
                repeat (go_quiet (first | (go_at_call 46; (with_reducible refine (slices_ContainsFunc_int_int_at_monoid_Valid_1.calls k2 _ _ (rd_L1 l0 x19_2) gb122 (l0.length : Int) false _ ?side1 ?side2 ?side3 A13.out).mono ?_); (case side1 => repeat (first | exact (Kd.C_below HR123_0.out HB.out) | (with_reducible first | refine Kd.C_alloc ?_ _ | refine Kd.C_drewN ?_ _ | refine Kd.C_drew ?_))); (case side2 => exact HC123_0.out); (case side3 => repeat (first | (with_reducible first | exact BK122.out | refine blk_drewN ?_ _ | refine blk_drew ?_ | refine blk_alloc ?_ _) | exact BK122.out)); rintro e w' ⟨rfl, ⟨nd, rfl⟩⟩; (try first | exact ⟨rfl, _, World.drewN_drewN _ _ _⟩ | exact ⟨rfl, _, Eq.trans (World.drewN_drewN _ _ _) (congrArg (World.drewN _) (Nat.add_assoc _ _ _))⟩); have p125 : 0 ≤ (0 : Int) := (by omega); have q125 : 0 < ((rd_L1 l0 x19_2).length : Int) := odt; obtain ⟨ad125, e125, hx125_0⟩ := Kd.at_int HR123_0.out 0 p125 q125; cases e125; have qi125 : (0 < (rd_L1 l0 x19_2).length) = True := eq_true (by omega); (try rw [show ((0 : Int)).toNat = 0 from rfl] at hx125_0); (try rw [Addr.add_zero'] at hx125_0); replace hx125_0 := (HB.out.cell (World.block_lt_of_cell? w _ hx125_0)).trans hx125_0; replace p125 := eq_true p125; replace q125 := eq_true q125; have p126 : 0 ≤ (0 : Int) := (by omega); have q126 : 0 < (l0.length : Int) := odt; obtain ⟨ad126, A126_0, c126_0, e126, hx126_0, hl126_0, hi126_0⟩ := at_L1 HR0.out 0 p126 q126; obtain rfl : ad123 = ad126 := (by injection e126); have qi126 : (0 < l0.length) = True := eq_true (by omega); (try rw [show ((0 : Int)).toNat = 0 from rfl] at hx126_0); (try rw [Addr.add_zero'] at hx126_0); replace hx126_0 := (HB.out.cell (World.block_lt_of_cell? w _ hx126_0)).trans hx126_0; have HR126_0 := Aside0.mk hi126_0; have HC126_0 := Aside0.mk hl126_0; clear hi126_0 hl126_0; replace p126 := eq_true p126; replace q126 := eq_true q126; have p127 : 0 ≤ (x19_2 : Int) := odt; have q127 : x19_2 < ((rd_L1 l0 0).length : Int) := odt; obtain ⟨ad127, e127, hx127_0⟩ := Kd.at_int HR126_0.out x19_2 p127 q127; cases e127; replace hx127_0 := (HB.out.cell (World.block_lt_of_cell? w _ hx127_0)).trans hx127_0; replace p127 := eq_true p127; replace q127 := eq_true q127)); try go_wp2_with (first | (go_at_call 46; (with_reducible refine (slices_ContainsFunc_int_int_at_monoid_Valid_1.calls k2 _ _ (rd_L1 l0 x19_2) gb122 (l0.length : Int) false _ ?side1 ?side2 ?side3 A13.out).mono ?_); (case side1 => repeat (first | exact (Kd.C_below HR123_0.out HB.out) | (with_reducible first | refine Kd.C_alloc ?_ _ | refine Kd.C_drewN ?_ _ | refine Kd.C_drew ?_))); (case side2 => exact HC123_0.out); (case side3 => repeat (first | (with_reducible first | exact BK122.out | refine blk_drewN ?_ _ | refine blk_drew ?_ | refine blk_alloc ?_ _) | exact BK122.out)); rintro e w' ⟨rfl, ⟨nd, rfl⟩⟩; (try first | exact ⟨rfl, _, World.drewN_drewN _ _ _⟩ | exact ⟨rfl, _, Eq.trans (World.drewN_drewN _ _ _) (congrArg (World.drewN _) (Nat.add_assoc _ _ _))⟩); have p125 : 0 ≤ (0 : Int) := (by omega); have q125 : 0 < ((rd_L1 l0 x19_2).length : Int) := odt; obtain ⟨ad125, e125, hx125_0⟩ := Kd.at_int HR123_0.out 0 p125 q125; cases e125; have qi125 : (0 < (rd_L1 l0 x19_2).length) = True := eq_true (by omega); (try rw [show ((0 : Int)).toNat = 0 from rfl] at hx125_0); (try rw [Addr.add_zero'] at hx125_0); replace hx125_0 := (HB.out.cell (World.block_lt_of_cell? w _ hx125_0)).trans hx125_0; replace p125 := eq_true p125; replace q125 := eq_true q125; have p126 : 0 ≤ (0 : Int) := (by omega); have q126 : 0 < (l0.length : Int) := odt; obtain ⟨ad126, A126_0, c126_0, e126, hx126_0, hl126_0, hi126_0⟩ := at_L1 HR0.out 0 p126 q126; obtain rfl : ad123 = ad126 := (by injection e126); have qi126 : (0 < l0.length) = True := eq_true (by omega); (try rw [show ((0 : Int)).toNat = 0 from rfl] at hx126_0); (try rw [Addr.add_zero'] at hx126_0); replace hx126_0 := (HB.out.cell (World.block_lt_of_cell? w _ hx126_0)).trans hx126_0; have HR126_0 := Aside0.mk hi126_0; have HC126_0 := Aside0.mk hl126_0; clear hi126_0 hl126_0; replace p126 := eq_true p126; replace q126 := eq_true q126; have p127 : 0 ≤ (x19_2 : Int) := odt; have q127 : x19_2 < ((rd_L1 l0 0).length : Int) := odt; obtain ⟨ad127, e127, hx127_0⟩ := Kd.at_int HR126_0.out x19_2 p127 q127; cases e127; replace hx127_0 := (HB.out.cell (World.block_lt_of_cell? w _ hx127_0)).trans hx127_0; replace p127 := eq_true p127; replace q127 := eq_true q127)))
                go_ret
                exact ⟨by first | rfl | (simp [errW_none, errW_some] <;> rfl) | (simp [*, errW_none, errW_some] <;> rfl), by repeat (first | (with_reducible first | exact HB.out | apply below_alloc | apply pw_below_drewN | apply below_drew1 | refine below_set ?_ GE122.out) | exact HB.out)⟩
              ·rw [if_neg c19] at H
               exact absurd H (by simp)
             ·rw [if_neg c18] at H
              exact absurd H (by simp)
            ·rw [if_neg c17] at H
             have c17b0 : ((rd (rd_L1 l0 x19_2) 0) == x19_2) = false := beq_eq_false_iff_ne.mpr c17
             have c17b1 : ((rd (rd_L1 l0 x19_2) 0) != x19_2) = true := bne_iff_ne.mpr c17
             obtain rfl := Option.some.inj H
             have p123 : 0 ≤ (x19_2 : Int) := odt
             have q123 : x19_2 < (l0.length : Int) := odt
             obtain ⟨ad123, A123_0, c123_0, e123, hx123_0, hl123_0, hi123_0⟩ := at_L1 HR0.out x19_2 p123 q123
             cases e123
             replace hx123_0 := (HB.out.cell (World.block_lt_of_cell? w _ hx123_0)).trans hx123_0
             have HR123_0 := Aside0.mk hi123_0
             have HC123_0 := Aside0.mk hl123_0
             clear hi123_0 hl123_0
             replace p123 := eq_true p123
             replace q123 := eq_true q123
             have hcz23_0 : wr.cell? ⟨gb122, 0, none⟩ = some (.int .i64 (l0.length : Int)) := (blk_cell BK122.out 0).trans rfl
             have hfz23_0 := blk_frozen BK122.out 0
             go_wp2_with (first | (go_at_call 46; (with_reducible refine (slices_ContainsFunc_int_int_at_monoid_Valid_1.calls k2 _ _ (rd_L1 l0 x19_2) gb122 (l0.length : Int) false _ ?side1 ?side2 ?side3 A13.out).mono ?_); (case side1 => repeat (first | exact (Kd.C_below HR123_0.out HB.out) | (with_reducible first | refine Kd.C_alloc ?_ _ | refine Kd.C_drewN ?_ _ | refine Kd.C_drew ?_))); (case side2 => exact HC123_0.out); (case side3 => repeat (first | (with_reducible first | exact BK122.out | refine blk_drewN ?_ _ | refine blk_drew ?_ | refine blk_alloc ?_ _) | exact BK122.out)); rintro e w' ⟨rfl, ⟨nd, rfl⟩⟩; (try first | exact ⟨rfl, _, World.drewN_drewN _ _ _⟩ | exact ⟨rfl, _, Eq.trans (World.drewN_drewN _ _ _) (congrArg (World.drewN _) (Nat.add_assoc _ _ _))⟩); have p125 : 0 ≤ (0 : Int) := (by omega); have q125 : 0 < ((rd_L1 l0 x19_2).length : Int) := odt; obtain ⟨ad125, e125, hx125_0⟩ := Kd.at_int HR123_0.out 0 p125 q125; cases e125; have qi125 : (0 < (rd_L1 l0 x19_2).length) = True := eq_true (by omega); (try rw [show ((0 : Int)).toNat = 0 from rfl] at hx125_0); (try rw [Addr.add_zero'] at hx125_0); replace hx125_0 := (HB.out.cell (World.block_lt_of_cell? w _ hx125_0)).trans hx125_0; replace p125 := eq_true p125; replace q125 := eq_true q125))
             repeat (go_quiet (first | (go_at_call 46; (with_reducible refine (slices_ContainsFunc_int_int_at_monoid_Valid_1.calls k2 _ _ (rd_L1 l0 x19_2) gb122 (l0.length : Int) false _ ?side1 ?side2 ?side3 A13.out).mono ?_); (case side1 => repeat (first | exact (Kd.C_below HR123_0.out HB.out) | (with_reducible first | refine Kd.C_alloc ?_ _ | refine Kd.C_drewN ?_ _ | refine Kd.C_drew ?_))); (case side2 => exact HC123_0.out); (case side3 => repeat (first | (with_reducible first | exact BK122.out | refine blk_drewN ?_ _ | refine blk_drew ?_ | refine blk_alloc ?_ _) | exact BK122.out)); rintro e w' ⟨rfl, ⟨nd, rfl⟩⟩; (try first | exact ⟨rfl, _, World.drewN_drewN _ _ _⟩ | exact ⟨rfl, _, Eq.trans (World.drewN_drewN _ _ _) (congrArg (World.drewN _) (Nat.add_assoc _ _ _))⟩); have p125 : 0 ≤ (0 : Int) := (by omega); have q125 : 0 < ((rd_L1 l0 x19_2).length : Int) := odt; obtain ⟨ad125, e125, hx125_0⟩ := Kd.at_int HR123_0.out 0 p125 q125; cases e125; have qi125 : (0 < (rd_L1 l0 x19_2).length) = True := eq_true (by omega); (try rw [show ((0 : Int)).toNat = 0 from rfl] at hx125_0); (try rw [Addr.add_zero'] at hx125_0); replace hx125_0 := (HB.out.cell (World.block_lt_of_cell? w _ hx125_0)).trans hx125_0; replace p125 := eq_true p125; replace q125 := eq_true q125)); try go_wp2_with (first | (go_at_call 46; (with_reducible refine (slices_ContainsFunc_int_int_at_monoid_Valid_1.calls k2 _ _ (rd_L1 l0 x19_2) gb122 (l0.length : Int) false _ ?side1 ?side2 ?side3 A13.out).mono ?_); (case side1 => repeat (first | exact (Kd.C_below HR123_0.out HB.out) | (with_reducible first | refine Kd.C_alloc ?_ _ | refine Kd.C_drewN ?_ _ | refine Kd.C_drew ?_))); (case side2 => exact HC123_0.out); (case side3 => repeat (first | (with_reducible first | exact BK122.out | refine blk_drewN ?_ _ | refine blk_drew ?_ | refine blk_alloc ?_ _) | exact BK122.out)); rintro e w' ⟨rfl, ⟨nd, rfl⟩⟩; (try first | exact ⟨rfl, _, World.drewN_drewN _ _ _⟩ | exact ⟨rfl, _, Eq.trans (World.drewN_drewN _ _ _) (congrArg (World.drewN _) (Nat.add_assoc _ _ _))⟩); have p125 : 0 ≤ (0 : Int) := (by omega); have q125 : 0 < ((rd_L1 l0 x19_2).length : Int) := odt; obtain ⟨ad125, e125, hx125_0⟩ := Kd.at_int HR123_0.out 0 p125 q125; cases e125; have qi125 : (0 < (rd_L1 l0 x19_2).length) = True := eq_true (by omega); (try rw [show ((0 : Int)).toNat = 0 from rfl] at hx125_0); (try rw [Addr.add_zero'] at hx125_0); replace hx125_0 := (HB.out.cell (World.block_lt_of_cell? w _ hx125_0)).trans hx125_0; replace p125 := eq_true p125; replace q125 := eq_true q125)))
             go_ret
             exact ⟨by first | rfl | (simp [errW_none, errW_some] <;> rfl) | (simp [*, errW_none, errW_some] <;> rfl), by repeat (first | (with_reducible first | exact HB.out | apply below_alloc | apply pw_below_drewN | apply below_drew1 | refine below_set ?_ GE122.out) | exact HB.out)⟩
           ·rw [if_neg c16] at H
            exact absurd H (by simp)
         ·rw [if_neg c12] at H
          have c12b0 : (((rd_L1 l0 x19_2).length : Int) == (l0.length : Int)) = false := beq_eq_false_iff_ne.mpr c12
          have c12b1 : (((rd_L1 l0 x19_2).length : Int) != (l0.length : Int)) = true := bne_iff_ne.mpr c12
          have c12b2 : ((rd_L1 l0 x19_2).length == l0.length) = false := by first | simpa using c12 | (simp at c12 ⊢; omega)
          obtain rfl := Option.some.inj H
          have p123 : 0 ≤ (x19_2 : Int) := odt
          have q123 : x19_2 < (l0.length : Int) := odt
          obtain ⟨ad123, A123_0, c123_0, e123, hx123_0, hl123_0, hi123_0⟩ := at_L1 HR0.out x19_2 p123 q123
          cases e123
          replace hx123_0 := (HB.out.cell (World.block_lt_of_cell? w _ hx123_0)).trans hx123_0
          have HR123_0 := Aside0.mk hi123_0
          have HC123_0 := Aside0.mk hl123_0
          clear hi123_0 hl123_0
          replace p123 := eq_true p123
          replace q123 := eq_true q123
          have hcz24_0 : wr.cell? ⟨gb122, 0, none⟩ = some (.int .i64 (l0.length : Int)) := (blk_cell BK122.out 0).trans rfl
          have hfz24_0 := blk_frozen BK122.out 0
          go_wp2
          repeat (go_quiet (fail); try go_wp2)
          go_ret
          exact ⟨by first | rfl | (simp [errW_none, errW_some] <;> rfl) | (simp [*, errW_none, errW_some] <;> rfl), by repeat (first | (with_reducible first | exact HB.out | apply below_alloc | apply pw_below_drewN | apply below_drew1 | refine below_set ?_ GE122.out) | exact HB.out)⟩
        ·rw [if_neg c11] at H
         exact absurd H (by simp)
       ·rw [if_neg c10] at H
        exact absurd H (by simp)
      ·rw [if_neg c9] at H
       have c9b0 : decide (x19_2 < (l0.length : Int)) = false := decide_eq_false c9
       clear c9
       have H' := Aside0.mk H
       clear H
       go_wp2
       repeat (go_quiet (fail); try go_wp2)
       go_loopg [53] k2 (fun kq v53 w' => ∃ (x53_3 : Int), v53 = .int .i64 x53_3 ∧ Aside0 (monoid_Valid.l1 kq l0 (l0.length : Int) x53_3 = some r) ∧ Aside0 (kq ≤ k2) ∧ Aside0 (w'.heap[gb122]? = some (.cells #[.int .i64 (l0.length : Int)] 3 (0, 0))) ∧ Aside0 (Below w.heap.size w w'))
       case atStart => exact ⟨(0), (by first | rfl | (simp; done) | (simp [*]; done)), H', ⟨Nat.le_refl _⟩, ⟨by repeat (first | (with_reducible first | exact BK122.out | refine blk_drewN ?_ _ | refine blk_drew ?_ | refine blk_alloc ?_ _) | exact BK122.out)⟩, ⟨by repeat (first | (with_reducible first | exact HB.out | apply below_alloc | apply pw_below_drewN | apply below_drew1 | refine below_set ?_ GE122.out) | exact HB.out)⟩⟩
       case round => as_aux_lemma =>
        clear H'
        (try clear c1); (try clear p1); (try clear q1); (try clear hx1); (try clear qi1); (try clear c2); (try clear p2); (try clear c3); (try clear c5); (try clear c5b0); (try clear c5b1); (try clear p6); (try clear c8); (try clear c9); (try clear c9b0); (try clear c10); (try clear c10b0); (try clear c11); (try clear c11b0); (try clear c12); (try clear c12b0); (try clear c12b1); (try clear c12b2); (try clear p12); (try clear q12); (try clear hx12); (try clear qi12); (try clear c14); (try clear c16); (try clear c16b0); (try clear c16b1); (try clear c17); (try clear c17b0); (try clear c17b1); (try clear c18); (try clear c18b0); (try clear c18b1); (try clear c19); (try clear c19b0); (try clear c20); (try clear c20b0); (try clear c20b1); (try clear hcz15_0); (try clear hcz21_0); (try clear hcz22_0); (try clear hcz23_0); (try clear hcz24_0); (try clear hcz4_0); (try clear hcz6_0); (try clear hcz7_0); (try clear hfz15_0); (try clear hfz21_0); (try clear hfz22_0); (try clear hfz23_0); (try clear hfz24_0); (try clear hfz4_0); (try clear hfz6_0); (try clear hfz7_0); (try clear hx123_0); (try clear hx125_0); (try clear hx126_0); (try clear hx127_0); (try clear p123); (try clear p125); (try clear p126); (try clear p127); (try clear p2); (try clear q123); (try clear q125); (try clear q126); (try clear q127)
        obtain ⟨x53_3, rfl, HA, HK3, BK122, HB⟩ := hrel
        cases gk with
        | zero => exact absurd HA.out (by simp [monoid_Valid.l1])
        | succ k3 =>
         have H := HA.out
         clear HA
         simp only [monoid_Valid.l1] at H
         by_cases c25 : x53_3 < (l0.length : Int)
         ·rw [if_pos c25] at H
          have c25b0 : decide (x53_3 < (l0.length : Int)) = true := decide_eq_true c25
          clear c25
          have H' := Aside0.mk H
          clear H
          go_wp2
          repeat (go_quiet (fail); try go_wp2)
          go_loopg [58] k3 (fun kq v58 w' => ∃ (x58_4 : Int), v58 = .int .i64 x58_4 ∧ Aside0 (monoid_Valid.l2 kq l0 x53_3 (l0.length : Int) x53_3 (l0.length : Int) x58_4 = some r) ∧ Aside0 (kq ≤ k3) ∧ Aside0 (w'.heap[gb122]? = some (.cells #[.int .i64 (l0.length : Int)] 3 (0, 0))) ∧ Aside0 (Below w.heap.size w w'))
          case atStart => exact ⟨(0), (by first | rfl | (simp; done) | (simp [*]; done)), H', ⟨Nat.le_refl _⟩, ⟨by repeat (first | (with_reducible first | exact BK122.out | refine blk_drewN ?_ _ | refine blk_drew ?_ | refine blk_alloc ?_ _) | exact BK122.out)⟩, ⟨by repeat (first | (with_reducible first | exact HB.out | apply below_alloc | apply pw_below_drewN | apply below_drew1 | refine below_set ?_ GE122.out) | exact HB.out)⟩⟩
          case round => as_aux_lemma =>
           clear H'
           (try clear c1); (try clear p1); (try clear q1); (try clear hx1); (try clear qi1); (try clear c2); (try clear p2); (try clear c3); (try clear c5); (try clear c5b0); (try clear c5b1); (try clear p6); (try clear c8); (try clear c9); (try clear c9b0); (try clear c10); (try clear c10b0); (try clear c11); (try clear c11b0); (try clear c12); (try clear c12b0); (try clear c12b1); (try clear c12b2); (try clear p12); (try clear q12); (try clear hx12); (try clear qi12); (try clear c14); (try clear c16); (try clear c16b0); (try clear c16b1); (try clear c17); (try clear c17b0); (try clear c17b1); (try clear c18); (try clear c18b0); (try clear c18b1); (try clear c19); (try clear c19b0); (try clear c20); (try clear c20b0); (try clear c20b1); (try clear c25); (try clear c25b0); (try clear hcz15_0); (try clear hcz21_0); (try clear hcz22_0); (try clear hcz23_0); (try clear hcz24_0); (try clear hcz4_0); (try clear hcz6_0); (try clear hcz7_0); (try clear hfz15_0); (try clear hfz21_0); (try clear hfz22_0); (try clear hfz23_0); (try clear hfz24_0); (try clear hfz4_0); (try clear hfz6_0); (try clear hfz7_0); (try clear hx123_0); (try clear hx125_0); (try clear hx126_0); (try clear hx127_0); (try clear p1); (try clear p12); (try clear p123); (try clear p125); (try clear p126); (try clear p127); (try clear p2); (try clear p6); (try clear q1); (try clear q12); (try clear q123); (try clear q125); (try clear q126); (try clear q127)
           obtain ⟨x58_4, rfl, HA, HK4, BK122, HB⟩ := hrel
           cases gk with
           | zero => exact absurd HA.out (by simp [monoid_Valid.l2])
           | succ k4 =>
            have H := HA.out
            clear HA
            simp only [monoid_Valid.l2] at H
            by_cases c26 : x58_4 < (l0.length : Int)
            ·rw [if_pos c26] at H
             have c26b0 : decide (x58_4 < (l0.length : Int)) = true := decide_eq_true c26
             clear c26
             have H' := Aside0.mk H
             clear H
             go_wp2
             repeat (go_quiet (fail); try go_wp2)
             go_loopg [63] k4 (fun kq v63 w' => ∃ (x63_5 : Int), v63 = .int .i64 x63_5 ∧ Aside0 (monoid_Valid.l3 kq l0 x53_3 x58_4 (l0.length : Int) x53_3 (l0.length : Int) x58_4 (l0.length : Int) x63_5 = some r) ∧ Aside0 (kq ≤ k4) ∧ Aside0 (w'.heap[gb122]? = some (.cells #[.int .i64 (l0.length : Int)] 3 (0, 0))) ∧ Aside0 (Below w.heap.size w w'))
             case atStart => exact ⟨(0), (by first | rfl | (simp; done) | (simp [*]; done)), H', ⟨Nat.le_refl _⟩, ⟨by repeat (first | (with_reducible first | exact BK122.out | refine blk_drewN ?_ _ | refine blk_drew ?_ | refine blk_alloc ?_ _) | exact BK122.out)⟩, ⟨by repeat (first | (with_reducible first | exact HB.out | apply below_alloc | apply pw_below_drewN | apply below_drew1 | refine below_set ?_ GE122.out) | exact HB.out)⟩⟩
             case round => as_aux_lemma =>
              clear H'
              (try clear c1); (try clear p1); (try clear q1); (try clear hx1); (try clear qi1); (try clear c2); (try clear p2); (try clear c3); (try clear c5); (try clear c5b0); (try clear c5b1); (try clear p6); (try clear c8); (try clear c9); (try clear c9b0); (try clear c10); (try clear c10b0); (try clear c11); (try clear c11b0); (try clear c12); (try clear c12b0); (try clear c12b1); (try clear c12b2); (try clear p12); (try clear q12); (try clear hx12); (try clear qi12); (try clear c14); (try clear c16); (try clear c16b0); (try clear c16b1); (try clear c17); (try clear c17b0); (try clear c17b1); (try clear c18); (try clear c18b0); (try clear c18b1); (try clear c19); (try clear c19b0); (try clear c20); (try clear c20b0); (try clear c20b1); (try clear c25); (try clear c25b0); (try clear c26); (try clear c26b0); (try clear hcz15_0); (try clear hcz21_0); (try clear hcz22_0); (try clear hcz23_0); (try clear hcz24_0); (try clear hcz4_0); (try clear hcz6_0); (try clear hcz7_0); (try clear hfz15_0); (try clear hfz21_0); (try clear hfz22_0); (try clear hfz23_0); (try clear hfz24_0); (try clear hfz4_0); (try clear hfz6_0); (try clear hfz7_0); (try clear hx123_0); (try clear hx125_0); (try clear hx126_0); (try clear hx127_0); (try clear p1); (try clear p12); (try clear p123); (try clear p125); (try clear p126); (try clear p127); (try clear p2); (try clear p6); (try clear q1); (try clear q12); (try clear q123); (try clear q125); (try clear q126); (try clear q127)
              obtain ⟨x63_5, rfl, HA, HK5, BK122, HB⟩ := hrel
              cases gk with
              | zero => exact absurd HA.out (by simp [monoid_Valid.l3])
              | succ k5 =>
               have H := HA.out
               clear HA
               simp only [monoid_Valid.l3] at H
               by_cases c27 : x63_5 < (l0.length : Int)
               ·rw [if_pos c27] at H
                have c27b0 : decide (x63_5 < (l0.length : Int)) = true := decide_eq_true c27
                clear c27
                by_cases c28 : 0 ≤ x53_3
                ·rw [if_pos c28] at H
                 have c28b0 : decide (0 ≤ x53_3) = true := decide_eq_true c28
                 clear c28
                 by_cases c29 : x53_3 < (l0.length : Int)
                 ·rw [if_pos c29] at H
                  have c29b0 : decide (x53_3 < (l0.length : Int)) = true := decide_eq_true c29
                  clear c29
                  by_cases c30 : 0 ≤ x58_4
                  ·rw [if_pos c30] at H
                   have c30b0 : decide (0 ≤ x58_4) = true := decide_eq_true c30
                   clear c30
                   by_cases c31 : x58_4 < ((rd_L1 l0 x53_3).length : Int)
                   ·rw [if_pos c31] at H
                    have c31b0 : decide (x58_4 < ((rd_L1 l0 x53_3).length : Int)) = true := decide_eq_true c31
                    clear c31
                    by_cases c32 : 0 ≤ (rd (rd_L1 l0 x53_3) x58_4)
                    ·rw [if_pos c32] at H
                     have c32b0 : decide (0 ≤ (rd (rd_L1 l0 x53_3) x58_4)) = true := decide_eq_true c32
                     clear c32
                     by_cases c33 : (rd (rd_L1 l0 x53_3) x58_4) < (l0.length : Int)
                     ·rw [if_pos c33] at H
                      have c33b0 : decide ((rd (rd_L1 l0 x53_3) x58_4) < (l0.length : Int)) = true := decide_eq_true c33
                      clear c33
                      by_cases c34 : 0 ≤ x63_5
                      ·rw [if_pos c34] at H
                       have c34b0 : decide (0 ≤ x63_5) = true := decide_eq_true c34
                       clear c34
                       by_cases c35 : x63_5 < ((rd_L1 l0 (rd (rd_L1 l0 x53_3) x58_4)).length : Int)
                       ·rw [if_pos c35] at H
                        have c35b0 : decide (x63_5 < ((rd_L1 l0 (rd (rd_L1 l0 x53_3) x58_4)).length : Int)) = true := decide_eq_true c35
                        clear c35
                        by_cases c36 : x58_4 < (l0.length : Int)
                        ·rw [if_pos c36] at H
                         have c36b0 : decide (x58_4 < (l0.length : Int)) = true := decide_eq_true c36
                         clear c36
                         by_cases c37 : x63_5 < ((rd_L1 l0 x58_4).length : Int)
                         ·rw [if_pos c37] at H
                          have c37b0 : decide (x63_5 < ((rd_L1 l0 x58_4).length : Int)) = true := decide_eq_true c37
                          clear c37
                          by_cases c38 : 0 ≤ (rd (rd_L1 l0 x58_4) x63_5)
                          ·rw [if_pos c38] at H
                           have c38b0 : decide (0 ≤ (rd (rd_L1 l0 x58_4) x63_5)) = true := decide_eq_true c38
                           clear c38
                           by_cases c39 : (rd (rd_L1 l0 x58_4) x63_5) < ((rd_L1 l0 x53_3).length : Int)
                           ·rw [if_pos c39] at H
                            have c39b0 : decide ((rd (rd_L1 l0 x58_4) x63_5) < ((rd_L1 l0 x53_3).length : Int)) = true := decide_eq_true c39
                            clear c39
                            by_cases c40 : (rd (rd_L1 l0 (rd (rd_L1 l0 x53_3) x58_4)) x63_5) = (rd (rd_L1 l0 x53_3) (rd (rd_L1 l0 x58_4) x63_5))
                            ·rw [if_pos c40] at H
                             have c40b0 : ((rd (rd_L1 l0 (rd (rd_L1 l0 x53_3) x58_4)) x63_5) == (rd (rd_L1 l0 x53_3) (rd (rd_L1 l0 x58_4) x63_5))) = true := beq_iff_eq.mpr c40
                             have c40b1 : ((rd (rd_L1 l0 (rd (rd_L1 l0 x53_3) x58_4)) x63_5) != (rd (rd_L1 l0 x53_3) (rd (rd_L1 l0 x58_4) x63_5))) = false := bne_eq_false_iff_eq.mpr c40
                             clear c40
                             have H' := Aside0.mk H
                             clear H
                             have p128 : 0 ≤ (x53_3 : Int) := odt
                             have q128 : x53_3 < (l0.length : Int) := odt
                             obtain ⟨ad128, A128_0, c128_0, e128, hx128_0, hl128_0, hi128_0⟩ := at_L1 HR0.out x53_3 p128 q128
                             cases e128
                             replace hx128_0 := (HB.out.cell (World.block_lt_of_cell? w _ hx128_0)).trans hx128_0
                             have HR128_0 := Aside0.mk hi128_0
                             have HC128_0 := Aside0.mk hl128_0
                             clear hi128_0 hl128_0
                             replace p128 := eq_true p128
                             replace q128 := eq_true q128
                             have p129 : 0 ≤ (x58_4 : Int) := odt
                             have q129 : x58_4 < ((rd_L1 l0 x53_3).length : Int) := odt
                             obtain ⟨ad129, e129, hx129_0⟩ := Kd.at_int HR128_0.out x58_4 p129 q129
                             cases e129
                             replace hx129_0 := (HB.out.cell (World.block_lt_of_cell? w _ hx129_0)).trans hx129_0
                             replace p129 := eq_true p129
                             replace q129 := eq_true q129
                             have p130 : 0 ≤ ((rd (rd_L1 l0 x53_3) x58_4) : Int) := odt
                             have q130 : (rd (rd_L1 l0 x53_3) x58_4) < (l0.length : Int) := odt
                             obtain ⟨ad130, A130_0, c130_0, e130, hx130_0, hl130_0, hi130_0⟩ := at_L1 HR0.out (rd (rd_L1 l0 x53_3) x58_4) p130 q130
                             obtain rfl : ad128 = ad130 := (by injection e130)
                             replace hx130_0 := (HB.out.cell (World.block_lt_of_cell? w _ hx130_0)).trans hx130_0
                             have HR130_0 := Aside0.mk hi130_0
                             have HC130_0 := Aside0.mk hl130_0
                             clear hi130_0 hl130_0
                             replace p130 := eq_true p130
                             replace q130 := eq_true q130
                             have p131 : 0 ≤ (x63_5 : Int) := odt
                             have q131 : x63_5 < ((rd_L1 l0 (rd (rd_L1 l0 x53_3) x58_4)).length : Int) := odt
                             obtain ⟨ad131, e131, hx131_0⟩ := Kd.at_int HR130_0.out x63_5 p131 q131
                             cases e131
                             replace hx131_0 := (HB.out.cell (World.block_lt_of_cell? w _ hx131_0)).trans hx131_0
                             replace p131 := eq_true p131
                             replace q131 := eq_true q131
                             have p132 : 0 ≤ (x53_3 : Int) := odt
                             have q132 : x53_3 < (l0.length : Int) := odt
                             obtain ⟨ad132, A132_0, c132_0, e132, hx132_0, hl132_0, hi132_0⟩ := at_L1 HR0.out x53_3 p132 q132
                             obtain rfl : ad128 = ad132 := (by injection e132)
                             replace hx132_0 := (HB.out.cell (World.block_lt_of_cell? w _ hx132_0)).trans hx132_0
                             have HR132_0 := Aside0.mk hi132_0
                             have HC132_0 := Aside0.mk hl132_0
                             clear hi132_0 hl132_0
                             replace p132 := eq_true p132
                             replace q132 := eq_true q132
                             have ea_ := Option.some.inj (hx128_0.symm.trans hx132_0)
                             injection ea_ with ea_ en_ ec_
                             subst ea_
                             subst ec_
                             clear en_
                             have p133 : 0 ≤ (x58_4 : Int) := odt
                             have q133 : x58_4 < (l0.length : Int) := odt
                             obtain ⟨ad133, A133_0, c133_0, e133, hx133_0, hl133_0, hi133_0⟩ := at_L1 HR0.out x58_4 p133 q133
                             obtain rfl : ad128 = ad133 := (by injection e133)
                             replace hx133_0 := (HB.out.cell (World.block_lt_of_cell? w _ hx133_0)).trans hx133_0
                             have HR133_0 := Aside0.mk hi133_0
                             have HC133_0 := Aside0.mk hl133_0
                             clear hi133_0 hl133_0
                             replace p133 := eq_true p133
                             replace q133 := eq_true q133
                             have p134 : 0 ≤ (x63_5 : Int) := odt
                             have q134 : x63_5 < ((rd_L1 l0 x58_4).length : Int) := odt
                             obtain ⟨ad134, e134, hx134_0⟩ := Kd.at_int HR133_0.out x63_5 p134 q134
                             cases e134
                             replace hx134_0 := (HB.out.cell (World.block_lt_of_cell? w _ hx134_0)).trans hx134_0
                             replace p134 := eq_true p134
                             replace q134 := eq_true q134
                             have p135 : 0 ≤ ((rd (rd_L1 l0 x58_4) x63_5) : Int) := odt
                             have q135 : (rd (rd_L1 l0 x58_4) x63_5) < ((rd_L1 l0 x53_3).length : Int) := odt
                             obtain ⟨ad135, e135, hx135_0⟩ := Kd.at_int HR132_0.out (rd (rd_L1 l0 x58_4) x63_5) p135 q135
                             cases e135
                             replace hx135_0 := (HB.out.cell (World.block_lt_of_cell? w _ hx135_0)).trans hx135_0
                             replace p135 := eq_true p135
                             replace q135 := eq_true q135
                             go_wp2
                             repeat (go_quiet (fail); try go_wp2)
                             go_roundg k5
                             case measure => have := HJ1.out; have := HK2.out; have := HK3.out; have := HK4.out; have := HK5.out; omega
                             case rel => exact ⟨(wrap64 (x63_5 + 1)), (by first | rfl | (simp; done) | (simp [*]; done)), H', ⟨by have := HJ1.out; have := HK2.out; have := HK3.out; have := HK4.out; have := HK5.out; omega⟩, ⟨by repeat (first | (with_reducible first | exact BK122.out | refine blk_drewN ?_ _ | refine blk_drew ?_ | refine blk_alloc ?_ _) | exact BK122.out)⟩, ⟨by repeat (first | (with_reducible first | exact HB.out | apply below_alloc | apply pw_below_drewN | apply below_drew1 | refine below_set ?_ GE122.out) | exact HB.out)⟩⟩
                            ·rw [if_neg c40] at H
                             have c40b0 : ((rd (rd_L1 l0 (rd (rd_L1 l0 x53_3) x58_4)) x63_5) == (rd (rd_L1 l0 x53_3) (rd (rd_L1 l0 x58_4) x63_5))) = false := beq_eq_false_iff_ne.mpr c40
                             have c40b1 : ((rd (rd_L1 l0 (rd (rd_L1 l0 x53_3) x58_4)) x63_5) != (rd (rd_L1 l0 x53_3) (rd (rd_L1 l0 x58_4) x63_5))) = true := bne_iff_ne.mpr c40
                             obtain rfl := Option.some.inj H
                             have p128 : 0 ≤ (x53_3 : Int) := odt
                             have q128 : x53_3 < (l0.length : Int) := odt
                             obtain ⟨ad128, A128_0, c128_0, e128, hx128_0, hl128_0, hi128_0⟩ := at_L1 HR0.out x53_3 p128 q128
                             cases e128
                             replace hx128_0 := (HB.out.cell (World.block_lt_of_cell? w _ hx128_0)).trans hx128_0
                             have HR128_0 := Aside0.mk hi128_0
                             have HC128_0 := Aside0.mk hl128_0
                             clear hi128_0 hl128_0
                             replace p128 := eq_true p128
                             replace q128 := eq_true q128
                             have p129 : 0 ≤ (x58_4 : Int) := odt
                             have q129 : x58_4 < ((rd_L1 l0 x53_3).length : Int) := odt
                             obtain ⟨ad129, e129, hx129_0⟩ := Kd.at_int HR128_0.out x58_4 p129 q129
                             cases e129
                             replace hx129_0 := (HB.out.cell (World.block_lt_of_cell? w _ hx129_0)).trans hx129_0
                             replace p129 := eq_true p129
                             replace q129 := eq_true q129
                             have p130 : 0 ≤ ((rd (rd_L1 l0 x53_3) x58_4) : Int) := odt
                             have q130 : (rd (rd_L1 l0 x53_3) x58_4) < (l0.length : Int) := odt
                             obtain ⟨ad130, A130_0, c130_0, e130, hx130_0, hl130_0, hi130_0⟩ := at_L1 HR0.out (rd (rd_L1 l0 x53_3) x58_4) p130 q130
                             obtain rfl : ad128 = ad130 := (by injection e130)
                             replace hx130_0 := (HB.out.cell (World.block_lt_of_cell? w _ hx130_0)).trans hx130_0
                             have HR130_0 := Aside0.mk hi130_0
                             have HC130_0 := Aside0.mk hl130_0
                             clear hi130_0 hl130_0
                             replace p130 := eq_true p130
                             replace q130 := eq_true q130
                             have p131 : 0 ≤ (x63_5 : Int) := odt
                             have q131 : x63_5 < ((rd_L1 l0 (rd (rd_L1 l0 x53_3) x58_4)).length : Int) := odt
                             obtain ⟨ad131, e131, hx131_0⟩ := Kd.at_int HR130_0.out x63_5 p131 q131
                             cases e131
                             replace hx131_0 := (HB.out.cell (World.block_lt_of_cell? w _ hx131_0)).trans hx131_0
                             replace p131 := eq_true p131
                             replace q131 := eq_true q131
                             have p132 : 0 ≤ (x53_3 : Int) := odt
                             have q132 : x53_3 < (l0.length : Int) := odt
                             obtain ⟨ad132, A132_0, c132_0, e132, hx132_0, hl132_0, hi132_0⟩ := at_L1 HR0.out x53_3 p132 q132
                             obtain rfl : ad128 = ad132 := (by injection e132)
                             replace hx132_0 := (HB.out.cell (World.block_lt_of_cell? w _ hx132_0)).trans hx132_0
                             have HR132_0 := Aside0.mk hi132_0
                             have HC132_0 := Aside0.mk hl132_0
                             clear hi132_0 hl132_0
                             replace p132 := eq_true p132
                             replace q132 := eq_true q132
                             have ea_ := Option.some.inj (hx128_0.symm.trans hx132_0)
                             injection ea_ with ea_ en_ ec_
                             subst ea_
                             subst ec_
                             clear en_
                             have p133 : 0 ≤ (x58_4 : Int) := odt
                             have q133 : x58_4 < (l0.length : Int) := odt
                             obtain ⟨ad133, A133_0, c133_0, e133, hx133_0, hl133_0, hi133_0⟩ := at_L1 HR0.out x58_4 p133 q133
                             obtain rfl : ad128 = ad133 := (by injection e133)
                             replace hx133_0 := (HB.out.cell (World.block_lt_of_cell? w _ hx133_0)).trans hx133_0
                             have HR133_0 := Aside0.mk hi133_0
                             have HC133_0 := Aside0.mk hl133_0
                             clear hi133_0 hl133_0
                             replace p133 := eq_true p133
                             replace q133 := eq_true q133
                             have p134 : 0 ≤ (x63_5 : Int) := odt
                             have q134 : x63_5 < ((rd_L1 l0 x58_4).length : Int) := odt
                             obtain ⟨ad134, e134, hx134_0⟩ := Kd.at_int HR133_0.out x63_5 p134 q134
                             cases e134
                             replace hx134_0 := (HB.out.cell (World.block_lt_of_cell? w _ hx134_0)).trans hx134_0
                             replace p134 := eq_true p134
                             replace q134 := eq_true q134
                             have p135 : 0 ≤ ((rd (rd_L1 l0 x58_4) x63_5) : Int) := odt
                             have q135 : (rd (rd_L1 l0 x58_4) x63_5) < ((rd_L1 l0 x53_3).length : Int) := odt
                             obtain ⟨ad135, e135, hx135_0⟩ := Kd.at_int HR132_0.out (rd (rd_L1 l0 x58_4) x63_5) p135 q135
                             cases e135
                             replace hx135_0 := (HB.out.cell (World.block_lt_of_cell? w _ hx135_0)).trans hx135_0
                             replace p135 := eq_true p135
                             replace q135 := eq_true q135
                             go_wp2
                             repeat (go_quiet (fail); try go_wp2)
                             go_ret
                             exact ⟨by first | rfl | (simp [errW_none, errW_some] <;> rfl) | (simp [*, errW_none, errW_some] <;> rfl), by repeat (first | (with_reducible first | exact HB.out | apply below_alloc | apply pw_below_drewN | apply below_drew1 | refine below_set ?_ GE122.out) | exact HB.out)⟩
                           ·rw [if_neg c39] at H
                            exact absurd H (by simp)
                          ·rw [if_neg c38] at H
                           exact absurd H (by simp)
                         ·rw [if_neg c37] at H
                          exact absurd H (by simp)
                        ·rw [if_neg c36] at H
                         exact absurd H (by simp)
                       ·rw [if_neg c35] at H
                        exact absurd H (by simp)
                      ·rw [if_neg c34] at H
                       exact absurd H (by simp)
                     ·rw [if_neg c33] at H
                      exact absurd H (by simp)
                    ·rw [if_neg c32] at H
                     exact absurd H (by simp)
                   ·rw [if_neg c31] at H
                    exact absurd H (by simp)
                  ·rw [if_neg c30] at H
                   exact absurd H (by simp)
                 ·rw [if_neg c29] at H
                  exact absurd H (by simp)
                ·rw [if_neg c28] at H
                 exact absurd H (by simp)
               ·rw [if_neg c27] at H
                have c27b0 : decide (x63_5 < (l0.length : Int)) = false := decide_eq_false c27
                clear c27
                have H' := Aside0.mk H
                clear H
                go_wp2
                repeat (go_quiet (fail); try go_wp2)
                go_roundg k5
                case measure => have := HJ1.out; have := HK2.out; have := HK3.out; have := HK4.out; have := HK5.out; omega
                case rel => exact ⟨(wrap64 (x58_4 + 1)), (by first | rfl | (simp; done) | (simp [*]; done)), H', ⟨by have := HJ1.out; have := HK2.out; have := HK3.out; have := HK4.out; have := HK5.out; omega⟩, ⟨by repeat (first | (with_reducible first | exact BK122.out | refine blk_drewN ?_ _ | refine blk_drew ?_ | refine blk_alloc ?_ _) | exact BK122.out)⟩, ⟨by repeat (first | (with_reducible first | exact HB.out | apply below_alloc | apply pw_below_drewN | apply below_drew1 | refine below_set ?_ GE122.out) | exact HB.out)⟩⟩
            ·rw [if_neg c26] at H
             have c26b0 : decide (x58_4 < (l0.length : Int)) = false := decide_eq_false c26
             clear c26
             have H' := Aside0.mk H
             clear H
             go_wp2
             repeat (go_quiet (fail); try go_wp2)
             go_roundg k4
             case measure => have := HJ1.out; have := HK2.out; have := HK3.out; have := HK4.out; omega
             case rel => exact ⟨(wrap64 (x53_3 + 1)), (by first | rfl | (simp; done) | (simp [*]; done)), H', ⟨by have := HJ1.out; have := HK2.out; have := HK3.out; have := HK4.out; omega⟩, ⟨by repeat (first | (with_reducible first | exact BK122.out | refine blk_drewN ?_ _ | refine blk_drew ?_ | refine blk_alloc ?_ _) | exact BK122.out)⟩, ⟨by repeat (first | (with_reducible first | exact HB.out | apply below_alloc | apply pw_below_drewN | apply below_drew1 | refine below_set ?_ GE122.out) | exact HB.out)⟩⟩
         ·rw [if_neg c25] at H
          have c25b0 : decide (x53_3 < (l0.length : Int)) = false := decide_eq_false c25
          clear c25
          obtain rfl := Option.some.inj H
          go_wp2
          repeat (go_quiet (fail); try go_wp2)
          go_ret
          exact ⟨by first | rfl | (simp [errW_none, errW_some] <;> rfl) | (simp [*, errW_none, errW_some] <;> rfl), by repeat (first | (with_reducible first | exact HB.out | apply below_alloc | apply pw_below_drewN | apply below_drew1 | refine below_set ?_ GE122.out) | exact HB.out)⟩

/-! ### monoid_groups_1: function 117 -/
def monoid_groups_1.f (a0 : Int) (l1_0_0 : List (List Int)) (a2_0_0 : Int) (a3_0_0 : Int) : Option (Bool) := if 0 ≤ a2_0_0 then (if a2_0_0 < (l1_0_0.length : Int) then (if 0 ≤ a0 then (if a0 < ((rd_L1 l1_0_0 a2_0_0).length : Int) then (if (rd (rd_L1 l1_0_0 a2_0_0) a0) = a3_0_0 then (if a0 < (l1_0_0.length : Int) then (if a2_0_0 < ((rd_L1 l1_0_0 a0).length : Int) then (some ((rd (rd_L1 l1_0_0 a0) a2_0_0) == a3_0_0)) else (none)) else (none)) else (some false)) else (none)) else (none)) else (none)) else (none)
set_option maxHeartbeats 8000000 in
set_option maxRecDepth 100000 in
theorem monoid_groups_1.calls (a0 : Int) (g1_0 : Nat) (A1_0_0 : Option Addr) (c1_0_0 : Nat) (l1_0_0 : List (List Int)) (g2_0 : Nat) (a2_0_0 : Int) (g3_0 : Nat) (a3_0_0 : Int) (r : Bool) (w : World) (hb1_0 : w.heap[g1_0]? = some (.cells #[.slice A1_0_0 l1_0_0.length c1_0_0] 23 (0, 0))) (hr1_0_0 : Kd.C (Kd.slice 3 (Kd.int .i64)) w A1_0_0 l1_0_0.length l1_0_0) (hc1_0_0 : l1_0_0.length ≤ c1_0_0) (hb2_0 : w.heap[g2_0]? = some (.cells #[.int .i64 a2_0_0] 3 (0, 0))) (hb3_0 : w.heap[g3_0]? = some (.cells #[.int .i64 a3_0_0] 3 (0, 0))) (h : monoid_groups_1.f a0 l1_0_0 a2_0_0 a3_0_0 = some r) :
  Calls Try.prog 53 #[.int .i64 a0, .pointer (some ⟨g1_0, 0, none⟩), .pointer (some ⟨g2_0, 0, none⟩), .pointer (some ⟨g3_0, 0, none⟩)] w fun e w' => e = .returned (.bool r) ∧ Drawn0 w w' := by
 have HR1_0_0 := Aside0.mk hr1_0_0
 have HC1_0_0 := Aside0.mk hc1_0_0
 clear hr1_0_0 hc1_0_0
 have BK50100 := Aside0.mk hb1_0
 clear hb1_0
 have BK50200 := Aside0.mk hb2_0
 clear hb2_0
 have BK50300 := Aside0.mk hb3_0
 clear hb3_0
 have H : (if 0 ≤ a2_0_0 then (if a2_0_0 < (l1_0_0.length : Int) then (if 0 ≤ a0 then (if a0 < ((rd_L1 l1_0_0 a2_0_0).length : Int) then (if (rd (rd_L1 l1_0_0 a2_0_0) a0) = a3_0_0 then (if a0 < (l1_0_0.length : Int) then (if a2_0_0 < ((rd_L1 l1_0_0 a0).length : Int) then (some ((rd (rd_L1 l1_0_0 a0) a2_0_0) == a3_0_0)) else (none)) else (none)) else (some false)) else (none)) else (none)) else (none)) else (none)) = some r := h
 clear h
 by_cases c5 : 0 ≤ a2_0_0
 ·rw [if_pos c5] at H
  have c5b0 : decide (0 ≤ a2_0_0) = true := decide_eq_true c5
  clear c5
  by_cases c6 : a2_0_0 < (l1_0_0.length : Int)
  ·rw [if_pos c6] at H
   have c6b0 : decide (a2_0_0 < (l1_0_0.length : Int)) = true := decide_eq_true c6
   clear c6
   by_cases c7 : 0 ≤ a0
   ·rw [if_pos c7] at H
    have c7b0 : decide (0 ≤ a0) = true := decide_eq_true c7
    clear c7
    by_cases c8 : a0 < ((rd_L1 l1_0_0 a2_0_0).length : Int)
    ·rw [if_pos c8] at H
     have c8b0 : decide (a0 < ((rd_L1 l1_0_0 a2_0_0).length : Int)) = true := decide_eq_true c8
     clear c8
     by_cases c9 : (rd (rd_L1 l1_0_0 a2_0_0) a0) = a3_0_0
     ·rw [if_pos c9] at H
      have c9b0 : ((rd (rd_L1 l1_0_0 a2_0_0) a0) == a3_0_0) = true := beq_iff_eq.mpr c9
      have c9b1 : ((rd (rd_L1 l1_0_0 a2_0_0) a0) != a3_0_0) = false := bne_eq_false_iff_eq.mpr c9
      clear c9
      by_cases c10 : a0 < (l1_0_0.length : Int)
      ·rw [if_pos c10] at H
       have c10b0 : decide (a0 < (l1_0_0.length : Int)) = true := decide_eq_true c10
       clear c10
       by_cases c11 : a2_0_0 < ((rd_L1 l1_0_0 a0).length : Int)
       ·rw [if_pos c11] at H
        have c11b0 : decide (a2_0_0 < ((rd_L1 l1_0_0 a0).length : Int)) = true := decide_eq_true c11
        clear c11
        obtain rfl := Option.some.inj H
        have hcz12_0 : w.cell? ⟨g1_0, 0, none⟩ = some (.slice A1_0_0 l1_0_0.length c1_0_0) := (blk_cell BK50100.out 0).trans rfl
        have hfz12_0 := blk_frozen BK50100.out 0
        have hcz13_0 : w.cell? ⟨g2_0, 0, none⟩ = some (.int .i64 a2_0_0) := (blk_cell BK50200.out 0).trans rfl
        have hfz13_0 := blk_frozen BK50200.out 0
        have p136 : 0 ≤ (a2_0_0 : Int) := odt
        have q136 : a2_0_0 < (l1_0_0.length : Int) := odt
        obtain ⟨ad136, A136_0, c136_0, e136, hx136_0, hl136_0, hi136_0⟩ := at_L1 HR1_0_0.out a2_0_0 p136 q136
        cases e136
        have HR136_0 := Aside0.mk hi136_0
        have HC136_0 := Aside0.mk hl136_0
        clear hi136_0 hl136_0
        replace p136 := eq_true p136
        replace q136 := eq_true q136
        have p137 : 0 ≤ (a0 : Int) := odt
        have q137 : a0 < ((rd_L1 l1_0_0 a2_0_0).length : Int) := odt
        obtain ⟨ad137, e137, hx137_0⟩ := Kd.at_int HR136_0.out a0 p137 q137
        cases e137
        replace p137 := eq_true p137
        replace q137 := eq_true q137
        have hcz14_0 : w.cell? ⟨g3_0, 0, none⟩ = some (.int .i64 a3_0_0) := (blk_cell BK50300.out 0).trans rfl
        have hfz14_0 := blk_frozen BK50300.out 0
        have p138 : 0 ≤ (a0 : Int) := odt
        have q138 : a0 < (l1_0_0.length : Int) := odt
        obtain ⟨ad138, A138_0, c138_0, e138, hx138_0, hl138_0, hi138_0⟩ := at_L1 HR1_0_0.out a0 p138 q138
        obtain rfl : ad136 = ad138 := (by injection e138)
        have HR138_0 := Aside0.mk hi138_0
        have HC138_0 := Aside0.mk hl138_0
        clear hi138_0 hl138_0
        replace p138 := eq_true p138
        replace q138 := eq_true q138
        have p139 : 0 ≤ (a2_0_0 : Int) := odt
        have q139 : a2_0_0 < ((rd_L1 l1_0_0 a0).length : Int) := odt
        obtain ⟨ad139, e139, hx139_0⟩ := Kd.at_int HR138_0.out a2_0_0 p139 q139
        cases e139
        replace p139 := eq_true p139
        replace q139 := eq_true q139
        go_enter Try.func53, Try.ntmps53
        go_wp2
        repeat (go_quiet (fail); try go_wp2)
        go_ret
        exact ⟨by first | rfl | (simp; done) | (simp [*]; done), by repeat (first | exact Drawn0.refl _ | apply Drawn0.step)⟩
       ·rw [if_neg c11] at H
        exact absurd H (by simp)
      ·rw [if_neg c10] at H
       exact absurd H (by simp)
     ·rw [if_neg c9] at H
      have c9b0 : ((rd (rd_L1 l1_0_0 a2_0_0) a0) == a3_0_0) = false := beq_eq_false_iff_ne.mpr c9
      have c9b1 : ((rd (rd_L1 l1_0_0 a2_0_0) a0) != a3_0_0) = true := bne_iff_ne.mpr c9
      obtain rfl := Option.some.inj H
      have hcz15_0 : w.cell? ⟨g1_0, 0, none⟩ = some (.slice A1_0_0 l1_0_0.length c1_0_0) := (blk_cell BK50100.out 0).trans rfl
      have hfz15_0 := blk_frozen BK50100.out 0
      have hcz16_0 : w.cell? ⟨g2_0, 0, none⟩ = some (.int .i64 a2_0_0) := (blk_cell BK50200.out 0).trans rfl
      have hfz16_0 := blk_frozen BK50200.out 0
      have p136 : 0 ≤ (a2_0_0 : Int) := odt
      have q136 : a2_0_0 < (l1_0_0.length : Int) := odt
      obtain ⟨ad136, A136_0, c136_0, e136, hx136_0, hl136_0, hi136_0⟩ := at_L1 HR1_0_0.out a2_0_0 p136 q136
      cases e136
      have HR136_0 := Aside0.mk hi136_0
      have HC136_0 := Aside0.mk hl136_0
      clear hi136_0 hl136_0
      replace p136 := eq_true p136
      replace q136 := eq_true q136
      have p137 : 0 ≤ (a0 : Int) := odt
      have q137 : a0 < ((rd_L1 l1_0_0 a2_0_0).length : Int) := odt
      obtain ⟨ad137, e137, hx137_0⟩ := Kd.at_int HR136_0.out a0 p137 q137
      cases e137
      replace p137 := eq_true p137
      replace q137 := eq_true q137
      have hcz17_0 : w.cell? ⟨g3_0, 0, none⟩ = some (.int .i64 a3_0_0) := (blk_cell BK50300.out 0).trans rfl
      have hfz17_0 := blk_frozen BK50300.out 0
      go_enter Try.func53, Try.ntmps53
      go_wp2
      repeat (go_quiet (fail); try go_wp2)
      go_ret
      exact ⟨by first | rfl | (simp; done) | (simp [*]; done), by repeat (first | exact Drawn0.refl _ | apply Drawn0.step)⟩
    ·rw [if_neg c8] at H
     exact absurd H (by simp)
   ·rw [if_neg c7] at H
    exact absurd H (by simp)
  ·rw [if_neg c6] at H
   exact absurd H (by simp)
 ·rw [if_neg c5] at H
  exact absurd H (by simp)

end Go.Proofs.Ytibphkgcdnconaa.QMon
