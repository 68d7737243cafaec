/- Functions of the program as Lean functions, and proofs that the calls come to them (written by xprint.py, this session's program, over the kit's print). -/
import Derived.Test.YtibphkgcdnconaaQMonx0
namespace Go.Proofs.Ytibphkgcdnconaa.QMon
open Go.RowKit Go.Proofs.YtibphkgcdnconaaW.PrintWords Go.Proofs.YtibphkgcdnconaaW.PrintLast Go.Proofs.YtibphkgcdnconaaW.PrintMore Go.Proofs.YtibphkgcdnconaaX
attribute [local go_sem] max2_int min2_int max_two min_two max_three min_three max_four min_four   -- for this text's walks alone
set_option linter.unusedVariables false
set_option linter.unusedSimpArgs false

/-! ### commodatumlaw10_Long: function 13 -/
def commodatumlaw10_Long.f (a0_0 : Int) (l0_1 : List (S64)) (l0_2 : List Int) : Option (Bool) := some (decide ((wrap64 ((l0_1.length : Int) + (l0_2.length : Int))) > 20000))
set_option maxHeartbeats 8000000 in
set_option maxRecDepth 100000 in
theorem commodatumlaw10_Long.calls (a0_0 : Int) (A0_1 : Option Addr) (c0_1 : Nat) (l0_1 : List (S64)) (A0_2 : Option Addr) (c0_2 : Nat) (l0_2 : List Int) (r : Bool) (w : World) (hr0_1 : Kd.C k64 w A0_1 l0_1.length l0_1) (hc0_1 : l0_1.length ≤ c0_1) (hr0_2 : Kd.C (Kd.int .i64) w A0_2 l0_2.length l0_2) (hc0_2 : l0_2.length ≤ c0_2) (h : commodatumlaw10_Long.f a0_0 l0_1 l0_2 = some r) :
  Calls Try.prog 13 #[.agg #[.int .i64 a0_0, .slice A0_1 l0_1.length c0_1, .slice A0_2 l0_2.length c0_2]] w fun e w' => e = .returned (.bool r) ∧ Below w.heap.size w w' := by
 have hu34 := Try.underlying34
 have HR0_1 := Aside0.mk hr0_1
 have HC0_1 := Aside0.mk hc0_1
 clear hr0_1 hc0_1
 have HR0_2 := Aside0.mk hr0_2
 have HC0_2 := Aside0.mk hc0_2
 clear hr0_2 hc0_2
 have HB := Aside0.mk (Below.refl w.heap.size w)
 have H : (some (decide ((wrap64 ((l0_1.length : Int) + (l0_2.length : Int))) > 20000))) = some r := h
 clear h
 obtain rfl := Option.some.inj H
 go_enter Try.func13, Try.ntmps13
 go_wp2_with (first | ((with_reducible refine gate_dst (N := 1) rfl ?_); refine box_event ?hg (N := 1) ?hd (cs := #[.int .i64 a0_0, .slice A0_1 l0_1.length c0_1, .slice A0_2 l0_2.length c0_2]) (t := 34) ?hr ?_; (case hd => rfl); (case hg => rfl); (case hr => first | (go_simp; done) | (go_simp; rfl)); intro gb346 hg w2 hbox hb; have n0_ := Aside0.mk (below_step (by repeat (first | (with_reducible first | exact HB.out | apply below_alloc | apply pw_below_drewN | apply below_drew1) | exact HB.out)) hb); have n1_ := Aside0.mk (hbox); have n2_ := Aside0.mk ((by rw [hg]; exact (below_size (by repeat (first | (with_reducible first | exact HB.out | apply below_alloc | apply pw_below_drewN | apply below_drew1) | exact HB.out))) : w.heap.size ≤ gb346)); have n3_ := Aside0.mk ((by rw [hg]; exact (below_size (by repeat (first | (with_reducible first | exact HB.out | apply below_alloc | apply pw_below_drewN | apply below_drew1) | exact HB.out))) : w.heap.size ≤ gb346)); clear HB; have HB := n0_; have BK346 := n1_; have GW346 := n2_; have GE346 := n3_; clear n0_ n1_ n2_ n3_; clear hb hbox hg; have hcz3_0 : w2.cell? ⟨gb346, 0, none⟩ = some (.int .i64 a0_0) := (blk_cell BK346.out 0).trans rfl; have hcz3_1 : w2.cell? ⟨gb346, 1, none⟩ = some (.slice A0_1 l0_1.length c0_1) := (blk_cell BK346.out 1).trans rfl; have hcz3_2 : w2.cell? ⟨gb346, 2, none⟩ = some (.slice A0_2 l0_2.length c0_2) := (blk_cell BK346.out 2).trans rfl; have hfz3_0 := blk_frozen BK346.out 0; have hfz3_1 := blk_frozen BK346.out 1; have hfz3_2 := blk_frozen BK346.out 2))
 go_ret
 exact ⟨by first | rfl | (simp [errW_none, errW_some] <;> rfl) | (simp [*, errW_none, errW_some] <;> rfl), by repeat (first | (with_reducible first | exact HB.out | apply below_alloc | apply pw_below_drewN | apply below_drew1 | refine below_set ?_ GE346.out) | exact HB.out)⟩

/-! ### commodatumref10_ValidProgram: function 14 -/
mutual
def commodatumref10_ValidProgram.j0 : Nat → Int → Bool → Int → List (S64) → List Int → Option (Bool)
 | 0, _, _, _, _, _ => none
 | k + 1, x5, x24, x348000, x348001, x348002 => if x24 = true then (some false) else (commodatumref10_ValidProgram.l0 k x5 0 x348000 x348001 x348002)
def commodatumref10_ValidProgram.l0 : Nat → Int → Int → Int → List (S64) → List Int → Option (Bool)
 | 0, _, _, _, _, _ => none
 | k + 1, x5, x6, x348000, x348001, x348002 => if x6 < (x348001.length : Int) then (if 0 ≤ x6 then (if ((rd_T64 x348001 x6).f0) < 0 then (commodatumref10_ValidProgram.j2 k x5 x6 true x348000 x348001 x348002) else (if ((rd_T64 x348001 x6).f0) ≥ x348000 then (commodatumref10_ValidProgram.j2 k x5 x6 true x348000 x348001 x348002) else (if ((rd_T64 x348001 x6).f1) < 0 then (commodatumref10_ValidProgram.j2 k x5 x6 true x348000 x348001 x348002) else (if ((rd_T64 x348001 x6).f1) ≥ x5 then (commodatumref10_ValidProgram.j2 k x5 x6 true x348000 x348001 x348002) else (if ((rd_T64 x348001 x6).f2) < 0 then (commodatumref10_ValidProgram.j2 k x5 x6 true x348000 x348001 x348002) else (commodatumref10_ValidProgram.j2 k x5 x6 (decide (((rd_T64 x348001 x6).f2) ≥ x5)) x348000 x348001 x348002)))))) else (none)) else (commodatumref10_ValidProgram.l1 k x5 0 x348000 x348001 x348002)
def commodatumref10_ValidProgram.j2 : Nat → Int → Int → Bool → Int → List (S64) → List Int → Option (Bool)
 | 0, _, _, _, _, _, _ => none
 | k + 1, x5, x6, x68, x348000, x348001, x348002 => if x68 = true then (some false) else (commodatumref10_ValidProgram.l0 k x5 (wrap64 (x6 + 1)) x348000 x348001 x348002)
def commodatumref10_ValidProgram.l1 : Nat → Int → Int → Int → List (S64) → List Int → Option (Bool)
 | 0, _, _, _, _, _ => none
 | k + 1, x5, x8, x348000, x348001, x348002 => if x8 < (x348002.length : Int) then (if 0 ≤ x8 then (if (rd x348002 x8) < 0 then (commodatumref10_ValidProgram.j4 k x5 x8 true x348000 x348001 x348002) else (if (rd x348002 x8) ≥ x5 then (commodatumref10_ValidProgram.j4 k x5 x8 true x348000 x348001 x348002) else (if x8 > 0 then (if 0 ≤ (wrap64 (x8 - 1)) then (if (wrap64 (x8 - 1)) < (x348002.length : Int) then (commodatumref10_ValidProgram.j4 k x5 x8 (decide ((rd x348002 x8) ≤ (rd x348002 (wrap64 (x8 - 1))))) x348000 x348001 x348002) else (none)) else (none)) else (commodatumref10_ValidProgram.j4 k x5 x8 false x348000 x348001 x348002)))) else (none)) else (some true)
def commodatumref10_ValidProgram.j4 : Nat → Int → Int → Bool → Int → List (S64) → List Int → Option (Bool)
 | 0, _, _, _, _, _, _ => none
 | k + 1, x5, x8, x108, x348000, x348001, x348002 => if x108 = true then (some false) else (commodatumref10_ValidProgram.l1 k x5 (wrap64 (x8 + 1)) x348000 x348001 x348002)
end
def commodatumref10_ValidProgram.f (k : Nat) (l0 : List (List Int)) (a1_0 : Int) (l1_1 : List (S64)) (l1_2 : List Int) : Option (Bool) := if a1_0 < 0 then (commodatumref10_ValidProgram.j0 k (l0.length : Int) true a1_0 l1_1 l1_2) else (if a1_0 > 16 then (commodatumref10_ValidProgram.j0 k (l0.length : Int) true a1_0 l1_1 l1_2) else (commodatumref10_ValidProgram.j0 k (l0.length : Int) (decide ((l1_1.length : Int) > 200000)) a1_0 l1_1 l1_2))
theorem commodatumref10_ValidProgram.mono_l : ∀ k, (∀ y0 y1 y2 y3 y4, LeO (commodatumref10_ValidProgram.j0 k y0 y1 y2 y3 y4) (commodatumref10_ValidProgram.j0 (k + 1) y0 y1 y2 y3 y4)) ∧ (∀ y0 y1 y2 y3 y4, LeO (commodatumref10_ValidProgram.l0 k y0 y1 y2 y3 y4) (commodatumref10_ValidProgram.l0 (k + 1) y0 y1 y2 y3 y4)) ∧ (∀ y0 y1 y2 y3 y4 y5, LeO (commodatumref10_ValidProgram.j2 k y0 y1 y2 y3 y4 y5) (commodatumref10_ValidProgram.j2 (k + 1) y0 y1 y2 y3 y4 y5)) ∧ (∀ y0 y1 y2 y3 y4, LeO (commodatumref10_ValidProgram.l1 k y0 y1 y2 y3 y4) (commodatumref10_ValidProgram.l1 (k + 1) y0 y1 y2 y3 y4)) ∧ (∀ y0 y1 y2 y3 y4 y5, LeO (commodatumref10_ValidProgram.j4 k y0 y1 y2 y3 y4 y5) (commodatumref10_ValidProgram.j4 (k + 1) y0 y1 y2 y3 y4 y5))
 | 0 => ⟨fun _ _ _ _ _ r h => by simp [commodatumref10_ValidProgram.j0] at h, fun _ _ _ _ _ r h => by simp [commodatumref10_ValidProgram.l0] at h, fun _ _ _ _ _ _ r h => by simp [commodatumref10_ValidProgram.j2] at h, fun _ _ _ _ _ r h => by simp [commodatumref10_ValidProgram.l1] at h, fun _ _ _ _ _ _ r h => by simp [commodatumref10_ValidProgram.j4] at h⟩
 | k + 1 => by
  obtain ⟨ih0, ih1, ih2, ih3, ih4⟩ := commodatumref10_ValidProgram.mono_l k
  refine ⟨?_, ?_, ?_, ?_, ?_⟩
  ·intro y0 y1 y2 y3 y4
   unfold commodatumref10_ValidProgram.j0
   repeat' first
   | (with_reducible exact ih0 _ _ _ _ _)
   | (with_reducible exact ih1 _ _ _ _ _)
   | (with_reducible exact ih2 _ _ _ _ _ _)
   | (with_reducible exact ih3 _ _ _ _ _)
   | (with_reducible exact ih4 _ _ _ _ _ _)
   | (with_reducible exact LeO.refl _)
   | (with_reducible exact LeO.none _)
   | (with_reducible refine LeO.ite ?_ ?_)
   | (with_reducible refine LeO.bind ?_ (fun _ => ?_))
   | exact LeO.none _
   | refine LeO.ite ?_ ?_
   | refine LeO.bind ?_ (fun _ => ?_)
  ·intro y0 y1 y2 y3 y4
   unfold commodatumref10_ValidProgram.l0
   repeat' first
   | (with_reducible exact ih0 _ _ _ _ _)
   | (with_reducible exact ih1 _ _ _ _ _)
   | (with_reducible exact ih2 _ _ _ _ _ _)
   | (with_reducible exact ih3 _ _ _ _ _)
   | (with_reducible exact ih4 _ _ _ _ _ _)
   | (with_reducible exact LeO.refl _)
   | (with_reducible exact LeO.none _)
   | (with_reducible refine LeO.ite ?_ ?_)
   | (with_reducible refine LeO.bind ?_ (fun _ => ?_))
   | exact LeO.none _
   | refine LeO.ite ?_ ?_
   | refine LeO.bind ?_ (fun _ => ?_)
  ·intro y0 y1 y2 y3 y4 y5
   unfold commodatumref10_ValidProgram.j2
   repeat' first
   | (with_reducible exact ih0 _ _ _ _ _)
   | (with_reducible exact ih1 _ _ _ _ _)
   | (with_reducible exact ih2 _ _ _ _ _ _)
   | (with_reducible exact ih3 _ _ _ _ _)
   | (with_reducible exact ih4 _ _ _ _ _ _)
   | (with_reducible exact LeO.refl _)
   | (with_reducible exact LeO.none _)
   | (with_reducible refine LeO.ite ?_ ?_)
   | (with_reducible refine LeO.bind ?_ (fun _ => ?_))
   | exact LeO.none _
   | refine LeO.ite ?_ ?_
   | refine LeO.bind ?_ (fun _ => ?_)
  ·intro y0 y1 y2 y3 y4
   unfold commodatumref10_ValidProgram.l1
   repeat' first
   | (with_reducible exact ih0 _ _ _ _ _)
   | (with_reducible exact ih1 _ _ _ _ _)
   | (with_reducible exact ih2 _ _ _ _ _ _)
   | (with_reducible exact ih3 _ _ _ _ _)
   | (with_reducible exact ih4 _ _ _ _ _ _)
   | (with_reducible exact LeO.refl _)
   | (with_reducible exact LeO.none _)
   | (with_reducible refine LeO.ite ?_ ?_)
   | (with_reducible refine LeO.bind ?_ (fun _ => ?_))
   | exact LeO.none _
   | refine LeO.ite ?_ ?_
   | refine LeO.bind ?_ (fun _ => ?_)
  ·intro y0 y1 y2 y3 y4 y5
   unfold commodatumref10_ValidProgram.j4
   repeat' first
   | (with_reducible exact ih0 _ _ _ _ _)
   | (with_reducible exact ih1 _ _ _ _ _)
   | (with_reducible exact ih2 _ _ _ _ _ _)
   | (with_reducible exact ih3 _ _ _ _ _)
   | (with_reducible exact ih4 _ _ _ _ _ _)
   | (with_reducible exact LeO.refl _)
   | (with_reducible exact LeO.none _)
   | (with_reducible refine LeO.ite ?_ ?_)
   | (with_reducible refine LeO.bind ?_ (fun _ => ?_))
   | exact LeO.none _
   | refine LeO.ite ?_ ?_
   | refine LeO.bind ?_ (fun _ => ?_)
theorem commodatumref10_ValidProgram.mono : ∀ a0 a1 a2 a3 k, LeO (commodatumref10_ValidProgram.f k a0 a1 a2 a3) (commodatumref10_ValidProgram.f (k + 1) a0 a1 a2 a3) := by
 intro a0 a1 a2 a3 k
 obtain ⟨ih0, ih1, ih2, ih3, ih4⟩ := commodatumref10_ValidProgram.mono_l k
 unfold commodatumref10_ValidProgram.f
 repeat' first
   | (with_reducible exact ih0 _ _ _ _ _)
   | (with_reducible exact ih1 _ _ _ _ _)
   | (with_reducible exact ih2 _ _ _ _ _ _)
   | (with_reducible exact ih3 _ _ _ _ _)
   | (with_reducible exact ih4 _ _ _ _ _ _)
   | (with_reducible exact LeO.refl _)
   | (with_reducible exact LeO.none _)
   | (with_reducible refine LeO.ite ?_ ?_)
   | (with_reducible refine LeO.bind ?_ (fun _ => ?_))
   | exact LeO.none _
   | refine LeO.ite ?_ ?_
   | refine LeO.bind ?_ (fun _ => ?_)
set_option maxHeartbeats 8000000 in
set_option maxRecDepth 100000 in
theorem commodatumref10_ValidProgram.calls (k : Nat) (A0 : Option Addr) (c0 : Nat) (l0 : List (List Int)) (a1_0 : Int) (A1_1 : Option Addr) (c1_1 : Nat) (l1_1 : List (S64)) (A1_2 : Option Addr) (c1_2 : Nat) (l1_2 : List Int) (r : Bool) (w : World) (hr0 : Kd.C (Kd.slice 3 (Kd.int .i64)) w A0 l0.length l0) (hc0 : l0.length ≤ c0) (hr1_1 : Kd.C k64 w A1_1 l1_1.length l1_1) (hc1_1 : l1_1.length ≤ c1_1) (hr1_2 : Kd.C (Kd.int .i64) w A1_2 l1_2.length l1_2) (hc1_2 : l1_2.length ≤ c1_2) (h : commodatumref10_ValidProgram.f k l0 a1_0 l1_1 l1_2 = some r) :
  Calls Try.prog 14 #[.slice A0 l0.length c0, .agg #[.int .i64 a1_0, .slice A1_1 l1_1.length c1_1, .slice A1_2 l1_2.length c1_2]] w fun e w' => e = .returned (.bool r) ∧ Below w.heap.size w w' := by
 have hu34 := Try.underlying34
 have hu64 := Try.underlying64
 have HR0 := Aside0.mk hr0
 have HC0 := Aside0.mk hc0
 clear hr0 hc0
 have HR1_1 := Aside0.mk hr1_1
 have HC1_1 := Aside0.mk hc1_1
 clear hr1_1 hc1_1
 have HR1_2 := Aside0.mk hr1_2
 have HC1_2 := Aside0.mk hc1_2
 clear hr1_2 hc1_2
 have HB := Aside0.mk (Below.refl w.heap.size w)
 have H : (if a1_0 < 0 then (commodatumref10_ValidProgram.j0 k (l0.length : Int) true a1_0 l1_1 l1_2) else (if a1_0 > 16 then (commodatumref10_ValidProgram.j0 k (l0.length : Int) true a1_0 l1_1 l1_2) else (commodatumref10_ValidProgram.j0 k (l0.length : Int) (decide ((l1_1.length : Int) > 200000)) a1_0 l1_1 l1_2))) = some r := h
 clear h
 have HC3 := Aside0.mk H
 clear H
 go_enter Try.func14, Try.ntmps14
 go_upto_region 2 with (first | ((with_reducible refine gate_dst (N := 3) rfl ?_); (try (refine gate_guard (by rfl) ?_; dsimp only)); refine box_event ?hg (N := 3) ?hd (cs := #[.int .i64 a1_0, .slice A1_1 l1_1.length c1_1, .slice A1_2 l1_2.length c1_2]) (t := 34) ?hr ?_; (case hd => rfl); (case hg => rfl); (case hr => first | (go_simp; done) | (go_simp; rfl)); intro gb347 hg w4 hbox hb; have n0_ := Aside0.mk (below_step (by repeat (first | (with_reducible first | exact HB.out | apply below_alloc | apply pw_below_drewN | apply below_drew1) | exact HB.out)) hb); have n1_ := Aside0.mk (hbox); have n2_ := Aside0.mk ((by rw [hg]; exact (below_size (by repeat (first | (with_reducible first | exact HB.out | apply below_alloc | apply pw_below_drewN | apply below_drew1) | exact HB.out))) : w.heap.size ≤ gb347)); have n3_ := Aside0.mk ((by rw [hg]; exact (below_size (by repeat (first | (with_reducible first | exact HB.out | apply below_alloc | apply pw_below_drewN | apply below_drew1) | exact HB.out))) : w.heap.size ≤ gb347)); clear HB; have HB := n0_; have BK347 := n1_; have GW347 := n2_; have GE347 := n3_; clear n0_ n1_ n2_ n3_; clear hb hbox hg))
 repeat (go_quiet (first | ((with_reducible refine gate_dst (N := 3) rfl ?_); (try (refine gate_guard (by rfl) ?_; dsimp only)); refine box_event ?hg (N := 3) ?hd (cs := #[.int .i64 a1_0, .slice A1_1 l1_1.length c1_1, .slice A1_2 l1_2.length c1_2]) (t := 34) ?hr ?_; (case hd => rfl); (case hg => rfl); (case hr => first | (go_simp; done) | (go_simp; rfl)); intro gb347 hg w4 hbox hb; have n0_ := Aside0.mk (below_step (by repeat (first | (with_reducible first | exact HB.out | apply below_alloc | apply pw_below_drewN | apply below_drew1) | exact HB.out)) hb); have n1_ := Aside0.mk (hbox); have n2_ := Aside0.mk ((by rw [hg]; exact (below_size (by repeat (first | (with_reducible first | exact HB.out | apply below_alloc | apply pw_below_drewN | apply below_drew1) | exact HB.out))) : w.heap.size ≤ gb347)); have n3_ := Aside0.mk ((by rw [hg]; exact (below_size (by repeat (first | (with_reducible first | exact HB.out | apply below_alloc | apply pw_below_drewN | apply below_drew1) | exact HB.out))) : w.heap.size ≤ gb347)); clear HB; have HB := n0_; have BK347 := n1_; have GW347 := n2_; have GE347 := n3_; clear n0_ n1_ n2_ n3_; clear hb hbox hg)); go_upto_region 2 with (first | ((with_reducible refine gate_dst (N := 3) rfl ?_); (try (refine gate_guard (by rfl) ?_; dsimp only)); refine box_event ?hg (N := 3) ?hd (cs := #[.int .i64 a1_0, .slice A1_1 l1_1.length c1_1, .slice A1_2 l1_2.length c1_2]) (t := 34) ?hr ?_; (case hd => rfl); (case hg => rfl); (case hr => first | (go_simp; done) | (go_simp; rfl)); intro gb347 hg w4 hbox hb; have n0_ := Aside0.mk (below_step (by repeat (first | (with_reducible first | exact HB.out | apply below_alloc | apply pw_below_drewN | apply below_drew1) | exact HB.out)) hb); have n1_ := Aside0.mk (hbox); have n2_ := Aside0.mk ((by rw [hg]; exact (below_size (by repeat (first | (with_reducible first | exact HB.out | apply below_alloc | apply pw_below_drewN | apply below_drew1) | exact HB.out))) : w.heap.size ≤ gb347)); have n3_ := Aside0.mk ((by rw [hg]; exact (below_size (by repeat (first | (with_reducible first | exact HB.out | apply below_alloc | apply pw_below_drewN | apply below_drew1) | exact HB.out))) : w.heap.size ≤ gb347)); clear HB; have HB := n0_; have BK347 := n1_; have GW347 := n2_; have GE347 := n3_; clear n0_ n1_ n2_ n3_; clear hb hbox hg)))
 (try simp only [Act.put, List.setIfInBounds_toArray, List.set_cons_zero, List.set_cons_succ])
 go_cut [24] (fun v24 wc => ∃ (kq : Nat) (x24_2 : Bool), v24 = .bool x24_2 ∧ Aside0 (commodatumref10_ValidProgram.j0 kq (l0.length : Int) x24_2 a1_0 l1_1 l1_2 = some r) ∧ Aside0 (kq ≤ k) ∧ Aside0 (wc.heap[gb347]? = some (.cells #[.int .i64 a1_0, (.slice A1_1 l1_1.length c1_1), (.slice A1_2 l1_2.length c1_2)] 34 (0, 0))) ∧ Aside0 (Below w.heap.size w wc))
 case first =>
  have H := HC3.out
  clear HC3
  by_cases c5 : a1_0 < 0
  ·rw [if_pos c5] at H
   have c5b0 : decide (a1_0 < 0) = true := decide_eq_true c5
   clear c5
   (first | rw [c5b0] | (simp only [i64_w, i32_w]; rw [c5b0]) | skip)
   have H' := Aside0.mk H
   clear H
   have hcz6_0 : w4.cell? ⟨gb347, 0, none⟩ = some (.int .i64 a1_0) := (blk_cell BK347.out 0).trans rfl
   have hcz6_1 : w4.cell? ⟨gb347, 1, none⟩ = some (.slice A1_1 l1_1.length c1_1) := (blk_cell BK347.out 1).trans rfl
   have hcz6_2 : w4.cell? ⟨gb347, 2, none⟩ = some (.slice A1_2 l1_2.length c1_2) := (blk_cell BK347.out 2).trans rfl
   have hfz6_0 := blk_frozen BK347.out 0
   have hfz6_1 := blk_frozen BK347.out 1
   have hfz6_2 := blk_frozen BK347.out 2
   go_wp2
   repeat (go_quiet (fail); try go_wp2)
   go_meet
   case rel => exact ⟨_, (true), (by first | rfl | (simp; done) | (simp [*]; done)), H', ⟨by first | omega | exact Nat.le_refl _⟩, ⟨by repeat (first | (with_reducible first | exact BK347.out | refine blk_drewN ?_ _ | refine blk_drew ?_ | refine blk_alloc ?_ _) | exact BK347.out)⟩, ⟨by repeat (first | (with_reducible first | exact HB.out | apply below_alloc | apply pw_below_drewN | apply below_drew1 | refine below_set ?_ GE347.out) | exact HB.out)⟩⟩
  ·rw [if_neg c5] at H
   have c5b0 : decide (a1_0 < 0) = false := decide_eq_false c5
   clear c5
   (first | rw [c5b0] | (simp only [i64_w, i32_w]; rw [c5b0]) | skip)
   by_cases c7 : a1_0 > 16
   ·rw [if_pos c7] at H
    have c7b0 : decide (16 < a1_0) = true := decide_eq_true c7
    clear c7
    have H' := Aside0.mk H
    clear H
    have hcz8_0 : w4.cell? ⟨gb347, 0, none⟩ = some (.int .i64 a1_0) := (blk_cell BK347.out 0).trans rfl
    have hcz8_1 : w4.cell? ⟨gb347, 1, none⟩ = some (.slice A1_1 l1_1.length c1_1) := (blk_cell BK347.out 1).trans rfl
    have hcz8_2 : w4.cell? ⟨gb347, 2, none⟩ = some (.slice A1_2 l1_2.length c1_2) := (blk_cell BK347.out 2).trans rfl
    have hfz8_0 := blk_frozen BK347.out 0
    have hfz8_1 := blk_frozen BK347.out 1
    have hfz8_2 := blk_frozen BK347.out 2
    go_wp2
    repeat (go_quiet (fail); try go_wp2)
    go_meet
    case rel => exact ⟨_, (true), (by first | rfl | (simp; done) | (simp [*]; done)), H', ⟨by first | omega | exact Nat.le_refl _⟩, ⟨by repeat (first | (with_reducible first | exact BK347.out | refine blk_drewN ?_ _ | refine blk_drew ?_ | refine blk_alloc ?_ _) | exact BK347.out)⟩, ⟨by repeat (first | (with_reducible first | exact HB.out | apply below_alloc | apply pw_below_drewN | apply below_drew1 | refine below_set ?_ GE347.out) | exact HB.out)⟩⟩
   ·rw [if_neg c7] at H
    have c7b0 : decide (16 < a1_0) = false := decide_eq_false c7
    clear c7
    have H' := Aside0.mk H
    clear H
    have hcz9_0 : w4.cell? ⟨gb347, 0, none⟩ = some (.int .i64 a1_0) := (blk_cell BK347.out 0).trans rfl
    have hcz9_1 : w4.cell? ⟨gb347, 1, none⟩ = some (.slice A1_1 l1_1.length c1_1) := (blk_cell BK347.out 1).trans rfl
    have hcz9_2 : w4.cell? ⟨gb347, 2, none⟩ = some (.slice A1_2 l1_2.length c1_2) := (blk_cell BK347.out 2).trans rfl
    have hfz9_0 := blk_frozen BK347.out 0
    have hfz9_1 := blk_frozen BK347.out 1
    have hfz9_2 := blk_frozen BK347.out 2
    go_wp2
    repeat (go_quiet (fail); try go_wp2)
    go_meet
    case rel => exact ⟨_, (decide ((l1_1.length : Int) > 200000)), (by first | rfl | (simp; done) | (simp [*]; done)), H', ⟨by first | omega | exact Nat.le_refl _⟩, ⟨by repeat (first | (with_reducible first | exact BK347.out | refine blk_drewN ?_ _ | refine blk_drew ?_ | refine blk_alloc ?_ _) | exact BK347.out)⟩, ⟨by repeat (first | (with_reducible first | exact HB.out | apply below_alloc | apply pw_below_drewN | apply below_drew1 | refine below_set ?_ GE347.out) | exact HB.out)⟩⟩
 case rest => as_aux_lemma =>
  clear HC3
  (try clear c1); (try clear p2); (try clear c5); (try clear c5b0); (try clear c7); (try clear c7b0); (try clear hcz6_0); (try clear hcz6_1); (try clear hcz6_2); (try clear hcz8_0); (try clear hcz8_1); (try clear hcz8_2); (try clear hcz9_0); (try clear hcz9_1); (try clear hcz9_2); (try clear hfz6_0); (try clear hfz6_1); (try clear hfz6_2); (try clear hfz8_0); (try clear hfz8_1); (try clear hfz8_2); (try clear hfz9_0); (try clear hfz9_1); (try clear hfz9_2)
  obtain ⟨kq, x24_2, rfl, HA, HJ2, BK347, HB⟩ := hcut
  cases kq with
  | zero => exact absurd HA.out (by simp [commodatumref10_ValidProgram.j0])
  | succ kj2 =>
   have H := HA.out
   clear HA
   simp only [commodatumref10_ValidProgram.j0] at H
   by_cases c10 : x24_2 = true
   ·subst c10
    have H1 : (some false) = some r := by rw [if_pos rfl] at H; exact H
    clear H
    have H := H1
    clear H1
    obtain rfl := Option.some.inj H
    go_wp2
    repeat (go_quiet (fail); try go_wp2)
    go_ret
    exact ⟨by first | rfl | (simp [errW_none, errW_some] <;> rfl) | (simp [*, errW_none, errW_some] <;> rfl), by repeat (first | (with_reducible first | exact HB.out | apply below_alloc | apply pw_below_drewN | apply below_drew1 | refine below_set ?_ GE347.out) | exact HB.out)⟩
   ·replace c10 := Bool.eq_false_iff.mpr c10
    subst c10
    have H1 : (commodatumref10_ValidProgram.l0 kj2 (l0.length : Int) 0 a1_0 l1_1 l1_2) = some r := by rw [if_neg (show ¬ (false = true) by decide)] at H; exact H
    clear H
    have H := H1
    clear H1
    have H' := Aside0.mk H
    clear H
    go_wp2
    repeat (go_quiet (fail); try go_wp2)
    go_loopg [6] kj2 (fun kq v6 w' => ∃ (x6_2 : Int), v6 = .int .i64 x6_2 ∧ Aside0 (commodatumref10_ValidProgram.l0 kq (l0.length : Int) x6_2 a1_0 l1_1 l1_2 = some r) ∧ Aside0 (kq ≤ kj2) ∧ Aside0 (w'.heap[gb347]? = some (.cells #[.int .i64 a1_0, (.slice A1_1 l1_1.length c1_1), (.slice A1_2 l1_2.length c1_2)] 34 (0, 0))) ∧ Aside0 (Below w.heap.size w w'))
    case atStart => exact ⟨(0), (by first | rfl | (simp; done) | (simp [*]; done)), H', ⟨Nat.le_refl _⟩, ⟨by repeat (first | (with_reducible first | exact BK347.out | refine blk_drewN ?_ _ | refine blk_drew ?_ | refine blk_alloc ?_ _) | exact BK347.out)⟩, ⟨by repeat (first | (with_reducible first | exact HB.out | apply below_alloc | apply pw_below_drewN | apply below_drew1 | refine below_set ?_ GE347.out) | exact HB.out)⟩⟩
    case round => as_aux_lemma =>
     clear H'
     (try clear c1); (try clear p2); (try clear c5); (try clear c5b0); (try clear c7); (try clear c7b0); (try clear c10); (try clear hcz6_0); (try clear hcz6_1); (try clear hcz6_2); (try clear hcz8_0); (try clear hcz8_1); (try clear hcz8_2); (try clear hcz9_0); (try clear hcz9_1); (try clear hcz9_2); (try clear hfz6_0); (try clear hfz6_1); (try clear hfz6_2); (try clear hfz8_0); (try clear hfz8_1); (try clear hfz8_2); (try clear hfz9_0); (try clear hfz9_1); (try clear hfz9_2); (try clear p2)
     obtain ⟨x6_2, rfl, HA, HK2, BK347, HB⟩ := hrel
     cases gk with
     | zero => exact absurd HA.out (by simp [commodatumref10_ValidProgram.l0])
     | succ k2 =>
      have H := HA.out
      clear HA
      simp only [commodatumref10_ValidProgram.l0] at H
      by_cases c11 : x6_2 < (l1_1.length : Int)
      ·rw [if_pos c11] at H
       have c11b0 : decide (x6_2 < (l1_1.length : Int)) = true := decide_eq_true c11
       clear c11
       by_cases c12 : 0 ≤ x6_2
       ·rw [if_pos c12] at H
        have c12b0 : decide (0 ≤ x6_2) = true := decide_eq_true c12
        clear c12
        have HC13 := Aside0.mk H
        clear H
        have hcz14_0 : wr.cell? ⟨gb347, 0, none⟩ = some (.int .i64 a1_0) := (blk_cell BK347.out 0).trans rfl
        have hcz14_1 : wr.cell? ⟨gb347, 1, none⟩ = some (.slice A1_1 l1_1.length c1_1) := (blk_cell BK347.out 1).trans rfl
        have hcz14_2 : wr.cell? ⟨gb347, 2, none⟩ = some (.slice A1_2 l1_2.length c1_2) := (blk_cell BK347.out 2).trans rfl
        have hfz14_0 := blk_frozen BK347.out 0
        have hfz14_1 := blk_frozen BK347.out 1
        have hfz14_2 := blk_frozen BK347.out 2
        have p348 : 0 ≤ (x6_2 : Int) := odt
        have q348 : x6_2 < (l1_1.length : Int) := odt
        obtain ⟨ad348, e348, hx348_0, hx348_1, hx348_2⟩ := at_T64 HR1_1.out x6_2 p348 q348
        cases e348
        replace hx348_0 := (HB.out.cell (World.block_lt_of_cell? w _ hx348_0)).trans hx348_0
        replace hx348_1 := (HB.out.cell (World.block_lt_of_cell? w _ hx348_1)).trans hx348_1
        replace hx348_2 := (HB.out.cell (World.block_lt_of_cell? w _ hx348_2)).trans hx348_2
        replace p348 := eq_true p348
        replace q348 := eq_true q348
        go_upto_region 8 with (first | ((with_reducible refine gate_dst (N := 7) rfl ?_); (try (refine gate_guard (by rfl) ?_; dsimp only)); refine box_event ?hg (N := 7) ?hd (cs := #[.int .i64 0, .int .i64 0, .int .i64 0]) (t := 64) ?hr ?_; (case hd => rfl); (case hg => rfl); (case hr => first | (go_simp; done) | (go_simp; rfl)); intro gb349 hg w15 hbox hb; have n0_ := Aside0.mk (blk_below (g := gb347) (o := .cells #[.int .i64 a1_0, .slice (some ad348) l1_1.length c1_1, .slice A1_2 l1_2.length c1_2] 34 (0, 0)) (by repeat (first | (with_reducible first | exact BK347.out | refine blk_drewN ?_ _ | refine blk_drew ?_ | refine blk_alloc ?_ _) | exact BK347.out)) hb); have n1_ := Aside0.mk (below_step (by repeat (first | (with_reducible first | exact HB.out | apply below_alloc | apply pw_below_drewN | apply below_drew1 | refine below_set ?_ GE347.out) | exact HB.out)) hb); have n2_ := Aside0.mk (hbox); have n3_ := Aside0.mk ((by rw [hg]; exact (below_size (by repeat (first | (with_reducible first | exact HB.out | apply below_alloc | apply pw_below_drewN | apply below_drew1 | refine below_set ?_ GE347.out) | exact HB.out))) : w.heap.size ≤ gb349)); have n4_ := Aside0.mk ((by rw [hg]; exact (below_size (by repeat (first | (with_reducible first | exact HB.out | apply below_alloc | apply pw_below_drewN | apply below_drew1 | refine below_set ?_ GE347.out) | exact HB.out))) : w.heap.size ≤ gb349)); have n5_ := Aside0.mk ((by rw [hg]; exact Nat.ne_of_lt (blk_lt (g := gb347) (o := .cells #[.int .i64 a1_0, .slice (some ad348) l1_1.length c1_1, .slice A1_2 l1_2.length c1_2] 34 (0, 0)) (by repeat (first | (with_reducible first | exact BK347.out | refine blk_drewN ?_ _ | refine blk_drew ?_ | refine blk_alloc ?_ _) | exact BK347.out))) : gb347 ≠ gb349)); have n6_ := Aside0.mk ((by rw [hg]; exact Nat.ne_of_gt (blk_lt (g := gb347) (o := .cells #[.int .i64 a1_0, .slice (some ad348) l1_1.length c1_1, .slice A1_2 l1_2.length c1_2] 34 (0, 0)) (by repeat (first | (with_reducible first | exact BK347.out | refine blk_drewN ?_ _ | refine blk_drew ?_ | refine blk_alloc ?_ _) | exact BK347.out))) : gb349 ≠ gb347)); clear BK347; clear HB; have BK347 := n0_; have HB := n1_; have BK349 := n2_; have GW349 := n3_; have GE349 := n4_; have NB347_349 := n5_; have NB349_347 := n6_; clear n0_ n1_ n2_ n3_ n4_ n5_ n6_; clear hb hbox hg; have hnb16 := NB349_347.out; have hnc16 := NB347_349.out; have hcz17_0 : w15.cell? ⟨gb349, 0, none⟩ = some (.int .i64 0) := (blk_cell BK349.out 0).trans rfl; have hcz17_1 : w15.cell? ⟨gb349, 1, none⟩ = some (.int .i64 0) := (blk_cell BK349.out 1).trans rfl; have hcz17_2 : w15.cell? ⟨gb349, 2, none⟩ = some (.int .i64 0) := (blk_cell BK349.out 2).trans rfl; have hfz17_0 := blk_frozen BK349.out 0; have hfz17_1 := blk_frozen BK349.out 1; have hfz17_2 := blk_frozen BK349.out 2))
        repeat (go_quiet (first | ((with_reducible refine gate_dst (N := 7) rfl ?_); (try (refine gate_guard (by rfl) ?_; dsimp only)); refine box_event ?hg (N := 7) ?hd (cs := #[.int .i64 0, .int .i64 0, .int .i64 0]) (t := 64) ?hr ?_; (case hd => rfl); (case hg => rfl); (case hr => first | (go_simp; done) | (go_simp; rfl)); intro gb349 hg w15 hbox hb; have n0_ := Aside0.mk (blk_below (g := gb347) (o := .cells #[.int .i64 a1_0, .slice (some ad348) l1_1.length c1_1, .slice A1_2 l1_2.length c1_2] 34 (0, 0)) (by repeat (first | (with_reducible first | exact BK347.out | refine blk_drewN ?_ _ | refine blk_drew ?_ | refine blk_alloc ?_ _) | exact BK347.out)) hb); have n1_ := Aside0.mk (below_step (by repeat (first | (with_reducible first | exact HB.out | apply below_alloc | apply pw_below_drewN | apply below_drew1 | refine below_set ?_ GE347.out) | exact HB.out)) hb); have n2_ := Aside0.mk (hbox); have n3_ := Aside0.mk ((by rw [hg]; exact (below_size (by repeat (first | (with_reducible first | exact HB.out | apply below_alloc | apply pw_below_drewN | apply below_drew1 | refine below_set ?_ GE347.out) | exact HB.out))) : w.heap.size ≤ gb349)); have n4_ := Aside0.mk ((by rw [hg]; exact (below_size (by repeat (first | (with_reducible first | exact HB.out | apply below_alloc | apply pw_below_drewN | apply below_drew1 | refine below_set ?_ GE347.out) | exact HB.out))) : w.heap.size ≤ gb349)); have n5_ := Aside0.mk ((by rw [hg]; exact Nat.ne_of_lt (blk_lt (g := gb347) (o := .cells #[.int .i64 a1_0, .slice (some ad348) l1_1.length c1_1, .slice A1_2 l1_2.length c1_2] 34 (0, 0)) (by repeat (first | (with_reducible first | exact BK347.out | refine blk_drewN ?_ _ | refine blk_drew ?_ | refine blk_alloc ?_ _) | exact BK347.out))) : gb347 ≠ gb349)); have n6_ := Aside0.mk ((by rw [hg]; exact Nat.ne_of_gt (blk_lt (g := gb347) (o := .cells #[.int .i64 a1_0, .slice (some ad348) l1_1.length c1_1, .slice A1_2 l1_2.length c1_2] 34 (0, 0)) (by repeat (first | (with_reducible first | exact BK347.out | refine blk_drewN ?_ _ | refine blk_drew ?_ | refine blk_alloc ?_ _) | exact BK347.out))) : gb349 ≠ gb347)); clear BK347; clear HB; have BK347 := n0_; have HB := n1_; have BK349 := n2_; have GW349 := n3_; have GE349 := n4_; have NB347_349 := n5_; have NB349_347 := n6_; clear n0_ n1_ n2_ n3_ n4_ n5_ n6_; clear hb hbox hg; have hnb16 := NB349_347.out; have hnc16 := NB347_349.out; have hcz17_0 : w15.cell? ⟨gb349, 0, none⟩ = some (.int .i64 0) := (blk_cell BK349.out 0).trans rfl; have hcz17_1 : w15.cell? ⟨gb349, 1, none⟩ = some (.int .i64 0) := (blk_cell BK349.out 1).trans rfl; have hcz17_2 : w15.cell? ⟨gb349, 2, none⟩ = some (.int .i64 0) := (blk_cell BK349.out 2).trans rfl; have hfz17_0 := blk_frozen BK349.out 0; have hfz17_1 := blk_frozen BK349.out 1; have hfz17_2 := blk_frozen BK349.out 2)); go_upto_region 8 with (first | ((with_reducible refine gate_dst (N := 7) rfl ?_); (try (refine gate_guard (by rfl) ?_; dsimp only)); refine box_event ?hg (N := 7) ?hd (cs := #[.int .i64 0, .int .i64 0, .int .i64 0]) (t := 64) ?hr ?_; (case hd => rfl); (case hg => rfl); (case hr => first | (go_simp; done) | (go_simp; rfl)); intro gb349 hg w15 hbox hb; have n0_ := Aside0.mk (blk_below (g := gb347) (o := .cells #[.int .i64 a1_0, .slice (some ad348) l1_1.length c1_1, .slice A1_2 l1_2.length c1_2] 34 (0, 0)) (by repeat (first | (with_reducible first | exact BK347.out | refine blk_drewN ?_ _ | refine blk_drew ?_ | refine blk_alloc ?_ _) | exact BK347.out)) hb); have n1_ := Aside0.mk (below_step (by repeat (first | (with_reducible first | exact HB.out | apply below_alloc | apply pw_below_drewN | apply below_drew1 | refine below_set ?_ GE347.out) | exact HB.out)) hb); have n2_ := Aside0.mk (hbox); have n3_ := Aside0.mk ((by rw [hg]; exact (below_size (by repeat (first | (with_reducible first | exact HB.out | apply below_alloc | apply pw_below_drewN | apply below_drew1 | refine below_set ?_ GE347.out) | exact HB.out))) : w.heap.size ≤ gb349)); have n4_ := Aside0.mk ((by rw [hg]; exact (below_size (by repeat (first | (with_reducible first | exact HB.out | apply below_alloc | apply pw_below_drewN | apply below_drew1 | refine below_set ?_ GE347.out) | exact HB.out))) : w.heap.size ≤ gb349)); have n5_ := Aside0.mk ((by rw [hg]; exact Nat.ne_of_lt (blk_lt (g := gb347) (o := .cells #[.int .i64 a1_0, .slice (some ad348) l1_1.length c1_1, .slice A1_2 l1_2.length c1_2] 34 (0, 0)) (by repeat (first | (with_reducible first | exact BK347.out | refine blk_drewN ?_ _ | refine blk_drew ?_ | refine blk_alloc ?_ _) | exact BK347.out))) : gb347 ≠ gb349)); have n6_ := Aside0.mk ((by rw [hg]; exact Nat.ne_of_gt (blk_lt (g := gb347) (o := .cells #[.int .i64 a1_0, .slice (some ad348) l1_1.length c1_1, .slice A1_2 l1_2.length c1_2] 34 (0, 0)) (by repeat (first | (with_reducible first | exact BK347.out | refine blk_drewN ?_ _ | refine blk_drew ?_ | refine blk_alloc ?_ _) | exact BK347.out))) : gb349 ≠ gb347)); clear BK347; clear HB; have BK347 := n0_; have HB := n1_; have BK349 := n2_; have GW349 := n3_; have GE349 := n4_; have NB347_349 := n5_; have NB349_347 := n6_; clear n0_ n1_ n2_ n3_ n4_ n5_ n6_; clear hb hbox hg; have hnb16 := NB349_347.out; have hnc16 := NB347_349.out; have hcz17_0 : w15.cell? ⟨gb349, 0, none⟩ = some (.int .i64 0) := (blk_cell BK349.out 0).trans rfl; have hcz17_1 : w15.cell? ⟨gb349, 1, none⟩ = some (.int .i64 0) := (blk_cell BK349.out 1).trans rfl; have hcz17_2 : w15.cell? ⟨gb349, 2, none⟩ = some (.int .i64 0) := (blk_cell BK349.out 2).trans rfl; have hfz17_0 := blk_frozen BK349.out 0; have hfz17_1 := blk_frozen BK349.out 1; have hfz17_2 := blk_frozen BK349.out 2)))
        (try simp only [Act.put, List.setIfInBounds_toArray, List.set_cons_zero, List.set_cons_succ])
        go_cut [68] (fun v68 wc => ∃ (kq : Nat) (x68_12 : Bool), v68 = .bool x68_12 ∧ Aside0 (commodatumref10_ValidProgram.j2 kq (l0.length : Int) x6_2 x68_12 a1_0 l1_1 l1_2 = some r) ∧ Aside0 (kq ≤ k2) ∧ Aside0 (wc.heap[gb347]? = some (.cells #[.int .i64 a1_0, (.slice (some ad348) l1_1.length c1_1), (.slice A1_2 l1_2.length c1_2)] 34 (0, 0))) ∧ Aside0 (wc.heap[gb349]? = some (.cells #[.int .i64 ((rd_T64 l1_1 x6_2).f0), .int .i64 ((rd_T64 l1_1 x6_2).f1), .int .i64 ((rd_T64 l1_1 x6_2).f2)] 64 (0, 0))) ∧ Aside0 (Below w.heap.size w wc))
        case first =>
         have H := HC13.out
         clear HC13
         by_cases c18 : ((rd_T64 l1_1 x6_2).f0) < 0
         ·rw [if_pos c18] at H
          have c18b0 : decide (((rd_T64 l1_1 x6_2).f0) < 0) = true := decide_eq_true c18
          clear c18
          (first | rw [c18b0] | (simp only [i64_w, i32_w]; rw [c18b0]) | skip)
          have H' := Aside0.mk H
          clear H
          have hnb19 := NB349_347.out
          have hnc19 := NB347_349.out
          have hcz20_0 : w15.cell? ⟨gb349, 0, none⟩ = some (.int .i64 0) := (blk_cell BK349.out 0).trans rfl
          have hcz20_1 : w15.cell? ⟨gb349, 1, none⟩ = some (.int .i64 0) := (blk_cell BK349.out 1).trans rfl
          have hcz20_2 : w15.cell? ⟨gb349, 2, none⟩ = some (.int .i64 0) := (blk_cell BK349.out 2).trans rfl
          have hfz20_0 := blk_frozen BK349.out 0
          have hfz20_1 := blk_frozen BK349.out 1
          have hfz20_2 := blk_frozen BK349.out 2
          go_wp2
          repeat (go_quiet (fail); try go_wp2)
          go_meet
          case rel => exact ⟨_, (true), (by first | rfl | (simp; done) | (simp [*]; done)), H', ⟨by have := HJ2.out; have := HK2.out; first | omega | exact Nat.le_refl _⟩, ⟨by (with_reducible repeat (first | refine blk_drewN ?_ _ | refine blk_drew ?_ | refine blk_alloc ?_ _)); refine blk_far ?_ NB347_349.out _; (with_reducible repeat (first | refine blk_drewN ?_ _ | refine blk_drew ?_ | refine blk_alloc ?_ _)); refine blk_far ?_ NB347_349.out _; (with_reducible repeat (first | refine blk_drewN ?_ _ | refine blk_drew ?_ | refine blk_alloc ?_ _)); refine blk_far ?_ NB347_349.out _; repeat (first | (with_reducible first | exact BK347.out | refine blk_drewN ?_ _ | refine blk_drew ?_ | refine blk_alloc ?_ _) | exact BK347.out)⟩, ⟨by (with_reducible repeat (first | refine blk_drewN ?_ _ | refine blk_drew ?_ | refine blk_alloc ?_ _)); refine blk_put (cs := #[.int .i64 ((rd_T64 l1_1 x6_2).f0), .int .i64 ((rd_T64 l1_1 x6_2).f1), .int .i64 0]) ?_ 2 _ rfl; (with_reducible repeat (first | refine blk_drewN ?_ _ | refine blk_drew ?_ | refine blk_alloc ?_ _)); refine blk_put (cs := #[.int .i64 ((rd_T64 l1_1 x6_2).f0), .int .i64 0, .int .i64 0]) ?_ 1 _ rfl; (with_reducible repeat (first | refine blk_drewN ?_ _ | refine blk_drew ?_ | refine blk_alloc ?_ _)); refine blk_put (cs := #[.int .i64 0, .int .i64 0, .int .i64 0]) ?_ 0 _ rfl; repeat (first | (with_reducible first | exact BK349.out | refine blk_drewN ?_ _ | refine blk_drew ?_ | refine blk_alloc ?_ _) | exact BK349.out)⟩, ⟨by repeat (first | (with_reducible first | exact HB.out | apply below_alloc | apply pw_below_drewN | apply below_drew1 | refine below_set ?_ GE347.out | refine below_set ?_ GE349.out) | exact HB.out)⟩⟩
         ·rw [if_neg c18] at H
          have c18b0 : decide (((rd_T64 l1_1 x6_2).f0) < 0) = false := decide_eq_false c18
          clear c18
          (first | rw [c18b0] | (simp only [i64_w, i32_w]; rw [c18b0]) | skip)
          by_cases c21 : ((rd_T64 l1_1 x6_2).f0) ≥ a1_0
          ·rw [if_pos c21] at H
           have c21b0 : decide (a1_0 ≤ ((rd_T64 l1_1 x6_2).f0)) = true := decide_eq_true c21
           clear c21
           have H' := Aside0.mk H
           clear H
           have hnb22 := NB349_347.out
           have hnc22 := NB347_349.out
           have hcz23_0 : w15.cell? ⟨gb349, 0, none⟩ = some (.int .i64 0) := (blk_cell BK349.out 0).trans rfl
           have hcz23_1 : w15.cell? ⟨gb349, 1, none⟩ = some (.int .i64 0) := (blk_cell BK349.out 1).trans rfl
           have hcz23_2 : w15.cell? ⟨gb349, 2, none⟩ = some (.int .i64 0) := (blk_cell BK349.out 2).trans rfl
           have hfz23_0 := blk_frozen BK349.out 0
           have hfz23_1 := blk_frozen BK349.out 1
           have hfz23_2 := blk_frozen BK349.out 2
           have hcz24_0 : w15.cell? ⟨gb347, 0, none⟩ = some (.int .i64 a1_0) := (blk_cell BK347.out 0).trans rfl
           have hcz24_1 : w15.cell? ⟨gb347, 1, none⟩ = some (.slice (some ad348) l1_1.length c1_1) := (blk_cell BK347.out 1).trans rfl
           have hcz24_2 : w15.cell? ⟨gb347, 2, none⟩ = some (.slice A1_2 l1_2.length c1_2) := (blk_cell BK347.out 2).trans rfl
           have hfz24_0 := blk_frozen BK347.out 0
           have hfz24_1 := blk_frozen BK347.out 1
           have hfz24_2 := blk_frozen BK347.out 2
           go_wp2
           repeat (go_quiet (fail); try go_wp2)
           go_meet
           case rel => exact ⟨_, (true), (by first | rfl | (simp; done) | (simp [*]; done)), H', ⟨by have := HJ2.out; have := HK2.out; first | omega | exact Nat.le_refl _⟩, ⟨by (with_reducible repeat (first | refine blk_drewN ?_ _ | refine blk_drew ?_ | refine blk_alloc ?_ _)); refine blk_far ?_ NB347_349.out _; (with_reducible repeat (first | refine blk_drewN ?_ _ | refine blk_drew ?_ | refine blk_alloc ?_ _)); refine blk_far ?_ NB347_349.out _; (with_reducible repeat (first | refine blk_drewN ?_ _ | refine blk_drew ?_ | refine blk_alloc ?_ _)); refine blk_far ?_ NB347_349.out _; repeat (first | (with_reducible first | exact BK347.out | refine blk_drewN ?_ _ | refine blk_drew ?_ | refine blk_alloc ?_ _) | exact BK347.out)⟩, ⟨by (with_reducible repeat (first | refine blk_drewN ?_ _ | refine blk_drew ?_ | refine blk_alloc ?_ _)); refine blk_put (cs := #[.int .i64 ((rd_T64 l1_1 x6_2).f0), .int .i64 ((rd_T64 l1_1 x6_2).f1), .int .i64 0]) ?_ 2 _ rfl; (with_reducible repeat (first | refine blk_drewN ?_ _ | refine blk_drew ?_ | refine blk_alloc ?_ _)); refine blk_put (cs := #[.int .i64 ((rd_T64 l1_1 x6_2).f0), .int .i64 0, .int .i64 0]) ?_ 1 _ rfl; (with_reducible repeat (first | refine blk_drewN ?_ _ | refine blk_drew ?_ | refine blk_alloc ?_ _)); refine blk_put (cs := #[.int .i64 0, .int .i64 0, .int .i64 0]) ?_ 0 _ rfl; repeat (first | (with_reducible first | exact BK349.out | refine blk_drewN ?_ _ | refine blk_drew ?_ | refine blk_alloc ?_ _) | exact BK349.out)⟩, ⟨by repeat (first | (with_reducible first | exact HB.out | apply below_alloc | apply pw_below_drewN | apply below_drew1 | refine below_set ?_ GE347.out | refine below_set ?_ GE349.out) | exact HB.out)⟩⟩
          ·rw [if_neg c21] at H
           have c21b0 : decide (a1_0 ≤ ((rd_T64 l1_1 x6_2).f0)) = false := decide_eq_false c21
           clear c21
           by_cases c25 : ((rd_T64 l1_1 x6_2).f1) < 0
           ·rw [if_pos c25] at H
            have c25b0 : decide (((rd_T64 l1_1 x6_2).f1) < 0) = true := decide_eq_true c25
            clear c25
            have H' := Aside0.mk H
            clear H
            have hnb26 := NB349_347.out
            have hnc26 := NB347_349.out
            have hcz27_0 : w15.cell? ⟨gb349, 0, none⟩ = some (.int .i64 0) := (blk_cell BK349.out 0).trans rfl
            have hcz27_1 : w15.cell? ⟨gb349, 1, none⟩ = some (.int .i64 0) := (blk_cell BK349.out 1).trans rfl
            have hcz27_2 : w15.cell? ⟨gb349, 2, none⟩ = some (.int .i64 0) := (blk_cell BK349.out 2).trans rfl
            have hfz27_0 := blk_frozen BK349.out 0
            have hfz27_1 := blk_frozen BK349.out 1
            have hfz27_2 := blk_frozen BK349.out 2
            have hcz28_0 : w15.cell? ⟨gb347, 0, none⟩ = some (.int .i64 a1_0) := (blk_cell BK347.out 0).trans rfl
            have hcz28_1 : w15.cell? ⟨gb347, 1, none⟩ = some (.slice (some ad348) l1_1.length c1_1) := (blk_cell BK347.out 1).trans rfl
            have hcz28_2 : w15.cell? ⟨gb347, 2, none⟩ = some (.slice A1_2 l1_2.length c1_2) := (blk_cell BK347.out 2).trans rfl
            have hfz28_0 := blk_frozen BK347.out 0
            have hfz28_1 := blk_frozen BK347.out 1
            have hfz28_2 := blk_frozen BK347.out 2
            go_wp2
            repeat (go_quiet (fail); try go_wp2)
            go_meet
            case rel => exact ⟨_, (true), (by first | rfl | (simp; done) | (simp [*]; done)), H', ⟨by have := HJ2.out; have := HK2.out; first | omega | exact Nat.le_refl _⟩, ⟨by (with_reducible repeat (first | refine blk_drewN ?_ _ | refine blk_drew ?_ | refine blk_alloc ?_ _)); refine blk_far ?_ NB347_349.out _; (with_reducible repeat (first | refine blk_drewN ?_ _ | refine blk_drew ?_ | refine blk_alloc ?_ _)); refine blk_far ?_ NB347_349.out _; (with_reducible repeat (first | refine blk_drewN ?_ _ | refine blk_drew ?_ | refine blk_alloc ?_ _)); refine blk_far ?_ NB347_349.out _; repeat (first | (with_reducible first | exact BK347.out | refine blk_drewN ?_ _ | refine blk_drew ?_ | refine blk_alloc ?_ _) | exact BK347.out)⟩, ⟨by (with_reducible repeat (first | refine blk_drewN ?_ _ | refine blk_drew ?_ | refine blk_alloc ?_ _)); refine blk_put (cs := #[.int .i64 ((rd_T64 l1_1 x6_2).f0), .int .i64 ((rd_T64 l1_1 x6_2).f1), .int .i64 0]) ?_ 2 _ rfl; (with_reducible repeat (first | refine blk_drewN ?_ _ | refine blk_drew ?_ | refine blk_alloc ?_ _)); refine blk_put (cs := #[.int .i64 ((rd_T64 l1_1 x6_2).f0), .int .i64 0, .int .i64 0]) ?_ 1 _ rfl; (with_reducible repeat (first | refine blk_drewN ?_ _ | refine blk_drew ?_ | refine blk_alloc ?_ _)); refine blk_put (cs := #[.int .i64 0, .int .i64 0, .int .i64 0]) ?_ 0 _ rfl; repeat (first | (with_reducible first | exact BK349.out | refine blk_drewN ?_ _ | refine blk_drew ?_ | refine blk_alloc ?_ _) | exact BK349.out)⟩, ⟨by repeat (first | (with_reducible first | exact HB.out | apply below_alloc | apply pw_below_drewN | apply below_drew1 | refine below_set ?_ GE347.out | refine below_set ?_ GE349.out) | exact HB.out)⟩⟩
           ·rw [if_neg c25] at H
            have c25b0 : decide (((rd_T64 l1_1 x6_2).f1) < 0) = false := decide_eq_false c25
            clear c25
            by_cases c29 : ((rd_T64 l1_1 x6_2).f1) ≥ (l0.length : Int)
            ·rw [if_pos c29] at H
             have c29b0 : decide ((l0.length : Int) ≤ ((rd_T64 l1_1 x6_2).f1)) = true := decide_eq_true c29
             clear c29
             have H' := Aside0.mk H
             clear H
             have hnb30 := NB349_347.out
             have hnc30 := NB347_349.out
             have hcz31_0 : w15.cell? ⟨gb349, 0, none⟩ = some (.int .i64 0) := (blk_cell BK349.out 0).trans rfl
             have hcz31_1 : w15.cell? ⟨gb349, 1, none⟩ = some (.int .i64 0) := (blk_cell BK349.out 1).trans rfl
             have hcz31_2 : w15.cell? ⟨gb349, 2, none⟩ = some (.int .i64 0) := (blk_cell BK349.out 2).trans rfl
             have hfz31_0 := blk_frozen BK349.out 0
             have hfz31_1 := blk_frozen BK349.out 1
             have hfz31_2 := blk_frozen BK349.out 2
             have hcz32_0 : w15.cell? ⟨gb347, 0, none⟩ = some (.int .i64 a1_0) := (blk_cell BK347.out 0).trans rfl
             have hcz32_1 : w15.cell? ⟨gb347, 1, none⟩ = some (.slice (some ad348) l1_1.length c1_1) := (blk_cell BK347.out 1).trans rfl
             have hcz32_2 : w15.cell? ⟨gb347, 2, none⟩ = some (.slice A1_2 l1_2.length c1_2) := (blk_cell BK347.out 2).trans rfl
             have hfz32_0 := blk_frozen BK347.out 0
             have hfz32_1 := blk_frozen BK347.out 1
             have hfz32_2 := blk_frozen BK347.out 2
             go_wp2
             repeat (go_quiet (fail); try go_wp2)
             go_meet
             case rel => exact ⟨_, (true), (by first | rfl | (simp; done) | (simp [*]; done)), H', ⟨by have := HJ2.out; have := HK2.out; first | omega | exact Nat.le_refl _⟩, ⟨by (with_reducible repeat (first | refine blk_drewN ?_ _ | refine blk_drew ?_ | refine blk_alloc ?_ _)); refine blk_far ?_ NB347_349.out _; (with_reducible repeat (first | refine blk_drewN ?_ _ | refine blk_drew ?_ | refine blk_alloc ?_ _)); refine blk_far ?_ NB347_349.out _; (with_reducible repeat (first | refine blk_drewN ?_ _ | refine blk_drew ?_ | refine blk_alloc ?_ _)); refine blk_far ?_ NB347_349.out _; repeat (first | (with_reducible first | exact BK347.out | refine blk_drewN ?_ _ | refine blk_drew ?_ | refine blk_alloc ?_ _) | exact BK347.out)⟩, ⟨by (with_reducible repeat (first | refine blk_drewN ?_ _ | refine blk_drew ?_ | refine blk_alloc ?_ _)); refine blk_put (cs := #[.int .i64 ((rd_T64 l1_1 x6_2).f0), .int .i64 ((rd_T64 l1_1 x6_2).f1), .int .i64 0]) ?_ 2 _ rfl; (with_reducible repeat (first | refine blk_drewN ?_ _ | refine blk_drew ?_ | refine blk_alloc ?_ _)); refine blk_put (cs := #[.int .i64 ((rd_T64 l1_1 x6_2).f0), .int .i64 0, .int .i64 0]) ?_ 1 _ rfl; (with_reducible repeat (first | refine blk_drewN ?_ _ | refine blk_drew ?_ | refine blk_alloc ?_ _)); refine blk_put (cs := #[.int .i64 0, .int .i64 0, .int .i64 0]) ?_ 0 _ rfl; repeat (first | (with_reducible first | exact BK349.out | refine blk_drewN ?_ _ | refine blk_drew ?_ | refine blk_alloc ?_ _) | exact BK349.out)⟩, ⟨by repeat (first | (with_reducible first | exact HB.out | apply below_alloc | apply pw_below_drewN | apply below_drew1 | refine below_set ?_ GE347.out | refine below_set ?_ GE349.out) | exact HB.out)⟩⟩
            ·rw [if_neg c29] at H
             have c29b0 : decide ((l0.length : Int) ≤ ((rd_T64 l1_1 x6_2).f1)) = false := decide_eq_false c29
             clear c29
             by_cases c33 : ((rd_T64 l1_1 x6_2).f2) < 0
             ·rw [if_pos c33] at H
              have c33b0 : decide (((rd_T64 l1_1 x6_2).f2) < 0) = true := decide_eq_true c33
              clear c33
              have H' := Aside0.mk H
              clear H
              have hnb34 := NB349_347.out
              have hnc34 := NB347_349.out
              have hcz35_0 : w15.cell? ⟨gb349, 0, none⟩ = some (.int .i64 0) := (blk_cell BK349.out 0).trans rfl
              have hcz35_1 : w15.cell? ⟨gb349, 1, none⟩ = some (.int .i64 0) := (blk_cell BK349.out 1).trans rfl
              have hcz35_2 : w15.cell? ⟨gb349, 2, none⟩ = some (.int .i64 0) := (blk_cell BK349.out 2).trans rfl
              have hfz35_0 := blk_frozen BK349.out 0
              have hfz35_1 := blk_frozen BK349.out 1
              have hfz35_2 := blk_frozen BK349.out 2
              have hcz36_0 : w15.cell? ⟨gb347, 0, none⟩ = some (.int .i64 a1_0) := (blk_cell BK347.out 0).trans rfl
              have hcz36_1 : w15.cell? ⟨gb347, 1, none⟩ = some (.slice (some ad348) l1_1.length c1_1) := (blk_cell BK347.out 1).trans rfl
              have hcz36_2 : w15.cell? ⟨gb347, 2, none⟩ = some (.slice A1_2 l1_2.length c1_2) := (blk_cell BK347.out 2).trans rfl
              have hfz36_0 := blk_frozen BK347.out 0
              have hfz36_1 := blk_frozen BK347.out 1
              have hfz36_2 := blk_frozen BK347.out 2
              go_wp2
              repeat (go_quiet (fail); try go_wp2)
              go_meet
              case rel => exact ⟨_, (true), (by first | rfl | (simp; done) | (simp [*]; done)), H', ⟨by have := HJ2.out; have := HK2.out; first | omega | exact Nat.le_refl _⟩, ⟨by (with_reducible repeat (first | refine blk_drewN ?_ _ | refine blk_drew ?_ | refine blk_alloc ?_ _)); refine blk_far ?_ NB347_349.out _; (with_reducible repeat (first | refine blk_drewN ?_ _ | refine blk_drew ?_ | refine blk_alloc ?_ _)); refine blk_far ?_ NB347_349.out _; (with_reducible repeat (first | refine blk_drewN ?_ _ | refine blk_drew ?_ | refine blk_alloc ?_ _)); refine blk_far ?_ NB347_349.out _; repeat (first | (with_reducible first | exact BK347.out | refine blk_drewN ?_ _ | refine blk_drew ?_ | refine blk_alloc ?_ _) | exact BK347.out)⟩, ⟨by (with_reducible repeat (first | refine blk_drewN ?_ _ | refine blk_drew ?_ | refine blk_alloc ?_ _)); refine blk_put (cs := #[.int .i64 ((rd_T64 l1_1 x6_2).f0), .int .i64 ((rd_T64 l1_1 x6_2).f1), .int .i64 0]) ?_ 2 _ rfl; (with_reducible repeat (first | refine blk_drewN ?_ _ | refine blk_drew ?_ | refine blk_alloc ?_ _)); refine blk_put (cs := #[.int .i64 ((rd_T64 l1_1 x6_2).f0), .int .i64 0, .int .i64 0]) ?_ 1 _ rfl; (with_reducible repeat (first | refine blk_drewN ?_ _ | refine blk_drew ?_ | refine blk_alloc ?_ _)); refine blk_put (cs := #[.int .i64 0, .int .i64 0, .int .i64 0]) ?_ 0 _ rfl; repeat (first | (with_reducible first | exact BK349.out | refine blk_drewN ?_ _ | refine blk_drew ?_ | refine blk_alloc ?_ _) | exact BK349.out)⟩, ⟨by repeat (first | (with_reducible first | exact HB.out | apply below_alloc | apply pw_below_drewN | apply below_drew1 | refine below_set ?_ GE347.out | refine below_set ?_ GE349.out) | exact HB.out)⟩⟩
             ·rw [if_neg c33] at H
              have c33b0 : decide (((rd_T64 l1_1 x6_2).f2) < 0) = false := decide_eq_false c33
              clear c33
              have H' := Aside0.mk H
              clear H
              have hnb37 := NB349_347.out
              have hnc37 := NB347_349.out
              have hcz38_0 : w15.cell? ⟨gb349, 0, none⟩ = some (.int .i64 0) := (blk_cell BK349.out 0).trans rfl
              have hcz38_1 : w15.cell? ⟨gb349, 1, none⟩ = some (.int .i64 0) := (blk_cell BK349.out 1).trans rfl
              have hcz38_2 : w15.cell? ⟨gb349, 2, none⟩ = some (.int .i64 0) := (blk_cell BK349.out 2).trans rfl
              have hfz38_0 := blk_frozen BK349.out 0
              have hfz38_1 := blk_frozen BK349.out 1
              have hfz38_2 := blk_frozen BK349.out 2
              have hcz39_0 : w15.cell? ⟨gb347, 0, none⟩ = some (.int .i64 a1_0) := (blk_cell BK347.out 0).trans rfl
              have hcz39_1 : w15.cell? ⟨gb347, 1, none⟩ = some (.slice (some ad348) l1_1.length c1_1) := (blk_cell BK347.out 1).trans rfl
              have hcz39_2 : w15.cell? ⟨gb347, 2, none⟩ = some (.slice A1_2 l1_2.length c1_2) := (blk_cell BK347.out 2).trans rfl
              have hfz39_0 := blk_frozen BK347.out 0
              have hfz39_1 := blk_frozen BK347.out 1
              have hfz39_2 := blk_frozen BK347.out 2
              go_wp2
              repeat (go_quiet (fail); try go_wp2)
              go_meet
              case rel => exact ⟨_, (decide (((rd_T64 l1_1 x6_2).f2) ≥ (l0.length : Int))), (by first | rfl | (simp; done) | (simp [*]; done)), H', ⟨by have := HJ2.out; have := HK2.out; first | omega | exact Nat.le_refl _⟩, ⟨by (with_reducible repeat (first | refine blk_drewN ?_ _ | refine blk_drew ?_ | refine blk_alloc ?_ _)); refine blk_far ?_ NB347_349.out _; (with_reducible repeat (first | refine blk_drewN ?_ _ | refine blk_drew ?_ | refine blk_alloc ?_ _)); refine blk_far ?_ NB347_349.out _; (with_reducible repeat (first | refine blk_drewN ?_ _ | refine blk_drew ?_ | refine blk_alloc ?_ _)); refine blk_far ?_ NB347_349.out _; repeat (first | (with_reducible first | exact BK347.out | refine blk_drewN ?_ _ | refine blk_drew ?_ | refine blk_alloc ?_ _) | exact BK347.out)⟩, ⟨by (with_reducible repeat (first | refine blk_drewN ?_ _ | refine blk_drew ?_ | refine blk_alloc ?_ _)); refine blk_put (cs := #[.int .i64 ((rd_T64 l1_1 x6_2).f0), .int .i64 ((rd_T64 l1_1 x6_2).f1), .int .i64 0]) ?_ 2 _ rfl; (with_reducible repeat (first | refine blk_drewN ?_ _ | refine blk_drew ?_ | refine blk_alloc ?_ _)); refine blk_put (cs := #[.int .i64 ((rd_T64 l1_1 x6_2).f0), .int .i64 0, .int .i64 0]) ?_ 1 _ rfl; (with_reducible repeat (first | refine blk_drewN ?_ _ | refine blk_drew ?_ | refine blk_alloc ?_ _)); refine blk_put (cs := #[.int .i64 0, .int .i64 0, .int .i64 0]) ?_ 0 _ rfl; repeat (first | (with_reducible first | exact BK349.out | refine blk_drewN ?_ _ | refine blk_drew ?_ | refine blk_alloc ?_ _) | exact BK349.out)⟩, ⟨by repeat (first | (with_reducible first | exact HB.out | apply below_alloc | apply pw_below_drewN | apply below_drew1 | refine below_set ?_ GE347.out | refine below_set ?_ GE349.out) | exact HB.out)⟩⟩
        case rest => as_aux_lemma =>
         clear HC13
         (try clear c1); (try clear c2); (try clear p2); (try clear c3); (try clear p3); (try clear q3); (try clear hx3); (try clear c5); (try clear c5b0); (try clear c7); (try clear c7b0); (try clear c10); (try clear c11); (try clear c11b0); (try clear c12); (try clear c12b0); (try clear c14); (try clear c16); (try clear c18); (try clear c18b0); (try clear c19); (try clear c21); (try clear c21b0); (try clear c22); (try clear c25); (try clear c25b0); (try clear c26); (try clear c29); (try clear c29b0); (try clear c30); (try clear c33); (try clear c33b0); (try clear c34); (try clear p34); (try clear q34); (try clear hx34); (try clear c37); (try clear hcz14_0); (try clear hcz14_1); (try clear hcz14_2); (try clear hcz17_0); (try clear hcz17_1); (try clear hcz17_2); (try clear hcz20_0); (try clear hcz20_1); (try clear hcz20_2); (try clear hcz23_0); (try clear hcz23_1); (try clear hcz23_2); (try clear hcz24_0); (try clear hcz24_1); (try clear hcz24_2); (try clear hcz27_0); (try clear hcz27_1); (try clear hcz27_2); (try clear hcz28_0); (try clear hcz28_1); (try clear hcz28_2); (try clear hcz31_0); (try clear hcz31_1); (try clear hcz31_2); (try clear hcz32_0); (try clear hcz32_1); (try clear hcz32_2); (try clear hcz35_0); (try clear hcz35_1); (try clear hcz35_2); (try clear hcz36_0); (try clear hcz36_1); (try clear hcz36_2); (try clear hcz38_0); (try clear hcz38_1); (try clear hcz38_2); (try clear hcz39_0); (try clear hcz39_1); (try clear hcz39_2); (try clear hcz6_0); (try clear hcz6_1); (try clear hcz6_2); (try clear hcz8_0); (try clear hcz8_1); (try clear hcz8_2); (try clear hcz9_0); (try clear hcz9_1); (try clear hcz9_2); (try clear hfz14_0); (try clear hfz14_1); (try clear hfz14_2); (try clear hfz17_0); (try clear hfz17_1); (try clear hfz17_2); (try clear hfz20_0); (try clear hfz20_1); (try clear hfz20_2); (try clear hfz23_0); (try clear hfz23_1); (try clear hfz23_2); (try clear hfz24_0); (try clear hfz24_1); (try clear hfz24_2); (try clear hfz27_0); (try clear hfz27_1); (try clear hfz27_2); (try clear hfz28_0); (try clear hfz28_1); (try clear hfz28_2); (try clear hfz31_0); (try clear hfz31_1); (try clear hfz31_2); (try clear hfz32_0); (try clear hfz32_1); (try clear hfz32_2); (try clear hfz35_0); (try clear hfz35_1); (try clear hfz35_2); (try clear hfz36_0); (try clear hfz36_1); (try clear hfz36_2); (try clear hfz38_0); (try clear hfz38_1); (try clear hfz38_2); (try clear hfz39_0); (try clear hfz39_1); (try clear hfz39_2); (try clear hfz6_0); (try clear hfz6_1); (try clear hfz6_2); (try clear hfz8_0); (try clear hfz8_1); (try clear hfz8_2); (try clear hfz9_0); (try clear hfz9_1); (try clear hfz9_2); (try clear hx348_0); (try clear hx348_1); (try clear hx348_2); (try clear p2); (try clear p348); (try clear q348)
         obtain ⟨kq, x68_12, rfl, HA, HJ12, BK347, BK349, HB⟩ := hcut
         cases kq with
         | zero => exact absurd HA.out (by simp [commodatumref10_ValidProgram.j2])
         | succ kj12 =>
          have H := HA.out
          clear HA
          simp only [commodatumref10_ValidProgram.j2] at H
          by_cases c40 : x68_12 = true
          ·subst c40
           have H1 : (some false) = some r := by rw [if_pos rfl] at H; exact H
           clear H
           have H := H1
           clear H1
           obtain rfl := Option.some.inj H
           go_wp2
           repeat (go_quiet (fail); try go_wp2)
           go_ret
           exact ⟨by first | rfl | (simp [errW_none, errW_some] <;> rfl) | (simp [*, errW_none, errW_some] <;> rfl), by repeat (first | (with_reducible first | exact HB.out | apply below_alloc | apply pw_below_drewN | apply below_drew1 | refine below_set ?_ GE347.out | refine below_set ?_ GE349.out) | exact HB.out)⟩
          ·replace c40 := Bool.eq_false_iff.mpr c40
           subst c40
           have H1 : (commodatumref10_ValidProgram.l0 kj12 (l0.length : Int) (wrap64 (x6_2 + 1)) a1_0 l1_1 l1_2) = some r := by rw [if_neg (show ¬ (false = true) by decide)] at H; exact H
           clear H
           have H := H1
           clear H1
           have H' := Aside0.mk H
           clear H
           go_wp2
           repeat (go_quiet (fail); try go_wp2)
           go_roundg kj12
           case measure => have := HJ2.out; have := HK2.out; have := HJ12.out; omega
           case rel => exact ⟨(wrap64 (x6_2 + 1)), (by first | rfl | (simp; done) | (simp [*]; done)), H', ⟨by have := HJ2.out; have := HK2.out; have := HJ12.out; omega⟩, ⟨by repeat (first | (with_reducible first | exact BK347.out | refine blk_drewN ?_ _ | refine blk_drew ?_ | refine blk_alloc ?_ _) | exact BK347.out)⟩, ⟨by repeat (first | (with_reducible first | exact HB.out | apply below_alloc | apply pw_below_drewN | apply below_drew1 | refine below_set ?_ GE347.out | refine below_set ?_ GE349.out) | exact HB.out)⟩⟩
       ·rw [if_neg c12] at H
        exact absurd H (by simp)
      ·rw [if_neg c11] at H
       have c11b0 : decide (x6_2 < (l1_1.length : Int)) = false := decide_eq_false c11
       clear c11
       have H' := Aside0.mk H
       clear H
       have hcz41_0 : wr.cell? ⟨gb347, 0, none⟩ = some (.int .i64 a1_0) := (blk_cell BK347.out 0).trans rfl
       have hcz41_1 : wr.cell? ⟨gb347, 1, none⟩ = some (.slice A1_1 l1_1.length c1_1) := (blk_cell BK347.out 1).trans rfl
       have hcz41_2 : wr.cell? ⟨gb347, 2, none⟩ = some (.slice A1_2 l1_2.length c1_2) := (blk_cell BK347.out 2).trans rfl
       have hfz41_0 := blk_frozen BK347.out 0
       have hfz41_1 := blk_frozen BK347.out 1
       have hfz41_2 := blk_frozen BK347.out 2
       go_wp2
       repeat (go_quiet (fail); try go_wp2)
       go_loopg [8] k2 (fun kq v8 w' => ∃ (x8_3 : Int), v8 = .int .i64 x8_3 ∧ Aside0 (commodatumref10_ValidProgram.l1 kq (l0.length : Int) x8_3 a1_0 l1_1 l1_2 = some r) ∧ Aside0 (kq ≤ k2) ∧ Aside0 (w'.heap[gb347]? = some (.cells #[.int .i64 a1_0, (.slice A1_1 l1_1.length c1_1), (.slice A1_2 l1_2.length c1_2)] 34 (0, 0))) ∧ Aside0 (Below w.heap.size w w'))
       case atStart => exact ⟨(0), (by first | rfl | (simp; done) | (simp [*]; done)), H', ⟨Nat.le_refl _⟩, ⟨by repeat (first | (with_reducible first | exact BK347.out | refine blk_drewN ?_ _ | refine blk_drew ?_ | refine blk_alloc ?_ _) | exact BK347.out)⟩, ⟨by repeat (first | (with_reducible first | exact HB.out | apply below_alloc | apply pw_below_drewN | apply below_drew1 | refine below_set ?_ GE347.out) | exact HB.out)⟩⟩
       case round => as_aux_lemma =>
        clear H'
        (try clear c1); (try clear c2); (try clear p2); (try clear c3); (try clear p3); (try clear q3); (try clear hx3); (try clear c4); (try clear c5); (try clear c5b0); (try clear p6); (try clear c7); (try clear c7b0); (try clear c10); (try clear c11); (try clear c11b0); (try clear c12); (try clear c12b0); (try clear c14); (try clear c16); (try clear c18); (try clear c18b0); (try clear c19); (try clear c21); (try clear c21b0); (try clear c22); (try clear c25); (try clear c25b0); (try clear c26); (try clear c29); (try clear c29b0); (try clear c30); (try clear c33); (try clear c33b0); (try clear c34); (try clear p34); (try clear q34); (try clear hx34); (try clear c37); (try clear c40); (try clear hcz14_0); (try clear hcz14_1); (try clear hcz14_2); (try clear hcz17_0); (try clear hcz17_1); (try clear hcz17_2); (try clear hcz20_0); (try clear hcz20_1); (try clear hcz20_2); (try clear hcz23_0); (try clear hcz23_1); (try clear hcz23_2); (try clear hcz24_0); (try clear hcz24_1); (try clear hcz24_2); (try clear hcz27_0); (try clear hcz27_1); (try clear hcz27_2); (try clear hcz28_0); (try clear hcz28_1); (try clear hcz28_2); (try clear hcz31_0); (try clear hcz31_1); (try clear hcz31_2); (try clear hcz32_0); (try clear hcz32_1); (try clear hcz32_2); (try clear hcz35_0); (try clear hcz35_1); (try clear hcz35_2); (try clear hcz36_0); (try clear hcz36_1); (try clear hcz36_2); (try clear hcz38_0); (try clear hcz38_1); (try clear hcz38_2); (try clear hcz39_0); (try clear hcz39_1); (try clear hcz39_2); (try clear hcz41_0); (try clear hcz41_1); (try clear hcz41_2); (try clear hcz6_0); (try clear hcz6_1); (try clear hcz6_2); (try clear hcz8_0); (try clear hcz8_1); (try clear hcz8_2); (try clear hcz9_0); (try clear hcz9_1); (try clear hcz9_2); (try clear hfz14_0); (try clear hfz14_1); (try clear hfz14_2); (try clear hfz17_0); (try clear hfz17_1); (try clear hfz17_2); (try clear hfz20_0); (try clear hfz20_1); (try clear hfz20_2); (try clear hfz23_0); (try clear hfz23_1); (try clear hfz23_2); (try clear hfz24_0); (try clear hfz24_1); (try clear hfz24_2); (try clear hfz27_0); (try clear hfz27_1); (try clear hfz27_2); (try clear hfz28_0); (try clear hfz28_1); (try clear hfz28_2); (try clear hfz31_0); (try clear hfz31_1); (try clear hfz31_2); (try clear hfz32_0); (try clear hfz32_1); (try clear hfz32_2); (try clear hfz35_0); (try clear hfz35_1); (try clear hfz35_2); (try clear hfz36_0); (try clear hfz36_1); (try clear hfz36_2); (try clear hfz38_0); (try clear hfz38_1); (try clear hfz38_2); (try clear hfz39_0); (try clear hfz39_1); (try clear hfz39_2); (try clear hfz41_0); (try clear hfz41_1); (try clear hfz41_2); (try clear hfz6_0); (try clear hfz6_1); (try clear hfz6_2); (try clear hfz8_0); (try clear hfz8_1); (try clear hfz8_2); (try clear hfz9_0); (try clear hfz9_1); (try clear hfz9_2); (try clear hx348_0); (try clear hx348_1); (try clear hx348_2); (try clear p2); (try clear p3); (try clear p34); (try clear p348); (try clear q3); (try clear q34); (try clear q348)
        obtain ⟨x8_3, rfl, HA, HK3, BK347, HB⟩ := hrel
        cases gk with
        | zero => exact absurd HA.out (by simp [commodatumref10_ValidProgram.l1])
        | succ k3 =>
         have H := HA.out
         clear HA
         simp only [commodatumref10_ValidProgram.l1] at H
         by_cases c42 : x8_3 < (l1_2.length : Int)
         ·rw [if_pos c42] at H
          have c42b0 : decide (x8_3 < (l1_2.length : Int)) = true := decide_eq_true c42
          clear c42
          have HC43 := Aside0.mk H
          clear H
          have hcz44_0 : wr.cell? ⟨gb347, 0, none⟩ = some (.int .i64 a1_0) := (blk_cell BK347.out 0).trans rfl
          have hcz44_1 : wr.cell? ⟨gb347, 1, none⟩ = some (.slice A1_1 l1_1.length c1_1) := (blk_cell BK347.out 1).trans rfl
          have hcz44_2 : wr.cell? ⟨gb347, 2, none⟩ = some (.slice A1_2 l1_2.length c1_2) := (blk_cell BK347.out 2).trans rfl
          have hfz44_0 := blk_frozen BK347.out 0
          have hfz44_1 := blk_frozen BK347.out 1
          have hfz44_2 := blk_frozen BK347.out 2
          go_upto_region 13 with (fail)
          repeat (go_quiet (fail); go_upto_region 13 with (fail))
          go_cut [108] (fun v108 wc => ∃ (kq : Nat) (x108_42 : Bool), v108 = .bool x108_42 ∧ Aside0 (commodatumref10_ValidProgram.j4 kq (l0.length : Int) x8_3 x108_42 a1_0 l1_1 l1_2 = some r) ∧ Aside0 (kq ≤ k3) ∧ Aside0 (wc.heap[gb347]? = some (.cells #[.int .i64 a1_0, (.slice A1_1 l1_1.length c1_1), (.slice A1_2 l1_2.length c1_2)] 34 (0, 0))) ∧ Aside0 (Below w.heap.size w wc))
          case first =>
           have H := HC43.out
           clear HC43
           by_cases c45 : 0 ≤ x8_3
           ·rw [if_pos c45] at H
            have c45b0 : decide (0 ≤ x8_3) = true := decide_eq_true c45
            clear c45
            (first | rw [c45b0] | (simp only [i64_w, i32_w]; rw [c45b0]) | skip)
            by_cases c46 : (rd l1_2 x8_3) < 0
            ·rw [if_pos c46] at H
             have c46b0 : decide ((rd l1_2 x8_3) < 0) = true := decide_eq_true c46
             clear c46
             have H' := Aside0.mk H
             clear H
             have hcz47_0 : wr.cell? ⟨gb347, 0, none⟩ = some (.int .i64 a1_0) := (blk_cell BK347.out 0).trans rfl
             have hcz47_1 : wr.cell? ⟨gb347, 1, none⟩ = some (.slice A1_1 l1_1.length c1_1) := (blk_cell BK347.out 1).trans rfl
             have hcz47_2 : wr.cell? ⟨gb347, 2, none⟩ = some (.slice A1_2 l1_2.length c1_2) := (blk_cell BK347.out 2).trans rfl
             have hfz47_0 := blk_frozen BK347.out 0
             have hfz47_1 := blk_frozen BK347.out 1
             have hfz47_2 := blk_frozen BK347.out 2
             have p350 : 0 ≤ (x8_3 : Int) := odt
             have q350 : x8_3 < (l1_2.length : Int) := odt
             obtain ⟨ad350, e350, hx350_0⟩ := Kd.at_int HR1_2.out x8_3 p350 q350
             cases e350
             replace hx350_0 := (HB.out.cell (World.block_lt_of_cell? w _ hx350_0)).trans hx350_0
             replace p350 := eq_true p350
             replace q350 := eq_true q350
             go_wp2
             repeat (go_quiet (fail); try go_wp2)
             go_meet
             case rel => exact ⟨_, (true), (by first | rfl | (simp; done) | (simp [*]; done)), H', ⟨by have := HJ2.out; have := HK2.out; have := HK3.out; first | omega | exact Nat.le_refl _⟩, ⟨by repeat (first | (with_reducible first | exact BK347.out | refine blk_drewN ?_ _ | refine blk_drew ?_ | refine blk_alloc ?_ _) | exact BK347.out)⟩, ⟨by repeat (first | (with_reducible first | exact HB.out | apply below_alloc | apply pw_below_drewN | apply below_drew1 | refine below_set ?_ GE347.out) | exact HB.out)⟩⟩
            ·rw [if_neg c46] at H
             have c46b0 : decide ((rd l1_2 x8_3) < 0) = false := decide_eq_false c46
             clear c46
             by_cases c48 : (rd l1_2 x8_3) ≥ (l0.length : Int)
             ·rw [if_pos c48] at H
              have c48b0 : decide ((l0.length : Int) ≤ (rd l1_2 x8_3)) = true := decide_eq_true c48
              clear c48
              have H' := Aside0.mk H
              clear H
              have hcz49_0 : wr.cell? ⟨gb347, 0, none⟩ = some (.int .i64 a1_0) := (blk_cell BK347.out 0).trans rfl
              have hcz49_1 : wr.cell? ⟨gb347, 1, none⟩ = some (.slice A1_1 l1_1.length c1_1) := (blk_cell BK347.out 1).trans rfl
              have hcz49_2 : wr.cell? ⟨gb347, 2, none⟩ = some (.slice A1_2 l1_2.length c1_2) := (blk_cell BK347.out 2).trans rfl
              have hfz49_0 := blk_frozen BK347.out 0
              have hfz49_1 := blk_frozen BK347.out 1
              have hfz49_2 := blk_frozen BK347.out 2
              have p350 : 0 ≤ (x8_3 : Int) := odt
              have q350 : x8_3 < (l1_2.length : Int) := odt
              obtain ⟨ad350, e350, hx350_0⟩ := Kd.at_int HR1_2.out x8_3 p350 q350
              cases e350
              replace hx350_0 := (HB.out.cell (World.block_lt_of_cell? w _ hx350_0)).trans hx350_0
              replace p350 := eq_true p350
              replace q350 := eq_true q350
              have p351 : 0 ≤ (x8_3 : Int) := odt
              have q351 : x8_3 < (l1_2.length : Int) := odt
              obtain ⟨ad351, e351, hx351_0⟩ := Kd.at_int HR1_2.out x8_3 p351 q351
              obtain rfl : ad350 = ad351 := (by injection e351)
              replace hx351_0 := (HB.out.cell (World.block_lt_of_cell? w _ hx351_0)).trans hx351_0
              replace p351 := eq_true p351
              replace q351 := eq_true q351
              go_wp2
              repeat (go_quiet (fail); try go_wp2)
              go_meet
              case rel => exact ⟨_, (true), (by first | rfl | (simp; done) | (simp [*]; done)), H', ⟨by have := HJ2.out; have := HK2.out; have := HK3.out; first | omega | exact Nat.le_refl _⟩, ⟨by repeat (first | (with_reducible first | exact BK347.out | refine blk_drewN ?_ _ | refine blk_drew ?_ | refine blk_alloc ?_ _) | exact BK347.out)⟩, ⟨by repeat (first | (with_reducible first | exact HB.out | apply below_alloc | apply pw_below_drewN | apply below_drew1 | refine below_set ?_ GE347.out) | exact HB.out)⟩⟩
             ·rw [if_neg c48] at H
              have c48b0 : decide ((l0.length : Int) ≤ (rd l1_2 x8_3)) = false := decide_eq_false c48
              clear c48
              by_cases c50 : x8_3 > 0
              ·rw [if_pos c50] at H
               have c50b0 : decide (0 < x8_3) = true := decide_eq_true c50
               clear c50
               obtain ⟨ji51, hji51⟩ : ∃ j_ : Int, (wrap64 (x8_3 - 1)) = j_ := ⟨_, rfl⟩
               replace H : (if 0 ≤ (ji51) then (if (ji51) < (l1_2.length : Int) then (commodatumref10_ValidProgram.j4 k3 (l0.length : Int) x8_3 (decide ((rd l1_2 x8_3) ≤ (rd l1_2 (ji51)))) a1_0 l1_1 l1_2) else (none)) else (none)) = some r := by first | (rw [hji51] at H; exact H) | (simp only [hji51] at H ⊢; exact H)
               have hji51w : (IntKind.i64.wrap (x8_3 - 1)) = ji51 := (i64_w _).trans hji51
               by_cases c52 : 0 ≤ (ji51)
               ·rw [if_pos c52] at H
                have c52b0 : decide (0 ≤ (ji51)) = true := decide_eq_true c52
                clear c52
                by_cases c53 : (ji51) < (l1_2.length : Int)
                ·rw [if_pos c53] at H
                 have c53b0 : decide ((ji51) < (l1_2.length : Int)) = true := decide_eq_true c53
                 clear c53
                 have H' := Aside0.mk H
                 clear H
                 have hcz54_0 : wr.cell? ⟨gb347, 0, none⟩ = some (.int .i64 a1_0) := (blk_cell BK347.out 0).trans rfl
                 have hcz54_1 : wr.cell? ⟨gb347, 1, none⟩ = some (.slice A1_1 l1_1.length c1_1) := (blk_cell BK347.out 1).trans rfl
                 have hcz54_2 : wr.cell? ⟨gb347, 2, none⟩ = some (.slice A1_2 l1_2.length c1_2) := (blk_cell BK347.out 2).trans rfl
                 have hfz54_0 := blk_frozen BK347.out 0
                 have hfz54_1 := blk_frozen BK347.out 1
                 have hfz54_2 := blk_frozen BK347.out 2
                 have p350 : 0 ≤ (x8_3 : Int) := odt
                 have q350 : x8_3 < (l1_2.length : Int) := odt
                 obtain ⟨ad350, e350, hx350_0⟩ := Kd.at_int HR1_2.out x8_3 p350 q350
                 cases e350
                 replace hx350_0 := (HB.out.cell (World.block_lt_of_cell? w _ hx350_0)).trans hx350_0
                 replace p350 := eq_true p350
                 replace q350 := eq_true q350
                 have p351 : 0 ≤ (x8_3 : Int) := odt
                 have q351 : x8_3 < (l1_2.length : Int) := odt
                 obtain ⟨ad351, e351, hx351_0⟩ := Kd.at_int HR1_2.out x8_3 p351 q351
                 obtain rfl : ad350 = ad351 := (by injection e351)
                 replace hx351_0 := (HB.out.cell (World.block_lt_of_cell? w _ hx351_0)).trans hx351_0
                 replace p351 := eq_true p351
                 replace q351 := eq_true q351
                 have p352 : 0 ≤ (x8_3 : Int) := odt
                 have q352 : x8_3 < (l1_2.length : Int) := odt
                 obtain ⟨ad352, e352, hx352_0⟩ := Kd.at_int HR1_2.out x8_3 p352 q352
                 obtain rfl : ad350 = ad352 := (by injection e352)
                 replace hx352_0 := (HB.out.cell (World.block_lt_of_cell? w _ hx352_0)).trans hx352_0
                 replace p352 := eq_true p352
                 replace q352 := eq_true q352
                 have p353 : 0 ≤ ((ji51) : Int) := odt
                 have q353 : (ji51) < (l1_2.length : Int) := odt
                 obtain ⟨ad353, e353, hx353_0⟩ := Kd.at_int HR1_2.out (ji51) p353 q353
                 obtain rfl : ad350 = ad353 := (by injection e353)
                 replace hx353_0 := (HB.out.cell (World.block_lt_of_cell? w _ hx353_0)).trans hx353_0
                 replace p353 := eq_true p353
                 replace q353 := eq_true q353
                 go_wp2
                 repeat (go_quiet (fail); try go_wp2)
                 go_meet
                 case rel => exact ⟨_, (decide ((rd l1_2 x8_3) ≤ (rd l1_2 (ji51)))), (by first | rfl | (simp; done) | (simp only [← hji51] <;> (first | rfl | simp)) | (simp [*]; done)), H', ⟨by have := HJ2.out; have := HK2.out; have := HK3.out; first | omega | exact Nat.le_refl _⟩, ⟨by repeat (first | (with_reducible first | exact BK347.out | refine blk_drewN ?_ _ | refine blk_drew ?_ | refine blk_alloc ?_ _) | exact BK347.out)⟩, ⟨by repeat (first | (with_reducible first | exact HB.out | apply below_alloc | apply pw_below_drewN | apply below_drew1 | refine below_set ?_ GE347.out) | exact HB.out)⟩⟩
                ·rw [if_neg c53] at H
                 exact absurd H (by simp)
               ·rw [if_neg c52] at H
                exact absurd H (by simp)
              ·rw [if_neg c50] at H
               have c50b0 : decide (0 < x8_3) = false := decide_eq_false c50
               clear c50
               have H' := Aside0.mk H
               clear H
               have hcz55_0 : wr.cell? ⟨gb347, 0, none⟩ = some (.int .i64 a1_0) := (blk_cell BK347.out 0).trans rfl
               have hcz55_1 : wr.cell? ⟨gb347, 1, none⟩ = some (.slice A1_1 l1_1.length c1_1) := (blk_cell BK347.out 1).trans rfl
               have hcz55_2 : wr.cell? ⟨gb347, 2, none⟩ = some (.slice A1_2 l1_2.length c1_2) := (blk_cell BK347.out 2).trans rfl
               have hfz55_0 := blk_frozen BK347.out 0
               have hfz55_1 := blk_frozen BK347.out 1
               have hfz55_2 := blk_frozen BK347.out 2
               have p350 : 0 ≤ (x8_3 : Int) := odt
               have q350 : x8_3 < (l1_2.length : Int) := odt
               obtain ⟨ad350, e350, hx350_0⟩ := Kd.at_int HR1_2.out x8_3 p350 q350
               cases e350
               replace hx350_0 := (HB.out.cell (World.block_lt_of_cell? w _ hx350_0)).trans hx350_0
               replace p350 := eq_true p350
               replace q350 := eq_true q350
               have p351 : 0 ≤ (x8_3 : Int) := odt
               have q351 : x8_3 < (l1_2.length : Int) := odt
               obtain ⟨ad351, e351, hx351_0⟩ := Kd.at_int HR1_2.out x8_3 p351 q351
               obtain rfl : ad350 = ad351 := (by injection e351)
               replace hx351_0 := (HB.out.cell (World.block_lt_of_cell? w _ hx351_0)).trans hx351_0
               replace p351 := eq_true p351
               replace q351 := eq_true q351
               go_wp2
               repeat (go_quiet (fail); try go_wp2)
               go_meet
               case rel => exact ⟨_, (false), (by first | rfl | (simp; done) | (simp [*]; done)), H', ⟨by have := HJ2.out; have := HK2.out; have := HK3.out; first | omega | exact Nat.le_refl _⟩, ⟨by repeat (first | (with_reducible first | exact BK347.out | refine blk_drewN ?_ _ | refine blk_drew ?_ | refine blk_alloc ?_ _) | exact BK347.out)⟩, ⟨by repeat (first | (with_reducible first | exact HB.out | apply below_alloc | apply pw_below_drewN | apply below_drew1 | refine below_set ?_ GE347.out) | exact HB.out)⟩⟩
           ·rw [if_neg c45] at H
            exact absurd H (by simp)
          case rest => as_aux_lemma =>
           clear HC43
           (try clear c1); (try clear c2); (try clear p2); (try clear c3); (try clear p3); (try clear q3); (try clear hx3); (try clear c4); (try clear c5); (try clear c5b0); (try clear p6); (try clear c7); (try clear c7b0); (try clear c10); (try clear c11); (try clear c11b0); (try clear c12); (try clear c12b0); (try clear c14); (try clear c16); (try clear c18); (try clear c18b0); (try clear c19); (try clear c21); (try clear c21b0); (try clear c22); (try clear c25); (try clear c25b0); (try clear c26); (try clear c29); (try clear c29b0); (try clear c30); (try clear c33); (try clear c33b0); (try clear c34); (try clear p34); (try clear q34); (try clear hx34); (try clear p35); (try clear q35); (try clear hx35); (try clear c37); (try clear c40); (try clear c42); (try clear c42b0); (try clear c45); (try clear c45b0); (try clear c46); (try clear c46b0); (try clear c48); (try clear c48b0); (try clear c50); (try clear c50b0); (try clear c52); (try clear c52b0); (try clear c53); (try clear c53b0); (try clear hcz14_0); (try clear hcz14_1); (try clear hcz14_2); (try clear hcz17_0); (try clear hcz17_1); (try clear hcz17_2); (try clear hcz20_0); (try clear hcz20_1); (try clear hcz20_2); (try clear hcz23_0); (try clear hcz23_1); (try clear hcz23_2); (try clear hcz24_0); (try clear hcz24_1); (try clear hcz24_2); (try clear hcz27_0); (try clear hcz27_1); (try clear hcz27_2); (try clear hcz28_0); (try clear hcz28_1); (try clear hcz28_2); (try clear hcz31_0); (try clear hcz31_1); (try clear hcz31_2); (try clear hcz32_0); (try clear hcz32_1); (try clear hcz32_2); (try clear hcz35_0); (try clear hcz35_1); (try clear hcz35_2); (try clear hcz36_0); (try clear hcz36_1); (try clear hcz36_2); (try clear hcz38_0); (try clear hcz38_1); (try clear hcz38_2); (try clear hcz39_0); (try clear hcz39_1); (try clear hcz39_2); (try clear hcz41_0); (try clear hcz41_1); (try clear hcz41_2); (try clear hcz44_0); (try clear hcz44_1); (try clear hcz44_2); (try clear hcz47_0); (try clear hcz47_1); (try clear hcz47_2); (try clear hcz49_0); (try clear hcz49_1); (try clear hcz49_2); (try clear hcz54_0); (try clear hcz54_1); (try clear hcz54_2); (try clear hcz55_0); (try clear hcz55_1); (try clear hcz55_2); (try clear hcz6_0); (try clear hcz6_1); (try clear hcz6_2); (try clear hcz8_0); (try clear hcz8_1); (try clear hcz8_2); (try clear hcz9_0); (try clear hcz9_1); (try clear hcz9_2); (try clear hfz14_0); (try clear hfz14_1); (try clear hfz14_2); (try clear hfz17_0); (try clear hfz17_1); (try clear hfz17_2); (try clear hfz20_0); (try clear hfz20_1); (try clear hfz20_2); (try clear hfz23_0); (try clear hfz23_1); (try clear hfz23_2); (try clear hfz24_0); (try clear hfz24_1); (try clear hfz24_2); (try clear hfz27_0); (try clear hfz27_1); (try clear hfz27_2); (try clear hfz28_0); (try clear hfz28_1); (try clear hfz28_2); (try clear hfz31_0); (try clear hfz31_1); (try clear hfz31_2); (try clear hfz32_0); (try clear hfz32_1); (try clear hfz32_2); (try clear hfz35_0); (try clear hfz35_1); (try clear hfz35_2); (try clear hfz36_0); (try clear hfz36_1); (try clear hfz36_2); (try clear hfz38_0); (try clear hfz38_1); (try clear hfz38_2); (try clear hfz39_0); (try clear hfz39_1); (try clear hfz39_2); (try clear hfz41_0); (try clear hfz41_1); (try clear hfz41_2); (try clear hfz44_0); (try clear hfz44_1); (try clear hfz44_2); (try clear hfz47_0); (try clear hfz47_1); (try clear hfz47_2); (try clear hfz49_0); (try clear hfz49_1); (try clear hfz49_2); (try clear hfz54_0); (try clear hfz54_1); (try clear hfz54_2); (try clear hfz55_0); (try clear hfz55_1); (try clear hfz55_2); (try clear hfz6_0); (try clear hfz6_1); (try clear hfz6_2); (try clear hfz8_0); (try clear hfz8_1); (try clear hfz8_2); (try clear hfz9_0); (try clear hfz9_1); (try clear hfz9_2); (try clear hx348_0); (try clear hx348_1); (try clear hx348_2); (try clear hx350_0); (try clear hx351_0); (try clear hx352_0); (try clear hx353_0); (try clear p2); (try clear p3); (try clear p34); (try clear p348); (try clear p350); (try clear p351); (try clear p352); (try clear p353); (try clear p6); (try clear q3); (try clear q34); (try clear q348); (try clear q350); (try clear q351); (try clear q352); (try clear q353)
           obtain ⟨kq, x108_42, rfl, HA, HJ42, BK347, HB⟩ := hcut
           cases kq with
           | zero => exact absurd HA.out (by simp [commodatumref10_ValidProgram.j4])
           | succ kj42 =>
            have H := HA.out
            clear HA
            simp only [commodatumref10_ValidProgram.j4] at H
            by_cases c56 : x108_42 = true
            ·subst c56
             have H1 : (some false) = some r := by rw [if_pos rfl] at H; exact H
             clear H
             have H := H1
             clear H1
             obtain rfl := Option.some.inj H
             go_wp2
             repeat (go_quiet (fail); try go_wp2)
             go_ret
             exact ⟨by first | rfl | (simp [errW_none, errW_some] <;> rfl) | (simp [*, errW_none, errW_some] <;> rfl), by repeat (first | (with_reducible first | exact HB.out | apply below_alloc | apply pw_below_drewN | apply below_drew1 | refine below_set ?_ GE347.out) | exact HB.out)⟩
            ·replace c56 := Bool.eq_false_iff.mpr c56
             subst c56
             have H1 : (commodatumref10_ValidProgram.l1 kj42 (l0.length : Int) (wrap64 (x8_3 + 1)) a1_0 l1_1 l1_2) = some r := by rw [if_neg (show ¬ (false = true) by decide)] at H; exact H
             clear H
             have H := H1
             clear H1
             have H' := Aside0.mk H
             clear H
             go_wp2
             repeat (go_quiet (fail); try go_wp2)
             go_roundg kj42
             case measure => have := HJ2.out; have := HK2.out; have := HK3.out; have := HJ42.out; omega
             case rel => exact ⟨(wrap64 (x8_3 + 1)), (by first | rfl | (simp; done) | (simp [*]; done)), H', ⟨by have := HJ2.out; have := HK2.out; have := HK3.out; have := HJ42.out; omega⟩, ⟨by repeat (first | (with_reducible first | exact BK347.out | refine blk_drewN ?_ _ | refine blk_drew ?_ | refine blk_alloc ?_ _) | exact BK347.out)⟩, ⟨by repeat (first | (with_reducible first | exact HB.out | apply below_alloc | apply pw_below_drewN | apply below_drew1 | refine below_set ?_ GE347.out) | exact HB.out)⟩⟩
         ·rw [if_neg c42] at H
          have c42b0 : decide (x8_3 < (l1_2.length : Int)) = false := decide_eq_false c42
          clear c42
          obtain rfl := Option.some.inj H
          have hcz57_0 : wr.cell? ⟨gb347, 0, none⟩ = some (.int .i64 a1_0) := (blk_cell BK347.out 0).trans rfl
          have hcz57_1 : wr.cell? ⟨gb347, 1, none⟩ = some (.slice A1_1 l1_1.length c1_1) := (blk_cell BK347.out 1).trans rfl
          have hcz57_2 : wr.cell? ⟨gb347, 2, none⟩ = some (.slice A1_2 l1_2.length c1_2) := (blk_cell BK347.out 2).trans rfl
          have hfz57_0 := blk_frozen BK347.out 0
          have hfz57_1 := blk_frozen BK347.out 1
          have hfz57_2 := blk_frozen BK347.out 2
          go_wp2
          repeat (go_quiet (fail); try go_wp2)
          go_ret
          exact ⟨by first | rfl | (simp [errW_none, errW_some] <;> rfl) | (simp [*, errW_none, errW_some] <;> rfl), by repeat (first | (with_reducible first | exact HB.out | apply below_alloc | apply pw_below_drewN | apply below_drew1 | refine below_set ?_ GE347.out) | exact HB.out)⟩

end Go.Proofs.Ytibphkgcdnconaa.QMon
