/- ReachCounts, in plain Lean: for every graph, nodes and number of steps the law's function answers true. Conditions: none beyond those of the statement. -/
import Derived.Test.YtcgnbmdhjehieaaPD
import Derived.Test.YtcgnbmdhjehieaaPE
import Derived.Test.YtcgnbmdhjehieaaSReachCounts
namespace Go.Proofs.Ytcgnbmdhjehieaa.Pure
open Go Go.RowKit Go.Proofs.Ytcgnbmdhjehieaa.QReach Go.Proofs.Ytcgnbmdhjehieaa.PureC Go.Proofs.YtcgnbmdhjehieaaW.PrintWords Go.Proofs.YtcgnbmdhjehieaaW.PrintLast Go.Proofs.YtcgnbmdhjehieaaW.PrintMore Go.Proofs.YtcgnbmdhjehieaaX
open Classical
set_option linter.unusedVariables false
set_option linter.unusedSimpArgs false

theorem awake_b : Ev (fun k => (commodatumlaw17_Awake.f k).bind fun t => some t) true := Ev.bind awake_ev (Ev.now _)
/-- The comparison at the end: what is due is what comes. -/
theorem counts_j2 {g : List (List Int)} (hs : Slim g) (due late : Int) (want : Bool) (n s t K : Int) (h1 : reachR (decide (GV g)) g s t (decide (∃ j, R g s.toNat j t.toNat)) = (want, due)) (h2 : countR (decide (GV g)) g s t K = (n, late)) :
    Ev (fun k => commodatumlaw17_ReachCounts.j2 k g (decide (GV g)) due late want n s t K) true := by
  refine Ev.step (fun k => by rw [commodatumlaw17_ReachCounts.j2]) ?_
  refine Ev.bind (copy_ev g hs) ?_
  refine Ev.bind (valid_ev g hs) ?_
  refine Ev.bind (copy_ev g hs) ?_
  refine Ev.bind (reaches_ev hs s t) ?_
  refine Ev.bind (copy_ev g hs) ?_
  refine Ev.bind (count_ev hs s t K) ?_
  rw [h1, h2]
  refine Ev.pos (by simp) ?_
  refine Ev.pos rfl ?_
  refine Ev.pos (by simp) ?_
  refine Ev.pos rfl ?_
  exact Ev.pos rfl awake_b
theorem ReachCounts : commodatumlaw17_ReachCounts.Pure := by
  intro g q hg hq
  refine Ev.rounds ?_
  unfold commodatumlaw17_ReachCounts.f
  obtain ⟨b, hb, hs⟩ := wide_ev g hg
  refine Ev.bind hb ?_
  cases b with
  | true => exact Ev.pos rfl awake_b
  | false =>
    have hsl := hs rfl
    refine Ev.neg (by decide) ?_
    refine Ev.bind (refValid_ev g hsl) ?_
    by_cases hv : GV g
    · have hn := hv.2.1
      refine Ev.pos (decide_eq_true hv) ?_
      rw [node_ev]
      refine Ev.sb ?_
      have bad : ¬ (nd g q.f0 = true ∧ nd g q.f1 = true) → Ev (fun k => commodatumlaw17_ReachCounts.j0 k g (decide (GV g)) 0 0 false 0 true q.f0 q.f1 q.f2) true := by
        intro h
        have ha : askV (decide (GV g)) g q.f0 q.f1 = 2 := by
          unfold askV
          rw [if_pos (decide_eq_true hv), if_neg h]
        refine Ev.step (fun k => by rw [commodatumlaw17_ReachCounts.j0]) ?_
        refine Ev.pos rfl ?_
        exact counts_j2 hsl 2 2 false 0 _ _ _ (by unfold reachR; rw [ha]; simp) (by unfold countR; rw [ha]; simp)
      by_cases h1 : nd g q.f0 = true
      · refine Ev.pos h1 ?_
        rw [node_ev]
        refine Ev.sb ?_
        by_cases h2 : nd g q.f1 = true
        · rw [h2]
          have ha : askV (decide (GV g)) g q.f0 q.f1 = 0 := by
            unfold askV
            rw [if_pos (decide_eq_true hv), if_pos ⟨h1, h2⟩]
          have n1 := nd_iff.1 h1
          have n2 := nd_iff.1 h2
          have hre : reachR (decide (GV g)) g q.f0 q.f1 (decide (∃ j, R g q.f0.toNat j q.f1.toNat)) = (decide (R g q.f0.toNat g.length q.f1.toNat), 0) := by
            unfold reachR
            rw [if_pos ha]
            congr 1
            exact decide_eq_decide.2 ⟨fun ⟨j, hj⟩ => R_enough hv (by omega) j _ hj, fun h => ⟨_, h⟩⟩
          obtain ⟨s, hs1⟩ := Int.eq_ofNat_of_zero_le n1.1
          obtain ⟨t, ht1⟩ := Int.eq_ofNat_of_zero_le n2.1
          rw [hs1, ht1] at hre
          rw [hs1, ht1] at ha
          rw [Int.toNat_natCast, Int.toNat_natCast] at hre
          rw [hs1, ht1]
          refine Ev.step (fun k => by rw [commodatumlaw17_ReachCounts.j0]) ?_
          refine Ev.neg (by decide) ?_
          refine Ev.bind (within_ev hv hsl (by omega) (by omega)) ?_
          refine Ev.pos (by omega) ?_
          refine Ev.pos (by simp; omega) ?_
          rw [rdOf_tab (by omega)]
          have late : ∀ (x42 : Bool), x42 = decide (q.f2 < 0 ∨ q.f2 > 2000000) → Ev (fun k => commodatumlaw17_ReachCounts.j1 k g (decide (GV g)) 0 0 (decide (R g s g.length t)) 0 x42 (s : Int) (t : Int) q.f2) true := by
            intro x42 hx
            refine Ev.step (fun k => by rw [commodatumlaw17_ReachCounts.j1]) ?_
            by_cases hk : q.f2 < 0 ∨ q.f2 > 2000000
            · rw [decide_eq_true hk] at hx
              refine Ev.pos hx ?_
              exact counts_j2 hsl 0 2 _ 0 _ _ _ (by rw [Int.toNat_natCast, Int.toNat_natCast]; exact hre) (by unfold countR; rw [if_pos ha, if_pos hk])
            · rw [decide_eq_false hk] at hx
              obtain ⟨K, hK⟩ := Int.eq_ofNat_of_zero_le (show 0 ≤ q.f2 by omega)
              refine Ev.neg (by rw [hx]; decide) ?_
              refine Ev.bind (edges_ev g hsl) ?_
              by_cases hbig : wrap64 (q.f2 * wrap64 ((g.length : Int) + ((esum g : Nat) : Int))) > 8000000
              · exact Ev.pos hbig awake_b
              refine Ev.neg hbig ?_
              have hco : countR (decide (GV g)) g (s : Int) (t : Int) q.f2 = countV g s t K := by
                unfold countR
                rw [if_pos ha, if_neg hk, hK]
                simp
              rw [hK] at hco ⊢
              refine Ev.bind (counts_ev hv hsl (by omega) (by omega)) ?_
              refine Ev.pos (by omega) ?_
              refine Ev.pos (by simp [fvec]; omega) ?_
              have e : rd (fvec g s K) (t : Int) = ((min (Wk g K s t) C : Nat) : Int) := by
                unfold fvec; rw [rd_tab (by omega)]
              rw [e]
              by_cases hc : Wk g K s t ≥ C
              · refine Ev.pos (by unfold C at *; omega) ?_
                exact counts_j2 hsl 0 5 _ 0 _ _ _ (by rw [Int.toNat_natCast, Int.toNat_natCast]; exact hre) (by rw [hco]; unfold countV; rw [if_pos hc])
              · refine Ev.neg (by unfold C at *; omega) ?_
                refine counts_j2 hsl 0 0 _ _ _ _ _ (by rw [Int.toNat_natCast, Int.toNat_natCast]; exact hre) ?_
                rw [hco]; unfold countV; rw [if_neg hc]
                congr 2
                omega
          by_cases hk : q.f2 < 0
          · refine Ev.pos hk ?_
            exact late true (decide_eq_true (Or.inl hk)).symm
          · refine Ev.neg hk ?_
            refine late _ (decide_eq_decide.2 ⟨fun h => Or.inr h, fun h => ?_⟩)
            rcases h with h | h
            · exact absurd h hk
            · exact h
        · rw [show nd g q.f1 = false by simpa using h2]
          exact bad (fun h => h2 h.2)
      · exact Ev.neg h1 (bad (fun h => h1 h.1))
    · refine Ev.neg (by simpa using hv) ?_
      have ha : askV (decide (GV g)) g q.f0 q.f1 = 1 := by
        unfold askV
        rw [if_neg (by simpa using hv)]
      exact counts_j2 hsl 1 1 false 0 _ _ _ (by unfold reachR; rw [ha]; simp) (by unfold countR; rw [ha]; simp)
end Go.Proofs.Ytcgnbmdhjehieaa.Pure
