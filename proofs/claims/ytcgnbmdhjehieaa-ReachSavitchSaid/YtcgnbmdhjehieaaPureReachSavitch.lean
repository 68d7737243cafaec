/- ReachSavitch, in plain Lean: for every graph, nodes and depth the law's function answers true. Conditions: none beyond those of the statement. -/
import Derived.Test.YtcgnbmdhjehieaaPF
import Derived.Test.YtcgnbmdhjehieaaSReachSavitch
namespace Go.Proofs.Ytcgnbmdhjehieaa.Pure
open Go Go.RowKit Go.Proofs.Ytcgnbmdhjehieaa.QReach Go.Proofs.Ytcgnbmdhjehieaa.PureC Go.Proofs.YtcgnbmdhjehieaaW.PrintWords Go.Proofs.YtcgnbmdhjehieaaW.PrintLast Go.Proofs.YtcgnbmdhjehieaaW.PrintMore Go.Proofs.YtcgnbmdhjehieaaX
open Classical
set_option linter.unusedVariables false
set_option linter.unusedSimpArgs false

theorem awake_b : Ev (fun k => (commodatumlaw17_Awake.f k).bind fun t => some t) true := Ev.bind awake_ev (Ev.now _)
theorem shl_one : ∀ k : Fin 6, shl .i64 1 ((k.val : Nat) : Int) = ((2 ^ k.val : Nat) : Int) := by decide
/-- What Savitch returns, where it is asked for nodes and a depth that fit; r: the number of bits. -/
def savV (g : List (List Int)) (s t k : Nat) (r : Int) : Bool × Int × Int × Int :=
  if (sav g.length (eb g) k s t 0).2 > 2000000 then (false, 0, 0, 5) else ((sav g.length (eb g) k s t 0).1, ((sav g.length (eb g) k s t 0).2 : Int), r, 0)
theorem sav_j1 {g : List (List Int)} (hs : Slim g) (want : Bool) (n bits due s t K : Int) (h : Ev (fun k => reach_Savitch.f k g s t K) (want, n, bits, due)) :
    Ev (fun k => commodatumlaw17_ReachSavitch.j1 k g want n bits due s t K) true := by
  refine Ev.step (fun k => by rw [commodatumlaw17_ReachSavitch.j1]) ?_
  refine Ev.bind (copy_ev g hs) ?_
  refine Ev.bind h ?_
  refine Ev.pos rfl ?_
  refine Ev.pos (by simp) ?_
  refine Ev.pos rfl ?_
  exact Ev.pos rfl awake_b
theorem savitch_bad {g : List (List Int)} (hs : Slim g) (s t K : Int) (h : askV (decide (GV g)) g s t ≠ 0) : Ev (fun k => reach_Savitch.f k g s t K) (false, 0, 0, askV (decide (GV g)) g s t) := by
  unfold reach_Savitch.f
  refine Ev.bind (asked_ev g hs s t) ?_
  exact Ev.neg h (Ev.now _)
theorem savitch_arg {g : List (List Int)} (hs : Slim g) (s t K : Int) (h : askV (decide (GV g)) g s t = 0) (hK : K < 0 ∨ K > 5) : Ev (fun k => reach_Savitch.f k g s t K) (false, 0, 0, 2) := by
  unfold reach_Savitch.f
  refine Ev.bind (asked_ev g hs s t) ?_
  refine Ev.pos h ?_
  by_cases h1 : K < 0
  · refine Ev.pos h1 ?_
    refine Ev.step (fun k => by rw [reach_Savitch.j0]) ?_
    exact Ev.pos rfl (Ev.now _)
  · refine Ev.neg h1 ?_
    refine Ev.step (fun k => by rw [reach_Savitch.j0]) ?_
    exact Ev.pos (decide_eq_true (hK.resolve_left h1)) (Ev.now _)
theorem ReachSavitch : commodatumlaw17_ReachSavitch.Pure := by
  intro g q hg hq
  refine Ev.rounds ?_
  unfold commodatumlaw17_ReachSavitch.f
  obtain ⟨b, hb, hs⟩ := wide_ev g hg
  refine Ev.bind hb ?_
  cases b with
  | true => exact Ev.pos rfl awake_b
  | false =>
    have hsl := hs rfl
    refine Ev.neg (by decide) ?_
    refine Ev.bind (refValid_ev g hsl) ?_
    by_cases hv : GV g
    · have hn := hv.2.1
      refine Ev.pos (decide_eq_true hv) ?_
      rw [node_ev]
      refine Ev.sb ?_
      have bad : ¬ (nd g q.f0 = true ∧ nd g q.f1 = true) ∨ (q.f2 < 0 ∨ q.f2 > 5) → Ev (fun k => commodatumlaw17_ReachSavitch.j0 k g false 0 0 0 true q.f0 q.f1 q.f2) true := by
        intro h
        refine Ev.step (fun k => by rw [commodatumlaw17_ReachSavitch.j0]) ?_
        refine Ev.pos rfl ?_
        by_cases h0 : nd g q.f0 = true ∧ nd g q.f1 = true
        · have ha : askV (decide (GV g)) g q.f0 q.f1 = 0 := by
            unfold askV
            rw [if_pos (decide_eq_true hv), if_pos h0]
          exact sav_j1 hsl false 0 0 2 _ _ _ (savitch_arg hsl _ _ _ ha (h.resolve_left (fun hh => hh h0)))
        · have ha : askV (decide (GV g)) g q.f0 q.f1 = 2 := by
            unfold askV
            rw [if_pos (decide_eq_true hv), if_neg h0]
          have := savitch_bad hsl q.f0 q.f1 q.f2 (by rw [ha]; decide)
          rw [ha] at this
          exact sav_j1 hsl false 0 0 2 _ _ _ this
      by_cases h1 : nd g q.f0 = true
      · refine Ev.pos h1 ?_
        rw [node_ev]
        refine Ev.sb ?_
        by_cases h2 : nd g q.f1 = true
        · refine Ev.pos h2 ?_
          by_cases h3 : q.f2 < 0
          · exact Ev.pos h3 (bad (Or.inr (Or.inl h3)))
          refine Ev.neg h3 ?_
          by_cases h4 : q.f2 > 5
          · rw [decide_eq_true h4]
            exact bad (Or.inr (Or.inr h4))
          rw [decide_eq_false h4]
          have ha : askV (decide (GV g)) g q.f0 q.f1 = 0 := by
            unfold askV
            rw [if_pos (decide_eq_true hv), if_pos ⟨h1, h2⟩]
          have n1 := nd_iff.1 h1
          have n2 := nd_iff.1 h2
          obtain ⟨s, hs1⟩ := Int.eq_ofNat_of_zero_le n1.1
          obtain ⟨t, ht1⟩ := Int.eq_ofNat_of_zero_le n2.1
          obtain ⟨K, hK1⟩ := Int.eq_ofNat_of_zero_le (show 0 ≤ q.f2 by omega)
          rw [hs1, ht1] at ha
          rw [hs1, ht1, hK1]
          have hsn : s < g.length := by omega
          have htn : t < g.length := by omega
          have hK5 : K ≤ 5 := by omega
          obtain ⟨b1, hb1, hb1'⟩ := bits_ev g.length (by omega)
          obtain ⟨b2, hb2, hb2'⟩ := bits_ev (K + 1) (by omega)
          -- what Savitch returns
          have hS : Ev (fun k => reach_Savitch.f k g (s : Int) (t : Int) (K : Int)) (savV g s t K (wrap64 (wrap64 ((K : Int) + 1) * wrap64 (wrap64 (3 * b1) + b2)))) := by
            unfold reach_Savitch.f
            refine Ev.bind (asked_ev g hsl _ _) ?_
            refine Ev.pos ha ?_
            refine Ev.neg (by omega) ?_
            refine Ev.step (fun k => by rw [reach_Savitch.j0]) ?_
            refine Ev.neg (by simp; omega) ?_
            refine Ev.bind (call_ev hn hsl K (by omega) s t 0 hsn htn (by omega)) ?_
            unfold savV
            by_cases h5 : (sav g.length (eb g) K s t 0).2 > 2000000
            · rw [if_pos h5]
              exact Ev.pos (by unfold pr; simp only; omega) (Ev.now _)
            · rw [if_neg h5]
              refine Ev.neg (by unfold pr; simp only; omega) ?_
              refine Ev.bind hb1 ?_
              unfold bits_Above.f
              rw [up1 (by omega)]
              refine Ev.bind (Ev.bind hb2 (Ev.now _)) ?_
              exact Ev.now _
          refine Ev.step (fun k => by rw [commodatumlaw17_ReachSavitch.j0]) ?_
          refine Ev.neg (by decide) ?_
          have hR : Ev (fun k => commodatumref17_Savitch.f k g (s : Int) (t : Int) (K : Int)) ((sav g.length (eb g) K s t 0).1, ((sav g.length (eb g) K s t 0).2 : Int), wrap64 (wrap64 ((K : Int) + 1) * wrap64 (wrap64 (3 * b1) + b2))) := by
            unfold commodatumref17_Savitch.f
            refine Ev.bind (holds_ev hn hsl K (by omega) s t 0 hsn htn (by omega)) ?_
            refine Ev.bind hb1' ?_
            rw [up1 (by omega)]
            refine Ev.bind hb2' ?_
            exact Ev.now _
          refine Ev.bind hR ?_
          by_cases h5 : (sav g.length (eb g) K s t 0).2 > 2000000
          · refine Ev.pos (by simp only; omega) ?_
            refine sav_j1 hsl false 0 0 5 _ _ _ ?_
            unfold savV at hS
            rw [if_pos h5] at hS
            exact hS
          · refine Ev.neg (by simp only; omega) ?_
            refine Ev.pos (by omega) ?_
            rw [shl_one ⟨K, by omega⟩]
            have hp : 2 ^ K ≤ 4611686018427387904 := Nat.le_trans (Nat.pow_le_pow_right (by decide) hK5) (by decide)
            refine Ev.bind (within_ev hv hsl hsn hp) ?_
            refine Ev.pos (by omega) ?_
            refine Ev.pos (by simp; omega) ?_
            rw [rdOf_tab htn]
            have hw : (sav g.length (eb g) K s t 0).1 = decide (R g s (2 ^ K) t) := by
              rw [Bool.eq_iff_iff, decide_eq_true_iff, sav_true g.length (eb g) K s t 0 (by omega) (by omega)]
              exact D_R hv K s t hsn
            refine Ev.neg (by simp only [hw]; simp) ?_
            refine sav_j1 hsl _ _ _ 0 _ _ _ ?_
            unfold savV at hS
            rw [if_neg h5] at hS
            exact hS
        · exact Ev.neg h2 (bad (Or.inl (fun h => h2 h.2)))
      · exact Ev.neg h1 (bad (Or.inl (fun h => h1 h.1)))
    · refine Ev.neg (by simpa using hv) ?_
      have ha : askV (decide (GV g)) g q.f0 q.f1 = 1 := by
        unfold askV
        rw [if_neg (by simpa using hv)]
      have := savitch_bad hsl q.f0 q.f1 q.f2 (by rw [ha]; decide)
      rw [ha] at this
      exact sav_j1 hsl false 0 0 1 _ _ _ this
end Go.Proofs.Ytcgnbmdhjehieaa.Pure
