/- ReachComposed, in plain Lean: for every graph, nodes and numbers of steps the law's function answers true. Conditions: none beyond those of the statement. -/
import Derived.Test.YtcgnbmdhjehieaaPB
import Derived.Test.YtcgnbmdhjehieaaSReachComposed
namespace Go.Proofs.Ytcgnbmdhjehieaa.Pure
open Go Go.RowKit Go.Proofs.Ytcgnbmdhjehieaa.QReach Go.Proofs.Ytcgnbmdhjehieaa.PureC Go.Proofs.YtcgnbmdhjehieaaW.PrintWords Go.Proofs.YtcgnbmdhjehieaaW.PrintLast Go.Proofs.YtcgnbmdhjehieaaW.PrintMore Go.Proofs.YtcgnbmdhjehieaaX
open Classical
set_option linter.unusedVariables false
set_option linter.unusedSimpArgs false

theorem compo_sum (g : List (List Int)) (K l s t : Nat) (hs : s < g.length) : Wk g (K + l) s t = sumN g.length (fun w => Wk g K s w * Wk g l w t) :=
  M_add _ _ _ _ _ _ hs
theorem awake_b : Ev (fun k => (commodatumlaw17_Awake.f k).bind fun t => some t) true := Ev.bind awake_ev (Ev.now _)
theorem countR_ok {g : List (List Int)} (hv : GV g) {s t K : Nat} (hs : s < g.length) (ht : t < g.length) (hK : K ≤ 2000000) : countR (decide (GV g)) g (s : Int) (t : Int) (K : Int) = countV g s t K := by
  have h : askV (decide (GV g)) g (s : Int) (t : Int) = 0 := by
    unfold askV
    rw [if_pos (decide_eq_true hv), if_pos ⟨nd_iff.2 (by omega), nd_iff.2 (by omega)⟩]
  unfold countR
  rw [if_pos h, if_neg (by omega)]
  simp
theorem compo_loop {g : List (List Int)} (hv : GV g) (hsl : Slim g) (s t K l : Nat) (hs : s < g.length) (ht : t < g.length) (hK : K ≤ 12) (hl : l ≤ 12) :
    ∀ (d w : Nat), w + d = g.length → (∀ w', w' < w → Wk g K s w' * Wk g l w' t ≤ C) →
      Ev (fun k => commodatumlaw17_ReachComposed.l0 k g (l : Int) (countV g s t (K + l)).1 (countV g s t (K + l)).2 ((min (sumN w (fun w' => Wk g K s w' * Wk g l w' t)) C : Nat) : Int) (w : Int) (s : Int) (t : Int) (K : Int)) true := by
  have hn := hv.2.1
  intro d
  induction d with
  | zero =>
    intro w hw _
    have e : w = g.length := by omega
    subst e
    rw [← compo_sum g K l s t hs]
    refine Ev.step (fun k => by rw [commodatumlaw17_ReachComposed.l0]) ?_
    refine Ev.neg (by omega) ?_
    unfold countV
    by_cases h : Wk g (K + l) s t ≥ C
    · rw [if_pos h]
      refine Ev.pos (by unfold C at *; omega) ?_
      exact Ev.pos rfl awake_b
    · rw [if_neg h]
      refine Ev.neg (by unfold C at *; omega) ?_
      refine Ev.pos rfl ?_
      exact Ev.pos (by show ((Wk g (K + l) s t : Nat) : Int) = _; congr 1; omega) awake_b
  | succ d ih =>
    intro w hw hb
    have hwn : w < g.length := by omega
    refine Ev.step (fun k => by rw [commodatumlaw17_ReachComposed.l0]) ?_
    refine Ev.pos (by omega) ?_
    refine Ev.bind (copy_ev g hsl) ?_
    refine Ev.bind (count_ev hsl (s : Int) (w : Int) (K : Int)) ?_
    refine Ev.bind (copy_ev g hsl) ?_
    refine Ev.bind (count_ev hsl (w : Int) (t : Int) (l : Int)) ?_
    rw [countR_ok hv hs hwn (by omega), countR_ok hv hwn ht (by omega)]
    by_cases ha : Wk g K s w ≥ C
    · refine Ev.neg (by unfold countV; rw [if_pos ha]; omega) ?_
      refine Ev.step (fun k => by rw [commodatumlaw17_ReachComposed.j2]) ?_
      exact Ev.pos rfl awake_b
    refine Ev.pos (by unfold countV; rw [if_neg ha]) ?_
    refine Ev.step (fun k => by rw [commodatumlaw17_ReachComposed.j2]) ?_
    by_cases hbb : Wk g l w t ≥ C
    · exact Ev.pos (by unfold countV; rw [if_pos hbb]; rfl) awake_b
    refine Ev.neg (by unfold countV; rw [if_neg hbb]; simp) ?_
    have ea : (countV g s w K).1 = (Wk g K s w : Int) := by unfold countV; rw [if_neg ha]
    have eb : (countV g w t l).1 = (Wk g l w t : Int) := by unfold countV; rw [if_neg hbb]
    rw [ea, eb]
    have next : Wk g K s w * Wk g l w t ≤ C → Ev (fun k => commodatumlaw17_ReachComposed.l0 k g (l : Int) (countV g s t (K + l)).1 (countV g s t (K + l)).2 (mn (wrap64 (((min (sumN w (fun w' => Wk g K s w' * Wk g l w' t)) C : Nat) : Int) + wrap64 ((Wk g K s w : Int) * (Wk g l w t : Int)))) 1099511627777) (wrap64 ((w : Int) + 1)) (s : Int) (t : Int) (K : Int)) true := by
      intro hab
      have h := ih (w + 1) (by omega) (fun w' hw' => by
        by_cases e : w' = w
        · subst e; exact hab
        · exact hb w' (by omega))
      have e1 : mn (wrap64 (((min (sumN w (fun w' => Wk g K s w' * Wk g l w' t)) C : Nat) : Int) + wrap64 ((Wk g K s w : Int) * (Wk g l w t : Int)))) 1099511627777 = ((min (sumN (w + 1) (fun w' => Wk g K s w' * Wk g l w' t)) C : Nat) : Int) := by
        rw [← Int.natCast_mul, sumN]
        generalize Wk g K s w * Wk g l w t = x at *
        generalize sumN w (fun w' => Wk g K s w' * Wk g l w' t) = y at *
        rw [w64 (x := (x : Int)) (by omega) (by unfold C at hab; omega), w64 (by omega) (by unfold C at *; omega), mn_eq]
        unfold C; omega
      rw [e1, up1 (by omega)]
      exact h
    by_cases hz : Wk g l w t = 0
    · refine Ev.neg (by omega) ?_
      exact next (by rw [hz, Nat.mul_zero]; exact Nat.zero_le _)
    refine Ev.pos (by omega) ?_
    refine Ev.neg (by omega) ?_
    have hdiv : wrap64 (Int.tdiv (1099511627777 : Int) (Wk g l w t : Int)) = ((C / Wk g l w t : Nat) : Int) := by
      have : Int.tdiv (1099511627777 : Int) (Wk g l w t : Int) = ((C / Wk g l w t : Nat) : Int) := by
        rw [show (1099511627777 : Int) = ((C : Nat) : Int) from rfl, Int.ofNat_tdiv]
      have h2 : C / Wk g l w t ≤ C := Nat.div_le_self _ _
      rw [this]
      clear this
      generalize C / Wk g l w t = y at *
      rw [w64 (by omega) (by unfold C at *; omega)]
    rw [hdiv]
    by_cases hgt : Wk g K s w > C / Wk g l w t
    · refine Ev.pos (by omega) ?_
      have hbig : Wk g K s w * Wk g l w t ≥ C := by
        have h1 : (C / Wk g l w t + 1) * Wk g l w t ≤ Wk g K s w * Wk g l w t := Nat.mul_le_mul_right _ hgt
        have h2 := Nat.div_add_mod C (Wk g l w t)
        have h3 := Nat.mod_lt C (show 0 < Wk g l w t by omega)
        rw [Nat.add_mul, Nat.mul_comm (C / _), Nat.one_mul] at h1
        omega
      have htot : Wk g (K + l) s t ≥ C := by
        rw [compo_sum g K l s t hs]
        exact Nat.le_trans hbig (sumN_ge w hwn (fun w => Wk g K s w * Wk g l w t))
      refine Ev.pos ?_ awake_b
      unfold countV
      rw [if_pos htot]
    · refine Ev.neg (by omega) ?_
      refine next ?_
      have h1 : Wk g K s w * Wk g l w t ≤ (C / Wk g l w t) * Wk g l w t := Nat.mul_le_mul_right _ (by omega)
      exact Nat.le_trans h1 (Nat.div_mul_le_self _ _)
theorem j0_true (g : List (List Int)) (a b c d : Int) : Ev (fun k => commodatumlaw17_ReachComposed.j0 k g a true b c d) true := by
  refine Ev.step (fun k => by rw [commodatumlaw17_ReachComposed.j0]) ?_
  exact Ev.pos rfl awake_b
theorem ReachComposed : commodatumlaw17_ReachComposed.Pure := by
  intro g q a2 hg hq ha
  refine Ev.rounds ?_
  unfold commodatumlaw17_ReachComposed.f
  obtain ⟨b, hb, hs⟩ := wide_ev g hg
  refine Ev.bind hb ?_
  cases b with
  | true => exact Ev.pos rfl (j0_true _ _ _ _ _)
  | false =>
    have hsl := hs rfl
    refine Ev.neg (by decide) ?_
    refine Ev.bind (refValid_ev g hsl) ?_
    by_cases hv : GV g
    · refine Ev.pos (decide_eq_true hv) ?_
      rw [node_ev]
      refine Ev.sb ?_
      by_cases h1 : nd g q.f0 = true
      · refine Ev.pos h1 ?_
        rw [node_ev]
        refine Ev.sb ?_
        by_cases h2 : nd g q.f1 = true
        · refine Ev.pos h2 ?_
          by_cases h3 : q.f2 < 0
          · exact Ev.pos h3 (j0_true _ _ _ _ _)
          refine Ev.neg h3 ?_
          by_cases h4 : q.f2 > 12
          · exact Ev.pos h4 (j0_true _ _ _ _ _)
          refine Ev.neg h4 ?_
          by_cases h5 : a2 < 0
          · exact Ev.pos h5 (j0_true _ _ _ _ _)
          refine Ev.neg h5 ?_
          by_cases h6 : a2 > 12
          · rw [decide_eq_true h6]
            exact j0_true _ _ _ _ _
          rw [decide_eq_false h6]
          refine Ev.step (fun k => by rw [commodatumlaw17_ReachComposed.j0]) ?_
          refine Ev.neg (by decide) ?_
          refine Ev.bind (copy_ev g hsl) ?_
          refine Ev.bind (count_ev hsl _ _ _) ?_
          have n1 := nd_iff.1 h1
          have n2 := nd_iff.1 h2
          obtain ⟨s, hs1⟩ := Int.eq_ofNat_of_zero_le n1.1
          obtain ⟨t, ht1⟩ := Int.eq_ofNat_of_zero_le n2.1
          obtain ⟨K, hK1⟩ := Int.eq_ofNat_of_zero_le (show 0 ≤ q.f2 by omega)
          obtain ⟨l, hl1⟩ := Int.eq_ofNat_of_zero_le (show 0 ≤ a2 by omega)
          rw [hs1, ht1, hK1, hl1]
          have e5 : wrap64 ((K : Int) + (l : Int)) = ((K + l : Nat) : Int) := by rw [w64 (by omega) (by omega)]; omega
          rw [e5, countR_ok hv (by omega) (by omega) (by omega)]
          have := compo_loop hv hsl s t K l (by omega) (by omega) (by omega) (by omega) g.length 0 (by omega) (fun w' hw' => by omega)
          simpa [sumN] using this
        · exact Ev.neg h2 (j0_true _ _ _ _ _)
      · exact Ev.neg h1 (j0_true _ _ _ _ _)
    · exact Ev.neg (by simpa using hv) (j0_true _ _ _ _ _)
end Go.Proofs.Ytcgnbmdhjehieaa.Pure
