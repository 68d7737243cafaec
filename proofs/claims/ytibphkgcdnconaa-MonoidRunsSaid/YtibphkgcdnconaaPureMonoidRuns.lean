import Derived.Test.YtibphkgcdnconaaSMonoidRuns
import Derived.Test.YtibphkgcdnconaaPE
import Derived.Test.YtibphkgcdnconaaPD
namespace Go.Proofs.Ytibphkgcdnconaa.Pure
open Go Go.RowKit Go.Proofs.Ytibphkgcdnconaa.QMon Go.Proofs.YtibphkgcdnconaaW.PrintWords Go.Proofs.YtibphkgcdnconaaW.PrintLast Go.Proofs.YtibphkgcdnconaaW.PrintMore Go.Proofs.YtibphkgcdnconaaX Go.Proofs.Ytibphkgcdnconaa.PureM
open Classical
set_option linter.unusedVariables false
set_option linter.unusedSimpArgs false

/-! ### truth tables -/
noncomputable def acc (m : List (List Int)) (I : Nat) (ins : List S64) (yes : List Int) (j : Nat) : Bool := decide (has yes (pr m ins (inp (j : Int) I) ins.length : Int))
noncomputable def tbl (m : List (List Int)) (I : Nat) (ins : List S64) (yes : List Int) : List Bool := tab (2 ^ I) (acc m I ins yes)
theorem pow_le {I : Nat} (h : I ≤ 16) : 1 ≤ 2 ^ I ∧ 2 ^ I ≤ 65536 := by
  have h1 : 1 ≤ 2 ^ I := Nat.one_le_two_pow
  have h2 : 2 ^ I ≤ 2 ^ 16 := Nat.pow_le_pow_right (by omega) h
  omega
theorem refTbl_ev {m : List (List Int)} {I : Nat} {ins : List S64} {yes : List Int} (h : VM m) (hp : PV m (I : Int) ins yes) (hy : yes.length ≤ 1000000) :
    Ev (fun k => commodatumref10_Decides.f k m (I : Int) ins yes) (tbl m I ins yes) := by
  have hI : I ≤ 16 := by have := hp.2.1; omega
  have h2 := pow_le hI
  have es : shl .i64 1 (I : Int) = ((2 ^ I : Nat) : Int) := by
    have := shl_nat (A := 1) (n := I) (by omega) hI
    rw [Nat.one_mul] at this; exact this
  unfold commodatumref10_Decides.f
  rw [es]
  refine Ev.pos (by omega) ?_
  refine Ev.pos (by omega) ?_
  refine Ev.pos (by omega) ?_
  rw [Int.toNat_natCast, tab_start (2 ^ I) (acc m I ins yes)]
  refine loop_go (F := fun k j => commodatumref10_Decides.l0 k m (tab (2 ^ I) (fun q => if q < j then acc m I ins yes q else false)) ((j : Nat) : Int) (I : Int) ins yes) (2 ^ I) (fun j hj hx => ?_) ?_ 0 (by omega)
  · refine Ev.step (fun k => by rw [commodatumref10_Decides.l0]) ?_
    refine Ev.pos (by rw [tab_length]; omega) ?_
    refine Ev.bind (refInp_ev (j : Int) I hI) ?_
    refine Ev.bind (a := acc m I ins yes j) ?_ ?_
    · unfold commodatumref10_Accepts.f
      refine Ev.bind (refPr_ev h hp (inp (j : Int) I) (by rw [inp_length])) ?_
      exact Ev.bind (refHas_ev yes hy _) (Ev.ret rfl)
    · refine Ev.pos (by omega) ?_
      rw [Int.toNat_natCast, tab_step, up1 (by omega)]
      exact hx
  · refine Ev.step (fun k => by rw [commodatumref10_Decides.l0]) ?_
    exact Ev.neg (by rw [tab_length]; omega) (Ev.ret (tab_end _ _))
theorem ownTbl_loop {m : List (List Int)} {I : Nat} {ins : List S64} {yes : List Int} (h : VM m) (hp : PV m (I : Int) ins yes) (hy : yes.length ≤ 1000000) :
    Ev (fun k => monoid_Decides.l0 k m (List.replicate (2 ^ I) false) ((2 ^ I : Nat) : Int) 0 (I : Int) ins yes) (tbl m I ins yes, 0) := by
  have hI : I ≤ 16 := by have := hp.2.1; omega
  have h2 := pow_le hI
  rw [tab_start (2 ^ I) (acc m I ins yes)]
  refine loop_go (F := fun k j => monoid_Decides.l0 k m (tab (2 ^ I) (fun q => if q < j then acc m I ins yes q else false)) ((2 ^ I : Nat) : Int) ((j : Nat) : Int) (I : Int) ins yes) (2 ^ I) (fun j hj hx => ?_) ?_ 0 (by omega)
  · refine Ev.step (fun k => by rw [monoid_Decides.l0]) ?_
    refine Ev.pos (by omega) ?_
    refine Ev.bind (ownInp_ev (j : Int) I hI) ?_
    refine Ev.bind (ownPr_ev h hp (inp (j : Int) I) (by rw [inp_length])) ?_
    refine Ev.bind (ownHas_ev yes hy _) ?_
    refine Ev.pos (by omega) ?_
    refine Ev.pos (by rw [tab_length]; omega) ?_
    have es : decide (has yes (pr m ins (inp (j : Int) I) ins.length : Int)) = acc m I ins yes j := rfl
    rw [Int.toNat_natCast, es, tab_step, up1 (by omega)]
    exact hx
  · refine Ev.step (fun k => by rw [monoid_Decides.l0]) ?_
    exact Ev.neg (by omega) (Ev.ret (by rw [tab_end]; rfl))
theorem eq_ev (l : List Bool) (hl : l.length ≤ 1000000) : Ev (fun k => commodatumref09_Equal.f k l l) true := by
  unfold commodatumref09_Equal.f
  refine Ev.pos rfl ?_
  refine loop_go (F := fun k j => commodatumref09_Equal.l0 k l l ((j : Nat) : Int)) l.length (fun j hj hx => ?_) ?_ 0 (by omega)
  · refine Ev.step (fun k => by rw [commodatumref09_Equal.l0]) ?_
    refine Ev.pos (by omega) ?_
    refine Ev.pos (by omega) ?_
    refine Ev.pos (by omega) ?_
    rw [up1 (by omega)]
    exact Ev.neg (by simp) hx
  · refine Ev.step (fun k => by rw [commodatumref09_Equal.l0]) ?_
    exact Ev.neg (by omega) (Ev.ret rfl)
theorem copyOf_eq (I : Int) (ins : List S64) (yes : List Int) (hl : ins.length ≤ 1000000) (hy : yes.length ≤ 1000000) : commodatumlaw10_copyOf.f I ins yes = some (I, ins, yes) := by
  unfold commodatumlaw10_copyOf.f
  simp only [Option.bind_some, List.nil_append, List.length_nil]
  rw [if_pos (by omega), if_pos (by omega)]

theorem sum_ge {n : Nat} (k : Nat) (hk : k < n) (f : Nat → Nat) : f k ≤ sumN n f := by
  induction n with
  | zero => omega
  | succ n ih =>
    rw [sumN]
    by_cases e : k = n
    · subst e; omega
    · have := ih (by omega); omega
theorem gt12 {n : Nat} (h : n > 12) : (n : Int) > 12 := by omega
theorem gt12' {n : Nat} (h : ¬ n > 12) : ¬ (n : Int) > 12 := by omega
theorem gtW {n : Nat} (h : n > 16777216) : (n : Int) > 16777216 := by omega
theorem gtW' {n : Nat} (h : ¬ n > 16777216) : ¬ (n : Int) > 16777216 := by omega
/-! ### the law -/
section
variable {m : List (List Int)} {I : Int} {ins : List S64} {yes : List Int} {x : List Bool} (hm : m.length ≤ 20000 ∧ ∀ u, u < m.length → (row m u).length ≤ 20000) (hl : ins.length ≤ 1000000) (hy : yes.length ≤ 1000000) (hx : x.length ≤ 1000000)
include hm hl hy hx
theorem runs_j3 (rv re : Int) (dv : List Bool) (de : Int) (hd : dv.length ≤ 1000000) (hR : Ev (fun k => monoid_Run.f k m I ins yes x) (rv, re)) (hD : Ev (fun k => monoid_Decides.f k m I ins yes) (dv, de)) :
    Ev (fun k => commodatumlaw10_MonoidRuns.j3 k m x rv dv re de I ins yes) true := by
  refine Ev.step (fun k => by rw [commodatumlaw10_MonoidRuns.j3]) ?_
  have hc := copy_ev m hm.1 hm.2
  refine Ev.bind hc ?_
  rw [copyOf_eq I ins yes hl hy]
  refine Ev.sb ?_
  refine Ev.sb ?_
  refine Ev.pos (by simp; omega) ?_
  rw [List.nil_append]
  refine Ev.bind hR ?_
  refine Ev.bind hc ?_
  refine Ev.sb ?_
  refine Ev.bind hD ?_
  refine Ev.pos rfl ?_
  refine Ev.pos rfl ?_
  refine Ev.pos rfl ?_
  refine Ev.bind (eq_ev dv hd) ?_
  exact Ev.pos rfl (Ev.bind awake_ev (Ev.ret rfl))
omit hm hx in
theorem run_bad (h : ¬ (VM m ∧ PV m I ins yes)) : Ev (fun k => monoid_Run.f k m I ins yes x) (0, 1) := by
  unfold monoid_Run.f
  refine Ev.bind (ownVP_ev m I ins yes hl hy) ?_
  rw [decide_eq_false h]
  exact Ev.neg (by simp) (Ev.ret rfl)
omit hm hx in
theorem dec_bad (h : ¬ (VM m ∧ PV m I ins yes)) : Ev (fun k => monoid_Decides.f k m I ins yes) ([], 1) := by
  unfold monoid_Decides.f
  refine Ev.bind (ownVP_ev m I ins yes hl hy) ?_
  rw [decide_eq_false h]
  exact Ev.neg (by simp) (Ev.ret rfl)
theorem runs_bad (h : ¬ (VM m ∧ PV m I ins yes)) : Ev (fun k => commodatumlaw10_MonoidRuns.j1 k m x 0 ([] : List Bool) 0 0 true I ins yes) true := by
  refine Ev.step (fun k => by rw [commodatumlaw10_MonoidRuns.j1]) ?_
  refine Ev.pos rfl ?_
  exact runs_j3 hm hl hy hx 0 1 [] 1 (by simp) (run_bad hl hy h) (dec_bad hl hy h)
theorem runs_j2 (hl2 : ins.length ≤ 20000) (h : VM m ∧ PV m I ins yes) (rv re : Int) (hR : Ev (fun k => monoid_Run.f k m I ins yes x) (rv, re)) :
    Ev (fun k => commodatumlaw10_MonoidRuns.j2 k m x rv ([] : List Bool) re 0 I ins yes) true := by
  obtain ⟨n, rfl⟩ : ∃ n : Nat, I = (n : Int) := ⟨I.toNat, by have := h.2.1; omega⟩
  have hI : n ≤ 16 := by have := h.2.2.1; omega
  have h2 := pow_le hI
  have es : shl .i64 1 (n : Int) = ((2 ^ n : Nat) : Int) := by
    have := shl_nat (A := 1) (n := n) (by omega) hI
    rw [Nat.one_mul] at this; exact this
  have e1 : wrap64 (1 + (ins.length : Int)) = ((1 + ins.length : Nat) : Int) := by rw [w64 (by omega) (by omega)]; omega
  have hb : (1 + ins.length) * 2 ^ n ≤ 1000000 * 65536 := Nat.mul_le_mul (by omega) h2.2
  have e2 : wrap64 (((2 ^ n : Nat) : Int) * ((1 + ins.length : Nat) : Int)) = (((1 + ins.length) * 2 ^ n : Nat) : Int) := by
    rw [show (((2 ^ n : Nat) : Int) * ((1 + ins.length : Nat) : Int)) = (((1 + ins.length) * 2 ^ n : Nat) : Int) by rw [Nat.mul_comm (1 + ins.length)]; exact (Int.natCast_mul _ _).symm]
    generalize (1 + ins.length) * 2 ^ n = q at hb
    rw [w64 (by omega) (by omega)]
  have e3 : shl .i64 ((1 + ins.length : Nat) : Int) (n : Int) = (((1 + ins.length) * 2 ^ n : Nat) : Int) := shl_nat (by omega) hI
  refine Ev.step (fun k => by rw [commodatumlaw10_MonoidRuns.j2]) ?_
  have hdec : ∀ dv de, Ev (fun k => if (n : Int) > 12 then (some (([] : List Bool), (5 : Int))) else (if 0 ≤ (n : Int) then (if (((1 + ins.length) * 2 ^ n : Nat) : Int) > 16777216 then (some (([] : List Bool), 5)) else monoid_Decides.l0 k m (List.replicate (2 ^ n) false) ((2 ^ n : Nat) : Int) 0 (n : Int) ins yes) else none)) (dv, de) → Ev (fun k => monoid_Decides.f k m (n : Int) ins yes) (dv, de) := by
    intro dv de hq
    unfold monoid_Decides.f
    refine Ev.bind (ownVP_ev m _ ins yes hl hy) ?_
    rw [decide_eq_true h]
    refine Ev.pos rfl ?_
    rw [e1, e3, es]
    refine Ev.congr (fun k => ?_) hq
    rw [Int.toNat_natCast, if_pos (show (0 : Int) ≤ ((2 ^ n : Nat) : Int) by omega), if_pos (show 2 ^ n ≤ 281474976710656 by omega)]
    simp only [Option.bind_some, List.length_replicate]
  generalize hq : (1 + ins.length) * 2 ^ n = q at *
  have hL2 : n > 12 → commodatumref09_Large.f (n : Int) (ins.length : Int) = some true := by
    intro c1
    unfold commodatumref09_Large.f
    rw [if_pos (gt12 c1)]
  have hL1 : ¬ n > 12 → commodatumref09_Large.f (n : Int) (ins.length : Int) = some (decide ((q : Int) > 16777216)) := by
    intro c1
    unfold commodatumref09_Large.f
    rw [if_neg (gt12' c1), if_pos (Int.natCast_nonneg n), e1, es, e2]
  rw [e1, es, e2]
  clear e1 es e2 e3
  by_cases c1 : n > 12
  · rw [hL2 c1]
    clear hL1 hL2
    refine Ev.sb ?_
    refine Ev.pos rfl ?_
    exact runs_j3 hm hl hy hx rv re [] 5 (by simp) hR (hdec _ _ (Ev.pos (by omega) (Ev.ret rfl)))
  · rw [hL1 c1]
    clear hL1 hL2
    refine Ev.sb ?_
    by_cases c2 : q > 16777216
    · have hz : (q : Int) > 16777216 := gtW c2
      rw [decide_eq_true hz]
      refine Ev.pos rfl ?_
      exact runs_j3 hm hl hy hx rv re [] 5 (by simp) hR (hdec _ _ (Ev.neg (by omega) (Ev.pos (by omega) (Ev.pos hz (Ev.ret rfl)))))
    · have hz : ¬ (q : Int) > 16777216 := gtW' c2
      rw [decide_eq_false hz]
      refine Ev.neg (by simp) ?_
      refine Ev.pos (by omega) ?_
      by_cases c3 : q > 300000
      · refine Ev.pos (by omega) ?_
        exact Ev.bind awake_ev (Ev.ret rfl)
      · refine Ev.neg (by omega) ?_
        refine Ev.bind (refTbl_ev h.1 h.2 hy) ?_
        refine runs_j3 hm hl hy hx rv re _ 0 (by unfold tbl; rw [tab_length]; omega) hR (hdec _ _ (Ev.neg (by omega) (Ev.pos (by omega) (Ev.neg hz ?_))))
        exact ownTbl_loop h.1 h.2 hy
end

theorem MonoidRuns : commodatumlaw10_MonoidRuns.Pure := by
  intro m p x hm hp hx
  refine Ev.rounds ?_
  obtain ⟨I, ins, yes⟩ := p
  simp only
  have hins : ins.length * 24 ≤ 140737488351232 := hp.2.1.1
  have hyes : yes.length * 8 ≤ 140737488351232 := hp.2.2.1
  unfold commodatumlaw10_MonoidRuns.f
  have hend : Ev (fun k => commodatumlaw10_MonoidRuns.j0 k m x true I ins yes) true := by
    refine Ev.step (fun k => by rw [commodatumlaw10_MonoidRuns.j0]) ?_
    exact Ev.pos rfl (Ev.bind awake_ev (Ev.ret rfl))
  obtain ⟨b, hb, hs⟩ := wide_ev m hm
  refine Ev.bind hb ?_
  cases b with
  | true => exact Ev.pos rfl hend
  | false =>
    have hs := hs rfl
    have hmm : m.length ≤ 20000 ∧ ∀ u, u < m.length → (row m u).length ≤ 20000 := by
      refine ⟨by omega, fun u hu => ?_⟩
      have := sum_ge u hu (fun u => (row m u).length)
      unfold esum at hs
      omega
    refine Ev.neg (by decide) ?_
    unfold commodatumlaw10_Long.f
    rw [w64 (by omega) (by omega)]
    refine Ev.sb ?_
    by_cases c1 : ins.length + yes.length > 20000
    · exact Ev.pos (decide_eq_true (by omega)) hend
    refine Ev.neg (by simp; omega) ?_
    by_cases c2 : x.length > 100
    · rw [show decide ((x.length : Int) > 100) = true from decide_eq_true (by omega)]
      exact hend
    rw [show decide ((x.length : Int) > 100) = false from decide_eq_false (by omega)]
    refine Ev.step (fun k => by rw [commodatumlaw10_MonoidRuns.j0]) ?_
    refine Ev.neg (by simp) ?_
    refine Ev.bind (refValid_ev m) ?_
    by_cases h1 : VM m
    · rw [decide_eq_true h1]
      refine Ev.pos rfl ?_
      refine Ev.bind (refVP_ev m I ins yes (by omega) (by omega)) ?_
      by_cases h2 : PV m I ins yes
      · rw [decide_eq_true h2]
        refine Ev.step (fun k => by rw [commodatumlaw10_MonoidRuns.j1]) ?_
        refine Ev.neg (by simp) ?_
        by_cases c3 : (x.length : Int) = I
        · refine Ev.pos c3 ?_
          refine Ev.bind (refPr_ev h1 h2 x c3) ?_
          refine runs_j2 hmm (by omega) (by omega) (by omega) (by omega) ⟨h1, h2⟩ _ _ ?_
          unfold monoid_Run.f
          refine Ev.bind (ownVP_ev m I ins yes (by omega) (by omega)) ?_
          rw [decide_eq_true (show VM m ∧ PV m I ins yes from ⟨h1, h2⟩)]
          refine Ev.pos rfl ?_
          refine Ev.pos c3 ?_
          exact Ev.bind (ownPr_ev h1 h2 x c3) (Ev.ret rfl)
        · refine Ev.neg c3 ?_
          refine runs_j2 hmm (by omega) (by omega) (by omega) (by omega) ⟨h1, h2⟩ _ _ ?_
          unfold monoid_Run.f
          refine Ev.bind (ownVP_ev m I ins yes (by omega) (by omega)) ?_
          rw [decide_eq_true (show VM m ∧ PV m I ins yes from ⟨h1, h2⟩)]
          refine Ev.pos rfl ?_
          exact Ev.neg c3 (Ev.ret rfl)
      · rw [decide_eq_false h2]
        exact runs_bad hmm (by omega) (by omega) (by omega) (fun z => h2 z.2)
    · rw [decide_eq_false h1]
      refine Ev.neg (by simp) ?_
      exact runs_bad hmm (by omega) (by omega) (by omega) (fun z => h1 z.1)
end Go.Proofs.Ytibphkgcdnconaa.Pure
