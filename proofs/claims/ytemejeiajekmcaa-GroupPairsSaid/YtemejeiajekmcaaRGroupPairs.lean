/- The law GroupPairs, called with any arguments that can be read as data, returns true, and its arguments read afterwards as before. No condition is added. (The row, written by rp.py, a program of this repo, out of the law's pure statement and the walk.) -/
import Derived.Test.YtemejeiajekmcaaRows
import Derived.Test.YtemejeiajekmcaaVc
import Derived.Test.YtemejeiajekmcaaQPairs
import Derived.Test.YtemejeiajekmcaaPPairsb
import Derived.WalkKit
import Derived.ProofKit
import Derived.OpenShut
import Derived.ShutString
import Derived.ChangeOld
import Derived.Below
import Derived.SizedLaws
import Derived.Carry
import Derived.KernelRfl
import Derived.ChangeShapes
import Derived.WideShapes
import Derived.ChangeAt
import Derived.RowKit
namespace Go.Proofs.Ytemejeiajekmcaa.groupPairs
open Go Go.ChangeShapes Go.WideShapes Go.ChangeAt Go.RowKit Go.Proofs Go.Proofs.Ytemejeiajekmcaa.V
open Go.ChangeMaps (open_string shut_string)
set_option linter.unusedVariables false
set_option linter.unusedSimpArgs false
theorem own : ownKnob Try.prog.godebug = none := by kernel_rfl
theorem laidOut : laidOutB Try.prog = true := by kernel_rfl
theorem pos : ∀ tid t n, Tab.tt V.tys tid = some (t, n) → 0 < t.size → 0 < n := tab_pos (by kernel_rfl)
theorem opn22 : OpnV Try.prog (.sl (.sl (.int .i64))) 22 := tab_opn (P := Try.prog) V.tysOK pos (by kernel_rfl) (nb := (V.tys.tt 22).elim 0 (·.2)) (by kernel_rfl)
theorem opn43 : OpnV Try.prog (.sl (.int .i64)) 43 := tab_opn (P := Try.prog) V.tysOK pos (by kernel_rfl) (nb := (V.tys.tt 43).elim 0 (·.2)) (by kernel_rfl)
set_option maxRecDepth 100000 in
theorem lifted (os : Os) (started : os.Started) (H : Type) (enc : TypeId × Value → H) :
    ReturnsInHanded {} Try.checked os 9 .any (Rows.groupPairsSpec.pre6 enc Try.prog Try.f9 Rows.groupPairsRow.domain false) (Rows.groupPairsSpec.post enc Try.prog Try.f9 false true false false) := by
  refine returnsInHanded_of_change_sized (C := Try.checked) own started (by kernel_rfl) Try.func9
    (ChangeSpec.witness6 (enc := enc) (C := Try.checked) false ⟨#[], #[.slice none 0 0, .slice none 0 0], []⟩ 8 (by kernel_rfl) (by kernel_rfl) (by kernel_rfl) (by kernel_rfl)) ?_
  intro W base args ds gs before hval0 hW hcnd hsz0 _
  have hsz : (DataW.weightsEach Try.prog (Try.f9.params.toList ++ Rows.groupPairsSpec.plain.varTypes Try.prog) (ds ++ gs)).all (· ≤ reachBytes) = true := hsz0
  have hval : ∀ (j : Nat) t v, Try.f9.params[j]? = some t → args[j]? = some v → Value.okWide Try.prog W .any base t v := hval0
  have hW' := hW
  obtain ⟨p, q, hA0, hV, rfl, hfz, hnd⟩ := hW
  have hA : DataW.TrodAll enc Try.prog W 0 (fun _ => true) true Try.f9.params.toList args.toList ds p := hA0
  rw [Try.params9] at hA hval hsz
  obtain ⟨v0, vs0, d0, ds0, p0, q0, hargs, rfl, rfl, h0, r0⟩ := trodAll_cons hA
  obtain ⟨v1, vs1, d1, ds1, p1, q1, rfl, rfl, rfl, h1, r1⟩ := trodAll_cons r0
  obtain ⟨rfl, rfl, rfl⟩ := trodAll_nil r1
  obtain rfl : args = #[v0, v1] := by cases args; simp_all
  obtain ⟨rfl, rfl⟩ := trodVars_none hV
  obtain ⟨ad0, len0, cap0, rfl⟩ := okWide_slice Try.underlying22 (hval 0 22 v0 rfl rfl)
  have k0 := h0
  have lt0 : ∀ x ∈ p0, x.block < W.heap.size := by obtain ⟨m, hm⟩ := k0; exact DataW.trod_lt m _ _ _ hm
  obtain ⟨fuel0, hf0⟩ := h0
  obtain ⟨a0, e0, w0⟩ := arg_agg opn22 hf0 (fun n hn => by simpa using List.all_eq_true.1 hsz n (DataW.weights_mem_each (j := 0) rfl rfl n hn)) rfl
  obtain ⟨ad1, len1, cap1, rfl⟩ := okWide_slice Try.underlying43 (hval 1 43 v1 rfl rfl)
  have k1 := h1
  have lt1 : ∀ x ∈ p1, x.block < W.heap.size := by obtain ⟨m, hm⟩ := k1; exact DataW.trod_lt m _ _ _ hm
  obtain ⟨fuel1, hf1⟩ := h1
  obtain ⟨a1, e1, w1⟩ := arg_agg opn43 hf1 (fun n hn => by simpa using List.all_eq_true.1 hsz n (DataW.weights_mem_each (j := 1) rfl rfl n hn)) rfl
  clear hA0 hval0 hsz0 hsz
  obtain ⟨k, h⟩ := q7z a0 a1
  refine (law_calls (qxw k) (arg := (.tc (.dyn (.sl (.sl (.int .i64))) a0) (.tc (.dyn (.sl (.int .i64)) a1) .tn))) (d := (a0, (a1, ()))) (by kernel_rfl) h (repA_cons e0 (repA_cons e1 repA_nil))).mono fun e W' ⟨he, bel⟩ => ?_
  subst he
  exact ⟨_, rfl, _, _, _, [], _, [], hW', trodAll_mk1 (shut_bool Try.underlying4 _), (trodAll_cons_mk (Below.trod laidOut (by kernel_rfl) (of_decide_eq_true (by kernel_rfl)) k0 bel lt0) (trodAll_cons_mk (Below.trod laidOut (by kernel_rfl) (of_decide_eq_true (by kernel_rfl)) k1 bel lt1) trodAll_mk0)), rfl, bel.frame _, fun h => by cases h⟩
theorem over : Rows.groupPairsRow.holds Try.pinned (OpenSpec.ofChange Rows.groupPairsSpec) :=
  OpenClaim.holds_of_wide 9 Try.f9 rfl rfl rfl rfl rfl rfl rfl ⟨rfl, rfl, rfl, rfl, rfl⟩ rfl rfl rfl rfl rfl (by kernel_rfl) Try.func9 (by kernel_rfl)
    (of_decide_eq_true (by kernel_rfl)) (by unfold Func.isWrapper; first | (rw [if_pos (by decide +kernel)]; kernel_rfl) | (rw [if_neg (by decide +kernel)]; exact ⟨rfl, rfl⟩))
    (fun os started H enc _ => lifted os started H enc)
theorem proved : Rows.GroupPairsSaid := over
#print axioms proved
end Go.Proofs.Ytemejeiajekmcaa.groupPairs
namespace Go.Proofs.Ytemejeiajekmcaa
/-- The row, under a short name, for the claim. -/
theorem groupPairs_holds : Rows.GroupPairsSaid := groupPairs.proved
end Go.Proofs.Ytemejeiajekmcaa
