/- The law MonoidRuns, called with any arguments that can be read as data, returns true, and its arguments read afterwards as before. No condition is added. (The row, written by xprint.py, this session's program, out of the law's pure statement and the walk.) -/
import Derived.Test.YtibphkgcdnconaaRows
import Derived.Test.YtibphkgcdnconaaQMonx15
import Derived.Test.YtibphkgcdnconaaSMonoidRuns
import Derived.Test.YtibphkgcdnconaaPureMonoidRuns
import Derived.WalkKit
import Derived.ProofKit
import Derived.OpenShut
import Derived.ShutString
import Derived.ChangeOld
import Derived.Below
import Derived.SizedLaws
import Derived.Carry
namespace Go.Proofs.Ytibphkgcdnconaa.monoidRuns
open Go.ChangeShapes Go.WideShapes Go.ChangeAt Go.RowKit Go.Proofs.YtibphkgcdnconaaW.PrintWords Go.Proofs.YtibphkgcdnconaaX Go.Proofs.Ytibphkgcdnconaa.QMon
open Go.ChangeMaps (open_string shut_string)
set_option linter.unusedVariables false
set_option linter.unusedSimpArgs false
theorem own : ownKnob Try.prog.godebug = none := by kernel_rfl
theorem laidOut : laidOutB Try.prog = true := by kernel_rfl
theorem opn64 : Opn Try.prog 64 k64 Wf64 := by
  have h := opn_struct (P := Try.prog) (t := 64) Try.underlying64 (by kernel_rfl) (opnF_cons rfl rfl (opn_int Try.underlying3 (by kernel_rfl)) (opnF_cons rfl rfl (opn_int Try.underlying3 (by kernel_rfl)) (opnF_one rfl (opn_int Try.underlying3 (by kernel_rfl))))) (fun x : S64 => (x.f0, x.f1, x.f2)) (fun p => (⟨p.1, p.2.1, p.2.2⟩ : S64)) (fun _ => rfl)
  refine ⟨h.sz, fun hx hw => ?_⟩
  obtain ⟨a, hk, hwf⟩ := h.op hx hw
  exact ⟨a, hk, hwf⟩

theorem opn34 : Opn Try.prog 34 k34 Wf34 := by
  have h := opn_struct (P := Try.prog) (t := 34) Try.underlying34 (by kernel_rfl) (opnF_cons rfl rfl (opn_int Try.underlying3 (by kernel_rfl)) (opnF_cons rfl rfl (opn_slice 24 Try.underlying32 (by kernel_rfl) (by kernel_rfl) opn64) (opnF_one rfl (opn_slice 8 Try.underlying30 (by kernel_rfl) (by kernel_rfl) (opn_int Try.underlying3 (by kernel_rfl)))))) (fun x : S34 => (x.f0, x.f1, x.f2)) (fun p => (⟨p.1, p.2.1, p.2.2⟩ : S34)) (fun _ => rfl)
  refine ⟨h.sz, fun hx hw => ?_⟩
  obtain ⟨a, hk, hwf⟩ := h.op hx hw
  exact ⟨a, hk, hwf⟩

set_option maxRecDepth 100000 in
theorem lifted (os : Os) (started : os.Started) (H : Type) (enc : TypeId × Value → H) :
    ReturnsInHanded {} Try.checked os 4 .any (Rows.monoidRunsSpec.pre6 enc Try.prog Try.f4 Rows.monoidRunsRow.domain false) (Rows.monoidRunsSpec.post enc Try.prog Try.f4 false true false false) := by
  refine returnsInHanded_of_change_sized (C := Try.checked) own started (by kernel_rfl) Try.func4
    (ChangeSpec.witness6 (enc := enc) (C := Try.checked) false ⟨#[], #[.slice none 0 0, .agg #[.int .i64 0, .slice none 0 0, .slice none 0 0], .slice none 0 0], []⟩ 8 (by kernel_rfl) (by kernel_rfl) (by kernel_rfl) (by kernel_rfl)) ?_
  intro W base args ds gs before hval0 hW hcnd hsz0 _
  have hsz : (DataW.weightsEach Try.prog (Try.f4.params.toList ++ Rows.monoidRunsSpec.plain.varTypes Try.prog) (ds ++ gs)).all (· ≤ reachBytes) = true := hsz0
  have hval : ∀ (j : Nat) t v, Try.f4.params[j]? = some t → args[j]? = some v → Value.okWide Try.prog W .any base t v := hval0
  have hW' := hW
  obtain ⟨p, q, hA0, hV, rfl, hfz, hnd⟩ := hW
  have hA : DataW.TrodAll enc Try.prog W 0 (fun _ => true) true Try.f4.params.toList args.toList ds p := hA0
  rw [Try.params4] at hA hval hsz
  obtain ⟨v0, vs0, d0, ds0, p0, q0, hargs, rfl, rfl, h0, r0⟩ := trodAll_cons hA
  obtain ⟨v1, vs1, d1, ds1, p1, q1, rfl, rfl, rfl, h1, r1⟩ := trodAll_cons r0
  obtain ⟨v2, vs2, d2, ds2, p2, q2, rfl, rfl, rfl, h2, r2⟩ := trodAll_cons r1
  obtain ⟨rfl, rfl, rfl⟩ := trodAll_nil r2
  obtain rfl : args = #[v0, v1, v2] := by cases args; simp_all
  obtain ⟨rfl, rfl⟩ := trodVars_none hV
  obtain ⟨ad0, len0, cap0, rfl⟩ := okWide_slice Try.underlying23 (hval 0 23 v0 rfl rfl)
  have k0 := h0
  have lt0 : ∀ x ∈ p0, x.block < W.heap.size := by obtain ⟨m, hm⟩ := k0; exact DataW.trod_lt m _ _ _ hm
  obtain ⟨fuel0, hf0⟩ := h0
  obtain ⟨l0, hK0, hw0⟩ := ((opn_slice 24 Try.underlying23 (by kernel_rfl) (by kernel_rfl) (opn_slice 8 Try.underlying30 (by kernel_rfl) (by kernel_rfl) (opn_int Try.underlying3 (by kernel_rfl)))) : Opn Try.prog 23 _ (WSl 24 (WSl 8 (WInt .i64)))).op hf0 (fun n hn => by simpa using List.all_eq_true.1 hsz n (DataW.weights_mem_each (j := 0) rfl rfl n hn))
  obtain ⟨A0, c0, he0, hc0, hr0⟩ := hK0
  simp only [Value.cells, List.cons.injEq, Value.slice.injEq, and_true] at he0
  obtain ⟨rfl, rfl, rfl⟩ := he0
  obtain ⟨cs1, rfl, _⟩ := okWide_struct Try.underlying34 (hval 1 34 v1 rfl rfl)
  have k1 := h1
  have lt1 : ∀ x ∈ p1, x.block < W.heap.size := by obtain ⟨m, hm⟩ := k1; exact DataW.trod_lt m _ _ _ hm
  obtain ⟨fuel1, hf1⟩ := h1
  obtain ⟨s1, hK1, hw1⟩ := (opn34 : Opn Try.prog 34 _ Wf34).op hf1 (fun n hn => by simpa using List.all_eq_true.1 hsz n (DataW.weights_mem_each (j := 1) rfl rfl n hn))
  obtain ⟨A1_1, c1_1, A1_2, c1_2, he1, hc1_1, hr1_1, hc1_2, hr1_2⟩ := k34_open hK1
  obtain rfl : cs1 = #[.int .i64 s1.f0, .slice A1_1 s1.f1.length c1_1, .slice A1_2 s1.f2.length c1_2] := by apply Array.toList_inj.1; exact he1
  obtain ⟨ad2, len2, cap2, rfl⟩ := okWide_slice Try.underlying35 (hval 2 35 v2 rfl rfl)
  have k2 := h2
  have lt2 : ∀ x ∈ p2, x.block < W.heap.size := by obtain ⟨m, hm⟩ := k2; exact DataW.trod_lt m _ _ _ hm
  obtain ⟨fuel2, hf2⟩ := h2
  obtain ⟨l2, hK2, hw2⟩ := ((opn_slice 1 Try.underlying35 (by kernel_rfl) (by kernel_rfl) (opn_bool Try.underlying4 (by kernel_rfl))) : Opn Try.prog 35 _ (WSl 1 WAny)).op hf2 (fun n hn => by simpa using List.all_eq_true.1 hsz n (DataW.weights_mem_each (j := 2) rfl rfl n hn))
  obtain ⟨A2, c2, he2, hc2, hr2⟩ := hK2
  simp only [Value.cells, List.cons.injEq, Value.slice.injEq, and_true] at he2
  obtain ⟨rfl, rfl, rfl⟩ := he2
  clear hA0 hval0 hsz0 hsz
  obtain ⟨k, h⟩ := Pure.MonoidRuns l0 s1 l2 hw0 hw1 hw2
  refine (commodatumlaw10_MonoidRuns.calls k _ _ l0 s1.f0 _ _ s1.f1 _ _ s1.f2 _ _ l2 true W hr0 hc0 hr1_1 hc1_1 hr1_2 hc1_2 hr2 hc2 h).mono fun e W' ⟨he, bel⟩ => ?_
  subst he
  exact ⟨_, rfl, _, _, _, [], _, [], hW', trodAll_mk1 (shut_bool Try.underlying4 _), (trodAll_cons_mk (Below.trod laidOut (by kernel_rfl) (of_decide_eq_true (by kernel_rfl)) k0 bel lt0) (trodAll_cons_mk (Below.trod laidOut (by kernel_rfl) (of_decide_eq_true (by kernel_rfl)) k1 bel lt1) (trodAll_cons_mk (Below.trod laidOut (by kernel_rfl) (of_decide_eq_true (by kernel_rfl)) k2 bel lt2) trodAll_mk0))), rfl, bel.frame _, fun h => by cases h⟩
theorem over : Rows.monoidRunsRow.holds Try.pinned (OpenSpec.ofChange Rows.monoidRunsSpec) :=
  OpenClaim.holds_of_wide 4 Try.f4 rfl rfl rfl rfl rfl rfl rfl ⟨rfl, rfl, rfl, rfl, rfl⟩ rfl rfl rfl rfl rfl (by kernel_rfl) Try.func4 (by kernel_rfl)
    (of_decide_eq_true (by kernel_rfl)) (by unfold Func.isWrapper; first | (rw [if_pos (by decide +kernel)]; kernel_rfl) | (rw [if_neg (by decide +kernel)]; exact ⟨rfl, rfl⟩))
    (fun os started H enc _ => lifted os started H enc)
theorem proved : Rows.MonoidRunsSaid := over
#print axioms proved
end Go.Proofs.Ytibphkgcdnconaa.monoidRuns
namespace Go.Proofs.Ytibphkgcdnconaa
/-- The row, under a short name, for the claim. -/
theorem monoidRuns_holds : Rows.MonoidRunsSaid := monoidRuns.proved
end Go.Proofs.Ytibphkgcdnconaa
