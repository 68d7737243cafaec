/- The law MatrixEntries,called with any arguments that can be read as data,returns true,and its arguments read afterwards as before. No condition is added. (The row,written by rp.py,a program of this repo,out of the law's pure statement and the walk.) -/
import Derived.Test.YtkokhfodjhlnlaaRows
import Derived.Test.YtkokhfodjhlnlaaVd
import Derived.Test.YtkokhfodjhlnlaaQMatrixEntries
import Derived.Test.YtkokhfodjhlnlaaPMatrixEntriesa
import Derived.WalkKit
import Derived.ProofKit
import Derived.OpenShut
import Derived.ShutString
import Derived.ChangeOld
import Derived.Below
import Derived.SizedLaws
import Derived.Carry
import Derived.KernelRfl
import Derived.ChangeShapes
import Derived.WideShapes
import Derived.ChangeAt
import Derived.RowKit
namespace Go.Proofs.Ytkokhfodjhlnlaa.matrixEntries
open Go Go.ChangeShapes Go.WideShapes Go.ChangeAt Go.RowKit Go.Proofs Go.Proofs.Ytkokhfodjhlnlaa.V
open Go.ChangeMaps (open_string shut_string)
set_option linter.unusedVariables false
set_option linter.unusedSimpArgs false
theorem own : ownKnob Try.prog.godebug = none := by kernel_rfl
theorem laidOut : laidOutB Try.prog = true := by kernel_rfl
theorem pos : ∀ tid t n,Tab.tt V.tys tid = some (t,n) → 0 < t.size → 0 < n := tab_pos (by kernel_rfl)
theorem opn25 : OpnV Try.prog (.pair qU3 qU6) 25 := tab_opn (P := Try.prog) V.tysOK pos (by kernel_rfl) (nb := (V.tys.tt 25).elim 0 (·.2)) (by kernel_rfl)
set_option maxRecDepth 100000 in
theorem lifted (os : Os) (started : os.Started) (H : Type) (enc : TypeId × Value → H) :
    ReturnsInHanded {} Try.checked os 4 .any (Rows.matrixEntriesSpec.pre6 enc Try.prog Try.f4 Rows.matrixEntriesRow.domain false) (Rows.matrixEntriesSpec.post enc Try.prog Try.f4 false true false false) := by
  refine returnsInHanded_of_change_sized (C := Try.checked) own started (by kernel_rfl) Try.func4
    (ChangeSpec.witness6 (enc := enc) (C := Try.checked) false ⟨#[],#[.agg #[.int .i64 0,.int .i64 0,.int .i64 0,.int .i64 0,.int .i64 0,.int .i64 0]],[]⟩ 8 (by kernel_rfl) (by kernel_rfl) (by kernel_rfl) (by kernel_rfl)) ?_
  intro W base args ds gs before hval0 hW hcnd hsz0 _
  have hsz : (DataW.weightsEach Try.prog (Try.f4.params.toList ++ Rows.matrixEntriesSpec.plain.varTypes Try.prog) (ds ++ gs)).all (· ≤ reachBytes) = true := hsz0
  have hval : ∀ (j : Nat) t v,Try.f4.params[j]? = some t → args[j]? = some v → Value.okWide Try.prog W .any base t v := hval0
  have hW' := hW
  obtain ⟨p,q,hA0,hV,rfl,hfz,hnd⟩ := hW
  have hA : DataW.TrodAll enc Try.prog W 0 (fun _ => true) true Try.f4.params.toList args.toList ds p := hA0
  rw [Try.params4] at hA hval hsz
  obtain ⟨v0,vs0,d0,ds0,p0,q0,hargs,rfl,rfl,h0,r0⟩ := trodAll_cons hA
  obtain ⟨rfl,rfl,rfl⟩ := trodAll_nil r0
  obtain rfl : args = #[v0] := by cases args; simp_all
  obtain ⟨rfl,rfl⟩ := trodVars_none hV
  obtain ⟨cs0,rfl,_⟩ := okWide_struct Try.underlying25 (hval 0 25 v0 rfl rfl)
  have k0 := h0
  have lt0 : ∀ x ∈ p0,x.block < W.heap.size := by obtain ⟨m,hm⟩ := k0; exact DataW.trod_lt m _ _ _ hm
  obtain ⟨fuel0,hf0⟩ := h0
  obtain ⟨a0,e0,w0⟩ := arg_agg opn25 hf0 (fun n hn => by simpa using List.all_eq_true.1 hsz n (DataW.weights_mem_each (j := 0) rfl rfl n hn)) rfl
  clear hA0 hval0 hsz0 hsz
  obtain ⟨k,h⟩ := q2f a0
  refine (law_calls (qxi k) (arg := (.tc (.dyn (.pair qU3 qU6) a0) .tn)) (d := (a0,())) (by kernel_rfl) h (repA_cons e0 repA_nil)).mono fun e W' ⟨he,bel⟩ => ?_
  subst he
  exact ⟨_,rfl,_,_,_,[],_,[],hW',trodAll_mk1 (shut_bool Try.underlying4 _),(trodAll_cons_mk (Below.trod laidOut (by kernel_rfl) (of_decide_eq_true (by kernel_rfl)) k0 bel lt0) trodAll_mk0),rfl,bel.frame _,fun h => by cases h⟩
theorem andT_ {a b : Bool} (ha : a = true) (hb : b = true) : (a && b) = true := by rw [ha,hb]; rfl
set_option maxHeartbeats 100000000 in
theorem facts : joinedFacts Try.prog 4 Try.f4 Rows.matrixEntriesSpec Rows.matrixEntriesRow = true := by
  refine andT_ (andT_ (andT_ (andT_ (andT_ (andT_ (andT_ (andT_ (andT_ (andT_ (andT_ (andT_ (andT_ (andT_ (andT_ (andT_ (andT_ (andT_ (andT_ (andT_ (andT_ (andT_ (andT_ (andT_ (andT_ (andT_ (andT_ (andT_ (andT_ (andT_ (andT_ ?_ ?_) ?_) ?_) ?_) ?_) ?_) ?_) ?_) ?_) ?_) ?_) ?_) ?_) ?_) ?_) ?_) ?_) ?_) ?_) ?_) ?_) ?_) ?_) ?_) ?_) ?_) ?_) ?_) ?_) ?_) ?_
  all_goals (as_aux_lemma => kernel_rfl)
theorem over : Rows.matrixEntriesRow.holds Try.pinned (OpenSpec.ofChange Rows.matrixEntriesSpec) :=
  OpenClaim.holds_of_wide 4 Try.f4 rfl rfl rfl rfl rfl rfl rfl ⟨rfl,rfl,rfl,rfl,rfl⟩ rfl rfl rfl rfl rfl (by kernel_rfl) Try.func4 facts
    (of_decide_eq_true (by kernel_rfl)) (by unfold Func.isWrapper; first | (rw [if_pos (by decide +kernel)]; kernel_rfl) | (rw [if_neg (by decide +kernel)]; exact ⟨rfl,rfl⟩))
    (fun os started H enc _ => lifted os started H enc)
theorem proved : Rows.MatrixEntriesSaid := over
#print axioms proved
end Go.Proofs.Ytkokhfodjhlnlaa.matrixEntries
namespace Go.Proofs.Ytkokhfodjhlnlaa
/-- The row,under a short name,for the claim. -/
theorem matrixEntries_holds : Rows.MatrixEntriesSaid := matrixEntries.proved
end Go.Proofs.Ytkokhfodjhlnlaa
