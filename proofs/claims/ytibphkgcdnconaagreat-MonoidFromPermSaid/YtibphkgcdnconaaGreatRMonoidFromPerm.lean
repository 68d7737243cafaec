/- The law MonoidFromPerm,called with any arguments that can be read as data,returns true,and its arguments read afterwards as before. No condition is added. (The row,written by rp.py,a program of this repo,out of the law's pure statement and the walk.) -/
import Derived.Test.YtibphkgcdnconaaGreatRows
import Derived.Test.YtibphkgcdnconaaGreatVd
import Derived.Test.YtibphkgcdnconaaGreatQFromPerm
import Derived.Test.YtibphkgcdnconaaGreatPFromPermb
import Derived.WalkKit
import Derived.ProofKit
import Derived.OpenShut
import Derived.ShutString
import Derived.ChangeOld
import Derived.Below
import Derived.SizedLaws
import Derived.Carry
import Derived.KernelRfl
import Derived.ChangeShapes
import Derived.WideShapes
import Derived.ChangeAt
import Derived.RowKit
namespace Go.Proofs.YtibphkgcdnconaaGreat.monoidFromPerm
open Go Go.ChangeShapes Go.WideShapes Go.ChangeAt Go.RowKit Go.Proofs Go.Proofs.YtibphkgcdnconaaGreat.V
open Go.ChangeMaps (open_string shut_string)
set_option linter.unusedVariables false
set_option linter.unusedSimpArgs false
theorem own : ownKnob Tryz.prog.godebug = none := by kernel_rfl
theorem laidOut : laidOutB Tryz.prog = true := by kernel_rfl
theorem pos : ∀ tid t n,Tab.tt V.tys tid = some (t,n) → 0 < t.size → 0 < n := tab_pos (by kernel_rfl)
theorem opn26 : OpnV Tryz.prog qU2 26 := tab_opn (P := Tryz.prog) V.tysOK pos (by kernel_rfl) (nb := (V.tys.tt 26).elim 0 (·.2)) (by kernel_rfl)
theorem opn23 : OpnV Tryz.prog qU0 23 := tab_opn (P := Tryz.prog) V.tysOK pos (by kernel_rfl) (nb := (V.tys.tt 23).elim 0 (·.2)) (by kernel_rfl)
set_option maxRecDepth 100000 in
theorem lifted (os : Os) (started : os.Started) (H : Type) (enc : TypeId × Value → H) :
    ReturnsInHanded {} Tryz.checked os 3 .any (Rows.monoidFromPermSpec.pre6 enc Tryz.prog Tryz.f3 Rows.monoidFromPermRow.domain false) (Rows.monoidFromPermSpec.post enc Tryz.prog Tryz.f3 false true false false) := by
  refine returnsInHanded_of_change_sized (C := Tryz.checked) own started (by kernel_rfl) Tryz.func3
    (ChangeSpec.witness6 (enc := enc) (C := Tryz.checked) false ⟨#[],#[.agg #[.int .i64 0,.int .i64 0,.slice none 0 0,.slice none 0 0],.slice none 0 0],[]⟩ 8 (by kernel_rfl) (by kernel_rfl) (by kernel_rfl) (by kernel_rfl)) ?_
  intro W base args ds gs before hval0 hW hcnd hsz0 _
  have hsz : (DataW.weightsEach Tryz.prog (Tryz.f3.params.toList ++ Rows.monoidFromPermSpec.plain.varTypes Tryz.prog) (ds ++ gs)).all (· ≤ reachBytes) = true := hsz0
  have hval : ∀ (j : Nat) t v,Tryz.f3.params[j]? = some t → args[j]? = some v → Value.okWide Tryz.prog W .any base t v := hval0
  have hW' := hW
  obtain ⟨p,q,hA0,hV,rfl,hfz,hnd⟩ := hW
  have hA : DataW.TrodAll enc Tryz.prog W 0 (fun _ => true) true Tryz.f3.params.toList args.toList ds p := hA0
  rw [Tryz.params3] at hA hval hsz
  obtain ⟨v0,vs0,d0,ds0,p0,q0,hargs,rfl,rfl,h0,r0⟩ := trodAll_cons hA
  obtain ⟨v1,vs1,d1,ds1,p1,q1,rfl,rfl,rfl,h1,r1⟩ := trodAll_cons r0
  obtain ⟨rfl,rfl,rfl⟩ := trodAll_nil r1
  obtain rfl : args = #[v0,v1] := by cases args; simp_all
  obtain ⟨rfl,rfl⟩ := trodVars_none hV
  obtain ⟨cs0,rfl,_⟩ := okWide_struct Tryz.underlying26 (hval 0 26 v0 rfl rfl)
  have k0 := h0
  have lt0 : ∀ x ∈ p0,x.block < W.heap.size := by obtain ⟨m,hm⟩ := k0; exact DataW.trod_lt m _ _ _ hm
  obtain ⟨fuel0,hf0⟩ := h0
  obtain ⟨a0,e0,w0⟩ := arg_agg opn26 hf0 (fun n hn => by simpa using List.all_eq_true.1 hsz n (DataW.weights_mem_each (j := 0) rfl rfl n hn)) rfl
  obtain ⟨ad1,len1,cap1,rfl⟩ := okWide_slice Tryz.underlying23 (hval 1 23 v1 rfl rfl)
  have k1 := h1
  have lt1 : ∀ x ∈ p1,x.block < W.heap.size := by obtain ⟨m,hm⟩ := k1; exact DataW.trod_lt m _ _ _ hm
  obtain ⟨fuel1,hf1⟩ := h1
  obtain ⟨a1,e1,w1⟩ := arg_agg opn23 hf1 (fun n hn => by simpa using List.all_eq_true.1 hsz n (DataW.weights_mem_each (j := 1) rfl rfl n hn)) rfl
  clear hA0 hval0 hsz0 hsz
  obtain ⟨k,h⟩ := qag7 a0 a1 w0
  refine (law_calls (q6t k) (arg := (.tc (.dyn qU2 a0) (.tc (.dyn qU0 a1) .tn))) (d := (a0,(a1,()))) (by kernel_rfl) h (repA_cons e0 (repA_cons e1 repA_nil))).mono fun e W' ⟨he,bel⟩ => ?_
  subst he
  exact ⟨_,rfl,_,_,_,[],_,[],hW',trodAll_mk1 (shut_bool Tryz.underlying4 _),(trodAll_cons_mk (Below.trod laidOut (by kernel_rfl) (of_decide_eq_true (by kernel_rfl)) k0 bel lt0) (trodAll_cons_mk (Below.trod laidOut (by kernel_rfl) (of_decide_eq_true (by kernel_rfl)) k1 bel lt1) trodAll_mk0)),rfl,bel.frame _,fun h => by cases h⟩
theorem andT_ {a b : Bool} (ha : a = true) (hb : b = true) : (a && b) = true := by rw [ha,hb]; rfl
set_option maxHeartbeats 100000000 in
theorem facts : joinedFacts Tryz.prog 3 Tryz.f3 Rows.monoidFromPermSpec Rows.monoidFromPermRow = true := by
  refine andT_ (andT_ (andT_ (andT_ (andT_ (andT_ (andT_ (andT_ (andT_ (andT_ (andT_ (andT_ (andT_ (andT_ (andT_ (andT_ (andT_ (andT_ (andT_ (andT_ (andT_ (andT_ (andT_ (andT_ (andT_ (andT_ (andT_ (andT_ (andT_ (andT_ (andT_ ?_ ?_) ?_) ?_) ?_) ?_) ?_) ?_) ?_) ?_) ?_) ?_) ?_) ?_) ?_) ?_) ?_) ?_) ?_) ?_) ?_) ?_) ?_) ?_) ?_) ?_) ?_) ?_) ?_) ?_) ?_) ?_
  all_goals (as_aux_lemma => kernel_rfl)
theorem over : Rows.monoidFromPermRow.holds Tryz.pinned (OpenSpec.ofChange Rows.monoidFromPermSpec) :=
  OpenClaim.holds_of_wide 3 Tryz.f3 rfl rfl rfl rfl rfl rfl rfl ⟨rfl,rfl,rfl,rfl,rfl⟩ rfl rfl rfl rfl rfl (by kernel_rfl) Tryz.func3 facts
    (of_decide_eq_true (by kernel_rfl)) (by unfold Func.isWrapper; first | (rw [if_pos (by decide +kernel)]; kernel_rfl) | (rw [if_neg (by decide +kernel)]; exact ⟨rfl,rfl⟩))
    (fun os started H enc _ => lifted os started H enc)
theorem proved : Rows.MonoidFromPermSaid := over
#print axioms proved
end Go.Proofs.YtibphkgcdnconaaGreat.monoidFromPerm
namespace Go.Proofs.YtibphkgcdnconaaGreat
/-- The row,under a short name,for the claim. -/
theorem monoidFromPerm_holds : Rows.MonoidFromPermSaid := monoidFromPerm.proved
end Go.Proofs.YtibphkgcdnconaaGreat
