import Derived.Test.YtibphkgcdnconaaWA
namespace Go.Proofs.Ytibphkgcdnconaa.V
open Go
set_option linter.unusedVariables false
set_option linter.all false
/-! "commodatum/monoid.Two" -/
noncomputable def monoid_Two (n : Nat)  : Option ((List (List Int)) × Unit) :=
some ([[(0 : Int), (1 : Int)], [(1 : Int), (1 : Int)]], ())
/-! "commodatum/monoid.Valid$1" -/
noncomputable def monoid_Valid_1 (n : Nat) (x0 : Int) (x1 : Int) : Option (Bool × Unit) :=
bif (decide (x0 < (0 : Int))) then
(some (true, ()))
else
(some ((decide (x1 ≤ x0)), ()))
/-! "slices.IndexFunc[[]int,int]" -/
noncomputable def slices_IndexFunc_int__monoid_Valid_1_b0 (n : Nat) (s0 : (List Int)) (f1 : (Int × Unit)) (t7 : Int) (t8 : Int) : Option (((List Int) × (Int × Unit) × Int × Int × Unit) ⊕ ((Int × Unit) ⊕ ((Unit) ⊕ Empty))) :=
bif (decide (t8 < t7)) then
((idx s0 t8).bind fun v7 =>
(monoid_Valid_1 n v7 f1.1).bind fun r8 =>
bif r8.1 then
(some (.inr (.inl (t8, ()))))
else
(some (.inl (s0, (f1.1, ()), t7, (IntKind.i64.wrap (t8 + (1 : Int))), ()))))
else
(some (.inr (.inr (.inl (())))))
noncomputable def slices_IndexFunc_int__monoid_Valid_1_l0 (n : Nat) (d : ((List Int) × (Int × Unit) × Int × Int × Unit)) : Option (((List Int) × (Int × Unit) × Int × Int × Unit) ⊕ ((Int × Unit) ⊕ ((Unit) ⊕ Empty))) := slices_IndexFunc_int__monoid_Valid_1_b0 n d.1 d.2.1 d.2.2.1 d.2.2.2.1
noncomputable def slices_IndexFunc_int__monoid_Valid_1 (n : Nat) (s0 : (List Int)) (f1 : (Int × Unit)) : Option (Int × Unit) :=
(iterN (slices_IndexFunc_int__monoid_Valid_1_l0 n) n (s0, (f1.1, ()), (s0.length : Int), (0 : Int), ())).bind (Sum.elim (fun d12 =>
some (d12.1, ())) (Sum.elim (fun d11 =>
some ((-1 : Int), ())) nof))
/-! "slices.ContainsFunc[[]int,int]" -/
noncomputable def slices_ContainsFunc_int__monoid_Valid_1 (n : Nat) (s0 : (List Int)) (f1 : (Int × Unit)) : Option (Bool × Unit) :=
(slices_IndexFunc_int__monoid_Valid_1 n s0 (f1.1, ())).bind fun r1 =>
some ((decide ((0 : Int) ≤ r1.1)), ())
/-! "commodatum/monoid.Valid" -/
noncomputable def monoid_Valid_b1 (n : Nat) (m0 : (List (List Int))) (a6 : Int) (b7 : Int) (t52 : Int) (t53 : Int) (t57 : Int) (t58 : Int) (t62 : Int) (t63 : Int) : Option (((List (List Int)) × Int × Int × Int × Int × Int × Int × Int × Int × Unit) ⊕ ((Bool × Unit) ⊕ (((List (List Int)) × Int × Int × Int × Int × Int × Unit) ⊕ Empty))) :=
bif (decide (t63 < t62)) then
((idx m0 a6).bind fun v53 =>
(idx v53 b7).bind fun v54 =>
(idx m0 v54).bind fun v55 =>
(idx v55 t63).bind fun v56 =>
(idx m0 a6).bind fun v57 =>
(idx m0 b7).bind fun v58 =>
(idx v58 t63).bind fun v59 =>
(idx v57 v59).bind fun v60 =>
bif (!decide (v56 = v60)) then
(some (.inr (.inl (false, ()))))
else
(some (.inl (m0, a6, b7, t52, t53, t57, t58, t62, (IntKind.i64.wrap (t63 + (1 : Int))), ()))))
else
(some (.inr (.inr (.inl (m0, a6, t52, t53, t57, t58, ())))))
noncomputable def monoid_Valid_l1 (n : Nat) (d : ((List (List Int)) × Int × Int × Int × Int × Int × Int × Int × Int × Unit)) : Option (((List (List Int)) × Int × Int × Int × Int × Int × Int × Int × Int × Unit) ⊕ ((Bool × Unit) ⊕ (((List (List Int)) × Int × Int × Int × Int × Int × Unit) ⊕ Empty))) := monoid_Valid_b1 n d.1 d.2.1 d.2.2.1 d.2.2.2.1 d.2.2.2.2.1 d.2.2.2.2.2.1 d.2.2.2.2.2.2.1 d.2.2.2.2.2.2.2.1 d.2.2.2.2.2.2.2.2.1
noncomputable def monoid_Valid_b2 (n : Nat) (m0 : (List (List Int))) (a6 : Int) (t52 : Int) (t53 : Int) (t57 : Int) (t58 : Int) : Option (((List (List Int)) × Int × Int × Int × Int × Int × Unit) ⊕ ((Bool × Unit) ⊕ (((List (List Int)) × Int × Int × Unit) ⊕ Empty))) :=
bif (decide (t58 < t57)) then
((iterN (monoid_Valid_l1 n) n (m0, a6, t58, t52, t53, t57, t58, (m0.length : Int), (0 : Int), ())).bind (Sum.elim (fun d66 =>
some (.inr (.inl (d66.1, ())))) (Sum.elim (fun d65 =>
some (.inl (d65.1, d65.2.1, d65.2.2.1, d65.2.2.2.1, d65.2.2.2.2.1, (IntKind.i64.wrap (d65.2.2.2.2.2.1 + (1 : Int))), ()))) nof)))
else
(some (.inr (.inr (.inl (m0, t52, t53, ())))))
noncomputable def monoid_Valid_l2 (n : Nat) (d : ((List (List Int)) × Int × Int × Int × Int × Int × Unit)) : Option (((List (List Int)) × Int × Int × Int × Int × Int × Unit) ⊕ ((Bool × Unit) ⊕ (((List (List Int)) × Int × Int × Unit) ⊕ Empty))) := monoid_Valid_b2 n d.1 d.2.1 d.2.2.1 d.2.2.2.1 d.2.2.2.2.1 d.2.2.2.2.2.1
noncomputable def monoid_Valid_b3 (n : Nat) (m0 : (List (List Int))) (t52 : Int) (t53 : Int) : Option (((List (List Int)) × Int × Int × Unit) ⊕ ((Bool × Unit) ⊕ ((Unit) ⊕ Empty))) :=
bif (decide (t53 < t52)) then
((iterN (monoid_Valid_l2 n) n (m0, t53, t52, t53, (m0.length : Int), (0 : Int), ())).bind (Sum.elim (fun d72 =>
some (.inr (.inl (d72.1, ())))) (Sum.elim (fun d71 =>
some (.inl (d71.1, d71.2.1, (IntKind.i64.wrap (d71.2.2.1 + (1 : Int))), ()))) nof)))
else
(some (.inr (.inr (.inl (())))))
noncomputable def monoid_Valid_l3 (n : Nat) (d : ((List (List Int)) × Int × Int × Unit)) : Option (((List (List Int)) × Int × Int × Unit) ⊕ ((Bool × Unit) ⊕ ((Unit) ⊕ Empty))) := monoid_Valid_b3 n d.1 d.2.1 d.2.2.1
noncomputable def monoid_Valid_b0 (n : Nat) (m0 : (List (List Int))) (t17 : (List (List Int))) (t18 : Int) (t19 : Int) (e3 : Int) : Option (((List (List Int)) × (List (List Int)) × Int × Int × Int × Unit) ⊕ ((Bool × Unit) ⊕ (((List (List Int)) × Unit) ⊕ Empty))) :=
bif (decide (t19 < t18)) then
((idx t17 t19).bind fun v20 =>
(bif (!decide ((v20.length : Int) = e3)) then
(some (.inl (m0, t17, t18, t19, true, e3, ())))
else
((slices_ContainsFunc_int__monoid_Valid_1 n v20 (e3, ())).bind fun r21 =>
bif r21.1 then
(some (.inl (m0, t17, t18, t19, true, e3, ())))
else
((idx v20 (0 : Int)).bind fun v22 =>
bif (!decide (v22 = t19)) then
(some (.inl (m0, t17, t18, t19, true, e3, ())))
else
((idx m0 (0 : Int)).bind fun v23 =>
(idx v23 t19).bind fun v24 =>
some (.inl (m0, t17, t18, t19, (!decide (v24 = t19)), e3, ()))))) : Option (((List (List Int)) × (List (List Int)) × Int × Int × Bool × Int × Unit) ⊕ Empty)).bind (Sum.elim (fun d25 =>
bif d25.2.2.2.2.1 then
(some (.inr (.inl (false, ()))))
else
(some (.inl (d25.1, d25.2.1, d25.2.2.1, (IntKind.i64.wrap (d25.2.2.2.1 + (1 : Int))), d25.2.2.2.2.2.1, ())))) nof))
else
(some (.inr (.inr (.inl (m0, ())))))
noncomputable def monoid_Valid_l0 (n : Nat) (d : ((List (List Int)) × (List (List Int)) × Int × Int × Int × Unit)) : Option (((List (List Int)) × (List (List Int)) × Int × Int × Int × Unit) ⊕ ((Bool × Unit) ⊕ (((List (List Int)) × Unit) ⊕ Empty))) := monoid_Valid_b0 n d.1 d.2.1 d.2.2.1 d.2.2.2.1 d.2.2.2.2.1
noncomputable def monoid_Valid (n : Nat) (m0 : (List (List Int))) : Option (Bool × Unit) :=
(bif (decide ((m0.length : Int) < (1 : Int))) then
(some (.inl (m0, true, (m0.length : Int), ())))
else
(some (.inl (m0, (decide ((120 : Int) < (m0.length : Int))), (m0.length : Int), ()))) : Option (((List (List Int)) × Bool × Int × Unit) ⊕ Empty)).bind (Sum.elim (fun d2 =>
bif d2.2.1 then
(some (false, ()))
else
((iterN (monoid_Valid_l0 n) n (d2.1, d2.1, (d2.1.length : Int), (0 : Int), d2.2.2.1, ())).bind (Sum.elim (fun d77 =>
some (d77.1, ())) (Sum.elim (fun d28 =>
(iterN (monoid_Valid_l3 n) n (d28.1, (d28.1.length : Int), (0 : Int), ())).bind (Sum.elim (fun d76 =>
some (d76.1, ())) (Sum.elim (fun d75 =>
some (true, ())) nof))) nof)))) nof)
/-! "commodatum/monoid.groups$1" -/
noncomputable def monoid_groups_1 (n : Nat) (c0 : Int) (x1 : (List (List Int))) (x2 : Int) (x3 : Int) : Option (Bool × Unit) :=
(idx x1 x2).bind fun v1 =>
(idx v1 c0).bind fun v2 =>
bif (decide (v2 = x3)) then
((idx x1 c0).bind fun v3 =>
(idx v3 x2).bind fun v4 =>
some ((decide (v4 = x3)), ()))
else
(some (false, ()))
/-! "slices.IndexFunc[[]int,int]" -/
noncomputable def slices_IndexFunc_int__monoid_groups_1_b0 (n : Nat) (s0 : (List Int)) (f1 : ((List (List Int)) × (Int × (Int × Unit)))) (t7 : Int) (t8 : Int) : Option (((List Int) × ((List (List Int)) × (Int × (Int × Unit))) × Int × Int × Unit) ⊕ ((Int × Unit) ⊕ ((Unit) ⊕ Empty))) :=
bif (decide (t8 < t7)) then
((idx s0 t8).bind fun v7 =>
(monoid_groups_1 n v7 f1.1 f1.2.1 f1.2.2.1).bind fun r8 =>
bif r8.1 then
(some (.inr (.inl (t8, ()))))
else
(some (.inl (s0, (f1.1, (f1.2.1, (f1.2.2.1, ()))), t7, (IntKind.i64.wrap (t8 + (1 : Int))), ()))))
else
(some (.inr (.inr (.inl (())))))
noncomputable def slices_IndexFunc_int__monoid_groups_1_l0 (n : Nat) (d : ((List Int) × ((List (List Int)) × (Int × (Int × Unit))) × Int × Int × Unit)) : Option (((List Int) × ((List (List Int)) × (Int × (Int × Unit))) × Int × Int × Unit) ⊕ ((Int × Unit) ⊕ ((Unit) ⊕ Empty))) := slices_IndexFunc_int__monoid_groups_1_b0 n d.1 d.2.1 d.2.2.1 d.2.2.2.1
noncomputable def slices_IndexFunc_int__monoid_groups_1 (n : Nat) (s0 : (List Int)) (f1 : ((List (List Int)) × (Int × (Int × Unit)))) : Option (Int × Unit) :=
(iterN (slices_IndexFunc_int__monoid_groups_1_l0 n) n (s0, (f1.1, (f1.2.1, (f1.2.2.1, ()))), (s0.length : Int), (0 : Int), ())).bind (Sum.elim (fun d12 =>
some (d12.1, ())) (Sum.elim (fun d11 =>
some ((-1 : Int), ())) nof))
/-! "slices.ContainsFunc[[]int,int]" -/
noncomputable def slices_ContainsFunc_int__monoid_groups_1 (n : Nat) (s0 : (List Int)) (f1 : ((List (List Int)) × (Int × (Int × Unit)))) : Option (Bool × Unit) :=
(slices_IndexFunc_int__monoid_groups_1 n s0 (f1.1, (f1.2.1, (f1.2.2.1, ())))).bind fun r1 =>
some ((decide ((0 : Int) ≤ r1.1)), ())
/-! "commodatum/monoid.groups" -/
noncomputable def monoid_groups_b1 (n : Nat) (m1 : (List (List Int))) (t11 : Int) (t12 : Int) (t55 : Int) (t56 : Int) (out3 : (List (List Int))) (x4 : Int) (t54 : (List Int)) (l7 : (List Int)) : Option (((List (List Int)) × Int × Int × Int × Int × (List (List Int)) × Int × (List Int) × (List Int) × Unit) ⊕ (((List (List Int)) × Int × Int × (List (List Int)) × (List Int) × Unit) ⊕ Empty)) :=
bif (decide (t56 < t55)) then
(((idx t54 t56).bind fun v37 =>
(slices_ContainsFunc_int__monoid_groups_1 n t54 (m1, (v37, (x4, ())))).bind fun r38 =>
bif r38.1 then
(chk (lenB ((l7).length + ([v37]).length)) (some (.inl (m1, t11, t12, t55, t56, out3, x4, t54, (l7 ++ [v37]), ()))))
else
(some (.inl (m1, t11, t12, t55, t56, out3, x4, t54, l7, ()))) : Option (((List (List Int)) × Int × Int × Int × Int × (List (List Int)) × Int × (List Int) × (List Int) × Unit) ⊕ Empty)).bind (Sum.elim (fun d39 =>
some (.inl (d39.1, d39.2.1, d39.2.2.1, d39.2.2.2.1, (IntKind.i64.wrap (d39.2.2.2.2.1 + (1 : Int))), d39.2.2.2.2.2.1, d39.2.2.2.2.2.2.1, d39.2.2.2.2.2.2.2.1, d39.2.2.2.2.2.2.2.2.1, ()))) nof))
else
(some (.inr (.inl (m1, t11, t12, out3, l7, ()))))
noncomputable def monoid_groups_l1 (n : Nat) (d : ((List (List Int)) × Int × Int × Int × Int × (List (List Int)) × Int × (List Int) × (List Int) × Unit)) : Option (((List (List Int)) × Int × Int × Int × Int × (List (List Int)) × Int × (List Int) × (List Int) × Unit) ⊕ (((List (List Int)) × Int × Int × (List (List Int)) × (List Int) × Unit) ⊕ Empty)) := monoid_groups_b1 n d.1 d.2.1 d.2.2.1 d.2.2.2.1 d.2.2.2.2.1 d.2.2.2.2.2.1 d.2.2.2.2.2.2.1 d.2.2.2.2.2.2.2.1 d.2.2.2.2.2.2.2.2.1
noncomputable def monoid_groups_b0 (n : Nat) (m1 : (List (List Int))) (t11 : Int) (t12 : Int) (t25 : Int) (t26 : Int) (out3 : (List (List Int))) (x4 : Int) (local5 : (List Int)) : Option (((List (List Int)) × Int × Int × Int × Int × (List (List Int)) × Int × (List Int) × Unit) ⊕ (((List (List Int)) × Int × Int × (List (List Int)) × Int × (List Int) × Unit) ⊕ Empty)) :=
bif (decide (t26 < t25)) then
((((idx m1 t26).bind fun v22 =>
(idx v22 x4).bind fun v23 =>
bif (decide (v23 = t26)) then
((idx m1 x4).bind fun v24 =>
(idx v24 t26).bind fun v25 =>
some (.inl (m1, t26, t11, t12, t25, t26, (decide (v25 = t26)), out3, x4, local5, ())))
else
(some (.inl (m1, t26, t11, t12, t25, t26, false, out3, x4, local5, ()))) : Option (((List (List Int)) × Int × Int × Int × Int × Int × Bool × (List (List Int)) × Int × (List Int) × Unit) ⊕ Empty)).bind (Sum.elim (fun d26 =>
bif d26.2.2.2.2.2.2.1 then
(chk (lenB ((d26.2.2.2.2.2.2.2.2.2.1).length + ([d26.2.1]).length)) (some (.inl (d26.1, d26.2.2.1, d26.2.2.2.1, d26.2.2.2.2.1, d26.2.2.2.2.2.1, d26.2.2.2.2.2.2.2.1, d26.2.2.2.2.2.2.2.2.1, (d26.2.2.2.2.2.2.2.2.2.1 ++ [d26.2.1]), ()))))
else
(some (.inl (d26.1, d26.2.2.1, d26.2.2.2.1, d26.2.2.2.2.1, d26.2.2.2.2.2.1, d26.2.2.2.2.2.2.2.1, d26.2.2.2.2.2.2.2.2.1, d26.2.2.2.2.2.2.2.2.2.1, ())))) nof) : Option (((List (List Int)) × Int × Int × Int × Int × (List (List Int)) × Int × (List Int) × Unit) ⊕ Empty)).bind (Sum.elim (fun d27 =>
some (.inl (d27.1, d27.2.1, d27.2.2.1, d27.2.2.2.1, (IntKind.i64.wrap (d27.2.2.2.2.1 + (1 : Int))), d27.2.2.2.2.2.1, d27.2.2.2.2.2.2.1, d27.2.2.2.2.2.2.2.1, ()))) nof))
else
(some (.inr (.inl (m1, t11, t12, out3, x4, local5, ()))))
noncomputable def monoid_groups_l0 (n : Nat) (d : ((List (List Int)) × Int × Int × Int × Int × (List (List Int)) × Int × (List Int) × Unit)) : Option (((List (List Int)) × Int × Int × Int × Int × (List (List Int)) × Int × (List Int) × Unit) ⊕ (((List (List Int)) × Int × Int × (List (List Int)) × Int × (List Int) × Unit) ⊕ Empty)) := monoid_groups_b0 n d.1 d.2.1 d.2.2.1 d.2.2.2.1 d.2.2.2.2.1 d.2.2.2.2.2.1 d.2.2.2.2.2.2.1 d.2.2.2.2.2.2.2.1
noncomputable def monoid_groups_b2 (n : Nat) (m1 : (List (List Int))) (t11 : Int) (t12 : Int) (out3 : (List (List Int))) : Option (((List (List Int)) × Int × Int × (List (List Int)) × Unit) ⊕ (((List (List Int)) × Unit) ⊕ Empty)) :=
bif (decide (t12 < t11)) then
(((idx m1 t12).bind fun v47 =>
(idx v47 t12).bind fun v48 =>
bif (!decide (v48 = t12)) then
(some (.inl (m1, t11, t12, out3, ())))
else
((iterN (monoid_groups_l0 n) n (m1, t11, t12, (m1.length : Int), (0 : Int), out3, t12, ([] : (List Int)), ())).bind (Sum.elim (fun d49 =>
(iterN (monoid_groups_l1 n) n (d49.1, d49.2.1, d49.2.2.1, (d49.2.2.2.2.2.1.length : Int), (0 : Int), d49.2.2.2.1, d49.2.2.2.2.1, d49.2.2.2.2.2.1, ([] : (List Int)), ())).bind (Sum.elim (fun d50 =>
chk (lenB ((d50.2.2.2.1).length + ([d50.2.2.2.2.1]).length)) (some (.inl (d50.1, d50.2.1, d50.2.2.1, (d50.2.2.2.1 ++ [d50.2.2.2.2.1]), ())))) nof)) nof)) : Option (((List (List Int)) × Int × Int × (List (List Int)) × Unit) ⊕ Empty)).bind (Sum.elim (fun d51 =>
some (.inl (d51.1, d51.2.1, (IntKind.i64.wrap (d51.2.2.1 + (1 : Int))), d51.2.2.2.1, ()))) nof))
else
(some (.inr (.inl (out3, ()))))
noncomputable def monoid_groups_l2 (n : Nat) (d : ((List (List Int)) × Int × Int × (List (List Int)) × Unit)) : Option (((List (List Int)) × Int × Int × (List (List Int)) × Unit) ⊕ (((List (List Int)) × Unit) ⊕ Empty)) := monoid_groups_b2 n d.1 d.2.1 d.2.2.1 d.2.2.2.1
noncomputable def monoid_groups (n : Nat) (m0 : (List (List Int))) : Option ((List (List Int)) × Unit) :=
(iterN (monoid_groups_l2 n) n (m0, (m0.length : Int), (0 : Int), ([] : (List (List Int))), ())).bind (Sum.elim (fun d53 =>
some (d53.1, ())) nof)
/-! "commodatum/monoid.Groups" -/
noncomputable def monoid_Groups (n : Nat) (m0 : (List (List Int))) : Option ((List (List Int)) × (Int × Unit)) :=
(monoid_Valid n m0).bind fun r3 =>
bif (!r3.1) then
(some (([] : (List (List Int))), ((1 : Int), ())))
else
((monoid_groups n m0).bind fun r4 =>
some (r4.1, ((0 : Int), ())))
/-! "commodatum/monoid.Aperiodic$1" -/
noncomputable def monoid_Aperiodic_1 (n : Nat) (l0 : (List Int)) : Option (Bool × Unit) :=
some ((decide ((1 : Int) < (l0.length : Int))), ())
/-! "slices.IndexFunc[[][]int,[]int]" -/
noncomputable def slices_IndexFunc_Lint__monoid_Aperiodic_1_b0 (n : Nat) (s0 : (List (List Int))) (f1 : Unit) (t7 : Int) (t8 : Int) : Option (((List (List Int)) × Unit × Int × Int × Unit) ⊕ ((Int × Unit) ⊕ ((Unit) ⊕ Empty))) :=
bif (decide (t8 < t7)) then
((idx s0 t8).bind fun v7 =>
(monoid_Aperiodic_1 n v7).bind fun r8 =>
bif r8.1 then
(some (.inr (.inl (t8, ()))))
else
(some (.inl (s0, (), t7, (IntKind.i64.wrap (t8 + (1 : Int))), ()))))
else
(some (.inr (.inr (.inl (())))))
noncomputable def slices_IndexFunc_Lint__monoid_Aperiodic_1_l0 (n : Nat) (d : ((List (List Int)) × Unit × Int × Int × Unit)) : Option (((List (List Int)) × Unit × Int × Int × Unit) ⊕ ((Int × Unit) ⊕ ((Unit) ⊕ Empty))) := slices_IndexFunc_Lint__monoid_Aperiodic_1_b0 n d.1 d.2.1 d.2.2.1 d.2.2.2.1
noncomputable def slices_IndexFunc_Lint__monoid_Aperiodic_1 (n : Nat) (s0 : (List (List Int))) : Option (Int × Unit) :=
(iterN (slices_IndexFunc_Lint__monoid_Aperiodic_1_l0 n) n (s0, (), (s0.length : Int), (0 : Int), ())).bind (Sum.elim (fun d12 =>
some (d12.1, ())) (Sum.elim (fun d11 =>
some ((-1 : Int), ())) nof))
/-! "slices.ContainsFunc[[][]int,[]int]" -/
noncomputable def slices_ContainsFunc_Lint__monoid_Aperiodic_1 (n : Nat) (s0 : (List (List Int))) : Option (Bool × Unit) :=
(slices_IndexFunc_Lint__monoid_Aperiodic_1 n s0).bind fun r1 =>
some ((decide ((0 : Int) ≤ r1.1)), ())
/-! "commodatum/monoid.Aperiodic" -/
noncomputable def monoid_Aperiodic (n : Nat) (m0 : (List (List Int))) : Option (Bool × (Int × Unit)) :=
(monoid_Valid n m0).bind fun r3 =>
bif (!r3.1) then
(some (false, ((1 : Int), ())))
else
((monoid_groups n m0).bind fun r4 =>
(slices_ContainsFunc_Lint__monoid_Aperiodic_1 n r4.1).bind fun r5 =>
some ((!r5.1), ((0 : Int), ())))
/-! "commodatum/monoid.Cyclic" -/
noncomputable def monoid_Cyclic_b0 (n : Nat) (k0 : Int) (a5 : Int) (t16 : Int) (t17 : Int) (t20 : Int) (t21 : Int) (m4 : (List (List Int))) : Option ((Int × Int × Int × Int × Int × Int × (List (List Int)) × Unit) ⊕ ((Int × Int × Int × (List (List Int)) × Unit) ⊕ Empty)) :=
bif (decide (t21 < t20)) then
((idx m4 a5).bind fun v7 =>
bif decide (k0 = 0) then none else
chk (lenB ((v7).length + ([(Int.tmod (IntKind.i64.wrap (a5 + t21)) k0)]).length)) ((idx m4 a5).bind fun v8 =>
chk (sameP [.el ((a5).toNat)] [.el ((a5).toNat)]) (some (.inl (k0, a5, t16, t17, t20, (IntKind.i64.wrap (t21 + (1 : Int))), (List.set m4 (a5).toNat (v7 ++ [(Int.tmod (IntKind.i64.wrap (a5 + t21)) k0)])), ())))))
else
(some (.inr (.inl (k0, t16, t17, m4, ()))))
noncomputable def monoid_Cyclic_l0 (n : Nat) (d : (Int × Int × Int × Int × Int × Int × (List (List Int)) × Unit)) : Option ((Int × Int × Int × Int × Int × Int × (List (List Int)) × Unit) ⊕ ((Int × Int × Int × (List (List Int)) × Unit) ⊕ Empty)) := monoid_Cyclic_b0 n d.1 d.2.1 d.2.2.1 d.2.2.2.1 d.2.2.2.2.1 d.2.2.2.2.2.1 d.2.2.2.2.2.2.1
noncomputable def monoid_Cyclic_b1 (n : Nat) (k0 : Int) (t16 : Int) (t17 : Int) (m4 : (List (List Int))) : Option ((Int × Int × Int × (List (List Int)) × Unit) ⊕ (((List (List Int)) × Unit) ⊕ Empty)) :=
bif (decide (t17 < t16)) then
((iterN (monoid_Cyclic_l0 n) n (k0, t17, t16, t17, k0, (0 : Int), m4, ())).bind (Sum.elim (fun d11 =>
some (.inl (d11.1, d11.2.1, (IntKind.i64.wrap (d11.2.2.1 + (1 : Int))), d11.2.2.2.1, ()))) nof))
else
(some (.inr (.inl (m4, ()))))
noncomputable def monoid_Cyclic_l1 (n : Nat) (d : (Int × Int × Int × (List (List Int)) × Unit)) : Option ((Int × Int × Int × (List (List Int)) × Unit) ⊕ (((List (List Int)) × Unit) ⊕ Empty)) := monoid_Cyclic_b1 n d.1 d.2.1 d.2.2.1 d.2.2.2.1
noncomputable def monoid_Cyclic (n : Nat) (k0 : Int) : Option ((List (List Int)) × (Int × Unit)) :=
(bif (decide (k0 < (1 : Int))) then
(some (.inl (k0, true, ())))
else
(some (.inl (k0, (decide ((120 : Int) < k0)), ()))) : Option ((Int × Bool × Unit) ⊕ Empty)).bind (Sum.elim (fun d2 =>
bif d2.2.1 then
(some (([] : (List (List Int))), ((2 : Int), ())))
else
(chk (decide (0 ≤ d2.1)) (chk (decide (d2.1 ≤ d2.1)) (chk (lenB (d2.1).toNat) ((iterN (monoid_Cyclic_l1 n) n (d2.1, (((List.replicate (d2.1).toNat ([] : (List Int)))).length : Int), (0 : Int), (List.replicate (d2.1).toNat ([] : (List Int))), ())).bind (Sum.elim (fun d13 =>
some (d13.1, ((0 : Int), ()))) nof)))))) nof)
/-! "commodatum/monoid.Mod" -/
noncomputable def monoid_Mod_b0 (n : Nat) (k1 : Int) (t26 : Int) (t27 : Int) (t4 : (Int × ((List (Int × (Int × (Int × Unit)))) × ((List Int) × Unit)))) (out6 : (Int × ((List (Int × (Int × (Int × Unit)))) × ((List Int) × Unit)))) : Option ((Int × Int × Int × (Int × ((List (Int × (Int × (Int × Unit)))) × ((List Int) × Unit))) × (Int × ((List (Int × (Int × (Int × Unit)))) × ((List Int) × Unit))) × Unit) ⊕ (((Int × ((List (Int × (Int × (Int × Unit)))) × ((List Int) × Unit))) × (Int × ((List (Int × (Int × (Int × Unit)))) × ((List Int) × Unit))) × Unit) ⊕ Empty)) :=
bif (decide (t27 < t26)) then
(bif decide (k1 = 0) then none else
chk (lenB ((out6.2.1).length + ([(t27, ((0 : Int), ((Int.tmod (1 : Int) k1), ())))]).length)) (chk (sameP [.el (0), .f2, .f1] [.el (0), .f2, .f1]) (some (.inl (k1, t26, (IntKind.i64.wrap (t27 + (1 : Int))), t4, (out6.1, ((out6.2.1 ++ [(t27, ((0 : Int), ((Int.tmod (1 : Int) k1), ())))]), out6.2.2)), ())))))
else
(some (.inr (.inl (t4, out6, ()))))
noncomputable def monoid_Mod_l0 (n : Nat) (d : (Int × Int × Int × (Int × ((List (Int × (Int × (Int × Unit)))) × ((List Int) × Unit))) × (Int × ((List (Int × (Int × (Int × Unit)))) × ((List Int) × Unit))) × Unit)) : Option ((Int × Int × Int × (Int × ((List (Int × (Int × (Int × Unit)))) × ((List Int) × Unit))) × (Int × ((List (Int × (Int × (Int × Unit)))) × ((List Int) × Unit))) × Unit) ⊕ (((Int × ((List (Int × (Int × (Int × Unit)))) × ((List Int) × Unit))) × (Int × ((List (Int × (Int × (Int × Unit)))) × ((List Int) × Unit))) × Unit) ⊕ Empty)) := monoid_Mod_b0 n d.1 d.2.1 d.2.2.1 d.2.2.2.1 d.2.2.2.2.1
noncomputable def monoid_Mod (n : Nat) (n0 : Int) (k1 : Int) : Option ((Int × ((List (Int × (Int × (Int × Unit)))) × ((List Int) × Unit))) × (Int × Unit)) :=
(bif (decide (k1 < (1 : Int))) then
(some (.inl (n0, k1, true, ((0 : Int), (([] : (List (Int × (Int × (Int × Unit))))), (([] : (List Int)), ()))), ())))
else
(bif (decide ((120 : Int) < k1)) then
(some (.inl (n0, k1, true, ((0 : Int), (([] : (List (Int × (Int × (Int × Unit))))), (([] : (List Int)), ()))), ())))
else
(bif (decide (n0 < (0 : Int))) then
(some (.inl (n0, k1, true, ((0 : Int), (([] : (List (Int × (Int × (Int × Unit))))), (([] : (List Int)), ()))), ())))
else
(some (.inl (n0, k1, (decide ((16 : Int) < n0)), ((0 : Int), (([] : (List (Int × (Int × (Int × Unit))))), (([] : (List Int)), ()))), ()))))) : Option ((Int × Int × Bool × (Int × ((List (Int × (Int × (Int × Unit)))) × ((List Int) × Unit))) × Unit) ⊕ Empty)).bind (Sum.elim (fun d2 =>
bif d2.2.2.1 then
(some (((0 : Int), (([] : (List (Int × (Int × (Int × Unit))))), (([] : (List Int)), ()))), ((2 : Int), ())))
else
((iterN (monoid_Mod_l0 n) n (d2.2.1, d2.1, (0 : Int), d2.2.2.2.1, (d2.1, (([] : (List (Int × (Int × (Int × Unit))))), ([(0 : Int)], ()))), ())).bind (Sum.elim (fun d4 =>
some (d4.2.1, ((0 : Int), ()))) nof))) nof)
/-! "commodatum/monoid.fits$1" -/
noncomputable def monoid_fits_1 (n : Nat) (x0 : Int) (x1 : (List (List Int))) : Option (Bool × Unit) :=
bif (decide ((0 : Int) ≤ x0)) then
(some ((decide (x0 < (x1.length : Int))), ()))
else
(some (false, ()))
/-! "commodatum/monoid.fits$2" -/
noncomputable def monoid_fits_2__monoid_fits_1 (n : Nat) (x0 : (Int × (Int × (Int × Unit)))) (x1 : (Int × ((List (Int × (Int × (Int × Unit)))) × ((List Int) × Unit)))) (x2 : ((List (List Int)) × Unit)) : Option (Bool × Unit) :=
bif (decide (x0.1 < (0 : Int))) then
(some (true, ()))
else
(bif (decide (x1.1 ≤ x0.1)) then
(some (true, ()))
else
((monoid_fits_1 n x0.2.1 x2.1).bind fun r1 =>
bif (!r1.1) then
(some (true, ()))
else
((monoid_fits_1 n x0.2.2.1 x2.1).bind fun r2 =>
some ((!r2.1), ()))))
/-! "slices.IndexFunc[[]commodatum/api.MonIns,commodatum/api.MonIns]" -/
noncomputable def slices_IndexFunc_api_MonIns__monoid_fits_2_b0 (n : Nat) (s0 : (List (Int × (Int × (Int × Unit))))) (f1 : ((Int × ((List (Int × (Int × (Int × Unit)))) × ((List Int) × Unit))) × (((List (List Int)) × Unit) × Unit))) (t7 : Int) (t8 : Int) : Option (((List (Int × (Int × (Int × Unit)))) × ((Int × ((List (Int × (Int × (Int × Unit)))) × ((List Int) × Unit))) × (((List (List Int)) × Unit) × Unit)) × Int × Int × Unit) ⊕ ((Int × Unit) ⊕ ((Unit) ⊕ Empty))) :=
bif (decide (t8 < t7)) then
((idx s0 t8).bind fun v7 =>
(monoid_fits_2__monoid_fits_1 n v7 f1.1 (f1.2.1.1, ())).bind fun r8 =>
bif r8.1 then
(some (.inr (.inl (t8, ()))))
else
(some (.inl (s0, (f1.1, ((f1.2.1.1, ()), ())), t7, (IntKind.i64.wrap (t8 + (1 : Int))), ()))))
else
(some (.inr (.inr (.inl (())))))
noncomputable def slices_IndexFunc_api_MonIns__monoid_fits_2_l0 (n : Nat) (d : ((List (Int × (Int × (Int × Unit)))) × ((Int × ((List (Int × (Int × (Int × Unit)))) × ((List Int) × Unit))) × (((List (List Int)) × Unit) × Unit)) × Int × Int × Unit)) : Option (((List (Int × (Int × (Int × Unit)))) × ((Int × ((List (Int × (Int × (Int × Unit)))) × ((List Int) × Unit))) × (((List (List Int)) × Unit) × Unit)) × Int × Int × Unit) ⊕ ((Int × Unit) ⊕ ((Unit) ⊕ Empty))) := slices_IndexFunc_api_MonIns__monoid_fits_2_b0 n d.1 d.2.1 d.2.2.1 d.2.2.2.1
noncomputable def slices_IndexFunc_api_MonIns__monoid_fits_2 (n : Nat) (s0 : (List (Int × (Int × (Int × Unit))))) (f1 : ((Int × ((List (Int × (Int × (Int × Unit)))) × ((List Int) × Unit))) × (((List (List Int)) × Unit) × Unit))) : Option (Int × Unit) :=
(iterN (slices_IndexFunc_api_MonIns__monoid_fits_2_l0 n) n (s0, (f1.1, ((f1.2.1.1, ()), ())), (s0.length : Int), (0 : Int), ())).bind (Sum.elim (fun d12 =>
some (d12.1, ())) (Sum.elim (fun d11 =>
some ((-1 : Int), ())) nof))
/-! "slices.ContainsFunc[[]commodatum/api.MonIns,commodatum/api.MonIns]" -/
noncomputable def slices_ContainsFunc_api_MonIns__monoid_fits_2 (n : Nat) (s0 : (List (Int × (Int × (Int × Unit))))) (f1 : ((Int × ((List (Int × (Int × (Int × Unit)))) × ((List Int) × Unit))) × (((List (List Int)) × Unit) × Unit))) : Option (Bool × Unit) :=
(slices_IndexFunc_api_MonIns__monoid_fits_2 n s0 (f1.1, ((f1.2.1.1, ()), ()))).bind fun r1 =>
some ((decide ((0 : Int) ≤ r1.1)), ())
/-! "commodatum/monoid.fits" -/
noncomputable def monoid_fits_b0 (n : Nat) (p3 : (Int × ((List (Int × (Int × (Int × Unit)))) × ((List Int) × Unit)))) (element5 : ((List (List Int)) × Unit)) (t24 : (List Int)) (t25 : Int) (t26 : Int) : Option (((Int × ((List (Int × (Int × (Int × Unit)))) × ((List Int) × Unit))) × ((List (List Int)) × Unit) × (List Int) × Int × Int × Unit) ⊕ ((Bool × Unit) ⊕ (((Int × ((List (Int × (Int × (Int × Unit)))) × ((List Int) × Unit))) × ((List (List Int)) × Unit) × Unit) ⊕ Empty))) :=
bif (decide (t26 < t25)) then
((idx t24 t26).bind fun v14 =>
((monoid_fits_1 n v14 element5.1).bind fun r15 =>
bif (!r15.1) then
(some (.inl (p3, (element5.1, ()), t24, t25, t26, true, ())))
else
(bif (decide ((0 : Int) < t26)) then
((idx p3.2.2.1 (IntKind.i64.wrap (t26 - (1 : Int)))).bind fun v16 =>
some (.inl (p3, (element5.1, ()), t24, t25, t26, (decide (v14 ≤ v16)), ())))
else
(some (.inl (p3, (element5.1, ()), t24, t25, t26, false, ())))) : Option (((Int × ((List (Int × (Int × (Int × Unit)))) × ((List Int) × Unit))) × ((List (List Int)) × Unit) × (List Int) × Int × Int × Bool × Unit) ⊕ Empty)).bind (Sum.elim (fun d17 =>
bif d17.2.2.2.2.2.1 then
(some (.inr (.inl (false, ()))))
else
(some (.inl (d17.1, (d17.2.1.1, ()), d17.2.2.1, d17.2.2.2.1, (IntKind.i64.wrap (d17.2.2.2.2.1 + (1 : Int))), ())))) nof))
else
(some (.inr (.inr (.inl (p3, (element5.1, ()), ())))))
noncomputable def monoid_fits_l0 (n : Nat) (d : ((Int × ((List (Int × (Int × (Int × Unit)))) × ((List Int) × Unit))) × ((List (List Int)) × Unit) × (List Int) × Int × Int × Unit)) : Option (((Int × ((List (Int × (Int × (Int × Unit)))) × ((List Int) × Unit))) × ((List (List Int)) × Unit) × (List Int) × Int × Int × Unit) ⊕ ((Bool × Unit) ⊕ (((Int × ((List (Int × (Int × (Int × Unit)))) × ((List Int) × Unit))) × ((List (List Int)) × Unit) × Unit) ⊕ Empty))) := monoid_fits_b0 n d.1 d.2.1 d.2.2.1 d.2.2.2.1 d.2.2.2.2.1
noncomputable def monoid_fits (n : Nat) (m0 : (List (List Int))) (p1 : (Int × ((List (Int × (Int × (Int × Unit)))) × ((List Int) × Unit)))) : Option (Bool × Unit) :=
(bif (decide (p1.1 < (0 : Int))) then
(some (.inl (p1, (m0, ()), true, ())))
else
(bif (decide ((16 : Int) < p1.1)) then
(some (.inl (p1, (m0, ()), true, ())))
else
(some (.inl (p1, (m0, ()), (decide ((200000 : Int) < (p1.2.1.length : Int))), ())))) : Option (((Int × ((List (Int × (Int × (Int × Unit)))) × ((List Int) × Unit))) × ((List (List Int)) × Unit) × Bool × Unit) ⊕ Empty)).bind (Sum.elim (fun d2 =>
bif d2.2.2.1 then
(some (false, ()))
else
((iterN (monoid_fits_l0 n) n (d2.1, (d2.2.1.1, ()), d2.1.2.2.1, (d2.1.2.2.1.length : Int), (0 : Int), ())).bind (Sum.elim (fun d22 =>
some (d22.1, ())) (Sum.elim (fun d20 =>
(slices_ContainsFunc_api_MonIns__monoid_fits_2 n d20.1.2.1 (d20.1, ((d20.2.1.1, ()), ()))).bind fun r21 =>
some ((!r21.1), ())) nof)))) nof)
/-! "commodatum/monoid.ValidProgram" -/
noncomputable def monoid_ValidProgram (n : Nat) (m0 : (List (List Int))) (p1 : (Int × ((List (Int × (Int × (Int × Unit)))) × ((List Int) × Unit)))) : Option (Bool × Unit) :=
(monoid_Valid n m0).bind fun r1 =>
bif r1.1 then
((monoid_fits n m0 p1).bind fun r2 =>
some (r2.1, ()))
else
(some (false, ()))
/-! "commodatum/bits.Input" -/
noncomputable def bits_Input_b0 (n : Nat) (i0 : Int) (t10 : Int) (t11 : Int) (x5 : (List Bool)) : Option ((Int × Int × Int × (List Bool) × Unit) ⊕ (((List Bool) × Unit) ⊕ Empty)) :=
bif (decide (t11 < t10)) then
(bif decide (t11 < 0) then none else
(idx x5 t11).bind fun v3 =>
some (.inl (i0, t10, (IntKind.i64.wrap (t11 + (1 : Int))), (List.set x5 (t11).toNat (decide ((IntKind.i64.wrap ((BitVec.ofInt IntKind.i64.bits (Int.fdiv i0 (2 ^ (min (t11).toNat IntKind.i64.bits))) &&& BitVec.ofInt IntKind.i64.bits (1 : Int)).toNat)) = (1 : Int)))), ())))
else
(some (.inr (.inl (x5, ()))))
noncomputable def bits_Input_l0 (n : Nat) (d : (Int × Int × Int × (List Bool) × Unit)) : Option ((Int × Int × Int × (List Bool) × Unit) ⊕ (((List Bool) × Unit) ⊕ Empty)) := bits_Input_b0 n d.1 d.2.1 d.2.2.1 d.2.2.2.1
noncomputable def bits_Input (n : Nat) (i0 : Int) (n1 : Int) : Option ((List Bool) × Unit) :=
chk (decide (0 ≤ n1)) (chk (decide (n1 ≤ n1)) (chk (lenB (n1).toNat) ((iterN (bits_Input_l0 n) n (i0, (((List.replicate (n1).toNat false)).length : Int), (0 : Int), (List.replicate (n1).toNat false), ())).bind (Sum.elim (fun d5 =>
some (d5.1, ())) nof))))
/-! "commodatum/monoid.product" -/
noncomputable def monoid_product_b0 (n : Nat) (m0 : (List (List Int))) (x2 : (List Bool)) (a7 : Int) (t11 : (List (Int × (Int × (Int × Unit))))) (t12 : Int) (t13 : Int) : Option (((List (List Int)) × (List Bool) × Int × (List (Int × (Int × (Int × Unit)))) × Int × Int × Unit) ⊕ ((Int × Unit) ⊕ Empty)) :=
bif (decide (t13 < t12)) then
(((idx t11 t13).bind fun v16 =>
(idx x2 v16.1).bind fun v17 =>
bif v17 then
((idx m0 a7).bind fun v18 =>
(idx v18 v16.2.2.1).bind fun v19 =>
some (.inl (m0, x2, v19, t11, t12, t13, ())))
else
((idx m0 a7).bind fun v20 =>
(idx v20 v16.2.1).bind fun v21 =>
some (.inl (m0, x2, v21, t11, t12, t13, ()))) : Option (((List (List Int)) × (List Bool) × Int × (List (Int × (Int × (Int × Unit)))) × Int × Int × Unit) ⊕ Empty)).bind (Sum.elim (fun d22 =>
some (.inl (d22.1, d22.2.1, d22.2.2.1, d22.2.2.2.1, d22.2.2.2.2.1, (IntKind.i64.wrap (d22.2.2.2.2.2.1 + (1 : Int))), ()))) nof))
else
(some (.inr (.inl (a7, ()))))
noncomputable def monoid_product_l0 (n : Nat) (d : ((List (List Int)) × (List Bool) × Int × (List (Int × (Int × (Int × Unit)))) × Int × Int × Unit)) : Option (((List (List Int)) × (List Bool) × Int × (List (Int × (Int × (Int × Unit)))) × Int × Int × Unit) ⊕ ((Int × Unit) ⊕ Empty)) := monoid_product_b0 n d.1 d.2.1 d.2.2.1 d.2.2.2.1 d.2.2.2.2.1 d.2.2.2.2.2.1
noncomputable def monoid_product (n : Nat) (m0 : (List (List Int))) (p1 : (Int × ((List (Int × (Int × (Int × Unit)))) × ((List Int) × Unit)))) (x2 : (List Bool)) : Option (Int × Unit) :=
(iterN (monoid_product_l0 n) n (m0, x2, (0 : Int), p1.2.1, (p1.2.1.length : Int), (0 : Int), ())).bind (Sum.elim (fun d24 =>
some (d24.1, ())) nof)
/-! "slices.Index[[]int,int]" -/
noncomputable def slices_Index_int_b0 (n : Nat) (s0 : (List Int)) (v1 : Int) (t7 : Int) (t8 : Int) : Option (((List Int) × Int × Int × Int × Unit) ⊕ ((Int × Unit) ⊕ ((Unit) ⊕ Empty))) :=
bif (decide (t8 < t7)) then
((idx s0 t8).bind fun v4 =>
bif (decide (v1 = v4)) then
(some (.inr (.inl (t8, ()))))
else
(some (.inl (s0, v1, t7, (IntKind.i64.wrap (t8 + (1 : Int))), ()))))
else
(some (.inr (.inr (.inl (())))))
noncomputable def slices_Index_int_l0 (n : Nat) (d : ((List Int) × Int × Int × Int × Unit)) : Option (((List Int) × Int × Int × Int × Unit) ⊕ ((Int × Unit) ⊕ ((Unit) ⊕ Empty))) := slices_Index_int_b0 n d.1 d.2.1 d.2.2.1 d.2.2.2.1
noncomputable def slices_Index_int (n : Nat) (s0 : (List Int)) (v1 : Int) : Option (Int × Unit) :=
(iterN (slices_Index_int_l0 n) n (s0, v1, (s0.length : Int), (0 : Int), ())).bind (Sum.elim (fun d8 =>
some (d8.1, ())) (Sum.elim (fun d7 =>
some ((-1 : Int), ())) nof))
/-! "slices.Contains[[]int,int]" -/
noncomputable def slices_Contains_int (n : Nat) (s0 : (List Int)) (v1 : Int) : Option (Bool × Unit) :=
(slices_Index_int n s0 v1).bind fun r1 =>
some ((decide ((0 : Int) ≤ r1.1)), ())
/-! "commodatum/monoid.Decides" -/
noncomputable def monoid_Decides_b0 (n : Nat) (m0 : (List (List Int))) (p3 : (Int × ((List (Int × (Int × (Int × Unit)))) × ((List Int) × Unit)))) (t32 : Int) (t33 : Int) (out6 : (List Bool)) : Option (((List (List Int)) × (Int × ((List (Int × (Int × (Int × Unit)))) × ((List Int) × Unit))) × Int × Int × (List Bool) × Unit) ⊕ (((List Bool) × Unit) ⊕ Empty)) :=
bif (decide (t33 < t32)) then
((bits_Input n t33 p3.1).bind fun r14 =>
(monoid_product n m0 p3 r14.1).bind fun r15 =>
(slices_Contains_int n p3.2.2.1 r15.1).bind fun r16 =>
(idx out6 t33).bind fun v17 =>
some (.inl (m0, p3, t32, (IntKind.i64.wrap (t33 + (1 : Int))), (List.set out6 (t33).toNat r16.1), ())))
else
(some (.inr (.inl (out6, ()))))
noncomputable def monoid_Decides_l0 (n : Nat) (d : ((List (List Int)) × (Int × ((List (Int × (Int × (Int × Unit)))) × ((List Int) × Unit))) × Int × Int × (List Bool) × Unit)) : Option (((List (List Int)) × (Int × ((List (Int × (Int × (Int × Unit)))) × ((List Int) × Unit))) × Int × Int × (List Bool) × Unit) ⊕ (((List Bool) × Unit) ⊕ Empty)) := monoid_Decides_b0 n d.1 d.2.1 d.2.2.1 d.2.2.2.1 d.2.2.2.2.1
noncomputable def monoid_Decides (n : Nat) (m0 : (List (List Int))) (p1 : (Int × ((List (Int × (Int × (Int × Unit)))) × ((List Int) × Unit)))) : Option ((List Bool) × (Int × Unit)) :=
(monoid_ValidProgram n m0 p1).bind fun r4 =>
bif (!r4.1) then
(some (([] : (List Bool)), ((1 : Int), ())))
else
((bif (decide ((12 : Int) < p1.1)) then
(some (.inl (m0, p1, true, ())))
else
(bif decide (p1.1 < 0) then none else
some (.inl (m0, p1, (decide ((16777216 : Int) < (IntKind.i64.wrap ((IntKind.i64.wrap ((1 : Int) + (p1.2.1.length : Int))) * 2 ^ (min (p1.1).toNat IntKind.i64.bits))))), ()))) : Option (((List (List Int)) × (Int × ((List (Int × (Int × (Int × Unit)))) × ((List Int) × Unit))) × Bool × Unit) ⊕ Empty)).bind (Sum.elim (fun d5 =>
bif d5.2.2.1 then
(some (([] : (List Bool)), ((5 : Int), ())))
else
(bif decide (d5.2.1.1 < 0) then none else
chk (decide (0 ≤ (IntKind.i64.wrap ((1 : Int) * 2 ^ (min (d5.2.1.1).toNat IntKind.i64.bits))))) (chk (decide ((IntKind.i64.wrap ((1 : Int) * 2 ^ (min (d5.2.1.1).toNat IntKind.i64.bits))) ≤ (IntKind.i64.wrap ((1 : Int) * 2 ^ (min (d5.2.1.1).toNat IntKind.i64.bits))))) (chk (lenB ((IntKind.i64.wrap ((1 : Int) * 2 ^ (min (d5.2.1.1).toNat IntKind.i64.bits)))).toNat) ((iterN (monoid_Decides_l0 n) n (d5.1, d5.2.1, (((List.replicate ((IntKind.i64.wrap ((1 : Int) * 2 ^ (min (d5.2.1.1).toNat IntKind.i64.bits)))).toNat false)).length : Int), (0 : Int), (List.replicate ((IntKind.i64.wrap ((1 : Int) * 2 ^ (min (d5.2.1.1).toNat IntKind.i64.bits)))).toNat false), ())).bind (Sum.elim (fun d19 =>
some (d19.1, ((0 : Int), ()))) nof)))))) nof))
/-! "commodatum/commodatumref01.SameInts" -/
noncomputable def ref01_SameInts_b0 (n : Nat) (a0 : (List Int)) (b1 : (List Int)) (i5 : Int) : Option (((List Int) × (List Int) × Int × Unit) ⊕ ((Bool × Unit) ⊕ ((Unit) ⊕ Empty))) :=
bif (decide (i5 < (a0.length : Int))) then
((idx a0 i5).bind fun v7 =>
(idx b1 i5).bind fun v8 =>
bif (!decide (v7 = v8)) then
(some (.inr (.inl (false, ()))))
else
(some (.inl (a0, b1, (IntKind.i64.wrap (i5 + (1 : Int))), ()))))
else
(some (.inr (.inr (.inl (())))))
noncomputable def ref01_SameInts_l0 (n : Nat) (d : ((List Int) × (List Int) × Int × Unit)) : Option (((List Int) × (List Int) × Int × Unit) ⊕ ((Bool × Unit) ⊕ ((Unit) ⊕ Empty))) := ref01_SameInts_b0 n d.1 d.2.1 d.2.2.1
noncomputable def ref01_SameInts (n : Nat) (a0 : (List Int)) (b1 : (List Int)) : Option (Bool × Unit) :=
bif (!decide ((a0.length : Int) = (b1.length : Int))) then
(some (false, ()))
else
((iterN (ref01_SameInts_l0 n) n (a0, b1, (0 : Int), ())).bind (Sum.elim (fun d12 =>
some (d12.1, ())) (Sum.elim (fun d11 =>
some (true, ())) nof)))
/-! "commodatum/commodatumref01.SameLists" -/
noncomputable def ref01_SameLists_b0 (n : Nat) (a0 : (List (List Int))) (b1 : (List (List Int))) (i5 : Int) : Option (((List (List Int)) × (List (List Int)) × Int × Unit) ⊕ ((Bool × Unit) ⊕ ((Unit) ⊕ Empty))) :=
bif (decide (i5 < (a0.length : Int))) then
((idx a0 i5).bind fun v10 =>
(idx b1 i5).bind fun v11 =>
(ref01_SameInts n v10 v11).bind fun r12 =>
bif (!r12.1) then
(some (.inr (.inl (false, ()))))
else
(some (.inl (a0, b1, (IntKind.i64.wrap (i5 + (1 : Int))), ()))))
else
(some (.inr (.inr (.inl (())))))
noncomputable def ref01_SameLists_l0 (n : Nat) (d : ((List (List Int)) × (List (List Int)) × Int × Unit)) : Option (((List (List Int)) × (List (List Int)) × Int × Unit) ⊕ ((Bool × Unit) ⊕ ((Unit) ⊕ Empty))) := ref01_SameLists_b0 n d.1 d.2.1 d.2.2.1
noncomputable def ref01_SameLists (n : Nat) (a0 : (List (List Int))) (b1 : (List (List Int))) : Option (Bool × Unit) :=
bif (!decide ((a0.length : Int) = (b1.length : Int))) then
(some (false, ()))
else
((iterN (ref01_SameLists_l0 n) n (a0, b1, (0 : Int), ())).bind (Sum.elim (fun d16 =>
some (d16.1, ())) (Sum.elim (fun d15 =>
some (true, ())) nof)))
/-! "commodatum/commodatumref09.Equal" -/
noncomputable def ref09_Equal_b0 (n : Nat) (a0 : (List Bool)) (b1 : (List Bool)) (i5 : Int) : Option (((List Bool) × (List Bool) × Int × Unit) ⊕ ((Bool × Unit) ⊕ ((Unit) ⊕ Empty))) :=
bif (decide (i5 < (a0.length : Int))) then
((idx a0 i5).bind fun v7 =>
(idx b1 i5).bind fun v8 =>
bif (!(v7 == v8)) then
(some (.inr (.inl (false, ()))))
else
(some (.inl (a0, b1, (IntKind.i64.wrap (i5 + (1 : Int))), ()))))
else
(some (.inr (.inr (.inl (())))))
noncomputable def ref09_Equal_l0 (n : Nat) (d : ((List Bool) × (List Bool) × Int × Unit)) : Option (((List Bool) × (List Bool) × Int × Unit) ⊕ ((Bool × Unit) ⊕ ((Unit) ⊕ Empty))) := ref09_Equal_b0 n d.1 d.2.1 d.2.2.1
noncomputable def ref09_Equal (n : Nat) (a0 : (List Bool)) (b1 : (List Bool)) : Option (Bool × Unit) :=
bif (!decide ((a0.length : Int) = (b1.length : Int))) then
(some (false, ()))
else
((iterN (ref09_Equal_l0 n) n (a0, b1, (0 : Int), ())).bind (Sum.elim (fun d12 =>
some (d12.1, ())) (Sum.elim (fun d11 =>
some (true, ())) nof)))
/-! "commodatum/commodatumlaw10.Awake" -/
noncomputable def law10_Awake (n : Nat)  : Option (Bool × Unit) :=
(monoid_Two n).bind fun r3 =>
(monoid_Groups n r3.1).bind fun r4 =>
(monoid_Two n).bind fun r7 =>
(monoid_Aperiodic n r7.1).bind fun r8 =>
(monoid_Cyclic n (3 : Int)).bind fun r10 =>
(monoid_Mod n (2 : Int) (3 : Int)).bind fun r12 =>
(monoid_Decides n r10.1 r12.1).bind fun r14 =>
bif (decide (r4.2.1 = (0 : Int))) then
(bif (decide (r8.2.1 = (0 : Int))) then
(bif (decide (r10.2.1 = (0 : Int))) then
(bif (decide (r12.2.1 = (0 : Int))) then
(bif (decide (r14.2.1 = (0 : Int))) then
(bif r8.1 then
((ref01_SameLists n r4.1 ([[(0 : Int)], [(1 : Int)]])).bind fun r15 =>
bif r15.1 then
((ref09_Equal n r14.1 ([true, false, false, false])).bind fun r16 =>
some (r16.1, ()))
else
(some (false, ())))
else
(some (false, ())))
else
(some (false, ())))
else
(some (false, ())))
else
(some (false, ())))
else
(some (false, ())))
else
(some (false, ()))
/-! "commodatum/monoid.And" -/
noncomputable def monoid_And_b0 (n : Nat) (t16 : Int) (t17 : Int) (t2 : (Int × ((List (Int × (Int × (Int × Unit)))) × ((List Int) × Unit)))) (out4 : (Int × ((List (Int × (Int × (Int × Unit)))) × ((List Int) × Unit)))) : Option ((Int × Int × (Int × ((List (Int × (Int × (Int × Unit)))) × ((List Int) × Unit))) × (Int × ((List (Int × (Int × (Int × Unit)))) × ((List Int) × Unit))) × Unit) ⊕ (((Int × ((List (Int × (Int × (Int × Unit)))) × ((List Int) × Unit))) × (Int × ((List (Int × (Int × (Int × Unit)))) × ((List Int) × Unit))) × Unit) ⊕ Empty)) :=
bif (decide (t17 < t16)) then
(chk (lenB ((out4.2.1).length + ([(t17, ((1 : Int), ((0 : Int), ())))]).length)) (chk (sameP [.el (0), .f2, .f1] [.el (0), .f2, .f1]) (some (.inl (t16, (IntKind.i64.wrap (t17 + (1 : Int))), t2, (out4.1, ((out4.2.1 ++ [(t17, ((1 : Int), ((0 : Int), ())))]), out4.2.2)), ())))))
else
(some (.inr (.inl (t2, out4, ()))))
noncomputable def monoid_And_l0 (n : Nat) (d : (Int × Int × (Int × ((List (Int × (Int × (Int × Unit)))) × ((List Int) × Unit))) × (Int × ((List (Int × (Int × (Int × Unit)))) × ((List Int) × Unit))) × Unit)) : Option ((Int × Int × (Int × ((List (Int × (Int × (Int × Unit)))) × ((List Int) × Unit))) × (Int × ((List (Int × (Int × (Int × Unit)))) × ((List Int) × Unit))) × Unit) ⊕ (((Int × ((List (Int × (Int × (Int × Unit)))) × ((List Int) × Unit))) × (Int × ((List (Int × (Int × (Int × Unit)))) × ((List Int) × Unit))) × Unit) ⊕ Empty)) := monoid_And_b0 n d.1 d.2.1 d.2.2.1 d.2.2.2.1
noncomputable def monoid_And (n : Nat) (n0 : Int) : Option ((Int × ((List (Int × (Int × (Int × Unit)))) × ((List Int) × Unit))) × (Int × Unit)) :=
(bif (decide (n0 < (0 : Int))) then
(some (.inl (n0, true, ((0 : Int), (([] : (List (Int × (Int × (Int × Unit))))), (([] : (List Int)), ()))), ())))
else
(some (.inl (n0, (decide ((16 : Int) < n0)), ((0 : Int), (([] : (List (Int × (Int × (Int × Unit))))), (([] : (List Int)), ()))), ()))) : Option ((Int × Bool × (Int × ((List (Int × (Int × (Int × Unit)))) × ((List Int) × Unit))) × Unit) ⊕ Empty)).bind (Sum.elim (fun d2 =>
bif d2.2.1 then
(some (((0 : Int), (([] : (List (Int × (Int × (Int × Unit))))), (([] : (List Int)), ()))), ((2 : Int), ())))
else
((iterN (monoid_And_l0 n) n (d2.1, (0 : Int), d2.2.2.1, (d2.1, (([] : (List (Int × (Int × (Int × Unit))))), ([(0 : Int)], ()))), ())).bind (Sum.elim (fun d4 =>
some (d4.2.1, ((0 : Int), ()))) nof))) nof)
/-! "commodatum/commodatumref10.Cyclic" -/
noncomputable def ref10_Cyclic_b0 (n : Nat) (k0 : Int) (a4 : Int) (b6 : Int) (m3 : (List (List Int))) (row5 : (List Int)) : Option ((Int × Int × Int × (List (List Int)) × (List Int) × Unit) ⊕ ((Int × Int × (List (List Int)) × (List Int) × Unit) ⊕ Empty)) :=
bif (decide (b6 < k0)) then
(bif decide (k0 = 0) then none else
chk (lenB ((row5).length + ([(Int.tmod (IntKind.i64.wrap (a4 + b6)) k0)]).length)) (some (.inl (k0, a4, (IntKind.i64.wrap (b6 + (1 : Int))), m3, (row5 ++ [(Int.tmod (IntKind.i64.wrap (a4 + b6)) k0)]), ()))))
else
(some (.inr (.inl (k0, a4, m3, row5, ()))))
noncomputable def ref10_Cyclic_l0 (n : Nat) (d : (Int × Int × Int × (List (List Int)) × (List Int) × Unit)) : Option ((Int × Int × Int × (List (List Int)) × (List Int) × Unit) ⊕ ((Int × Int × (List (List Int)) × (List Int) × Unit) ⊕ Empty)) := ref10_Cyclic_b0 n d.1 d.2.1 d.2.2.1 d.2.2.2.1 d.2.2.2.2.1
noncomputable def ref10_Cyclic_b1 (n : Nat) (k0 : Int) (a4 : Int) (m3 : (List (List Int))) : Option ((Int × Int × (List (List Int)) × Unit) ⊕ (((List (List Int)) × Unit) ⊕ Empty)) :=
bif (decide (a4 < k0)) then
((iterN (ref10_Cyclic_l0 n) n (k0, a4, (0 : Int), m3, ([] : (List Int)), ())).bind (Sum.elim (fun d4 =>
chk (lenB ((d4.2.2.1).length + ([d4.2.2.2.1]).length)) (some (.inl (d4.1, (IntKind.i64.wrap (d4.2.1 + (1 : Int))), (d4.2.2.1 ++ [d4.2.2.2.1]), ())))) nof))
else
(some (.inr (.inl (m3, ()))))
noncomputable def ref10_Cyclic_l1 (n : Nat) (d : (Int × Int × (List (List Int)) × Unit)) : Option ((Int × Int × (List (List Int)) × Unit) ⊕ (((List (List Int)) × Unit) ⊕ Empty)) := ref10_Cyclic_b1 n d.1 d.2.1 d.2.2.1
noncomputable def ref10_Cyclic (n : Nat) (k0 : Int) : Option ((List (List Int)) × Unit) :=
(iterN (ref10_Cyclic_l1 n) n (k0, (0 : Int), ([] : (List (List Int))), ())).bind (Sum.elim (fun d6 =>
some (d6.1, ())) nof)
/-! "commodatum/commodatumref10.Same" -/
noncomputable def ref10_Same_b0 (n : Nat) (a0 : (List (List Int))) (b1 : (List (List Int))) (i5 : Int) (k6 : Int) : Option (((List (List Int)) × (List (List Int)) × Int × Int × Unit) ⊕ ((Bool × Unit) ⊕ (((List (List Int)) × (List (List Int)) × Int × Unit) ⊕ Empty))) :=
(idx a0 i5).bind fun v22 =>
bif (decide (k6 < (v22.length : Int))) then
((idx a0 i5).bind fun v23 =>
(idx v23 k6).bind fun v24 =>
(idx b1 i5).bind fun v25 =>
(idx v25 k6).bind fun v26 =>
bif (!decide (v24 = v26)) then
(some (.inr (.inl (false, ()))))
else
(some (.inl (a0, b1, i5, (IntKind.i64.wrap (k6 + (1 : Int))), ()))))
else
(some (.inr (.inr (.inl (a0, b1, i5, ())))))
noncomputable def ref10_Same_l0 (n : Nat) (d : ((List (List Int)) × (List (List Int)) × Int × Int × Unit)) : Option (((List (List Int)) × (List (List Int)) × Int × Int × Unit) ⊕ ((Bool × Unit) ⊕ (((List (List Int)) × (List (List Int)) × Int × Unit) ⊕ Empty))) := ref10_Same_b0 n d.1 d.2.1 d.2.2.1 d.2.2.2.1
noncomputable def ref10_Same_b1 (n : Nat) (a0 : (List (List Int))) (b1 : (List (List Int))) (i5 : Int) : Option (((List (List Int)) × (List (List Int)) × Int × Unit) ⊕ ((Bool × Unit) ⊕ ((Unit) ⊕ Empty))) :=
bif (decide (i5 < (a0.length : Int))) then
((idx a0 i5).bind fun v33 =>
(idx b1 i5).bind fun v34 =>
bif (!decide ((v33.length : Int) = (v34.length : Int))) then
(some (.inr (.inl (false, ()))))
else
((iterN (ref10_Same_l0 n) n (a0, b1, i5, (0 : Int), ())).bind (Sum.elim (fun d36 =>
some (.inr (.inl (d36.1, ())))) (Sum.elim (fun d35 =>
some (.inl (d35.1, d35.2.1, (IntKind.i64.wrap (d35.2.2.1 + (1 : Int))), ()))) nof))))
else
(some (.inr (.inr (.inl (())))))
noncomputable def ref10_Same_l1 (n : Nat) (d : ((List (List Int)) × (List (List Int)) × Int × Unit)) : Option (((List (List Int)) × (List (List Int)) × Int × Unit) ⊕ ((Bool × Unit) ⊕ ((Unit) ⊕ Empty))) := ref10_Same_b1 n d.1 d.2.1 d.2.2.1
noncomputable def ref10_Same (n : Nat) (a0 : (List (List Int))) (b1 : (List (List Int))) : Option (Bool × Unit) :=
bif (!decide ((a0.length : Int) = (b1.length : Int))) then
(some (false, ()))
else
((iterN (ref10_Same_l1 n) n (a0, b1, (0 : Int), ())).bind (Sum.elim (fun d40 =>
some (d40.1, ())) (Sum.elim (fun d39 =>
some (true, ())) nof)))
/-! "commodatum/commodatumlaw10.none" -/
noncomputable def law10_none (n : Nat) (p0 : (Int × ((List (Int × (Int × (Int × Unit)))) × ((List Int) × Unit)))) : Option (Bool × Unit) :=
bif (decide (p0.1 = (0 : Int))) then
(bif (decide ((p0.2.1.length : Int) = (0 : Int))) then
(some ((decide ((p0.2.2.1.length : Int) = (0 : Int))), ()))
else
(some (false, ())))
else
(some (false, ()))
/-! "commodatum/commodatumref10.ValidProgram" -/
noncomputable def ref10_ValidProgram_b1 (n : Nat) (p3 : (Int × ((List (Int × (Int × (Int × Unit)))) × ((List Int) × Unit)))) (e5 : Int) (i8 : Int) : Option (((Int × ((List (Int × (Int × (Int × Unit)))) × ((List Int) × Unit))) × Int × Int × Unit) ⊕ ((Bool × Unit) ⊕ ((Unit) ⊕ Empty))) :=
bif (decide (i8 < (p3.2.2.1.length : Int))) then
(((idx p3.2.2.1 i8).bind fun v27 =>
bif (decide (v27 < (0 : Int))) then
(some (.inl (p3, e5, i8, true, ())))
else
((idx p3.2.2.1 i8).bind fun v28 =>
bif (decide (e5 ≤ v28)) then
(some (.inl (p3, e5, i8, true, ())))
else
(bif (decide ((0 : Int) < i8)) then
((idx p3.2.2.1 i8).bind fun v29 =>
(idx p3.2.2.1 (IntKind.i64.wrap (i8 - (1 : Int)))).bind fun v30 =>
some (.inl (p3, e5, i8, (decide (v29 ≤ v30)), ())))
else
(some (.inl (p3, e5, i8, false, ()))))) : Option (((Int × ((List (Int × (Int × (Int × Unit)))) × ((List Int) × Unit))) × Int × Int × Bool × Unit) ⊕ Empty)).bind (Sum.elim (fun d31 =>
bif d31.2.2.2.1 then
(some (.inr (.inl (false, ()))))
else
(some (.inl (d31.1, d31.2.1, (IntKind.i64.wrap (d31.2.2.1 + (1 : Int))), ())))) nof))
else
(some (.inr (.inr (.inl (())))))
noncomputable def ref10_ValidProgram_l1 (n : Nat) (d : ((Int × ((List (Int × (Int × (Int × Unit)))) × ((List Int) × Unit))) × Int × Int × Unit)) : Option (((Int × ((List (Int × (Int × (Int × Unit)))) × ((List Int) × Unit))) × Int × Int × Unit) ⊕ ((Bool × Unit) ⊕ ((Unit) ⊕ Empty))) := ref10_ValidProgram_b1 n d.1 d.2.1 d.2.2.1
noncomputable def ref10_ValidProgram_b0 (n : Nat) (p3 : (Int × ((List (Int × (Int × (Int × Unit)))) × ((List Int) × Unit)))) (e5 : Int) (i6 : Int) : Option (((Int × ((List (Int × (Int × (Int × Unit)))) × ((List Int) × Unit))) × Int × Int × Unit) ⊕ ((Bool × Unit) ⊕ (((Int × ((List (Int × (Int × (Int × Unit)))) × ((List Int) × Unit))) × Int × Unit) ⊕ Empty))) :=
bif (decide (i6 < (p3.2.1.length : Int))) then
((idx p3.2.1 i6).bind fun v8 =>
(bif (decide (v8.1 < (0 : Int))) then
(some (.inl (p3, e5, i6, true, ())))
else
(bif (decide (p3.1 ≤ v8.1)) then
(some (.inl (p3, e5, i6, true, ())))
else
(bif (decide (v8.2.1 < (0 : Int))) then
(some (.inl (p3, e5, i6, true, ())))
else
(bif (decide (e5 ≤ v8.2.1)) then
(some (.inl (p3, e5, i6, true, ())))
else
(bif (decide (v8.2.2.1 < (0 : Int))) then
(some (.inl (p3, e5, i6, true, ())))
else
(some (.inl (p3, e5, i6, (decide (e5 ≤ v8.2.2.1)), ()))))))) : Option (((Int × ((List (Int × (Int × (Int × Unit)))) × ((List Int) × Unit))) × Int × Int × Bool × Unit) ⊕ Empty)).bind (Sum.elim (fun d9 =>
bif d9.2.2.2.1 then
(some (.inr (.inl (false, ()))))
else
(some (.inl (d9.1, d9.2.1, (IntKind.i64.wrap (d9.2.2.1 + (1 : Int))), ())))) nof))
else
(some (.inr (.inr (.inl (p3, e5, ())))))
noncomputable def ref10_ValidProgram_l0 (n : Nat) (d : ((Int × ((List (Int × (Int × (Int × Unit)))) × ((List Int) × Unit))) × Int × Int × Unit)) : Option (((Int × ((List (Int × (Int × (Int × Unit)))) × ((List Int) × Unit))) × Int × Int × Unit) ⊕ ((Bool × Unit) ⊕ (((Int × ((List (Int × (Int × (Int × Unit)))) × ((List Int) × Unit))) × Int × Unit) ⊕ Empty))) := ref10_ValidProgram_b0 n d.1 d.2.1 d.2.2.1
noncomputable def ref10_ValidProgram (n : Nat) (m0 : (List (List Int))) (p1 : (Int × ((List (Int × (Int × (Int × Unit)))) × ((List Int) × Unit)))) : Option (Bool × Unit) :=
(bif (decide (p1.1 < (0 : Int))) then
(some (.inl (p1, (m0.length : Int), true, ())))
else
(bif (decide ((16 : Int) < p1.1)) then
(some (.inl (p1, (m0.length : Int), true, ())))
else
(some (.inl (p1, (m0.length : Int), (decide ((200000 : Int) < (p1.2.1.length : Int))), ())))) : Option (((Int × ((List (Int × (Int × (Int × Unit)))) × ((List Int) × Unit))) × Int × Bool × Unit) ⊕ Empty)).bind (Sum.elim (fun d2 =>
bif d2.2.2.1 then
(some (false, ()))
else
((iterN (ref10_ValidProgram_l0 n) n (d2.1, d2.2.1, (0 : Int), ())).bind (Sum.elim (fun d36 =>
some (d36.1, ())) (Sum.elim (fun d12 =>
(iterN (ref10_ValidProgram_l1 n) n (d12.1, d12.2.1, (0 : Int), ())).bind (Sum.elim (fun d35 =>
some (d35.1, ())) (Sum.elim (fun d34 =>
some (true, ())) nof))) nof)))) nof)
/-! "commodatum/commodatumref09.Bits" -/
noncomputable def ref09_Bits_b0 (n : Nat) (i0 : Int) (n1 : Int) (k6 : Int) (out5 : (List Bool)) : Option ((Int × Int × Int × (List Bool) × Unit) ⊕ (((List Bool) × Unit) ⊕ Empty)) :=
bif (decide (k6 < n1)) then
(bif decide (k6 < 0) then none else
(idx out5 k6).bind fun v3 =>
some (.inl (i0, n1, (IntKind.i64.wrap (k6 + (1 : Int))), (List.set out5 (k6).toNat (decide ((IntKind.i64.wrap ((BitVec.ofInt IntKind.i64.bits (Int.fdiv i0 (2 ^ (min (k6).toNat IntKind.i64.bits))) &&& BitVec.ofInt IntKind.i64.bits (1 : Int)).toNat)) = (1 : Int)))), ())))
else
(some (.inr (.inl (out5, ()))))
noncomputable def ref09_Bits_l0 (n : Nat) (d : (Int × Int × Int × (List Bool) × Unit)) : Option ((Int × Int × Int × (List Bool) × Unit) ⊕ (((List Bool) × Unit) ⊕ Empty)) := ref09_Bits_b0 n d.1 d.2.1 d.2.2.1 d.2.2.2.1
noncomputable def ref09_Bits (n : Nat) (i0 : Int) (n1 : Int) : Option ((List Bool) × Unit) :=
chk (decide (0 ≤ n1)) (chk (decide (n1 ≤ n1)) (chk (lenB (n1).toNat) ((iterN (ref09_Bits_l0 n) n (i0, n1, (0 : Int), (List.replicate (n1).toNat false), ())).bind (Sum.elim (fun d5 =>
some (d5.1, ())) nof))))
/-! "commodatum/commodatumref10.Product" -/
noncomputable def ref10_Product_b0 (n : Nat) (m0 : (List (List Int))) (x2 : (List Bool)) (p4 : (Int × ((List (Int × (Int × (Int × Unit)))) × ((List Int) × Unit)))) (out7 : Int) (i8 : Int) : Option (((List (List Int)) × (List Bool) × (Int × ((List (Int × (Int × (Int × Unit)))) × ((List Int) × Unit))) × Int × Int × Unit) ⊕ ((Int × Unit) ⊕ Empty)) :=
bif (decide (i8 < (p4.2.1.length : Int))) then
(((idx p4.2.1 i8).bind fun v20 =>
(idx x2 v20.1).bind fun v21 =>
bif v21 then
((idx m0 out7).bind fun v22 =>
(idx p4.2.1 i8).bind fun v23 =>
(idx v22 v23.2.2.1).bind fun v24 =>
some (.inl (m0, x2, p4, v24, i8, ())))
else
((idx m0 out7).bind fun v25 =>
(idx p4.2.1 i8).bind fun v26 =>
(idx v25 v26.2.1).bind fun v27 =>
some (.inl (m0, x2, p4, v27, i8, ()))) : Option (((List (List Int)) × (List Bool) × (Int × ((List (Int × (Int × (Int × Unit)))) × ((List Int) × Unit))) × Int × Int × Unit) ⊕ Empty)).bind (Sum.elim (fun d28 =>
some (.inl (d28.1, d28.2.1, d28.2.2.1, d28.2.2.2.1, (IntKind.i64.wrap (d28.2.2.2.2.1 + (1 : Int))), ()))) nof))
else
(some (.inr (.inl (out7, ()))))
noncomputable def ref10_Product_l0 (n : Nat) (d : ((List (List Int)) × (List Bool) × (Int × ((List (Int × (Int × (Int × Unit)))) × ((List Int) × Unit))) × Int × Int × Unit)) : Option (((List (List Int)) × (List Bool) × (Int × ((List (Int × (Int × (Int × Unit)))) × ((List Int) × Unit))) × Int × Int × Unit) ⊕ ((Int × Unit) ⊕ Empty)) := ref10_Product_b0 n d.1 d.2.1 d.2.2.1 d.2.2.2.1 d.2.2.2.2.1
noncomputable def ref10_Product (n : Nat) (m0 : (List (List Int))) (p1 : (Int × ((List (Int × (Int × (Int × Unit)))) × ((List Int) × Unit)))) (x2 : (List Bool)) : Option (Int × Unit) :=
(iterN (ref10_Product_l0 n) n (m0, x2, p1, (0 : Int), (0 : Int), ())).bind (Sum.elim (fun d30 =>
some (d30.1, ())) nof)
/-! "commodatum/commodatumref10.In" -/
noncomputable def ref10_In_b0 (n : Nat) (l0 : (List Int)) (n1 : Int) (i5 : Int) : Option (((List Int) × Int × Int × Unit) ⊕ ((Bool × Unit) ⊕ ((Unit) ⊕ Empty))) :=
bif (decide (i5 < (l0.length : Int))) then
((idx l0 i5).bind fun v4 =>
bif (decide (v4 = n1)) then
(some (.inr (.inl (true, ()))))
else
(some (.inl (l0, n1, (IntKind.i64.wrap (i5 + (1 : Int))), ()))))
else
(some (.inr (.inr (.inl (())))))
noncomputable def ref10_In_l0 (n : Nat) (d : ((List Int) × Int × Int × Unit)) : Option (((List Int) × Int × Int × Unit) ⊕ ((Bool × Unit) ⊕ ((Unit) ⊕ Empty))) := ref10_In_b0 n d.1 d.2.1 d.2.2.1
noncomputable def ref10_In (n : Nat) (l0 : (List Int)) (n1 : Int) : Option (Bool × Unit) :=
(iterN (ref10_In_l0 n) n (l0, n1, (0 : Int), ())).bind (Sum.elim (fun d8 =>
some (d8.1, ())) (Sum.elim (fun d7 =>
some (false, ())) nof))
/-! "commodatum/commodatumref10.Accepts" -/
noncomputable def ref10_Accepts (n : Nat) (m0 : (List (List Int))) (p1 : (Int × ((List (Int × (Int × (Int × Unit)))) × ((List Int) × Unit)))) (x2 : (List Bool)) : Option (Bool × Unit) :=
(ref10_Product n m0 p1 x2).bind fun r1 =>
(ref10_In n p1.2.2.1 r1.1).bind fun r2 =>
some (r2.1, ())
/-! "commodatum/commodatumlaw10.ones" -/
noncomputable def law10_ones_b0 (n : Nat) (x0 : (List Bool)) (n3 : Int) (i4 : Int) : Option (((List Bool) × Int × Int × Unit) ⊕ ((Int × Unit) ⊕ Empty)) :=
bif (decide (i4 < (x0.length : Int))) then
(((idx x0 i4).bind fun v5 =>
bif v5 then
(some (.inl (x0, (IntKind.i64.wrap (n3 + (1 : Int))), i4, ())))
else
(some (.inl (x0, n3, i4, ()))) : Option (((List Bool) × Int × Int × Unit) ⊕ Empty)).bind (Sum.elim (fun d6 =>
some (.inl (d6.1, d6.2.1, (IntKind.i64.wrap (d6.2.2.1 + (1 : Int))), ()))) nof))
else
(some (.inr (.inl (n3, ()))))
noncomputable def law10_ones_l0 (n : Nat) (d : ((List Bool) × Int × Int × Unit)) : Option (((List Bool) × Int × Int × Unit) ⊕ ((Int × Unit) ⊕ Empty)) := law10_ones_b0 n d.1 d.2.1 d.2.2.1
noncomputable def law10_ones (n : Nat) (x0 : (List Bool)) : Option (Int × Unit) :=
(iterN (law10_ones_l0 n) n (x0, (0 : Int), (0 : Int), ())).bind (Sum.elim (fun d8 =>
some (d8.1, ())) nof)
/-! "commodatum/commodatumlaw10.MonoidMods" -/
noncomputable def law10_MonoidMods_b0 (n : Nat) (n0 : Int) (k1 : Int) (at2 : (List Int)) (m7 : (List (List Int))) (late14 : Int) (two16 : (List (List Int))) (many17 : Int) (i18 : Int) (p9 : (Int × ((List (Int × (Int × (Int × Unit)))) × ((List Int) × Unit)))) (q11 : (Int × ((List (Int × (Int × (Int × Unit)))) × ((List Int) × Unit)))) : Option ((Int × Int × (List Int) × (List (List Int)) × Int × (List (List Int)) × Int × Int × (Int × ((List (Int × (Int × (Int × Unit)))) × ((List Int) × Unit))) × (Int × ((List (Int × (Int × (Int × Unit)))) × ((List Int) × Unit))) × Unit) ⊕ ((Bool × Unit) ⊕ ((Unit) ⊕ Empty))) :=
bif (decide (i18 < many17)) then
((ref09_Bits n i18 n0).bind fun r104 =>
(bif (decide ((12 : Int) < n0)) then
((idx at2 i18).bind fun v105 =>
(ref09_Bits n v105 n0).bind fun r106 =>
some (.inl (n0, k1, at2, m7, late14, two16, many17, i18, r106.1, p9, q11, ())))
else
(some (.inl (n0, k1, at2, m7, late14, two16, many17, i18, r104.1, p9, q11, ()))) : Option ((Int × Int × (List Int) × (List (List Int)) × Int × (List (List Int)) × Int × Int × (List Bool) × (Int × ((List (Int × (Int × (Int × Unit)))) × ((List Int) × Unit))) × (Int × ((List (Int × (Int × (Int × Unit)))) × ((List Int) × Unit))) × Unit) ⊕ Empty)).bind (Sum.elim (fun d107 =>
((ref10_Accepts n d107.2.2.2.2.2.1 d107.2.2.2.2.2.2.2.2.2.2.1 d107.2.2.2.2.2.2.2.2.1).bind fun r108 =>
(law10_ones n d107.2.2.2.2.2.2.2.2.1).bind fun r109 =>
bif (!(r108.1 == (decide (r109.1 = d107.1)))) then
(some (.inl (d107.1, d107.2.1, d107.2.2.1, d107.2.2.2.1, d107.2.2.2.2.1, d107.2.2.2.2.2.1, d107.2.2.2.2.2.2.1, d107.2.2.2.2.2.2.2.1, true, d107.2.2.2.2.2.2.2.2.2.1, d107.2.2.2.2.2.2.2.2.2.2.1, ())))
else
(bif (decide (d107.2.2.2.2.1 = (0 : Int))) then
((ref10_Accepts n d107.2.2.2.1 d107.2.2.2.2.2.2.2.2.2.1 d107.2.2.2.2.2.2.2.2.1).bind fun r110 =>
(law10_ones n d107.2.2.2.2.2.2.2.2.1).bind fun r111 =>
bif decide (d107.2.1 = 0) then none else
some (.inl (d107.1, d107.2.1, d107.2.2.1, d107.2.2.2.1, d107.2.2.2.2.1, d107.2.2.2.2.2.1, d107.2.2.2.2.2.2.1, d107.2.2.2.2.2.2.2.1, (!(r110.1 == (decide ((Int.tmod r111.1 d107.2.1) = (0 : Int))))), d107.2.2.2.2.2.2.2.2.2.1, d107.2.2.2.2.2.2.2.2.2.2.1, ())))
else
(some (.inl (d107.1, d107.2.1, d107.2.2.1, d107.2.2.2.1, d107.2.2.2.2.1, d107.2.2.2.2.2.1, d107.2.2.2.2.2.2.1, d107.2.2.2.2.2.2.2.1, false, d107.2.2.2.2.2.2.2.2.2.1, d107.2.2.2.2.2.2.2.2.2.2.1, ())))) : Option ((Int × Int × (List Int) × (List (List Int)) × Int × (List (List Int)) × Int × Int × Bool × (Int × ((List (Int × (Int × (Int × Unit)))) × ((List Int) × Unit))) × (Int × ((List (Int × (Int × (Int × Unit)))) × ((List Int) × Unit))) × Unit) ⊕ Empty)).bind (Sum.elim (fun d112 =>
bif d112.2.2.2.2.2.2.2.2.1 then
(some (.inr (.inl (false, ()))))
else
(some (.inl (d112.1, d112.2.1, d112.2.2.1, d112.2.2.2.1, d112.2.2.2.2.1, d112.2.2.2.2.2.1, d112.2.2.2.2.2.2.1, (IntKind.i64.wrap (d112.2.2.2.2.2.2.2.1 + (1 : Int))), d112.2.2.2.2.2.2.2.2.2.1, d112.2.2.2.2.2.2.2.2.2.2.1, ())))) nof)) nof))
else
(some (.inr (.inr (.inl (())))))
noncomputable def law10_MonoidMods_l0 (n : Nat) (d : (Int × Int × (List Int) × (List (List Int)) × Int × (List (List Int)) × Int × Int × (Int × ((List (Int × (Int × (Int × Unit)))) × ((List Int) × Unit))) × (Int × ((List (Int × (Int × (Int × Unit)))) × ((List Int) × Unit))) × Unit)) : Option ((Int × Int × (List Int) × (List (List Int)) × Int × (List (List Int)) × Int × Int × (Int × ((List (Int × (Int × (Int × Unit)))) × ((List Int) × Unit))) × (Int × ((List (Int × (Int × (Int × Unit)))) × ((List Int) × Unit))) × Unit) ⊕ ((Bool × Unit) ⊕ ((Unit) ⊕ Empty))) := law10_MonoidMods_b0 n d.1 d.2.1 d.2.2.1 d.2.2.2.1 d.2.2.2.2.1 d.2.2.2.2.2.1 d.2.2.2.2.2.2.1 d.2.2.2.2.2.2.2.1 d.2.2.2.2.2.2.2.2.1 d.2.2.2.2.2.2.2.2.2.1
noncomputable def law10_MonoidMods (n : Nat) (n0 : Int) (k1 : Int) (at2 : (List Int)) : Option (Bool × Unit) :=
bif (decide ((100 : Int) < (at2.length : Int))) then
((law10_Awake n).bind fun r2 =>
some (r2.1, ()))
else
((monoid_Cyclic n k1).bind fun r4 =>
(monoid_Mod n n0 k1).bind fun r6 =>
(monoid_And n n0).bind fun r8 =>
((bif (decide (k1 < (1 : Int))) then
(some (.inl (n0, k1, at2, r4.1, r4.2.1, r6.2.1, r8.2.1, (0 : Int), (0 : Int), (0 : Int), true, r6.1, r8.1, ())))
else
(some (.inl (n0, k1, at2, r4.1, r4.2.1, r6.2.1, r8.2.1, (0 : Int), (0 : Int), (0 : Int), (decide ((120 : Int) < k1)), r6.1, r8.1, ()))) : Option ((Int × Int × (List Int) × (List (List Int)) × Int × Int × Int × Int × Int × Int × Bool × (Int × ((List (Int × (Int × (Int × Unit)))) × ((List Int) × Unit))) × (Int × ((List (Int × (Int × (Int × Unit)))) × ((List Int) × Unit))) × Unit) ⊕ Empty)).bind (Sum.elim (fun d10 =>
bif d10.2.2.2.2.2.2.2.2.2.2.1 then
(some (.inl (d10.1, d10.2.1, d10.2.2.1, d10.2.2.2.1, d10.2.2.2.2.1, d10.2.2.2.2.2.1, d10.2.2.2.2.2.2.1, (2 : Int), (2 : Int), d10.2.2.2.2.2.2.2.2.2.1, d10.2.2.2.2.2.2.2.2.2.2.2.1, d10.2.2.2.2.2.2.2.2.2.2.2.2.1, ())))
else
(some (.inl (d10.1, d10.2.1, d10.2.2.1, d10.2.2.2.1, d10.2.2.2.2.1, d10.2.2.2.2.2.1, d10.2.2.2.2.2.2.1, d10.2.2.2.2.2.2.2.1, d10.2.2.2.2.2.2.2.2.1, d10.2.2.2.2.2.2.2.2.2.1, d10.2.2.2.2.2.2.2.2.2.2.2.1, d10.2.2.2.2.2.2.2.2.2.2.2.2.1, ())))) nof) : Option ((Int × Int × (List Int) × (List (List Int)) × Int × Int × Int × Int × Int × Int × (Int × ((List (Int × (Int × (Int × Unit)))) × ((List Int) × Unit))) × (Int × ((List (Int × (Int × (Int × Unit)))) × ((List Int) × Unit))) × Unit) ⊕ Empty)).bind (Sum.elim (fun d11 =>
((bif (decide (d11.1 < (0 : Int))) then
(some (.inl (d11.1, d11.2.1, d11.2.2.1, d11.2.2.2.1, d11.2.2.2.2.1, d11.2.2.2.2.2.1, d11.2.2.2.2.2.2.1, d11.2.2.2.2.2.2.2.1, d11.2.2.2.2.2.2.2.2.1, d11.2.2.2.2.2.2.2.2.2.1, true, d11.2.2.2.2.2.2.2.2.2.2.1, d11.2.2.2.2.2.2.2.2.2.2.2.1, ())))
else
(some (.inl (d11.1, d11.2.1, d11.2.2.1, d11.2.2.2.1, d11.2.2.2.2.1, d11.2.2.2.2.2.1, d11.2.2.2.2.2.2.1, d11.2.2.2.2.2.2.2.1, d11.2.2.2.2.2.2.2.2.1, d11.2.2.2.2.2.2.2.2.2.1, (decide ((16 : Int) < d11.1)), d11.2.2.2.2.2.2.2.2.2.2.1, d11.2.2.2.2.2.2.2.2.2.2.2.1, ()))) : Option ((Int × Int × (List Int) × (List (List Int)) × Int × Int × Int × Int × Int × Int × Bool × (Int × ((List (Int × (Int × (Int × Unit)))) × ((List Int) × Unit))) × (Int × ((List (Int × (Int × (Int × Unit)))) × ((List Int) × Unit))) × Unit) ⊕ Empty)).bind (Sum.elim (fun d13 =>
bif d13.2.2.2.2.2.2.2.2.2.2.1 then
(some (.inl (d13.1, d13.2.1, d13.2.2.1, d13.2.2.2.1, d13.2.2.2.2.1, d13.2.2.2.2.2.1, d13.2.2.2.2.2.2.1, d13.2.2.2.2.2.2.2.1, (2 : Int), (2 : Int), d13.2.2.2.2.2.2.2.2.2.2.2.1, d13.2.2.2.2.2.2.2.2.2.2.2.2.1, ())))
else
(some (.inl (d13.1, d13.2.1, d13.2.2.1, d13.2.2.2.1, d13.2.2.2.2.1, d13.2.2.2.2.2.1, d13.2.2.2.2.2.2.1, d13.2.2.2.2.2.2.2.1, d13.2.2.2.2.2.2.2.2.1, d13.2.2.2.2.2.2.2.2.2.1, d13.2.2.2.2.2.2.2.2.2.2.2.1, d13.2.2.2.2.2.2.2.2.2.2.2.2.1, ())))) nof) : Option ((Int × Int × (List Int) × (List (List Int)) × Int × Int × Int × Int × Int × Int × (Int × ((List (Int × (Int × (Int × Unit)))) × ((List Int) × Unit))) × (Int × ((List (Int × (Int × (Int × Unit)))) × ((List Int) × Unit))) × Unit) ⊕ Empty)).bind (Sum.elim (fun d14 =>
(bif (!decide (d14.2.2.2.2.1 = d14.2.2.2.2.2.2.2.1)) then
(some (.inl (d14.1, d14.2.1, d14.2.2.1, d14.2.2.2.1, d14.2.2.2.2.2.2.2.2.1, d14.2.2.2.2.2.2.2.2.2.1, true, d14.2.2.2.2.2.2.2.2.2.2.1, d14.2.2.2.2.2.2.2.2.2.2.2.1, ())))
else
(bif (!decide (d14.2.2.2.2.2.1 = d14.2.2.2.2.2.2.2.2.1)) then
(some (.inl (d14.1, d14.2.1, d14.2.2.1, d14.2.2.2.1, d14.2.2.2.2.2.2.2.2.1, d14.2.2.2.2.2.2.2.2.2.1, true, d14.2.2.2.2.2.2.2.2.2.2.1, d14.2.2.2.2.2.2.2.2.2.2.2.1, ())))
else
(bif (!decide (d14.2.2.2.2.2.2.1 = d14.2.2.2.2.2.2.2.2.2.1)) then
(some (.inl (d14.1, d14.2.1, d14.2.2.1, d14.2.2.2.1, d14.2.2.2.2.2.2.2.2.1, d14.2.2.2.2.2.2.2.2.2.1, true, d14.2.2.2.2.2.2.2.2.2.2.1, d14.2.2.2.2.2.2.2.2.2.2.2.1, ())))
else
(bif (decide (d14.2.2.2.2.2.2.2.1 = (0 : Int))) then
((ref10_Cyclic n d14.2.1).bind fun r44 =>
(ref10_Same n d14.2.2.2.1 r44.1).bind fun r45 =>
bif (!r45.1) then
(some (.inl (d14.1, d14.2.1, d14.2.2.1, d14.2.2.2.1, d14.2.2.2.2.2.2.2.2.1, d14.2.2.2.2.2.2.2.2.2.1, true, d14.2.2.2.2.2.2.2.2.2.2.1, d14.2.2.2.2.2.2.2.2.2.2.2.1, ())))
else
(bif (!decide (d14.2.2.2.2.2.2.2.1 = (0 : Int))) then
(bif (decide ((0 : Int) < (d14.2.2.2.1.length : Int))) then
(some (.inl (d14.1, d14.2.1, d14.2.2.1, d14.2.2.2.1, d14.2.2.2.2.2.2.2.2.1, d14.2.2.2.2.2.2.2.2.2.1, true, d14.2.2.2.2.2.2.2.2.2.2.1, d14.2.2.2.2.2.2.2.2.2.2.2.1, ())))
else
(bif (!decide (d14.2.2.2.2.2.2.2.2.1 = (0 : Int))) then
((law10_none n d14.2.2.2.2.2.2.2.2.2.2.1).bind fun r46 =>
bif (!r46.1) then
(some (.inl (d14.1, d14.2.1, d14.2.2.1, d14.2.2.2.1, d14.2.2.2.2.2.2.2.2.1, d14.2.2.2.2.2.2.2.2.2.1, true, d14.2.2.2.2.2.2.2.2.2.2.1, d14.2.2.2.2.2.2.2.2.2.2.2.1, ())))
else
(bif (!decide (d14.2.2.2.2.2.2.2.2.2.1 = (0 : Int))) then
((law10_none n d14.2.2.2.2.2.2.2.2.2.2.2.1).bind fun r47 =>
some (.inl (d14.1, d14.2.1, d14.2.2.1, d14.2.2.2.1, d14.2.2.2.2.2.2.2.2.1, d14.2.2.2.2.2.2.2.2.2.1, (!r47.1), d14.2.2.2.2.2.2.2.2.2.2.1, d14.2.2.2.2.2.2.2.2.2.2.2.1, ())))
else
(some (.inl (d14.1, d14.2.1, d14.2.2.1, d14.2.2.2.1, d14.2.2.2.2.2.2.2.2.1, d14.2.2.2.2.2.2.2.2.2.1, false, d14.2.2.2.2.2.2.2.2.2.2.1, d14.2.2.2.2.2.2.2.2.2.2.2.1, ())))))
else
(bif (!decide (d14.2.2.2.2.2.2.2.2.2.1 = (0 : Int))) then
((law10_none n d14.2.2.2.2.2.2.2.2.2.2.2.1).bind fun r48 =>
some (.inl (d14.1, d14.2.1, d14.2.2.1, d14.2.2.2.1, d14.2.2.2.2.2.2.2.2.1, d14.2.2.2.2.2.2.2.2.2.1, (!r48.1), d14.2.2.2.2.2.2.2.2.2.2.1, d14.2.2.2.2.2.2.2.2.2.2.2.1, ())))
else
(some (.inl (d14.1, d14.2.1, d14.2.2.1, d14.2.2.2.1, d14.2.2.2.2.2.2.2.2.1, d14.2.2.2.2.2.2.2.2.2.1, false, d14.2.2.2.2.2.2.2.2.2.2.1, d14.2.2.2.2.2.2.2.2.2.2.2.1, ()))))))
else
(bif (!decide (d14.2.2.2.2.2.2.2.2.1 = (0 : Int))) then
((law10_none n d14.2.2.2.2.2.2.2.2.2.2.1).bind fun r49 =>
bif (!r49.1) then
(some (.inl (d14.1, d14.2.1, d14.2.2.1, d14.2.2.2.1, d14.2.2.2.2.2.2.2.2.1, d14.2.2.2.2.2.2.2.2.2.1, true, d14.2.2.2.2.2.2.2.2.2.2.1, d14.2.2.2.2.2.2.2.2.2.2.2.1, ())))
else
(bif (!decide (d14.2.2.2.2.2.2.2.2.2.1 = (0 : Int))) then
((law10_none n d14.2.2.2.2.2.2.2.2.2.2.2.1).bind fun r50 =>
some (.inl (d14.1, d14.2.1, d14.2.2.1, d14.2.2.2.1, d14.2.2.2.2.2.2.2.2.1, d14.2.2.2.2.2.2.2.2.2.1, (!r50.1), d14.2.2.2.2.2.2.2.2.2.2.1, d14.2.2.2.2.2.2.2.2.2.2.2.1, ())))
else
(some (.inl (d14.1, d14.2.1, d14.2.2.1, d14.2.2.2.1, d14.2.2.2.2.2.2.2.2.1, d14.2.2.2.2.2.2.2.2.2.1, false, d14.2.2.2.2.2.2.2.2.2.2.1, d14.2.2.2.2.2.2.2.2.2.2.2.1, ())))))
else
(bif (!decide (d14.2.2.2.2.2.2.2.2.2.1 = (0 : Int))) then
((law10_none n d14.2.2.2.2.2.2.2.2.2.2.2.1).bind fun r51 =>
some (.inl (d14.1, d14.2.1, d14.2.2.1, d14.2.2.2.1, d14.2.2.2.2.2.2.2.2.1, d14.2.2.2.2.2.2.2.2.2.1, (!r51.1), d14.2.2.2.2.2.2.2.2.2.2.1, d14.2.2.2.2.2.2.2.2.2.2.2.1, ())))
else
(some (.inl (d14.1, d14.2.1, d14.2.2.1, d14.2.2.2.1, d14.2.2.2.2.2.2.2.2.1, d14.2.2.2.2.2.2.2.2.2.1, false, d14.2.2.2.2.2.2.2.2.2.2.1, d14.2.2.2.2.2.2.2.2.2.2.2.1, ())))))))
else
(bif (!decide (d14.2.2.2.2.2.2.2.1 = (0 : Int))) then
(bif (decide ((0 : Int) < (d14.2.2.2.1.length : Int))) then
(some (.inl (d14.1, d14.2.1, d14.2.2.1, d14.2.2.2.1, d14.2.2.2.2.2.2.2.2.1, d14.2.2.2.2.2.2.2.2.2.1, true, d14.2.2.2.2.2.2.2.2.2.2.1, d14.2.2.2.2.2.2.2.2.2.2.2.1, ())))
else
(bif (!decide (d14.2.2.2.2.2.2.2.2.1 = (0 : Int))) then
((law10_none n d14.2.2.2.2.2.2.2.2.2.2.1).bind fun r52 =>
bif (!r52.1) then
(some (.inl (d14.1, d14.2.1, d14.2.2.1, d14.2.2.2.1, d14.2.2.2.2.2.2.2.2.1, d14.2.2.2.2.2.2.2.2.2.1, true, d14.2.2.2.2.2.2.2.2.2.2.1, d14.2.2.2.2.2.2.2.2.2.2.2.1, ())))
else
(bif (!decide (d14.2.2.2.2.2.2.2.2.2.1 = (0 : Int))) then
((law10_none n d14.2.2.2.2.2.2.2.2.2.2.2.1).bind fun r53 =>
some (.inl (d14.1, d14.2.1, d14.2.2.1, d14.2.2.2.1, d14.2.2.2.2.2.2.2.2.1, d14.2.2.2.2.2.2.2.2.2.1, (!r53.1), d14.2.2.2.2.2.2.2.2.2.2.1, d14.2.2.2.2.2.2.2.2.2.2.2.1, ())))
else
(some (.inl (d14.1, d14.2.1, d14.2.2.1, d14.2.2.2.1, d14.2.2.2.2.2.2.2.2.1, d14.2.2.2.2.2.2.2.2.2.1, false, d14.2.2.2.2.2.2.2.2.2.2.1, d14.2.2.2.2.2.2.2.2.2.2.2.1, ())))))
else
(bif (!decide (d14.2.2.2.2.2.2.2.2.2.1 = (0 : Int))) then
((law10_none n d14.2.2.2.2.2.2.2.2.2.2.2.1).bind fun r54 =>
some (.inl (d14.1, d14.2.1, d14.2.2.1, d14.2.2.2.1, d14.2.2.2.2.2.2.2.2.1, d14.2.2.2.2.2.2.2.2.2.1, (!r54.1), d14.2.2.2.2.2.2.2.2.2.2.1, d14.2.2.2.2.2.2.2.2.2.2.2.1, ())))
else
(some (.inl (d14.1, d14.2.1, d14.2.2.1, d14.2.2.2.1, d14.2.2.2.2.2.2.2.2.1, d14.2.2.2.2.2.2.2.2.2.1, false, d14.2.2.2.2.2.2.2.2.2.2.1, d14.2.2.2.2.2.2.2.2.2.2.2.1, ()))))))
else
(bif (!decide (d14.2.2.2.2.2.2.2.2.1 = (0 : Int))) then
((law10_none n d14.2.2.2.2.2.2.2.2.2.2.1).bind fun r55 =>
bif (!r55.1) then
(some (.inl (d14.1, d14.2.1, d14.2.2.1, d14.2.2.2.1, d14.2.2.2.2.2.2.2.2.1, d14.2.2.2.2.2.2.2.2.2.1, true, d14.2.2.2.2.2.2.2.2.2.2.1, d14.2.2.2.2.2.2.2.2.2.2.2.1, ())))
else
(bif (!decide (d14.2.2.2.2.2.2.2.2.2.1 = (0 : Int))) then
((law10_none n d14.2.2.2.2.2.2.2.2.2.2.2.1).bind fun r56 =>
some (.inl (d14.1, d14.2.1, d14.2.2.1, d14.2.2.2.1, d14.2.2.2.2.2.2.2.2.1, d14.2.2.2.2.2.2.2.2.2.1, (!r56.1), d14.2.2.2.2.2.2.2.2.2.2.1, d14.2.2.2.2.2.2.2.2.2.2.2.1, ())))
else
(some (.inl (d14.1, d14.2.1, d14.2.2.1, d14.2.2.2.1, d14.2.2.2.2.2.2.2.2.1, d14.2.2.2.2.2.2.2.2.2.1, false, d14.2.2.2.2.2.2.2.2.2.2.1, d14.2.2.2.2.2.2.2.2.2.2.2.1, ())))))
else
(bif (!decide (d14.2.2.2.2.2.2.2.2.2.1 = (0 : Int))) then
((law10_none n d14.2.2.2.2.2.2.2.2.2.2.2.1).bind fun r57 =>
some (.inl (d14.1, d14.2.1, d14.2.2.1, d14.2.2.2.1, d14.2.2.2.2.2.2.2.2.1, d14.2.2.2.2.2.2.2.2.2.1, (!r57.1), d14.2.2.2.2.2.2.2.2.2.2.1, d14.2.2.2.2.2.2.2.2.2.2.2.1, ())))
else
(some (.inl (d14.1, d14.2.1, d14.2.2.1, d14.2.2.2.1, d14.2.2.2.2.2.2.2.2.1, d14.2.2.2.2.2.2.2.2.2.1, false, d14.2.2.2.2.2.2.2.2.2.2.1, d14.2.2.2.2.2.2.2.2.2.2.2.1, ()))))))))) : Option ((Int × Int × (List Int) × (List (List Int)) × Int × Int × Bool × (Int × ((List (Int × (Int × (Int × Unit)))) × ((List Int) × Unit))) × (Int × ((List (Int × (Int × (Int × Unit)))) × ((List Int) × Unit))) × Unit) ⊕ Empty)).bind (Sum.elim (fun d58 =>
bif d58.2.2.2.2.2.2.1 then
(some (false, ()))
else
((monoid_Two n).bind fun r63 =>
(ref10_Same n r63.1 ([[(0 : Int), (1 : Int)], [(1 : Int), (1 : Int)]])).bind fun r64 =>
bif (!r64.1) then
(some (false, ()))
else
((bif (decide (d58.2.2.2.2.1 = (0 : Int))) then
((ref10_ValidProgram n d58.2.2.2.1 d58.2.2.2.2.2.2.2.1).bind fun r72 =>
bif (!r72.1) then
(some (.inl (d58.1, d58.2.1, d58.2.2.1, d58.2.2.2.1, d58.2.2.2.2.1, d58.2.2.2.2.2.1, [[(0 : Int), (1 : Int)], [(1 : Int), (1 : Int)]], true, d58.2.2.2.2.2.2.2.1, d58.2.2.2.2.2.2.2.2.1, ())))
else
(bif (!decide (d58.2.2.2.2.2.2.2.1.1 = d58.1)) then
(some (.inl (d58.1, d58.2.1, d58.2.2.1, d58.2.2.2.1, d58.2.2.2.2.1, d58.2.2.2.2.2.1, [[(0 : Int), (1 : Int)], [(1 : Int), (1 : Int)]], true, d58.2.2.2.2.2.2.2.1, d58.2.2.2.2.2.2.2.2.1, ())))
else
(bif (!decide ((d58.2.2.2.2.2.2.2.1.2.1.length : Int) = d58.1)) then
(some (.inl (d58.1, d58.2.1, d58.2.2.1, d58.2.2.2.1, d58.2.2.2.2.1, d58.2.2.2.2.2.1, [[(0 : Int), (1 : Int)], [(1 : Int), (1 : Int)]], true, d58.2.2.2.2.2.2.2.1, d58.2.2.2.2.2.2.2.2.1, ())))
else
(bif (decide (d58.2.2.2.2.2.1 = (0 : Int))) then
((ref10_ValidProgram n ([[(0 : Int), (1 : Int)], [(1 : Int), (1 : Int)]]) d58.2.2.2.2.2.2.2.2.1).bind fun r73 =>
bif (!r73.1) then
(some (.inl (d58.1, d58.2.1, d58.2.2.1, d58.2.2.2.1, d58.2.2.2.2.1, d58.2.2.2.2.2.1, [[(0 : Int), (1 : Int)], [(1 : Int), (1 : Int)]], true, d58.2.2.2.2.2.2.2.1, d58.2.2.2.2.2.2.2.2.1, ())))
else
(bif (!decide (d58.2.2.2.2.2.2.2.2.1.1 = d58.1)) then
(some (.inl (d58.1, d58.2.1, d58.2.2.1, d58.2.2.2.1, d58.2.2.2.2.1, d58.2.2.2.2.2.1, [[(0 : Int), (1 : Int)], [(1 : Int), (1 : Int)]], true, d58.2.2.2.2.2.2.2.1, d58.2.2.2.2.2.2.2.2.1, ())))
else
(some (.inl (d58.1, d58.2.1, d58.2.2.1, d58.2.2.2.1, d58.2.2.2.2.1, d58.2.2.2.2.2.1, [[(0 : Int), (1 : Int)], [(1 : Int), (1 : Int)]], (!decide ((d58.2.2.2.2.2.2.2.2.1.2.1.length : Int) = d58.1)), d58.2.2.2.2.2.2.2.1, d58.2.2.2.2.2.2.2.2.1, ())))))
else
(some (.inl (d58.1, d58.2.1, d58.2.2.1, d58.2.2.2.1, d58.2.2.2.2.1, d58.2.2.2.2.2.1, [[(0 : Int), (1 : Int)], [(1 : Int), (1 : Int)]], false, d58.2.2.2.2.2.2.2.1, d58.2.2.2.2.2.2.2.2.1, ())))))))
else
(bif (decide (d58.2.2.2.2.2.1 = (0 : Int))) then
((ref10_ValidProgram n ([[(0 : Int), (1 : Int)], [(1 : Int), (1 : Int)]]) d58.2.2.2.2.2.2.2.2.1).bind fun r74 =>
bif (!r74.1) then
(some (.inl (d58.1, d58.2.1, d58.2.2.1, d58.2.2.2.1, d58.2.2.2.2.1, d58.2.2.2.2.2.1, [[(0 : Int), (1 : Int)], [(1 : Int), (1 : Int)]], true, d58.2.2.2.2.2.2.2.1, d58.2.2.2.2.2.2.2.2.1, ())))
else
(bif (!decide (d58.2.2.2.2.2.2.2.2.1.1 = d58.1)) then
(some (.inl (d58.1, d58.2.1, d58.2.2.1, d58.2.2.2.1, d58.2.2.2.2.1, d58.2.2.2.2.2.1, [[(0 : Int), (1 : Int)], [(1 : Int), (1 : Int)]], true, d58.2.2.2.2.2.2.2.1, d58.2.2.2.2.2.2.2.2.1, ())))
else
(some (.inl (d58.1, d58.2.1, d58.2.2.1, d58.2.2.2.1, d58.2.2.2.2.1, d58.2.2.2.2.2.1, [[(0 : Int), (1 : Int)], [(1 : Int), (1 : Int)]], (!decide ((d58.2.2.2.2.2.2.2.2.1.2.1.length : Int) = d58.1)), d58.2.2.2.2.2.2.2.1, d58.2.2.2.2.2.2.2.2.1, ())))))
else
(some (.inl (d58.1, d58.2.1, d58.2.2.1, d58.2.2.2.1, d58.2.2.2.2.1, d58.2.2.2.2.2.1, [[(0 : Int), (1 : Int)], [(1 : Int), (1 : Int)]], false, d58.2.2.2.2.2.2.2.1, d58.2.2.2.2.2.2.2.2.1, ())))) : Option ((Int × Int × (List Int) × (List (List Int)) × Int × Int × (List (List Int)) × Bool × (Int × ((List (Int × (Int × (Int × Unit)))) × ((List Int) × Unit))) × (Int × ((List (Int × (Int × (Int × Unit)))) × ((List Int) × Unit))) × Unit) ⊕ Empty)).bind (Sum.elim (fun d75 =>
bif d75.2.2.2.2.2.2.2.1 then
(some (false, ()))
else
(bif (!decide (d75.2.2.2.2.2.1 = (0 : Int))) then
((law10_Awake n).bind fun r77 =>
some (r77.1, ()))
else
((bif (decide (d75.1 ≤ (12 : Int))) then
(bif decide (d75.1 < 0) then none else
some (.inl (d75.1, d75.2.1, d75.2.2.1, d75.2.2.2.1, d75.2.2.2.2.1, d75.2.2.2.2.2.2.1, (IntKind.i64.wrap ((1 : Int) * 2 ^ (min (d75.1).toNat IntKind.i64.bits))), d75.2.2.2.2.2.2.2.2.1, d75.2.2.2.2.2.2.2.2.2.1, ())))
else
(some (.inl (d75.1, d75.2.1, d75.2.2.1, d75.2.2.2.1, d75.2.2.2.2.1, d75.2.2.2.2.2.2.1, (if (20 : Int) < (d75.2.2.1.length : Int) then (20 : Int) else (d75.2.2.1.length : Int)), d75.2.2.2.2.2.2.2.2.1, d75.2.2.2.2.2.2.2.2.2.1, ()))) : Option ((Int × Int × (List Int) × (List (List Int)) × Int × (List (List Int)) × Int × (Int × ((List (Int × (Int × (Int × Unit)))) × ((List Int) × Unit))) × (Int × ((List (Int × (Int × (Int × Unit)))) × ((List Int) × Unit))) × Unit) ⊕ Empty)).bind (Sum.elim (fun d78 =>
(iterN (law10_MonoidMods_l0 n) n (d78.1, d78.2.1, d78.2.2.1, d78.2.2.2.1, d78.2.2.2.2.1, d78.2.2.2.2.2.1, d78.2.2.2.2.2.2.1, (0 : Int), d78.2.2.2.2.2.2.2.1, d78.2.2.2.2.2.2.2.2.1, ())).bind (Sum.elim (fun d117 =>
some (d117.1, ())) (Sum.elim (fun d115 =>
(law10_Awake n).bind fun r116 =>
some (r116.1, ())) nof))) nof)))) nof)))) nof)) nof)) nof))
end Go.Proofs.Ytibphkgcdnconaa.V
