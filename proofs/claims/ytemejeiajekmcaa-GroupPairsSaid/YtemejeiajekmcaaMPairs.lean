import Derived.Test.YtemejeiajekmcaaVb
namespace Go.Proofs.Ytemejeiajekmcaa.V
open Go
set_option linter.unusedVariables false
set_option linter.all false
/-! "commodatum/commodatumlaw02.few" -/
noncomputable def qaa (n : Nat) (l0 : (List (List Int))) (i5 : Int) : Option (((List (List Int)) × Int × Unit) ⊕ ((Bool × Unit) ⊕ ((Unit) ⊕ Empty))) :=
bif (decide (i5 < (l0.length : Int))) then
((idx l0 i5).bind fun v4 =>
bif (decide ((100 : Int) < (v4.length : Int))) then
(some (.inr (.inl (false, ()))))
else
(some (.inl (l0, (IntKind.i64.wrap (i5 + (1 : Int))), ()))))
else
(some (.inr (.inr (.inl (())))))
noncomputable def qab (n : Nat) (d : ((List (List Int)) × Int × Unit)) : Option (((List (List Int)) × Int × Unit) ⊕ ((Bool × Unit) ⊕ ((Unit) ⊕ Empty))) := qaa n d.1 d.2.1
noncomputable def qac (n : Nat) (l0 : (List (List Int))) (most1 : Int) : Option (Bool × Unit) :=
bif (decide (most1 < (l0.length : Int))) then
(some (false, ()))
else
((iterN (qab n) n (l0, (0 : Int), ())).bind (Sum.elim (fun d8 =>
some (d8.1, ())) (Sum.elim (fun d7 =>
some (true, ())) nof)))
/-! "commodatum/perm.Valid" -/
noncomputable def qad (n : Nat) (p0 : (List Int)) (t14 : (List Int)) (t15 : Int) (t16 : Int) (met3 : (List Int)) : Option (((List Int) × (List Int) × Int × Int × (List Int) × Unit) ⊕ ((Bool × Unit) ⊕ ((Unit) ⊕ Empty))) :=
bif (decide (t16 < t15)) then
((idx t14 t16).bind fun v17 =>
(bif (decide (v17 < (0 : Int))) then
(some (.inl (p0, v17, t14, t15, t16, true, met3, ())))
else
(bif (decide ((p0.length : Int) ≤ v17)) then
(some (.inl (p0, v17, t14, t15, t16, true, met3, ())))
else
((idx met3 v17).bind fun v18 =>
some (.inl (p0, v17, t14, t15, t16, (decide ((0 : Int) < v18)), met3, ())))) : Option (((List Int) × Int × (List Int) × Int × Int × Bool × (List Int) × Unit) ⊕ Empty)).bind (Sum.elim (fun d19 =>
bif d19.2.2.2.2.2.1 then
(some (.inr (.inl (false, ()))))
else
((idx d19.2.2.2.2.2.2.1 d19.2.1).bind fun v20 =>
(idx d19.2.2.2.2.2.2.1 d19.2.1).bind fun v21 =>
some (.inl (d19.1, d19.2.2.1, d19.2.2.2.1, (IntKind.i64.wrap (d19.2.2.2.2.1 + (1 : Int))), (List.set d19.2.2.2.2.2.2.1 (d19.2.1).toNat (IntKind.i8.wrap (v20 + (1 : Int)))), ())))) nof))
else
(some (.inr (.inr (.inl (())))))
noncomputable def qae (n : Nat) (d : ((List Int) × (List Int) × Int × Int × (List Int) × Unit)) : Option (((List Int) × (List Int) × Int × Int × (List Int) × Unit) ⊕ ((Bool × Unit) ⊕ ((Unit) ⊕ Empty))) := qad n d.1 d.2.1 d.2.2.1 d.2.2.2.1 d.2.2.2.2.1
noncomputable def qaf (n : Nat) (p0 : (List Int)) : Option (Bool × Unit) :=
(bif (decide ((p0.length : Int) < (1 : Int))) then
(some (.inl (p0, true, ())))
else
(some (.inl (p0, (decide ((7 : Int) < (p0.length : Int))), ()))) : Option (((List Int) × Bool × Unit) ⊕ Empty)).bind (Sum.elim (fun d2 =>
bif d2.2.1 then
(some (false, ()))
else
((iterN (qae n) n (d2.1, d2.1, (d2.1.length : Int), (0 : Int), (List.replicate 7 (0 : Int)), ())).bind (Sum.elim (fun d25 =>
some (d25.1, ())) (Sum.elim (fun d24 =>
some (true, ())) nof)))) nof)
/-! "commodatum/group.generators$1" -/
noncomputable def qag (n : Nat) (p0 : (List Int)) (x1 : (List (List Int))) : Option (Bool × Unit) :=
(qaf n p0).bind fun r1 =>
bif (!r1.1) then
(some (true, ()))
else
((idx x1 (0 : Int)).bind fun v2 =>
some ((!decide ((p0.length : Int) = (v2.length : Int))), ()))
/-! "slices.IndexFunc[[]commodatum/api.Perm,commodatum/api.Perm]" -/
noncomputable def qah (n : Nat) (s0 : (List (List Int))) (f1 : ((List (List Int)) × Unit)) (t7 : Int) (t8 : Int) : Option (((List (List Int)) × ((List (List Int)) × Unit) × Int × Int × Unit) ⊕ ((Int × Unit) ⊕ ((Unit) ⊕ Empty))) :=
bif (decide (t8 < t7)) then
((idx s0 t8).bind fun v7 =>
(qag n v7 f1.1).bind fun r8 =>
bif r8.1 then
(some (.inr (.inl (t8, ()))))
else
(some (.inl (s0, (f1.1, ()), t7, (IntKind.i64.wrap (t8 + (1 : Int))), ()))))
else
(some (.inr (.inr (.inl (())))))
noncomputable def qai (n : Nat) (d : ((List (List Int)) × ((List (List Int)) × Unit) × Int × Int × Unit)) : Option (((List (List Int)) × ((List (List Int)) × Unit) × Int × Int × Unit) ⊕ ((Int × Unit) ⊕ ((Unit) ⊕ Empty))) := qah n d.1 d.2.1 d.2.2.1 d.2.2.2.1
noncomputable def qaj (n : Nat) (s0 : (List (List Int))) (f1 : ((List (List Int)) × Unit)) : Option (Int × Unit) :=
(iterN (qai n) n (s0, (f1.1, ()), (s0.length : Int), (0 : Int), ())).bind (Sum.elim (fun d12 =>
some (d12.1, ())) (Sum.elim (fun d11 =>
some ((-1 : Int), ())) nof))
/-! "slices.ContainsFunc[[]commodatum/api.Perm,commodatum/api.Perm]" -/
noncomputable def qak (n : Nat) (s0 : (List (List Int))) (f1 : ((List (List Int)) × Unit)) : Option (Bool × Unit) :=
(qaj n s0 (f1.1, ())).bind fun r1 =>
some ((decide ((0 : Int) ≤ r1.1)), ())
/-! "commodatum/group.generators" -/
noncomputable def qal (n : Nat) (gens0 : (List (List Int))) : Option (Bool × Unit) :=
bif (decide ((0 : Int) < (gens0.length : Int))) then
(bif (decide ((gens0.length : Int) ≤ (5040 : Int))) then
((qak n gens0 (gens0, ())).bind fun r1 =>
some ((!r1.1), ()))
else
(some (false, ())))
else
(some (false, ()))
/-! "commodatum/perm.identity" -/
noncomputable def qam (n : Nat) (t8 : Int) (t9 : Int) (p3 : (List Int)) : Option ((Int × Int × (List Int) × Unit) ⊕ (((List Int) × Unit) ⊕ Empty)) :=
bif (decide (t9 < t8)) then
((idx p3 t9).bind fun v3 =>
some (.inl (t8, (IntKind.i64.wrap (t9 + (1 : Int))), (List.set p3 (t9).toNat t9), ())))
else
(some (.inr (.inl (p3, ()))))
noncomputable def qan (n : Nat) (d : (Int × Int × (List Int) × Unit)) : Option ((Int × Int × (List Int) × Unit) ⊕ (((List Int) × Unit) ⊕ Empty)) := qam n d.1 d.2.1 d.2.2.1
noncomputable def qao (n : Nat) (n0 : Int) : Option ((List Int) × Unit) :=
chk (decide (0 ≤ n0)) (chk (decide (n0 ≤ n0)) (chk (lenB (n0).toNat) ((iterN (qan n) n ((((List.replicate (n0).toNat (0 : Int))).length : Int), (0 : Int), (List.replicate (n0).toNat (0 : Int)), ())).bind (Sum.elim (fun d5 =>
some (d5.1, ())) nof))))
/-! "commodatum/perm.Identity" -/
noncomputable def qap (n : Nat) (n0 : Int) : Option ((List Int) × (Int × Unit)) :=
(bif (decide (n0 < (1 : Int))) then
(some (.inl (n0, true, ())))
else
(some (.inl (n0, (decide ((7 : Int) < n0)), ()))) : Option ((Int × Bool × Unit) ⊕ Empty)).bind (Sum.elim (fun d2 =>
bif d2.2.1 then
(some (([] : (List Int)), ((2 : Int), ())))
else
((qao n d2.1).bind fun r3 =>
some (r3.1, ((0 : Int), ())))) nof)
/-! "commodatum/group.keyOf" -/
noncomputable def qaq (n : Nat) (t13 : (List Int)) (t14 : Int) (t15 : Int) (t2 : (List Int)) (k3 : (List Int)) : Option (((List Int) × Int × Int × (List Int) × (List Int) × Unit) ⊕ (((List Int) × (List Int) × Unit) ⊕ Empty)) :=
bif (decide (t15 < t14)) then
((idx t13 t15).bind fun v11 =>
(idx k3 t15).bind fun v12 =>
some (.inl (t13, t14, (IntKind.i64.wrap (t15 + (1 : Int))), t2, (List.set k3 (t15).toNat (IntKind.i8.wrap v11)), ())))
else
(some (.inr (.inl (t2, k3, ()))))
noncomputable def qar (n : Nat) (d : ((List Int) × Int × Int × (List Int) × (List Int) × Unit)) : Option (((List Int) × Int × Int × (List Int) × (List Int) × Unit) ⊕ (((List Int) × (List Int) × Unit) ⊕ Empty)) := qaq n d.1 d.2.1 d.2.2.1 d.2.2.2.1 d.2.2.2.2.1
noncomputable def qas (n : Nat) (p0 : (List Int)) (t7 : Int) (t2 : (List Int)) (k3 : (List Int)) : Option (((List Int) × Int × (List Int) × (List Int) × Unit) ⊕ (((List Int) × (List Int) × (List Int) × Unit) ⊕ Empty)) :=
bif (decide (t7 < (7 : Int))) then
((idx k3 t7).bind fun v3 =>
some (.inl (p0, (IntKind.i64.wrap (t7 + (1 : Int))), t2, (List.set k3 (t7).toNat (-1 : Int)), ())))
else
(some (.inr (.inl (p0, t2, k3, ()))))
noncomputable def qat (n : Nat) (d : ((List Int) × Int × (List Int) × (List Int) × Unit)) : Option (((List Int) × Int × (List Int) × (List Int) × Unit) ⊕ (((List Int) × (List Int) × (List Int) × Unit) ⊕ Empty)) := qas n d.1 d.2.1 d.2.2.1 d.2.2.2.1
noncomputable def qau (n : Nat) (p0 : (List Int)) : Option ((List Int) × Unit) :=
(iterN (qat n) n (p0, (0 : Int), (List.replicate 7 (0 : Int)), (List.replicate 7 (0 : Int)), ())).bind (Sum.elim (fun d5 =>
(iterN (qar n) n (d5.1, (d5.1.length : Int), (0 : Int), d5.2.1, d5.2.2.1, ())).bind (Sum.elim (fun d14 =>
some (d14.2.1, ())) nof)) nof)
/-! "commodatum/group.setOf" -/
noncomputable def qav (n : Nat) (t7 : (List (List Int))) (t8 : Int) (t9 : Int) (s3 : (Option (List ((List Int) × Bool)))) : Option (((List (List Int)) × Int × Int × (Option (List ((List Int) × Bool))) × Unit) ⊕ (((Option (List ((List Int) × Bool))) × Unit) ⊕ Empty)) :=
bif (decide (t9 < t8)) then
((idx t7 t9).bind fun v8 =>
(qau n v8).bind fun r9 =>
(s3).bind fun l10 =>
some (.inl (t7, t8, (IntKind.i64.wrap (t9 + (1 : Int))), (some (mput (.arr 7 (.int .i8)) l10 r9.1 true)), ())))
else
(some (.inr (.inl (s3, ()))))
noncomputable def qaw (n : Nat) (d : ((List (List Int)) × Int × Int × (Option (List ((List Int) × Bool))) × Unit)) : Option (((List (List Int)) × Int × Int × (Option (List ((List Int) × Bool))) × Unit) ⊕ (((Option (List ((List Int) × Bool))) × Unit) ⊕ Empty)) := qav n d.1 d.2.1 d.2.2.1 d.2.2.2.1
noncomputable def qax (n : Nat) (l0 : (List (List Int))) : Option ((Option (List ((List Int) × Bool))) × Unit) :=
(iterN (qaw n) n (l0, (l0.length : Int), (0 : Int), (some [] : (Option (List ((List Int) × Bool)))), ())).bind (Sum.elim (fun d12 =>
some (d12.1, ())) nof)
/-! "commodatum/group.mul" -/
noncomputable def qay (n : Nat) (q1 : (List Int)) (t11 : (List Int)) (t12 : Int) (t13 : Int) (out5 : (List Int)) : Option (((List Int) × (List Int) × Int × Int × (List Int) × Unit) ⊕ (((List Int) × Unit) ⊕ Empty)) :=
bif (decide (t13 < t12)) then
((idx t11 t13).bind fun v8 =>
(idx q1 v8).bind fun v9 =>
(idx out5 t13).bind fun v10 =>
some (.inl (q1, t11, t12, (IntKind.i64.wrap (t13 + (1 : Int))), (List.set out5 (t13).toNat v9), ())))
else
(some (.inr (.inl (out5, ()))))
noncomputable def qaz (n : Nat) (d : ((List Int) × (List Int) × Int × Int × (List Int) × Unit)) : Option (((List Int) × (List Int) × Int × Int × (List Int) × Unit) ⊕ (((List Int) × Unit) ⊕ Empty)) := qay n d.1 d.2.1 d.2.2.1 d.2.2.2.1 d.2.2.2.2.1
noncomputable def qa0 (n : Nat) (p0 : (List Int)) (q1 : (List Int)) : Option ((List Int) × Unit) :=
chk (decide (0 ≤ (p0.length : Int))) (chk (decide ((p0.length : Int) ≤ (p0.length : Int))) (chk (lenB ((p0.length : Int)).toNat) ((iterN (qaz n) n (q1, p0, (p0.length : Int), (0 : Int), (List.replicate ((p0.length : Int)).toNat (0 : Int)), ())).bind (Sum.elim (fun d12 =>
some (d12.1, ())) nof))))
/-! "commodatum/group.grown$1" -/
noncomputable def qa1 (n : Nat) (i5 : Int) (t25 : Int) (t26 : Int) (t1 : (Option (List ((List Int) × Bool)))) (t24 : (List (List Int))) (t3 : (List (List Int))) : Option ((Int × Int × Int × (Option (List ((List Int) × Bool))) × (List (List Int)) × (List (List Int)) × Unit) ⊕ ((Int × (Option (List ((List Int) × Bool))) × (List (List Int)) × (List (List Int)) × Unit) ⊕ Empty)) :=
bif (decide (t26 < t25)) then
(((idx t24 t26).bind fun v20 =>
(idx t3 i5).bind fun v21 =>
(qa0 n v21 v20).bind fun r22 =>
(qau n r22.1).bind fun r23 =>
bif (!(((t1).bind fun l => mget (.arr 7 (.int .i8)) l r23.1).getD false)) then
((t1).bind fun l24 =>
chk (lenB ((t3).length + ([r22.1]).length)) (chk (sameP [.el (0)] [.el (0)]) (some (.inl (i5, t25, t26, (some (mput (.arr 7 (.int .i8)) l24 r23.1 true)), t24, (t3 ++ [r22.1]), ())))))
else
(some (.inl (i5, t25, t26, t1, t24, t3, ()))) : Option ((Int × Int × Int × (Option (List ((List Int) × Bool))) × (List (List Int)) × (List (List Int)) × Unit) ⊕ Empty)).bind (Sum.elim (fun d25 =>
some (.inl (d25.1, d25.2.1, (IntKind.i64.wrap (d25.2.2.1 + (1 : Int))), d25.2.2.2.1, d25.2.2.2.2.1, d25.2.2.2.2.2.1, ()))) nof))
else
(some (.inr (.inl (i5, t1, t24, t3, ()))))
noncomputable def qa2 (n : Nat) (d : (Int × Int × Int × (Option (List ((List Int) × Bool))) × (List (List Int)) × (List (List Int)) × Unit)) : Option ((Int × Int × Int × (Option (List ((List Int) × Bool))) × (List (List Int)) × (List (List Int)) × Unit) ⊕ ((Int × (Option (List ((List Int) × Bool))) × (List (List Int)) × (List (List Int)) × Unit) ⊕ Empty)) := qa1 n d.1 d.2.1 d.2.2.1 d.2.2.2.1 d.2.2.2.2.1 d.2.2.2.2.2.1
noncomputable def qa3 (n : Nat) (i5 : Int) (t1 : (Option (List ((List Int) × Bool)))) (t2 : (List (List Int))) (t3 : (List (List Int))) : Option ((Int × (Option (List ((List Int) × Bool))) × (List (List Int)) × (List (List Int)) × Unit) ⊕ (((Option (List ((List Int) × Bool))) × (List (List Int)) × (List (List Int)) × Unit) ⊕ Empty)) :=
bif (decide (i5 < (t3.length : Int))) then
((iterN (qa2 n) n (i5, (t2.length : Int), (0 : Int), t1, t2, t3, ())).bind (Sum.elim (fun d28 =>
some (.inl ((IntKind.i64.wrap (d28.1 + (1 : Int))), d28.2.1, d28.2.2.1, d28.2.2.2.1, ()))) nof))
else
(some (.inr (.inl (t1, t2, t3, ()))))
noncomputable def qa4 (n : Nat) (d : (Int × (Option (List ((List Int) × Bool))) × (List (List Int)) × (List (List Int)) × Unit)) : Option ((Int × (Option (List ((List Int) × Bool))) × (List (List Int)) × (List (List Int)) × Unit) ⊕ (((Option (List ((List Int) × Bool))) × (List (List Int)) × (List (List Int)) × Unit) ⊕ Empty)) := qa3 n d.1 d.2.1 d.2.2.1 d.2.2.2.1
noncomputable def qa5 (n : Nat) (p0 : (List Int)) (xo0 : (Option (List ((List Int) × Bool)))) (xo1 : (List (List Int))) (xo2 : (List (List Int))) : Option (Unit × ((Option (List ((List Int) × Bool))) × (List (List Int)) × (List (List Int)) × Unit)) :=
(qau n p0).bind fun r3 =>
bif (((xo0).bind fun l => mget (.arr 7 (.int .i8)) l r3.1).getD false) then
(some ((), (xo0, (xo1, (xo2, ())))))
else
(chk (lenB ((xo1).length + ([p0]).length)) (chk (sameP [.el (0)] [.el (0)]) ((iterN (qa4 n) n ((0 : Int), xo0, (xo1 ++ [p0]), xo2, ())).bind (Sum.elim (fun d29 =>
some ((), (d29.1, (d29.2.1, (d29.2.2.1, ()))))) nof))))
/-! "commodatum/group.closed$1" -/
noncomputable def qa6 (n : Nat) (yield0 : (Unit × (Unit × (Unit × Unit)))) (t5 : (List (List Int))) (t6 : Int) (t7 : Int) (c0 : (Option (List ((List Int) × Bool)))) (c1 : (List (List Int))) (c2 : (List (List Int))) : Option (((Unit × (Unit × (Unit × Unit))) × (List (List Int)) × Int × Int × (Option (List ((List Int) × Bool))) × (List (List Int)) × (List (List Int)) × Unit) ⊕ (((Option (List ((List Int) × Bool))) × (List (List Int)) × (List (List Int)) × Unit) ⊕ Empty)) :=
bif (decide (t7 < t6)) then
((idx t5 t7).bind fun v6 =>
(qa5 n v6 c0 c1 c2).bind fun r7 =>
some (.inl (((), ((), ((), ()))), t5, t6, (IntKind.i64.wrap (t7 + (1 : Int))), r7.2.1, r7.2.2.1, r7.2.2.2.1, ())))
else
(some (.inr (.inl (c0, c1, c2, ()))))
noncomputable def qa7 (n : Nat) (d : ((Unit × (Unit × (Unit × Unit))) × (List (List Int)) × Int × Int × (Option (List ((List Int) × Bool))) × (List (List Int)) × (List (List Int)) × Unit)) : Option (((Unit × (Unit × (Unit × Unit))) × (List (List Int)) × Int × Int × (Option (List ((List Int) × Bool))) × (List (List Int)) × (List (List Int)) × Unit) ⊕ (((Option (List ((List Int) × Bool))) × (List (List Int)) × (List (List Int)) × Unit) ⊕ Empty)) := qa6 n d.1 d.2.1 d.2.2.1 d.2.2.2.1 d.2.2.2.2.1 d.2.2.2.2.2.1 d.2.2.2.2.2.2.1
noncomputable def qa8 (n : Nat) (x1 : (List (List Int))) (co0 : (Option (List ((List Int) × Bool)))) (co1 : (List (List Int))) (co2 : (List (List Int))) : Option (Unit × ((Option (List ((List Int) × Bool))) × (List (List Int)) × (List (List Int)) × Unit)) :=
(iterN (qa7 n) n (((), ((), ((), ()))), x1, (x1.length : Int), (0 : Int), co0, co1, co2, ())).bind (Sum.elim (fun d8 =>
some ((), (d8.1, (d8.2.1, (d8.2.2.1, ()))))) nof)
/-! "commodatum/group.grown" -/
noncomputable def qa9 (n : Nat) (n0 : Int) (add1 : ((List (List Int)) × Unit)) : Option ((List (List Int)) × Unit) :=
(qap n n0).bind fun r2 =>
(qax n [r2.1]).bind fun r4 =>
(qa8 n add1.1 r4.1 ([] : (List (List Int))) [r2.1]).bind fun r6 =>
some (r6.2.2.2.1, ())
/-! "math/bits.Len64" -/
noncomputable def qba (n : Nat) (x0 : Int) : Option (Int × Unit) :=
(bif (decide ((4294967296 : Int) ≤ x0)) then
(bif decide ((32 : Int) < 0) then none else
some (.inl ((Int.fdiv x0 (2 ^ (min ((32 : Int)).toNat IntKind.u64.bits))), (32 : Int), ())))
else
(some (.inl (x0, (0 : Int), ()))) : Option ((Int × Int × Unit) ⊕ Empty)).bind (Sum.elim (fun d1 =>
(bif (decide ((65536 : Int) ≤ d1.1)) then
(bif decide ((16 : Int) < 0) then none else
some (.inl ((Int.fdiv d1.1 (2 ^ (min ((16 : Int)).toNat IntKind.u64.bits))), (IntKind.i64.wrap (d1.2.1 + (16 : Int))), ())))
else
(some (.inl (d1.1, d1.2.1, ()))) : Option ((Int × Int × Unit) ⊕ Empty)).bind (Sum.elim (fun d2 =>
(bif (decide ((256 : Int) ≤ d2.1)) then
(bif decide ((8 : Int) < 0) then none else
some (.inl ((Int.fdiv d2.1 (2 ^ (min ((8 : Int)).toNat IntKind.u64.bits))), (IntKind.i64.wrap (d2.2.1 + (8 : Int))), ())))
else
(some (.inl (d2.1, d2.2.1, ()))) : Option ((Int × Int × Unit) ⊕ Empty)).bind (Sum.elim (fun d3 =>
(idx (ByteArray.mk #[0, 1, 2, 2, 3, 3, 3, 3, 4, 4, 4, 4, 4, 4, 4, 4, 5, 5, 5, 5, 5, 5, 5, 5, 5, 5, 5, 5, 5, 5, 5, 5, 6, 6, 6, 6, 6, 6, 6, 6, 6, 6, 6, 6, 6, 6, 6, 6, 6, 6, 6, 6, 6, 6, 6, 6, 6, 6, 6, 6, 6, 6, 6, 6, 7, 7, 7, 7, 7, 7, 7, 7, 7, 7, 7, 7, 7, 7, 7, 7, 7, 7, 7, 7, 7, 7, 7, 7, 7, 7, 7, 7, 7, 7, 7, 7, 7, 7, 7, 7, 7, 7, 7, 7, 7, 7, 7, 7, 7, 7, 7, 7, 7, 7, 7, 7, 7, 7, 7, 7, 7, 7, 7, 7, 7, 7, 7, 7, 8, 8, 8, 8, 8, 8, 8, 8, 8, 8, 8, 8, 8, 8, 8, 8, 8, 8, 8, 8, 8, 8, 8, 8, 8, 8, 8, 8, 8, 8, 8, 8, 8, 8, 8, 8, 8, 8, 8, 8, 8, 8, 8, 8, 8, 8, 8, 8, 8, 8, 8, 8, 8, 8, 8, 8, 8, 8, 8, 8, 8, 8, 8, 8, 8, 8, 8, 8, 8, 8, 8, 8, 8, 8, 8, 8, 8, 8, 8, 8, 8, 8, 8, 8, 8, 8, 8, 8, 8, 8, 8, 8, 8, 8, 8, 8, 8, 8, 8, 8, 8, 8, 8, 8, 8, 8, 8, 8, 8, 8, 8, 8, 8, 8, 8, 8, 8, 8, 8, 8, 8, 8, 8, 8, 8, 8, 8, 8]).data.toList (IntKind.u8.wrap d3.1)).bind fun v4 =>
some ((IntKind.i64.wrap (d3.2.1 + (IntKind.i64.wrap ((v4.toNat : Nat) : Int)))), ())) nof)) nof)) nof)
/-! "math/bits.Len" -/
noncomputable def qbb (n : Nat) (x0 : Int) : Option (Int × Unit) :=
(qba n x0).bind fun r1 =>
some (r1.1, ())
/-! "cmp.isNaN[int]" -/
noncomputable def qbc (n : Nat) (x0 : Int) : Option (Bool × Unit) :=
some ((!decide (x0 = x0)), ())
/-! "cmp.Compare[int]" -/
noncomputable def qbd (n : Nat) (x0 : Int) (y1 : Int) : Option (Int × Unit) :=
(qbc n x0).bind fun r2 =>
(qbc n y1).bind fun r4 =>
bif r2.1 then
(bif r4.1 then
(some ((0 : Int), ()))
else
(some ((-1 : Int), ())))
else
(bif r4.1 then
(some ((1 : Int), ()))
else
(bif (decide (x0 < y1)) then
(some ((-1 : Int), ()))
else
(bif (decide (y1 < x0)) then
(some ((1 : Int), ()))
else
(some ((0 : Int), ())))))
/-! "slices.Compare[commodatum/api.Perm,int]" -/
noncomputable def qbe (n : Nat) (s10 : (List Int)) (s21 : (List Int)) (t9 : (List Int)) (t10 : Int) (t11 : Int) : Option (((List Int) × (List Int) × (List Int) × Int × Int × Unit) ⊕ ((Int × Unit) ⊕ (((List Int) × (List Int) × Unit) ⊕ Empty))) :=
bif (decide (t11 < t10)) then
((idx t9 t11).bind fun v10 =>
bif (decide ((s21.length : Int) ≤ t11)) then
(some (.inr (.inl ((1 : Int), ()))))
else
((idx s21 t11).bind fun v11 =>
(qbd n v10 v11).bind fun r12 =>
bif (!decide (r12.1 = (0 : Int))) then
(some (.inr (.inl (r12.1, ()))))
else
(some (.inl (s10, s21, t9, t10, (IntKind.i64.wrap (t11 + (1 : Int))), ())))))
else
(some (.inr (.inr (.inl (s10, s21, ())))))
noncomputable def qbf (n : Nat) (d : ((List Int) × (List Int) × (List Int) × Int × Int × Unit)) : Option (((List Int) × (List Int) × (List Int) × Int × Int × Unit) ⊕ ((Int × Unit) ⊕ (((List Int) × (List Int) × Unit) ⊕ Empty))) := qbe n d.1 d.2.1 d.2.2.1 d.2.2.2.1 d.2.2.2.2.1
noncomputable def qbg (n : Nat) (s10 : (List Int)) (s21 : (List Int)) : Option (Int × Unit) :=
(iterN (qbf n) n (s10, s21, s10, (s10.length : Int), (0 : Int), ())).bind (Sum.elim (fun d16 =>
some (d16.1, ())) (Sum.elim (fun d15 =>
bif (decide ((d15.1.length : Int) < (d15.2.1.length : Int))) then
(some ((-1 : Int), ()))
else
(some ((0 : Int), ()))) nof))
/-! "commodatum/group.sorted$1" -/
noncomputable def qbh (n : Nat) (a0 : (List Int)) (b1 : (List Int)) : Option (Int × Unit) :=
(qbg n a0 b1).bind fun r1 =>
some (r1.1, ())
/-! "slices.insertionSortCmpFunc[commodatum/api.Perm]" -/
noncomputable def qbi (n : Nat) (a1 : Int) (b2 : Int) (cmp3 : Unit) (i8 : Int) (j9 : Int) (data0 : (List (List Int))) : Option ((Int × Int × Unit × Int × Int × (List (List Int)) × Unit) ⊕ ((Int × Int × Unit × Int × (List (List Int)) × Unit) ⊕ Empty)) :=
(bif (decide (a1 < j9)) then
((idx data0 j9).bind fun v20 =>
(idx data0 (IntKind.i64.wrap (j9 - (1 : Int)))).bind fun v21 =>
(qbh n v20 v21).bind fun r22 =>
some (.inl (a1, b2, (), i8, j9, (decide (r22.1 < (0 : Int))), data0, ())))
else
(some (.inl (a1, b2, (), i8, j9, false, data0, ()))) : Option ((Int × Int × Unit × Int × Int × Bool × (List (List Int)) × Unit) ⊕ Empty)).bind (Sum.elim (fun d23 =>
bif d23.2.2.2.2.2.1 then
((idx d23.2.2.2.2.2.2.1 (IntKind.i64.wrap (d23.2.2.2.2.1 - (1 : Int)))).bind fun v24 =>
(idx d23.2.2.2.2.2.2.1 d23.2.2.2.2.1).bind fun v25 =>
(idx d23.2.2.2.2.2.2.1 d23.2.2.2.2.1).bind fun v26 =>
(idx (List.set d23.2.2.2.2.2.2.1 (d23.2.2.2.2.1).toNat v24) (IntKind.i64.wrap (d23.2.2.2.2.1 - (1 : Int)))).bind fun v27 =>
some (.inl (d23.1, d23.2.1, (), d23.2.2.2.1, (IntKind.i64.wrap (d23.2.2.2.2.1 - (1 : Int))), (List.set (List.set d23.2.2.2.2.2.2.1 (d23.2.2.2.2.1).toNat v24) ((IntKind.i64.wrap (d23.2.2.2.2.1 - (1 : Int)))).toNat v25), ())))
else
(some (.inr (.inl (d23.1, d23.2.1, (), d23.2.2.2.1, d23.2.2.2.2.2.2.1, ()))))) nof)
noncomputable def qbj (n : Nat) (d : (Int × Int × Unit × Int × Int × (List (List Int)) × Unit)) : Option ((Int × Int × Unit × Int × Int × (List (List Int)) × Unit) ⊕ ((Int × Int × Unit × Int × (List (List Int)) × Unit) ⊕ Empty)) := qbi n d.1 d.2.1 d.2.2.1 d.2.2.2.1 d.2.2.2.2.1 d.2.2.2.2.2.1
noncomputable def qbk (n : Nat) (a1 : Int) (b2 : Int) (cmp3 : Unit) (i8 : Int) (data0 : (List (List Int))) : Option ((Int × Int × Unit × Int × (List (List Int)) × Unit) ⊕ (((List (List Int)) × Unit) ⊕ Empty)) :=
bif (decide (i8 < b2)) then
((iterN (qbj n) n (a1, b2, (), i8, i8, data0, ())).bind (Sum.elim (fun d30 =>
some (.inl (d30.1, d30.2.1, (), (IntKind.i64.wrap (d30.2.2.2.1 + (1 : Int))), d30.2.2.2.2.1, ()))) nof))
else
(some (.inr (.inl (data0, ()))))
noncomputable def qbl (n : Nat) (d : (Int × Int × Unit × Int × (List (List Int)) × Unit)) : Option ((Int × Int × Unit × Int × (List (List Int)) × Unit) ⊕ (((List (List Int)) × Unit) ⊕ Empty)) := qbk n d.1 d.2.1 d.2.2.1 d.2.2.2.1 d.2.2.2.2.1
noncomputable def qbm (n : Nat) (a1 : Int) (b2 : Int) (datao0 : (List (List Int))) : Option (Unit × ((List (List Int)) × Unit)) :=
(iterN (qbl n) n (a1, b2, (), (IntKind.i64.wrap (a1 + (1 : Int))), datao0, ())).bind (Sum.elim (fun d31 =>
some ((), (d31.1, ()))) nof)
/-! "slices.siftDownCmpFunc[commodatum/api.Perm]" -/
noncomputable def qbn (n : Nat) (hi2 : Int) (first3 : Int) (cmp4 : Unit) (root10 : Int) (data0 : (List (List Int))) : Option ((Int × Int × Unit × Int × (List (List Int)) × Unit) ⊕ (((List (List Int)) × Unit) ⊕ (((List (List Int)) × Unit) ⊕ Empty))) :=
bif (decide (hi2 ≤ (IntKind.i64.wrap ((IntKind.i64.wrap ((2 : Int) * root10)) + (1 : Int))))) then
(some (.inr (.inl (data0, ()))))
else
(((bif (decide ((IntKind.i64.wrap ((IntKind.i64.wrap ((IntKind.i64.wrap ((2 : Int) * root10)) + (1 : Int))) + (1 : Int))) < hi2)) then
((idx data0 (IntKind.i64.wrap (first3 + (IntKind.i64.wrap ((IntKind.i64.wrap ((2 : Int) * root10)) + (1 : Int)))))).bind fun v30 =>
(idx data0 (IntKind.i64.wrap ((IntKind.i64.wrap (first3 + (IntKind.i64.wrap ((IntKind.i64.wrap ((2 : Int) * root10)) + (1 : Int))))) + (1 : Int)))).bind fun v31 =>
(qbh n v30 v31).bind fun r32 =>
some (.inl (hi2, first3, (), root10, (IntKind.i64.wrap ((IntKind.i64.wrap ((2 : Int) * root10)) + (1 : Int))), (decide (r32.1 < (0 : Int))), data0, ())))
else
(some (.inl (hi2, first3, (), root10, (IntKind.i64.wrap ((IntKind.i64.wrap ((2 : Int) * root10)) + (1 : Int))), false, data0, ()))) : Option ((Int × Int × Unit × Int × Int × Bool × (List (List Int)) × Unit) ⊕ Empty)).bind (Sum.elim (fun d33 =>
bif d33.2.2.2.2.2.1 then
(some (.inl (d33.1, d33.2.1, (), d33.2.2.2.1, (IntKind.i64.wrap (d33.2.2.2.2.1 + (1 : Int))), d33.2.2.2.2.2.2.1, ())))
else
(some (.inl (d33.1, d33.2.1, (), d33.2.2.2.1, d33.2.2.2.2.1, d33.2.2.2.2.2.2.1, ())))) nof) : Option ((Int × Int × Unit × Int × Int × (List (List Int)) × Unit) ⊕ Empty)).bind (Sum.elim (fun d34 =>
(idx d34.2.2.2.2.2.1 (IntKind.i64.wrap (d34.2.1 + d34.2.2.2.1))).bind fun v35 =>
(idx d34.2.2.2.2.2.1 (IntKind.i64.wrap (d34.2.1 + d34.2.2.2.2.1))).bind fun v36 =>
(qbh n v35 v36).bind fun r37 =>
bif (!(decide (r37.1 < (0 : Int)))) then
(some (.inr (.inr (.inl (d34.2.2.2.2.2.1, ())))))
else
((idx d34.2.2.2.2.2.1 (IntKind.i64.wrap (d34.2.1 + d34.2.2.2.2.1))).bind fun v38 =>
(idx d34.2.2.2.2.2.1 (IntKind.i64.wrap (d34.2.1 + d34.2.2.2.1))).bind fun v39 =>
(idx d34.2.2.2.2.2.1 (IntKind.i64.wrap (d34.2.1 + d34.2.2.2.1))).bind fun v40 =>
(idx (List.set d34.2.2.2.2.2.1 ((IntKind.i64.wrap (d34.2.1 + d34.2.2.2.1))).toNat v38) (IntKind.i64.wrap (d34.2.1 + d34.2.2.2.2.1))).bind fun v41 =>
some (.inl (d34.1, d34.2.1, (), d34.2.2.2.2.1, (List.set (List.set d34.2.2.2.2.2.1 ((IntKind.i64.wrap (d34.2.1 + d34.2.2.2.1))).toNat v38) ((IntKind.i64.wrap (d34.2.1 + d34.2.2.2.2.1))).toNat v39), ())))) nof))
noncomputable def qbo (n : Nat) (d : (Int × Int × Unit × Int × (List (List Int)) × Unit)) : Option ((Int × Int × Unit × Int × (List (List Int)) × Unit) ⊕ (((List (List Int)) × Unit) ⊕ (((List (List Int)) × Unit) ⊕ Empty))) := qbn n d.1 d.2.1 d.2.2.1 d.2.2.2.1 d.2.2.2.2.1
noncomputable def qbp (n : Nat) (lo1 : Int) (hi2 : Int) (first3 : Int) (datao0 : (List (List Int))) : Option (Unit × ((List (List Int)) × Unit)) :=
(iterN (qbo n) n (hi2, first3, (), lo1, datao0, ())).bind (Sum.elim (fun d43 =>
some ((), (d43.1, ()))) (Sum.elim (fun d42 =>
some ((), (d42.1, ()))) nof))
/-! "slices.heapSortCmpFunc[commodatum/api.Perm]" -/
noncomputable def qbq (n : Nat) (cmp3 : Unit) (first8 : Int) (lo9 : Int) (hi10 : Int) (i11 : Int) (data0 : (List (List Int))) : Option ((Unit × Int × Int × Int × Int × (List (List Int)) × Unit) ⊕ ((Unit × Int × Int × Int × (List (List Int)) × Unit) ⊕ Empty)) :=
bif (decide ((0 : Int) ≤ i11)) then
((qbp n i11 hi10 first8 data0).bind fun r3 =>
some (.inl ((), first8, lo9, hi10, (IntKind.i64.wrap (i11 - (1 : Int))), r3.2.1, ())))
else
(some (.inr (.inl ((), first8, lo9, hi10, data0, ()))))
noncomputable def qbr (n : Nat) (d : (Unit × Int × Int × Int × Int × (List (List Int)) × Unit)) : Option ((Unit × Int × Int × Int × Int × (List (List Int)) × Unit) ⊕ ((Unit × Int × Int × Int × (List (List Int)) × Unit) ⊕ Empty)) := qbq n d.1 d.2.1 d.2.2.1 d.2.2.2.1 d.2.2.2.2.1 d.2.2.2.2.2.1
noncomputable def qbs (n : Nat) (cmp3 : Unit) (first8 : Int) (lo9 : Int) (i12 : Int) (data0 : (List (List Int))) : Option ((Unit × Int × Int × Int × (List (List Int)) × Unit) ⊕ (((List (List Int)) × Unit) ⊕ Empty)) :=
bif (decide ((0 : Int) ≤ i12)) then
((idx data0 (IntKind.i64.wrap (first8 + i12))).bind fun v20 =>
(idx data0 first8).bind fun v21 =>
(idx data0 first8).bind fun v22 =>
(idx (List.set data0 (first8).toNat v20) (IntKind.i64.wrap (first8 + i12))).bind fun v23 =>
(qbp n lo9 i12 first8 (List.set (List.set data0 (first8).toNat v20) ((IntKind.i64.wrap (first8 + i12))).toNat v21)).bind fun r24 =>
some (.inl ((), first8, lo9, (IntKind.i64.wrap (i12 - (1 : Int))), r24.2.1, ())))
else
(some (.inr (.inl (data0, ()))))
noncomputable def qbt (n : Nat) (d : (Unit × Int × Int × Int × (List (List Int)) × Unit)) : Option ((Unit × Int × Int × Int × (List (List Int)) × Unit) ⊕ (((List (List Int)) × Unit) ⊕ Empty)) := qbs n d.1 d.2.1 d.2.2.1 d.2.2.2.1 d.2.2.2.2.1
noncomputable def qbu (n : Nat) (a1 : Int) (b2 : Int) (datao0 : (List (List Int))) : Option (Unit × ((List (List Int)) × Unit)) :=
bif decide ((2 : Int) = 0) then none else
(iterN (qbr n) n ((), a1, (0 : Int), (IntKind.i64.wrap (b2 - a1)), (IntKind.i64.wrap (Int.tdiv (IntKind.i64.wrap ((IntKind.i64.wrap (b2 - a1)) - (1 : Int))) (2 : Int))), datao0, ())).bind (Sum.elim (fun d5 =>
(iterN (qbt n) n ((), d5.2.1, d5.2.2.1, (IntKind.i64.wrap (d5.2.2.2.1 - (1 : Int))), d5.2.2.2.2.1, ())).bind (Sum.elim (fun d25 =>
some ((), (d25.1, ()))) nof)) nof)
/-! "slices.nextPowerOfTwo" -/
noncomputable def qbv (n : Nat) (length0 : Int) : Option (Int × Unit) :=
(qbb n (IntKind.u64.wrap length0)).bind fun r1 =>
bif decide (r1.1 < 0) then none else
some ((IntKind.u64.wrap ((1 : Int) * 2 ^ (min (r1.1).toNat IntKind.u64.bits))), ())
/-! "(*slices.xorshift).Next" -/
noncomputable def qbw (n : Nat) (ro0 : Int) : Option ((Int × Unit) × (Int × Unit)) :=
bif decide ((13 : Int) < 0) then none else
bif decide ((7 : Int) < 0) then none else
bif decide ((17 : Int) < 0) then none else
some (((IntKind.u64.wrap ((BitVec.ofInt IntKind.u64.bits (IntKind.u64.wrap ((BitVec.ofInt IntKind.u64.bits (IntKind.u64.wrap ((BitVec.ofInt IntKind.u64.bits ro0 ^^^ BitVec.ofInt IntKind.u64.bits (IntKind.u64.wrap (ro0 * 2 ^ (min ((13 : Int)).toNat IntKind.u64.bits)))).toNat)) ^^^ BitVec.ofInt IntKind.u64.bits (Int.fdiv (IntKind.u64.wrap ((BitVec.ofInt IntKind.u64.bits ro0 ^^^ BitVec.ofInt IntKind.u64.bits (IntKind.u64.wrap (ro0 * 2 ^ (min ((13 : Int)).toNat IntKind.u64.bits)))).toNat)) (2 ^ (min ((7 : Int)).toNat IntKind.u64.bits)))).toNat)) ^^^ BitVec.ofInt IntKind.u64.bits (IntKind.u64.wrap ((IntKind.u64.wrap ((BitVec.ofInt IntKind.u64.bits (IntKind.u64.wrap ((BitVec.ofInt IntKind.u64.bits ro0 ^^^ BitVec.ofInt IntKind.u64.bits (IntKind.u64.wrap (ro0 * 2 ^ (min ((13 : Int)).toNat IntKind.u64.bits)))).toNat)) ^^^ BitVec.ofInt IntKind.u64.bits (Int.fdiv (IntKind.u64.wrap ((BitVec.ofInt IntKind.u64.bits ro0 ^^^ BitVec.ofInt IntKind.u64.bits (IntKind.u64.wrap (ro0 * 2 ^ (min ((13 : Int)).toNat IntKind.u64.bits)))).toNat)) (2 ^ (min ((7 : Int)).toNat IntKind.u64.bits)))).toNat)) * 2 ^ (min ((17 : Int)).toNat IntKind.u64.bits)))).toNat)), ()), ((IntKind.u64.wrap ((BitVec.ofInt IntKind.u64.bits (IntKind.u64.wrap ((BitVec.ofInt IntKind.u64.bits (IntKind.u64.wrap ((BitVec.ofInt IntKind.u64.bits ro0 ^^^ BitVec.ofInt IntKind.u64.bits (IntKind.u64.wrap (ro0 * 2 ^ (min ((13 : Int)).toNat IntKind.u64.bits)))).toNat)) ^^^ BitVec.ofInt IntKind.u64.bits (Int.fdiv (IntKind.u64.wrap ((BitVec.ofInt IntKind.u64.bits ro0 ^^^ BitVec.ofInt IntKind.u64.bits (IntKind.u64.wrap (ro0 * 2 ^ (min ((13 : Int)).toNat IntKind.u64.bits)))).toNat)) (2 ^ (min ((7 : Int)).toNat IntKind.u64.bits)))).toNat)) ^^^ BitVec.ofInt IntKind.u64.bits (IntKind.u64.wrap ((IntKind.u64.wrap ((BitVec.ofInt IntKind.u64.bits (IntKind.u64.wrap ((BitVec.ofInt IntKind.u64.bits ro0 ^^^ BitVec.ofInt IntKind.u64.bits (IntKind.u64.wrap (ro0 * 2 ^ (min ((13 : Int)).toNat IntKind.u64.bits)))).toNat)) ^^^ BitVec.ofInt IntKind.u64.bits (Int.fdiv (IntKind.u64.wrap ((BitVec.ofInt IntKind.u64.bits ro0 ^^^ BitVec.ofInt IntKind.u64.bits (IntKind.u64.wrap (ro0 * 2 ^ (min ((13 : Int)).toNat IntKind.u64.bits)))).toNat)) (2 ^ (min ((7 : Int)).toNat IntKind.u64.bits)))).toNat)) * 2 ^ (min ((17 : Int)).toNat IntKind.u64.bits)))).toNat)), ()))
/-! "slices.breakPatternsCmpFunc[commodatum/api.Perm]" -/
noncomputable def qbx (n : Nat) (a1 : Int) (length8 : Int) (modulus10 : Int) (idx11 : Int) (data0 : (List (List Int))) (random9 : Int) : Option ((Int × Int × Int × Int × (List (List Int)) × Int × Unit) ⊕ (((List (List Int)) × Unit) ⊕ Empty)) :=
bif decide ((4 : Int) = 0) then none else
bif (decide (idx11 ≤ (IntKind.i64.wrap ((IntKind.i64.wrap (a1 + (IntKind.i64.wrap ((IntKind.i64.wrap (Int.tdiv length8 (4 : Int))) * (2 : Int))))) + (1 : Int))))) then
((qbw n random9).bind fun r16 =>
(bif (decide (length8 ≤ (IntKind.i64.wrap (IntKind.u64.wrap ((BitVec.ofInt IntKind.u64.bits r16.1.1 &&& BitVec.ofInt IntKind.u64.bits (IntKind.u64.wrap (modulus10 - (1 : Int)))).toNat))))) then
(some (.inl (a1, length8, modulus10, idx11, (IntKind.i64.wrap ((IntKind.i64.wrap (IntKind.u64.wrap ((BitVec.ofInt IntKind.u64.bits r16.1.1 &&& BitVec.ofInt IntKind.u64.bits (IntKind.u64.wrap (modulus10 - (1 : Int)))).toNat))) - length8)), data0, r16.2.1, ())))
else
(some (.inl (a1, length8, modulus10, idx11, (IntKind.i64.wrap (IntKind.u64.wrap ((BitVec.ofInt IntKind.u64.bits r16.1.1 &&& BitVec.ofInt IntKind.u64.bits (IntKind.u64.wrap (modulus10 - (1 : Int)))).toNat))), data0, r16.2.1, ()))) : Option ((Int × Int × Int × Int × Int × (List (List Int)) × Int × Unit) ⊕ Empty)).bind (Sum.elim (fun d17 =>
(idx d17.2.2.2.2.2.1 (IntKind.i64.wrap (d17.1 + d17.2.2.2.2.1))).bind fun v18 =>
(idx d17.2.2.2.2.2.1 d17.2.2.2.1).bind fun v19 =>
(idx d17.2.2.2.2.2.1 d17.2.2.2.1).bind fun v20 =>
(idx (List.set d17.2.2.2.2.2.1 (d17.2.2.2.1).toNat v18) (IntKind.i64.wrap (d17.1 + d17.2.2.2.2.1))).bind fun v21 =>
some (.inl (d17.1, d17.2.1, d17.2.2.1, (IntKind.i64.wrap (d17.2.2.2.1 + (1 : Int))), (List.set (List.set d17.2.2.2.2.2.1 (d17.2.2.2.1).toNat v18) ((IntKind.i64.wrap (d17.1 + d17.2.2.2.2.1))).toNat v19), d17.2.2.2.2.2.2.1, ()))) nof))
else
(some (.inr (.inl (data0, ()))))
noncomputable def qby (n : Nat) (d : (Int × Int × Int × Int × (List (List Int)) × Int × Unit)) : Option ((Int × Int × Int × Int × (List (List Int)) × Int × Unit) ⊕ (((List (List Int)) × Unit) ⊕ Empty)) := qbx n d.1 d.2.1 d.2.2.1 d.2.2.2.1 d.2.2.2.2.1 d.2.2.2.2.2.1
noncomputable def qbz (n : Nat) (a1 : Int) (b2 : Int) (datao0 : (List (List Int))) : Option (Unit × ((List (List Int)) × Unit)) :=
bif (decide ((8 : Int) ≤ (IntKind.i64.wrap (b2 - a1)))) then
((qbv n (IntKind.i64.wrap (b2 - a1))).bind fun r2 =>
bif decide ((4 : Int) = 0) then none else
(iterN (qby n) n (a1, (IntKind.i64.wrap (b2 - a1)), r2.1, (IntKind.i64.wrap ((IntKind.i64.wrap (a1 + (IntKind.i64.wrap ((IntKind.i64.wrap (Int.tdiv (IntKind.i64.wrap (b2 - a1)) (4 : Int))) * (2 : Int))))) - (1 : Int))), datao0, (IntKind.u64.wrap (IntKind.i64.wrap (b2 - a1))), ())).bind (Sum.elim (fun d22 =>
some ((), (d22.1, ()))) nof))
else
(some ((), (datao0, ())))
/-! "slices.order2CmpFunc[commodatum/api.Perm]" -/
noncomputable def qb0 (n : Nat) (data0 : (List (List Int))) (a1 : Int) (b2 : Int) (swapso0 : Int) : Option ((Int × (Int × Unit)) × (Int × Unit)) :=
(idx data0 b2).bind fun v7 =>
(idx data0 a1).bind fun v8 =>
(qbh n v7 v8).bind fun r9 =>
bif (decide (r9.1 < (0 : Int))) then
(some ((b2, (a1, ())), ((IntKind.i64.wrap (swapso0 + (1 : Int))), ())))
else
(some ((a1, (b2, ())), (swapso0, ())))
/-! "slices.medianCmpFunc[commodatum/api.Perm]" -/
noncomputable def qb1 (n : Nat) (data0 : (List (List Int))) (a1 : Int) (b2 : Int) (c3 : Int) (swapso0 : Int) : Option ((Int × Unit) × (Int × Unit)) :=
(qb0 n data0 a1 b2 swapso0).bind fun r2 =>
(qb0 n data0 r2.1.2.1 c3 r2.2.1).bind fun r4 =>
(qb0 n data0 r2.1.1 r4.1.1 r4.2.1).bind fun r6 =>
some ((r6.1.2.1, ()), (r6.2.1, ()))
/-! "slices.medianAdjacentCmpFunc[commodatum/api.Perm]" -/
noncomputable def qb2 (n : Nat) (data0 : (List (List Int))) (a1 : Int) (swapso0 : Int) : Option ((Int × Unit) × (Int × Unit)) :=
(qb1 n data0 (IntKind.i64.wrap (a1 - (1 : Int))) a1 (IntKind.i64.wrap (a1 + (1 : Int))) swapso0).bind fun r1 =>
some ((r1.1.1, ()), (r1.2.1, ()))
/-! "slices.choosePivotCmpFunc[commodatum/api.Perm]" -/
noncomputable def qb3 (n : Nat) (data0 : (List (List Int))) (a1 : Int) (b2 : Int) : Option (Int × (Int × Unit)) :=
bif decide ((4 : Int) = 0) then none else
bif decide ((4 : Int) = 0) then none else
bif decide ((4 : Int) = 0) then none else
(bif (decide ((8 : Int) ≤ (IntKind.i64.wrap (b2 - a1)))) then
((bif (decide ((50 : Int) ≤ (IntKind.i64.wrap (b2 - a1)))) then
((qb2 n data0 (IntKind.i64.wrap (a1 + (IntKind.i64.wrap ((IntKind.i64.wrap (Int.tdiv (IntKind.i64.wrap (b2 - a1)) (4 : Int))) * (1 : Int))))) (0 : Int)).bind fun r11 =>
(qb2 n data0 (IntKind.i64.wrap (a1 + (IntKind.i64.wrap ((IntKind.i64.wrap (Int.tdiv (IntKind.i64.wrap (b2 - a1)) (4 : Int))) * (2 : Int))))) r11.2.1).bind fun r12 =>
(qb2 n data0 (IntKind.i64.wrap (a1 + (IntKind.i64.wrap ((IntKind.i64.wrap (Int.tdiv (IntKind.i64.wrap (b2 - a1)) (4 : Int))) * (3 : Int))))) r12.2.1).bind fun r13 =>
some (.inl (data0, (), r11.1.1, r12.1.1, r13.1.1, r13.2.1, ())))
else
(some (.inl (data0, (), (IntKind.i64.wrap (a1 + (IntKind.i64.wrap ((IntKind.i64.wrap (Int.tdiv (IntKind.i64.wrap (b2 - a1)) (4 : Int))) * (1 : Int))))), (IntKind.i64.wrap (a1 + (IntKind.i64.wrap ((IntKind.i64.wrap (Int.tdiv (IntKind.i64.wrap (b2 - a1)) (4 : Int))) * (2 : Int))))), (IntKind.i64.wrap (a1 + (IntKind.i64.wrap ((IntKind.i64.wrap (Int.tdiv (IntKind.i64.wrap (b2 - a1)) (4 : Int))) * (3 : Int))))), (0 : Int), ()))) : Option (((List (List Int)) × Unit × Int × Int × Int × Int × Unit) ⊕ Empty)).bind (Sum.elim (fun d14 =>
(qb1 n d14.1 d14.2.2.1 d14.2.2.2.1 d14.2.2.2.2.1 d14.2.2.2.2.2.1).bind fun r15 =>
some (.inl (r15.1.1, r15.2.1, ()))) nof))
else
(some (.inl ((IntKind.i64.wrap (a1 + (IntKind.i64.wrap ((IntKind.i64.wrap (Int.tdiv (IntKind.i64.wrap (b2 - a1)) (4 : Int))) * (2 : Int))))), (0 : Int), ()))) : Option ((Int × Int × Unit) ⊕ Empty)).bind (Sum.elim (fun d16 =>
bif (decide (d16.2.1 = (0 : Int))) then
(some (d16.1, ((1 : Int), ())))
else
(bif (decide (d16.2.1 = (12 : Int))) then
(some (d16.1, ((2 : Int), ())))
else
(some (d16.1, ((0 : Int), ()))))) nof)
/-! "slices.reverseRangeCmpFunc[commodatum/api.Perm]" -/
noncomputable def qb4 (n : Nat) (i8 : Int) (j9 : Int) (data0 : (List (List Int))) : Option ((Int × Int × (List (List Int)) × Unit) ⊕ (((List (List Int)) × Unit) ⊕ Empty)) :=
bif (decide (i8 < j9)) then
((idx data0 j9).bind fun v9 =>
(idx data0 i8).bind fun v10 =>
(idx data0 i8).bind fun v11 =>
(idx (List.set data0 (i8).toNat v9) j9).bind fun v12 =>
some (.inl ((IntKind.i64.wrap (i8 + (1 : Int))), (IntKind.i64.wrap (j9 - (1 : Int))), (List.set (List.set data0 (i8).toNat v9) (j9).toNat v10), ())))
else
(some (.inr (.inl (data0, ()))))
noncomputable def qb5 (n : Nat) (d : (Int × Int × (List (List Int)) × Unit)) : Option ((Int × Int × (List (List Int)) × Unit) ⊕ (((List (List Int)) × Unit) ⊕ Empty)) := qb4 n d.1 d.2.1 d.2.2.1
noncomputable def qb6 (n : Nat) (a1 : Int) (b2 : Int) (datao0 : (List (List Int))) : Option (Unit × ((List (List Int)) × Unit)) :=
(iterN (qb5 n) n (a1, (IntKind.i64.wrap (b2 - (1 : Int))), datao0, ())).bind (Sum.elim (fun d13 =>
some ((), (d13.1, ()))) nof)
/-! "slices.partialInsertionSortCmpFunc[commodatum/api.Perm]" -/
noncomputable def qb7 (n : Nat) (a1 : Int) (b2 : Int) (cmp3 : Unit) (i9 : Int) (j10 : Int) (j11 : Int) (data0 : (List (List Int))) : Option ((Int × Int × Unit × Int × Int × Int × (List (List Int)) × Unit) ⊕ ((Int × Int × Unit × Int × Int × (List (List Int)) × Unit) ⊕ Empty)) :=
bif (decide ((1 : Int) ≤ j11)) then
((idx data0 j11).bind fun v46 =>
(idx data0 (IntKind.i64.wrap (j11 - (1 : Int)))).bind fun v47 =>
(qbh n v46 v47).bind fun r48 =>
bif (!(decide (r48.1 < (0 : Int)))) then
(some (.inr (.inl (a1, b2, (), i9, j10, data0, ()))))
else
((idx data0 (IntKind.i64.wrap (j11 - (1 : Int)))).bind fun v49 =>
(idx data0 j11).bind fun v50 =>
(idx data0 j11).bind fun v51 =>
(idx (List.set data0 (j11).toNat v49) (IntKind.i64.wrap (j11 - (1 : Int)))).bind fun v52 =>
some (.inl (a1, b2, (), i9, j10, (IntKind.i64.wrap (j11 - (1 : Int))), (List.set (List.set data0 (j11).toNat v49) ((IntKind.i64.wrap (j11 - (1 : Int)))).toNat v50), ()))))
else
(some (.inr (.inl (a1, b2, (), i9, j10, data0, ()))))
noncomputable def qb8 (n : Nat) (d : (Int × Int × Unit × Int × Int × Int × (List (List Int)) × Unit)) : Option ((Int × Int × Unit × Int × Int × Int × (List (List Int)) × Unit) ⊕ ((Int × Int × Unit × Int × Int × (List (List Int)) × Unit) ⊕ Empty)) := qb7 n d.1 d.2.1 d.2.2.1 d.2.2.2.1 d.2.2.2.2.1 d.2.2.2.2.2.1 d.2.2.2.2.2.2.1
noncomputable def qb9 (n : Nat) (a1 : Int) (b2 : Int) (cmp3 : Unit) (i9 : Int) (j10 : Int) (j12 : Int) (data0 : (List (List Int))) : Option ((Int × Int × Unit × Int × Int × Int × (List (List Int)) × Unit) ⊕ ((Int × Int × Unit × Int × Int × (List (List Int)) × Unit) ⊕ Empty)) :=
bif (decide (j12 < b2)) then
((idx data0 j12).bind fun v76 =>
(idx data0 (IntKind.i64.wrap (j12 - (1 : Int)))).bind fun v77 =>
(qbh n v76 v77).bind fun r78 =>
bif (!(decide (r78.1 < (0 : Int)))) then
(some (.inr (.inl (a1, b2, (), i9, j10, data0, ()))))
else
((idx data0 (IntKind.i64.wrap (j12 - (1 : Int)))).bind fun v79 =>
(idx data0 j12).bind fun v80 =>
(idx data0 j12).bind fun v81 =>
(idx (List.set data0 (j12).toNat v79) (IntKind.i64.wrap (j12 - (1 : Int)))).bind fun v82 =>
some (.inl (a1, b2, (), i9, j10, (IntKind.i64.wrap (j12 + (1 : Int))), (List.set (List.set data0 (j12).toNat v79) ((IntKind.i64.wrap (j12 - (1 : Int)))).toNat v80), ()))))
else
(some (.inr (.inl (a1, b2, (), i9, j10, data0, ()))))
noncomputable def qca (n : Nat) (d : (Int × Int × Unit × Int × Int × Int × (List (List Int)) × Unit)) : Option ((Int × Int × Unit × Int × Int × Int × (List (List Int)) × Unit) ⊕ ((Int × Int × Unit × Int × Int × (List (List Int)) × Unit) ⊕ Empty)) := qb9 n d.1 d.2.1 d.2.2.1 d.2.2.2.1 d.2.2.2.2.1 d.2.2.2.2.2.1 d.2.2.2.2.2.2.1
noncomputable def qcb (n : Nat) (a1 : Int) (b2 : Int) (cmp3 : Unit) (i9 : Int) (j10 : Int) (data0 : (List (List Int))) : Option ((Int × Int × Unit × Int × Int × (List (List Int)) × Unit) ⊕ ((Int × Int × Unit × Int × Int × (List (List Int)) × Unit) ⊕ Empty)) :=
(bif (decide (i9 < b2)) then
((idx data0 i9).bind fun v12 =>
(idx data0 (IntKind.i64.wrap (i9 - (1 : Int)))).bind fun v13 =>
(qbh n v12 v13).bind fun r14 =>
some (.inl (a1, b2, (), i9, j10, (!(decide (r14.1 < (0 : Int)))), data0, ())))
else
(some (.inl (a1, b2, (), i9, j10, false, data0, ()))) : Option ((Int × Int × Unit × Int × Int × Bool × (List (List Int)) × Unit) ⊕ Empty)).bind (Sum.elim (fun d15 =>
bif d15.2.2.2.2.2.1 then
(some (.inl (d15.1, d15.2.1, (), (IntKind.i64.wrap (d15.2.2.2.1 + (1 : Int))), d15.2.2.2.2.1, d15.2.2.2.2.2.2.1, ())))
else
(some (.inr (.inl (d15.1, d15.2.1, (), d15.2.2.2.1, d15.2.2.2.2.1, d15.2.2.2.2.2.2.1, ()))))) nof)
noncomputable def qcc (n : Nat) (d : (Int × Int × Unit × Int × Int × (List (List Int)) × Unit)) : Option ((Int × Int × Unit × Int × Int × (List (List Int)) × Unit) ⊕ ((Int × Int × Unit × Int × Int × (List (List Int)) × Unit) ⊕ Empty)) := qcb n d.1 d.2.1 d.2.2.1 d.2.2.2.1 d.2.2.2.2.1 d.2.2.2.2.2.1
noncomputable def qcd (n : Nat) (a1 : Int) (b2 : Int) (cmp3 : Unit) (i9 : Int) (j10 : Int) (data0 : (List (List Int))) : Option ((Int × Int × Unit × Int × Int × (List (List Int)) × Unit) ⊕ ((Bool × (List (List Int)) × Unit) ⊕ (((List (List Int)) × Unit) ⊕ Empty))) :=
bif (decide (j10 < (5 : Int))) then
(((iterN (qcc n) n (a1, b2, (), i9, j10, data0, ())).bind (Sum.elim (fun d94 =>
bif (decide (d94.2.2.2.1 = d94.2.1)) then
(some (.inl (true, d94.2.2.2.2.2.1, ())))
else
(bif (decide ((IntKind.i64.wrap (d94.2.1 - d94.1)) < (50 : Int))) then
(some (.inl (false, d94.2.2.2.2.2.1, ())))
else
((idx d94.2.2.2.2.2.1 (IntKind.i64.wrap (d94.2.2.2.1 - (1 : Int)))).bind fun v95 =>
(idx d94.2.2.2.2.2.1 d94.2.2.2.1).bind fun v96 =>
(idx d94.2.2.2.2.2.1 d94.2.2.2.1).bind fun v97 =>
(idx (List.set d94.2.2.2.2.2.1 (d94.2.2.2.1).toNat v95) (IntKind.i64.wrap (d94.2.2.2.1 - (1 : Int)))).bind fun v98 =>
(bif (decide ((2 : Int) ≤ (IntKind.i64.wrap (d94.2.2.2.1 - d94.1)))) then
((iterN (qb8 n) n (d94.1, d94.2.1, (), d94.2.2.2.1, d94.2.2.2.2.1, (IntKind.i64.wrap (d94.2.2.2.1 - (1 : Int))), (List.set (List.set d94.2.2.2.2.2.1 (d94.2.2.2.1).toNat v95) ((IntKind.i64.wrap (d94.2.2.2.1 - (1 : Int)))).toNat v96), ())).bind (Sum.elim (fun d99 =>
some (.inl (d99.1, d99.2.1, (), d99.2.2.2.1, d99.2.2.2.2.1, d99.2.2.2.2.2.1, ()))) nof))
else
(some (.inl (d94.1, d94.2.1, (), d94.2.2.2.1, d94.2.2.2.2.1, (List.set (List.set d94.2.2.2.2.2.1 (d94.2.2.2.1).toNat v95) ((IntKind.i64.wrap (d94.2.2.2.1 - (1 : Int)))).toNat v96), ()))) : Option ((Int × Int × Unit × Int × Int × (List (List Int)) × Unit) ⊕ Empty)).bind (Sum.elim (fun d100 =>
bif (decide ((2 : Int) ≤ (IntKind.i64.wrap (d100.2.1 - d100.2.2.2.1)))) then
((iterN (qca n) n (d100.1, d100.2.1, (), d100.2.2.2.1, d100.2.2.2.2.1, (IntKind.i64.wrap (d100.2.2.2.1 + (1 : Int))), d100.2.2.2.2.2.1, ())).bind (Sum.elim (fun d101 =>
some (.inr (.inl (d101.1, d101.2.1, (), d101.2.2.2.1, d101.2.2.2.2.1, d101.2.2.2.2.2.1, ())))) nof))
else
(some (.inr (.inl (d100.1, d100.2.1, (), d100.2.2.2.1, d100.2.2.2.2.1, d100.2.2.2.2.2.1, ()))))) nof)))) nof) : Option ((Bool × (List (List Int)) × Unit) ⊕ ((Int × Int × Unit × Int × Int × (List (List Int)) × Unit) ⊕ Empty))).bind (Sum.elim (fun d103 =>
some (.inr (.inl (d103.1, d103.2.1, ())))) (Sum.elim (fun d102 =>
some (.inl (d102.1, d102.2.1, (), d102.2.2.2.1, (IntKind.i64.wrap (d102.2.2.2.2.1 + (1 : Int))), d102.2.2.2.2.2.1, ()))) nof)))
else
(some (.inr (.inr (.inl (data0, ())))))
noncomputable def qce (n : Nat) (d : (Int × Int × Unit × Int × Int × (List (List Int)) × Unit)) : Option ((Int × Int × Unit × Int × Int × (List (List Int)) × Unit) ⊕ ((Bool × (List (List Int)) × Unit) ⊕ (((List (List Int)) × Unit) ⊕ Empty))) := qcd n d.1 d.2.1 d.2.2.1 d.2.2.2.1 d.2.2.2.2.1 d.2.2.2.2.2.1
noncomputable def qcf (n : Nat) (a1 : Int) (b2 : Int) (datao0 : (List (List Int))) : Option ((Bool × Unit) × ((List (List Int)) × Unit)) :=
(iterN (qce n) n (a1, b2, (), (IntKind.i64.wrap (a1 + (1 : Int))), (0 : Int), datao0, ())).bind (Sum.elim (fun d107 =>
some ((d107.1, ()), (d107.2.1, ()))) (Sum.elim (fun d106 =>
some ((false, ()), (d106.1, ()))) nof))
/-! "slices.partitionEqualCmpFunc[commodatum/api.Perm]" -/
noncomputable def qcg (n : Nat) (a1 : Int) (cmp4 : Unit) (i11 : Int) (j12 : Int) (data0 : (List (List Int))) : Option ((Int × Unit × Int × Int × (List (List Int)) × Unit) ⊕ ((Int × Unit × Int × Int × (List (List Int)) × Unit) ⊕ Empty)) :=
(bif (decide (i11 ≤ j12)) then
((idx data0 a1).bind fun v37 =>
(idx data0 j12).bind fun v38 =>
(qbh n v37 v38).bind fun r39 =>
some (.inl (a1, (), i11, j12, (decide (r39.1 < (0 : Int))), data0, ())))
else
(some (.inl (a1, (), i11, j12, false, data0, ()))) : Option ((Int × Unit × Int × Int × Bool × (List (List Int)) × Unit) ⊕ Empty)).bind (Sum.elim (fun d40 =>
bif d40.2.2.2.2.1 then
(some (.inl (d40.1, (), d40.2.2.1, (IntKind.i64.wrap (d40.2.2.2.1 - (1 : Int))), d40.2.2.2.2.2.1, ())))
else
(some (.inr (.inl (d40.1, (), d40.2.2.1, d40.2.2.2.1, d40.2.2.2.2.2.1, ()))))) nof)
noncomputable def qch (n : Nat) (d : (Int × Unit × Int × Int × (List (List Int)) × Unit)) : Option ((Int × Unit × Int × Int × (List (List Int)) × Unit) ⊕ ((Int × Unit × Int × Int × (List (List Int)) × Unit) ⊕ Empty)) := qcg n d.1 d.2.1 d.2.2.1 d.2.2.2.1 d.2.2.2.2.1
noncomputable def qci (n : Nat) (a1 : Int) (cmp4 : Unit) (i11 : Int) (j12 : Int) (data0 : (List (List Int))) : Option ((Int × Unit × Int × Int × (List (List Int)) × Unit) ⊕ ((Int × Unit × Int × Int × (List (List Int)) × Unit) ⊕ Empty)) :=
(bif (decide (i11 ≤ j12)) then
((idx data0 a1).bind fun v20 =>
(idx data0 i11).bind fun v21 =>
(qbh n v20 v21).bind fun r22 =>
some (.inl (a1, (), i11, j12, (!(decide (r22.1 < (0 : Int)))), data0, ())))
else
(some (.inl (a1, (), i11, j12, false, data0, ()))) : Option ((Int × Unit × Int × Int × Bool × (List (List Int)) × Unit) ⊕ Empty)).bind (Sum.elim (fun d23 =>
bif d23.2.2.2.2.1 then
(some (.inl (d23.1, (), (IntKind.i64.wrap (d23.2.2.1 + (1 : Int))), d23.2.2.2.1, d23.2.2.2.2.2.1, ())))
else
(some (.inr (.inl (d23.1, (), d23.2.2.1, d23.2.2.2.1, d23.2.2.2.2.2.1, ()))))) nof)
noncomputable def qcj (n : Nat) (d : (Int × Unit × Int × Int × (List (List Int)) × Unit)) : Option ((Int × Unit × Int × Int × (List (List Int)) × Unit) ⊕ ((Int × Unit × Int × Int × (List (List Int)) × Unit) ⊕ Empty)) := qci n d.1 d.2.1 d.2.2.1 d.2.2.2.1 d.2.2.2.2.1
noncomputable def qck (n : Nat) (a1 : Int) (cmp4 : Unit) (i11 : Int) (j12 : Int) (data0 : (List (List Int))) : Option ((Int × Unit × Int × Int × (List (List Int)) × Unit) ⊕ ((Int × (List (List Int)) × Unit) ⊕ Empty)) :=
(iterN (qcj n) n (a1, (), i11, j12, data0, ())).bind (Sum.elim (fun d51 =>
(iterN (qch n) n (d51.1, (), d51.2.2.1, d51.2.2.2.1, d51.2.2.2.2.1, ())).bind (Sum.elim (fun d52 =>
bif (decide (d52.2.2.2.1 < d52.2.2.1)) then
(some (.inr (.inl (d52.2.2.1, d52.2.2.2.2.1, ()))))
else
((idx d52.2.2.2.2.1 d52.2.2.2.1).bind fun v53 =>
(idx d52.2.2.2.2.1 d52.2.2.1).bind fun v54 =>
(idx d52.2.2.2.2.1 d52.2.2.1).bind fun v55 =>
(idx (List.set d52.2.2.2.2.1 (d52.2.2.1).toNat v53) d52.2.2.2.1).bind fun v56 =>
some (.inl (d52.1, (), (IntKind.i64.wrap (d52.2.2.1 + (1 : Int))), (IntKind.i64.wrap (d52.2.2.2.1 - (1 : Int))), (List.set (List.set d52.2.2.2.2.1 (d52.2.2.1).toNat v53) (d52.2.2.2.1).toNat v54), ())))) nof)) nof)
noncomputable def qcl (n : Nat) (d : (Int × Unit × Int × Int × (List (List Int)) × Unit)) : Option ((Int × Unit × Int × Int × (List (List Int)) × Unit) ⊕ ((Int × (List (List Int)) × Unit) ⊕ Empty)) := qck n d.1 d.2.1 d.2.2.1 d.2.2.2.1 d.2.2.2.2.1
noncomputable def qcm (n : Nat) (a1 : Int) (b2 : Int) (pivot3 : Int) (datao0 : (List (List Int))) : Option ((Int × Unit) × ((List (List Int)) × Unit)) :=
(idx datao0 pivot3).bind fun v5 =>
(idx datao0 a1).bind fun v6 =>
(idx datao0 a1).bind fun v7 =>
(idx (List.set datao0 (a1).toNat v5) pivot3).bind fun v8 =>
(iterN (qcl n) n (a1, (), (IntKind.i64.wrap (a1 + (1 : Int))), (IntKind.i64.wrap (b2 - (1 : Int))), (List.set (List.set datao0 (a1).toNat v5) (pivot3).toNat v6), ())).bind (Sum.elim (fun d58 =>
some ((d58.1, ()), (d58.2.1, ()))) nof)
/-! "slices.partitionCmpFunc[commodatum/api.Perm]" -/
noncomputable def qcn (n : Nat) (a1 : Int) (cmp4 : Unit) (i12 : Int) (j13 : Int) (data0 : (List (List Int))) : Option ((Int × Unit × Int × Int × (List (List Int)) × Unit) ⊕ ((Int × Unit × Int × Int × (List (List Int)) × Unit) ⊕ Empty)) :=
(bif (decide (i12 ≤ j13)) then
((idx data0 j13).bind fun v91 =>
(idx data0 a1).bind fun v92 =>
(qbh n v91 v92).bind fun r93 =>
some (.inl (a1, (), i12, j13, (!(decide (r93.1 < (0 : Int)))), data0, ())))
else
(some (.inl (a1, (), i12, j13, false, data0, ()))) : Option ((Int × Unit × Int × Int × Bool × (List (List Int)) × Unit) ⊕ Empty)).bind (Sum.elim (fun d94 =>
bif d94.2.2.2.2.1 then
(some (.inl (d94.1, (), d94.2.2.1, (IntKind.i64.wrap (d94.2.2.2.1 - (1 : Int))), d94.2.2.2.2.2.1, ())))
else
(some (.inr (.inl (d94.1, (), d94.2.2.1, d94.2.2.2.1, d94.2.2.2.2.2.1, ()))))) nof)
noncomputable def qco (n : Nat) (d : (Int × Unit × Int × Int × (List (List Int)) × Unit)) : Option ((Int × Unit × Int × Int × (List (List Int)) × Unit) ⊕ ((Int × Unit × Int × Int × (List (List Int)) × Unit) ⊕ Empty)) := qcn n d.1 d.2.1 d.2.2.1 d.2.2.2.1 d.2.2.2.2.1
noncomputable def qcp (n : Nat) (a1 : Int) (cmp4 : Unit) (i12 : Int) (j13 : Int) (data0 : (List (List Int))) : Option ((Int × Unit × Int × Int × (List (List Int)) × Unit) ⊕ ((Int × Unit × Int × Int × (List (List Int)) × Unit) ⊕ Empty)) :=
(bif (decide (i12 ≤ j13)) then
((idx data0 i12).bind fun v74 =>
(idx data0 a1).bind fun v75 =>
(qbh n v74 v75).bind fun r76 =>
some (.inl (a1, (), i12, j13, (decide (r76.1 < (0 : Int))), data0, ())))
else
(some (.inl (a1, (), i12, j13, false, data0, ()))) : Option ((Int × Unit × Int × Int × Bool × (List (List Int)) × Unit) ⊕ Empty)).bind (Sum.elim (fun d77 =>
bif d77.2.2.2.2.1 then
(some (.inl (d77.1, (), (IntKind.i64.wrap (d77.2.2.1 + (1 : Int))), d77.2.2.2.1, d77.2.2.2.2.2.1, ())))
else
(some (.inr (.inl (d77.1, (), d77.2.2.1, d77.2.2.2.1, d77.2.2.2.2.2.1, ()))))) nof)
noncomputable def qcq (n : Nat) (d : (Int × Unit × Int × Int × (List (List Int)) × Unit)) : Option ((Int × Unit × Int × Int × (List (List Int)) × Unit) ⊕ ((Int × Unit × Int × Int × (List (List Int)) × Unit) ⊕ Empty)) := qcp n d.1 d.2.1 d.2.2.1 d.2.2.2.1 d.2.2.2.2.1
noncomputable def qcr (n : Nat) (a1 : Int) (cmp4 : Unit) (i12 : Int) (j13 : Int) (data0 : (List (List Int))) : Option ((Int × Unit × Int × Int × (List (List Int)) × Unit) ⊕ ((Int × Int × (List (List Int)) × Unit) ⊕ Empty)) :=
(iterN (qcq n) n (a1, (), i12, j13, data0, ())).bind (Sum.elim (fun d105 =>
(iterN (qco n) n (d105.1, (), d105.2.2.1, d105.2.2.2.1, d105.2.2.2.2.1, ())).bind (Sum.elim (fun d106 =>
bif (decide (d106.2.2.2.1 < d106.2.2.1)) then
(some (.inr (.inl (d106.1, d106.2.2.2.1, d106.2.2.2.2.1, ()))))
else
((idx d106.2.2.2.2.1 d106.2.2.2.1).bind fun v107 =>
(idx d106.2.2.2.2.1 d106.2.2.1).bind fun v108 =>
(idx d106.2.2.2.2.1 d106.2.2.1).bind fun v109 =>
(idx (List.set d106.2.2.2.2.1 (d106.2.2.1).toNat v107) d106.2.2.2.1).bind fun v110 =>
some (.inl (d106.1, (), (IntKind.i64.wrap (d106.2.2.1 + (1 : Int))), (IntKind.i64.wrap (d106.2.2.2.1 - (1 : Int))), (List.set (List.set d106.2.2.2.2.1 (d106.2.2.1).toNat v107) (d106.2.2.2.1).toNat v108), ())))) nof)) nof)
noncomputable def qcs (n : Nat) (d : (Int × Unit × Int × Int × (List (List Int)) × Unit)) : Option ((Int × Unit × Int × Int × (List (List Int)) × Unit) ⊕ ((Int × Int × (List (List Int)) × Unit) ⊕ Empty)) := qcr n d.1 d.2.1 d.2.2.1 d.2.2.2.1 d.2.2.2.2.1
noncomputable def qct (n : Nat) (a1 : Int) (cmp4 : Unit) (i12 : Int) (j13 : Int) (data0 : (List (List Int))) : Option ((Int × Unit × Int × Int × (List (List Int)) × Unit) ⊕ ((Int × Unit × Int × Int × (List (List Int)) × Unit) ⊕ Empty)) :=
(bif (decide (i12 ≤ j13)) then
((idx data0 j13).bind fun v37 =>
(idx data0 a1).bind fun v38 =>
(qbh n v37 v38).bind fun r39 =>
some (.inl (a1, (), i12, j13, (!(decide (r39.1 < (0 : Int)))), data0, ())))
else
(some (.inl (a1, (), i12, j13, false, data0, ()))) : Option ((Int × Unit × Int × Int × Bool × (List (List Int)) × Unit) ⊕ Empty)).bind (Sum.elim (fun d40 =>
bif d40.2.2.2.2.1 then
(some (.inl (d40.1, (), d40.2.2.1, (IntKind.i64.wrap (d40.2.2.2.1 - (1 : Int))), d40.2.2.2.2.2.1, ())))
else
(some (.inr (.inl (d40.1, (), d40.2.2.1, d40.2.2.2.1, d40.2.2.2.2.2.1, ()))))) nof)
noncomputable def qcu (n : Nat) (d : (Int × Unit × Int × Int × (List (List Int)) × Unit)) : Option ((Int × Unit × Int × Int × (List (List Int)) × Unit) ⊕ ((Int × Unit × Int × Int × (List (List Int)) × Unit) ⊕ Empty)) := qct n d.1 d.2.1 d.2.2.1 d.2.2.2.1 d.2.2.2.2.1
noncomputable def qcv (n : Nat) (a1 : Int) (cmp4 : Unit) (i12 : Int) (j13 : Int) (data0 : (List (List Int))) : Option ((Int × Unit × Int × Int × (List (List Int)) × Unit) ⊕ ((Int × Unit × Int × Int × (List (List Int)) × Unit) ⊕ Empty)) :=
(bif (decide (i12 ≤ j13)) then
((idx data0 i12).bind fun v20 =>
(idx data0 a1).bind fun v21 =>
(qbh n v20 v21).bind fun r22 =>
some (.inl (a1, (), i12, j13, (decide (r22.1 < (0 : Int))), data0, ())))
else
(some (.inl (a1, (), i12, j13, false, data0, ()))) : Option ((Int × Unit × Int × Int × Bool × (List (List Int)) × Unit) ⊕ Empty)).bind (Sum.elim (fun d23 =>
bif d23.2.2.2.2.1 then
(some (.inl (d23.1, (), (IntKind.i64.wrap (d23.2.2.1 + (1 : Int))), d23.2.2.2.1, d23.2.2.2.2.2.1, ())))
else
(some (.inr (.inl (d23.1, (), d23.2.2.1, d23.2.2.2.1, d23.2.2.2.2.2.1, ()))))) nof)
noncomputable def qcw (n : Nat) (d : (Int × Unit × Int × Int × (List (List Int)) × Unit)) : Option ((Int × Unit × Int × Int × (List (List Int)) × Unit) ⊕ ((Int × Unit × Int × Int × (List (List Int)) × Unit) ⊕ Empty)) := qcv n d.1 d.2.1 d.2.2.1 d.2.2.2.1 d.2.2.2.2.1
noncomputable def qcx (n : Nat) (a1 : Int) (b2 : Int) (pivot3 : Int) (datao0 : (List (List Int))) : Option ((Int × (Bool × Unit)) × ((List (List Int)) × Unit)) :=
(idx datao0 pivot3).bind fun v5 =>
(idx datao0 a1).bind fun v6 =>
(idx datao0 a1).bind fun v7 =>
(idx (List.set datao0 (a1).toNat v5) pivot3).bind fun v8 =>
(iterN (qcw n) n (a1, (), (IntKind.i64.wrap (a1 + (1 : Int))), (IntKind.i64.wrap (b2 - (1 : Int))), (List.set (List.set datao0 (a1).toNat v5) (pivot3).toNat v6), ())).bind (Sum.elim (fun d25 =>
(iterN (qcu n) n (d25.1, (), d25.2.2.1, d25.2.2.2.1, d25.2.2.2.2.1, ())).bind (Sum.elim (fun d42 =>
bif (decide (d42.2.2.2.1 < d42.2.2.1)) then
((idx d42.2.2.2.2.1 d42.1).bind fun v51 =>
(idx d42.2.2.2.2.1 d42.2.2.2.1).bind fun v52 =>
(idx d42.2.2.2.2.1 d42.2.2.2.1).bind fun v53 =>
(idx (List.set d42.2.2.2.2.1 (d42.2.2.2.1).toNat v51) d42.1).bind fun v54 =>
some ((d42.2.2.2.1, (true, ())), ((List.set (List.set d42.2.2.2.2.1 (d42.2.2.2.1).toNat v51) (d42.1).toNat v52), ())))
else
((idx d42.2.2.2.2.1 d42.2.2.2.1).bind fun v59 =>
(idx d42.2.2.2.2.1 d42.2.2.1).bind fun v60 =>
(idx d42.2.2.2.2.1 d42.2.2.1).bind fun v61 =>
(idx (List.set d42.2.2.2.2.1 (d42.2.2.1).toNat v59) d42.2.2.2.1).bind fun v62 =>
(iterN (qcs n) n (d42.1, (), (IntKind.i64.wrap (d42.2.2.1 + (1 : Int))), (IntKind.i64.wrap (d42.2.2.2.1 - (1 : Int))), (List.set (List.set d42.2.2.2.2.1 (d42.2.2.1).toNat v59) (d42.2.2.2.1).toNat v60), ())).bind (Sum.elim (fun d112 =>
(idx d112.2.2.1 d112.1).bind fun v117 =>
(idx d112.2.2.1 d112.2.1).bind fun v118 =>
(idx d112.2.2.1 d112.2.1).bind fun v119 =>
(idx (List.set d112.2.2.1 (d112.2.1).toNat v117) d112.1).bind fun v120 =>
some ((d112.2.1, (false, ())), ((List.set (List.set d112.2.2.1 (d112.2.1).toNat v117) (d112.1).toNat v118), ()))) nof))) nof)) nof)
/-! "slices.pdqsortCmpFunc[commodatum/api.Perm]" -/
noncomputable def qcy (self_slices_pdqsortCmpFunc_api_Perm__group_sorted_1 : Int → Int → Int → (List (List Int)) → Option (Unit × ((List (List Int)) × Unit))) (n : Nat) (a1 : Int) (b2 : Int) (limit3 : Int) (cmp4 : Unit) (wasBalanced10 : Bool) (wasPartitioned11 : Bool) (data0 : (List (List Int))) : Option ((Int × Int × Int × Unit × Bool × Bool × (List (List Int)) × Unit) ⊕ (((List (List Int)) × Unit) ⊕ Empty)) :=
bif (decide ((IntKind.i64.wrap (b2 - a1)) ≤ (12 : Int))) then
((qbm n a1 b2 data0).bind fun r42 =>
some (.inr (.inl (r42.2.1, ()))))
else
(bif (decide (limit3 = (0 : Int))) then
((qbu n a1 b2 data0).bind fun r43 =>
some (.inr (.inl (r43.2.1, ()))))
else
((bif (!wasBalanced10) then
((qbz n a1 b2 data0).bind fun r44 =>
some (.inl (a1, b2, (IntKind.i64.wrap (limit3 - (1 : Int))), (), wasBalanced10, wasPartitioned11, (IntKind.i64.wrap (b2 - a1)), r44.2.1, ())))
else
(some (.inl (a1, b2, limit3, (), wasBalanced10, wasPartitioned11, (IntKind.i64.wrap (b2 - a1)), data0, ()))) : Option ((Int × Int × Int × Unit × Bool × Bool × Int × (List (List Int)) × Unit) ⊕ Empty)).bind (Sum.elim (fun d45 =>
(qb3 n d45.2.2.2.2.2.2.2.1 d45.1 d45.2.1).bind fun r46 =>
(bif (decide (r46.2.1 = (2 : Int))) then
((qb6 n d45.1 d45.2.1 d45.2.2.2.2.2.2.2.1).bind fun r47 =>
some (.inl (d45.1, d45.2.1, d45.2.2.1, (), d45.2.2.2.2.1, d45.2.2.2.2.2.1, d45.2.2.2.2.2.2.1, (IntKind.i64.wrap ((IntKind.i64.wrap (d45.2.1 - (1 : Int))) - (IntKind.i64.wrap (r46.1 - d45.1)))), (1 : Int), r47.2.1, ())))
else
(some (.inl (d45.1, d45.2.1, d45.2.2.1, (), d45.2.2.2.2.1, d45.2.2.2.2.2.1, d45.2.2.2.2.2.2.1, r46.1, r46.2.1, d45.2.2.2.2.2.2.2.1, ()))) : Option ((Int × Int × Int × Unit × Bool × Bool × Int × Int × Int × (List (List Int)) × Unit) ⊕ Empty)).bind (Sum.elim (fun d48 =>
((bif d48.2.2.2.2.1 then
(bif d48.2.2.2.2.2.1 then
(some (.inl (d48.1, d48.2.1, d48.2.2.1, (), d48.2.2.2.2.1, d48.2.2.2.2.2.1, d48.2.2.2.2.2.2.1, d48.2.2.2.2.2.2.2.1, (decide (d48.2.2.2.2.2.2.2.2.1 = (1 : Int))), d48.2.2.2.2.2.2.2.2.2.1, ())))
else
(some (.inl (d48.1, d48.2.1, d48.2.2.1, (), d48.2.2.2.2.1, d48.2.2.2.2.2.1, d48.2.2.2.2.2.2.1, d48.2.2.2.2.2.2.2.1, false, d48.2.2.2.2.2.2.2.2.2.1, ()))))
else
(some (.inl (d48.1, d48.2.1, d48.2.2.1, (), d48.2.2.2.2.1, d48.2.2.2.2.2.1, d48.2.2.2.2.2.2.1, d48.2.2.2.2.2.2.2.1, false, d48.2.2.2.2.2.2.2.2.2.1, ()))) : Option ((Int × Int × Int × Unit × Bool × Bool × Int × Int × Bool × (List (List Int)) × Unit) ⊕ Empty)).bind (Sum.elim (fun d49 =>
bif d49.2.2.2.2.2.2.2.2.1 then
((qcf n d49.1 d49.2.1 d49.2.2.2.2.2.2.2.2.2.1).bind fun r50 =>
bif r50.1.1 then
(some (.inl (r50.2.1, ())))
else
(some (.inr (.inl (d49.1, d49.2.1, d49.2.2.1, (), d49.2.2.2.2.1, d49.2.2.2.2.2.1, d49.2.2.2.2.2.2.1, d49.2.2.2.2.2.2.2.1, r50.2.1, ())))))
else
(some (.inr (.inl (d49.1, d49.2.1, d49.2.2.1, (), d49.2.2.2.2.1, d49.2.2.2.2.2.1, d49.2.2.2.2.2.2.1, d49.2.2.2.2.2.2.2.1, d49.2.2.2.2.2.2.2.2.2.1, ()))))) nof) : Option (((List (List Int)) × Unit) ⊕ ((Int × Int × Int × Unit × Bool × Bool × Int × Int × (List (List Int)) × Unit) ⊕ Empty))).bind (Sum.elim (fun d60 =>
some (.inr (.inl (d60.1, ())))) (Sum.elim (fun d51 =>
(bif (decide ((0 : Int) < d51.1)) then
((idx d51.2.2.2.2.2.2.2.2.1 (IntKind.i64.wrap (d51.1 - (1 : Int)))).bind fun v52 =>
(idx d51.2.2.2.2.2.2.2.2.1 d51.2.2.2.2.2.2.2.1).bind fun v53 =>
(qbh n v52 v53).bind fun r54 =>
some (.inl (d51.1, d51.2.1, d51.2.2.1, (), d51.2.2.2.2.1, d51.2.2.2.2.2.1, d51.2.2.2.2.2.2.1, d51.2.2.2.2.2.2.2.1, (!(decide (r54.1 < (0 : Int)))), d51.2.2.2.2.2.2.2.2.1, ())))
else
(some (.inl (d51.1, d51.2.1, d51.2.2.1, (), d51.2.2.2.2.1, d51.2.2.2.2.2.1, d51.2.2.2.2.2.2.1, d51.2.2.2.2.2.2.2.1, false, d51.2.2.2.2.2.2.2.2.1, ()))) : Option ((Int × Int × Int × Unit × Bool × Bool × Int × Int × Bool × (List (List Int)) × Unit) ⊕ Empty)).bind (Sum.elim (fun d55 =>
bif d55.2.2.2.2.2.2.2.2.1 then
((qcm n d55.1 d55.2.1 d55.2.2.2.2.2.2.2.1 d55.2.2.2.2.2.2.2.2.2.1).bind fun r56 =>
some (.inl (r56.1.1, d55.2.1, d55.2.2.1, (), d55.2.2.2.2.1, d55.2.2.2.2.2.1, r56.2.1, ())))
else
((qcx n d55.1 d55.2.1 d55.2.2.2.2.2.2.2.1 d55.2.2.2.2.2.2.2.2.2.1).bind fun r57 =>
bif decide ((8 : Int) = 0) then none else
bif (decide ((IntKind.i64.wrap (r57.1.1 - d55.1)) < (IntKind.i64.wrap (d55.2.1 - r57.1.1)))) then
((self_slices_pdqsortCmpFunc_api_Perm__group_sorted_1 d55.1 r57.1.1 d55.2.2.1 r57.2.1).bind fun r58 =>
some (.inl ((IntKind.i64.wrap (r57.1.1 + (1 : Int))), d55.2.1, d55.2.2.1, (), (decide ((IntKind.i64.wrap (Int.tdiv d55.2.2.2.2.2.2.1 (8 : Int))) ≤ (IntKind.i64.wrap (r57.1.1 - d55.1)))), r57.1.2.1, r58.2.1, ())))
else
((self_slices_pdqsortCmpFunc_api_Perm__group_sorted_1 (IntKind.i64.wrap (r57.1.1 + (1 : Int))) d55.2.1 d55.2.2.1 r57.2.1).bind fun r59 =>
some (.inl (d55.1, r57.1.1, d55.2.2.1, (), (decide ((IntKind.i64.wrap (Int.tdiv d55.2.2.2.2.2.2.1 (8 : Int))) ≤ (IntKind.i64.wrap (d55.2.1 - r57.1.1)))), r57.1.2.1, r59.2.1, ()))))) nof)) nof))) nof)) nof)))
noncomputable def qcz (self_slices_pdqsortCmpFunc_api_Perm__group_sorted_1 : Int → Int → Int → (List (List Int)) → Option (Unit × ((List (List Int)) × Unit))) (n : Nat) (d : (Int × Int × Int × Unit × Bool × Bool × (List (List Int)) × Unit)) : Option ((Int × Int × Int × Unit × Bool × Bool × (List (List Int)) × Unit) ⊕ (((List (List Int)) × Unit) ⊕ Empty)) := qcy self_slices_pdqsortCmpFunc_api_Perm__group_sorted_1 n d.1 d.2.1 d.2.2.1 d.2.2.2.1 d.2.2.2.2.1 d.2.2.2.2.2.1 d.2.2.2.2.2.2.1
noncomputable def qc0 (self_slices_pdqsortCmpFunc_api_Perm__group_sorted_1 : Int → Int → Int → (List (List Int)) → Option (Unit × ((List (List Int)) × Unit))) (n : Nat) (a1 : Int) (b2 : Int) (limit3 : Int) (datao0 : (List (List Int))) : Option (Unit × ((List (List Int)) × Unit)) :=
(iterN (qcz self_slices_pdqsortCmpFunc_api_Perm__group_sorted_1 n) n (a1, b2, limit3, (), true, true, datao0, ())).bind (Sum.elim (fun d61 =>
some ((), (d61.1, ()))) nof)
noncomputable def qc1 : Nat → Int → Int → Int → (List (List Int)) → Option (Unit × ((List (List Int)) × Unit))
  | 0 => fun _ _ _ _ => none
  | n + 1 => qc0 (qc1 n) n
/-! "slices.SortFunc[[]commodatum/api.Perm,commodatum/api.Perm]" -/
noncomputable def qc2 (n : Nat) (xo0 : (List (List Int))) : Option (Unit × ((List (List Int)) × Unit)) :=
(qbb n (IntKind.u64.wrap (xo0.length : Int))).bind fun r1 =>
(qc1 n (0 : Int) (xo0.length : Int) r1.1 xo0).bind fun r2 =>
some ((), (r2.2.1, ()))
/-! "commodatum/group.sorted" -/
noncomputable def qc3 (n : Nat) (lo0 : (List (List Int))) : Option ((List (List Int)) × Unit) :=
(qc2 n lo0).bind fun r2 =>
some (r2.2.1, ())
/-! "commodatum/group.closed" -/
noncomputable def qc4 (n : Nat) (gens0 : (List (List Int))) : Option ((List (List Int)) × Unit) :=
(idx gens0 (0 : Int)).bind fun v1 =>
(qa9 n (v1.length : Int) (gens0, ())).bind fun r2 =>
(qc3 n r2.1).bind fun r3 =>
some (r3.1, ())
/-! "slices.Clone[commodatum/api.Perm,int]" -/
noncomputable def qc5 (n : Nat) (nb : Bool) (s0 : (List Int)) : Option ((List Int) × Unit) :=
bif nb then
(some (([] : (List Int)), ()))
else
(chk (lenB ((([] : (List Int))).length + (s0).length)) (some ((([] : (List Int)) ++ s0), ())))
noncomputable def qc6 (n : Nat) (s0 : (List Int)) : Option ((List Int) × Unit) := qc5 n false s0
/-! "commodatum/group.copied" -/
noncomputable def qc7 (n : Nat) (t6 : (List (List Int))) (t7 : Int) (t8 : Int) (out3 : (List (List Int))) : Option (((List (List Int)) × Int × Int × (List (List Int)) × Unit) ⊕ (((List (List Int)) × Unit) ⊕ Empty)) :=
bif (decide (t8 < t7)) then
((idx t6 t8).bind fun v6 =>
(qc6 n v6).bind fun r7 =>
chk (lenB ((out3).length + ([r7.1]).length)) (some (.inl (t6, t7, (IntKind.i64.wrap (t8 + (1 : Int))), (out3 ++ [r7.1]), ()))))
else
(some (.inr (.inl (out3, ()))))
noncomputable def qc8 (n : Nat) (d : ((List (List Int)) × Int × Int × (List (List Int)) × Unit)) : Option (((List (List Int)) × Int × Int × (List (List Int)) × Unit) ⊕ (((List (List Int)) × Unit) ⊕ Empty)) := qc7 n d.1 d.2.1 d.2.2.1 d.2.2.2.1
noncomputable def qc9 (n : Nat) (l0 : (List (List Int))) : Option ((List (List Int)) × Unit) :=
(iterN (qc8 n) n (l0, (l0.length : Int), (0 : Int), ([] : (List (List Int))), ())).bind (Sum.elim (fun d9 =>
some (d9.1, ())) nof)
/-! "commodatum/group.Close" -/
noncomputable def qda (n : Nat) (gens0 : (List (List Int))) : Option ((List (List Int)) × (Int × Unit)) :=
(qal n gens0).bind fun r3 =>
bif (!r3.1) then
(some (([] : (List (List Int))), ((1 : Int), ())))
else
((qc4 n gens0).bind fun r4 =>
(qc9 n r4.1).bind fun r5 =>
some (r5.1, ((0 : Int), ())))
/-! "commodatum/group.Valid" -/
noncomputable def qdb (n : Nat) (l0 : (List (List Int))) (t8 : Int) (t9 : Int) : Option (((List (List Int)) × Int × Int × Unit) ⊕ ((Bool × Unit) ⊕ (((List (List Int)) × Unit) ⊕ Empty))) :=
bif (decide (t9 < t8)) then
((bif (decide ((0 : Int) < t9)) then
((idx l0 (IntKind.i64.wrap (t9 - (1 : Int)))).bind fun v15 =>
(idx l0 t9).bind fun v16 =>
(qbg n v15 v16).bind fun r17 =>
some (.inl (l0, t8, t9, (decide ((0 : Int) ≤ r17.1)), ())))
else
(some (.inl (l0, t8, t9, false, ()))) : Option (((List (List Int)) × Int × Int × Bool × Unit) ⊕ Empty)).bind (Sum.elim (fun d18 =>
bif d18.2.2.2.1 then
(some (.inr (.inl (false, ()))))
else
(some (.inl (d18.1, d18.2.1, (IntKind.i64.wrap (d18.2.2.1 + (1 : Int))), ())))) nof))
else
(some (.inr (.inr (.inl (l0, ())))))
noncomputable def qdc (n : Nat) (d : ((List (List Int)) × Int × Int × Unit)) : Option (((List (List Int)) × Int × Int × Unit) ⊕ ((Bool × Unit) ⊕ (((List (List Int)) × Unit) ⊕ Empty))) := qdb n d.1 d.2.1 d.2.2.1
noncomputable def qdd (n : Nat) (l0 : (List (List Int))) : Option (Bool × Unit) :=
(qal n l0).bind fun r3 =>
bif (!r3.1) then
(some (false, ()))
else
((iterN (qdc n) n (l0, (l0.length : Int), (0 : Int), ())).bind (Sum.elim (fun d23 =>
some (d23.1, ())) (Sum.elim (fun d21 =>
(qc4 n d21.1).bind fun r22 =>
some ((decide ((r22.1.length : Int) = (d21.1.length : Int))), ())) nof)))
/-! "commodatum/group.closed$1" -/
noncomputable def qde (n : Nat) (yield0 : (Unit × (Unit × (Unit × Unit)))) (t6 : Int) (t7 : Int) (c0 : (Option (List ((List Int) × Bool)))) (c1 : (List (List Int))) (c2 : (List (List Int))) (t5 : (List (List Int))) : Option (((Unit × (Unit × (Unit × Unit))) × Int × Int × (Option (List ((List Int) × Bool))) × (List (List Int)) × (List (List Int)) × (List (List Int)) × Unit) ⊕ (((Option (List ((List Int) × Bool))) × (List (List Int)) × (List (List Int)) × (List (List Int)) × Unit) ⊕ Empty)) :=
bif (decide (t7 < t6)) then
((idx t5 t7).bind fun v6 =>
(qa5 n v6 c0 c1 c2).bind fun r7 =>
some (.inl (((), ((), ((), ()))), t6, (IntKind.i64.wrap (t7 + (1 : Int))), r7.2.1, r7.2.2.1, r7.2.2.2.1, t5, ())))
else
(some (.inr (.inl (c0, c1, c2, t5, ()))))
noncomputable def qdf (n : Nat) (d : ((Unit × (Unit × (Unit × Unit))) × Int × Int × (Option (List ((List Int) × Bool))) × (List (List Int)) × (List (List Int)) × (List (List Int)) × Unit)) : Option (((Unit × (Unit × (Unit × Unit))) × Int × Int × (Option (List ((List Int) × Bool))) × (List (List Int)) × (List (List Int)) × (List (List Int)) × Unit) ⊕ (((Option (List ((List Int) × Bool))) × (List (List Int)) × (List (List Int)) × (List (List Int)) × Unit) ⊕ Empty)) := qde n d.1 d.2.1 d.2.2.1 d.2.2.2.1 d.2.2.2.2.1 d.2.2.2.2.2.1 d.2.2.2.2.2.2.1
noncomputable def qdg (n : Nat) (co0 : (Option (List ((List Int) × Bool)))) (co1 : (List (List Int))) (co2 : (List (List Int))) (co3 : (List (List Int))) : Option (Unit × ((Option (List ((List Int) × Bool))) × (List (List Int)) × (List (List Int)) × (List (List Int)) × Unit)) :=
(iterN (qdf n) n (((), ((), ((), ()))), (co3.length : Int), (0 : Int), co0, co1, co2, co3, ())).bind (Sum.elim (fun d8 =>
some ((), (d8.1, (d8.2.1, (d8.2.2.1, (d8.2.2.2.1, ())))))) nof)
/-! "commodatum/group.grown" -/
noncomputable def qdh (n : Nat) (n0 : Int) (co0 : (List (List Int))) : Option (((List (List Int)) × Unit) × ((List (List Int)) × Unit)) :=
(qap n n0).bind fun r2 =>
(qax n [r2.1]).bind fun r4 =>
(qdg n r4.1 ([] : (List (List Int))) [r2.1] co0).bind fun r6 =>
some ((r6.2.2.2.1, ()), (r6.2.2.2.2.1, ()))
/-! "commodatum/group.closed" -/
noncomputable def qdi (n : Nat) (genso0 : (List (List Int))) : Option (((List (List Int)) × Unit) × ((List (List Int)) × Unit)) :=
(idx genso0 (0 : Int)).bind fun v1 =>
(qdh n (v1.length : Int) genso0).bind fun r2 =>
(qc3 n r2.1.1).bind fun r3 =>
some ((r3.1, ()), (r2.2.1, ()))
/-! "commodatum/group.few" -/
noncomputable def qdj (n : Nat) (all6 : (Option (List ((List Int) × Bool)))) (t21 : (List (List Int))) (t22 : Int) (t23 : Int) (out5 : (List (List Int))) : Option (((Option (List ((List Int) × Bool))) × (List (List Int)) × Int × Int × (List (List Int)) × Unit) ⊕ (((List (List Int)) × Unit) ⊕ Empty)) :=
bif (decide (t23 < t22)) then
(((idx t21 t23).bind fun v18 =>
(qau n v18).bind fun r19 =>
bif (!(((all6).bind fun l => mget (.arr 7 (.int .i8)) l r19.1).getD false)) then
(chk (lenB ((out5).length + ([v18]).length)) ((qdi n (out5 ++ [v18])).bind fun r20 =>
(qax n r20.1.1).bind fun r21 =>
some (.inl (r21.1, t21, t22, t23, r20.2.1, ()))))
else
(some (.inl (all6, t21, t22, t23, out5, ()))) : Option (((Option (List ((List Int) × Bool))) × (List (List Int)) × Int × Int × (List (List Int)) × Unit) ⊕ Empty)).bind (Sum.elim (fun d22 =>
some (.inl (d22.1, d22.2.1, d22.2.2.1, (IntKind.i64.wrap (d22.2.2.2.1 + (1 : Int))), d22.2.2.2.2.1, ()))) nof))
else
(some (.inr (.inl (out5, ()))))
noncomputable def qdk (n : Nat) (d : ((Option (List ((List Int) × Bool))) × (List (List Int)) × Int × Int × (List (List Int)) × Unit)) : Option (((Option (List ((List Int) × Bool))) × (List (List Int)) × Int × Int × (List (List Int)) × Unit) ⊕ (((List (List Int)) × Unit) ⊕ Empty)) := qdj n d.1 d.2.1 d.2.2.1 d.2.2.2.1 d.2.2.2.2.1
noncomputable def qdl (n : Nat) (l0 : (List (List Int))) : Option ((List (List Int)) × Unit) :=
(idx l0 (0 : Int)).bind fun v3 =>
(qap n (v3.length : Int)).bind fun r4 =>
(qax n [r4.1]).bind fun r6 =>
(iterN (qdk n) n (r6.1, l0, (l0.length : Int), (0 : Int), [r4.1], ())).bind (Sum.elim (fun d24 =>
some (d24.1, ())) nof)
/-! "commodatum/group.inverse" -/
noncomputable def qdm (n : Nat) (t9 : (List Int)) (t10 : Int) (t11 : Int) (out3 : (List Int)) : Option (((List Int) × Int × Int × (List Int) × Unit) ⊕ (((List Int) × Unit) ⊕ Empty)) :=
bif (decide (t11 < t10)) then
((idx t9 t11).bind fun v6 =>
(idx out3 v6).bind fun v7 =>
some (.inl (t9, t10, (IntKind.i64.wrap (t11 + (1 : Int))), (List.set out3 (v6).toNat t11), ())))
else
(some (.inr (.inl (out3, ()))))
noncomputable def qdn (n : Nat) (d : ((List Int) × Int × Int × (List Int) × Unit)) : Option (((List Int) × Int × Int × (List Int) × Unit) ⊕ (((List Int) × Unit) ⊕ Empty)) := qdm n d.1 d.2.1 d.2.2.1 d.2.2.2.1
noncomputable def qdo (n : Nat) (p0 : (List Int)) : Option ((List Int) × Unit) :=
chk (decide (0 ≤ (p0.length : Int))) (chk (decide ((p0.length : Int) ≤ (p0.length : Int))) (chk (lenB ((p0.length : Int)).toNat) ((iterN (qdn n) n (p0, (p0.length : Int), (0 : Int), (List.replicate ((p0.length : Int)).toNat (0 : Int)), ())).bind (Sum.elim (fun d9 =>
some (d9.1, ())) nof))))
/-! "commodatum/group.commutator" -/
noncomputable def qdp (n : Nat) (p0 : (List Int)) (q1 : (List Int)) : Option ((List Int) × Unit) :=
(qdo n p0).bind fun r1 =>
(qdo n q1).bind fun r2 =>
(qa0 n r1.1 r2.1).bind fun r3 =>
(qa0 n p0 q1).bind fun r4 =>
(qa0 n r3.1 r4.1).bind fun r5 =>
some (r5.1, ())
/-! "commodatum/group.conjugate" -/
noncomputable def qdq (n : Nat) (p0 : (List Int)) (c1 : (List Int)) : Option ((List Int) × Unit) :=
(qdo n c1).bind fun r1 =>
(qa0 n r1.1 p0).bind fun r2 =>
(qa0 n r2.1 c1).bind fun r3 =>
some (r3.1, ())
/-! "commodatum/group.derived$1" -/
noncomputable def qdr (n : Nat) (yield0 : (Unit × (Unit × (Unit × Unit)))) (t1 : (List (List Int))) (t2 : (List (List Int))) (p5 : (List Int)) (c8 : (List Int)) (t11 : (List (List Int))) (t12 : Int) (t13 : Int) (t17 : (List (List Int))) (t18 : Int) (t19 : Int) (t26 : (List (List Int))) (t27 : Int) (t28 : Int) (c0 : (Option (List ((List Int) × Bool)))) (c1 : (List (List Int))) (c2 : (List (List Int))) : Option (((Unit × (Unit × (Unit × Unit))) × (List (List Int)) × (List (List Int)) × (List Int) × (List Int) × (List (List Int)) × Int × Int × (List (List Int)) × Int × Int × (List (List Int)) × Int × Int × (Option (List ((List Int) × Bool))) × (List (List Int)) × (List (List Int)) × Unit) ⊕ (((Unit × (Unit × (Unit × Unit))) × (List (List Int)) × (List (List Int)) × (List Int) × (List (List Int)) × Int × Int × (List (List Int)) × Int × Int × (Option (List ((List Int) × Bool))) × (List (List Int)) × (List (List Int)) × Unit) ⊕ Empty)) :=
bif (decide (t28 < t27)) then
((idx t26 t28).bind fun v14 =>
(qdq n c8 v14).bind fun r15 =>
(qa5 n r15.1 c0 c1 c2).bind fun r16 =>
some (.inl (((), ((), ((), ()))), t1, t2, p5, c8, t11, t12, t13, t17, t18, t19, t26, t27, (IntKind.i64.wrap (t28 + (1 : Int))), r16.2.1, r16.2.2.1, r16.2.2.2.1, ())))
else
(some (.inr (.inl (((), ((), ((), ()))), t1, t2, p5, t11, t12, t13, t17, t18, t19, c0, c1, c2, ()))))
noncomputable def qds (n : Nat) (d : ((Unit × (Unit × (Unit × Unit))) × (List (List Int)) × (List (List Int)) × (List Int) × (List Int) × (List (List Int)) × Int × Int × (List (List Int)) × Int × Int × (List (List Int)) × Int × Int × (Option (List ((List Int) × Bool))) × (List (List Int)) × (List (List Int)) × Unit)) : Option (((Unit × (Unit × (Unit × Unit))) × (List (List Int)) × (List (List Int)) × (List Int) × (List Int) × (List (List Int)) × Int × Int × (List (List Int)) × Int × Int × (List (List Int)) × Int × Int × (Option (List ((List Int) × Bool))) × (List (List Int)) × (List (List Int)) × Unit) ⊕ (((Unit × (Unit × (Unit × Unit))) × (List (List Int)) × (List (List Int)) × (List Int) × (List (List Int)) × Int × Int × (List (List Int)) × Int × Int × (Option (List ((List Int) × Bool))) × (List (List Int)) × (List (List Int)) × Unit) ⊕ Empty)) := qdr n d.1 d.2.1 d.2.2.1 d.2.2.2.1 d.2.2.2.2.1 d.2.2.2.2.2.1 d.2.2.2.2.2.2.1 d.2.2.2.2.2.2.2.1 d.2.2.2.2.2.2.2.2.1 d.2.2.2.2.2.2.2.2.2.1 d.2.2.2.2.2.2.2.2.2.2.1 d.2.2.2.2.2.2.2.2.2.2.2.1 d.2.2.2.2.2.2.2.2.2.2.2.2.1 d.2.2.2.2.2.2.2.2.2.2.2.2.2.1 d.2.2.2.2.2.2.2.2.2.2.2.2.2.2.1 d.2.2.2.2.2.2.2.2.2.2.2.2.2.2.2.1 d.2.2.2.2.2.2.2.2.2.2.2.2.2.2.2.2.1
noncomputable def qdt (n : Nat) (yield0 : (Unit × (Unit × (Unit × Unit)))) (t1 : (List (List Int))) (t2 : (List (List Int))) (p5 : (List Int)) (t11 : (List (List Int))) (t12 : Int) (t13 : Int) (t17 : (List (List Int))) (t18 : Int) (t19 : Int) (c0 : (Option (List ((List Int) × Bool)))) (c1 : (List (List Int))) (c2 : (List (List Int))) : Option (((Unit × (Unit × (Unit × Unit))) × (List (List Int)) × (List (List Int)) × (List Int) × (List (List Int)) × Int × Int × (List (List Int)) × Int × Int × (Option (List ((List Int) × Bool))) × (List (List Int)) × (List (List Int)) × Unit) ⊕ (((Unit × (Unit × (Unit × Unit))) × (List (List Int)) × (List (List Int)) × (List (List Int)) × Int × Int × (Option (List ((List Int) × Bool))) × (List (List Int)) × (List (List Int)) × Unit) ⊕ Empty)) :=
bif (decide (t19 < t18)) then
((idx t17 t19).bind fun v21 =>
(qdp n p5 v21).bind fun r22 =>
(iterN (qds n) n (((), ((), ((), ()))), t1, t2, p5, r22.1, t11, t12, t13, t17, t18, t19, t2, (t2.length : Int), (0 : Int), c0, c1, c2, ())).bind (Sum.elim (fun d23 =>
some (.inl (((), ((), ((), ()))), d23.2.1, d23.2.2.1, d23.2.2.2.1, d23.2.2.2.2.1, d23.2.2.2.2.2.1, d23.2.2.2.2.2.2.1, d23.2.2.2.2.2.2.2.1, d23.2.2.2.2.2.2.2.2.1, (IntKind.i64.wrap (d23.2.2.2.2.2.2.2.2.2.1 + (1 : Int))), d23.2.2.2.2.2.2.2.2.2.2.1, d23.2.2.2.2.2.2.2.2.2.2.2.1, d23.2.2.2.2.2.2.2.2.2.2.2.2.1, ()))) nof))
else
(some (.inr (.inl (((), ((), ((), ()))), t1, t2, t11, t12, t13, c0, c1, c2, ()))))
noncomputable def qdu (n : Nat) (d : ((Unit × (Unit × (Unit × Unit))) × (List (List Int)) × (List (List Int)) × (List Int) × (List (List Int)) × Int × Int × (List (List Int)) × Int × Int × (Option (List ((List Int) × Bool))) × (List (List Int)) × (List (List Int)) × Unit)) : Option (((Unit × (Unit × (Unit × Unit))) × (List (List Int)) × (List (List Int)) × (List Int) × (List (List Int)) × Int × Int × (List (List Int)) × Int × Int × (Option (List ((List Int) × Bool))) × (List (List Int)) × (List (List Int)) × Unit) ⊕ (((Unit × (Unit × (Unit × Unit))) × (List (List Int)) × (List (List Int)) × (List (List Int)) × Int × Int × (Option (List ((List Int) × Bool))) × (List (List Int)) × (List (List Int)) × Unit) ⊕ Empty)) := qdt n d.1 d.2.1 d.2.2.1 d.2.2.2.1 d.2.2.2.2.1 d.2.2.2.2.2.1 d.2.2.2.2.2.2.1 d.2.2.2.2.2.2.2.1 d.2.2.2.2.2.2.2.2.1 d.2.2.2.2.2.2.2.2.2.1 d.2.2.2.2.2.2.2.2.2.2.1 d.2.2.2.2.2.2.2.2.2.2.2.1 d.2.2.2.2.2.2.2.2.2.2.2.2.1
noncomputable def qdv (n : Nat) (yield0 : (Unit × (Unit × (Unit × Unit)))) (t1 : (List (List Int))) (t2 : (List (List Int))) (t11 : (List (List Int))) (t12 : Int) (t13 : Int) (c0 : (Option (List ((List Int) × Bool)))) (c1 : (List (List Int))) (c2 : (List (List Int))) : Option (((Unit × (Unit × (Unit × Unit))) × (List (List Int)) × (List (List Int)) × (List (List Int)) × Int × Int × (Option (List ((List Int) × Bool))) × (List (List Int)) × (List (List Int)) × Unit) ⊕ (((Option (List ((List Int) × Bool))) × (List (List Int)) × (List (List Int)) × Unit) ⊕ Empty)) :=
bif (decide (t13 < t12)) then
((idx t11 t13).bind fun v27 =>
(iterN (qdu n) n (((), ((), ((), ()))), t1, t2, v27, t11, t12, t13, t1, (t1.length : Int), (0 : Int), c0, c1, c2, ())).bind (Sum.elim (fun d28 =>
some (.inl (((), ((), ((), ()))), d28.2.1, d28.2.2.1, d28.2.2.2.1, d28.2.2.2.2.1, (IntKind.i64.wrap (d28.2.2.2.2.2.1 + (1 : Int))), d28.2.2.2.2.2.2.1, d28.2.2.2.2.2.2.2.1, d28.2.2.2.2.2.2.2.2.1, ()))) nof))
else
(some (.inr (.inl (c0, c1, c2, ()))))
noncomputable def qdw (n : Nat) (d : ((Unit × (Unit × (Unit × Unit))) × (List (List Int)) × (List (List Int)) × (List (List Int)) × Int × Int × (Option (List ((List Int) × Bool))) × (List (List Int)) × (List (List Int)) × Unit)) : Option (((Unit × (Unit × (Unit × Unit))) × (List (List Int)) × (List (List Int)) × (List (List Int)) × Int × Int × (Option (List ((List Int) × Bool))) × (List (List Int)) × (List (List Int)) × Unit) ⊕ (((Option (List ((List Int) × Bool))) × (List (List Int)) × (List (List Int)) × Unit) ⊕ Empty)) := qdv n d.1 d.2.1 d.2.2.1 d.2.2.2.1 d.2.2.2.2.1 d.2.2.2.2.2.1 d.2.2.2.2.2.2.1 d.2.2.2.2.2.2.2.1 d.2.2.2.2.2.2.2.2.1
noncomputable def qdx (n : Nat) (x1 : (List (List Int))) (x2 : (List (List Int))) (co0 : (Option (List ((List Int) × Bool)))) (co1 : (List (List Int))) (co2 : (List (List Int))) : Option (Unit × ((Option (List ((List Int) × Bool))) × (List (List Int)) × (List (List Int)) × Unit)) :=
(iterN (qdw n) n (((), ((), ((), ()))), x1, x2, x1, (x1.length : Int), (0 : Int), co0, co1, co2, ())).bind (Sum.elim (fun d29 =>
some ((), (d29.1, (d29.2.1, (d29.2.2.1, ()))))) nof)
/-! "commodatum/group.grown" -/
noncomputable def qdy (n : Nat) (n0 : Int) (add1 : ((List (List Int)) × ((List (List Int)) × Unit))) : Option ((List (List Int)) × Unit) :=
(qap n n0).bind fun r2 =>
(qax n [r2.1]).bind fun r4 =>
(qdx n add1.1 add1.2.1 r4.1 ([] : (List (List Int))) [r2.1]).bind fun r6 =>
some (r6.2.2.2.1, ())
/-! "commodatum/group.derived" -/
noncomputable def qdz (n : Nat) (l0 : (List (List Int))) : Option ((List (List Int)) × Unit) :=
(qdl n l0).bind fun r2 =>
(idx l0 (0 : Int)).bind fun v3 =>
(qdy n (v3.length : Int) (r2.1, (l0, ()))).bind fun r4 =>
(qc3 n r4.1).bind fun r5 =>
some (r5.1, ())
/-! "commodatum/group.Derived" -/
noncomputable def qd0 (n : Nat) (l0 : (List (List Int))) : Option ((List (List Int)) × (Int × Unit)) :=
(qdd n l0).bind fun r3 =>
bif (!r3.1) then
(some (([] : (List (List Int))), ((1 : Int), ())))
else
((qdz n l0).bind fun r4 =>
(qc9 n r4.1).bind fun r5 =>
some (r5.1, ((0 : Int), ())))
/-! "commodatum/group.Series" -/
noncomputable def qd1 (n : Nat) (l0 : (List (List Int))) (out4 : (List (List (List Int)))) : Option (((List (List Int)) × (List (List (List Int))) × Unit) ⊕ (((List (List (List Int))) × Int × Unit) ⊕ Empty)) :=
(qdz n l0).bind fun r9 =>
bif (decide ((r9.1.length : Int) = (l0.length : Int))) then
(some (.inr (.inl (out4, (0 : Int), ()))))
else
((qc9 n r9.1).bind fun r10 =>
chk (lenB ((out4).length + ([r10.1]).length)) (some (.inl (r9.1, (out4 ++ [r10.1]), ()))))
noncomputable def qd2 (n : Nat) (d : ((List (List Int)) × (List (List (List Int))) × Unit)) : Option (((List (List Int)) × (List (List (List Int))) × Unit) ⊕ (((List (List (List Int))) × Int × Unit) ⊕ Empty)) := qd1 n d.1 d.2.1
noncomputable def qd3 (n : Nat) (l0 : (List (List Int))) : Option ((List (List (List Int))) × (Int × Unit)) :=
(qdd n l0).bind fun r3 =>
bif (!r3.1) then
(some (([] : (List (List (List Int)))), ((1 : Int), ())))
else
((qc9 n l0).bind fun r5 =>
(iterN (qd2 n) n (l0, [r5.1], ())).bind (Sum.elim (fun d11 =>
some (d11.1, (d11.2.1, ()))) nof))
/-! "commodatum/commodatumref01.Same" -/
noncomputable def qd4 (n : Nat) (p0 : (List Int)) (q1 : (List Int)) (i5 : Int) : Option (((List Int) × (List Int) × Int × Unit) ⊕ ((Bool × Unit) ⊕ ((Unit) ⊕ Empty))) :=
bif (decide (i5 < (p0.length : Int))) then
((idx p0 i5).bind fun v7 =>
(idx q1 i5).bind fun v8 =>
bif (!decide (v7 = v8)) then
(some (.inr (.inl (false, ()))))
else
(some (.inl (p0, q1, (IntKind.i64.wrap (i5 + (1 : Int))), ()))))
else
(some (.inr (.inr (.inl (())))))
noncomputable def qd5 (n : Nat) (d : ((List Int) × (List Int) × Int × Unit)) : Option (((List Int) × (List Int) × Int × Unit) ⊕ ((Bool × Unit) ⊕ ((Unit) ⊕ Empty))) := qd4 n d.1 d.2.1 d.2.2.1
noncomputable def qd6 (n : Nat) (p0 : (List Int)) (q1 : (List Int)) : Option (Bool × Unit) :=
bif (!decide ((p0.length : Int) = (q1.length : Int))) then
(some (false, ()))
else
((iterN (qd5 n) n (p0, q1, (0 : Int), ())).bind (Sum.elim (fun d12 =>
some (d12.1, ())) (Sum.elim (fun d11 =>
some (true, ())) nof)))
/-! "commodatum/commodatumref02.Same" -/
noncomputable def qd7 (n : Nat) (a0 : (List (List Int))) (b1 : (List (List Int))) (i5 : Int) : Option (((List (List Int)) × (List (List Int)) × Int × Unit) ⊕ ((Bool × Unit) ⊕ ((Unit) ⊕ Empty))) :=
bif (decide (i5 < (a0.length : Int))) then
((idx a0 i5).bind fun v10 =>
(idx b1 i5).bind fun v11 =>
(qd6 n v10 v11).bind fun r12 =>
bif (!r12.1) then
(some (.inr (.inl (false, ()))))
else
(some (.inl (a0, b1, (IntKind.i64.wrap (i5 + (1 : Int))), ()))))
else
(some (.inr (.inr (.inl (())))))
noncomputable def qd8 (n : Nat) (d : ((List (List Int)) × (List (List Int)) × Int × Unit)) : Option (((List (List Int)) × (List (List Int)) × Int × Unit) ⊕ ((Bool × Unit) ⊕ ((Unit) ⊕ Empty))) := qd7 n d.1 d.2.1 d.2.2.1
noncomputable def qd9 (n : Nat) (a0 : (List (List Int))) (b1 : (List (List Int))) : Option (Bool × Unit) :=
bif (!decide ((a0.length : Int) = (b1.length : Int))) then
(some (false, ()))
else
((iterN (qd8 n) n (a0, b1, (0 : Int), ())).bind (Sum.elim (fun d16 =>
some (d16.1, ())) (Sum.elim (fun d15 =>
some (true, ())) nof)))
/-! "commodatum/commodatumlaw02.alive" -/
noncomputable def qea (n : Nat)  : Option (Bool × Unit) :=
(qda n ([[(1 : Int), (2 : Int), (3 : Int), (4 : Int), (0 : Int)], [(1 : Int), (2 : Int), (0 : Int), (3 : Int), (4 : Int)]])).bind fun r2 =>
(qd0 n r2.1).bind fun r4 =>
(qda n ([[(1 : Int), (2 : Int), (3 : Int), (0 : Int)], [(1 : Int), (0 : Int), (2 : Int), (3 : Int)]])).bind fun r6 =>
(qd3 n r6.1).bind fun r8 =>
bif (decide (r2.2.1 = (0 : Int))) then
(bif (decide (r4.2.1 = (0 : Int))) then
(bif (decide (r6.2.1 = (0 : Int))) then
(bif (decide (r8.2.1 = (0 : Int))) then
(bif (decide ((r2.1.length : Int) = (60 : Int))) then
((qd9 n r2.1 r4.1).bind fun r9 =>
bif r9.1 then
(bif (decide ((r8.1.length : Int) = (4 : Int))) then
((idx r8.1 (0 : Int)).bind fun v10 =>
bif (decide ((v10.length : Int) = (24 : Int))) then
((idx r8.1 (1 : Int)).bind fun v11 =>
bif (decide ((v11.length : Int) = (12 : Int))) then
((idx r8.1 (2 : Int)).bind fun v12 =>
bif (decide ((v12.length : Int) = (4 : Int))) then
((idx r8.1 (3 : Int)).bind fun v13 =>
some ((decide ((v13.length : Int) = (1 : Int))), ()))
else
(some (false, ())))
else
(some (false, ())))
else
(some (false, ())))
else
(some (false, ())))
else
(some (false, ())))
else
(some (false, ())))
else
(some (false, ())))
else
(some (false, ())))
else
(some (false, ())))
else
(some (false, ()))
/-! "commodatum/commodatumref01.Valid" -/
noncomputable def qeb (n : Nat) (p0 : (List Int)) (i3 : Int) (k4 : Int) : Option (((List Int) × Int × Int × Unit) ⊕ ((Bool × Unit) ⊕ (((List Int) × Int × Unit) ⊕ Empty))) :=
bif (decide (k4 < i3)) then
((idx p0 k4).bind fun v17 =>
(idx p0 i3).bind fun v18 =>
bif (decide (v17 = v18)) then
(some (.inr (.inl (false, ()))))
else
(some (.inl (p0, i3, (IntKind.i64.wrap (k4 + (1 : Int))), ()))))
else
(some (.inr (.inr (.inl (p0, i3, ())))))
noncomputable def qec (n : Nat) (d : ((List Int) × Int × Int × Unit)) : Option (((List Int) × Int × Int × Unit) ⊕ ((Bool × Unit) ⊕ (((List Int) × Int × Unit) ⊕ Empty))) := qeb n d.1 d.2.1 d.2.2.1
noncomputable def qed (n : Nat) (p0 : (List Int)) (i3 : Int) : Option (((List Int) × Int × Unit) ⊕ ((Bool × Unit) ⊕ ((Unit) ⊕ Empty))) :=
bif (decide (i3 < (p0.length : Int))) then
(((idx p0 i3).bind fun v26 =>
bif (decide (v26 < (0 : Int))) then
(some (.inl (p0, i3, true, ())))
else
((idx p0 i3).bind fun v27 =>
some (.inl (p0, i3, (decide ((p0.length : Int) ≤ v27)), ()))) : Option (((List Int) × Int × Bool × Unit) ⊕ Empty)).bind (Sum.elim (fun d28 =>
bif d28.2.2.1 then
(some (.inr (.inl (false, ()))))
else
((iterN (qec n) n (d28.1, d28.2.1, (0 : Int), ())).bind (Sum.elim (fun d30 =>
some (.inr (.inl (d30.1, ())))) (Sum.elim (fun d29 =>
some (.inl (d29.1, (IntKind.i64.wrap (d29.2.1 + (1 : Int))), ()))) nof)))) nof))
else
(some (.inr (.inr (.inl (())))))
noncomputable def qee (n : Nat) (d : ((List Int) × Int × Unit)) : Option (((List Int) × Int × Unit) ⊕ ((Bool × Unit) ⊕ ((Unit) ⊕ Empty))) := qed n d.1 d.2.1
noncomputable def qef (n : Nat) (p0 : (List Int)) : Option (Bool × Unit) :=
(bif (decide ((p0.length : Int) < (1 : Int))) then
(some (.inl (p0, true, ())))
else
(some (.inl (p0, (decide ((7 : Int) < (p0.length : Int))), ()))) : Option (((List Int) × Bool × Unit) ⊕ Empty)).bind (Sum.elim (fun d2 =>
bif d2.2.1 then
(some (false, ()))
else
((iterN (qee n) n (d2.1, (0 : Int), ())).bind (Sum.elim (fun d34 =>
some (d34.1, ())) (Sum.elim (fun d33 =>
some (true, ())) nof)))) nof)
/-! "commodatum/commodatumref01.Alike" -/
noncomputable def qeg (n : Nat) (p0 : (List Int)) (q1 : (List Int)) : Option (Int × Unit) :=
((qef n p0).bind fun r6 =>
bif (!r6.1) then
(some (.inl (p0, q1, true, ())))
else
((qef n q1).bind fun r7 =>
some (.inl (p0, q1, (!r7.1), ()))) : Option (((List Int) × (List Int) × Bool × Unit) ⊕ Empty)).bind (Sum.elim (fun d8 =>
bif d8.2.2.1 then
(some ((1 : Int), ()))
else
(bif (!decide ((d8.1.length : Int) = (d8.2.1.length : Int))) then
(some ((2 : Int), ()))
else
(some ((0 : Int), ())))) nof)
/-! "commodatum/commodatumref02.Generators" -/
noncomputable def qeh (n : Nat) (l0 : (List (List Int))) (i3 : Int) : Option (((List (List Int)) × Int × Unit) ⊕ ((Bool × Unit) ⊕ ((Unit) ⊕ Empty))) :=
bif (decide (i3 < (l0.length : Int))) then
((idx l0 (0 : Int)).bind fun v12 =>
(idx l0 i3).bind fun v13 =>
(qeg n v12 v13).bind fun r14 =>
bif (!decide (r14.1 = (0 : Int))) then
(some (.inr (.inl (false, ()))))
else
(some (.inl (l0, (IntKind.i64.wrap (i3 + (1 : Int))), ()))))
else
(some (.inr (.inr (.inl (())))))
noncomputable def qei (n : Nat) (d : ((List (List Int)) × Int × Unit)) : Option (((List (List Int)) × Int × Unit) ⊕ ((Bool × Unit) ⊕ ((Unit) ⊕ Empty))) := qeh n d.1 d.2.1
noncomputable def qej (n : Nat) (l0 : (List (List Int))) : Option (Bool × Unit) :=
(bif (decide ((l0.length : Int) < (1 : Int))) then
(some (.inl (l0, true, ())))
else
(some (.inl (l0, (decide ((5040 : Int) < (l0.length : Int))), ()))) : Option (((List (List Int)) × Bool × Unit) ⊕ Empty)).bind (Sum.elim (fun d2 =>
bif d2.2.1 then
(some (false, ()))
else
((iterN (qei n) n (d2.1, (0 : Int), ())).bind (Sum.elim (fun d18 =>
some (d18.1, ())) (Sum.elim (fun d17 =>
some (true, ())) nof)))) nof)
/-! "commodatum/commodatumref01.Factorial" -/
noncomputable def qek (self_ref01_Factorial : Int → Option (Int × Unit)) (n : Nat) (n0 : Int) : Option (Int × Unit) :=
bif (decide (n0 < (2 : Int))) then
(some ((1 : Int), ()))
else
((self_ref01_Factorial (IntKind.i64.wrap (n0 - (1 : Int)))).bind fun r1 =>
some ((IntKind.i64.wrap (n0 * r1.1)), ()))
noncomputable def qel : Nat → Int → Option (Int × Unit)
  | 0 => fun _ => none
  | n + 1 => qek (qel n) n
/-! "commodatum/commodatumref01.Rank" -/
noncomputable def qem (n : Nat) (p0 : (List Int)) (r3 : Int) (i4 : Int) (less5 : Int) (k6 : Int) : Option (((List Int) × Int × Int × Int × Int × Unit) ⊕ (((List Int) × Int × Int × Int × Unit) ⊕ Empty)) :=
bif (decide (k6 < (p0.length : Int))) then
(((idx p0 k6).bind fun v8 =>
(idx p0 i4).bind fun v9 =>
bif (decide (v8 < v9)) then
(some (.inl (p0, r3, i4, (IntKind.i64.wrap (less5 + (1 : Int))), k6, ())))
else
(some (.inl (p0, r3, i4, less5, k6, ()))) : Option (((List Int) × Int × Int × Int × Int × Unit) ⊕ Empty)).bind (Sum.elim (fun d10 =>
some (.inl (d10.1, d10.2.1, d10.2.2.1, d10.2.2.2.1, (IntKind.i64.wrap (d10.2.2.2.2.1 + (1 : Int))), ()))) nof))
else
(some (.inr (.inl (p0, r3, i4, less5, ()))))
noncomputable def qen (n : Nat) (d : ((List Int) × Int × Int × Int × Int × Unit)) : Option (((List Int) × Int × Int × Int × Int × Unit) ⊕ (((List Int) × Int × Int × Int × Unit) ⊕ Empty)) := qem n d.1 d.2.1 d.2.2.1 d.2.2.2.1 d.2.2.2.2.1
noncomputable def qeo (n : Nat) (p0 : (List Int)) (r3 : Int) (i4 : Int) : Option (((List Int) × Int × Int × Unit) ⊕ ((Int × Unit) ⊕ Empty)) :=
bif (decide (i4 < (p0.length : Int))) then
((iterN (qen n) n (p0, r3, i4, (0 : Int), (IntKind.i64.wrap (i4 + (1 : Int))), ())).bind (Sum.elim (fun d16 =>
(qel n (IntKind.i64.wrap ((IntKind.i64.wrap ((d16.1.length : Int) - (1 : Int))) - d16.2.2.1))).bind fun r17 =>
some (.inl (d16.1, (IntKind.i64.wrap (d16.2.1 + (IntKind.i64.wrap (d16.2.2.2.1 * r17.1)))), (IntKind.i64.wrap (d16.2.2.1 + (1 : Int))), ()))) nof))
else
(some (.inr (.inl (r3, ()))))
noncomputable def qep (n : Nat) (d : ((List Int) × Int × Int × Unit)) : Option (((List Int) × Int × Int × Unit) ⊕ ((Int × Unit) ⊕ Empty)) := qeo n d.1 d.2.1 d.2.2.1
noncomputable def qeq (n : Nat) (p0 : (List Int)) : Option (Int × Unit) :=
(iterN (qep n) n (p0, (0 : Int), (0 : Int), ())).bind (Sum.elim (fun d19 =>
some (d19.1, ())) nof)
/-! "commodatum/commodatumref02.SetOf" -/
noncomputable def qer (n : Nat) (l1 : (List (List Int))) (i6 : Int) (t4 : (Int × ((List Bool) × Unit))) (s5 : (Int × ((List Bool) × Unit))) : Option (((List (List Int)) × Int × (Int × ((List Bool) × Unit)) × (Int × ((List Bool) × Unit)) × Unit) ⊕ (((Int × ((List Bool) × Unit)) × (Int × ((List Bool) × Unit)) × Unit) ⊕ Empty)) :=
bif (decide (i6 < (l1.length : Int))) then
((idx l1 i6).bind fun v9 =>
(qeq n v9).bind fun r10 =>
(idx s5.2.1 r10.1).bind fun v11 =>
some (.inl (l1, (IntKind.i64.wrap (i6 + (1 : Int))), t4, (s5.1, ((List.set s5.2.1 (r10.1).toNat true), s5.2.2)), ())))
else
(some (.inr (.inl (t4, s5, ()))))
noncomputable def qes (n : Nat) (d : ((List (List Int)) × Int × (Int × ((List Bool) × Unit)) × (Int × ((List Bool) × Unit)) × Unit)) : Option (((List (List Int)) × Int × (Int × ((List Bool) × Unit)) × (Int × ((List Bool) × Unit)) × Unit) ⊕ (((Int × ((List Bool) × Unit)) × (Int × ((List Bool) × Unit)) × Unit) ⊕ Empty)) := qer n d.1 d.2.1 d.2.2.1 d.2.2.2.1
noncomputable def qet (n : Nat) (n0 : Int) (l1 : (List (List Int))) : Option ((Int × ((List Bool) × Unit)) × Unit) :=
(qel n n0).bind fun r2 =>
chk (decide (0 ≤ r2.1)) (chk (decide (r2.1 ≤ r2.1)) (chk (lenB (r2.1).toNat) ((iterN (qes n) n (l1, (0 : Int), ((0 : Int), (([] : (List Bool)), ())), (n0, ((List.replicate (r2.1).toNat false), ())), ())).bind (Sum.elim (fun d13 =>
some (d13.2.1, ())) nof))))
/-! "commodatum/commodatumref01.Identity" -/
noncomputable def qeu (n : Nat) (n0 : Int) (i4 : Int) (p3 : (List Int)) : Option ((Int × Int × (List Int) × Unit) ⊕ (((List Int) × Unit) ⊕ Empty)) :=
bif (decide (i4 < n0)) then
((idx p3 i4).bind fun v3 =>
some (.inl (n0, (IntKind.i64.wrap (i4 + (1 : Int))), (List.set p3 (i4).toNat i4), ())))
else
(some (.inr (.inl (p3, ()))))
noncomputable def qev (n : Nat) (d : (Int × Int × (List Int) × Unit)) : Option ((Int × Int × (List Int) × Unit) ⊕ (((List Int) × Unit) ⊕ Empty)) := qeu n d.1 d.2.1 d.2.2.1
noncomputable def qew (n : Nat) (n0 : Int) : Option ((List Int) × Unit) :=
chk (decide (0 ≤ n0)) (chk (decide (n0 ≤ n0)) (chk (lenB (n0).toNat) ((iterN (qev n) n (n0, (0 : Int), (List.replicate (n0).toNat (0 : Int)), ())).bind (Sum.elim (fun d5 =>
some (d5.1, ())) nof))))
/-! "commodatum/commodatumref01.Mul" -/
noncomputable def qex (n : Nat) (p0 : (List Int)) (q1 : (List Int)) (i6 : Int) (r5 : (List Int)) : Option (((List Int) × (List Int) × Int × (List Int) × Unit) ⊕ (((List Int) × Unit) ⊕ Empty)) :=
bif (decide (i6 < (p0.length : Int))) then
((idx p0 i6).bind fun v7 =>
(idx q1 v7).bind fun v8 =>
(idx r5 i6).bind fun v9 =>
some (.inl (p0, q1, (IntKind.i64.wrap (i6 + (1 : Int))), (List.set r5 (i6).toNat v8), ())))
else
(some (.inr (.inl (r5, ()))))
noncomputable def qey (n : Nat) (d : ((List Int) × (List Int) × Int × (List Int) × Unit)) : Option (((List Int) × (List Int) × Int × (List Int) × Unit) ⊕ (((List Int) × Unit) ⊕ Empty)) := qex n d.1 d.2.1 d.2.2.1 d.2.2.2.1
noncomputable def qez (n : Nat) (p0 : (List Int)) (q1 : (List Int)) : Option ((List Int) × Unit) :=
chk (decide (0 ≤ (p0.length : Int))) (chk (decide ((p0.length : Int) ≤ (p0.length : Int))) (chk (lenB ((p0.length : Int)).toNat) ((iterN (qey n) n (p0, q1, (0 : Int), (List.replicate ((p0.length : Int)).toNat (0 : Int)), ())).bind (Sum.elim (fun d11 =>
some (d11.1, ())) nof))))
/-! "commodatum/commodatumref01.Unrank" -/
noncomputable def qe0 (n : Nat) (n0 : Int) (rank1 : Int) (rest5 : (List Int)) (i7 : Int) (p6 : (List Int)) : Option ((Int × Int × (List Int) × Int × (List Int) × Unit) ⊕ (((List Int) × Unit) ⊕ Empty)) :=
bif (decide (i7 < n0)) then
((qel n (IntKind.i64.wrap ((IntKind.i64.wrap (n0 - (1 : Int))) - i7))).bind fun r9 =>
bif decide (r9.1 = 0) then none else
bif decide (r9.1 = 0) then none else
(idx rest5 (IntKind.i64.wrap (Int.tdiv rank1 r9.1))).bind fun v10 =>
chk (lenB ((p6).length + ([v10]).length)) (chk (decide (0 ≤ (0 : Int))) (chk (decide ((0 : Int) ≤ (IntKind.i64.wrap (Int.tdiv rank1 r9.1)))) (chk (decide ((IntKind.i64.wrap (Int.tdiv rank1 r9.1)) ≤ (rest5.length : Int))) (chk (lenB ((([] : (List Int))).length + ((subs rest5 0 ((IntKind.i64.wrap (Int.tdiv rank1 r9.1))).toNat)).length)) (chk (decide (0 ≤ (IntKind.i64.wrap ((IntKind.i64.wrap (Int.tdiv rank1 r9.1)) + (1 : Int))))) (chk (decide ((IntKind.i64.wrap ((IntKind.i64.wrap (Int.tdiv rank1 r9.1)) + (1 : Int))) ≤ (rest5.length : Int))) (chk (decide ((rest5.length : Int) ≤ (rest5.length : Int))) (chk (lenB (((([] : (List Int)) ++ (subs rest5 0 ((IntKind.i64.wrap (Int.tdiv rank1 r9.1))).toNat))).length + ((subs rest5 ((IntKind.i64.wrap ((IntKind.i64.wrap (Int.tdiv rank1 r9.1)) + (1 : Int)))).toNat ((rest5.length : Int)).toNat)).length)) (some (.inl (n0, (Int.tmod rank1 r9.1), ((([] : (List Int)) ++ (subs rest5 0 ((IntKind.i64.wrap (Int.tdiv rank1 r9.1))).toNat)) ++ (subs rest5 ((IntKind.i64.wrap ((IntKind.i64.wrap (Int.tdiv rank1 r9.1)) + (1 : Int)))).toNat ((rest5.length : Int)).toNat)), (IntKind.i64.wrap (i7 + (1 : Int))), (p6 ++ [v10]), ()))))))))))))
else
(some (.inr (.inl (p6, ()))))
noncomputable def qe1 (n : Nat) (d : (Int × Int × (List Int) × Int × (List Int) × Unit)) : Option ((Int × Int × (List Int) × Int × (List Int) × Unit) ⊕ (((List Int) × Unit) ⊕ Empty)) := qe0 n d.1 d.2.1 d.2.2.1 d.2.2.2.1 d.2.2.2.2.1
noncomputable def qe2 (n : Nat) (n0 : Int) (rank1 : Int) : Option ((List Int) × Unit) :=
(qew n n0).bind fun r2 =>
(iterN (qe1 n) n (n0, rank1, r2.1, (0 : Int), ([] : (List Int)), ())).bind (Sum.elim (fun d12 =>
some (d12.1, ())) nof)
/-! "commodatum/commodatumref02.List" -/
noncomputable def qe3 (n : Nat) (s1 : (Int × ((List Bool) × Unit))) (i4 : Int) (out3 : (List (List Int))) : Option (((Int × ((List Bool) × Unit)) × Int × (List (List Int)) × Unit) ⊕ (((List (List Int)) × Unit) ⊕ Empty)) :=
bif (decide (i4 < (s1.2.1.length : Int))) then
(((idx s1.2.1 i4).bind fun v7 =>
bif v7 then
((qe2 n s1.1 i4).bind fun r8 =>
chk (lenB ((out3).length + ([r8.1]).length)) (some (.inl (s1, i4, (out3 ++ [r8.1]), ()))))
else
(some (.inl (s1, i4, out3, ()))) : Option (((Int × ((List Bool) × Unit)) × Int × (List (List Int)) × Unit) ⊕ Empty)).bind (Sum.elim (fun d9 =>
some (.inl (d9.1, (IntKind.i64.wrap (d9.2.1 + (1 : Int))), d9.2.2.1, ()))) nof))
else
(some (.inr (.inl (out3, ()))))
noncomputable def qe4 (n : Nat) (d : ((Int × ((List Bool) × Unit)) × Int × (List (List Int)) × Unit)) : Option (((Int × ((List Bool) × Unit)) × Int × (List (List Int)) × Unit) ⊕ (((List (List Int)) × Unit) ⊕ Empty)) := qe3 n d.1 d.2.1 d.2.2.1
noncomputable def qe5 (n : Nat) (s0 : (Int × ((List Bool) × Unit))) : Option ((List (List Int)) × Unit) :=
(iterN (qe4 n) n (s0, (0 : Int), ([] : (List (List Int))), ())).bind (Sum.elim (fun d11 =>
some (d11.1, ())) nof)
/-! "commodatum/commodatumref02.Close" -/
noncomputable def qe6 (n : Nat) (gens0 : (List (List Int))) (p6 : (List Int)) (i7 : Int) (s4 : (Int × ((List Bool) × Unit))) (todo5 : (List (List Int))) : Option (((List (List Int)) × (List Int) × Int × (Int × ((List Bool) × Unit)) × (List (List Int)) × Unit) ⊕ (((List (List Int)) × (Int × ((List Bool) × Unit)) × (List (List Int)) × Unit) ⊕ Empty)) :=
bif (decide (i7 < (gens0.length : Int))) then
(((idx gens0 i7).bind fun v27 =>
(qez n p6 v27).bind fun r28 =>
(qeq n r28.1).bind fun r29 =>
(idx s4.2.1 r29.1).bind fun v30 =>
bif (!v30) then
((idx s4.2.1 r29.1).bind fun v31 =>
chk (lenB ((todo5).length + ([r28.1]).length)) (some (.inl (gens0, p6, i7, (s4.1, ((List.set s4.2.1 (r29.1).toNat true), s4.2.2)), (todo5 ++ [r28.1]), ()))))
else
(some (.inl (gens0, p6, i7, s4, todo5, ()))) : Option (((List (List Int)) × (List Int) × Int × (Int × ((List Bool) × Unit)) × (List (List Int)) × Unit) ⊕ Empty)).bind (Sum.elim (fun d32 =>
some (.inl (d32.1, d32.2.1, (IntKind.i64.wrap (d32.2.2.1 + (1 : Int))), d32.2.2.2.1, d32.2.2.2.2.1, ()))) nof))
else
(some (.inr (.inl (gens0, s4, todo5, ()))))
noncomputable def qe7 (n : Nat) (d : ((List (List Int)) × (List Int) × Int × (Int × ((List Bool) × Unit)) × (List (List Int)) × Unit)) : Option (((List (List Int)) × (List Int) × Int × (Int × ((List Bool) × Unit)) × (List (List Int)) × Unit) ⊕ (((List (List Int)) × (Int × ((List Bool) × Unit)) × (List (List Int)) × Unit) ⊕ Empty)) := qe6 n d.1 d.2.1 d.2.2.1 d.2.2.2.1 d.2.2.2.2.1
noncomputable def qe8 (n : Nat) (gens0 : (List (List Int))) (s4 : (Int × ((List Bool) × Unit))) (todo5 : (List (List Int))) : Option (((List (List Int)) × (Int × ((List Bool) × Unit)) × (List (List Int)) × Unit) ⊕ (((Int × ((List Bool) × Unit)) × Unit) ⊕ Empty)) :=
bif (decide ((0 : Int) < (todo5.length : Int))) then
((idx todo5 (0 : Int)).bind fun v34 =>
chk (decide (0 ≤ (1 : Int))) (chk (decide ((1 : Int) ≤ (todo5.length : Int))) (chk (decide ((todo5.length : Int) ≤ (todo5.length : Int))) ((iterN (qe7 n) n (gens0, v34, (0 : Int), s4, (subs todo5 ((1 : Int)).toNat ((todo5.length : Int)).toNat), ())).bind (Sum.elim (fun d35 =>
some (.inl (d35.1, d35.2.1, d35.2.2.1, ()))) nof)))))
else
(some (.inr (.inl (s4, ()))))
noncomputable def qe9 (n : Nat) (d : ((List (List Int)) × (Int × ((List Bool) × Unit)) × (List (List Int)) × Unit)) : Option (((List (List Int)) × (Int × ((List Bool) × Unit)) × (List (List Int)) × Unit) ⊕ (((Int × ((List Bool) × Unit)) × Unit) ⊕ Empty)) := qe8 n d.1 d.2.1 d.2.2.1
noncomputable def qfa (n : Nat) (gens0 : (List (List Int))) : Option ((List (List Int)) × Unit) :=
(idx gens0 (0 : Int)).bind fun v2 =>
(qet n (v2.length : Int) ([] : (List (List Int)))).bind fun r4 =>
(qew n (v2.length : Int)).bind fun r6 =>
(idx (r4.1.1, (r4.1.2.1, r4.1.2.2)).2.1 (0 : Int)).bind fun v8 =>
(iterN (qe9 n) n (gens0, ((r4.1.1, (r4.1.2.1, r4.1.2.2)).1, ((List.set (r4.1.1, (r4.1.2.1, r4.1.2.2)).2.1 0 true), (r4.1.1, (r4.1.2.1, r4.1.2.2)).2.2)), [r6.1], ())).bind (Sum.elim (fun d37 =>
(qe5 n d37.1).bind fun r38 =>
some (r38.1, ())) nof)
/-! "commodatum/commodatumlaw02.closed" -/
noncomputable def qfb (n : Nat) (gens0 : (List (List Int))) : Option ((List (List Int)) × (Bool × Unit)) :=
((qac n gens0 (30 : Int)).bind fun r6 =>
bif (!r6.1) then
(some (.inl (gens0, true, ())))
else
((qej n gens0).bind fun r7 =>
some (.inl (gens0, (!r7.1), ()))) : Option (((List (List Int)) × Bool × Unit) ⊕ Empty)).bind (Sum.elim (fun d8 =>
bif d8.2.1 then
(some (([] : (List (List Int))), (false, ())))
else
((qfa n d8.1).bind fun r10 =>
some (r10.1, ((decide ((r10.1.length : Int) ≤ (360 : Int))), ())))) nof)
/-! "commodatum/commodatumref01.Inverse" -/
noncomputable def qfc (n : Nat) (p0 : (List Int)) (i4 : Int) (r3 : (List Int)) : Option (((List Int) × Int × (List Int) × Unit) ⊕ (((List Int) × Unit) ⊕ Empty)) :=
bif (decide (i4 < (p0.length : Int))) then
((idx p0 i4).bind fun v5 =>
(idx r3 v5).bind fun v6 =>
some (.inl (p0, (IntKind.i64.wrap (i4 + (1 : Int))), (List.set r3 (v5).toNat i4), ())))
else
(some (.inr (.inl (r3, ()))))
noncomputable def qfd (n : Nat) (d : ((List Int) × Int × (List Int) × Unit)) : Option (((List Int) × Int × (List Int) × Unit) ⊕ (((List Int) × Unit) ⊕ Empty)) := qfc n d.1 d.2.1 d.2.2.1
noncomputable def qfe (n : Nat) (p0 : (List Int)) : Option ((List Int) × Unit) :=
chk (decide (0 ≤ (p0.length : Int))) (chk (decide ((p0.length : Int) ≤ (p0.length : Int))) (chk (lenB ((p0.length : Int)).toNat) ((iterN (qfd n) n (p0, (0 : Int), (List.replicate ((p0.length : Int)).toNat (0 : Int)), ())).bind (Sum.elim (fun d8 =>
some (d8.1, ())) nof))))
/-! "commodatum/commodatumref01.Commutator" -/
noncomputable def qff (n : Nat) (p0 : (List Int)) (q1 : (List Int)) : Option ((List Int) × Unit) :=
(qfe n p0).bind fun r1 =>
(qfe n q1).bind fun r2 =>
(qez n r1.1 r2.1).bind fun r3 =>
(qez n p0 q1).bind fun r4 =>
(qez n r3.1 r4.1).bind fun r5 =>
some (r5.1, ())
/-! "commodatum/commodatumref02.Commutators" -/
noncomputable def qfg (n : Nat) (l0 : (List (List Int))) (i4 : Int) (k5 : Int) (s3 : (Int × ((List Bool) × Unit))) : Option (((List (List Int)) × Int × Int × (Int × ((List Bool) × Unit)) × Unit) ⊕ (((List (List Int)) × Int × (Int × ((List Bool) × Unit)) × Unit) ⊕ Empty)) :=
bif (decide (k5 < (l0.length : Int))) then
((idx l0 i4).bind fun v15 =>
(idx l0 k5).bind fun v16 =>
(qff n v15 v16).bind fun r17 =>
(qeq n r17.1).bind fun r18 =>
(idx s3.2.1 r18.1).bind fun v19 =>
some (.inl (l0, i4, (IntKind.i64.wrap (k5 + (1 : Int))), (s3.1, ((List.set s3.2.1 (r18.1).toNat true), s3.2.2)), ())))
else
(some (.inr (.inl (l0, i4, s3, ()))))
noncomputable def qfh (n : Nat) (d : ((List (List Int)) × Int × Int × (Int × ((List Bool) × Unit)) × Unit)) : Option (((List (List Int)) × Int × Int × (Int × ((List Bool) × Unit)) × Unit) ⊕ (((List (List Int)) × Int × (Int × ((List Bool) × Unit)) × Unit) ⊕ Empty)) := qfg n d.1 d.2.1 d.2.2.1 d.2.2.2.1
noncomputable def qfi (n : Nat) (l0 : (List (List Int))) (i4 : Int) (s3 : (Int × ((List Bool) × Unit))) : Option (((List (List Int)) × Int × (Int × ((List Bool) × Unit)) × Unit) ⊕ (((Int × ((List Bool) × Unit)) × Unit) ⊕ Empty)) :=
bif (decide (i4 < (l0.length : Int))) then
((iterN (qfh n) n (l0, i4, (0 : Int), s3, ())).bind (Sum.elim (fun d22 =>
some (.inl (d22.1, (IntKind.i64.wrap (d22.2.1 + (1 : Int))), d22.2.2.1, ()))) nof))
else
(some (.inr (.inl (s3, ()))))
noncomputable def qfj (n : Nat) (d : ((List (List Int)) × Int × (Int × ((List Bool) × Unit)) × Unit)) : Option (((List (List Int)) × Int × (Int × ((List Bool) × Unit)) × Unit) ⊕ (((Int × ((List Bool) × Unit)) × Unit) ⊕ Empty)) := qfi n d.1 d.2.1 d.2.2.1
noncomputable def qfk (n : Nat) (l0 : (List (List Int))) : Option ((List (List Int)) × Unit) :=
(idx l0 (0 : Int)).bind fun v3 =>
(qet n (v3.length : Int) ([] : (List (List Int)))).bind fun r4 =>
(iterN (qfj n) n (l0, (0 : Int), (r4.1.1, (r4.1.2.1, r4.1.2.2)), ())).bind (Sum.elim (fun d24 =>
(qe5 n d24.1).bind fun r25 =>
some (r25.1, ())) nof)
/-! "commodatum/commodatumref02.In" -/
noncomputable def qfl (n : Nat) (l0 : (List (List Int))) (p1 : (List Int)) (i5 : Int) : Option (((List (List Int)) × (List Int) × Int × Unit) ⊕ ((Bool × Unit) ⊕ ((Unit) ⊕ Empty))) :=
bif (decide (i5 < (l0.length : Int))) then
((idx l0 i5).bind fun v7 =>
(qd6 n v7 p1).bind fun r8 =>
bif r8.1 then
(some (.inr (.inl (true, ()))))
else
(some (.inl (l0, p1, (IntKind.i64.wrap (i5 + (1 : Int))), ()))))
else
(some (.inr (.inr (.inl (())))))
noncomputable def qfm (n : Nat) (d : ((List (List Int)) × (List Int) × Int × Unit)) : Option (((List (List Int)) × (List Int) × Int × Unit) ⊕ ((Bool × Unit) ⊕ ((Unit) ⊕ Empty))) := qfl n d.1 d.2.1 d.2.2.1
noncomputable def qfn (n : Nat) (l0 : (List (List Int))) (p1 : (List Int)) : Option (Bool × Unit) :=
(iterN (qfm n) n (l0, p1, (0 : Int), ())).bind (Sum.elim (fun d12 =>
some (d12.1, ())) (Sum.elim (fun d11 =>
some (false, ())) nof))
/-! "slices.Equal[commodatum/api.Perm,int]" -/
noncomputable def qfo (n : Nat) (s10 : (List Int)) (s21 : (List Int)) (t12 : Int) (t13 : Int) : Option (((List Int) × (List Int) × Int × Int × Unit) ⊕ ((Bool × Unit) ⊕ ((Unit) ⊕ Empty))) :=
bif (decide (t13 < t12)) then
((idx s10 t13).bind fun v7 =>
(idx s21 t13).bind fun v8 =>
bif (!decide (v7 = v8)) then
(some (.inr (.inl (false, ()))))
else
(some (.inl (s10, s21, t12, (IntKind.i64.wrap (t13 + (1 : Int))), ()))))
else
(some (.inr (.inr (.inl (())))))
noncomputable def qfp (n : Nat) (d : ((List Int) × (List Int) × Int × Int × Unit)) : Option (((List Int) × (List Int) × Int × Int × Unit) ⊕ ((Bool × Unit) ⊕ ((Unit) ⊕ Empty))) := qfo n d.1 d.2.1 d.2.2.1 d.2.2.2.1
noncomputable def qfq (n : Nat) (s10 : (List Int)) (s21 : (List Int)) : Option (Bool × Unit) :=
bif (!decide ((s10.length : Int) = (s21.length : Int))) then
(some (false, ()))
else
((iterN (qfp n) n (s10, s21, (s10.length : Int), (0 : Int), ())).bind (Sum.elim (fun d12 =>
some (d12.1, ())) (Sum.elim (fun d11 =>
some (true, ())) nof)))
/-! "commodatum/commodatumref02.Distance" -/
noncomputable def qfr (n : Nat) (g1 : (List Int)) (steps5 : (List (List Int))) (now7 : (List (List Int))) (n8 : Int) (i10 : Int) (k11 : Int) (seen6 : (Int × ((List Bool) × Unit))) (next9 : (List (List Int))) : Option (((List Int) × (List (List Int)) × (List (List Int)) × Int × Int × Int × (Int × ((List Bool) × Unit)) × (List (List Int)) × Unit) ⊕ (((List Int) × (List (List Int)) × (List (List Int)) × Int × Int × (Int × ((List Bool) × Unit)) × (List (List Int)) × Unit) ⊕ Empty)) :=
bif (decide (k11 < (steps5.length : Int))) then
(((idx now7 i10).bind fun v34 =>
(idx steps5 k11).bind fun v35 =>
(qez n v34 v35).bind fun r36 =>
(qeq n r36.1).bind fun r37 =>
(idx seen6.2.1 r37.1).bind fun v38 =>
bif (!v38) then
((idx seen6.2.1 r37.1).bind fun v39 =>
chk (lenB ((next9).length + ([r36.1]).length)) (some (.inl (g1, steps5, now7, n8, i10, k11, (seen6.1, ((List.set seen6.2.1 (r37.1).toNat true), seen6.2.2)), (next9 ++ [r36.1]), ()))))
else
(some (.inl (g1, steps5, now7, n8, i10, k11, seen6, next9, ()))) : Option (((List Int) × (List (List Int)) × (List (List Int)) × Int × Int × Int × (Int × ((List Bool) × Unit)) × (List (List Int)) × Unit) ⊕ Empty)).bind (Sum.elim (fun d40 =>
some (.inl (d40.1, d40.2.1, d40.2.2.1, d40.2.2.2.1, d40.2.2.2.2.1, (IntKind.i64.wrap (d40.2.2.2.2.2.1 + (1 : Int))), d40.2.2.2.2.2.2.1, d40.2.2.2.2.2.2.2.1, ()))) nof))
else
(some (.inr (.inl (g1, steps5, now7, n8, i10, seen6, next9, ()))))
noncomputable def qfs (n : Nat) (d : ((List Int) × (List (List Int)) × (List (List Int)) × Int × Int × Int × (Int × ((List Bool) × Unit)) × (List (List Int)) × Unit)) : Option (((List Int) × (List (List Int)) × (List (List Int)) × Int × Int × Int × (Int × ((List Bool) × Unit)) × (List (List Int)) × Unit) ⊕ (((List Int) × (List (List Int)) × (List (List Int)) × Int × Int × (Int × ((List Bool) × Unit)) × (List (List Int)) × Unit) ⊕ Empty)) := qfr n d.1 d.2.1 d.2.2.1 d.2.2.2.1 d.2.2.2.2.1 d.2.2.2.2.2.1 d.2.2.2.2.2.2.1 d.2.2.2.2.2.2.2.1
noncomputable def qft (n : Nat) (g1 : (List Int)) (steps5 : (List (List Int))) (now7 : (List (List Int))) (n8 : Int) (i10 : Int) (seen6 : (Int × ((List Bool) × Unit))) (next9 : (List (List Int))) : Option (((List Int) × (List (List Int)) × (List (List Int)) × Int × Int × (Int × ((List Bool) × Unit)) × (List (List Int)) × Unit) ⊕ ((Int × Unit) ⊕ (((List Int) × (List (List Int)) × Int × (Int × ((List Bool) × Unit)) × (List (List Int)) × Unit) ⊕ Empty))) :=
bif (decide (i10 < (now7.length : Int))) then
((idx now7 i10).bind fun v45 =>
(qd6 n v45 g1).bind fun r46 =>
bif r46.1 then
(some (.inr (.inl (n8, ()))))
else
((iterN (qfs n) n (g1, steps5, now7, n8, i10, (0 : Int), seen6, next9, ())).bind (Sum.elim (fun d47 =>
some (.inl (d47.1, d47.2.1, d47.2.2.1, d47.2.2.2.1, (IntKind.i64.wrap (d47.2.2.2.2.1 + (1 : Int))), d47.2.2.2.2.2.1, d47.2.2.2.2.2.2.1, ()))) nof)))
else
(some (.inr (.inr (.inl (g1, steps5, n8, seen6, next9, ())))))
noncomputable def qfu (n : Nat) (d : ((List Int) × (List (List Int)) × (List (List Int)) × Int × Int × (Int × ((List Bool) × Unit)) × (List (List Int)) × Unit)) : Option (((List Int) × (List (List Int)) × (List (List Int)) × Int × Int × (Int × ((List Bool) × Unit)) × (List (List Int)) × Unit) ⊕ ((Int × Unit) ⊕ (((List Int) × (List (List Int)) × Int × (Int × ((List Bool) × Unit)) × (List (List Int)) × Unit) ⊕ Empty))) := qft n d.1 d.2.1 d.2.2.1 d.2.2.2.1 d.2.2.2.2.1 d.2.2.2.2.2.1 d.2.2.2.2.2.2.1
noncomputable def qfv (n : Nat) (g1 : (List Int)) (steps5 : (List (List Int))) (now7 : (List (List Int))) (n8 : Int) (seen6 : (Int × ((List Bool) × Unit))) : Option (((List Int) × (List (List Int)) × (List (List Int)) × Int × (Int × ((List Bool) × Unit)) × Unit) ⊕ ((Int × Unit) ⊕ ((Unit) ⊕ Empty))) :=
bif (decide ((0 : Int) < (now7.length : Int))) then
((iterN (qfu n) n (g1, steps5, now7, n8, (0 : Int), seen6, ([] : (List (List Int))), ())).bind (Sum.elim (fun d55 =>
some (.inr (.inl (d55.1, ())))) (Sum.elim (fun d54 =>
some (.inl (d54.1, d54.2.1, d54.2.2.2.2.1, (IntKind.i64.wrap (d54.2.2.1 + (1 : Int))), d54.2.2.2.1, ()))) nof)))
else
(some (.inr (.inr (.inl (())))))
noncomputable def qfw (n : Nat) (d : ((List Int) × (List (List Int)) × (List (List Int)) × Int × (Int × ((List Bool) × Unit)) × Unit)) : Option (((List Int) × (List (List Int)) × (List (List Int)) × Int × (Int × ((List Bool) × Unit)) × Unit) ⊕ ((Int × Unit) ⊕ ((Unit) ⊕ Empty))) := qfv n d.1 d.2.1 d.2.2.1 d.2.2.2.1 d.2.2.2.2.1
noncomputable def qfx (n : Nat) (l0 : (List (List Int))) (g1 : (List Int)) : Option (Int × Unit) :=
(qfk n l0).bind fun r2 =>
(qet n (g1.length : Int) ([] : (List (List Int)))).bind fun r4 =>
(qew n (g1.length : Int)).bind fun r6 =>
(idx (r4.1.1, (r4.1.2.1, r4.1.2.2)).2.1 (0 : Int)).bind fun v8 =>
(iterN (qfw n) n (g1, r2.1, [r6.1], (0 : Int), ((r4.1.1, (r4.1.2.1, r4.1.2.2)).1, ((List.set (r4.1.1, (r4.1.2.1, r4.1.2.2)).2.1 0 true), (r4.1.1, (r4.1.2.1, r4.1.2.2)).2.2)), ())).bind (Sum.elim (fun d59 =>
some (d59.1, ())) (Sum.elim (fun d58 =>
some ((-1 : Int), ())) nof))
/-! "commodatum/group.Pairs$1" -/
noncomputable def qfy (n : Nat) (s0 : ((List Int) × (Int × Unit))) (x1 : (List Int)) : Option (Bool × Unit) :=
(qfq n s0.1 x1).bind fun r1 =>
some (r1.1, ())
/-! "slices.IndexFunc[[]commodatum/group.step,commodatum/group.step]" -/
noncomputable def qfz (n : Nat) (s0 : (List ((List Int) × (Int × Unit)))) (f1 : ((List Int) × Unit)) (t7 : Int) (t8 : Int) : Option (((List ((List Int) × (Int × Unit))) × ((List Int) × Unit) × Int × Int × Unit) ⊕ ((Int × Unit) ⊕ ((Unit) ⊕ Empty))) :=
bif (decide (t8 < t7)) then
((idx s0 t8).bind fun v7 =>
(qfy n v7 f1.1).bind fun r8 =>
bif r8.1 then
(some (.inr (.inl (t8, ()))))
else
(some (.inl (s0, (f1.1, ()), t7, (IntKind.i64.wrap (t8 + (1 : Int))), ()))))
else
(some (.inr (.inr (.inl (())))))
noncomputable def qf0 (n : Nat) (d : ((List ((List Int) × (Int × Unit))) × ((List Int) × Unit) × Int × Int × Unit)) : Option (((List ((List Int) × (Int × Unit))) × ((List Int) × Unit) × Int × Int × Unit) ⊕ ((Int × Unit) ⊕ ((Unit) ⊕ Empty))) := qfz n d.1 d.2.1 d.2.2.1 d.2.2.2.1
noncomputable def qf1 (n : Nat) (s0 : (List ((List Int) × (Int × Unit)))) (f1 : ((List Int) × Unit)) : Option (Int × Unit) :=
(iterN (qf0 n) n (s0, (f1.1, ()), (s0.length : Int), (0 : Int), ())).bind (Sum.elim (fun d12 =>
some (d12.1, ())) (Sum.elim (fun d11 =>
some ((-1 : Int), ())) nof))
/-! "slices.Reverse[[][2]commodatum/api.Perm,[2]commodatum/api.Perm]" -/
noncomputable def qf2 (n : Nat) (i2 : Int) (j3 : Int) (s0 : (List (List (List Int)))) : Option ((Int × Int × (List (List (List Int))) × Unit) ⊕ (((List (List (List Int))) × Unit) ⊕ Empty)) :=
bif (decide (i2 < j3)) then
((idx s0 j3).bind fun v9 =>
(idx s0 i2).bind fun v10 =>
(idx s0 i2).bind fun v11 =>
(idx (List.set s0 (i2).toNat v9) j3).bind fun v12 =>
some (.inl ((IntKind.i64.wrap (i2 + (1 : Int))), (IntKind.i64.wrap (j3 - (1 : Int))), (List.set (List.set s0 (i2).toNat v9) (j3).toNat v10), ())))
else
(some (.inr (.inl (s0, ()))))
noncomputable def qf3 (n : Nat) (d : (Int × Int × (List (List (List Int))) × Unit)) : Option ((Int × Int × (List (List (List Int))) × Unit) ⊕ (((List (List (List Int))) × Unit) ⊕ Empty)) := qf2 n d.1 d.2.1 d.2.2.1
noncomputable def qf4 (n : Nat) (so0 : (List (List (List Int)))) : Option (Unit × ((List (List (List Int))) × Unit)) :=
(iterN (qf3 n) n ((0 : Int), (IntKind.i64.wrap ((so0.length : Int) - (1 : Int))), so0, ())).bind (Sum.elim (fun d13 =>
some ((), (d13.1, ()))) nof)
/-! "commodatum/group.Pairs" -/
noncomputable def qf5 (n : Nat) (g3 : (List Int)) (i19 : Int) (t111 : Int) (t112 : Int) (pair6 : (Option (List ((List Int) × (List (List Int)))))) (t110 : (List (List Int))) (steps16 : (List ((List Int) × (Int × Unit)))) (met17 : (Option (List ((List Int) × Bool)))) : Option (((List Int) × Int × Int × Int × (Option (List ((List Int) × (List (List Int))))) × (List (List Int)) × (List ((List Int) × (Int × Unit))) × (Option (List ((List Int) × Bool))) × Unit) ⊕ (((List Int) × Int × (Option (List ((List Int) × (List (List Int))))) × (List (List Int)) × (List ((List Int) × (Int × Unit))) × (Option (List ((List Int) × Bool))) × Unit) ⊕ Empty)) :=
bif (decide (t112 < t111)) then
(((idx t110 t112).bind fun v90 =>
(idx steps16 i19).bind fun v91 =>
(qa0 n v91.1 v90).bind fun r92 =>
(qau n r92.1).bind fun r93 =>
bif (!(((met17).bind fun l => mget (.arr 7 (.int .i8)) l r93.1).getD false)) then
((met17).bind fun l94 =>
chk (lenB ((steps16).length + ([(r92.1, (i19, ()))]).length)) (some (.inl (g3, i19, t111, t112, pair6, t110, (steps16 ++ [(r92.1, (i19, ()))]), (some (mput (.arr 7 (.int .i8)) l94 r93.1 true)), ()))))
else
(some (.inl (g3, i19, t111, t112, pair6, t110, steps16, met17, ()))) : Option (((List Int) × Int × Int × Int × (Option (List ((List Int) × (List (List Int))))) × (List (List Int)) × (List ((List Int) × (Int × Unit))) × (Option (List ((List Int) × Bool))) × Unit) ⊕ Empty)).bind (Sum.elim (fun d95 =>
some (.inl (d95.1, d95.2.1, d95.2.2.1, (IntKind.i64.wrap (d95.2.2.2.1 + (1 : Int))), d95.2.2.2.2.1, d95.2.2.2.2.2.1, d95.2.2.2.2.2.2.1, d95.2.2.2.2.2.2.2.1, ()))) nof))
else
(some (.inr (.inl (g3, i19, pair6, t110, steps16, met17, ()))))
noncomputable def qf6 (n : Nat) (d : ((List Int) × Int × Int × Int × (Option (List ((List Int) × (List (List Int))))) × (List (List Int)) × (List ((List Int) × (Int × Unit))) × (Option (List ((List Int) × Bool))) × Unit)) : Option (((List Int) × Int × Int × Int × (Option (List ((List Int) × (List (List Int))))) × (List (List Int)) × (List ((List Int) × (Int × Unit))) × (Option (List ((List Int) × Bool))) × Unit) ⊕ (((List Int) × Int × (Option (List ((List Int) × (List (List Int))))) × (List (List Int)) × (List ((List Int) × (Int × Unit))) × (Option (List ((List Int) × Bool))) × Unit) ⊕ Empty)) := qf5 n d.1 d.2.1 d.2.2.1 d.2.2.2.1 d.2.2.2.2.1 d.2.2.2.2.2.1 d.2.2.2.2.2.2.1 d.2.2.2.2.2.2.2.1
noncomputable def qf7 (n : Nat) (l0 : (List (List Int))) (g3 : (List Int)) (p9 : (List Int)) (t58 : (List (List Int))) (t59 : Int) (t60 : Int) (t64 : (List (List Int))) (t65 : Int) (t66 : Int) (pair6 : (Option (List ((List Int) × (List (List Int)))))) (all7 : (List (List Int))) : Option (((List (List Int)) × (List Int) × (List Int) × (List (List Int)) × Int × Int × (List (List Int)) × Int × Int × (Option (List ((List Int) × (List (List Int))))) × (List (List Int)) × Unit) ⊕ (((List (List Int)) × (List Int) × (List (List Int)) × Int × Int × (Option (List ((List Int) × (List (List Int))))) × (List (List Int)) × Unit) ⊕ Empty)) :=
bif (decide (t66 < t65)) then
(((idx t64 t66).bind fun v52 =>
(qdp n p9 v52).bind fun r53 =>
(qau n r53.1).bind fun r54 =>
(oel ((pair6).bind fun l => mget (.arr 7 (.int .i8)) l r54.1) (some (.inl (l0, g3, p9, v52, r53.1, t58, t59, t60, t64, t65, t66, true, pair6, all7, r54.1, ()))) (fun v55 =>
(idx v55 (0 : Int)).bind fun v56 =>
(nes v56).bind fun _ =>
some (.inl (l0, g3, p9, v52, r53.1, t58, t59, t60, t64, t65, t66, false, pair6, all7, r54.1, ()))) : Option (((List (List Int)) × (List Int) × (List Int) × (List Int) × (List Int) × (List (List Int)) × Int × Int × (List (List Int)) × Int × Int × Bool × (Option (List ((List Int) × (List (List Int))))) × (List (List Int)) × (List Int) × Unit) ⊕ Empty)).bind (Sum.elim (fun d57 =>
bif d57.2.2.2.2.2.2.2.2.2.2.2.1 then
((d57.2.2.2.2.2.2.2.2.2.2.2.2.1).bind fun l58 =>
chk (lenB ((d57.2.2.2.2.2.2.2.2.2.2.2.2.2.1).length + ([d57.2.2.2.2.1]).length)) (some (.inl (d57.1, d57.2.1, d57.2.2.1, d57.2.2.2.2.2.1, d57.2.2.2.2.2.2.1, d57.2.2.2.2.2.2.2.1, d57.2.2.2.2.2.2.2.2.1, d57.2.2.2.2.2.2.2.2.2.1, d57.2.2.2.2.2.2.2.2.2.2.1, (some (mput (.arr 7 (.int .i8)) l58 d57.2.2.2.2.2.2.2.2.2.2.2.2.2.2.1 [d57.2.2.1, d57.2.2.2.1])), (d57.2.2.2.2.2.2.2.2.2.2.2.2.2.1 ++ [d57.2.2.2.2.1]), ()))))
else
(some (.inl (d57.1, d57.2.1, d57.2.2.1, d57.2.2.2.2.2.1, d57.2.2.2.2.2.2.1, d57.2.2.2.2.2.2.2.1, d57.2.2.2.2.2.2.2.2.1, d57.2.2.2.2.2.2.2.2.2.1, d57.2.2.2.2.2.2.2.2.2.2.1, d57.2.2.2.2.2.2.2.2.2.2.2.2.1, d57.2.2.2.2.2.2.2.2.2.2.2.2.2.1, ())))) nof) : Option (((List (List Int)) × (List Int) × (List Int) × (List (List Int)) × Int × Int × (List (List Int)) × Int × Int × (Option (List ((List Int) × (List (List Int))))) × (List (List Int)) × Unit) ⊕ Empty)).bind (Sum.elim (fun d59 =>
some (.inl (d59.1, d59.2.1, d59.2.2.1, d59.2.2.2.1, d59.2.2.2.2.1, d59.2.2.2.2.2.1, d59.2.2.2.2.2.2.1, d59.2.2.2.2.2.2.2.1, (IntKind.i64.wrap (d59.2.2.2.2.2.2.2.2.1 + (1 : Int))), d59.2.2.2.2.2.2.2.2.2.1, d59.2.2.2.2.2.2.2.2.2.2.1, ()))) nof))
else
(some (.inr (.inl (l0, g3, t58, t59, t60, pair6, all7, ()))))
noncomputable def qf8 (n : Nat) (d : ((List (List Int)) × (List Int) × (List Int) × (List (List Int)) × Int × Int × (List (List Int)) × Int × Int × (Option (List ((List Int) × (List (List Int))))) × (List (List Int)) × Unit)) : Option (((List (List Int)) × (List Int) × (List Int) × (List (List Int)) × Int × Int × (List (List Int)) × Int × Int × (Option (List ((List Int) × (List (List Int))))) × (List (List Int)) × Unit) ⊕ (((List (List Int)) × (List Int) × (List (List Int)) × Int × Int × (Option (List ((List Int) × (List (List Int))))) × (List (List Int)) × Unit) ⊕ Empty)) := qf7 n d.1 d.2.1 d.2.2.1 d.2.2.2.1 d.2.2.2.2.1 d.2.2.2.2.2.1 d.2.2.2.2.2.2.1 d.2.2.2.2.2.2.2.1 d.2.2.2.2.2.2.2.2.1 d.2.2.2.2.2.2.2.2.2.1 d.2.2.2.2.2.2.2.2.2.2.1
noncomputable def qf9 (n : Nat) (i25 : Int) (pair6 : (Option (List ((List Int) × (List (List Int)))))) (steps16 : (List ((List Int) × (Int × Unit)))) (out24 : (List (List (List Int)))) : Option ((Int × (Option (List ((List Int) × (List (List Int))))) × (List ((List Int) × (Int × Unit))) × (List (List (List Int))) × Unit) ⊕ (((List (List (List Int))) × Unit) ⊕ Empty)) :=
(idx steps16 i25).bind fun v134 =>
bif (decide ((0 : Int) ≤ v134.2.1)) then
((idx steps16 i25).bind fun v135 =>
(idx steps16 v135.2.1).bind fun v136 =>
(qdo n v136.1).bind fun r137 =>
(idx steps16 i25).bind fun v138 =>
(qa0 n r137.1 v138.1).bind fun r139 =>
(qau n r139.1).bind fun r140 =>
(idx (((pair6).bind fun l => mget (.arr 7 (.int .i8)) l r140.1).getD (List.replicate 2 ([] : (List Int)))) (0 : Int)).bind fun v141 =>
(qc6 n v141).bind fun r142 =>
(idx (((pair6).bind fun l => mget (.arr 7 (.int .i8)) l r140.1).getD (List.replicate 2 ([] : (List Int)))) (1 : Int)).bind fun v143 =>
(qc6 n v143).bind fun r144 =>
chk (lenB ((out24).length + ([[r142.1, r144.1]]).length)) ((idx steps16 i25).bind fun v145 =>
some (.inl (v145.2.1, pair6, steps16, (out24 ++ [[r142.1, r144.1]]), ()))))
else
(some (.inr (.inl (out24, ()))))
noncomputable def qga (n : Nat) (d : (Int × (Option (List ((List Int) × (List (List Int))))) × (List ((List Int) × (Int × Unit))) × (List (List (List Int))) × Unit)) : Option ((Int × (Option (List ((List Int) × (List (List Int))))) × (List ((List Int) × (Int × Unit))) × (List (List (List Int))) × Unit) ⊕ (((List (List (List Int))) × Unit) ⊕ Empty)) := qf9 n d.1 d.2.1 d.2.2.1 d.2.2.2.1
noncomputable def qgb (n : Nat) (g3 : (List Int)) (i19 : Int) (pair6 : (Option (List ((List Int) × (List (List Int)))))) (all7 : (List (List Int))) (steps16 : (List ((List Int) × (Int × Unit)))) (met17 : (Option (List ((List Int) × Bool)))) : Option (((List Int) × Int × (Option (List ((List Int) × (List (List Int))))) × (List (List Int)) × (List ((List Int) × (Int × Unit))) × (Option (List ((List Int) × Bool))) × Unit) ⊕ (((List Int) × (Option (List ((List Int) × (List (List Int))))) × (List ((List Int) × (Int × Unit))) × Unit) ⊕ Empty)) :=
(qau n g3).bind fun r98 =>
bif (!(((met17).bind fun l => mget (.arr 7 (.int .i8)) l r98.1).getD false)) then
((iterN (qf6 n) n (g3, i19, (all7.length : Int), (0 : Int), pair6, all7, steps16, met17, ())).bind (Sum.elim (fun d99 =>
some (.inl (d99.1, (IntKind.i64.wrap (d99.2.1 + (1 : Int))), d99.2.2.1, d99.2.2.2.1, d99.2.2.2.2.1, d99.2.2.2.2.2.1, ()))) nof))
else
(some (.inr (.inl (g3, pair6, steps16, ()))))
noncomputable def qgc (n : Nat) (d : ((List Int) × Int × (Option (List ((List Int) × (List (List Int))))) × (List (List Int)) × (List ((List Int) × (Int × Unit))) × (Option (List ((List Int) × Bool))) × Unit)) : Option (((List Int) × Int × (Option (List ((List Int) × (List (List Int))))) × (List (List Int)) × (List ((List Int) × (Int × Unit))) × (Option (List ((List Int) × Bool))) × Unit) ⊕ (((List Int) × (Option (List ((List Int) × (List (List Int))))) × (List ((List Int) × (Int × Unit))) × Unit) ⊕ Empty)) := qgb n d.1 d.2.1 d.2.2.1 d.2.2.2.1 d.2.2.2.2.1 d.2.2.2.2.2.1
noncomputable def qgd (n : Nat) (l0 : (List (List Int))) (g3 : (List Int)) (t58 : (List (List Int))) (t59 : Int) (t60 : Int) (pair6 : (Option (List ((List Int) × (List (List Int)))))) (all7 : (List (List Int))) : Option (((List (List Int)) × (List Int) × (List (List Int)) × Int × Int × (Option (List ((List Int) × (List (List Int))))) × (List (List Int)) × Unit) ⊕ (((List Int) × (Option (List ((List Int) × (List (List Int))))) × (List (List Int)) × Unit) ⊕ Empty)) :=
bif (decide (t60 < t59)) then
((idx t58 t60).bind fun v63 =>
(iterN (qf8 n) n (l0, g3, v63, t58, t59, t60, l0, (l0.length : Int), (0 : Int), pair6, all7, ())).bind (Sum.elim (fun d64 =>
some (.inl (d64.1, d64.2.1, d64.2.2.1, d64.2.2.2.1, (IntKind.i64.wrap (d64.2.2.2.2.1 + (1 : Int))), d64.2.2.2.2.2.1, d64.2.2.2.2.2.2.1, ()))) nof))
else
(some (.inr (.inl (g3, pair6, all7, ()))))
noncomputable def qge (n : Nat) (d : ((List (List Int)) × (List Int) × (List (List Int)) × Int × Int × (Option (List ((List Int) × (List (List Int))))) × (List (List Int)) × Unit)) : Option (((List (List Int)) × (List Int) × (List (List Int)) × Int × Int × (Option (List ((List Int) × (List (List Int))))) × (List (List Int)) × Unit) ⊕ (((List Int) × (Option (List ((List Int) × (List (List Int))))) × (List (List Int)) × Unit) ⊕ Empty)) := qgd n d.1 d.2.1 d.2.2.1 d.2.2.2.1 d.2.2.2.2.1 d.2.2.2.2.2.1 d.2.2.2.2.2.2.1
noncomputable def qgf (n : Nat) (nb : Bool) (l0 : (List (List Int))) (g1 : (List Int)) : Option ((List (List (List Int))) × (Int × Unit)) :=
((qdd n l0).bind fun r6 =>
bif (!r6.1) then
(some (.inl (l0, g1, true, ())))
else
((qaf n g1).bind fun r7 =>
some (.inl (l0, g1, (!r7.1), ()))) : Option (((List (List Int)) × (List Int) × Bool × Unit) ⊕ Empty)).bind (Sum.elim (fun d8 =>
bif d8.2.2.1 then
(some (([] : (List (List (List Int)))), ((1 : Int), ())))
else
(((idx d8.1 (0 : Int)).bind fun v16 =>
bif (!decide ((d8.2.1.length : Int) = (v16.length : Int))) then
(some (.inl (d8.1, d8.2.1, true, ())))
else
((qax n d8.1).bind fun r17 =>
(qau n d8.2.1).bind fun r18 =>
some (.inl (d8.1, d8.2.1, (!(((r17.1).bind fun l => mget (.arr 7 (.int .i8)) l r18.1).getD false)), ()))) : Option (((List (List Int)) × (List Int) × Bool × Unit) ⊕ Empty)).bind (Sum.elim (fun d19 =>
bif d19.2.2.1 then
(some (([] : (List (List (List Int)))), ((2 : Int), ())))
else
((qdz n d19.1).bind fun r26 =>
(qax n r26.1).bind fun r27 =>
(qau n d19.2.1).bind fun r28 =>
bif (!(((r27.1).bind fun l => mget (.arr 7 (.int .i8)) l r28.1).getD false)) then
(some (([] : (List (List (List Int)))), ((6 : Int), ())))
else
((iterN (qge n) n (d19.1, d19.2.1, d19.1, (d19.1.length : Int), (0 : Int), (some [] : (Option (List ((List Int) × (List (List Int)))))), ([] : (List (List Int))), ())).bind (Sum.elim (fun d66 =>
(qap n (d66.1.length : Int)).bind fun r68 =>
(qax n [r68.1]).bind fun r70 =>
(iterN (qgc n) n (d66.1, (0 : Int), d66.2.1, d66.2.2.1, [(r68.1, ((-1 : Int), ()))], r70.1, ())).bind (Sum.elim (fun d101 =>
(qf1 n d101.2.2.1 (d101.1, ())).bind fun r103 =>
(iterN (qga n) n (r103.1, d101.2.1, d101.2.2.1, ([] : (List (List (List Int)))), ())).bind (Sum.elim (fun d147 =>
(qf4 n d147.1).bind fun r149 =>
some (r149.2.1, ((0 : Int), ()))) nof)) nof)) nof)))) nof))) nof)
noncomputable def qgg (n : Nat) (l0 : (List (List Int))) (g1 : (List Int)) : Option ((List (List (List Int))) × (Int × Unit)) := qgf n false l0 g1
/-! "commodatum/commodatumlaw02.GroupPairs" -/
noncomputable def qgh (n : Nat) (g1 : (List Int)) (l5 : (List (List Int))) (least8 : Int) (pairs9 : (List (List (List Int)))) (p11 : (List Int)) (i12 : Int) : Option (((List Int) × (List (List Int)) × Int × (List (List (List Int))) × (List Int) × Int × Unit) ⊕ ((Bool × Unit) ⊕ (((List Int) × Int × (List (List (List Int))) × (List Int) × Unit) ⊕ Empty))) :=
bif (decide (i12 < (pairs9.length : Int))) then
(((idx pairs9 i12).bind fun v64 =>
(idx v64 (0 : Int)).bind fun v65 =>
(qfn n l5 v65).bind fun r66 =>
bif (!r66.1) then
(some (.inl (g1, l5, least8, pairs9, p11, i12, true, ())))
else
((idx pairs9 i12).bind fun v67 =>
(idx v67 (1 : Int)).bind fun v68 =>
(qfn n l5 v68).bind fun r69 =>
some (.inl (g1, l5, least8, pairs9, p11, i12, (!r69.1), ()))) : Option (((List Int) × (List (List Int)) × Int × (List (List (List Int))) × (List Int) × Int × Bool × Unit) ⊕ Empty)).bind (Sum.elim (fun d70 =>
bif d70.2.2.2.2.2.2.1 then
(some (.inr (.inl (false, ()))))
else
((idx d70.2.2.2.1 d70.2.2.2.2.2.1).bind fun v71 =>
(idx v71 (0 : Int)).bind fun v72 =>
(idx d70.2.2.2.1 d70.2.2.2.2.2.1).bind fun v73 =>
(idx v73 (1 : Int)).bind fun v74 =>
(qff n v72 v74).bind fun r75 =>
(qez n d70.2.2.2.2.1 r75.1).bind fun r76 =>
some (.inl (d70.1, d70.2.1, d70.2.2.1, d70.2.2.2.1, r76.1, (IntKind.i64.wrap (d70.2.2.2.2.2.1 + (1 : Int))), ())))) nof))
else
(some (.inr (.inr (.inl (g1, least8, pairs9, p11, ())))))
noncomputable def qgi (n : Nat) (d : ((List Int) × (List (List Int)) × Int × (List (List (List Int))) × (List Int) × Int × Unit)) : Option (((List Int) × (List (List Int)) × Int × (List (List (List Int))) × (List Int) × Int × Unit) ⊕ ((Bool × Unit) ⊕ (((List Int) × Int × (List (List (List Int))) × (List Int) × Unit) ⊕ Empty))) := qgh n d.1 d.2.1 d.2.2.1 d.2.2.2.1 d.2.2.2.2.1 d.2.2.2.2.2.1
noncomputable def qgj (n : Nat) (gens0 : (List (List Int))) (g1 : (List Int)) : Option (Bool × Unit) :=
(qfb n gens0).bind fun r2 =>
(bif (!r2.2.1) then
(some (.inl (g1, r2.1, true, ())))
else
(some (.inl (g1, r2.1, (decide ((100 : Int) < (g1.length : Int))), ()))) : Option (((List Int) × (List (List Int)) × Bool × Unit) ⊕ Empty)).bind (Sum.elim (fun d5 =>
bif d5.2.2.1 then
((qea n).bind fun r6 =>
some (r6.1, ()))
else
(((qef n d5.1).bind fun r12 =>
bif r12.1 then
((qfn n d5.2.1 d5.1).bind fun r13 =>
bif r13.1 then
((qfx n d5.2.1 d5.1).bind fun r14 =>
some (.inl (d5.1, d5.2.1, (0 : Int), r14.1, ())))
else
(some (.inl (d5.1, d5.2.1, (2 : Int), (0 : Int), ()))))
else
(some (.inl (d5.1, d5.2.1, (1 : Int), (0 : Int), ()))) : Option (((List Int) × (List (List Int)) × Int × Int × Unit) ⊕ Empty)).bind (Sum.elim (fun d15 =>
(bif (decide (d15.2.2.2.1 < (0 : Int))) then
(some (.inl (d15.1, d15.2.1, (6 : Int), d15.2.2.2.1, ())))
else
(some (.inl (d15.1, d15.2.1, d15.2.2.1, d15.2.2.2.1, ()))) : Option (((List Int) × (List (List Int)) × Int × Int × Unit) ⊕ Empty)).bind (Sum.elim (fun d16 =>
(qgg n d16.2.1 d16.1).bind fun r18 =>
(bif (!decide (r18.2.1 = d16.2.2.1)) then
(some (.inl (d16.1, d16.2.1, d16.2.2.1, d16.2.2.2.1, r18.1, r18.2.1, true, ())))
else
(some (.inl (d16.1, d16.2.1, d16.2.2.1, d16.2.2.2.1, r18.1, r18.2.1, (!decide (d16.2.2.1 = (0 : Int))), ()))) : Option (((List Int) × (List (List Int)) × Int × Int × (List (List (List Int))) × Int × Bool × Unit) ⊕ Empty)).bind (Sum.elim (fun d21 =>
bif d21.2.2.2.2.2.2.1 then
(bif (decide (d21.2.2.2.2.2.1 = d21.2.2.1)) then
(bif (decide ((d21.2.2.2.2.1.length : Int) = (0 : Int))) then
((qea n).bind fun r22 =>
some (r22.1, ()))
else
(some (false, ())))
else
(some (false, ())))
else
((qew n (d21.1.length : Int)).bind fun r24 =>
(iterN (qgi n) n (d21.1, d21.2.1, d21.2.2.2.1, d21.2.2.2.2.1, r24.1, (0 : Int), ())).bind (Sum.elim (fun d82 =>
some (d82.1, ())) (Sum.elim (fun d79 =>
bif (decide ((d79.2.2.1.length : Int) = d79.2.1)) then
((qd6 n d79.2.2.2.1 d79.1).bind fun r80 =>
bif r80.1 then
((qea n).bind fun r81 =>
some (r81.1, ()))
else
(some (false, ())))
else
(some (false, ()))) nof)))) nof)) nof)) nof))) nof)
end Go.Proofs.Ytemejeiajekmcaa.V
