import Derived.Test.YtmidcfjmchpcnaaGreatVc
namespace Go.Proofs.YtmidcfjmchpcnaaGreat.V
open Go
set_option linter.unusedVariables false
set_option linter.all false
abbrev qT0 : Type := ((Int × (Int × Unit)) × (Int × (Int × ((List (List (Int × ((List Int) × Unit)))) × ((List (Rose ((Int × (Int × (Int × (Int × (Int × ((List (Bool × (Int × Unit))) × Unit)))))) × Unit))) × Unit)))))
abbrev qT1 : Type := (Rose ((Int × (Int × (Int × (Int × (Int × ((List (Bool × (Int × Unit))) × Unit)))))) × Unit))
abbrev qT2 : Type := (Int × (Int × Unit))
abbrev qT3 : Type := (Int × (Int × (Int × (Int × (Int × ((List (Bool × (Int × Unit))) × ((List qT1) × Unit)))))))
abbrev qT4 : Type := (List (Int × ((List Int) × Unit)))
abbrev qT5 : Type := (Option (qT2 × qT2))
abbrev qT6 : Type := ((Bool × Unit) × ((qT0 × qT2) × Unit))
abbrev qT7 : Type := (List (List Int))
abbrev qT8 : Type := ((Bool × Unit) ⊕ ((Unit) ⊕ Empty))
abbrev qT9 : Type := (Int × (Int × qT2))
abbrev qT10 : Type := ((Int × Unit) ⊕ Empty)
abbrev qT11 : Type := (List (Bool × (Int × Unit)))
abbrev qT12 : Type := ((List qT1) × Int × Int × (List qT1) × Unit)
abbrev qT13 : Type := (Unit × (Int × Unit))
abbrev qT14 : Type := ((List qT1) × Unit)
abbrev qT15 : Type := (qT5 × Int × Int × qT7 × Int × Int × Int × Int × Int × Int × Int × (List Int) × (List Int) × Unit)
abbrev qT16 : Type := (qT5 × Int × Int × qT7 × Int × Int × Int × Int × Int × Int × Int × Int × Int × (List Int) × (List Int) × Unit)
abbrev qT17 : Type := (qT5 × (List Int) × qT0 × (List qT1) × Int × Int × (List Int) × Unit)
abbrev qT18 : Type := (qT5 × (List Int) × qT0 × (List qT1) × Int × Int × qT11 × Int × Int × (List Int) × qT3 × (List Int) × Unit)
abbrev qT19 : Type := ((Int × Unit) × ((qT0 × qT2) × Unit))
abbrev qT20 : Type := ((List qT1) × Int × Int × Int × Int × (List qT1) × qT3 × Unit)
abbrev qT21 : Type := (qT5 × (qT0 × ((List (Option (List (ByteArray × Int)))) × qT2)))
abbrev qT22 : Type := ((qT5 × Int × Int × qT7 × Int × Int × Int × Int × Int × (List Int) × (List Int) × Unit) ⊕ Empty)
abbrev qT23 : Type := ((List qT1) × Int × (List qT1) × Unit)
abbrev qT24 : Type := ((qT0 × qT2) × (((qT0 × qT2) × Unit) × (qT3 × Unit)))
abbrev qT25 : Type := ((List Int) × Unit)
abbrev qT26 : Type := (qT5 × (List Int) × Int × Int × qT4 × Int × Int × (List Int) × Int × Int × Unit)
abbrev qT27 : Type := (Int × Int × Unit)
abbrev qT28 : Type := (qT5 × Int × Int × Int × Unit)
abbrev qT29 : Type := (qT5 × Int × Int × qT7 × Int × Int × (List Int) × Unit)
abbrev qT30 : Type := (qT5 × qT0 × Int × Int × Int × qT7 × (List Int) × Unit)
abbrev qT31 : Type := (qT5 × Int × Int × qT7 × Int × Int × Int × Int × (List Int) × Unit)
abbrev qT32 : Type := (qT5 × Int × Int × qT7 × Int × Int × Int × Int × Int × Int × (List Int) × (List Int) × Unit)
abbrev qT33 : Type := (qT5 × (List Int) × qT0 × (List qT1) × Int × Int × Int × Int × (List Int) × qT3 × Unit)
abbrev qT34 : Type := (qT5 × qT0 × Int × Int × Int × Int × (List Int) × Int × Int × qT7 × (List Int) × Unit)
abbrev qT35 : Type := ((List Int) × (List Int) × Int × Unit)
abbrev qT36 : Type := ((Int × Int × Int × Int × Int × (List Int) × Int × Int × qT4 × (List Int) × Unit) ⊕ ((Int × Int × Int × (List Int) × Int × Int × qT4 × (List Int) × Unit) ⊕ Empty))
abbrev qT37 : Type := ((Int × Unit) ⊕ ((Unit) ⊕ Empty))
abbrev qT38 : Type := ((qT5 × qT0 × Int × Int × Int × Int × Int × Int × qT7 × (List Int) × Unit) ⊕ ((qT5 × qT0 × Int × Int × Int × Int × qT7 × (List Int) × Unit) ⊕ Empty))
abbrev qT39 : Type := (qT0 × Int × Int × Unit)
abbrev qT40 : Type := (Int × Int × (List Int) × Int × Int × qT4 × Unit)
abbrev qT41 : Type := ((List Int) × (List qT1) × qT0 × qT9 × Int × Unit)
abbrev qT42 : Type := (qT0 × Int × Int × Int × Int × Unit)
abbrev qT43 : Type := (((List qT4) × Int × Int × qT4 × Int × Int × qT0 × qT0 × qT4 × Unit) ⊕ (((List qT4) × Int × Int × qT0 × qT0 × qT4 × Unit) ⊕ Empty))
abbrev qT44 : Type := ((qT0 × qT0 × Unit) ⊕ Empty)
abbrev qT45 : Type := ((List qT1) × Int × Int × Int × Int × Unit)
abbrev qT46 : Type := (qT0 × Int × Int × Int × Int × Int × Unit)
abbrev qT47 : Type := (((List Int) × (List Int) × (List Int) × Int × Int × Unit) ⊕ ((Int × Unit) ⊕ (((List Int) × (List Int) × Unit) ⊕ Empty)))
abbrev qT48 : Type := (((List qT1) × qT13 × Int × Int × (qT0 × qT2) × Unit) ⊕ ((Int × (qT0 × qT2) × Unit) ⊕ (((qT0 × qT2) × Unit) ⊕ Empty)))
abbrev qT49 : Type := (qT0 × Int × Int × Int × Unit)
abbrev qT50 : Type := (qT5 × Int × Int × qT7 × Unit)
abbrev qT51 : Type := (qT4 × qT9 × Int × Int × Unit)
abbrev qT52 : Type := ((Bool × Unit) × (Int × Unit))
abbrev qT53 : Type := (qT18 ⊕ ((qT5 × (List Int) × qT0 × (List qT1) × Int × Int × (List Int) × qT3 × (List Int) × Unit) ⊕ Empty))
abbrev qT54 : Type := ((List qT1) × Int × (List qT1) × Int × (List qT1) × Unit)
abbrev qT55 : Type := (qT3 × qT3 × Int × Unit)
abbrev qT56 : Type := (qT0 × qT0 × Int × Unit)
abbrev qT57 : Type := ((qT0 × Int × Int × (List qT4) × Int × qT21 × Unit) ⊕ ((qT0 × (List qT4) × Int × qT21 × Unit) ⊕ Empty))
abbrev qT58 : Type := ((List qT1) × Int × Int × Int × Unit)
abbrev qT59 : Type := ((qT5 × Int × qT0 × Int × Int × Int × qT7 × Unit) ⊕ ((qT5 × Int × qT0 × Int × qT7 × Unit) ⊕ Empty))
abbrev qT60 : Type := ((qT0 × Int × qT9 × (List Int) × Unit) ⊕ ((Bool × Unit) ⊕ ((qT0 × qT9 × (List Int) × Unit) ⊕ Empty)))
abbrev qT61 : Type := ((qT0 × Int × Int × qT0 × qT0 × qT4 × Unit) ⊕ ((qT0 × Int × qT0 × qT0 × qT4 × Unit) ⊕ Empty))
abbrev qT62 : Type := (((List Int) × Int × qT9 × Int × Unit) ⊕ ((Bool × Unit) ⊕ (((List Int) × Int × Unit) ⊕ Empty)))
abbrev qT63 : Type := (qT5 × (List Int) × Int × qT4 × Int × Int × Unit)
abbrev qT64 : Type := (qT5 × Int × qT7 × Int × Int × (List qT4) × Unit)
abbrev qT65 : Type := ((Int × Unit) ⊕ qT10)
abbrev qT66 : Type := ((qT4 × qT4 × Int × Int × Unit) ⊕ ((Bool × Unit) ⊕ ((qT4 × qT4 × Int × Unit) ⊕ Empty)))
abbrev qT67 : Type := ((List Int) × (Int × Unit) × Int × Int × Unit)
abbrev qT68 : Type := ((qT0 × (List qT4) × Int × Int × Unit) ⊕ ((Bool × Unit) ⊕ ((qT0 × Unit) ⊕ Empty)))
abbrev qT69 : Type := ((List qT4) × Int × Int × (List Bool) × Unit)
/-! "commodatum/commodatumlaw13.wide" -/
noncomputable def qaa (self_law13_wide : (List qT1) → Int → Int → Option qT52) (n : Nat) (l0 : (List qT1)) (levels1 : Int) (i7 : Int) (n2 : Int) : Option (qT58 ⊕ ((Bool × Int × Unit) ⊕ qT10)) :=
bif (decide (i7 < (l0.length : Int))) then
((idx l0 i7).bind fun v14 =>
bif decide ((4 : Int) = 0) then none else
(bif (decide ((3000 : Int) < (IntKind.i64.wrap (n2 + (IntKind.i64.wrap (Int.tdiv (((Rose.val v14).1.2.2.2.2.2.1).length : Int) (4 : Int))))))) then
(some (.inl (l0, levels1, i7, true, (IntKind.i64.wrap (n2 + (IntKind.i64.wrap (Int.tdiv (((Rose.val v14).1.2.2.2.2.2.1).length : Int) (4 : Int))))), ())))
else
((idx l0 i7).bind fun v15 =>
(self_law13_wide (Rose.kids v15) (IntKind.i64.wrap (levels1 + (1 : Int))) (IntKind.i64.wrap (n2 + (IntKind.i64.wrap (Int.tdiv (((Rose.val v14).1.2.2.2.2.2.1).length : Int) (4 : Int)))))).bind fun r16 =>
some (.inl (l0, levels1, i7, r16.1.1, r16.2.1, ()))) : Option (((List qT1) × Int × Int × Bool × Int × Unit) ⊕ Empty)).bind (Sum.elim (fun d17 =>
bif d17.2.2.2.1 then
(some (.inr (.inl (true, d17.2.2.2.2.1, ()))))
else
(some (.inl (d17.1, d17.2.1, (IntKind.i64.wrap (d17.2.2.1 + (1 : Int))), d17.2.2.2.2.1, ())))) nof))
else
(some (.inr (.inr (.inl (n2, ())))))
noncomputable def qab (self_law13_wide : (List qT1) → Int → Int → Option qT52) (n : Nat) (d : qT58) : Option (qT58 ⊕ ((Bool × Int × Unit) ⊕ qT10)) := qaa self_law13_wide n d.1 d.2.1 d.2.2.1 d.2.2.2.1
noncomputable def qac (self_law13_wide : (List qT1) → Int → Int → Option qT52) (n : Nat) (l0 : (List qT1)) (levels1 : Int) (no0 : Int) : Option qT52 :=
(bif (decide ((3000 : Int) < (IntKind.i64.wrap (no0 + (l0.length : Int))))) then
(some (.inl (l0, levels1, true, (IntKind.i64.wrap (no0 + (l0.length : Int))), ())))
else
(some (.inl (l0, levels1, (decide ((70 : Int) < levels1)), (IntKind.i64.wrap (no0 + (l0.length : Int))), ()))) : Option (((List qT1) × Int × Bool × Int × Unit) ⊕ Empty)).bind (Sum.elim (fun d2 =>
bif d2.2.2.1 then
(some ((true, ()), (d2.2.2.2.1, ())))
else
((iterN (qab self_law13_wide n) n (d2.1, d2.2.1, (0 : Int), d2.2.2.2.1, ())).bind (Sum.elim (fun d21 =>
some ((d21.1, ()), (d21.2.1, ()))) (Sum.elim (fun d20 =>
some ((false, ()), (d20.1, ()))) nof)))) nof)
noncomputable def qad : Nat → (List qT1) → Int → Int → Option qT52
  | 0 => fun _ _ _ => none
  | n + 1 => qac (qad n) n
/-! "commodatum/commodatumlaw13.Wide" -/
noncomputable def qae (n : Nat) (p1 : qT0) (i4 : Int) (k5 : Int) (n3 : Int) : Option (qT49 ⊕ (qT39 ⊕ Empty)) :=
((idx p1.2.2.2.1 i4).bind fun v15 =>
bif (decide (k5 < (v15.length : Int))) then
(some (.inl (p1, i4, k5, (decide (n3 ≤ (20000 : Int))), n3, ())))
else
(some (.inl (p1, i4, k5, false, n3, ()))) : Option ((qT0 × Int × Int × Bool × Int × Unit) ⊕ Empty)).bind (Sum.elim (fun d16 =>
bif d16.2.2.2.1 then
((idx d16.1.2.2.2.1 d16.2.1).bind fun v17 =>
(idx v17 d16.2.2.1).bind fun v18 =>
some (.inl (d16.1, d16.2.1, (IntKind.i64.wrap (d16.2.2.1 + (1 : Int))), (IntKind.i64.wrap (d16.2.2.2.2.1 + (IntKind.i64.wrap ((1 : Int) + (v18.2.1.length : Int))))), ())))
else
(some (.inr (.inl (d16.1, d16.2.1, d16.2.2.2.2.1, ()))))) nof)
noncomputable def qaf (n : Nat) (d : qT49) : Option (qT49 ⊕ (qT39 ⊕ Empty)) := qae n d.1 d.2.1 d.2.2.1 d.2.2.2.1
noncomputable def qag (n : Nat) (p1 : qT0) (i4 : Int) (n3 : Int) : Option (qT39 ⊕ qT10) :=
bif (decide (i4 < (p1.2.2.2.1.length : Int))) then
((iterN (qaf n) n (p1, i4, (0 : Int), n3, ())).bind (Sum.elim (fun d21 =>
some (.inl (d21.1, (IntKind.i64.wrap (d21.2.1 + (1 : Int))), d21.2.2.1, ()))) nof))
else
(some (.inr (.inl (n3, ()))))
noncomputable def qah (n : Nat) (d : qT39) : Option (qT39 ⊕ qT10) := qag n d.1 d.2.1 d.2.2.1
noncomputable def qai (n : Nat) (p0 : qT0) : Option (Bool × Unit) :=
(bif (decide ((1100 : Int) < (p0.2.2.2.1.length : Int))) then
(some (.inl (p0, true, (0 : Int), ())))
else
((qad n p0.2.2.2.2.1 (0 : Int) (0 : Int)).bind fun r4 =>
some (.inl (p0, r4.1.1, r4.2.1, ()))) : Option ((qT0 × Bool × Int × Unit) ⊕ Empty)).bind (Sum.elim (fun d5 =>
bif d5.2.1 then
(some (true, ()))
else
((iterN (qah n) n (d5.1, (0 : Int), (0 : Int), ())).bind (Sum.elim (fun d23 =>
some ((decide ((20000 : Int) < d23.1)), ())) nof))) nof)
/-! "commodatum/commodatumlaw13.example$1" -/
noncomputable def qaj (n : Nat) (n0 : Int) : Option ((Bool × (Int × Unit)) × Unit) :=
some ((false, (n0, ())), ())
/-! "commodatum/commodatumlaw13.example$2" -/
noncomputable def qak (n : Nat) (n0 : Int) : Option ((Bool × (Int × Unit)) × Unit) :=
some ((true, (n0, ())), ())
/-! "commodatum/commodatumlaw13.example" -/
noncomputable def qal (n : Nat)  : Option (qT0 × Unit) :=
(qaj n (1 : Int)).bind fun r3 =>
(qak n (0 : Int)).bind fun r4 =>
(qaj n (0 : Int)).bind fun r7 =>
(qak n (1 : Int)).bind fun r8 =>
some ((((2 : Int), ((1 : Int), ())), ((3 : Int), ((2 : Int), ([[((1 : Int), ([(1 : Int), (1 : Int)], ()))]], ([(Rose.node (((0 : Int), ((0 : Int), ((1 : Int), ((0 : Int), ((0 : Int), ([r3.1, r4.1], ())))))), ()) ([] : (List qT1))), (Rose.node (((0 : Int), ((2 : Int), ((1 : Int), ((0 : Int), ((0 : Int), ([r7.1, r8.1], ())))))), ()) ([] : (List qT1))), (Rose.node (((0 : Int), ((0 : Int), ((1 : Int), ((0 : Int), ((0 : Int), ([r3.1, r4.1], ())))))), ()) ([] : (List qT1))), (Rose.node (((0 : Int), ((2 : Int), ((1 : Int), ((0 : Int), ((0 : Int), ([r7.1, r8.1], ())))))), ()) ([] : (List qT1)))], ()))))), ())
/-! "commodatum/field.prime" -/
noncomputable def qam (n : Nat) (n0 : Int) (d3 : Int) : Option (qT27 ⊕ ((Bool × Unit) ⊕ qT10)) :=
bif (decide ((IntKind.i64.wrap (d3 * d3)) ≤ n0)) then
(bif decide (d3 = 0) then none else
bif (decide ((Int.tmod n0 d3) = (0 : Int))) then
(some (.inr (.inl (false, ()))))
else
(some (.inl (n0, (IntKind.i64.wrap (d3 + (1 : Int))), ()))))
else
(some (.inr (.inr (.inl (n0, ())))))
noncomputable def qan (n : Nat) (d : qT27) : Option (qT27 ⊕ ((Bool × Unit) ⊕ qT10)) := qam n d.1 d.2.1
noncomputable def qao (n : Nat) (n0 : Int) : Option (Bool × Unit) :=
(iterN (qan n) n (n0, (2 : Int), ())).bind (Sum.elim (fun d4 =>
some (d4.1, ())) (Sum.elim (fun d3 =>
some ((decide ((1 : Int) < d3.1)), ())) nof))
/-! "commodatum/field.Valid" -/
noncomputable def qap (n : Nat) (f0 : qT2) : Option (Bool × Unit) :=
(bif (decide (f0.1 < (2 : Int))) then
(some (.inl (f0, true, ())))
else
(bif (decide ((65536 : Int) < f0.1)) then
(some (.inl (f0, true, ())))
else
(bif (decide (f0.2.1 < (1 : Int))) then
(some (.inl (f0, true, ())))
else
(bif (decide ((16 : Int) < f0.2.1)) then
(some (.inl (f0, true, ())))
else
(bif (decide ((1 : Int) < f0.2.1)) then
(some (.inl (f0, (!decide (f0.1 = (2 : Int))), ())))
else
(some (.inl (f0, false, ()))))))) : Option ((qT2 × Bool × Unit) ⊕ Empty)).bind (Sum.elim (fun d2 =>
bif d2.2.1 then
(some (false, ()))
else
((qao n d2.1.1).bind fun r3 =>
some (r3.1, ()))) nof)
/-! "commodatum/regs.vars" -/
noncomputable def qaq (n : Nat) (p0 : qT4) : Option (Int × (Bool × Unit)) :=
bif (decide ((p0.length : Int) = (0 : Int))) then
(some ((0 : Int), (false, ())))
else
((idx p0 (0 : Int)).bind fun v1 =>
some ((v1.2.1.length : Int), (true, ())))
/-! "commodatum/field.Order" -/
noncomputable def qar (n : Nat) (f0 : qT2) : Option (Int × Unit) :=
(qap n f0).bind fun r3 =>
bif (!r3.1) then
(some ((0 : Int), ()))
else
(bif (decide ((1 : Int) < f0.2.1)) then
(bif decide (f0.2.1 < 0) then none else
some ((IntKind.i64.wrap ((1 : Int) * 2 ^ (min (f0.2.1).toNat IntKind.i64.bits))), ()))
else
(some (f0.1, ())))
/-! "cmp.isNaN[int]" -/
noncomputable def qas (n : Nat) (x0 : Int) : Option (Bool × Unit) :=
some ((!decide (x0 = x0)), ())
/-! "cmp.Compare[int]" -/
noncomputable def qat (n : Nat) (x0 : Int) (y1 : Int) : Option (Int × Unit) :=
(qas n x0).bind fun r2 =>
(qas n y1).bind fun r4 =>
bif r2.1 then
(bif r4.1 then
(some ((0 : Int), ()))
else
(some ((-1 : Int), ())))
else
(bif r4.1 then
(some ((1 : Int), ()))
else
(bif (decide (x0 < y1)) then
(some ((-1 : Int), ()))
else
(bif (decide (y1 < x0)) then
(some ((1 : Int), ()))
else
(some ((0 : Int), ())))))
/-! "slices.Compare[[]int,int]" -/
noncomputable def qau (n : Nat) (s10 : (List Int)) (s21 : (List Int)) (t9 : (List Int)) (t10 : Int) (t11 : Int) : Option qT47 :=
bif (decide (t11 < t10)) then
((idx t9 t11).bind fun v10 =>
bif (decide ((s21.length : Int) ≤ t11)) then
(some (.inr (.inl ((1 : Int), ()))))
else
((idx s21 t11).bind fun v11 =>
(qat n v10 v11).bind fun r12 =>
bif (!decide (r12.1 = (0 : Int))) then
(some (.inr (.inl (r12.1, ()))))
else
(some (.inl (s10, s21, t9, t10, (IntKind.i64.wrap (t11 + (1 : Int))), ())))))
else
(some (.inr (.inr (.inl (s10, s21, ())))))
noncomputable def qav (n : Nat) (d : ((List Int) × (List Int) × (List Int) × Int × Int × Unit)) : Option qT47 := qau n d.1 d.2.1 d.2.2.1 d.2.2.2.1 d.2.2.2.2.1
noncomputable def qaw (n : Nat) (s10 : (List Int)) (s21 : (List Int)) : Option (Int × Unit) :=
(iterN (qav n) n (s10, s21, s10, (s10.length : Int), (0 : Int), ())).bind (Sum.elim (fun d16 =>
some (d16.1, ())) (Sum.elim (fun d15 =>
bif (decide ((d15.1.length : Int) < (d15.2.1.length : Int))) then
(some ((-1 : Int), ()))
else
(some ((0 : Int), ()))) nof))
/-! "commodatum/poly.exponents" -/
noncomputable def qax (n : Nat) (a0 : (Int × qT25)) (b1 : (Int × qT25)) : Option (Int × Unit) :=
(qaw n a0.2.1 b1.2.1).bind fun r1 =>
some (r1.1, ())
/-! "commodatum/poly.Valid$1" -/
noncomputable def qay (n : Nat) (e0 : Int) : Option (Bool × Unit) :=
bif (decide (e0 < (0 : Int))) then
(some (true, ()))
else
(some ((decide ((65535 : Int) < e0)), ()))
/-! "slices.IndexFunc[[]int,int]" -/
noncomputable def qaz (n : Nat) (s0 : (List Int)) (f1 : Unit) (t7 : Int) (t8 : Int) : Option (((List Int) × Unit × Int × Int × Unit) ⊕ qT37) :=
bif (decide (t8 < t7)) then
((idx s0 t8).bind fun v7 =>
(qay n v7).bind fun r8 =>
bif r8.1 then
(some (.inr (.inl (t8, ()))))
else
(some (.inl (s0, (), t7, (IntKind.i64.wrap (t8 + (1 : Int))), ()))))
else
(some (.inr (.inr (.inl (())))))
noncomputable def qa0 (n : Nat) (d : ((List Int) × Unit × Int × Int × Unit)) : Option (((List Int) × Unit × Int × Int × Unit) ⊕ qT37) := qaz n d.1 d.2.1 d.2.2.1 d.2.2.2.1
noncomputable def qa1 (n : Nat) (s0 : (List Int)) : Option (Int × Unit) :=
(iterN (qa0 n) n (s0, (), (s0.length : Int), (0 : Int), ())).bind (Sum.elim (fun d12 =>
some (d12.1, ())) (Sum.elim (fun d11 =>
some ((-1 : Int), ())) nof))
/-! "slices.ContainsFunc[[]int,int]" -/
noncomputable def qa2 (n : Nat) (s0 : (List Int)) : Option (Bool × Unit) :=
(qa1 n s0).bind fun r1 =>
some ((decide ((0 : Int) ≤ r1.1)), ())
/-! "commodatum/poly.Valid" -/
noncomputable def qa3 (n : Nat) (n1 : Int) (p2 : qT4) (order7 : Int) (t27 : qT4) (t28 : Int) (t29 : Int) : Option ((Int × qT4 × Int × qT4 × Int × Int × Unit) ⊕ qT8) :=
bif (decide (t29 < t28)) then
((idx t27 t29).bind fun v22 =>
(bif (decide (v22.1 < (1 : Int))) then
(some (.inl (n1, p2, order7, t27, t28, t29, true, v22, ())))
else
(bif (decide (order7 ≤ v22.1)) then
(some (.inl (n1, p2, order7, t27, t28, t29, true, v22, ())))
else
(bif (!decide ((v22.2.1.length : Int) = n1)) then
(some (.inl (n1, p2, order7, t27, t28, t29, true, v22, ())))
else
(bif (decide ((0 : Int) < t29)) then
((idx p2 (IntKind.i64.wrap (t29 - (1 : Int)))).bind fun v23 =>
(qax n v23 v22).bind fun r24 =>
some (.inl (n1, p2, order7, t27, t28, t29, (decide ((0 : Int) ≤ r24.1)), v22, ())))
else
(some (.inl (n1, p2, order7, t27, t28, t29, false, v22, ())))))) : Option ((Int × qT4 × Int × qT4 × Int × Int × Bool × (Int × qT25) × Unit) ⊕ Empty)).bind (Sum.elim (fun d25 =>
bif d25.2.2.2.2.2.2.1 then
(some (.inr (.inl (false, ()))))
else
((qa2 n d25.2.2.2.2.2.2.2.1.2.1).bind fun r26 =>
bif r26.1 then
(some (.inr (.inl (false, ()))))
else
(some (.inl (d25.1, d25.2.1, d25.2.2.1, d25.2.2.2.1, d25.2.2.2.2.1, (IntKind.i64.wrap (d25.2.2.2.2.2.1 + (1 : Int))), ()))))) nof))
else
(some (.inr (.inr (.inl (())))))
noncomputable def qa4 (n : Nat) (d : (Int × qT4 × Int × qT4 × Int × Int × Unit)) : Option ((Int × qT4 × Int × qT4 × Int × Int × Unit) ⊕ qT8) := qa3 n d.1 d.2.1 d.2.2.1 d.2.2.2.1 d.2.2.2.2.1 d.2.2.2.2.2.1
noncomputable def qa5 (n : Nat) (f0 : qT2) (n1 : Int) (p2 : qT4) : Option (Bool × Unit) :=
(qar n f0).bind fun r2 =>
(bif (decide (r2.1 = (0 : Int))) then
(some (.inl (n1, p2, r2.1, true, ())))
else
(bif (decide (n1 < (0 : Int))) then
(some (.inl (n1, p2, r2.1, true, ())))
else
(bif (decide ((80 : Int) < n1)) then
(some (.inl (n1, p2, r2.1, true, ())))
else
(some (.inl (n1, p2, r2.1, (decide ((20000 : Int) < (p2.length : Int))), ()))))) : Option ((Int × qT4 × Int × Bool × Unit) ⊕ Empty)).bind (Sum.elim (fun d4 =>
bif d4.2.2.2.1 then
(some (false, ()))
else
((iterN (qa4 n) n (d4.1, d4.2.1, d4.2.2.1, d4.2.1, (d4.2.1.length : Int), (0 : Int), ())).bind (Sum.elim (fun d30 =>
some (d30.1, ())) (Sum.elim (fun d29 =>
some (true, ())) nof)))) nof)
/-! "(*commodatum/regs.checker).statement$1" -/
noncomputable def qa6 (n : Nat) (i0 : Int) (x1 : (qT0 × qT2)) : Option (Bool × Unit) :=
bif (decide ((0 : Int) ≤ i0)) then
(some ((decide (i0 < x1.1.2.1)), ()))
else
(some (false, ()))
/-! "(*commodatum/regs.checker).element" -/
noncomputable def qa7 (n : Nat) (c0 : (qT0 × qT2)) (x1 : Int) : Option (Bool × Unit) :=
bif (decide ((0 : Int) ≤ x1)) then
(some ((decide (x1 < c0.2.2.1)), ()))
else
(some (false, ()))
/-! "(*commodatum/regs.checker).statement$2" -/
noncomputable def qa8 (n : Nat) (r0 : (Bool × (Int × Unit))) (x1 : (qT0 × qT2)) (x2 : ((qT0 × qT2) × Unit)) (x3 : qT3) : Option (Bool × Unit) :=
bif r0.1 then
(bif (decide (r0.2.1 < (0 : Int))) then
(some (true, ()))
else
(some ((decide (x1.1.2.2.1 ≤ r0.2.1)), ())))
else
((qa6 n r0.2.1 x2.1).bind fun r1 =>
bif (!r1.1) then
(some (true, ()))
else
(some ((decide (r0.2.1 = x3.2.1)), ())))
/-! "slices.IndexFunc[[]commodatum/api.Ref,commodatum/api.Ref]" -/
noncomputable def qa9 (n : Nat) (s0 : qT11) (f1 : qT24) (t7 : Int) (t8 : Int) : Option ((qT11 × qT24 × Int × Int × Unit) ⊕ qT37) :=
bif (decide (t8 < t7)) then
((idx s0 t8).bind fun v7 =>
(qa8 n v7 f1.1 (f1.2.1.1, ()) f1.2.2.1).bind fun r8 =>
bif r8.1 then
(some (.inr (.inl (t8, ()))))
else
(some (.inl (s0, (f1.1, ((f1.2.1.1, ()), (f1.2.2.1, ()))), t7, (IntKind.i64.wrap (t8 + (1 : Int))), ()))))
else
(some (.inr (.inr (.inl (())))))
noncomputable def qba (n : Nat) (d : (qT11 × qT24 × Int × Int × Unit)) : Option ((qT11 × qT24 × Int × Int × Unit) ⊕ qT37) := qa9 n d.1 d.2.1 d.2.2.1 d.2.2.2.1
noncomputable def qbb (n : Nat) (s0 : qT11) (f1 : qT24) : Option (Int × Unit) :=
(iterN (qba n) n (s0, (f1.1, ((f1.2.1.1, ()), (f1.2.2.1, ()))), (s0.length : Int), (0 : Int), ())).bind (Sum.elim (fun d12 =>
some (d12.1, ())) (Sum.elim (fun d11 =>
some ((-1 : Int), ())) nof))
/-! "slices.ContainsFunc[[]commodatum/api.Ref,commodatum/api.Ref]" -/
noncomputable def qbc (n : Nat) (s0 : qT11) (f1 : qT24) : Option (Bool × Unit) :=
(qbb n s0 (f1.1, ((f1.2.1.1, ()), (f1.2.2.1, ())))).bind fun r1 =>
some ((decide ((0 : Int) ≤ r1.1)), ())
/-! "(*commodatum/regs.checker).statement" -/
noncomputable def qbd (self_regs_checker_statement : qT1 → Int → (qT0 × qT2) → Option qT6) (self_regs_checker_list_1 : qT1 → Int → (qT0 × qT2) → Option qT6) (self_slices_IndexFunc_api_Stmt__regs_checker_list_1 : (List qT1) → qT13 → (qT0 × qT2) → Option qT19) (self_slices_ContainsFunc_api_Stmt__regs_checker_list_1 : (List qT1) → qT13 → (qT0 × qT2) → Option qT6) (self_regs_checker_list : (List qT1) → Int → (qT0 × qT2) → Option qT6) (n : Nat) (s1 : qT1) (depth2 : Int) (co0 : (qT0 × qT2)) : Option qT6 :=
bif (decide ((Rose.val s1).1.1 = (0 : Int))) then
((bif (!decide ((Rose.val s1).1.2.2.2.2.1 = (0 : Int))) then
(some (.inl ((), ((Rose.val s1).1.1, ((Rose.val s1).1.2.1, ((Rose.val s1).1.2.2.1, ((Rose.val s1).1.2.2.2.1, ((Rose.val s1).1.2.2.2.2.1, ((Rose.val s1).1.2.2.2.2.2.1, ((Rose.kids s1), ()))))))), ((), ()), true, co0, ())))
else
(bif (decide ((0 : Int) < (((Rose.kids s1)).length : Int))) then
(some (.inl ((), ((Rose.val s1).1.1, ((Rose.val s1).1.2.1, ((Rose.val s1).1.2.2.1, ((Rose.val s1).1.2.2.2.1, ((Rose.val s1).1.2.2.2.2.1, ((Rose.val s1).1.2.2.2.2.2.1, ((Rose.kids s1), ()))))))), ((), ()), true, co0, ())))
else
((qa6 n (Rose.val s1).1.2.1 co0).bind fun r21 =>
bif (!r21.1) then
(some (.inl ((), ((Rose.val s1).1.1, ((Rose.val s1).1.2.1, ((Rose.val s1).1.2.2.1, ((Rose.val s1).1.2.2.2.1, ((Rose.val s1).1.2.2.2.2.1, ((Rose.val s1).1.2.2.2.2.2.1, ((Rose.kids s1), ()))))))), ((), ()), true, co0, ())))
else
((qa7 n co0 (Rose.val s1).1.2.2.1).bind fun r22 =>
bif (!r22.1) then
(some (.inl ((), ((Rose.val s1).1.1, ((Rose.val s1).1.2.1, ((Rose.val s1).1.2.2.1, ((Rose.val s1).1.2.2.2.1, ((Rose.val s1).1.2.2.2.2.1, ((Rose.val s1).1.2.2.2.2.2.1, ((Rose.kids s1), ()))))))), ((), ()), true, co0, ())))
else
(bif (decide ((Rose.val s1).1.2.2.2.1 < (0 : Int))) then
(some (.inl ((), ((Rose.val s1).1.1, ((Rose.val s1).1.2.1, ((Rose.val s1).1.2.2.1, ((Rose.val s1).1.2.2.2.1, ((Rose.val s1).1.2.2.2.2.1, ((Rose.val s1).1.2.2.2.2.2.1, ((Rose.kids s1), ()))))))), ((), ()), true, co0, ())))
else
(bif (decide ((co0.1.2.2.2.1.length : Int) ≤ (Rose.val s1).1.2.2.2.1)) then
(some (.inl ((), ((Rose.val s1).1.1, ((Rose.val s1).1.2.1, ((Rose.val s1).1.2.2.1, ((Rose.val s1).1.2.2.2.1, ((Rose.val s1).1.2.2.2.2.1, ((Rose.val s1).1.2.2.2.2.2.1, ((Rose.kids s1), ()))))))), ((), ()), true, co0, ())))
else
(some (.inl ((), ((Rose.val s1).1.1, ((Rose.val s1).1.2.1, ((Rose.val s1).1.2.2.1, ((Rose.val s1).1.2.2.2.1, ((Rose.val s1).1.2.2.2.2.1, ((Rose.val s1).1.2.2.2.2.2.1, ((Rose.kids s1), ()))))))), ((), ()), (decide ((80 : Int) < (((Rose.val s1).1.2.2.2.2.2.1).length : Int))), co0, ())))))))) : Option ((Unit × qT3 × (Unit × Unit) × Bool × (qT0 × qT2) × Unit) ⊕ Empty)).bind (Sum.elim (fun d23 =>
bif d23.2.2.2.1 then
(some ((false, ()), (d23.2.2.2.2.1, ())))
else
((idx d23.2.2.2.2.1.1.2.2.2.1 d23.2.1.2.2.2.1).bind fun v24 =>
(qaq n v24).bind fun r25 =>
(bif r25.2.1 then
(some (.inl ((), d23.2.1, ((), ()), (!decide (r25.1 = (d23.2.1.2.2.2.2.2.1.length : Int))), d23.2.2.2.2.1, ())))
else
(some (.inl ((), d23.2.1, ((), ()), false, d23.2.2.2.2.1, ()))) : Option ((Unit × qT3 × (Unit × Unit) × Bool × (qT0 × qT2) × Unit) ⊕ Empty)).bind (Sum.elim (fun d26 =>
bif d26.2.2.2.1 then
(some ((false, ()), (d26.2.2.2.2.1, ())))
else
((qbc n d26.2.1.2.2.2.2.2.1 (d26.2.2.2.2.1, ((d26.2.2.2.2.1, ()), (d26.2.1, ())))).bind fun r27 =>
some (((!r27.1), ()), (d26.2.2.2.2.1, ())))) nof))) nof))
else
(bif (decide ((Rose.val s1).1.1 = (1 : Int))) then
(bif (decide ((Rose.val s1).1.2.2.2.1 = (0 : Int))) then
(bif (decide ((Rose.val s1).1.2.2.2.2.1 = (0 : Int))) then
(bif (decide ((((Rose.val s1).1.2.2.2.2.2.1).length : Int) = (0 : Int))) then
(bif (decide ((((Rose.kids s1)).length : Int) = (0 : Int))) then
((qa6 n (Rose.val s1).1.2.1 co0).bind fun r28 =>
bif r28.1 then
((qa7 n co0 (Rose.val s1).1.2.2.1).bind fun r29 =>
bif r29.1 then
(some (((!decide ((Rose.val s1).1.2.2.1 = (0 : Int))), ()), (co0, ())))
else
(some ((false, ()), (co0, ()))))
else
(some ((false, ()), (co0, ()))))
else
(some ((false, ()), (co0, ()))))
else
(some ((false, ()), (co0, ()))))
else
(some ((false, ()), (co0, ()))))
else
(some ((false, ()), (co0, ()))))
else
(bif (decide ((Rose.val s1).1.1 = (2 : Int))) then
(bif (decide ((Rose.val s1).1.2.1 = (0 : Int))) then
(bif (decide ((Rose.val s1).1.2.2.1 = (0 : Int))) then
(bif (decide ((Rose.val s1).1.2.2.2.1 = (0 : Int))) then
(bif (decide ((((Rose.val s1).1.2.2.2.2.2.1).length : Int) = (0 : Int))) then
(bif (decide ((0 : Int) ≤ (Rose.val s1).1.2.2.2.2.1)) then
(bif (decide ((Rose.val s1).1.2.2.2.2.1 ≤ (2000000 : Int))) then
((self_regs_checker_list (Rose.kids s1) (IntKind.i64.wrap (depth2 + (1 : Int))) co0).bind fun r30 =>
some ((r30.1.1, ()), (r30.2.1, ())))
else
(some ((false, ()), (co0, ()))))
else
(some ((false, ()), (co0, ()))))
else
(some ((false, ()), (co0, ()))))
else
(some ((false, ()), (co0, ()))))
else
(some ((false, ()), (co0, ()))))
else
(some ((false, ()), (co0, ()))))
else
(some ((false, ()), (co0, ())))))
/-! "(*commodatum/regs.checker).list$1" -/
noncomputable def qbe (self_regs_checker_statement : qT1 → Int → (qT0 × qT2) → Option qT6) (self_regs_checker_list_1 : qT1 → Int → (qT0 × qT2) → Option qT6) (self_slices_IndexFunc_api_Stmt__regs_checker_list_1 : (List qT1) → qT13 → (qT0 × qT2) → Option qT19) (self_slices_ContainsFunc_api_Stmt__regs_checker_list_1 : (List qT1) → qT13 → (qT0 × qT2) → Option qT6) (self_regs_checker_list : (List qT1) → Int → (qT0 × qT2) → Option qT6) (n : Nat) (s0 : qT1) (x2 : Int) (co0 : (qT0 × qT2)) : Option qT6 :=
(self_regs_checker_statement (Rose.node (((Rose.val s0).1.1, ((Rose.val s0).1.2.1, ((Rose.val s0).1.2.2.1, ((Rose.val s0).1.2.2.2.1, ((Rose.val s0).1.2.2.2.2.1, ((Rose.val s0).1.2.2.2.2.2.1, ())))))), ()) (Rose.kids s0)) x2 co0).bind fun r1 =>
some (((!r1.1.1), ()), (r1.2.1, ()))
/-! "slices.IndexFunc[[]commodatum/api.Stmt,commodatum/api.Stmt]" -/
noncomputable def qbf (self_regs_checker_statement : qT1 → Int → (qT0 × qT2) → Option qT6) (self_regs_checker_list_1 : qT1 → Int → (qT0 × qT2) → Option qT6) (self_slices_IndexFunc_api_Stmt__regs_checker_list_1 : (List qT1) → qT13 → (qT0 × qT2) → Option qT19) (self_slices_ContainsFunc_api_Stmt__regs_checker_list_1 : (List qT1) → qT13 → (qT0 × qT2) → Option qT6) (self_regs_checker_list : (List qT1) → Int → (qT0 × qT2) → Option qT6) (n : Nat) (s0 : (List qT1)) (f1 : qT13) (t7 : Int) (t8 : Int) (c0 : (qT0 × qT2)) : Option qT48 :=
bif (decide (t8 < t7)) then
((idx s0 t8).bind fun v7 =>
(self_regs_checker_list_1 v7 f1.2.1 c0).bind fun r8 =>
bif r8.1.1 then
(some (.inr (.inl (t8, r8.2.1, ()))))
else
(some (.inl (s0, ((), (f1.2.1, ())), t7, (IntKind.i64.wrap (t8 + (1 : Int))), r8.2.1, ()))))
else
(some (.inr (.inr (.inl (c0, ())))))
noncomputable def qbg (self_regs_checker_statement : qT1 → Int → (qT0 × qT2) → Option qT6) (self_regs_checker_list_1 : qT1 → Int → (qT0 × qT2) → Option qT6) (self_slices_IndexFunc_api_Stmt__regs_checker_list_1 : (List qT1) → qT13 → (qT0 × qT2) → Option qT19) (self_slices_ContainsFunc_api_Stmt__regs_checker_list_1 : (List qT1) → qT13 → (qT0 × qT2) → Option qT6) (self_regs_checker_list : (List qT1) → Int → (qT0 × qT2) → Option qT6) (n : Nat) (d : ((List qT1) × qT13 × Int × Int × (qT0 × qT2) × Unit)) : Option qT48 := qbf self_regs_checker_statement self_regs_checker_list_1 self_slices_IndexFunc_api_Stmt__regs_checker_list_1 self_slices_ContainsFunc_api_Stmt__regs_checker_list_1 self_regs_checker_list n d.1 d.2.1 d.2.2.1 d.2.2.2.1 d.2.2.2.2.1
noncomputable def qbh (self_regs_checker_statement : qT1 → Int → (qT0 × qT2) → Option qT6) (self_regs_checker_list_1 : qT1 → Int → (qT0 × qT2) → Option qT6) (self_slices_IndexFunc_api_Stmt__regs_checker_list_1 : (List qT1) → qT13 → (qT0 × qT2) → Option qT19) (self_slices_ContainsFunc_api_Stmt__regs_checker_list_1 : (List qT1) → qT13 → (qT0 × qT2) → Option qT6) (self_regs_checker_list : (List qT1) → Int → (qT0 × qT2) → Option qT6) (n : Nat) (s0 : (List qT1)) (f1 : qT13) (co0 : (qT0 × qT2)) : Option qT19 :=
(iterN (qbg self_regs_checker_statement self_regs_checker_list_1 self_slices_IndexFunc_api_Stmt__regs_checker_list_1 self_slices_ContainsFunc_api_Stmt__regs_checker_list_1 self_regs_checker_list n) n (s0, ((), (f1.2.1, ())), (s0.length : Int), (0 : Int), co0, ())).bind (Sum.elim (fun d12 =>
some ((d12.1, ()), (d12.2.1, ()))) (Sum.elim (fun d11 =>
some (((-1 : Int), ()), (d11.1, ()))) nof))
/-! "slices.ContainsFunc[[]commodatum/api.Stmt,commodatum/api.Stmt]" -/
noncomputable def qbi (self_regs_checker_statement : qT1 → Int → (qT0 × qT2) → Option qT6) (self_regs_checker_list_1 : qT1 → Int → (qT0 × qT2) → Option qT6) (self_slices_IndexFunc_api_Stmt__regs_checker_list_1 : (List qT1) → qT13 → (qT0 × qT2) → Option qT19) (self_slices_ContainsFunc_api_Stmt__regs_checker_list_1 : (List qT1) → qT13 → (qT0 × qT2) → Option qT6) (self_regs_checker_list : (List qT1) → Int → (qT0 × qT2) → Option qT6) (n : Nat) (s0 : (List qT1)) (f1 : qT13) (co0 : (qT0 × qT2)) : Option qT6 :=
(self_slices_IndexFunc_api_Stmt__regs_checker_list_1 s0 ((), (f1.2.1, ())) co0).bind fun r1 =>
some (((decide ((0 : Int) ≤ r1.1.1)), ()), (r1.2.1, ()))
/-! "(*commodatum/regs.checker).list" -/
noncomputable def qbj (self_regs_checker_statement : qT1 → Int → (qT0 × qT2) → Option qT6) (self_regs_checker_list_1 : qT1 → Int → (qT0 × qT2) → Option qT6) (self_slices_IndexFunc_api_Stmt__regs_checker_list_1 : (List qT1) → qT13 → (qT0 × qT2) → Option qT19) (self_slices_ContainsFunc_api_Stmt__regs_checker_list_1 : (List qT1) → qT13 → (qT0 × qT2) → Option qT6) (self_regs_checker_list : (List qT1) → Int → (qT0 × qT2) → Option qT6) (n : Nat) (l1 : (List qT1)) (depth2 : Int) (co0 : (qT0 × qT2)) : Option qT6 :=
(bif (decide ((co0.1, ((IntKind.i64.wrap (co0.2.1 - (l1.length : Int))), co0.2.2)).2.1 < (0 : Int))) then
(some (.inl (l1, (), depth2, true, (co0.1, ((IntKind.i64.wrap (co0.2.1 - (l1.length : Int))), co0.2.2)), ())))
else
(some (.inl (l1, (), depth2, (decide ((60 : Int) < depth2)), (co0.1, ((IntKind.i64.wrap (co0.2.1 - (l1.length : Int))), co0.2.2)), ()))) : Option (((List qT1) × Unit × Int × Bool × (qT0 × qT2) × Unit) ⊕ Empty)).bind (Sum.elim (fun d2 =>
bif d2.2.2.2.1 then
(some ((false, ()), (d2.2.2.2.2.1, ())))
else
((self_slices_ContainsFunc_api_Stmt__regs_checker_list_1 d2.1 ((), (d2.2.2.1, ())) d2.2.2.2.2.1).bind fun r3 =>
some (((!r3.1.1), ()), (r3.2.1, ())))) nof)
noncomputable def qbk : Nat → (qT1 → Int → (qT0 × qT2) → Option qT6) × (qT1 → Int → (qT0 × qT2) → Option qT6) × ((List qT1) → qT13 → (qT0 × qT2) → Option qT19) × ((List qT1) → qT13 → (qT0 × qT2) → Option qT6) × ((List qT1) → Int → (qT0 × qT2) → Option qT6)
  | 0 => ((fun _ _ _ => none), (fun _ _ _ => none), (fun _ _ _ => none), (fun _ _ _ => none), (fun _ _ _ => none))
  | n + 1 => (qbd (qbk n).1 (qbk n).2.1 (qbk n).2.2.1 (qbk n).2.2.2.1 (qbk n).2.2.2.2 n, qbe (qbk n).1 (qbk n).2.1 (qbk n).2.2.1 (qbk n).2.2.2.1 (qbk n).2.2.2.2 n, qbh (qbk n).1 (qbk n).2.1 (qbk n).2.2.1 (qbk n).2.2.2.1 (qbk n).2.2.2.2 n, qbi (qbk n).1 (qbk n).2.1 (qbk n).2.2.1 (qbk n).2.2.2.1 (qbk n).2.2.2.2 n, qbj (qbk n).1 (qbk n).2.1 (qbk n).2.2.1 (qbk n).2.2.2.1 (qbk n).2.2.2.2 n)
noncomputable def qbl (n : Nat) : qT1 → Int → (qT0 × qT2) → Option qT6 := (qbk n).1
noncomputable def qbm (n : Nat) : qT1 → Int → (qT0 × qT2) → Option qT6 := (qbk n).2.1
noncomputable def qbn (n : Nat) : (List qT1) → qT13 → (qT0 × qT2) → Option qT19 := (qbk n).2.2.1
noncomputable def qbo (n : Nat) : (List qT1) → qT13 → (qT0 × qT2) → Option qT6 := (qbk n).2.2.2.1
noncomputable def qbp (n : Nat) : (List qT1) → Int → (qT0 × qT2) → Option qT6 := (qbk n).2.2.2.2
/-! "commodatum/regs.Valid" -/
noncomputable def qbq (n : Nat) (p1 : qT0) (t39 : (List qT4)) (t40 : Int) (t41 : Int) : Option qT68 :=
bif (decide (t41 < t40)) then
((idx t39 t41).bind fun v15 =>
(qaq n v15).bind fun r16 =>
(qa5 n p1.1 r16.1 v15).bind fun r17 =>
bif (!r17.1) then
(some (.inr (.inl (false, ()))))
else
(some (.inl (p1, t39, t40, (IntKind.i64.wrap (t41 + (1 : Int))), ()))))
else
(some (.inr (.inr (.inl (p1, ())))))
noncomputable def qbr (n : Nat) (d : (qT0 × (List qT4) × Int × Int × Unit)) : Option qT68 := qbq n d.1 d.2.1 d.2.2.1 d.2.2.2.1
noncomputable def qbs (n : Nat) (p0 : qT0) : Option (Bool × Unit) :=
((qap n p0.1).bind fun r4 =>
bif (!r4.1) then
(some (.inl (p0, true, ())))
else
(bif (decide (p0.2.1 < (1 : Int))) then
(some (.inl (p0, true, ())))
else
(bif (decide ((64 : Int) < p0.2.1)) then
(some (.inl (p0, true, ())))
else
(bif (decide (p0.2.2.1 < (0 : Int))) then
(some (.inl (p0, true, ())))
else
(bif (decide ((64 : Int) < p0.2.2.1)) then
(some (.inl (p0, true, ())))
else
(some (.inl (p0, (decide ((1000 : Int) < (p0.2.2.2.1.length : Int))), ()))))))) : Option ((qT0 × Bool × Unit) ⊕ Empty)).bind (Sum.elim (fun d5 =>
bif d5.2.1 then
(some (false, ()))
else
((iterN (qbr n) n (d5.1, d5.1.2.2.2.1, (d5.1.2.2.2.1.length : Int), (0 : Int), ())).bind (Sum.elim (fun d24 =>
some (d24.1, ())) (Sum.elim (fun d20 =>
(qar n d20.1.1).bind fun r22 =>
(qbp n d20.1.2.2.2.2.1 (0 : Int) (d20.1, ((200000 : Int), (r22.1, ())))).bind fun r23 =>
some (r23.1.1, ())) nof)))) nof)
/-! "commodatum/regs.steps" -/
noncomputable def qbt (self_regs_steps : (List qT1) → Option (Int × Unit)) (n : Nat) (n3 : Int) (t7 : (List qT1)) (t8 : Int) (t9 : Int) : Option ((Int × (List qT1) × Int × Int × Unit) ⊕ qT10) :=
bif (decide (t9 < t8)) then
((idx t7 t9).bind fun v13 =>
(bif (decide ((Rose.val v13).1.1 = (2 : Int))) then
((self_regs_steps (Rose.kids v13)).bind fun r14 =>
(bif (decide ((0 : Int) < (Rose.val v13).1.2.2.2.2.1)) then
(bif decide ((Rose.val v13).1.2.2.2.2.1 = 0) then none else
some (.inl (n3, r14.1, t7, t8, t9, (decide ((IntKind.i64.wrap (Int.tdiv (1099511627776 : Int) (Rose.val v13).1.2.2.2.2.1)) < r14.1)), ((Rose.val v13).1.1, ((Rose.val v13).1.2.1, ((Rose.val v13).1.2.2.1, ((Rose.val v13).1.2.2.2.1, ((Rose.val v13).1.2.2.2.2.1, ((Rose.val v13).1.2.2.2.2.2.1, ((Rose.kids v13), ()))))))), ())))
else
(some (.inl (n3, r14.1, t7, t8, t9, false, ((Rose.val v13).1.1, ((Rose.val v13).1.2.1, ((Rose.val v13).1.2.2.1, ((Rose.val v13).1.2.2.2.1, ((Rose.val v13).1.2.2.2.2.1, ((Rose.val v13).1.2.2.2.2.2.1, ((Rose.kids v13), ()))))))), ()))) : Option ((Int × Int × (List qT1) × Int × Int × Bool × qT3 × Unit) ⊕ Empty)).bind (Sum.elim (fun d15 =>
bif d15.2.2.2.2.2.1 then
(some (.inl (d15.1, (1099511627777 : Int), d15.2.2.1, d15.2.2.2.1, d15.2.2.2.2.1, ())))
else
(some (.inl (d15.1, (IntKind.i64.wrap (d15.2.1 * d15.2.2.2.2.2.2.1.2.2.2.2.1)), d15.2.2.1, d15.2.2.2.1, d15.2.2.2.2.1, ())))) nof))
else
(some (.inl (n3, (1 : Int), t7, t8, t9, ()))) : Option ((Int × Int × (List qT1) × Int × Int × Unit) ⊕ Empty)).bind (Sum.elim (fun d16 =>
some (.inl ((if (1099511627777 : Int) < (IntKind.i64.wrap (d16.1 + d16.2.1)) then (1099511627777 : Int) else (IntKind.i64.wrap (d16.1 + d16.2.1))), d16.2.2.1, d16.2.2.2.1, (IntKind.i64.wrap (d16.2.2.2.2.1 + (1 : Int))), ()))) nof))
else
(some (.inr (.inl (n3, ()))))
noncomputable def qbu (self_regs_steps : (List qT1) → Option (Int × Unit)) (n : Nat) (d : (Int × (List qT1) × Int × Int × Unit)) : Option ((Int × (List qT1) × Int × Int × Unit) ⊕ qT10) := qbt self_regs_steps n d.1 d.2.1 d.2.2.1 d.2.2.2.1
noncomputable def qbv (self_regs_steps : (List qT1) → Option (Int × Unit)) (n : Nat) (l0 : (List qT1)) : Option (Int × Unit) :=
(iterN (qbu self_regs_steps n) n ((0 : Int), l0, (l0.length : Int), (0 : Int), ())).bind (Sum.elim (fun d18 =>
some (d18.1, ())) nof)
noncomputable def qbw : Nat → (List qT1) → Option (Int × Unit)
  | 0 => fun _ => none
  | n + 1 => qbv (qbw n) n
/-! "commodatum/regs.Steps" -/
noncomputable def qbx (n : Nat) (p0 : qT0) : Option qT2 :=
(qbs n p0).bind fun r3 =>
bif (!r3.1) then
(some ((0 : Int), ((1 : Int), ())))
else
((qbw n p0.2.2.2.2.1).bind fun r5 =>
bif (decide ((1099511627776 : Int) < r5.1)) then
(some ((0 : Int), ((5 : Int), ())))
else
(some (r5.1, ((0 : Int), ()))))
/-! "commodatum/regs.Run$1" -/
noncomputable def qby (n : Nat) (x0 : Int) (x1 : Int) : Option (Bool × Unit) :=
bif (decide (x0 < (0 : Int))) then
(some (true, ()))
else
(some ((decide (x1 ≤ x0)), ()))
/-! "slices.IndexFunc[[]int,int]" -/
noncomputable def qbz (n : Nat) (s0 : (List Int)) (f1 : (Int × Unit)) (t7 : Int) (t8 : Int) : Option (qT67 ⊕ qT37) :=
bif (decide (t8 < t7)) then
((idx s0 t8).bind fun v7 =>
(qby n v7 f1.1).bind fun r8 =>
bif r8.1 then
(some (.inr (.inl (t8, ()))))
else
(some (.inl (s0, (f1.1, ()), t7, (IntKind.i64.wrap (t8 + (1 : Int))), ()))))
else
(some (.inr (.inr (.inl (())))))
noncomputable def qb0 (n : Nat) (d : qT67) : Option (qT67 ⊕ qT37) := qbz n d.1 d.2.1 d.2.2.1 d.2.2.2.1
noncomputable def qb1 (n : Nat) (s0 : (List Int)) (f1 : (Int × Unit)) : Option (Int × Unit) :=
(iterN (qb0 n) n (s0, (f1.1, ()), (s0.length : Int), (0 : Int), ())).bind (Sum.elim (fun d12 =>
some (d12.1, ())) (Sum.elim (fun d11 =>
some ((-1 : Int), ())) nof))
/-! "slices.ContainsFunc[[]int,int]" -/
noncomputable def qb2 (n : Nat) (s0 : (List Int)) (f1 : (Int × Unit)) : Option (Bool × Unit) :=
(qb1 n s0 (f1.1, ())).bind fun r1 =>
some ((decide ((0 : Int) ≤ r1.1)), ())
/-! "slices.Clone[[]int,int]" -/
noncomputable def qb3 (n : Nat) (nb : Bool) (s0 : (List Int)) : Option qT25 :=
bif nb then
(some (([] : (List Int)), ()))
else
(chk (lenB ((([] : (List Int))).length + (s0).length)) (some ((([] : (List Int)) ++ s0), ())))
noncomputable def qb4 (n : Nat) (s0 : (List Int)) : Option qT25 := qb3 n false s0
/-! "commodatum/field.moduli" -/
noncomputable def qb5 (n : Nat) (degree0 : Int) : Option (Int × Unit) :=
(idx [(7 : Int), (11 : Int), (19 : Int), (37 : Int), (67 : Int), (131 : Int), (283 : Int), (515 : Int), (1033 : Int), (2053 : Int), (4105 : Int), (8219 : Int), (16417 : Int), (32771 : Int), (65579 : Int)] (IntKind.i64.wrap (degree0 - (2 : Int)))).bind fun v1 =>
some (v1, ())
/-! "commodatum/field.Modulus" -/
noncomputable def qb6 (n : Nat) (f0 : qT2) : Option qT2 :=
(qap n f0).bind fun r3 =>
bif (!r3.1) then
(some ((0 : Int), ((1 : Int), ())))
else
(bif (decide (f0.2.1 = (1 : Int))) then
(some ((0 : Int), ((6 : Int), ())))
else
((qb5 n f0.2.1).bind fun r4 =>
some (r4.1, ((0 : Int), ()))))
/-! "commodatum/regs.newCalc" -/
noncomputable def qb7 (n : Nat) (f0 : qT2) : Option (qT5 × Unit) :=
(qb6 n f0).bind fun r2 =>
(qar n f0).bind fun r3 =>
some ((some (f0, (r3.1, (r2.1, ())))), ())
/-! "(*commodatum/regs.calc).mul" -/
noncomputable def qb8 (n : Nat) (c0 : qT5) (a1 : Int) (b2 : Int) (n7 : Int) : Option (qT28 ⊕ qT10) :=
bif (decide ((0 : Int) < b2)) then
(((bif (decide ((IntKind.i64.wrap ((BitVec.ofInt IntKind.i64.bits b2 &&& BitVec.ofInt IntKind.i64.bits (1 : Int)).toNat)) = (1 : Int))) then
(some (.inl (c0, a1, b2, (IntKind.i64.wrap ((BitVec.ofInt IntKind.i64.bits n7 ^^^ BitVec.ofInt IntKind.i64.bits a1).toNat)), ())))
else
(some (.inl (c0, a1, b2, n7, ()))) : Option (qT28 ⊕ Empty)).bind (Sum.elim (fun d14 =>
bif decide ((1 : Int) < 0) then none else
(Option.bind d14.1 fun p15 =>
bif (decide (p15.2.1 ≤ (IntKind.i64.wrap (d14.2.1 * 2 ^ (min ((1 : Int)).toNat IntKind.i64.bits))))) then
((Option.bind d14.1 fun p16 =>
some (.inl (d14.1, (IntKind.i64.wrap ((BitVec.ofInt IntKind.i64.bits (IntKind.i64.wrap (d14.2.1 * 2 ^ (min ((1 : Int)).toNat IntKind.i64.bits))) ^^^ BitVec.ofInt IntKind.i64.bits p16.2.2.1).toNat)), d14.2.2.1, d14.2.2.2.1, ()))))
else
(some (.inl (d14.1, (IntKind.i64.wrap (d14.2.1 * 2 ^ (min ((1 : Int)).toNat IntKind.i64.bits))), d14.2.2.1, d14.2.2.2.1, ()))))) nof) : Option (qT28 ⊕ Empty)).bind (Sum.elim (fun d17 =>
bif decide ((1 : Int) < 0) then none else
some (.inl (d17.1, d17.2.1, (Int.fdiv d17.2.2.1 (2 ^ (min ((1 : Int)).toNat IntKind.i64.bits))), d17.2.2.2.1, ()))) nof))
else
(some (.inr (.inl (n7, ()))))
noncomputable def qb9 (n : Nat) (d : qT28) : Option (qT28 ⊕ qT10) := qb8 n d.1 d.2.1 d.2.2.1 d.2.2.2.1
noncomputable def qca (n : Nat) (c0 : qT5) (a1 : Int) (b2 : Int) : Option (Int × Unit) :=
(Option.bind c0 fun p4 =>
bif (decide (p4.1.2.1 = (1 : Int))) then
((Option.bind c0 fun p5 =>
bif decide (p5.2.1 = 0) then none else
some ((Int.tmod (IntKind.i64.wrap (a1 * b2)) p5.2.1), ())))
else
((iterN (qb9 n) n (c0, a1, b2, (0 : Int), ())).bind (Sum.elim (fun d19 =>
some (d19.1, ())) nof)))
/-! "(*commodatum/regs.calc).power" -/
noncomputable def qcb (n : Nat) (c0 : qT5) (a1 : Int) (k2 : Int) (n7 : Int) : Option (qT28 ⊕ qT10) :=
bif (decide ((0 : Int) < k2)) then
((bif (decide ((IntKind.i64.wrap ((BitVec.ofInt IntKind.i64.bits k2 &&& BitVec.ofInt IntKind.i64.bits (1 : Int)).toNat)) = (1 : Int))) then
((qca n c0 n7 a1).bind fun r8 =>
some (.inl (c0, a1, k2, r8.1, ())))
else
(some (.inl (c0, a1, k2, n7, ()))) : Option (qT28 ⊕ Empty)).bind (Sum.elim (fun d9 =>
(qca n d9.1 d9.2.1 d9.2.1).bind fun r10 =>
bif decide ((1 : Int) < 0) then none else
some (.inl (d9.1, r10.1, (Int.fdiv d9.2.2.1 (2 ^ (min ((1 : Int)).toNat IntKind.i64.bits))), d9.2.2.2.1, ()))) nof))
else
(some (.inr (.inl (n7, ()))))
noncomputable def qcc (n : Nat) (d : qT28) : Option (qT28 ⊕ qT10) := qcb n d.1 d.2.1 d.2.2.1 d.2.2.2.1
noncomputable def qcd (n : Nat) (c0 : qT5) (a1 : Int) (k2 : Int) : Option (Int × Unit) :=
(iterN (qcc n) n (c0, a1, k2, (1 : Int), ())).bind (Sum.elim (fun d12 =>
some (d12.1, ())) nof)
/-! "(*commodatum/regs.calc).add" -/
noncomputable def qce (n : Nat) (c0 : qT5) (a1 : Int) (b2 : Int) : Option (Int × Unit) :=
(Option.bind c0 fun p3 =>
bif (decide ((1 : Int) < p3.1.2.1)) then
(some ((IntKind.i64.wrap ((BitVec.ofInt IntKind.i64.bits a1 ^^^ BitVec.ofInt IntKind.i64.bits b2).toNat)), ()))
else
((Option.bind c0 fun p4 =>
bif decide (p4.2.1 = 0) then none else
some ((Int.tmod (IntKind.i64.wrap (a1 + b2)) p4.2.1), ()))))
/-! "(*commodatum/regs.calc).eval" -/
noncomputable def qcf (n : Nat) (c0 : qT5) (at2 : (List Int)) (n7 : Int) (x10 : Int) (t13 : qT4) (t14 : Int) (t15 : Int) (t22 : (List Int)) (t23 : Int) (t24 : Int) : Option (qT26 ⊕ ((qT5 × (List Int) × Int × Int × qT4 × Int × Int × Unit) ⊕ Empty)) :=
bif (decide (t24 < t23)) then
(((idx t22 t24).bind fun v13 =>
bif (decide ((0 : Int) < v13)) then
((idx at2 t24).bind fun v14 =>
(qcd n c0 v14 v13).bind fun r15 =>
(qca n c0 x10 r15.1).bind fun r16 =>
some (.inl (c0, at2, n7, r16.1, t13, t14, t15, t22, t23, t24, ())))
else
(some (.inl (c0, at2, n7, x10, t13, t14, t15, t22, t23, t24, ()))) : Option (qT26 ⊕ Empty)).bind (Sum.elim (fun d17 =>
some (.inl (d17.1, d17.2.1, d17.2.2.1, d17.2.2.2.1, d17.2.2.2.2.1, d17.2.2.2.2.2.1, d17.2.2.2.2.2.2.1, d17.2.2.2.2.2.2.2.1, d17.2.2.2.2.2.2.2.2.1, (IntKind.i64.wrap (d17.2.2.2.2.2.2.2.2.2.1 + (1 : Int))), ()))) nof))
else
(some (.inr (.inl (c0, at2, n7, x10, t13, t14, t15, ()))))
noncomputable def qcg (n : Nat) (d : qT26) : Option (qT26 ⊕ ((qT5 × (List Int) × Int × Int × qT4 × Int × Int × Unit) ⊕ Empty)) := qcf n d.1 d.2.1 d.2.2.1 d.2.2.2.1 d.2.2.2.2.1 d.2.2.2.2.2.1 d.2.2.2.2.2.2.1 d.2.2.2.2.2.2.2.1 d.2.2.2.2.2.2.2.2.1 d.2.2.2.2.2.2.2.2.2.1
noncomputable def qch (n : Nat) (c0 : qT5) (at2 : (List Int)) (n7 : Int) (t13 : qT4) (t14 : Int) (t15 : Int) : Option (qT63 ⊕ qT10) :=
bif (decide (t15 < t14)) then
((idx t13 t15).bind fun v24 =>
(iterN (qcg n) n (c0, at2, n7, v24.1, t13, t14, t15, v24.2.1, (v24.2.1.length : Int), (0 : Int), ())).bind (Sum.elim (fun d25 =>
(qce n d25.1 d25.2.2.1 d25.2.2.2.1).bind fun r26 =>
some (.inl (d25.1, d25.2.1, r26.1, d25.2.2.2.2.1, d25.2.2.2.2.2.1, (IntKind.i64.wrap (d25.2.2.2.2.2.2.1 + (1 : Int))), ()))) nof))
else
(some (.inr (.inl (n7, ()))))
noncomputable def qci (n : Nat) (d : qT63) : Option (qT63 ⊕ qT10) := qch n d.1 d.2.1 d.2.2.1 d.2.2.2.1 d.2.2.2.2.1 d.2.2.2.2.2.1
noncomputable def qcj (n : Nat) (c0 : qT5) (p1 : qT4) (at2 : (List Int)) : Option (Int × Unit) :=
(iterN (qci n) n (c0, at2, (0 : Int), p1, (p1.length : Int), (0 : Int), ())).bind (Sum.elim (fun d28 =>
some (d28.1, ())) nof)
/-! "commodatum/regs.loops" -/
noncomputable def qck (n : Nat) (s0 : qT1) : Option (Int × Unit) :=
(qbw n (Rose.kids s0)).bind fun r3 =>
bif (decide (r3.1 = (0 : Int))) then
(some ((0 : Int), ()))
else
(some ((Rose.val s0).1.2.2.2.2.1, ()))
/-! "(*commodatum/regs.calc).run" -/
noncomputable def qcl (self_regs_calc_run : qT5 → qT0 → (List qT1) → (List Int) → (List Int) → Option (Unit × qT25)) (n : Nat) (c0 : qT5) (inputs4 : (List Int)) (p6 : qT0) (t15 : (List qT1)) (t16 : Int) (t17 : Int) (t42 : qT11) (t43 : Int) (t44 : Int) (regs3 : (List Int)) (s11 : qT3) (at12 : (List Int)) : Option qT53 :=
bif (decide (t44 < t43)) then
(((idx t42 t44).bind fun v17 =>
(idx regs3 (if (IntKind.i64.wrap ((regs3.length : Int) - (1 : Int))) < v17.2.1 then (IntKind.i64.wrap ((regs3.length : Int) - (1 : Int))) else v17.2.1)).bind fun v18 =>
(idx at12 t44).bind fun v19 =>
bif v17.1 then
((idx inputs4 v17.2.1).bind fun v20 =>
(idx (List.set at12 (t44).toNat v18) t44).bind fun v21 =>
some (.inl (c0, inputs4, p6, t15, t16, t17, t42, t43, t44, regs3, s11, (List.set (List.set at12 (t44).toNat v18) (t44).toNat v20), ())))
else
(some (.inl (c0, inputs4, p6, t15, t16, t17, t42, t43, t44, regs3, s11, (List.set at12 (t44).toNat v18), ()))) : Option (qT18 ⊕ Empty)).bind (Sum.elim (fun d22 =>
some (.inl (d22.1, d22.2.1, d22.2.2.1, d22.2.2.2.1, d22.2.2.2.2.1, d22.2.2.2.2.2.1, d22.2.2.2.2.2.2.1, d22.2.2.2.2.2.2.2.1, (IntKind.i64.wrap (d22.2.2.2.2.2.2.2.2.1 + (1 : Int))), d22.2.2.2.2.2.2.2.2.2.1, d22.2.2.2.2.2.2.2.2.2.2.1, d22.2.2.2.2.2.2.2.2.2.2.2.1, ()))) nof))
else
(some (.inr (.inl (c0, inputs4, p6, t15, t16, t17, regs3, s11, at12, ()))))
noncomputable def qcm (self_regs_calc_run : qT5 → qT0 → (List qT1) → (List Int) → (List Int) → Option (Unit × qT25)) (n : Nat) (d : qT18) : Option qT53 := qcl self_regs_calc_run n d.1 d.2.1 d.2.2.1 d.2.2.2.1 d.2.2.2.2.1 d.2.2.2.2.2.1 d.2.2.2.2.2.2.1 d.2.2.2.2.2.2.2.1 d.2.2.2.2.2.2.2.2.1 d.2.2.2.2.2.2.2.2.2.1 d.2.2.2.2.2.2.2.2.2.2.1 d.2.2.2.2.2.2.2.2.2.2.2.1
noncomputable def qcn (self_regs_calc_run : qT5 → qT0 → (List qT1) → (List Int) → (List Int) → Option (Unit × qT25)) (n : Nat) (c0 : qT5) (inputs4 : (List Int)) (p6 : qT0) (t15 : (List qT1)) (t16 : Int) (t17 : Int) (t24 : Int) (t25 : Int) (regs3 : (List Int)) (s11 : qT3) : Option (qT33 ⊕ (qT17 ⊕ Empty)) :=
bif (decide (t25 < t24)) then
((self_regs_calc_run c0 p6 s11.2.2.2.2.2.2.1 inputs4 regs3).bind fun r38 =>
some (.inl (c0, inputs4, p6, t15, t16, t17, t24, (IntKind.i64.wrap (t25 + (1 : Int))), r38.2.1, s11, ())))
else
(some (.inr (.inl (c0, inputs4, p6, t15, t16, t17, regs3, ()))))
noncomputable def qco (self_regs_calc_run : qT5 → qT0 → (List qT1) → (List Int) → (List Int) → Option (Unit × qT25)) (n : Nat) (d : qT33) : Option (qT33 ⊕ (qT17 ⊕ Empty)) := qcn self_regs_calc_run n d.1 d.2.1 d.2.2.1 d.2.2.2.1 d.2.2.2.2.1 d.2.2.2.2.2.1 d.2.2.2.2.2.2.1 d.2.2.2.2.2.2.2.1 d.2.2.2.2.2.2.2.2.1 d.2.2.2.2.2.2.2.2.2.1
noncomputable def qcp (self_regs_calc_run : qT5 → qT0 → (List qT1) → (List Int) → (List Int) → Option (Unit × qT25)) (n : Nat) (c0 : qT5) (inputs4 : (List Int)) (p6 : qT0) (t15 : (List qT1)) (t16 : Int) (t17 : Int) (regs3 : (List Int)) : Option (qT17 ⊕ (qT25 ⊕ Empty)) :=
bif (decide (t17 < t16)) then
(((idx t15 t17).bind fun v54 =>
bif (decide ((Rose.val v54).1.1 = (0 : Int))) then
(chk (decide (0 ≤ (((Rose.val v54).1.2.2.2.2.2.1).length : Int))) (chk (decide ((((Rose.val v54).1.2.2.2.2.2.1).length : Int) ≤ (((Rose.val v54).1.2.2.2.2.2.1).length : Int))) (chk (lenB ((((Rose.val v54).1.2.2.2.2.2.1).length : Int)).toNat) ((iterN (qcm self_regs_calc_run n) n (c0, inputs4, p6, t15, t16, t17, (Rose.val v54).1.2.2.2.2.2.1, (((Rose.val v54).1.2.2.2.2.2.1).length : Int), (0 : Int), regs3, ((Rose.val v54).1.1, ((Rose.val v54).1.2.1, ((Rose.val v54).1.2.2.1, ((Rose.val v54).1.2.2.2.1, ((Rose.val v54).1.2.2.2.2.1, ((Rose.val v54).1.2.2.2.2.2.1, ((Rose.kids v54), ()))))))), (List.replicate ((((Rose.val v54).1.2.2.2.2.2.1).length : Int)).toNat (0 : Int)), ())).bind (Sum.elim (fun d55 =>
(idx d55.2.2.2.2.2.2.1 d55.2.2.2.2.2.2.2.1.2.1).bind fun v56 =>
(idx d55.2.2.1.2.2.2.1 d55.2.2.2.2.2.2.2.1.2.2.2.1).bind fun v57 =>
(qcj n d55.1 v57 d55.2.2.2.2.2.2.2.2.1).bind fun r58 =>
(qca n d55.1 d55.2.2.2.2.2.2.2.1.2.2.1 r58.1).bind fun r59 =>
(qce n d55.1 v56 r59.1).bind fun r60 =>
(idx d55.2.2.2.2.2.2.1 d55.2.2.2.2.2.2.2.1.2.1).bind fun v61 =>
some (.inl (d55.1, d55.2.1, d55.2.2.1, d55.2.2.2.1, d55.2.2.2.2.1, d55.2.2.2.2.2.1, (List.set d55.2.2.2.2.2.2.1 (d55.2.2.2.2.2.2.2.1.2.1).toNat r60.1), ()))) nof)))))
else
(bif (decide ((Rose.val v54).1.1 = (1 : Int))) then
((idx regs3 (Rose.val v54).1.2.1).bind fun v62 =>
(qca n c0 v62 (Rose.val v54).1.2.2.1).bind fun r63 =>
(idx regs3 (Rose.val v54).1.2.1).bind fun v64 =>
some (.inl (c0, inputs4, p6, t15, t16, t17, (List.set regs3 ((Rose.val v54).1.2.1).toNat r63.1), ())))
else
((qck n (Rose.node (((Rose.val v54).1.1, ((Rose.val v54).1.2.1, ((Rose.val v54).1.2.2.1, ((Rose.val v54).1.2.2.2.1, ((Rose.val v54).1.2.2.2.2.1, ((Rose.val v54).1.2.2.2.2.2.1, ())))))), ()) (Rose.kids v54))).bind fun r65 =>
(iterN (qco self_regs_calc_run n) n (c0, inputs4, p6, t15, t16, t17, r65.1, (0 : Int), regs3, ((Rose.val v54).1.1, ((Rose.val v54).1.2.1, ((Rose.val v54).1.2.2.1, ((Rose.val v54).1.2.2.2.1, ((Rose.val v54).1.2.2.2.2.1, ((Rose.val v54).1.2.2.2.2.2.1, ((Rose.kids v54), ()))))))), ())).bind (Sum.elim (fun d66 =>
some (.inl (d66.1, d66.2.1, d66.2.2.1, d66.2.2.2.1, d66.2.2.2.2.1, d66.2.2.2.2.2.1, d66.2.2.2.2.2.2.1, ()))) nof))) : Option (qT17 ⊕ Empty)).bind (Sum.elim (fun d67 =>
some (.inl (d67.1, d67.2.1, d67.2.2.1, d67.2.2.2.1, d67.2.2.2.2.1, (IntKind.i64.wrap (d67.2.2.2.2.2.1 + (1 : Int))), d67.2.2.2.2.2.2.1, ()))) nof))
else
(some (.inr (.inl (regs3, ()))))
noncomputable def qcq (self_regs_calc_run : qT5 → qT0 → (List qT1) → (List Int) → (List Int) → Option (Unit × qT25)) (n : Nat) (d : qT17) : Option (qT17 ⊕ (qT25 ⊕ Empty)) := qcp self_regs_calc_run n d.1 d.2.1 d.2.2.1 d.2.2.2.1 d.2.2.2.2.1 d.2.2.2.2.2.1 d.2.2.2.2.2.2.1
noncomputable def qcr (self_regs_calc_run : qT5 → qT0 → (List qT1) → (List Int) → (List Int) → Option (Unit × qT25)) (n : Nat) (c0 : qT5) (p1 : qT0) (l2 : (List qT1)) (inputs4 : (List Int)) (regso0 : (List Int)) : Option (Unit × qT25) :=
(iterN (qcq self_regs_calc_run n) n (c0, inputs4, p1, l2, (l2.length : Int), (0 : Int), regso0, ())).bind (Sum.elim (fun d68 =>
some ((), (d68.1, ()))) nof)
noncomputable def qcs : Nat → qT5 → qT0 → (List qT1) → (List Int) → (List Int) → Option (Unit × qT25)
  | 0 => fun _ _ _ _ _ => none
  | n + 1 => qcr (qcs n) n
/-! "commodatum/regs.Run" -/
noncomputable def qct (n : Nat) (p0 : qT0) (regs1 : (List Int)) (inputs2 : (List Int)) : Option ((List Int) × (Int × Unit)) :=
(qbs n p0).bind fun r3 =>
bif (!r3.1) then
(some (([] : (List Int)), ((1 : Int), ())))
else
((qar n p0.1).bind fun r5 =>
(bif (!decide ((regs1.length : Int) = p0.2.1)) then
(some (.inl (regs1, inputs2, p0, true, ())))
else
(bif (!decide ((inputs2.length : Int) = p0.2.2.1)) then
(some (.inl (regs1, inputs2, p0, true, ())))
else
((qb2 n regs1 (r5.1, ())).bind fun r13 =>
bif r13.1 then
(some (.inl (regs1, inputs2, p0, true, ())))
else
((qb2 n inputs2 (r5.1, ())).bind fun r14 =>
some (.inl (regs1, inputs2, p0, r14.1, ()))))) : Option (((List Int) × (List Int) × qT0 × Bool × Unit) ⊕ Empty)).bind (Sum.elim (fun d15 =>
bif d15.2.2.2.1 then
(some (([] : (List Int)), ((2 : Int), ())))
else
((qbw n d15.2.2.1.2.2.2.2.1).bind fun r16 =>
bif (decide ((2000000 : Int) < r16.1)) then
(some (([] : (List Int)), ((5 : Int), ())))
else
((qb4 n d15.1).bind fun r18 =>
(qb7 n d15.2.2.1.1).bind fun r21 =>
(qcs n r21.1 d15.2.2.1 d15.2.2.1.2.2.2.2.1 d15.2.1 r18.1).bind fun r22 =>
some (r22.2.1, ((0 : Int), ()))))) nof))
/-! "commodatum/bits.Power" -/
noncomputable def qcu (n : Nat) (a0 : Int) (most2 : Int) (p7 : Int) (t8 : Int) (t9 : Int) : Option ((Int × Int × Int × Int × Int × Unit) ⊕ qT65) :=
bif (decide (t9 < t8)) then
((bif (decide ((1 : Int) < a0)) then
(bif decide (a0 = 0) then none else
some (.inl (a0, most2, p7, t8, t9, (decide ((IntKind.i64.wrap (Int.tdiv most2 a0)) < p7)), ())))
else
(some (.inl (a0, most2, p7, t8, t9, false, ()))) : Option ((Int × Int × Int × Int × Int × Bool × Unit) ⊕ Empty)).bind (Sum.elim (fun d4 =>
bif d4.2.2.2.2.2.1 then
(some (.inr (.inl ((IntKind.i64.wrap (d4.2.1 + (1 : Int))), ()))))
else
(some (.inl (d4.1, d4.2.1, (IntKind.i64.wrap (d4.2.2.1 * d4.1)), d4.2.2.2.1, (IntKind.i64.wrap (d4.2.2.2.2.1 + (1 : Int))), ())))) nof))
else
(some (.inr (.inr (.inl (p7, ())))))
noncomputable def qcv (n : Nat) (d : (Int × Int × Int × Int × Int × Unit)) : Option ((Int × Int × Int × Int × Int × Unit) ⊕ qT65) := qcu n d.1 d.2.1 d.2.2.1 d.2.2.2.1 d.2.2.2.2.1
noncomputable def qcw (n : Nat) (a0 : Int) (k1 : Int) (most2 : Int) : Option (Int × Unit) :=
(iterN (qcv n) n (a0, most2, (1 : Int), k1, (0 : Int), ())).bind (Sum.elim (fun d8 =>
some (d8.1, ())) (Sum.elim (fun d7 =>
some (d7.1, ())) nof))
/-! "(*commodatum/regs.calc).powers" -/
noncomputable def qcx (n : Nat) (c0 : qT5) (a4 : Int) (k5 : Int) (t12 : Int) (t13 : Int) (out3 : qT7) : Option ((qT5 × Int × Int × Int × Int × qT7 × Unit) ⊕ (qT50 ⊕ Empty)) :=
(Option.bind c0 fun p24 =>
bif (decide (k5 < p24.2.1)) then
((idx out3 a4).bind fun v25 =>
(idx out3 a4).bind fun v26 =>
(idx v26 (IntKind.i64.wrap (k5 - (1 : Int)))).bind fun v27 =>
(qca n c0 v27 a4).bind fun r28 =>
(idx v25 k5).bind fun v29 =>
some (.inl (c0, a4, (IntKind.i64.wrap (k5 + (1 : Int))), t12, t13, (List.modify out3 (a4).toNat fun y => (List.set y (k5).toNat r28.1)), ())))
else
(some (.inr (.inl (c0, t12, t13, out3, ())))))
noncomputable def qcy (n : Nat) (d : (qT5 × Int × Int × Int × Int × qT7 × Unit)) : Option ((qT5 × Int × Int × Int × Int × qT7 × Unit) ⊕ (qT50 ⊕ Empty)) := qcx n d.1 d.2.1 d.2.2.1 d.2.2.2.1 d.2.2.2.2.1 d.2.2.2.2.2.1
noncomputable def qcz (n : Nat) (c0 : qT5) (t12 : Int) (t13 : Int) (out3 : qT7) : Option (qT50 ⊕ ((qT7 × Unit) ⊕ Empty)) :=
bif (decide (t13 < t12)) then
((Option.bind c0 fun p36 =>
chk (decide (0 ≤ p36.2.1)) (chk (decide (p36.2.1 ≤ p36.2.1)) (chk (lenB (p36.2.1).toNat) ((idx out3 t13).bind fun v37 =>
(idx (List.set out3 (t13).toNat (List.replicate (p36.2.1).toNat (0 : Int))) t13).bind fun v38 =>
(idx v38 (0 : Int)).bind fun v39 =>
(iterN (qcy n) n (c0, t13, (1 : Int), t12, t13, (List.modify (List.set out3 (t13).toNat (List.replicate (p36.2.1).toNat (0 : Int))) (t13).toNat fun y => (List.set y 0 (1 : Int))), ())).bind (Sum.elim (fun d40 =>
some (.inl (d40.1, d40.2.1, (IntKind.i64.wrap (d40.2.2.1 + (1 : Int))), d40.2.2.2.1, ()))) nof))))))
else
(some (.inr (.inl (out3, ()))))
noncomputable def qc0 (n : Nat) (d : qT50) : Option (qT50 ⊕ ((qT7 × Unit) ⊕ Empty)) := qcz n d.1 d.2.1 d.2.2.1 d.2.2.2.1
noncomputable def qc1 (n : Nat) (c0 : qT5) : Option (qT7 × Unit) :=
(Option.bind c0 fun p2 =>
chk (decide (0 ≤ p2.2.1)) (chk (decide (p2.2.1 ≤ p2.2.1)) (chk (lenB (p2.2.1).toNat) ((iterN (qc0 n) n (c0, (((List.replicate (p2.2.1).toNat ([] : (List Int)))).length : Int), (0 : Int), (List.replicate (p2.2.1).toNat ([] : (List Int))), ())).bind (Sum.elim (fun d42 =>
some (d42.1, ())) nof)))))
/-! "(*commodatum/regs.calc).sub" -/
noncomputable def qc2 (n : Nat) (c0 : qT5) (a1 : Int) (b2 : Int) : Option (Int × Unit) :=
(Option.bind c0 fun p3 =>
bif (decide ((1 : Int) < p3.1.2.1)) then
(some ((IntKind.i64.wrap ((BitVec.ofInt IntKind.i64.bits a1 ^^^ BitVec.ofInt IntKind.i64.bits b2).toNat)), ()))
else
((Option.bind c0 fun p4 =>
(Option.bind c0 fun p5 =>
bif decide (p5.2.1 = 0) then none else
some ((Int.tmod (IntKind.i64.wrap ((IntKind.i64.wrap (a1 - b2)) + p4.2.1)) p5.2.1), ())))))
/-! "(*commodatum/regs.calc).interpolated" -/
noncomputable def qc3 (n : Nat) (c0 : qT5) (v2 : Int) (q7 : Int) (pow8 : qT7) (unit10 : Int) (i11 : Int) (base12 : Int) (k15 : Int) (n16 : Int) (t41 : Int) (t42 : Int) (t76 : Int) (t77 : Int) (l9 : (List Int)) (t75 : (List Int)) : Option (qT16 ⊕ (qT15 ⊕ Empty)) :=
bif (decide (t77 < t76)) then
(((idx t75 t77).bind fun v27 =>
bif (!decide (v27 = (0 : Int))) then
((idx pow8 t77).bind fun v28 =>
(idx v28 (IntKind.i64.wrap ((IntKind.i64.wrap (q7 - (1 : Int))) - k15))).bind fun v29 =>
(qca n c0 v27 v29).bind fun r30 =>
(qc2 n c0 n16 r30.1).bind fun r31 =>
some (.inl (c0, v2, q7, pow8, unit10, i11, base12, k15, r31.1, t41, t42, t76, t77, l9, t75, ())))
else
(some (.inl (c0, v2, q7, pow8, unit10, i11, base12, k15, n16, t41, t42, t76, t77, l9, t75, ()))) : Option (qT16 ⊕ Empty)).bind (Sum.elim (fun d32 =>
some (.inl (d32.1, d32.2.1, d32.2.2.1, d32.2.2.2.1, d32.2.2.2.2.1, d32.2.2.2.2.2.1, d32.2.2.2.2.2.2.1, d32.2.2.2.2.2.2.2.1, d32.2.2.2.2.2.2.2.2.1, d32.2.2.2.2.2.2.2.2.2.1, d32.2.2.2.2.2.2.2.2.2.2.1, d32.2.2.2.2.2.2.2.2.2.2.2.1, (IntKind.i64.wrap (d32.2.2.2.2.2.2.2.2.2.2.2.2.1 + (1 : Int))), d32.2.2.2.2.2.2.2.2.2.2.2.2.2.1, d32.2.2.2.2.2.2.2.2.2.2.2.2.2.2.1, ()))) nof))
else
(some (.inr (.inl (c0, v2, q7, pow8, unit10, i11, base12, k15, n16, t41, t42, l9, t75, ()))))
noncomputable def qc4 (n : Nat) (d : qT16) : Option (qT16 ⊕ (qT15 ⊕ Empty)) := qc3 n d.1 d.2.1 d.2.2.1 d.2.2.2.1 d.2.2.2.2.1 d.2.2.2.2.2.1 d.2.2.2.2.2.2.1 d.2.2.2.2.2.2.2.1 d.2.2.2.2.2.2.2.2.1 d.2.2.2.2.2.2.2.2.2.1 d.2.2.2.2.2.2.2.2.2.2.1 d.2.2.2.2.2.2.2.2.2.2.2.1 d.2.2.2.2.2.2.2.2.2.2.2.2.1 d.2.2.2.2.2.2.2.2.2.2.2.2.2.1 d.2.2.2.2.2.2.2.2.2.2.2.2.2.2.1
noncomputable def qc5 (n : Nat) (c0 : qT5) (v2 : Int) (q7 : Int) (pow8 : qT7) (unit10 : Int) (i11 : Int) (base12 : Int) (k15 : Int) (t41 : Int) (t42 : Int) (l9 : (List Int)) (row13 : (List Int)) : Option (qT32 ⊕ qT22) :=
bif (decide (k15 < q7)) then
((iterN (qc4 n) n (c0, v2, q7, pow8, unit10, i11, base12, k15, (0 : Int), t41, t42, (row13.length : Int), (0 : Int), l9, row13, ())).bind (Sum.elim (fun d38 =>
(idx d38.2.2.2.2.2.2.2.2.2.2.2.1 (IntKind.i64.wrap (d38.2.2.2.2.2.2.1 + (IntKind.i64.wrap (d38.2.2.2.2.2.2.2.1 * d38.2.2.2.2.1))))).bind fun v39 =>
some (.inl (d38.1, d38.2.1, d38.2.2.1, d38.2.2.2.1, d38.2.2.2.2.1, d38.2.2.2.2.2.1, d38.2.2.2.2.2.2.1, (IntKind.i64.wrap (d38.2.2.2.2.2.2.2.1 + (1 : Int))), d38.2.2.2.2.2.2.2.2.2.1, d38.2.2.2.2.2.2.2.2.2.2.1, (List.set d38.2.2.2.2.2.2.2.2.2.2.2.1 ((IntKind.i64.wrap (d38.2.2.2.2.2.2.1 + (IntKind.i64.wrap (d38.2.2.2.2.2.2.2.1 * d38.2.2.2.2.1))))).toNat d38.2.2.2.2.2.2.2.2.1), d38.2.2.2.2.2.2.2.2.2.2.2.2.1, ()))) nof))
else
(some (.inr (.inl (c0, v2, q7, pow8, unit10, i11, base12, t41, t42, l9, row13, ()))))
noncomputable def qc6 (n : Nat) (d : qT32) : Option (qT32 ⊕ qT22) := qc5 n d.1 d.2.1 d.2.2.1 d.2.2.2.1 d.2.2.2.2.1 d.2.2.2.2.2.1 d.2.2.2.2.2.2.1 d.2.2.2.2.2.2.2.1 d.2.2.2.2.2.2.2.2.1 d.2.2.2.2.2.2.2.2.2.1 d.2.2.2.2.2.2.2.2.2.2.1 d.2.2.2.2.2.2.2.2.2.2.2.1
noncomputable def qc7 (n : Nat) (c0 : qT5) (v2 : Int) (q7 : Int) (pow8 : qT7) (unit10 : Int) (i11 : Int) (base12 : Int) (t41 : Int) (t42 : Int) (t54 : Int) (t55 : Int) (l9 : (List Int)) (row13 : (List Int)) : Option (qT15 ⊕ qT22) :=
bif (decide (t55 < t54)) then
((idx l9 (IntKind.i64.wrap (base12 + (IntKind.i64.wrap (t55 * unit10))))).bind fun v11 =>
(idx row13 t55).bind fun v12 =>
some (.inl (c0, v2, q7, pow8, unit10, i11, base12, t41, t42, t54, (IntKind.i64.wrap (t55 + (1 : Int))), l9, (List.set row13 (t55).toNat v11), ())))
else
(some (.inr (.inl (c0, v2, q7, pow8, unit10, i11, base12, t41, t42, l9, row13, ()))))
noncomputable def qc8 (n : Nat) (d : qT15) : Option (qT15 ⊕ qT22) := qc7 n d.1 d.2.1 d.2.2.1 d.2.2.2.1 d.2.2.2.2.1 d.2.2.2.2.2.1 d.2.2.2.2.2.2.1 d.2.2.2.2.2.2.2.1 d.2.2.2.2.2.2.2.2.1 d.2.2.2.2.2.2.2.2.2.1 d.2.2.2.2.2.2.2.2.2.2.1 d.2.2.2.2.2.2.2.2.2.2.2.1 d.2.2.2.2.2.2.2.2.2.2.2.2.1
noncomputable def qc9 (n : Nat) (v2 : Int) (q7 : Int) (k20 : Int) (x21 : Int) (i23 : Int) (t116 : (List Int)) (t117 : Int) (t118 : Int) (out19 : qT4) (e22 : (List Int)) : Option qT36 :=
bif (decide ((0 : Int) ≤ i23)) then
(bif decide (q7 = 0) then none else
(idx e22 i23).bind fun v64 =>
bif decide (q7 = 0) then none else
some (.inl (v2, q7, (IntKind.i64.wrap (Int.tdiv k20 q7)), x21, (IntKind.i64.wrap (i23 - (1 : Int))), t116, t117, t118, out19, (List.set e22 (i23).toNat (Int.tmod k20 q7)), ())))
else
(some (.inr (.inl (v2, q7, x21, t116, t117, t118, out19, e22, ()))))
noncomputable def qda (n : Nat) (d : (Int × Int × Int × Int × Int × (List Int) × Int × Int × qT4 × (List Int) × Unit)) : Option qT36 := qc9 n d.1 d.2.1 d.2.2.1 d.2.2.2.1 d.2.2.2.2.1 d.2.2.2.2.2.1 d.2.2.2.2.2.2.1 d.2.2.2.2.2.2.2.1 d.2.2.2.2.2.2.2.2.1 d.2.2.2.2.2.2.2.2.2.1
noncomputable def qdb (n : Nat) (c0 : qT5) (v2 : Int) (q7 : Int) (pow8 : qT7) (unit10 : Int) (i11 : Int) (t41 : Int) (t42 : Int) (l9 : (List Int)) : Option (qT31 ⊕ (qT29 ⊕ Empty)) :=
bif (decide (t42 < t41)) then
((bif decide (unit10 = 0) then none else
bif decide (q7 = 0) then none else
bif (!decide ((Int.tmod (IntKind.i64.wrap (Int.tdiv t42 unit10)) q7) = (0 : Int))) then
(some (.inl (c0, v2, q7, pow8, unit10, i11, t41, t42, l9, ())))
else
(chk (decide (0 ≤ q7)) (chk (decide (q7 ≤ q7)) (chk (lenB (q7).toNat) ((iterN (qc8 n) n (c0, v2, q7, pow8, unit10, i11, t42, t41, t42, (((List.replicate (q7).toNat (0 : Int))).length : Int), (0 : Int), l9, (List.replicate (q7).toNat (0 : Int)), ())).bind (Sum.elim (fun d49 =>
(iterN (qc6 n) n (d49.1, d49.2.1, d49.2.2.1, d49.2.2.2.1, d49.2.2.2.2.1, d49.2.2.2.2.2.1, d49.2.2.2.2.2.2.1, (1 : Int), d49.2.2.2.2.2.2.2.1, d49.2.2.2.2.2.2.2.2.1, d49.2.2.2.2.2.2.2.2.2.1, d49.2.2.2.2.2.2.2.2.2.2.1, ())).bind (Sum.elim (fun d50 =>
(idx d50.2.2.2.2.2.2.2.2.2.2.1 (0 : Int)).bind fun v51 =>
(idx d50.2.2.2.2.2.2.2.2.2.1 d50.2.2.2.2.2.2.1).bind fun v52 =>
some (.inl (d50.1, d50.2.1, d50.2.2.1, d50.2.2.2.1, d50.2.2.2.2.1, d50.2.2.2.2.2.1, d50.2.2.2.2.2.2.2.1, d50.2.2.2.2.2.2.2.2.1, (List.set d50.2.2.2.2.2.2.2.2.2.1 (d50.2.2.2.2.2.2.1).toNat v51), ()))) nof)) nof))))) : Option (qT31 ⊕ Empty)).bind (Sum.elim (fun d53 =>
some (.inl (d53.1, d53.2.1, d53.2.2.1, d53.2.2.2.1, d53.2.2.2.2.1, d53.2.2.2.2.2.1, d53.2.2.2.2.2.2.1, (IntKind.i64.wrap (d53.2.2.2.2.2.2.2.1 + (1 : Int))), d53.2.2.2.2.2.2.2.2.1, ()))) nof))
else
(some (.inr (.inl (c0, v2, q7, pow8, unit10, i11, l9, ()))))
noncomputable def qdc (n : Nat) (d : qT31) : Option (qT31 ⊕ (qT29 ⊕ Empty)) := qdb n d.1 d.2.1 d.2.2.1 d.2.2.2.1 d.2.2.2.2.1 d.2.2.2.2.2.1 d.2.2.2.2.2.2.1 d.2.2.2.2.2.2.2.1 d.2.2.2.2.2.2.2.2.1
noncomputable def qdd (n : Nat) (v2 : Int) (q7 : Int) (t116 : (List Int)) (t117 : Int) (t118 : Int) (out19 : qT4) : Option (qT40 ⊕ ((qT4 × Unit) ⊕ Empty)) :=
bif (decide (t118 < t117)) then
(((idx t116 t118).bind fun v70 =>
bif (decide (v70 = (0 : Int))) then
(some (.inl (v2, q7, t116, t117, t118, out19, ())))
else
(chk (decide (0 ≤ v2)) (chk (decide (v2 ≤ v2)) (chk (lenB (v2).toNat) ((iterN (qda n) n (v2, q7, t118, v70, (IntKind.i64.wrap (v2 - (1 : Int))), t116, t117, t118, out19, (List.replicate (v2).toNat (0 : Int)), ())).bind (Sum.elim (fun d71 =>
chk (lenB ((d71.2.2.2.2.2.2.1).length + ([(d71.2.2.1, (d71.2.2.2.2.2.2.2.1, ()))]).length)) (some (.inl (d71.1, d71.2.1, d71.2.2.2.1, d71.2.2.2.2.1, d71.2.2.2.2.2.1, (d71.2.2.2.2.2.2.1 ++ [(d71.2.2.1, (d71.2.2.2.2.2.2.2.1, ()))]), ())))) nof))))) : Option (qT40 ⊕ Empty)).bind (Sum.elim (fun d72 =>
some (.inl (d72.1, d72.2.1, d72.2.2.1, d72.2.2.2.1, (IntKind.i64.wrap (d72.2.2.2.2.1 + (1 : Int))), d72.2.2.2.2.2.1, ()))) nof))
else
(some (.inr (.inl (out19, ()))))
noncomputable def qde (n : Nat) (d : qT40) : Option (qT40 ⊕ ((qT4 × Unit) ⊕ Empty)) := qdd n d.1 d.2.1 d.2.2.1 d.2.2.2.1 d.2.2.2.2.1 d.2.2.2.2.2.1
noncomputable def qdf (n : Nat) (c0 : qT5) (v2 : Int) (q7 : Int) (pow8 : qT7) (unit10 : Int) (i11 : Int) (l9 : (List Int)) : Option (qT29 ⊕ ((Int × Int × (List Int) × Unit) ⊕ Empty)) :=
bif (decide (i11 < v2)) then
((iterN (qdc n) n (c0, v2, q7, pow8, unit10, i11, (l9.length : Int), (0 : Int), l9, ())).bind (Sum.elim (fun d56 =>
some (.inl (d56.1, d56.2.1, d56.2.2.1, d56.2.2.2.1, (IntKind.i64.wrap (d56.2.2.2.2.1 * d56.2.2.1)), (IntKind.i64.wrap (d56.2.2.2.2.2.1 + (1 : Int))), d56.2.2.2.2.2.2.1, ()))) nof))
else
(some (.inr (.inl (v2, q7, l9, ()))))
noncomputable def qdg (n : Nat) (d : qT29) : Option (qT29 ⊕ ((Int × Int × (List Int) × Unit) ⊕ Empty)) := qdf n d.1 d.2.1 d.2.2.1 d.2.2.2.1 d.2.2.2.2.1 d.2.2.2.2.2.1 d.2.2.2.2.2.2.1
noncomputable def qdh (n : Nat) (c0 : qT5) (values1 : (List Int)) (v2 : Int) : Option (qT4 × Unit) :=
(Option.bind c0 fun p2 =>
(qc1 n c0).bind fun r4 =>
(qb4 n values1).bind fun r6 =>
(iterN (qdg n) n (c0, v2, p2.2.1, r4.1, (1 : Int), (0 : Int), r6.1, ())).bind (Sum.elim (fun d58 =>
(iterN (qde n) n (d58.1, d58.2.1, d58.2.2.1, (d58.2.2.1.length : Int), (0 : Int), ([] : qT4), ())).bind (Sum.elim (fun d74 =>
some (d74.1, ())) nof)) nof))
/-! "(*commodatum/regs.calc).tabulated" -/
noncomputable def qdi (n : Nat) (c0 : qT5) (p4 : qT0) (v7 : Int) (k11 : Int) (t41 : Int) (t42 : Int) (t82 : (List Int)) (t83 : Int) (t84 : Int) (tables8 : qT7) (at10 : (List Int)) : Option (qT34 ⊕ (qT30 ⊕ Empty)) :=
bif (decide (t84 < t83)) then
((idx t82 t84).bind fun v27 =>
(idx tables8 t84).bind fun v28 =>
(idx v28 k11).bind fun v29 =>
some (.inl (c0, p4, v7, k11, t41, t42, t82, t83, (IntKind.i64.wrap (t84 + (1 : Int))), (List.modify tables8 (t84).toNat fun y => (List.set y (k11).toNat v27)), at10, ())))
else
(some (.inr (.inl (c0, p4, v7, t41, t42, tables8, at10, ()))))
noncomputable def qdj (n : Nat) (d : qT34) : Option (qT34 ⊕ (qT30 ⊕ Empty)) := qdi n d.1 d.2.1 d.2.2.1 d.2.2.2.1 d.2.2.2.2.1 d.2.2.2.2.2.1 d.2.2.2.2.2.2.1 d.2.2.2.2.2.2.2.1 d.2.2.2.2.2.2.2.2.1 d.2.2.2.2.2.2.2.2.2.1 d.2.2.2.2.2.2.2.2.2.2.1
noncomputable def qdk (n : Nat) (c0 : qT5) (p4 : qT0) (v7 : Int) (k11 : Int) (i12 : Int) (x13 : Int) (t41 : Int) (t42 : Int) (tables8 : qT7) (at10 : (List Int)) : Option qT38 :=
bif (decide ((0 : Int) ≤ i12)) then
((Option.bind c0 fun p11 =>
bif decide (p11.2.1 = 0) then none else
(idx at10 i12).bind fun v12 =>
(Option.bind c0 fun p13 =>
bif decide (p13.2.1 = 0) then none else
some (.inl (c0, p4, v7, k11, (IntKind.i64.wrap (i12 - (1 : Int))), (IntKind.i64.wrap (Int.tdiv x13 p13.2.1)), t41, t42, tables8, (List.set at10 (i12).toNat (Int.tmod x13 p11.2.1)), ())))))
else
(some (.inr (.inl (c0, p4, v7, k11, t41, t42, tables8, at10, ()))))
noncomputable def qdl (n : Nat) (d : (qT5 × qT0 × Int × Int × Int × Int × Int × Int × qT7 × (List Int) × Unit)) : Option qT38 := qdk n d.1 d.2.1 d.2.2.1 d.2.2.2.1 d.2.2.2.2.1 d.2.2.2.2.2.1 d.2.2.2.2.2.2.1 d.2.2.2.2.2.2.2.1 d.2.2.2.2.2.2.2.2.1 d.2.2.2.2.2.2.2.2.2.1
noncomputable def qdm (n : Nat) (c0 : qT5) (v7 : Int) (t98 : qT7) (t99 : Int) (t100 : Int) (out17 : (List qT4)) : Option (qT64 ⊕ (((List qT4) × Unit) ⊕ Empty)) :=
bif (decide (t100 < t99)) then
((idx t98 t100).bind fun v46 =>
(qdh n c0 v46 v7).bind fun r47 =>
chk (lenB ((out17).length + ([r47.1]).length)) (some (.inl (c0, v7, t98, t99, (IntKind.i64.wrap (t100 + (1 : Int))), (out17 ++ [r47.1]), ()))))
else
(some (.inr (.inl (out17, ()))))
noncomputable def qdn (n : Nat) (d : qT64) : Option (qT64 ⊕ (((List qT4) × Unit) ⊕ Empty)) := qdm n d.1 d.2.1 d.2.2.1 d.2.2.2.1 d.2.2.2.2.1 d.2.2.2.2.2.1
noncomputable def qdo (n : Nat) (c0 : qT5) (p4 : qT0) (v7 : Int) (t41 : Int) (t42 : Int) (tables8 : qT7) (at10 : (List Int)) : Option (qT30 ⊕ ((qT5 × Int × qT7 × Unit) ⊕ Empty)) :=
bif (decide (t42 < t41)) then
((iterN (qdl n) n (c0, p4, v7, t42, (IntKind.i64.wrap (v7 - (1 : Int))), t42, t41, t42, tables8, at10, ())).bind (Sum.elim (fun d35 =>
chk (decide (0 ≤ (0 : Int))) (chk (decide ((0 : Int) ≤ d35.2.1.2.1)) (chk (decide (d35.2.1.2.1 ≤ (d35.2.2.2.2.2.2.2.1.length : Int))) ((qb4 n (subs d35.2.2.2.2.2.2.2.1 0 (d35.2.1.2.1).toNat)).bind fun r36 =>
chk (decide (0 ≤ d35.2.1.2.1)) (chk (decide (d35.2.1.2.1 ≤ (d35.2.2.2.2.2.2.2.1.length : Int))) (chk (decide ((d35.2.2.2.2.2.2.2.1.length : Int) ≤ (d35.2.2.2.2.2.2.2.1.length : Int))) ((qcs n d35.1 d35.2.1 d35.2.1.2.2.2.2.1 (subs d35.2.2.2.2.2.2.2.1 (d35.2.1.2.1).toNat ((d35.2.2.2.2.2.2.2.1.length : Int)).toNat) r36.1).bind fun r37 =>
(iterN (qdj n) n (d35.1, d35.2.1, d35.2.2.1, d35.2.2.2.1, d35.2.2.2.2.1, d35.2.2.2.2.2.1, r37.2.1, (r37.2.1.length : Int), (0 : Int), d35.2.2.2.2.2.2.1, d35.2.2.2.2.2.2.2.1, ())).bind (Sum.elim (fun d38 =>
some (.inl (d38.1, d38.2.1, d38.2.2.1, d38.2.2.2.1, (IntKind.i64.wrap (d38.2.2.2.2.1 + (1 : Int))), d38.2.2.2.2.2.1, d38.2.2.2.2.2.2.1, ()))) nof)))))))) nof))
else
(some (.inr (.inl (c0, v7, tables8, ()))))
noncomputable def qdp (n : Nat) (d : qT30) : Option (qT30 ⊕ ((qT5 × Int × qT7 × Unit) ⊕ Empty)) := qdo n d.1 d.2.1 d.2.2.1 d.2.2.2.1 d.2.2.2.2.1 d.2.2.2.2.2.1 d.2.2.2.2.2.2.1
noncomputable def qdq (n : Nat) (c0 : qT5) (points2 : Int) (p4 : qT0) (v7 : Int) (t29 : Int) (t30 : Int) (tables8 : qT7) : Option qT59 :=
bif (decide (t30 < t29)) then
(chk (decide (0 ≤ points2)) (chk (decide (points2 ≤ points2)) (chk (lenB (points2).toNat) ((idx tables8 t30).bind fun v3 =>
some (.inl (c0, points2, p4, v7, t29, (IntKind.i64.wrap (t30 + (1 : Int))), (List.set tables8 (t30).toNat (List.replicate (points2).toNat (0 : Int))), ()))))))
else
(some (.inr (.inl (c0, points2, p4, v7, tables8, ()))))
noncomputable def qdr (n : Nat) (d : (qT5 × Int × qT0 × Int × Int × Int × qT7 × Unit)) : Option qT59 := qdq n d.1 d.2.1 d.2.2.1 d.2.2.2.1 d.2.2.2.2.1 d.2.2.2.2.2.1 d.2.2.2.2.2.2.1
noncomputable def qds (n : Nat) (c0 : qT5) (p1 : qT0) (points2 : Int) : Option ((List qT4) × Unit) :=
chk (decide (0 ≤ p1.2.1)) (chk (decide (p1.2.1 ≤ p1.2.1)) (chk (lenB (p1.2.1).toNat) ((iterN (qdr n) n (c0, points2, p1, (IntKind.i64.wrap (p1.2.1 + p1.2.2.1)), (((List.replicate (p1.2.1).toNat ([] : (List Int)))).length : Int), (0 : Int), (List.replicate (p1.2.1).toNat ([] : (List Int))), ())).bind (Sum.elim (fun d5 =>
chk (decide (0 ≤ d5.2.2.2.1)) (chk (decide (d5.2.2.2.1 ≤ d5.2.2.2.1)) (chk (lenB (d5.2.2.2.1).toNat) ((iterN (qdp n) n (d5.1, d5.2.2.1, d5.2.2.2.1, d5.2.1, (0 : Int), d5.2.2.2.2.1, (List.replicate (d5.2.2.2.1).toNat (0 : Int)), ())).bind (Sum.elim (fun d40 =>
(iterN (qdn n) n (d40.1, d40.2.1, d40.2.2.1, (d40.2.2.1.length : Int), (0 : Int), ([] : (List qT4)), ())).bind (Sum.elim (fun d49 =>
some (d49.1, ())) nof)) nof))))) nof))))
/-! "(*commodatum/regs.calc).symbolic" -/
noncomputable def qdt (n : Nat) (p3 : qT0) (t25 : Int) (t26 : Int) (out4 : (List qT4)) (e5 : Int) (s6 : qT21) : Option qT57 :=
bif (decide (t26 < t25)) then
(none)
else
(some (.inr (.inl (p3, out4, e5, s6, ()))))
noncomputable def qdu (n : Nat) (d : (qT0 × Int × Int × (List qT4) × Int × qT21 × Unit)) : Option qT57 := qdt n d.1 d.2.1 d.2.2.1 d.2.2.2.1 d.2.2.2.2.1 d.2.2.2.2.2.1
noncomputable def qdv (n : Nat) (c0 : qT5) (p1 : qT0) : Option ((List qT4) × (Int × Unit)) :=
(iterN (qdu n) n (p1, p1.2.1, (0 : Int), ([] : (List qT4)), (0 : Int), (c0, (p1, (([] : (List (Option (List (ByteArray × Int))))), ((IntKind.i64.wrap (p1.2.1 + p1.2.2.1)), ((0 : Int), ()))))), ())).bind (Sum.elim (fun d2 =>
none) nof)
/-! "commodatum/regs.Symbolic" -/
noncomputable def qdw (n : Nat) (p0 : qT0) : Option ((List qT4) × (Int × Unit)) :=
(qbs n p0).bind fun r3 =>
bif (!r3.1) then
(some (([] : (List qT4)), ((1 : Int), ())))
else
((qbw n p0.2.2.2.2.1).bind fun r5 =>
(bif (decide ((200000 : Int) < r5.1)) then
(some (.inl (p0, (IntKind.i64.wrap (p0.2.1 + p0.2.2.1)), r5.1, true, ())))
else
(some (.inl (p0, (IntKind.i64.wrap (p0.2.1 + p0.2.2.1)), r5.1, (decide ((64 : Int) < (IntKind.i64.wrap (p0.2.1 + p0.2.2.1)))), ()))) : Option ((qT0 × Int × Int × Bool × Unit) ⊕ Empty)).bind (Sum.elim (fun d7 =>
bif d7.2.2.2.1 then
(some (([] : (List qT4)), ((5 : Int), ())))
else
((qb7 n d7.1.1).bind fun r9 =>
(Option.bind r9.1 fun p16 =>
(qcw n p16.2.1 d7.2.1 (4096 : Int)).bind fun r17 =>
(bif (decide (r17.1 ≤ (4096 : Int))) then
(some (.inl (d7.1, r9.1, r17.1, (decide (d7.2.2.1 ≤ (4000 : Int))), ())))
else
(some (.inl (d7.1, r9.1, r17.1, false, ()))) : Option ((qT0 × qT5 × Int × Bool × Unit) ⊕ Empty)).bind (Sum.elim (fun d18 =>
bif d18.2.2.2.1 then
((qds n d18.2.1 d18.1 d18.2.2.1).bind fun r19 =>
some (r19.1, ((0 : Int), ())))
else
((qdv n d18.2.1 d18.1).bind fun r20 =>
some (r20.1, (r20.2.1, ())))) nof)))) nof))
/-! "commodatum/regs.variable" -/
noncomputable def qdx (n : Nat) (i1 : Int) (t20 : (List Int)) (t21 : Int) (t22 : Int) : Option ((Int × (List Int) × Int × Int × Unit) ⊕ qT8) :=
bif (decide (t22 < t21)) then
((idx t20 t22).bind fun v13 =>
(bif (decide (t22 = i1)) then
(bif (!decide (v13 = (1 : Int))) then
(some (.inl (i1, t20, t21, t22, true, ())))
else
(bif (!decide (t22 = i1)) then
(some (.inl (i1, t20, t21, t22, (!decide (v13 = (0 : Int))), ())))
else
(some (.inl (i1, t20, t21, t22, false, ())))))
else
(bif (!decide (t22 = i1)) then
(some (.inl (i1, t20, t21, t22, (!decide (v13 = (0 : Int))), ())))
else
(some (.inl (i1, t20, t21, t22, false, ())))) : Option ((Int × (List Int) × Int × Int × Bool × Unit) ⊕ Empty)).bind (Sum.elim (fun d14 =>
bif d14.2.2.2.2.1 then
(some (.inr (.inl (false, ()))))
else
(some (.inl (d14.1, d14.2.1, d14.2.2.1, (IntKind.i64.wrap (d14.2.2.2.1 + (1 : Int))), ())))) nof))
else
(some (.inr (.inr (.inl (())))))
noncomputable def qdy (n : Nat) (d : (Int × (List Int) × Int × Int × Unit)) : Option ((Int × (List Int) × Int × Int × Unit) ⊕ qT8) := qdx n d.1 d.2.1 d.2.2.1 d.2.2.2.1
noncomputable def qdz (n : Nat) (p0 : qT4) (i1 : Int) : Option (Bool × Unit) :=
(bif (!decide ((p0.length : Int) = (1 : Int))) then
(some (.inl (p0, i1, true, ())))
else
((idx p0 (0 : Int)).bind fun v4 =>
some (.inl (p0, i1, (!decide (v4.1 = (1 : Int))), ()))) : Option ((qT4 × Int × Bool × Unit) ⊕ Empty)).bind (Sum.elim (fun d5 =>
bif d5.2.2.1 then
(some (false, ()))
else
((idx d5.1 (0 : Int)).bind fun v17 =>
(iterN (qdy n) n (d5.2.1, v17.2.1, (v17.2.1.length : Int), (0 : Int), ())).bind (Sum.elim (fun d19 =>
some (d19.1, ())) (Sum.elim (fun d18 =>
some (true, ())) nof)))) nof)
/-! "commodatum/regs.Restores" -/
noncomputable def qd0 (n : Nat) (t17 : (List qT4)) (t18 : Int) (t19 : Int) (out6 : (List Bool)) : Option (qT69 ⊕ (((List Bool) × Unit) ⊕ Empty)) :=
bif (decide (t19 < t18)) then
((idx t17 t19).bind fun v8 =>
(qdz n v8 t19).bind fun r9 =>
chk (lenB ((out6).length + ([r9.1]).length)) (some (.inl (t17, t18, (IntKind.i64.wrap (t19 + (1 : Int))), (out6 ++ [r9.1]), ()))))
else
(some (.inr (.inl (out6, ()))))
noncomputable def qd1 (n : Nat) (d : qT69) : Option (qT69 ⊕ (((List Bool) × Unit) ⊕ Empty)) := qd0 n d.1 d.2.1 d.2.2.1 d.2.2.2.1
noncomputable def qd2 (n : Nat) (p0 : qT0) : Option ((List Bool) × (Int × Unit)) :=
(qdw n p0).bind fun r2 =>
bif (!decide (r2.2.1 = (0 : Int))) then
(some (([] : (List Bool)), (r2.2.1, ())))
else
((iterN (qd1 n) n (r2.1, (r2.1.length : Int), (0 : Int), ([] : (List Bool)), ())).bind (Sum.elim (fun d11 =>
some (d11.1, ((0 : Int), ()))) nof))
/-! "commodatum/commodatumlaw13.Equal" -/
noncomputable def qd3 (n : Nat) (a0 : (List Int)) (b1 : (List Int)) (i5 : Int) : Option (qT35 ⊕ qT8) :=
bif (decide (i5 < (a0.length : Int))) then
((idx a0 i5).bind fun v7 =>
(idx b1 i5).bind fun v8 =>
bif (!decide (v7 = v8)) then
(some (.inr (.inl (false, ()))))
else
(some (.inl (a0, b1, (IntKind.i64.wrap (i5 + (1 : Int))), ()))))
else
(some (.inr (.inr (.inl (())))))
noncomputable def qd4 (n : Nat) (d : qT35) : Option (qT35 ⊕ qT8) := qd3 n d.1 d.2.1 d.2.2.1
noncomputable def qd5 (n : Nat) (a0 : (List Int)) (b1 : (List Int)) : Option (Bool × Unit) :=
bif (!decide ((a0.length : Int) = (b1.length : Int))) then
(some (false, ()))
else
((iterN (qd4 n) n (a0, b1, (0 : Int), ())).bind (Sum.elim (fun d12 =>
some (d12.1, ())) (Sum.elim (fun d11 =>
some (true, ())) nof)))
/-! "commodatum/commodatumlaw13.Awake" -/
noncomputable def qd6 (n : Nat)  : Option (Bool × Unit) :=
(qal n).bind fun r3 =>
(qbx n r3.1).bind fun r4 =>
(qal n).bind fun r7 =>
(qct n r7.1 ([(1 : Int), (1 : Int), (0 : Int)]) ([(1 : Int), (1 : Int)])).bind fun r8 =>
(qal n).bind fun r11 =>
(qd2 n r11.1).bind fun r12 =>
(qal n).bind fun r13 =>
(qbs n r13.1).bind fun r14 =>
bif r14.1 then
(bif (decide (r4.2.1 = (0 : Int))) then
(bif (decide (r4.1 = (4 : Int))) then
(bif (decide (r8.2.1 = (0 : Int))) then
((qd5 n r8.1 ([(1 : Int), (1 : Int), (1 : Int)])).bind fun r15 =>
bif r15.1 then
(bif (decide (r12.2.1 = (0 : Int))) then
(bif (decide ((r12.1.length : Int) = (3 : Int))) then
((idx r12.1 (0 : Int)).bind fun v16 =>
bif v16 then
((idx r12.1 (1 : Int)).bind fun v17 =>
bif v17 then
((idx r12.1 (2 : Int)).bind fun v18 =>
some ((!v18), ()))
else
(some (false, ())))
else
(some (false, ())))
else
(some (false, ())))
else
(some (false, ())))
else
(some (false, ())))
else
(some (false, ())))
else
(some (false, ())))
else
(some (false, ())))
else
(some (false, ()))
/-! "commodatum/commodatumref13.prime" -/
noncomputable def qd7 (n : Nat) (n0 : Int) (d3 : Int) : Option (qT27 ⊕ qT8) :=
bif (decide ((IntKind.i64.wrap (d3 * d3)) ≤ n0)) then
(bif decide (d3 = 0) then none else
bif (decide ((Int.tmod n0 d3) = (0 : Int))) then
(some (.inr (.inl (false, ()))))
else
(some (.inl (n0, (IntKind.i64.wrap (d3 + (1 : Int))), ()))))
else
(some (.inr (.inr (.inl (())))))
noncomputable def qd8 (n : Nat) (d : qT27) : Option (qT27 ⊕ qT8) := qd7 n d.1 d.2.1
noncomputable def qd9 (n : Nat) (n0 : Int) : Option (Bool × Unit) :=
(bif (decide (n0 < (2 : Int))) then
(some (.inl (n0, true, ())))
else
(some (.inl (n0, (decide ((65536 : Int) < n0)), ()))) : Option ((Int × Bool × Unit) ⊕ Empty)).bind (Sum.elim (fun d2 =>
bif d2.2.1 then
(some (false, ()))
else
((iterN (qd8 n) n (d2.1, (2 : Int), ())).bind (Sum.elim (fun d6 =>
some (d6.1, ())) (Sum.elim (fun d5 =>
some (true, ())) nof)))) nof)
/-! "commodatum/commodatumref13.FieldValid" -/
noncomputable def qea (n : Nat) (f0 : qT2) : Option (Bool × Unit) :=
((qd9 n f0.1).bind fun r4 =>
bif (!r4.1) then
(some (.inl (f0, true, ())))
else
(bif (decide (f0.2.1 < (1 : Int))) then
(some (.inl (f0, true, ())))
else
(bif (decide ((16 : Int) < f0.2.1)) then
(some (.inl (f0, true, ())))
else
(bif (decide ((1 : Int) < f0.2.1)) then
(some (.inl (f0, (!decide (f0.1 = (2 : Int))), ())))
else
(some (.inl (f0, false, ())))))) : Option ((qT2 × Bool × Unit) ⊕ Empty)).bind (Sum.elim (fun d5 =>
bif d5.2.1 then
(some (false, ()))
else
(bif (decide (d5.1.2.1 = (1 : Int))) then
(some (true, ()))
else
(bif decide (d5.1.2.1 < 0) then none else
some ((decide ((IntKind.i64.wrap ((1 : Int) * 2 ^ (min (d5.1.2.1).toNat IntKind.i64.bits))) ≤ (65536 : Int))), ())))) nof)
/-! "commodatum/commodatumref13.degree" -/
noncomputable def qeb (n : Nat) (a0 : Int) (d3 : Int) : Option (qT27 ⊕ qT10) :=
bif (decide ((0 : Int) < a0)) then
(bif decide ((1 : Int) < 0) then none else
some (.inl ((Int.fdiv a0 (2 ^ (min ((1 : Int)).toNat IntKind.i64.bits))), (IntKind.i64.wrap (d3 + (1 : Int))), ())))
else
(some (.inr (.inl (d3, ()))))
noncomputable def qec (n : Nat) (d : qT27) : Option (qT27 ⊕ qT10) := qeb n d.1 d.2.1
noncomputable def qed (n : Nat) (a0 : Int) : Option (Int × Unit) :=
(iterN (qec n) n (a0, (-1 : Int), ())).bind (Sum.elim (fun d2 =>
some (d2.1, ())) nof)
/-! "commodatum/commodatumref13.rest" -/
noncomputable def qee (n : Nat) (a0 : Int) (b1 : Int) : Option (qT27 ⊕ qT10) :=
(qed n a0).bind fun r9 =>
(qed n b1).bind fun r10 =>
bif (decide (r10.1 ≤ r9.1)) then
((qed n a0).bind fun r11 =>
(qed n b1).bind fun r12 =>
bif decide ((IntKind.i64.wrap (r11.1 - r12.1)) < 0) then none else
some (.inl ((IntKind.i64.wrap ((BitVec.ofInt IntKind.i64.bits a0 ^^^ BitVec.ofInt IntKind.i64.bits (IntKind.i64.wrap (b1 * 2 ^ (min ((IntKind.i64.wrap (r11.1 - r12.1))).toNat IntKind.i64.bits)))).toNat)), b1, ())))
else
(some (.inr (.inl (a0, ()))))
noncomputable def qef (n : Nat) (d : qT27) : Option (qT27 ⊕ qT10) := qee n d.1 d.2.1
noncomputable def qeg (n : Nat) (a0 : Int) (b1 : Int) : Option (Int × Unit) :=
(iterN (qef n) n (a0, b1, ())).bind (Sum.elim (fun d14 =>
some (d14.1, ())) nof)
/-! "commodatum/commodatumref13.irreducible" -/
noncomputable def qeh (n : Nat) (a0 : Int) (b3 : Int) : Option (qT27 ⊕ qT8) :=
(qed n b3).bind fun r10 =>
(qed n a0).bind fun r11 =>
bif (decide ((IntKind.i64.wrap ((2 : Int) * r10.1)) ≤ r11.1)) then
((qeg n a0 b3).bind fun r12 =>
bif (decide (r12.1 = (0 : Int))) then
(some (.inr (.inl (false, ()))))
else
(some (.inl (a0, (IntKind.i64.wrap (b3 + (2 : Int))), ()))))
else
(some (.inr (.inr (.inl (())))))
noncomputable def qei (n : Nat) (d : qT27) : Option (qT27 ⊕ qT8) := qeh n d.1 d.2.1
noncomputable def qej (n : Nat) (a0 : Int) : Option (Bool × Unit) :=
bif (decide ((IntKind.i64.wrap ((BitVec.ofInt IntKind.i64.bits a0 &&& BitVec.ofInt IntKind.i64.bits (1 : Int)).toNat)) = (0 : Int))) then
(some ((decide (a0 = (2 : Int))), ()))
else
((iterN (qei n) n (a0, (3 : Int), ())).bind (Sum.elim (fun d16 =>
some (d16.1, ())) (Sum.elim (fun d15 =>
some (true, ())) nof)))
/-! "commodatum/commodatumref13.Modulus" -/
noncomputable def qek (n : Nat) (a3 : Int) : Option qT65 :=
(qej n a3).bind fun r4 =>
bif (!r4.1) then
(some (.inl ((IntKind.i64.wrap (a3 + (1 : Int))), ())))
else
(some (.inr (.inl (a3, ()))))
noncomputable def qel (n : Nat) (d : (Int × Unit)) : Option qT65 := qek n d.1
noncomputable def qem (n : Nat) (m0 : Int) : Option (Int × Unit) :=
bif decide (m0 < 0) then none else
(iterN (qel n) n ((IntKind.i64.wrap ((1 : Int) * 2 ^ (min (m0).toNat IntKind.i64.bits))), ())).bind (Sum.elim (fun d6 =>
some (d6.1, ())) nof)
/-! "commodatum/commodatumref13.Of" -/
noncomputable def qen (n : Nat) (f0 : qT2) : Option (qT9 × Unit) :=
bif (decide (f0.2.1 = (1 : Int))) then
(some ((f0.1, ((1 : Int), (f0.1, ((0 : Int), ())))), ()))
else
(bif decide (f0.2.1 < 0) then none else
(qem n f0.2.1).bind fun r1 =>
some (((2 : Int), (f0.2.1, ((IntKind.i64.wrap ((1 : Int) * 2 ^ (min (f0.2.1).toNat IntKind.i64.bits))), (r1.1, ())))), ()))
/-! "commodatum/commodatumref13.before" -/
noncomputable def qeo (n : Nat) (a0 : (List Int)) (b1 : (List Int)) (i5 : Int) : Option (qT35 ⊕ qT8) :=
bif (decide (i5 < (a0.length : Int))) then
((idx a0 i5).bind fun v11 =>
(idx b1 i5).bind fun v12 =>
bif (!decide (v11 = v12)) then
((idx a0 i5).bind fun v13 =>
(idx b1 i5).bind fun v14 =>
some (.inr (.inl ((decide (v13 < v14)), ()))))
else
(some (.inl (a0, b1, (IntKind.i64.wrap (i5 + (1 : Int))), ()))))
else
(some (.inr (.inr (.inl (())))))
noncomputable def qep (n : Nat) (d : qT35) : Option (qT35 ⊕ qT8) := qeo n d.1 d.2.1 d.2.2.1
noncomputable def qeq (n : Nat) (a0 : (List Int)) (b1 : (List Int)) : Option (Bool × Unit) :=
(iterN (qep n) n (a0, b1, (0 : Int), ())).bind (Sum.elim (fun d18 =>
some (d18.1, ())) (Sum.elim (fun d17 =>
some (false, ())) nof))
/-! "(commodatum/commodatumref13.Arith).Vars" -/
noncomputable def qer (n : Nat) (p1 : qT4) (x2 : qT9) (n6 : Int) (i7 : Int) (k8 : Int) : Option ((qT4 × qT9 × Int × Int × Int × Unit) ⊕ ((Int × Bool × Unit) ⊕ (qT51 ⊕ Empty))) :=
bif (decide (k8 < n6)) then
(((idx p1 i7).bind fun v39 =>
(idx v39.2.1 k8).bind fun v40 =>
bif (decide (v40 < (0 : Int))) then
(some (.inl (p1, x2, n6, i7, k8, true, ())))
else
((idx p1 i7).bind fun v41 =>
(idx v41.2.1 k8).bind fun v42 =>
some (.inl (p1, x2, n6, i7, k8, (decide ((65535 : Int) < v42)), ()))) : Option ((qT4 × qT9 × Int × Int × Int × Bool × Unit) ⊕ Empty)).bind (Sum.elim (fun d43 =>
bif d43.2.2.2.2.2.1 then
(some (.inr (.inl ((0 : Int), false, ()))))
else
(some (.inl (d43.1, d43.2.1, d43.2.2.1, d43.2.2.2.1, (IntKind.i64.wrap (d43.2.2.2.2.1 + (1 : Int))), ())))) nof))
else
(some (.inr (.inr (.inl (p1, x2, n6, i7, ())))))
noncomputable def qes (n : Nat) (d : (qT4 × qT9 × Int × Int × Int × Unit)) : Option ((qT4 × qT9 × Int × Int × Int × Unit) ⊕ ((Int × Bool × Unit) ⊕ (qT51 ⊕ Empty))) := qer n d.1 d.2.1 d.2.2.1 d.2.2.2.1 d.2.2.2.2.1
noncomputable def qet (n : Nat) (p1 : qT4) (x2 : qT9) (n6 : Int) (i7 : Int) : Option (qT51 ⊕ ((Int × Bool × Unit) ⊕ qT10)) :=
bif (decide (i7 < (p1.length : Int))) then
(((idx p1 i7).bind fun v55 =>
bif (!decide ((v55.2.1.length : Int) = n6)) then
(some (.inl (p1, x2, n6, i7, true, ())))
else
((idx p1 i7).bind fun v56 =>
bif (decide (v56.1 < (1 : Int))) then
(some (.inl (p1, x2, n6, i7, true, ())))
else
((idx p1 i7).bind fun v57 =>
bif (decide (x2.2.2.1 ≤ v57.1)) then
(some (.inl (p1, x2, n6, i7, true, ())))
else
(bif (decide ((0 : Int) < i7)) then
((idx p1 (IntKind.i64.wrap (i7 - (1 : Int)))).bind fun v58 =>
(idx p1 i7).bind fun v59 =>
(qeq n v58.2.1 v59.2.1).bind fun r60 =>
some (.inl (p1, x2, n6, i7, (!r60.1), ())))
else
(some (.inl (p1, x2, n6, i7, false, ())))))) : Option ((qT4 × qT9 × Int × Int × Bool × Unit) ⊕ Empty)).bind (Sum.elim (fun d61 =>
bif d61.2.2.2.2.1 then
(some (.inr (.inl ((0 : Int), false, ()))))
else
((iterN (qes n) n (d61.1, d61.2.1, d61.2.2.1, d61.2.2.2.1, (0 : Int), ())).bind (Sum.elim (fun d63 =>
some (.inr (.inl (d63.1, d63.2.1, ())))) (Sum.elim (fun d62 =>
some (.inl (d62.1, d62.2.1, d62.2.2.1, (IntKind.i64.wrap (d62.2.2.2.1 + (1 : Int))), ()))) nof)))) nof))
else
(some (.inr (.inr (.inl (n6, ())))))
noncomputable def qeu (n : Nat) (d : qT51) : Option (qT51 ⊕ ((Int × Bool × Unit) ⊕ qT10)) := qet n d.1 d.2.1 d.2.2.1 d.2.2.2.1
noncomputable def qev (n : Nat) (x0 : qT9) (p1 : qT4) : Option (Int × (Bool × Unit)) :=
bif (decide ((p1.length : Int) = (0 : Int))) then
(some ((-1 : Int), (true, ())))
else
((idx p1 (0 : Int)).bind fun v2 =>
(bif (decide ((80 : Int) < (v2.2.1.length : Int))) then
(some (.inl (p1, x0, (v2.2.1.length : Int), true, ())))
else
(some (.inl (p1, x0, (v2.2.1.length : Int), (decide ((20000 : Int) < (p1.length : Int))), ()))) : Option ((qT4 × qT9 × Int × Bool × Unit) ⊕ Empty)).bind (Sum.elim (fun d4 =>
bif d4.2.2.2.1 then
(some ((0 : Int), (false, ())))
else
((iterN (qeu n) n (d4.1, d4.2.1, d4.2.2.1, (0 : Int), ())).bind (Sum.elim (fun d67 =>
some (d67.1, (d67.2.1, ()))) (Sum.elim (fun d66 =>
some (d66.1, (true, ()))) nof)))) nof))
/-! "commodatum/commodatumref13.count" -/
noncomputable def qew (self_ref13_count : (List qT1) → Int → Option qT2) (n : Nat) (l0 : (List qT1)) (levels1 : Int) (n6 : Int) (deep7 : Int) (i8 : Int) : Option (qT45 ⊕ (qT27 ⊕ Empty)) :=
(bif (decide (i8 < (l0.length : Int))) then
(bif (decide ((0 : Int) < levels1)) then
(some (.inl (l0, levels1, n6, deep7, i8, (decide (n6 ≤ (200000 : Int))), ())))
else
(some (.inl (l0, levels1, n6, deep7, i8, false, ()))))
else
(some (.inl (l0, levels1, n6, deep7, i8, false, ()))) : Option (((List qT1) × Int × Int × Int × Int × Bool × Unit) ⊕ Empty)).bind (Sum.elim (fun d13 =>
bif d13.2.2.2.2.2.1 then
(((idx d13.1 d13.2.2.2.2.1).bind fun v14 =>
bif (decide ((Rose.val v14).1.1 = (2 : Int))) then
((idx d13.1 d13.2.2.2.2.1).bind fun v15 =>
(self_ref13_count (Rose.kids v15) (IntKind.i64.wrap (d13.2.1 - (1 : Int)))).bind fun r16 =>
some (.inl (d13.1, d13.2.1, (IntKind.i64.wrap (d13.2.2.1 + r16.1)), (if (IntKind.i64.wrap (r16.2.1 + (1 : Int))) > d13.2.2.2.1 then (IntKind.i64.wrap (r16.2.1 + (1 : Int))) else d13.2.2.2.1), d13.2.2.2.2.1, ())))
else
(some (.inl (d13.1, d13.2.1, d13.2.2.1, d13.2.2.2.1, d13.2.2.2.2.1, ()))) : Option (qT45 ⊕ Empty)).bind (Sum.elim (fun d17 =>
some (.inl (d17.1, d17.2.1, d17.2.2.1, d17.2.2.2.1, (IntKind.i64.wrap (d17.2.2.2.2.1 + (1 : Int))), ()))) nof))
else
(some (.inr (.inl (d13.2.2.1, d13.2.2.2.1, ()))))) nof)
noncomputable def qex (self_ref13_count : (List qT1) → Int → Option qT2) (n : Nat) (d : qT45) : Option (qT45 ⊕ (qT27 ⊕ Empty)) := qew self_ref13_count n d.1 d.2.1 d.2.2.1 d.2.2.2.1 d.2.2.2.2.1
noncomputable def qey (self_ref13_count : (List qT1) → Int → Option qT2) (n : Nat) (l0 : (List qT1)) (levels1 : Int) : Option qT2 :=
(iterN (qex self_ref13_count n) n (l0, levels1, (l0.length : Int), (0 : Int), (0 : Int), ())).bind (Sum.elim (fun d19 =>
some (d19.1, (d19.2.1, ()))) nof)
noncomputable def qez : Nat → (List qT1) → Int → Option qT2
  | 0 => fun _ _ => none
  | n + 1 => qey (qez n) n
/-! "(commodatum/commodatumref13.Arith).Element" -/
noncomputable def qe0 (n : Nat) (x0 : qT9) (a1 : Int) : Option (Bool × Unit) :=
bif (decide ((0 : Int) ≤ a1)) then
(some ((decide (a1 < x0.2.2.1)), ()))
else
(some (false, ()))
/-! "commodatum/commodatumref13.add" -/
noncomputable def qe1 (n : Nat) (p4 : qT0) (s7 : qT3) (i9 : Int) : Option ((qT0 × qT3 × Int × Unit) ⊕ qT8) :=
bif (decide (i9 < (s7.2.2.2.2.2.1.length : Int))) then
((idx s7.2.2.2.2.2.1 i9).bind fun v25 =>
(bif (decide (v25.2.1 < (0 : Int))) then
(some (.inl (p4, s7, i9, true, ())))
else
(bif v25.1 then
(bif (decide (p4.2.2.1 ≤ v25.2.1)) then
(some (.inl (p4, s7, i9, true, ())))
else
(bif (!v25.1) then
(bif (decide (p4.2.1 ≤ v25.2.1)) then
(some (.inl (p4, s7, i9, true, ())))
else
(some (.inl (p4, s7, i9, (decide (v25.2.1 = s7.2.1)), ()))))
else
(some (.inl (p4, s7, i9, false, ())))))
else
(bif (!v25.1) then
(bif (decide (p4.2.1 ≤ v25.2.1)) then
(some (.inl (p4, s7, i9, true, ())))
else
(some (.inl (p4, s7, i9, (decide (v25.2.1 = s7.2.1)), ()))))
else
(some (.inl (p4, s7, i9, false, ()))))) : Option ((qT0 × qT3 × Int × Bool × Unit) ⊕ Empty)).bind (Sum.elim (fun d26 =>
bif d26.2.2.2.1 then
(some (.inr (.inl (false, ()))))
else
(some (.inl (d26.1, d26.2.1, (IntKind.i64.wrap (d26.2.2.1 + (1 : Int))), ())))) nof))
else
(some (.inr (.inr (.inl (())))))
noncomputable def qe2 (n : Nat) (d : (qT0 × qT3 × Int × Unit)) : Option ((qT0 × qT3 × Int × Unit) ⊕ qT8) := qe1 n d.1 d.2.1 d.2.2.1
noncomputable def qe3 (n : Nat) (p0 : qT0) (x1 : qT9) (vars2 : (List Int)) (s3 : qT1) : Option (Bool × Unit) :=
(bif (decide ((Rose.val s3).1.2.1 < (0 : Int))) then
(some (.inl (vars2, p0, ((Rose.val s3).1.1, ((Rose.val s3).1.2.1, ((Rose.val s3).1.2.2.1, ((Rose.val s3).1.2.2.2.1, ((Rose.val s3).1.2.2.2.2.1, ((Rose.val s3).1.2.2.2.2.2.1, ((Rose.kids s3), ()))))))), true, ())))
else
(bif (decide (p0.2.1 ≤ (Rose.val s3).1.2.1)) then
(some (.inl (vars2, p0, ((Rose.val s3).1.1, ((Rose.val s3).1.2.1, ((Rose.val s3).1.2.2.1, ((Rose.val s3).1.2.2.2.1, ((Rose.val s3).1.2.2.2.2.1, ((Rose.val s3).1.2.2.2.2.2.1, ((Rose.kids s3), ()))))))), true, ())))
else
((qe0 n x1 (Rose.val s3).1.2.2.1).bind fun r4 =>
bif (!r4.1) then
(some (.inl (vars2, p0, ((Rose.val s3).1.1, ((Rose.val s3).1.2.1, ((Rose.val s3).1.2.2.1, ((Rose.val s3).1.2.2.2.1, ((Rose.val s3).1.2.2.2.2.1, ((Rose.val s3).1.2.2.2.2.2.1, ((Rose.kids s3), ()))))))), true, ())))
else
(bif (decide ((Rose.val s3).1.2.2.2.1 < (0 : Int))) then
(some (.inl (vars2, p0, ((Rose.val s3).1.1, ((Rose.val s3).1.2.1, ((Rose.val s3).1.2.2.1, ((Rose.val s3).1.2.2.2.1, ((Rose.val s3).1.2.2.2.2.1, ((Rose.val s3).1.2.2.2.2.2.1, ((Rose.kids s3), ()))))))), true, ())))
else
(bif (decide ((vars2.length : Int) ≤ (Rose.val s3).1.2.2.2.1)) then
(some (.inl (vars2, p0, ((Rose.val s3).1.1, ((Rose.val s3).1.2.1, ((Rose.val s3).1.2.2.1, ((Rose.val s3).1.2.2.2.1, ((Rose.val s3).1.2.2.2.2.1, ((Rose.val s3).1.2.2.2.2.2.1, ((Rose.kids s3), ()))))))), true, ())))
else
(bif (!decide ((Rose.val s3).1.2.2.2.2.1 = (0 : Int))) then
(some (.inl (vars2, p0, ((Rose.val s3).1.1, ((Rose.val s3).1.2.1, ((Rose.val s3).1.2.2.1, ((Rose.val s3).1.2.2.2.1, ((Rose.val s3).1.2.2.2.2.1, ((Rose.val s3).1.2.2.2.2.2.1, ((Rose.kids s3), ()))))))), true, ())))
else
(some (.inl (vars2, p0, ((Rose.val s3).1.1, ((Rose.val s3).1.2.1, ((Rose.val s3).1.2.2.1, ((Rose.val s3).1.2.2.2.1, ((Rose.val s3).1.2.2.2.2.1, ((Rose.val s3).1.2.2.2.2.2.1, ((Rose.kids s3), ()))))))), (decide ((0 : Int) < (((Rose.kids s3)).length : Int))), ())))))))) : Option (((List Int) × qT0 × qT3 × Bool × Unit) ⊕ Empty)).bind (Sum.elim (fun d5 =>
bif d5.2.2.2.1 then
(some (false, ()))
else
(((idx d5.1 d5.2.2.1.2.2.2.1).bind fun v15 =>
bif (decide ((0 : Int) ≤ v15)) then
((idx d5.1 d5.2.2.1.2.2.2.1).bind fun v16 =>
bif (!decide ((d5.2.2.1.2.2.2.2.2.1.length : Int) = v16)) then
(some (.inl (d5.2.1, d5.2.2.1, true, ())))
else
((idx d5.1 d5.2.2.1.2.2.2.1).bind fun v17 =>
bif (decide (v17 < (0 : Int))) then
(some (.inl (d5.2.1, d5.2.2.1, (decide ((80 : Int) < (d5.2.2.1.2.2.2.2.2.1.length : Int))), ())))
else
(some (.inl (d5.2.1, d5.2.2.1, false, ())))))
else
((idx d5.1 d5.2.2.1.2.2.2.1).bind fun v18 =>
bif (decide (v18 < (0 : Int))) then
(some (.inl (d5.2.1, d5.2.2.1, (decide ((80 : Int) < (d5.2.2.1.2.2.2.2.2.1.length : Int))), ())))
else
(some (.inl (d5.2.1, d5.2.2.1, false, ())))) : Option ((qT0 × qT3 × Bool × Unit) ⊕ Empty)).bind (Sum.elim (fun d19 =>
bif d19.2.2.1 then
(some (false, ()))
else
((iterN (qe2 n) n (d19.1, d19.2.1, (0 : Int), ())).bind (Sum.elim (fun d30 =>
some (d30.1, ())) (Sum.elim (fun d29 =>
some (true, ())) nof)))) nof))) nof)
/-! "commodatum/commodatumref13.body" -/
noncomputable def qe4 (self_ref13_body : qT0 → qT9 → (List Int) → (List qT1) → Option (Bool × Unit)) (n : Nat) (vars2 : (List Int)) (l3 : (List qT1)) (p4 : qT0) (x5 : qT9) (i9 : Int) : Option (qT41 ⊕ qT8) :=
bif (decide (i9 < (l3.length : Int))) then
(((idx l3 i9).bind fun v19 =>
bif (decide ((Rose.val v19).1.1 = (0 : Int))) then
((qe3 n p4 x5 vars2 (Rose.node (((Rose.val v19).1.1, ((Rose.val v19).1.2.1, ((Rose.val v19).1.2.2.1, ((Rose.val v19).1.2.2.2.1, ((Rose.val v19).1.2.2.2.2.1, ((Rose.val v19).1.2.2.2.2.2.1, ())))))), ()) (Rose.kids v19))).bind fun r20 =>
bif (!r20.1) then
(some (.inl (false, ())))
else
(some (.inr (.inl (vars2, l3, p4, x5, i9, ())))))
else
(bif (decide ((Rose.val v19).1.1 = (1 : Int))) then
((bif (decide ((Rose.val v19).1.2.1 < (0 : Int))) then
(some (.inl (vars2, l3, p4, x5, i9, true, ())))
else
(bif (decide (p4.2.1 ≤ (Rose.val v19).1.2.1)) then
(some (.inl (vars2, l3, p4, x5, i9, true, ())))
else
((qe0 n x5 (Rose.val v19).1.2.2.1).bind fun r21 =>
bif (!r21.1) then
(some (.inl (vars2, l3, p4, x5, i9, true, ())))
else
(bif (decide ((Rose.val v19).1.2.2.1 = (0 : Int))) then
(some (.inl (vars2, l3, p4, x5, i9, true, ())))
else
(bif (!decide ((Rose.val v19).1.2.2.2.1 = (0 : Int))) then
(some (.inl (vars2, l3, p4, x5, i9, true, ())))
else
(bif (!decide ((Rose.val v19).1.2.2.2.2.1 = (0 : Int))) then
(some (.inl (vars2, l3, p4, x5, i9, true, ())))
else
(bif (decide ((0 : Int) < (((Rose.val v19).1.2.2.2.2.2.1).length : Int))) then
(some (.inl (vars2, l3, p4, x5, i9, true, ())))
else
(some (.inl (vars2, l3, p4, x5, i9, (decide ((0 : Int) < (((Rose.kids v19)).length : Int))), ()))))))))) : Option (((List Int) × (List qT1) × qT0 × qT9 × Int × Bool × Unit) ⊕ Empty)).bind (Sum.elim (fun d22 =>
bif d22.2.2.2.2.2.1 then
(some (.inl (false, ())))
else
(some (.inr (.inl (d22.1, d22.2.1, d22.2.2.1, d22.2.2.2.1, d22.2.2.2.2.1, ()))))) nof))
else
(bif (decide ((Rose.val v19).1.1 = (2 : Int))) then
((bif (decide ((Rose.val v19).1.2.2.2.2.1 < (0 : Int))) then
(some (.inl (vars2, l3, p4, x5, i9, true, ())))
else
(bif (decide ((2000000 : Int) < (Rose.val v19).1.2.2.2.2.1)) then
(some (.inl (vars2, l3, p4, x5, i9, true, ())))
else
(bif (!decide ((Rose.val v19).1.2.1 = (0 : Int))) then
(some (.inl (vars2, l3, p4, x5, i9, true, ())))
else
(bif (!decide ((Rose.val v19).1.2.2.1 = (0 : Int))) then
(some (.inl (vars2, l3, p4, x5, i9, true, ())))
else
(bif (!decide ((Rose.val v19).1.2.2.2.1 = (0 : Int))) then
(some (.inl (vars2, l3, p4, x5, i9, true, ())))
else
(bif (decide ((0 : Int) < (((Rose.val v19).1.2.2.2.2.2.1).length : Int))) then
(some (.inl (vars2, l3, p4, x5, i9, true, ())))
else
((self_ref13_body p4 x5 vars2 (Rose.kids v19)).bind fun r23 =>
some (.inl (vars2, l3, p4, x5, i9, (!r23.1), ())))))))) : Option (((List Int) × (List qT1) × qT0 × qT9 × Int × Bool × Unit) ⊕ Empty)).bind (Sum.elim (fun d24 =>
bif d24.2.2.2.2.2.1 then
(some (.inl (false, ())))
else
(some (.inr (.inl (d24.1, d24.2.1, d24.2.2.1, d24.2.2.2.1, d24.2.2.2.2.1, ()))))) nof))
else
(some (.inl (false, ()))))) : Option ((Bool × Unit) ⊕ (qT41 ⊕ Empty))).bind (Sum.elim (fun d26 =>
some (.inr (.inl (d26.1, ())))) (Sum.elim (fun d25 =>
some (.inl (d25.1, d25.2.1, d25.2.2.1, d25.2.2.2.1, (IntKind.i64.wrap (d25.2.2.2.2.1 + (1 : Int))), ()))) nof)))
else
(some (.inr (.inr (.inl (())))))
noncomputable def qe5 (self_ref13_body : qT0 → qT9 → (List Int) → (List qT1) → Option (Bool × Unit)) (n : Nat) (d : qT41) : Option (qT41 ⊕ qT8) := qe4 self_ref13_body n d.1 d.2.1 d.2.2.1 d.2.2.2.1 d.2.2.2.2.1
noncomputable def qe6 (self_ref13_body : qT0 → qT9 → (List Int) → (List qT1) → Option (Bool × Unit)) (n : Nat) (p0 : qT0) (x1 : qT9) (vars2 : (List Int)) (l3 : (List qT1)) : Option (Bool × Unit) :=
(iterN (qe5 self_ref13_body n) n (vars2, l3, p0, x1, (0 : Int), ())).bind (Sum.elim (fun d30 =>
some (d30.1, ())) (Sum.elim (fun d29 =>
some (true, ())) nof))
noncomputable def qe7 : Nat → qT0 → qT9 → (List Int) → (List qT1) → Option (Bool × Unit)
  | 0 => fun _ _ _ _ => none
  | n + 1 => qe6 (qe7 n) n
/-! "commodatum/commodatumref13.Valid" -/
noncomputable def qe8 (n : Nat) (p1 : qT0) (i5 : Int) (x3 : qT9) (vars4 : (List Int)) : Option qT60 :=
bif (decide (i5 < (p1.2.2.2.1.length : Int))) then
((idx p1.2.2.2.1 i5).bind fun v16 =>
(qev n x3 v16).bind fun r17 =>
bif (!r17.2.1) then
(some (.inr (.inl (false, ()))))
else
((idx vars4 i5).bind fun v18 =>
some (.inl (p1, (IntKind.i64.wrap (i5 + (1 : Int))), x3, (List.set vars4 (i5).toNat r17.1), ()))))
else
(some (.inr (.inr (.inl (p1, x3, vars4, ())))))
noncomputable def qe9 (n : Nat) (d : (qT0 × Int × qT9 × (List Int) × Unit)) : Option qT60 := qe8 n d.1 d.2.1 d.2.2.1 d.2.2.2.1
noncomputable def qfa (n : Nat) (p0 : qT0) : Option (Bool × Unit) :=
((qea n p0.1).bind fun r4 =>
bif (!r4.1) then
(some (.inl (p0, true, ())))
else
(bif (decide (p0.2.1 < (1 : Int))) then
(some (.inl (p0, true, ())))
else
(bif (decide ((64 : Int) < p0.2.1)) then
(some (.inl (p0, true, ())))
else
(bif (decide (p0.2.2.1 < (0 : Int))) then
(some (.inl (p0, true, ())))
else
(bif (decide ((64 : Int) < p0.2.2.1)) then
(some (.inl (p0, true, ())))
else
(some (.inl (p0, (decide ((1000 : Int) < (p0.2.2.2.1.length : Int))), ()))))))) : Option ((qT0 × Bool × Unit) ⊕ Empty)).bind (Sum.elim (fun d5 =>
bif d5.2.1 then
(some (false, ()))
else
((qen n d5.1.1).bind fun r7 =>
chk (decide (0 ≤ (d5.1.2.2.2.1.length : Int))) (chk (decide ((d5.1.2.2.2.1.length : Int) ≤ (d5.1.2.2.2.1.length : Int))) (chk (lenB ((d5.1.2.2.2.1.length : Int)).toNat) ((iterN (qe9 n) n (d5.1, (0 : Int), r7.1, (List.replicate ((d5.1.2.2.2.1.length : Int)).toNat (0 : Int)), ())).bind (Sum.elim (fun d25 =>
some (d25.1, ())) (Sum.elim (fun d21 =>
(qez n d21.1.2.2.2.2.1 (61 : Int)).bind fun r23 =>
bif (decide (r23.1 ≤ (200000 : Int))) then
(bif (decide (r23.2.1 ≤ (60 : Int))) then
((qe7 n d21.1 d21.2.1 d21.2.2.1 d21.1.2.2.2.2.1).bind fun r24 =>
some (r24.1, ()))
else
(some (false, ())))
else
(some (false, ()))) nof))))))) nof)
/-! "commodatum/commodatumref13.steps" -/
noncomputable def qfb (self_ref13_steps : (List qT1) → Option (Int × Unit)) (n : Nat) (l0 : (List qT1)) (n3 : Int) (i4 : Int) : Option (((List qT1) × Int × Int × Unit) ⊕ qT65) :=
bif (decide (i4 < (l0.length : Int))) then
(((idx l0 i4).bind fun v29 =>
bif (decide ((Rose.val v29).1.1 = (2 : Int))) then
((idx l0 i4).bind fun v30 =>
(self_ref13_steps (Rose.kids v30)).bind fun r31 =>
(bif (decide ((0 : Int) < r31.1)) then
((idx l0 i4).bind fun v32 =>
bif decide (r31.1 = 0) then none else
some (.inl (l0, n3, i4, r31.1, (decide ((IntKind.i64.wrap (Int.tdiv (1099511627777 : Int) r31.1)) < (Rose.val v32).1.2.2.2.2.1)), ())))
else
(some (.inl (l0, n3, i4, r31.1, false, ()))) : Option (((List qT1) × Int × Int × Int × Bool × Unit) ⊕ Empty)).bind (Sum.elim (fun d33 =>
bif d33.2.2.2.2.1 then
(some (.inl ((1099511627777 : Int), ())))
else
((idx d33.1 d33.2.2.1).bind fun v34 =>
some (.inr (.inl (d33.1, d33.2.1, d33.2.2.1, (IntKind.i64.wrap (d33.2.2.2.1 * (Rose.val v34).1.2.2.2.2.1)), ()))))) nof))
else
(some (.inr (.inl (l0, n3, i4, (1 : Int), ())))) : Option ((Int × Unit) ⊕ (qT58 ⊕ Empty))).bind (Sum.elim (fun d36 =>
some (.inr (.inl (d36.1, ())))) (Sum.elim (fun d35 =>
some (.inl (d35.1, (if (1099511627777 : Int) < (IntKind.i64.wrap (d35.2.1 + d35.2.2.2.1)) then (1099511627777 : Int) else (IntKind.i64.wrap (d35.2.1 + d35.2.2.2.1))), (IntKind.i64.wrap (d35.2.2.1 + (1 : Int))), ()))) nof)))
else
(some (.inr (.inr (.inl (n3, ())))))
noncomputable def qfc (self_ref13_steps : (List qT1) → Option (Int × Unit)) (n : Nat) (d : ((List qT1) × Int × Int × Unit)) : Option (((List qT1) × Int × Int × Unit) ⊕ qT65) := qfb self_ref13_steps n d.1 d.2.1 d.2.2.1
noncomputable def qfd (self_ref13_steps : (List qT1) → Option (Int × Unit)) (n : Nat) (l0 : (List qT1)) : Option (Int × Unit) :=
(iterN (qfc self_ref13_steps n) n (l0, (0 : Int), (0 : Int), ())).bind (Sum.elim (fun d40 =>
some (d40.1, ())) (Sum.elim (fun d39 =>
some (d39.1, ())) nof))
noncomputable def qfe : Nat → (List qT1) → Option (Int × Unit)
  | 0 => fun _ => none
  | n + 1 => qfd (qfe n) n
/-! "commodatum/commodatumref13.Steps" -/
noncomputable def qff (n : Nat) (p0 : qT0) : Option (Int × Unit) :=
(qfe n p0.2.2.2.2.1).bind fun r1 =>
some (r1.1, ())
/-! "commodatum/commodatumlaw13.copied" -/
noncomputable def qfg (self_law13_copied : (List qT1) → Option qT14) (n : Nat) (l0 : (List qT1)) (i4 : Int) (out3 : (List qT1)) : Option (qT23 ⊕ (qT14 ⊕ Empty)) :=
bif (decide (i4 < (l0.length : Int))) then
((idx l0 i4).bind fun v7 =>
chk (lenB ((([] : qT11)).length + ((Rose.val v7).1.2.2.2.2.2.1).length)) ((self_law13_copied (Rose.kids v7)).bind fun r8 =>
chk (lenB ((out3).length + ([(Rose.node (((Rose.val v7).1.1, ((Rose.val v7).1.2.1, ((Rose.val v7).1.2.2.1, ((Rose.val v7).1.2.2.2.1, ((Rose.val v7).1.2.2.2.2.1, ((([] : qT11) ++ (Rose.val v7).1.2.2.2.2.2.1), ())))))), ()) r8.1)]).length)) (some (.inl (l0, (IntKind.i64.wrap (i4 + (1 : Int))), (out3 ++ [(Rose.node (((Rose.val v7).1.1, ((Rose.val v7).1.2.1, ((Rose.val v7).1.2.2.1, ((Rose.val v7).1.2.2.2.1, ((Rose.val v7).1.2.2.2.2.1, ((([] : qT11) ++ (Rose.val v7).1.2.2.2.2.2.1), ())))))), ()) r8.1)]), ())))))
else
(some (.inr (.inl (out3, ()))))
noncomputable def qfh (self_law13_copied : (List qT1) → Option qT14) (n : Nat) (d : qT23) : Option (qT23 ⊕ (qT14 ⊕ Empty)) := qfg self_law13_copied n d.1 d.2.1 d.2.2.1
noncomputable def qfi (self_law13_copied : (List qT1) → Option qT14) (n : Nat) (l0 : (List qT1)) : Option qT14 :=
(iterN (qfh self_law13_copied n) n (l0, (0 : Int), ([] : (List qT1)), ())).bind (Sum.elim (fun d10 =>
some (d10.1, ())) nof)
noncomputable def qfj : Nat → (List qT1) → Option qT14
  | 0 => fun _ => none
  | n + 1 => qfi (qfj n) n
/-! "commodatum/commodatumlaw13.Copy" -/
noncomputable def qfk (n : Nat) (p1 : qT0) (i4 : Int) (k6 : Int) (t2 : qT0) (out3 : qT0) (q5 : qT4) : Option qT61 :=
(idx p1.2.2.2.1 i4).bind fun v14 =>
bif (decide (k6 < (v14.length : Int))) then
((idx p1.2.2.2.1 i4).bind fun v15 =>
(idx v15 k6).bind fun v16 =>
(idx p1.2.2.2.1 i4).bind fun v17 =>
(idx v17 k6).bind fun v18 =>
chk (lenB ((([] : (List Int))).length + (v18.2.1).length)) (chk (lenB ((q5).length + ([(v16.1, ((([] : (List Int)) ++ v18.2.1), ()))]).length)) (some (.inl (p1, i4, (IntKind.i64.wrap (k6 + (1 : Int))), t2, out3, (q5 ++ [(v16.1, ((([] : (List Int)) ++ v18.2.1), ()))]), ())))))
else
(some (.inr (.inl (p1, i4, t2, out3, q5, ()))))
noncomputable def qfl (n : Nat) (d : (qT0 × Int × Int × qT0 × qT0 × qT4 × Unit)) : Option qT61 := qfk n d.1 d.2.1 d.2.2.1 d.2.2.2.1 d.2.2.2.2.1 d.2.2.2.2.2.1
noncomputable def qfm (n : Nat) (p1 : qT0) (i4 : Int) (t2 : qT0) (out3 : qT0) : Option ((qT0 × Int × qT0 × qT0 × Unit) ⊕ qT44) :=
bif (decide (i4 < (p1.2.2.2.1.length : Int))) then
((iterN (qfl n) n (p1, i4, (0 : Int), t2, out3, ([] : qT4), ())).bind (Sum.elim (fun d22 =>
chk (lenB ((d22.2.2.2.1.2.2.2.1).length + ([d22.2.2.2.2.1]).length)) (chk (sameP [.el (0), .f2, .f2, .f2, .f1] [.el (0), .f2, .f2, .f2, .f1]) (some (.inl (d22.1, (IntKind.i64.wrap (d22.2.1 + (1 : Int))), d22.2.2.1, (d22.2.2.2.1.1, (d22.2.2.2.1.2.1, (d22.2.2.2.1.2.2.1, ((d22.2.2.2.1.2.2.2.1 ++ [d22.2.2.2.2.1]), d22.2.2.2.1.2.2.2.2)))), ()))))) nof))
else
(some (.inr (.inl (t2, out3, ()))))
noncomputable def qfn (n : Nat) (d : (qT0 × Int × qT0 × qT0 × Unit)) : Option ((qT0 × Int × qT0 × qT0 × Unit) ⊕ qT44) := qfm n d.1 d.2.1 d.2.2.1 d.2.2.2.1
noncomputable def qfo (n : Nat) (p0 : qT0) : Option (qT0 × Unit) :=
(qfj n p0.2.2.2.2.1).bind fun r2 =>
(iterN (qfn n) n (p0, (0 : Int), (((0 : Int), ((0 : Int), ())), ((0 : Int), ((0 : Int), (([] : (List qT4)), (([] : (List qT1)), ()))))), (p0.1, (p0.2.1, (p0.2.2.1, (([] : (List qT4)), (r2.1, ()))))), ())).bind (Sum.elim (fun d24 =>
some (d24.2.1, ())) nof)
/-! "(commodatum/commodatumref13.Arith).Elements" -/
noncomputable def qfp (n : Nat) (l1 : (List Int)) (n2 : Int) (x3 : qT9) (i7 : Int) : Option qT62 :=
bif (decide (i7 < (l1.length : Int))) then
((idx l1 i7).bind fun v7 =>
(qe0 n x3 v7).bind fun r8 =>
bif (!r8.1) then
(some (.inr (.inl (false, ()))))
else
(some (.inl (l1, n2, x3, (IntKind.i64.wrap (i7 + (1 : Int))), ()))))
else
(some (.inr (.inr (.inl (l1, n2, ())))))
noncomputable def qfq (n : Nat) (d : ((List Int) × Int × qT9 × Int × Unit)) : Option qT62 := qfp n d.1 d.2.1 d.2.2.1 d.2.2.2.1
noncomputable def qfr (n : Nat) (x0 : qT9) (l1 : (List Int)) (n2 : Int) : Option (Bool × Unit) :=
(iterN (qfq n) n (l1, n2, x0, (0 : Int), ())).bind (Sum.elim (fun d12 =>
some (d12.1, ())) (Sum.elim (fun d11 =>
some ((decide ((d11.1.length : Int) = d11.2.1)), ())) nof))
/-! "commodatum/commodatumlaw13.Fits" -/
noncomputable def qfs (n : Nat) (p0 : qT0) (values1 : (List Int)) (inputs2 : (List Int)) : Option (Bool × Unit) :=
(qen n p0.1).bind fun r2 =>
(qfr n r2.1 values1 p0.2.1).bind fun r3 =>
bif r3.1 then
((qfr n r2.1 inputs2 p0.2.2.1).bind fun r4 =>
some (r4.1, ()))
else
(some (false, ()))
/-! "commodatum/commodatumref13.Effort" -/
noncomputable def qft (n : Nat) (p1 : qT0) (most3 : Int) (i4 : Int) (n5 : Int) (k6 : Int) (j7 : Int) : Option (qT46 ⊕ (qT42 ⊕ Empty)) :=
(idx p1.2.2.2.1 i4).bind fun v20 =>
(idx v20 k6).bind fun v21 =>
bif (decide (j7 < (v21.2.1.length : Int))) then
(((idx p1.2.2.2.1 i4).bind fun v22 =>
(idx v22 k6).bind fun v23 =>
(idx v23.2.1 j7).bind fun v24 =>
bif (decide ((0 : Int) < v24)) then
(some (.inl (p1, most3, i4, (IntKind.i64.wrap (n5 + (1 : Int))), k6, j7, ())))
else
(some (.inl (p1, most3, i4, n5, k6, j7, ()))) : Option (qT46 ⊕ Empty)).bind (Sum.elim (fun d25 =>
some (.inl (d25.1, d25.2.1, d25.2.2.1, d25.2.2.2.1, d25.2.2.2.2.1, (IntKind.i64.wrap (d25.2.2.2.2.2.1 + (1 : Int))), ()))) nof))
else
(some (.inr (.inl (p1, most3, i4, n5, k6, ()))))
noncomputable def qfu (n : Nat) (d : qT46) : Option (qT46 ⊕ (qT42 ⊕ Empty)) := qft n d.1 d.2.1 d.2.2.1 d.2.2.2.1 d.2.2.2.2.1 d.2.2.2.2.2.1
noncomputable def qfv (n : Nat) (p1 : qT0) (most3 : Int) (i4 : Int) (n5 : Int) (k6 : Int) : Option (qT42 ⊕ (qT49 ⊕ Empty)) :=
(idx p1.2.2.2.1 i4).bind fun v28 =>
bif (decide (k6 < (v28.length : Int))) then
((iterN (qfu n) n (p1, most3, i4, (IntKind.i64.wrap (n5 + (1 : Int))), k6, (0 : Int), ())).bind (Sum.elim (fun d29 =>
some (.inl (d29.1, d29.2.1, d29.2.2.1, d29.2.2.2.1, (IntKind.i64.wrap (d29.2.2.2.2.1 + (1 : Int))), ()))) nof))
else
(some (.inr (.inl (p1, most3, i4, n5, ()))))
noncomputable def qfw (n : Nat) (d : qT42) : Option (qT42 ⊕ (qT49 ⊕ Empty)) := qfv n d.1 d.2.1 d.2.2.1 d.2.2.2.1 d.2.2.2.2.1
noncomputable def qfx (n : Nat) (p1 : qT0) (most3 : Int) (i4 : Int) : Option (qT39 ⊕ ((qT0 × Int × Unit) ⊕ Empty)) :=
bif (decide (i4 < (p1.2.2.2.1.length : Int))) then
((iterN (qfw n) n (p1, most3, i4, (1 : Int), (0 : Int), ())).bind (Sum.elim (fun d33 =>
some (.inl (d33.1, (if d33.2.2.2.1 > d33.2.1 then d33.2.2.2.1 else d33.2.1), (IntKind.i64.wrap (d33.2.2.1 + (1 : Int))), ()))) nof))
else
(some (.inr (.inl (p1, most3, ()))))
noncomputable def qfy (n : Nat) (d : qT39) : Option (qT39 ⊕ ((qT0 × Int × Unit) ⊕ Empty)) := qfx n d.1 d.2.1 d.2.2.1
noncomputable def qfz (n : Nat) (p0 : qT0) : Option (Int × Unit) :=
(iterN (qfy n) n (p0, (1 : Int), (0 : Int), ())).bind (Sum.elim (fun d35 =>
(qff n d35.1).bind fun r36 =>
bif decide (d35.2.1 = 0) then none else
some ((IntKind.i64.wrap ((if (IntKind.i64.wrap ((IntKind.i64.wrap (Int.tdiv (1099511627776 : Int) d35.2.1)) + (1 : Int))) < r36.1 then (IntKind.i64.wrap ((IntKind.i64.wrap (Int.tdiv (1099511627776 : Int) d35.2.1)) + (1 : Int))) else r36.1) * d35.2.1)), ())) nof)
/-! "commodatum/commodatumlaw13.Dear" -/
noncomputable def qf0 (n : Nat) (p0 : qT0) : Option (Bool × Unit) :=
(qff n p0).bind fun r1 =>
bif (decide ((500000 : Int) < r1.1)) then
(some (true, ()))
else
((qfz n p0).bind fun r2 =>
some ((decide ((2000000 : Int) < r2.1)), ()))
/-! "slices.Clone[[]int,int]" -/
noncomputable def qf1 (n : Nat) (nb : Bool) (s0 : (List Int)) : Option qT25 :=
bif nb then
(some (([] : (List Int)), ()))
else
(chk (lenB ((([] : (List Int))).length + (s0).length)) (some ((([] : (List Int)) ++ s0), ())))
noncomputable def qf2 (n : Nat) (s0 : (List Int)) : Option qT25 := qf1 n false s0
/-! "slices.Clone[[]commodatum/api.Ref,commodatum/api.Ref]" -/
noncomputable def qf3 (n : Nat) (nb : Bool) (s0 : qT11) : Option (qT11 × Unit) :=
bif nb then
(some (([] : qT11), ()))
else
(chk (lenB ((([] : qT11)).length + (s0).length)) (some ((([] : qT11) ++ s0), ())))
noncomputable def qf4 (n : Nat) (s0 : qT11) : Option (qT11 × Unit) := qf3 n false s0
/-! "commodatum/commodatumlaw13.zero" -/
noncomputable def qf5 (n : Nat) (p0 : qT0) : Option (Bool × Unit) :=
bif (decide (p0.1.1 = (0 : Int)) && (decide (p0.1.2.1 = (0 : Int)) && true)) then
(bif (decide (p0.2.1 = (0 : Int))) then
(bif (decide (p0.2.2.1 = (0 : Int))) then
(bif (decide ((p0.2.2.2.1.length : Int) = (0 : Int))) then
(some ((decide ((p0.2.2.2.2.1.length : Int) = (0 : Int))), ()))
else
(some (false, ())))
else
(some (false, ())))
else
(some (false, ())))
else
(some (false, ()))
/-! "commodatum/regs.copied" -/
noncomputable def qf6 (n : Nat) (t17 : (List qT4)) (t18 : Int) (t19 : Int) (t23 : qT4) (t24 : Int) (t25 : Int) (t2 : qT0) (out3 : qT0) (own6 : qT4) : Option qT43 :=
bif (decide (t25 < t24)) then
((idx t23 t25).bind fun v8 =>
(qf2 n v8.2.1).bind fun r9 =>
chk (lenB ((own6).length + ([(v8.1, (r9.1, ()))]).length)) (some (.inl (t17, t18, t19, t23, t24, (IntKind.i64.wrap (t25 + (1 : Int))), t2, out3, (own6 ++ [(v8.1, (r9.1, ()))]), ()))))
else
(some (.inr (.inl (t17, t18, t19, t2, out3, own6, ()))))
noncomputable def qf7 (n : Nat) (d : ((List qT4) × Int × Int × qT4 × Int × Int × qT0 × qT0 × qT4 × Unit)) : Option qT43 := qf6 n d.1 d.2.1 d.2.2.1 d.2.2.2.1 d.2.2.2.2.1 d.2.2.2.2.2.1 d.2.2.2.2.2.2.1 d.2.2.2.2.2.2.2.1 d.2.2.2.2.2.2.2.2.1
noncomputable def qf8 (n : Nat) (t17 : (List qT4)) (t18 : Int) (t19 : Int) (t2 : qT0) (out3 : qT0) : Option (((List qT4) × Int × Int × qT0 × qT0 × Unit) ⊕ qT44) :=
bif (decide (t19 < t18)) then
((idx t17 t19).bind fun v14 =>
(iterN (qf7 n) n (t17, t18, t19, v14, (v14.length : Int), (0 : Int), t2, out3, ([] : qT4), ())).bind (Sum.elim (fun d15 =>
chk (lenB ((d15.2.2.2.2.1.2.2.2.1).length + ([d15.2.2.2.2.2.1]).length)) (chk (sameP [.el (0), .f2, .f2, .f2, .f1] [.el (0), .f2, .f2, .f2, .f1]) (some (.inl (d15.1, d15.2.1, (IntKind.i64.wrap (d15.2.2.1 + (1 : Int))), d15.2.2.2.1, (d15.2.2.2.2.1.1, (d15.2.2.2.2.1.2.1, (d15.2.2.2.2.1.2.2.1, ((d15.2.2.2.2.1.2.2.2.1 ++ [d15.2.2.2.2.2.1]), d15.2.2.2.2.1.2.2.2.2)))), ()))))) nof))
else
(some (.inr (.inl (t2, out3, ()))))
noncomputable def qf9 (n : Nat) (d : ((List qT4) × Int × Int × qT0 × qT0 × Unit)) : Option (((List qT4) × Int × Int × qT0 × qT0 × Unit) ⊕ qT44) := qf8 n d.1 d.2.1 d.2.2.1 d.2.2.2.1 d.2.2.2.2.1
noncomputable def qga (n : Nat) (p0 : qT0) : Option (qT0 × Unit) :=
(iterN (qf9 n) n (p0.2.2.2.1, (p0.2.2.2.1.length : Int), (0 : Int), (((0 : Int), ((0 : Int), ())), ((0 : Int), ((0 : Int), (([] : (List qT4)), (([] : (List qT1)), ()))))), (p0.1, (p0.2.1, (p0.2.2.1, (([] : (List qT4)), (([] : (List qT1)), ()))))), ())).bind (Sum.elim (fun d17 =>
some (d17.2.1, ())) nof)
/-! "commodatum/regs.unrolled" -/
noncomputable def qgb (self_regs_unrolled' : (List qT1) → (List qT1) → Option qT14) (n : Nat) (t7 : (List qT1)) (t8 : Int) (t9 : Int) (t25 : Int) (t26 : Int) (out1 : (List qT1)) (s6 : qT3) : Option (qT20 ⊕ (qT12 ⊕ Empty)) :=
bif (decide (t26 < t25)) then
((self_regs_unrolled' s6.2.2.2.2.2.2.1 out1).bind fun r10 =>
some (.inl (t7, t8, t9, t25, (IntKind.i64.wrap (t26 + (1 : Int))), r10.1, s6, ())))
else
(some (.inr (.inl (t7, t8, t9, out1, ()))))
noncomputable def qgc (self_regs_unrolled' : (List qT1) → (List qT1) → Option qT14) (n : Nat) (d : qT20) : Option (qT20 ⊕ (qT12 ⊕ Empty)) := qgb self_regs_unrolled' n d.1 d.2.1 d.2.2.1 d.2.2.2.1 d.2.2.2.2.1 d.2.2.2.2.2.1 d.2.2.2.2.2.2.1
noncomputable def qgd (self_regs_unrolled' : (List qT1) → (List qT1) → Option qT14) (n : Nat) (t7 : (List qT1)) (t8 : Int) (t9 : Int) (out1 : (List qT1)) : Option (qT12 ⊕ (qT14 ⊕ Empty)) :=
bif (decide (t9 < t8)) then
(((idx t7 t9).bind fun v17 =>
bif (!decide ((Rose.val v17).1.1 = (2 : Int))) then
((qf4 n (Rose.val v17).1.2.2.2.2.2.1).bind fun r18 =>
chk (lenB ((out1).length + ([(Rose.node (((Rose.val v17).1.1, ((Rose.val v17).1.2.1, ((Rose.val v17).1.2.2.1, ((Rose.val v17).1.2.2.2.1, ((Rose.val v17).1.2.2.2.2.1, (r18.1, ())))))), ()) (Rose.kids v17))]).length)) (some (.inl (t7, t8, t9, (out1 ++ [(Rose.node (((Rose.val v17).1.1, ((Rose.val v17).1.2.1, ((Rose.val v17).1.2.2.1, ((Rose.val v17).1.2.2.2.1, ((Rose.val v17).1.2.2.2.2.1, (r18.1, ())))))), ()) (Rose.kids v17))]), ()))))
else
((qck n (Rose.node (((Rose.val v17).1.1, ((Rose.val v17).1.2.1, ((Rose.val v17).1.2.2.1, ((Rose.val v17).1.2.2.2.1, ((Rose.val v17).1.2.2.2.2.1, ((Rose.val v17).1.2.2.2.2.2.1, ())))))), ()) (Rose.kids v17))).bind fun r19 =>
(iterN (qgc self_regs_unrolled' n) n (t7, t8, t9, r19.1, (0 : Int), out1, ((Rose.val v17).1.1, ((Rose.val v17).1.2.1, ((Rose.val v17).1.2.2.1, ((Rose.val v17).1.2.2.2.1, ((Rose.val v17).1.2.2.2.2.1, ((Rose.val v17).1.2.2.2.2.2.1, ((Rose.kids v17), ()))))))), ())).bind (Sum.elim (fun d20 =>
some (.inl (d20.1, d20.2.1, d20.2.2.1, d20.2.2.2.1, ()))) nof)) : Option (qT12 ⊕ Empty)).bind (Sum.elim (fun d21 =>
some (.inl (d21.1, d21.2.1, (IntKind.i64.wrap (d21.2.2.1 + (1 : Int))), d21.2.2.2.1, ()))) nof))
else
(some (.inr (.inl (out1, ()))))
noncomputable def qge (self_regs_unrolled' : (List qT1) → (List qT1) → Option qT14) (n : Nat) (d : qT12) : Option (qT12 ⊕ (qT14 ⊕ Empty)) := qgd self_regs_unrolled' n d.1 d.2.1 d.2.2.1 d.2.2.2.1
noncomputable def qgf (self_regs_unrolled' : (List qT1) → (List qT1) → Option qT14) (n : Nat) (l0 : (List qT1)) (outo0 : (List qT1)) : Option qT14 :=
(iterN (qge self_regs_unrolled' n) n (l0, (l0.length : Int), (0 : Int), outo0, ())).bind (Sum.elim (fun d23 =>
some (d23.1, ())) nof)
noncomputable def qgg : Nat → (List qT1) → (List qT1) → Option qT14
  | 0 => fun _ _ => none
  | n + 1 => qgf (qgg n) n
/-! "commodatum/regs.unrolled" -/
noncomputable def qgh (n : Nat) (t7 : (List qT1)) (t8 : Int) (t9 : Int) (t25 : Int) (t26 : Int) (out1 : (List qT1)) (s6 : qT3) : Option (qT20 ⊕ (qT12 ⊕ Empty)) :=
bif (decide (t26 < t25)) then
((qgg n s6.2.2.2.2.2.2.1 out1).bind fun r10 =>
some (.inl (t7, t8, t9, t25, (IntKind.i64.wrap (t26 + (1 : Int))), r10.1, s6, ())))
else
(some (.inr (.inl (t7, t8, t9, out1, ()))))
noncomputable def qgi (n : Nat) (d : qT20) : Option (qT20 ⊕ (qT12 ⊕ Empty)) := qgh n d.1 d.2.1 d.2.2.1 d.2.2.2.1 d.2.2.2.2.1 d.2.2.2.2.2.1 d.2.2.2.2.2.2.1
noncomputable def qgj (n : Nat) (t7 : (List qT1)) (t8 : Int) (t9 : Int) (out1 : (List qT1)) : Option (qT12 ⊕ (qT14 ⊕ Empty)) :=
bif (decide (t9 < t8)) then
(((idx t7 t9).bind fun v17 =>
bif (!decide ((Rose.val v17).1.1 = (2 : Int))) then
((qf4 n (Rose.val v17).1.2.2.2.2.2.1).bind fun r18 =>
chk (lenB ((out1).length + ([(Rose.node (((Rose.val v17).1.1, ((Rose.val v17).1.2.1, ((Rose.val v17).1.2.2.1, ((Rose.val v17).1.2.2.2.1, ((Rose.val v17).1.2.2.2.2.1, (r18.1, ())))))), ()) (Rose.kids v17))]).length)) (some (.inl (t7, t8, t9, (out1 ++ [(Rose.node (((Rose.val v17).1.1, ((Rose.val v17).1.2.1, ((Rose.val v17).1.2.2.1, ((Rose.val v17).1.2.2.2.1, ((Rose.val v17).1.2.2.2.2.1, (r18.1, ())))))), ()) (Rose.kids v17))]), ()))))
else
((qck n (Rose.node (((Rose.val v17).1.1, ((Rose.val v17).1.2.1, ((Rose.val v17).1.2.2.1, ((Rose.val v17).1.2.2.2.1, ((Rose.val v17).1.2.2.2.2.1, ((Rose.val v17).1.2.2.2.2.2.1, ())))))), ()) (Rose.kids v17))).bind fun r19 =>
(iterN (qgi n) n (t7, t8, t9, r19.1, (0 : Int), out1, ((Rose.val v17).1.1, ((Rose.val v17).1.2.1, ((Rose.val v17).1.2.2.1, ((Rose.val v17).1.2.2.2.1, ((Rose.val v17).1.2.2.2.2.1, ((Rose.val v17).1.2.2.2.2.2.1, ((Rose.kids v17), ()))))))), ())).bind (Sum.elim (fun d20 =>
some (.inl (d20.1, d20.2.1, d20.2.2.1, d20.2.2.2.1, ()))) nof)) : Option (qT12 ⊕ Empty)).bind (Sum.elim (fun d21 =>
some (.inl (d21.1, d21.2.1, (IntKind.i64.wrap (d21.2.2.1 + (1 : Int))), d21.2.2.2.1, ()))) nof))
else
(some (.inr (.inl (out1, ()))))
noncomputable def qgk (n : Nat) (d : qT12) : Option (qT12 ⊕ (qT14 ⊕ Empty)) := qgj n d.1 d.2.1 d.2.2.1 d.2.2.2.1
noncomputable def qgl (n : Nat) (l0 : (List qT1)) : Option qT14 :=
(iterN (qgk n) n (l0, (l0.length : Int), (0 : Int), ([] : (List qT1)), ())).bind (Sum.elim (fun d23 =>
some (d23.1, ())) nof)
/-! "commodatum/regs.Unroll" -/
noncomputable def qgm (n : Nat) (p0 : qT0) : Option (qT0 × (Int × Unit)) :=
(qbs n p0).bind fun r5 =>
bif (!r5.1) then
(some ((((0 : Int), ((0 : Int), ())), ((0 : Int), ((0 : Int), (([] : (List qT4)), (([] : (List qT1)), ()))))), ((1 : Int), ())))
else
((qbw n p0.2.2.2.2.1).bind fun r6 =>
bif (decide ((200000 : Int) < r6.1)) then
(some ((((0 : Int), ((0 : Int), ())), ((0 : Int), ((0 : Int), (([] : (List qT4)), (([] : (List qT1)), ()))))), ((5 : Int), ())))
else
((qga n p0).bind fun r8 =>
(qgl n p0.2.2.2.2.1).bind fun r10 =>
some ((r8.1.1, (r8.1.2.1, (r8.1.2.2.1, (r8.1.2.2.2.1, (r10.1, r8.1.2.2.2.2.2))))), ((0 : Int), ()))))
/-! "commodatum/commodatumref13.flat" -/
noncomputable def qgn (self_ref13_flat : (List qT1) → Option qT14) (n : Nat) (l0 : (List qT1)) (i4 : Int) (once5 : (List qT1)) (k6 : Int) (out3 : (List qT1)) : Option (qT54 ⊕ (qT23 ⊕ Empty)) :=
((idx l0 i4).bind fun v18 =>
bif (decide (k6 < (Rose.val v18).1.2.2.2.2.1)) then
(some (.inl (l0, i4, once5, k6, (decide ((0 : Int) < (once5.length : Int))), out3, ())))
else
(some (.inl (l0, i4, once5, k6, false, out3, ()))) : Option (((List qT1) × Int × (List qT1) × Int × Bool × (List qT1) × Unit) ⊕ Empty)).bind (Sum.elim (fun d19 =>
bif d19.2.2.2.2.1 then
(chk (lenB ((d19.2.2.2.2.2.1).length + (d19.2.2.1).length)) (some (.inl (d19.1, d19.2.1, d19.2.2.1, (IntKind.i64.wrap (d19.2.2.2.1 + (1 : Int))), (d19.2.2.2.2.2.1 ++ d19.2.2.1), ()))))
else
(some (.inr (.inl (d19.1, d19.2.1, d19.2.2.2.2.2.1, ()))))) nof)
noncomputable def qgo (self_ref13_flat : (List qT1) → Option qT14) (n : Nat) (d : qT54) : Option (qT54 ⊕ (qT23 ⊕ Empty)) := qgn self_ref13_flat n d.1 d.2.1 d.2.2.1 d.2.2.2.1 d.2.2.2.2.1
noncomputable def qgp (self_ref13_flat : (List qT1) → Option qT14) (n : Nat) (l0 : (List qT1)) (i4 : Int) (out3 : (List qT1)) : Option (qT23 ⊕ (qT14 ⊕ Empty)) :=
bif (decide (i4 < (l0.length : Int))) then
(((idx l0 i4).bind fun v28 =>
bif (!decide ((Rose.val v28).1.1 = (2 : Int))) then
((idx l0 i4).bind fun v29 =>
chk (lenB ((out3).length + ([v29]).length)) (some (.inl (l0, i4, (out3 ++ [v29]), ()))))
else
((idx l0 i4).bind fun v30 =>
bif (decide ((Rose.val v30).1.2.2.2.2.1 = (0 : Int))) then
(some (.inl (l0, i4, out3, ())))
else
((idx l0 i4).bind fun v31 =>
(self_ref13_flat (Rose.kids v31)).bind fun r32 =>
(iterN (qgo self_ref13_flat n) n (l0, i4, r32.1, (0 : Int), out3, ())).bind (Sum.elim (fun d33 =>
some (.inl (d33.1, d33.2.1, d33.2.2.1, ()))) nof))) : Option (qT23 ⊕ Empty)).bind (Sum.elim (fun d34 =>
some (.inl (d34.1, (IntKind.i64.wrap (d34.2.1 + (1 : Int))), d34.2.2.1, ()))) nof))
else
(some (.inr (.inl (out3, ()))))
noncomputable def qgq (self_ref13_flat : (List qT1) → Option qT14) (n : Nat) (d : qT23) : Option (qT23 ⊕ (qT14 ⊕ Empty)) := qgp self_ref13_flat n d.1 d.2.1 d.2.2.1
noncomputable def qgr (self_ref13_flat : (List qT1) → Option qT14) (n : Nat) (l0 : (List qT1)) : Option qT14 :=
(iterN (qgq self_ref13_flat n) n (l0, (0 : Int), ([] : (List qT1)), ())).bind (Sum.elim (fun d36 =>
some (d36.1, ())) nof)
noncomputable def qgs : Nat → (List qT1) → Option qT14
  | 0 => fun _ => none
  | n + 1 => qgr (qgs n) n
/-! "commodatum/commodatumref13.Unroll" -/
noncomputable def qgt (n : Nat) (p0 : qT0) : Option (qT0 × Unit) :=
(qgs n p0.2.2.2.2.1).bind fun r1 =>
some ((p0.1, (p0.2.1, (p0.2.2.1, (p0.2.2.2.1, (r1.1, ()))))), ())
/-! "commodatum/commodatumref13.SamePoly" -/
noncomputable def qgu (n : Nat) (a0 : qT4) (b1 : qT4) (i5 : Int) (k6 : Int) : Option qT66 :=
(idx a0 i5).bind fun v30 =>
bif (decide (k6 < (v30.2.1.length : Int))) then
((idx a0 i5).bind fun v31 =>
(idx v31.2.1 k6).bind fun v32 =>
(idx b1 i5).bind fun v33 =>
(idx v33.2.1 k6).bind fun v34 =>
bif (!decide (v32 = v34)) then
(some (.inr (.inl (false, ()))))
else
(some (.inl (a0, b1, i5, (IntKind.i64.wrap (k6 + (1 : Int))), ()))))
else
(some (.inr (.inr (.inl (a0, b1, i5, ())))))
noncomputable def qgv (n : Nat) (d : (qT4 × qT4 × Int × Int × Unit)) : Option qT66 := qgu n d.1 d.2.1 d.2.2.1 d.2.2.2.1
noncomputable def qgw (n : Nat) (a0 : qT4) (b1 : qT4) (i5 : Int) : Option ((qT4 × qT4 × Int × Unit) ⊕ qT8) :=
bif (decide (i5 < (a0.length : Int))) then
(((idx a0 i5).bind fun v44 =>
(idx b1 i5).bind fun v45 =>
bif (!decide (v44.1 = v45.1)) then
(some (.inl (a0, b1, i5, true, ())))
else
((idx a0 i5).bind fun v46 =>
(idx b1 i5).bind fun v47 =>
some (.inl (a0, b1, i5, (!decide ((v46.2.1.length : Int) = (v47.2.1.length : Int))), ()))) : Option ((qT4 × qT4 × Int × Bool × Unit) ⊕ Empty)).bind (Sum.elim (fun d48 =>
bif d48.2.2.2.1 then
(some (.inr (.inl (false, ()))))
else
((iterN (qgv n) n (d48.1, d48.2.1, d48.2.2.1, (0 : Int), ())).bind (Sum.elim (fun d50 =>
some (.inr (.inl (d50.1, ())))) (Sum.elim (fun d49 =>
some (.inl (d49.1, d49.2.1, (IntKind.i64.wrap (d49.2.2.1 + (1 : Int))), ()))) nof)))) nof))
else
(some (.inr (.inr (.inl (())))))
noncomputable def qgx (n : Nat) (d : (qT4 × qT4 × Int × Unit)) : Option ((qT4 × qT4 × Int × Unit) ⊕ qT8) := qgw n d.1 d.2.1 d.2.2.1
noncomputable def qgy (n : Nat) (a0 : qT4) (b1 : qT4) : Option (Bool × Unit) :=
bif (!decide ((a0.length : Int) = (b1.length : Int))) then
(some (false, ()))
else
((iterN (qgx n) n (a0, b1, (0 : Int), ())).bind (Sum.elim (fun d54 =>
some (d54.1, ())) (Sum.elim (fun d53 =>
some (true, ())) nof)))
/-! "commodatum/commodatumref13.SameStmt" -/
noncomputable def qgz (self_ref13_SameStmt : qT1 → qT1 → Option (Bool × Unit)) (n : Nat) (a2 : qT3) (b3 : qT3) (i6 : Int) : Option (qT55 ⊕ qT8) :=
bif (decide (i6 < (a2.2.2.2.2.2.2.1.length : Int))) then
((idx a2.2.2.2.2.2.2.1 i6).bind fun v23 =>
(idx b3.2.2.2.2.2.2.1 i6).bind fun v24 =>
(self_ref13_SameStmt v23 v24).bind fun r25 =>
bif (!r25.1) then
(some (.inr (.inl (false, ()))))
else
(some (.inl (a2, b3, (IntKind.i64.wrap (i6 + (1 : Int))), ()))))
else
(some (.inr (.inr (.inl (())))))
noncomputable def qg0 (self_ref13_SameStmt : qT1 → qT1 → Option (Bool × Unit)) (n : Nat) (d : qT55) : Option (qT55 ⊕ qT8) := qgz self_ref13_SameStmt n d.1 d.2.1 d.2.2.1
noncomputable def qg1 (self_ref13_SameStmt : qT1 → qT1 → Option (Bool × Unit)) (n : Nat) (a2 : qT3) (b3 : qT3) (i5 : Int) : Option (qT55 ⊕ ((Bool × Unit) ⊕ ((qT3 × qT3 × Unit) ⊕ Empty))) :=
bif (decide (i5 < (a2.2.2.2.2.2.1.length : Int))) then
((idx a2.2.2.2.2.2.1 i5).bind fun v9 =>
(idx b3.2.2.2.2.2.1 i5).bind fun v10 =>
bif (!((v9.1 == v10.1) && (decide (v9.2.1 = v10.2.1) && true))) then
(some (.inr (.inl (false, ()))))
else
(some (.inl (a2, b3, (IntKind.i64.wrap (i5 + (1 : Int))), ()))))
else
(some (.inr (.inr (.inl (a2, b3, ())))))
noncomputable def qg2 (self_ref13_SameStmt : qT1 → qT1 → Option (Bool × Unit)) (n : Nat) (d : qT55) : Option (qT55 ⊕ ((Bool × Unit) ⊕ ((qT3 × qT3 × Unit) ⊕ Empty))) := qg1 self_ref13_SameStmt n d.1 d.2.1 d.2.2.1
noncomputable def qg3 (self_ref13_SameStmt : qT1 → qT1 → Option (Bool × Unit)) (n : Nat) (a0 : qT1) (b1 : qT1) : Option (Bool × Unit) :=
(bif (!decide ((Rose.val a0).1.1 = (Rose.val b1).1.1)) then
(some (.inl (((Rose.val a0).1.1, ((Rose.val a0).1.2.1, ((Rose.val a0).1.2.2.1, ((Rose.val a0).1.2.2.2.1, ((Rose.val a0).1.2.2.2.2.1, ((Rose.val a0).1.2.2.2.2.2.1, ((Rose.kids a0), ()))))))), ((Rose.val b1).1.1, ((Rose.val b1).1.2.1, ((Rose.val b1).1.2.2.1, ((Rose.val b1).1.2.2.2.1, ((Rose.val b1).1.2.2.2.2.1, ((Rose.val b1).1.2.2.2.2.2.1, ((Rose.kids b1), ()))))))), true, ())))
else
(bif (!decide ((Rose.val a0).1.2.1 = (Rose.val b1).1.2.1)) then
(some (.inl (((Rose.val a0).1.1, ((Rose.val a0).1.2.1, ((Rose.val a0).1.2.2.1, ((Rose.val a0).1.2.2.2.1, ((Rose.val a0).1.2.2.2.2.1, ((Rose.val a0).1.2.2.2.2.2.1, ((Rose.kids a0), ()))))))), ((Rose.val b1).1.1, ((Rose.val b1).1.2.1, ((Rose.val b1).1.2.2.1, ((Rose.val b1).1.2.2.2.1, ((Rose.val b1).1.2.2.2.2.1, ((Rose.val b1).1.2.2.2.2.2.1, ((Rose.kids b1), ()))))))), true, ())))
else
(bif (!decide ((Rose.val a0).1.2.2.1 = (Rose.val b1).1.2.2.1)) then
(some (.inl (((Rose.val a0).1.1, ((Rose.val a0).1.2.1, ((Rose.val a0).1.2.2.1, ((Rose.val a0).1.2.2.2.1, ((Rose.val a0).1.2.2.2.2.1, ((Rose.val a0).1.2.2.2.2.2.1, ((Rose.kids a0), ()))))))), ((Rose.val b1).1.1, ((Rose.val b1).1.2.1, ((Rose.val b1).1.2.2.1, ((Rose.val b1).1.2.2.2.1, ((Rose.val b1).1.2.2.2.2.1, ((Rose.val b1).1.2.2.2.2.2.1, ((Rose.kids b1), ()))))))), true, ())))
else
(bif (!decide ((Rose.val a0).1.2.2.2.1 = (Rose.val b1).1.2.2.2.1)) then
(some (.inl (((Rose.val a0).1.1, ((Rose.val a0).1.2.1, ((Rose.val a0).1.2.2.1, ((Rose.val a0).1.2.2.2.1, ((Rose.val a0).1.2.2.2.2.1, ((Rose.val a0).1.2.2.2.2.2.1, ((Rose.kids a0), ()))))))), ((Rose.val b1).1.1, ((Rose.val b1).1.2.1, ((Rose.val b1).1.2.2.1, ((Rose.val b1).1.2.2.2.1, ((Rose.val b1).1.2.2.2.2.1, ((Rose.val b1).1.2.2.2.2.2.1, ((Rose.kids b1), ()))))))), true, ())))
else
(bif (!decide ((Rose.val a0).1.2.2.2.2.1 = (Rose.val b1).1.2.2.2.2.1)) then
(some (.inl (((Rose.val a0).1.1, ((Rose.val a0).1.2.1, ((Rose.val a0).1.2.2.1, ((Rose.val a0).1.2.2.2.1, ((Rose.val a0).1.2.2.2.2.1, ((Rose.val a0).1.2.2.2.2.2.1, ((Rose.kids a0), ()))))))), ((Rose.val b1).1.1, ((Rose.val b1).1.2.1, ((Rose.val b1).1.2.2.1, ((Rose.val b1).1.2.2.2.1, ((Rose.val b1).1.2.2.2.2.1, ((Rose.val b1).1.2.2.2.2.2.1, ((Rose.kids b1), ()))))))), true, ())))
else
(bif (!decide ((((Rose.val a0).1.2.2.2.2.2.1).length : Int) = (((Rose.val b1).1.2.2.2.2.2.1).length : Int))) then
(some (.inl (((Rose.val a0).1.1, ((Rose.val a0).1.2.1, ((Rose.val a0).1.2.2.1, ((Rose.val a0).1.2.2.2.1, ((Rose.val a0).1.2.2.2.2.1, ((Rose.val a0).1.2.2.2.2.2.1, ((Rose.kids a0), ()))))))), ((Rose.val b1).1.1, ((Rose.val b1).1.2.1, ((Rose.val b1).1.2.2.1, ((Rose.val b1).1.2.2.2.1, ((Rose.val b1).1.2.2.2.2.1, ((Rose.val b1).1.2.2.2.2.2.1, ((Rose.kids b1), ()))))))), true, ())))
else
(some (.inl (((Rose.val a0).1.1, ((Rose.val a0).1.2.1, ((Rose.val a0).1.2.2.1, ((Rose.val a0).1.2.2.2.1, ((Rose.val a0).1.2.2.2.2.1, ((Rose.val a0).1.2.2.2.2.2.1, ((Rose.kids a0), ()))))))), ((Rose.val b1).1.1, ((Rose.val b1).1.2.1, ((Rose.val b1).1.2.2.1, ((Rose.val b1).1.2.2.2.1, ((Rose.val b1).1.2.2.2.2.1, ((Rose.val b1).1.2.2.2.2.2.1, ((Rose.kids b1), ()))))))), (!decide ((((Rose.kids a0)).length : Int) = (((Rose.kids b1)).length : Int))), ())))))))) : Option ((qT3 × qT3 × Bool × Unit) ⊕ Empty)).bind (Sum.elim (fun d2 =>
bif d2.2.2.1 then
(some (false, ()))
else
((iterN (qg2 self_ref13_SameStmt n) n (d2.1, d2.2.1, (0 : Int), ())).bind (Sum.elim (fun d30 =>
some (d30.1, ())) (Sum.elim (fun d13 =>
(iterN (qg0 self_ref13_SameStmt n) n (d13.1, d13.2.1, (0 : Int), ())).bind (Sum.elim (fun d29 =>
some (d29.1, ())) (Sum.elim (fun d28 =>
some (true, ())) nof))) nof)))) nof)
noncomputable def qg4 : Nat → qT1 → qT1 → Option (Bool × Unit)
  | 0 => fun _ _ => none
  | n + 1 => qg3 (qg4 n) n
/-! "commodatum/commodatumref13.Same" -/
noncomputable def qg5 (n : Nat) (a2 : qT0) (b3 : qT0) (i6 : Int) : Option (qT56 ⊕ qT8) :=
bif (decide (i6 < (a2.2.2.2.2.1.length : Int))) then
((idx a2.2.2.2.2.1 i6).bind fun v27 =>
(idx b3.2.2.2.2.1 i6).bind fun v28 =>
(qg4 n v27 v28).bind fun r29 =>
bif (!r29.1) then
(some (.inr (.inl (false, ()))))
else
(some (.inl (a2, b3, (IntKind.i64.wrap (i6 + (1 : Int))), ()))))
else
(some (.inr (.inr (.inl (())))))
noncomputable def qg6 (n : Nat) (d : qT56) : Option (qT56 ⊕ qT8) := qg5 n d.1 d.2.1 d.2.2.1
noncomputable def qg7 (n : Nat) (a2 : qT0) (b3 : qT0) (i5 : Int) : Option (qT56 ⊕ ((Bool × Unit) ⊕ qT44)) :=
bif (decide (i5 < (a2.2.2.2.1.length : Int))) then
((idx a2.2.2.2.1 i5).bind fun v12 =>
(idx b3.2.2.2.1 i5).bind fun v13 =>
(qgy n v12 v13).bind fun r14 =>
bif (!r14.1) then
(some (.inr (.inl (false, ()))))
else
(some (.inl (a2, b3, (IntKind.i64.wrap (i5 + (1 : Int))), ()))))
else
(some (.inr (.inr (.inl (a2, b3, ())))))
noncomputable def qg8 (n : Nat) (d : qT56) : Option (qT56 ⊕ ((Bool × Unit) ⊕ qT44)) := qg7 n d.1 d.2.1 d.2.2.1
noncomputable def qg9 (n : Nat) (a0 : qT0) (b1 : qT0) : Option (Bool × Unit) :=
(bif (!(decide (a0.1.1 = b1.1.1) && (decide (a0.1.2.1 = b1.1.2.1) && true))) then
(some (.inl (a0, b1, true, ())))
else
(bif (!decide (a0.2.1 = b1.2.1)) then
(some (.inl (a0, b1, true, ())))
else
(bif (!decide (a0.2.2.1 = b1.2.2.1)) then
(some (.inl (a0, b1, true, ())))
else
(bif (!decide ((a0.2.2.2.1.length : Int) = (b1.2.2.2.1.length : Int))) then
(some (.inl (a0, b1, true, ())))
else
(some (.inl (a0, b1, (!decide ((a0.2.2.2.2.1.length : Int) = (b1.2.2.2.2.1.length : Int))), ())))))) : Option ((qT0 × qT0 × Bool × Unit) ⊕ Empty)).bind (Sum.elim (fun d2 =>
bif d2.2.2.1 then
(some (false, ()))
else
((iterN (qg8 n) n (d2.1, d2.2.1, (0 : Int), ())).bind (Sum.elim (fun d34 =>
some (d34.1, ())) (Sum.elim (fun d17 =>
(iterN (qg6 n) n (d17.1, d17.2.1, (0 : Int), ())).bind (Sum.elim (fun d33 =>
some (d33.1, ())) (Sum.elim (fun d32 =>
some (true, ())) nof))) nof)))) nof)
/-! "commodatum/commodatumlaw13.RegsUnrolls" -/
noncomputable def qha (n : Nat) (p0 : qT0) (values1 : (List Int)) (inputs2 : (List Int)) : Option (Bool × Unit) :=
((qai n p0).bind fun r5 =>
bif r5.1 then
(some (.inl (values1, inputs2, p0, true, ())))
else
(bif (decide ((100 : Int) < (values1.length : Int))) then
(some (.inl (values1, inputs2, p0, true, ())))
else
(some (.inl (values1, inputs2, p0, (decide ((100 : Int) < (inputs2.length : Int))), ())))) : Option (((List Int) × (List Int) × qT0 × Bool × Unit) ⊕ Empty)).bind (Sum.elim (fun d6 =>
bif d6.2.2.2.1 then
((qd6 n).bind fun r7 =>
some (r7.1, ()))
else
((qfa n d6.2.2.1).bind fun r9 =>
(bif r9.1 then
((qff n d6.2.2.1).bind fun r11 =>
some (.inl (d6.1, d6.2.1, d6.2.2.1, r9.1, r11.1, ())))
else
(some (.inl (d6.1, d6.2.1, d6.2.2.1, r9.1, (0 : Int), ()))) : Option (((List Int) × (List Int) × qT0 × Bool × Int × Unit) ⊕ Empty)).bind (Sum.elim (fun d12 =>
(qfo n d12.2.2.1).bind fun r15 =>
(qgm n r15.1).bind fun r16 =>
bif (!d12.2.2.2.1) then
(bif (decide (r16.2.1 = (1 : Int))) then
((qf5 n r16.1).bind fun r21 =>
bif r21.1 then
((qd6 n).bind fun r22 =>
some (r22.1, ()))
else
(some (false, ())))
else
(some (false, ())))
else
(bif (decide ((200000 : Int) < d12.2.2.2.2.1)) then
(bif (decide (r16.2.1 = (5 : Int))) then
((qf5 n r16.1).bind fun r23 =>
bif r23.1 then
((qd6 n).bind fun r24 =>
some (r24.1, ()))
else
(some (false, ())))
else
(some (false, ())))
else
((bif (!decide (r16.2.1 = (0 : Int))) then
(some (.inl (d12.1, d12.2.1, d12.2.2.1, d12.2.2.2.2.1, true, r16.1, ())))
else
((qgt n d12.2.2.1).bind fun r30 =>
(qg9 n r16.1 r30.1).bind fun r31 =>
some (.inl (d12.1, d12.2.1, d12.2.2.1, d12.2.2.2.2.1, (!r31.1), r16.1, ()))) : Option (((List Int) × (List Int) × qT0 × Int × Bool × qT0 × Unit) ⊕ Empty)).bind (Sum.elim (fun d32 =>
bif d32.2.2.2.2.1 then
(some (false, ()))
else
((qbx n d32.2.2.2.2.2.1).bind fun r34 =>
(bif (!decide (r34.2.1 = (0 : Int))) then
(some (.inl (d32.1, d32.2.1, d32.2.2.1, d32.2.2.2.1, r34.1, r34.2.1, true, d32.2.2.2.2.2.1, ())))
else
(bif (!decide (r34.1 = d32.2.2.2.1)) then
(some (.inl (d32.1, d32.2.1, d32.2.2.1, d32.2.2.2.1, r34.1, r34.2.1, true, d32.2.2.2.2.2.1, ())))
else
((qfs n d32.2.2.1 d32.1 d32.2.1).bind fun r41 =>
bif (!r41.1) then
(some (.inl (d32.1, d32.2.1, d32.2.2.1, d32.2.2.2.1, r34.1, r34.2.1, true, d32.2.2.2.2.2.1, ())))
else
((qf0 n d32.2.2.1).bind fun r42 =>
some (.inl (d32.1, d32.2.1, d32.2.2.1, d32.2.2.2.1, r34.1, r34.2.1, r42.1, d32.2.2.2.2.2.1, ()))))) : Option (((List Int) × (List Int) × qT0 × Int × Int × Int × Bool × qT0 × Unit) ⊕ Empty)).bind (Sum.elim (fun d43 =>
bif d43.2.2.2.2.2.2.1 then
(bif (decide (d43.2.2.2.2.2.1 = (0 : Int))) then
(bif (decide (d43.2.2.2.2.1 = d43.2.2.2.1)) then
((qd6 n).bind fun r44 =>
some (r44.1, ()))
else
(some (false, ())))
else
(some (false, ())))
else
((qfo n d43.2.2.1).bind fun r47 =>
chk (lenB ((([] : (List Int))).length + (d43.1).length)) (chk (lenB ((([] : (List Int))).length + (d43.2.1).length)) ((qct n r47.1 (([] : (List Int)) ++ d43.1) (([] : (List Int)) ++ d43.2.1)).bind fun r48 =>
chk (lenB ((([] : (List Int))).length + (d43.1).length)) (chk (lenB ((([] : (List Int))).length + (d43.2.1).length)) ((qct n d43.2.2.2.2.2.2.2.1 (([] : (List Int)) ++ d43.1) (([] : (List Int)) ++ d43.2.1)).bind fun r50 =>
bif (decide (r48.2.1 = (0 : Int))) then
(bif (decide (r50.2.1 = (0 : Int))) then
((qd5 n r48.1 r50.1).bind fun r51 =>
bif r51.1 then
((qd6 n).bind fun r52 =>
some (r52.1, ()))
else
(some (false, ())))
else
(some (false, ())))
else
(some (false, ())))))))) nof))) nof)))) nof))) nof)
end Go.Proofs.YtmidcfjmchpcnaaGreat.V
