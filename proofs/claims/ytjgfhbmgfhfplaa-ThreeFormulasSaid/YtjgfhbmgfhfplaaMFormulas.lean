import Derived.Test.YtjgfhbmgfhfplaaVc
namespace Go.Proofs.Ytjgfhbmgfhfplaa.V
open Go
set_option linter.unusedVariables false
set_option linter.all false
abbrev qT0 : Type := (List (Rose ((Int × (Int × (Int × (Int × (Int × ((List (Bool × (Int × Unit))) × Unit)))))) × Unit)))
abbrev qT1 : Type := (Int × (Int × Unit))
abbrev qT2 : Type := (Int × (Int × ((List (Rose (qT1 × Unit))) × Unit)))
abbrev qT3 : Type := (qT1 × (Int × (Int × ((List (List (Int × ((List Int) × Unit)))) × (qT0 × Unit)))))
abbrev qT4 : Type := ((Int × (Int × qT1)) × ((List (List (Int × ((List Int) × Unit)))) × ((List Int) × ((List Int) × Unit))))
abbrev qT5 : Type := (Unit ⊕ (Unit × ((qT1 × (qT0 × (Int × Unit))) × Unit)))
abbrev qT6 : Type := (Int × (Int × (Int × (Int × (Int × ((List (Bool × (Int × Unit))) × (qT0 × Unit)))))))
abbrev qT7 : Type := (Int × (Int × qT1))
abbrev qT8 : Type := (qT1 × (qT0 × (Int × Unit)))
abbrev qT9 : Type := (Rose (qT1 × Unit))
abbrev qT10 : Type := (List (Int × ((List Int) × Unit)))
abbrev qT11 : Type := ((Int × Unit) ⊕ Empty)
abbrev qT12 : Type := ((Bool × Unit) ⊕ ((Unit) ⊕ Empty))
abbrev qT13 : Type := (Int × Int × Unit)
abbrev qT14 : Type := ((Int × (Bool × Unit)) × ((Int × qT7) × Unit))
abbrev qT15 : Type := (Unit × (qT2 × (Int × Unit)))
abbrev qT16 : Type := (Unit × (qT2 × Unit))
abbrev qT17 : Type := (Int × (List Int) × qT2 × Bool × Int × Int × (List Bool) × Int × qT3 × (List Int) × Unit)
abbrev qT18 : Type := (List (Bool × (Int × Unit)))
abbrev qT19 : Type := (Int × Int × qT7 × Int × Unit)
abbrev qT20 : Type := (qT3 × (Int × Unit))
abbrev qT21 : Type := ((List Int) × (List Int) × Int × Unit)
abbrev qT22 : Type := (qT2 × Int × Int × Unit)
abbrev qT23 : Type := (qT10 × (List Int) × qT7 × Int × Int × Int × Int × Unit)
abbrev qT24 : Type := ((Int × qT2 × Int × (List qT9) × Int × Int × (Int × qT7) × Unit) ⊕ ((Int × Bool × (Int × qT7) × Unit) ⊕ ((qT2 × Int × (Int × qT7) × Unit) ⊕ Empty)))
abbrev qT25 : Type := (qT0 × Int × Int × qT4 × qT6 × (List Int) × Unit)
abbrev qT26 : Type := (Unit × (qT4 × Unit))
abbrev qT27 : Type := ((List Int) × qT0 × qT3 × qT7 × Int × Unit)
abbrev qT28 : Type := (Unit × (qT3 × Int × Unit))
abbrev qT29 : Type := (qT10 × qT7 × Int × Int × Unit)
abbrev qT30 : Type := (Int × Int × qT1 × Int × Unit)
abbrev qT31 : Type := ((Int × Int × qT2 × Bool × (Int × qT7) × Unit) ⊕ Empty)
abbrev qT32 : Type := (Int × (List Int) × qT2 × Bool × Int × Int × qT3 × Unit)
abbrev qT33 : Type := ((Bool × Unit) × (Int × Unit))
abbrev qT34 : Type := (qT0 × Int × qT4 × Unit)
abbrev qT35 : Type := (qT0 × Int × Int × Int × Int × Unit)
abbrev qT36 : Type := ((qT3 × Int × qT7 × (List Int) × Unit) ⊕ ((Bool × Unit) ⊕ ((qT3 × qT7 × (List Int) × Unit) ⊕ Empty)))
abbrev qT37 : Type := (qT17 ⊕ ((Int × (List Int) × qT2 × Bool × Int × Int × (List Bool) × qT3 × (List Int) × Unit) ⊕ Empty))
abbrev qT38 : Type := (Int × (qT2 × Unit) × qT1 × qT3 × Int × Unit)
abbrev qT39 : Type := (qT10 × (List Int) × qT7 × Int × Int × Unit)
/-! "commodatum/commodatumlaw09.weigh" -/
noncomputable def qaa (self_law09_weigh : qT9 → Int → Int → Int → Option qT33) (n : Nat) (levels1 : Int) (most2 : Int) (f4 : qT2) (i9 : Int) (n3 : Int) : Option ((Int × Int × qT2 × Int × Int × Unit) ⊕ ((Bool × Int × Unit) ⊕ qT11)) :=
bif (decide (i9 < (f4.2.2.1.length : Int))) then
((idx f4.2.2.1 i9).bind fun v9 =>
(self_law09_weigh v9 (IntKind.i64.wrap (levels1 + (1 : Int))) most2 n3).bind fun r10 =>
bif r10.1.1 then
(some (.inr (.inl (true,r10.2.1,()))))
else
(some (.inl (levels1,most2,f4,(IntKind.i64.wrap (i9 + (1 : Int))),r10.2.1,()))))
else
(some (.inr (.inr (.inl (n3,())))))
noncomputable def qab (self_law09_weigh : qT9 → Int → Int → Int → Option qT33) (n : Nat) (d : (Int × Int × qT2 × Int × Int × Unit)) : Option ((Int × Int × qT2 × Int × Int × Unit) ⊕ ((Bool × Int × Unit) ⊕ qT11)) := qaa self_law09_weigh n d.1 d.2.1 d.2.2.1 d.2.2.2.1 d.2.2.2.2.1
noncomputable def qac (self_law09_weigh : qT9 → Int → Int → Int → Option qT33) (n : Nat) (f0 : qT9) (levels1 : Int) (most2 : Int) (no0 : Int) : Option qT33 :=
(bif (decide (most2 < (IntKind.i64.wrap (no0 + (1 : Int))))) then
(some (.inl (levels1,most2,((Rose.val f0).1.1,((Rose.val f0).1.2.1,((Rose.kids f0),()))),true,(IntKind.i64.wrap (no0 + (1 : Int))),())))
else
(some (.inl (levels1,most2,((Rose.val f0).1.1,((Rose.val f0).1.2.1,((Rose.kids f0),()))),(decide ((1100 : Int) < levels1)),(IntKind.i64.wrap (no0 + (1 : Int))),()))) : Option ((Int × Int × qT2 × Bool × Int × Unit) ⊕ Empty)).bind (Sum.elim (fun d2 =>
bif d2.2.2.2.1 then
(some ((true,()),(d2.2.2.2.2.1,())))
else
((iterN (qab self_law09_weigh n) n (d2.1,d2.2.1,d2.2.2.1,(0 : Int),d2.2.2.2.2.1,())).bind (Sum.elim (fun d14 =>
some ((d14.1,()),(d14.2.1,()))) (Sum.elim (fun d13 =>
some ((false,()),(d13.1,()))) nof)))) nof)
noncomputable def qad : Nat → qT9 → Int → Int → Int → Option qT33
  | 0 => fun _ _ _ _ => none
  | n + 1 => qac (qad n) n
/-! "commodatum/commodatumlaw09.Heavy" -/
noncomputable def qae (n : Nat) (f0 : qT9) (most1 : Int) : Option (Bool × Unit) :=
(qad n (Rose.node (((Rose.val f0).1.1,((Rose.val f0).1.2.1,())),()) (Rose.kids f0)) (0 : Int) most1 (0 : Int)).bind fun r1 =>
some (r1.1.1,())
/-! "commodatum/commodatumlaw09.Great" -/
noncomputable def qaf (n : Nat) (f0 : qT9) : Option (Bool × Unit) :=
(qae n (Rose.node (((Rose.val f0).1.1,((Rose.val f0).1.2.1,())),()) (Rose.kids f0)) (3000 : Int)).bind fun r1 =>
some (r1.1,())
/-! "commodatum/commodatumlaw14.variable" -/
noncomputable def qag (n : Nat) (n0 : Int) : Option (qT9 × Unit) :=
some ((Rose.node (((0 : Int),(n0,())),()) ([] : (List qT9))),())
/-! "commodatum/field.prime" -/
noncomputable def qah (n : Nat) (n0 : Int) (d3 : Int) : Option (qT13 ⊕ ((Bool × Unit) ⊕ qT11)) :=
bif (decide ((IntKind.i64.wrap (d3 * d3)) ≤ n0)) then
(bif decide (d3 = 0) then none else
bif (decide ((Int.tmod n0 d3) = (0 : Int))) then
(some (.inr (.inl (false,()))))
else
(some (.inl (n0,(IntKind.i64.wrap (d3 + (1 : Int))),()))))
else
(some (.inr (.inr (.inl (n0,())))))
noncomputable def qai (n : Nat) (d : qT13) : Option (qT13 ⊕ ((Bool × Unit) ⊕ qT11)) := qah n d.1 d.2.1
noncomputable def qaj (n : Nat) (n0 : Int) : Option (Bool × Unit) :=
(iterN (qai n) n (n0,(2 : Int),())).bind (Sum.elim (fun d4 =>
some (d4.1,())) (Sum.elim (fun d3 =>
some ((decide ((1 : Int) < d3.1)),())) nof))
/-! "commodatum/field.Valid" -/
noncomputable def qak (n : Nat) (f0 : qT1) : Option (Bool × Unit) :=
(bif (decide (f0.1 < (2 : Int))) then
(some (.inl (f0,true,())))
else
(bif (decide ((65536 : Int) < f0.1)) then
(some (.inl (f0,true,())))
else
(bif (decide (f0.2.1 < (1 : Int))) then
(some (.inl (f0,true,())))
else
(bif (decide ((16 : Int) < f0.2.1)) then
(some (.inl (f0,true,())))
else
(bif (decide ((1 : Int) < f0.2.1)) then
(some (.inl (f0,(!decide (f0.1 = (2 : Int))),())))
else
(some (.inl (f0,false,()))))))) : Option ((qT1 × Bool × Unit) ⊕ Empty)).bind (Sum.elim (fun d2 =>
bif d2.2.1 then
(some (false,()))
else
((qaj n d2.1.1).bind fun r3 =>
some (r3.1,()))) nof)
/-! "commodatum/field.Order" -/
noncomputable def qal (n : Nat) (f0 : qT1) : Option (Int × Unit) :=
(qak n f0).bind fun r3 =>
bif (!r3.1) then
(some ((0 : Int),()))
else
(bif (decide ((1 : Int) < f0.2.1)) then
(bif decide (f0.2.1 < 0) then none else
some ((IntKind.i64.wrap ((1 : Int) * 2 ^ (min (f0.2.1).toNat IntKind.i64.bits))),()))
else
(some (f0.1,())))
/-! "(*commodatum/formula.shape).walkExpr" -/
noncomputable def qam (self_formula_shape_walkExpr : qT9 → Int → Int → (Int × qT7) → Option qT14) (n : Nat) (e1 : qT9) (order2 : Int) (level3 : Int) (so0 : (Int × qT7)) : Option qT14 :=
(bif (decide ((20000 : Int) < ((IntKind.i64.wrap (so0.1 + (1 : Int))),so0.2).1)) then
(some (.inl (order2,level3,((Rose.val e1).1.1,((Rose.val e1).1.2.1,((Rose.kids e1),()))),true,((IntKind.i64.wrap (so0.1 + (1 : Int))),so0.2),())))
else
(some (.inl (order2,level3,((Rose.val e1).1.1,((Rose.val e1).1.2.1,((Rose.kids e1),()))),(decide ((1000 : Int) < level3)),((IntKind.i64.wrap (so0.1 + (1 : Int))),so0.2),()))) : Option qT31).bind (Sum.elim (fun d2 =>
bif d2.2.2.2.1 then
(some (((0 : Int),(false,())),(d2.2.2.2.2.1,())))
else
(bif (decide (d2.2.2.1.1 = (0 : Int))) then
(bif (decide ((0 : Int) ≤ d2.2.2.1.2.1)) then
(bif (decide (d2.2.2.1.2.1 < (16 : Int))) then
(some (((0 : Int),((decide ((d2.2.2.1.2.2.1.length : Int) = (0 : Int))),())),(((d2.2.2.2.2.1.1,((IntKind.i64.wrap (d2.2.2.2.2.1.2.1 + (1 : Int))),d2.2.2.2.2.1.2.2)).1,((d2.2.2.2.2.1.1,((IntKind.i64.wrap (d2.2.2.2.2.1.2.1 + (1 : Int))),d2.2.2.2.2.1.2.2)).2.1,((d2.2.2.2.2.1.1,((IntKind.i64.wrap (d2.2.2.2.2.1.2.1 + (1 : Int))),d2.2.2.2.2.1.2.2)).2.2.1,((if (IntKind.i64.wrap (d2.2.2.1.2.1 + (1 : Int))) > (d2.2.2.2.2.1.1,((IntKind.i64.wrap (d2.2.2.2.2.1.2.1 + (1 : Int))),d2.2.2.2.2.1.2.2)).2.2.2.1 then (IntKind.i64.wrap (d2.2.2.1.2.1 + (1 : Int))) else (d2.2.2.2.2.1.1,((IntKind.i64.wrap (d2.2.2.2.2.1.2.1 + (1 : Int))),d2.2.2.2.2.1.2.2)).2.2.2.1),(d2.2.2.2.2.1.1,((IntKind.i64.wrap (d2.2.2.2.2.1.2.1 + (1 : Int))),d2.2.2.2.2.1.2.2)).2.2.2.2)))),())))
else
(some (((0 : Int),(false,())),(((d2.2.2.2.2.1.1,((IntKind.i64.wrap (d2.2.2.2.2.1.2.1 + (1 : Int))),d2.2.2.2.2.1.2.2)).1,((d2.2.2.2.2.1.1,((IntKind.i64.wrap (d2.2.2.2.2.1.2.1 + (1 : Int))),d2.2.2.2.2.1.2.2)).2.1,((d2.2.2.2.2.1.1,((IntKind.i64.wrap (d2.2.2.2.2.1.2.1 + (1 : Int))),d2.2.2.2.2.1.2.2)).2.2.1,((if (IntKind.i64.wrap (d2.2.2.1.2.1 + (1 : Int))) > (d2.2.2.2.2.1.1,((IntKind.i64.wrap (d2.2.2.2.2.1.2.1 + (1 : Int))),d2.2.2.2.2.1.2.2)).2.2.2.1 then (IntKind.i64.wrap (d2.2.2.1.2.1 + (1 : Int))) else (d2.2.2.2.2.1.1,((IntKind.i64.wrap (d2.2.2.2.2.1.2.1 + (1 : Int))),d2.2.2.2.2.1.2.2)).2.2.2.1),(d2.2.2.2.2.1.1,((IntKind.i64.wrap (d2.2.2.2.2.1.2.1 + (1 : Int))),d2.2.2.2.2.1.2.2)).2.2.2.2)))),()))))
else
(some (((0 : Int),(false,())),(((d2.2.2.2.2.1.1,((IntKind.i64.wrap (d2.2.2.2.2.1.2.1 + (1 : Int))),d2.2.2.2.2.1.2.2)).1,((d2.2.2.2.2.1.1,((IntKind.i64.wrap (d2.2.2.2.2.1.2.1 + (1 : Int))),d2.2.2.2.2.1.2.2)).2.1,((d2.2.2.2.2.1.1,((IntKind.i64.wrap (d2.2.2.2.2.1.2.1 + (1 : Int))),d2.2.2.2.2.1.2.2)).2.2.1,((if (IntKind.i64.wrap (d2.2.2.1.2.1 + (1 : Int))) > (d2.2.2.2.2.1.1,((IntKind.i64.wrap (d2.2.2.2.2.1.2.1 + (1 : Int))),d2.2.2.2.2.1.2.2)).2.2.2.1 then (IntKind.i64.wrap (d2.2.2.1.2.1 + (1 : Int))) else (d2.2.2.2.2.1.1,((IntKind.i64.wrap (d2.2.2.2.2.1.2.1 + (1 : Int))),d2.2.2.2.2.1.2.2)).2.2.2.1),(d2.2.2.2.2.1.1,((IntKind.i64.wrap (d2.2.2.2.2.1.2.1 + (1 : Int))),d2.2.2.2.2.1.2.2)).2.2.2.2)))),()))))
else
(bif (decide (d2.2.2.1.1 = (1 : Int))) then
(bif (decide ((0 : Int) ≤ d2.2.2.1.2.1)) then
(bif (decide (d2.2.2.1.2.1 < d2.1)) then
(some (((0 : Int),((decide ((d2.2.2.1.2.2.1.length : Int) = (0 : Int))),())),((d2.2.2.2.2.1.1,((IntKind.i64.wrap (d2.2.2.2.2.1.2.1 + (1 : Int))),d2.2.2.2.2.1.2.2)),())))
else
(some (((0 : Int),(false,())),((d2.2.2.2.2.1.1,((IntKind.i64.wrap (d2.2.2.2.2.1.2.1 + (1 : Int))),d2.2.2.2.2.1.2.2)),()))))
else
(some (((0 : Int),(false,())),((d2.2.2.2.2.1.1,((IntKind.i64.wrap (d2.2.2.2.2.1.2.1 + (1 : Int))),d2.2.2.2.2.1.2.2)),()))))
else
((bif (decide (d2.2.2.1.1 = (2 : Int))) then
(some (.inl (d2.1,d2.2.1,d2.2.2.1,true,d2.2.2.2.2.1,())))
else
(some (.inl (d2.1,d2.2.1,d2.2.2.1,(decide (d2.2.2.1.1 = (3 : Int))),d2.2.2.2.2.1,()))) : Option qT31).bind (Sum.elim (fun d14 =>
bif d14.2.2.2.1 then
((bif (!decide (d14.2.2.1.2.1 = (0 : Int))) then
(some (.inl (d14.1,d14.2.1,d14.2.2.1,true,d14.2.2.2.2.1,())))
else
(some (.inl (d14.1,d14.2.1,d14.2.2.1,(!decide ((d14.2.2.1.2.2.1.length : Int) = (2 : Int))),d14.2.2.2.2.1,()))) : Option qT31).bind (Sum.elim (fun d15 =>
bif d15.2.2.2.1 then
(some (((0 : Int),(false,())),(d15.2.2.2.2.1,())))
else
((idx d15.2.2.1.2.2.1 (0 : Int)).bind fun v16 =>
(self_formula_shape_walkExpr v16 d15.1 (IntKind.i64.wrap (d15.2.1 + (1 : Int))) d15.2.2.2.2.1).bind fun r17 =>
bif (!r17.1.2.1) then
(some (((0 : Int),(false,())),(r17.2.1,())))
else
((idx d15.2.2.1.2.2.1 (1 : Int)).bind fun v18 =>
(self_formula_shape_walkExpr v18 d15.1 (IntKind.i64.wrap (d15.2.1 + (1 : Int))) r17.2.1).bind fun r19 =>
some (((IntKind.i64.wrap ((if r19.1.1 > r17.1.1 then r19.1.1 else r17.1.1) + (1 : Int))),(r19.1.2.1,())),(r19.2.1,()))))) nof))
else
(some (((0 : Int),(false,())),(d14.2.2.2.2.1,())))) nof))))) nof)
noncomputable def qan : Nat → qT9 → Int → Int → (Int × qT7) → Option qT14
  | 0 => fun _ _ _ _ => none
  | n + 1 => qam (qan n) n
/-! "commodatum/formula.ofExpr" -/
noncomputable def qao (n : Nat) (f0 : qT1) (e1 : qT9) : Option ((Int × qT7) × (Bool × Unit)) :=
(qak n f0).bind fun r3 =>
bif (!r3.1) then
(some (((0 : Int),((0 : Int),((0 : Int),((0 : Int),((0 : Int),()))))),(false,())))
else
((qal n f0).bind fun r6 =>
(qan n (Rose.node (((Rose.val e1).1.1,((Rose.val e1).1.2.1,())),()) (Rose.kids e1)) r6.1 (1 : Int) ((0 : Int),((0 : Int),((0 : Int),((0 : Int),((0 : Int),())))))).bind fun r7 =>
some ((r7.2.1.1,(r7.2.1.2.1,(r7.1.1,r7.2.1.2.2.2))),(r7.1.2.1,())))
/-! "commodatum/formula.ValidExpr" -/
noncomputable def qap (n : Nat) (f0 : qT1) (e1 : qT9) : Option (Bool × Unit) :=
(qao n f0 (Rose.node (((Rose.val e1).1.1,((Rose.val e1).1.2.1,())),()) (Rose.kids e1))).bind fun r2 =>
some (r2.2.1,())
/-! "commodatum/formula.InputsExpr$1" -/
noncomputable def qaq (n : Nat) (s0 : (Int × qT7)) : Option (Int × Unit) :=
some (s0.2.2.2.1,())
/-! "commodatum/formula.measureExpr" -/
noncomputable def qar (n : Nat) (f0 : qT1) (e1 : qT9) : Option (Int × Unit) :=
(qao n f0 (Rose.node (((Rose.val e1).1.1,((Rose.val e1).1.2.1,())),()) (Rose.kids e1))).bind fun r2 =>
bif (!r2.2.1) then
(some ((-1 : Int),()))
else
((qaq n r2.1).bind fun r3 =>
some (r3.1,()))
/-! "commodatum/formula.InputsExpr" -/
noncomputable def qas (n : Nat) (f0 : qT1) (e1 : qT9) : Option (Int × Unit) :=
(qar n f0 (Rose.node (((Rose.val e1).1.1,((Rose.val e1).1.2.1,())),()) (Rose.kids e1))).bind fun r1 =>
some (r1.1,())
/-! "commodatum/three.asked" -/
noncomputable def qat (n : Nat) (e0 : qT9) (F1 : qT1) (n2 : Int) : Option (Int × Unit) :=
((qak n F1).bind fun r9 =>
bif (!r9.1) then
(some (.inl (n2,((Rose.val e0).1.1,((Rose.val e0).1.2.1,((Rose.kids e0),()))),F1,true,())))
else
((qap n F1 (Rose.node (((Rose.val e0).1.1,((Rose.val e0).1.2.1,())),()) (Rose.kids e0))).bind fun r10 =>
some (.inl (n2,((Rose.val e0).1.1,((Rose.val e0).1.2.1,((Rose.kids e0),()))),F1,(!r10.1),()))) : Option ((Int × qT2 × qT1 × Bool × Unit) ⊕ Empty)).bind (Sum.elim (fun d11 =>
bif d11.2.2.2.1 then
(some ((1 : Int),()))
else
((bif (decide (d11.1 < (0 : Int))) then
(some (.inl (true,())))
else
(bif (decide ((64 : Int) < d11.1)) then
(some (.inl (true,())))
else
((qas n d11.2.2.1 (Rose.node ((d11.2.1.1,(d11.2.1.2.1,())),()) d11.2.1.2.2.1)).bind fun r12 =>
some (.inl ((decide (d11.1 < r12.1)),())))) : Option ((Bool × Unit) ⊕ Empty)).bind (Sum.elim (fun d13 =>
bif d13.1 then
(some ((2 : Int),()))
else
(some ((0 : Int),()))) nof))) nof)
/-! "commodatum/three.register" -/
noncomputable def qau (n : Nat) (i0 : Int) : Option ((Bool × (Int × Unit)) × Unit) :=
some ((false,(i0,())),())
/-! "(*commodatum/three.maker).add" -/
noncomputable def qav (n : Nat) (to1 : Int) (c2 : Int) (poly3 : Int) (args4 : qT18) (ko0 : qT8) : Option qT5 :=
bif (decide ((ko0.1,(ko0.2.1,((IntKind.i64.wrap (ko0.2.2.1 - (1 : Int))),ko0.2.2.2))).2.2.1 < (0 : Int))) then
(some (.inl ()))
else
(chk (lenB (((ko0.1,(ko0.2.1,((IntKind.i64.wrap (ko0.2.2.1 - (1 : Int))),ko0.2.2.2))).2.1).length + ([(Rose.node (((0 : Int),((0 : Int),((0 : Int),((0 : Int),((0 : Int),(([] : qT18),())))))),()) ([] : qT0))]).length)) (chk (sameP [.el (0),.f2,.f1] [.el (0),.f2,.f1]) ((idx ((ko0.1,(ko0.2.1,((IntKind.i64.wrap (ko0.2.2.1 - (1 : Int))),ko0.2.2.2))).1,(((ko0.1,(ko0.2.1,((IntKind.i64.wrap (ko0.2.2.1 - (1 : Int))),ko0.2.2.2))).2.1 ++ [(Rose.node (((0 : Int),((0 : Int),((0 : Int),((0 : Int),((0 : Int),(([] : qT18),())))))),()) ([] : qT0))]),(ko0.1,(ko0.2.1,((IntKind.i64.wrap (ko0.2.2.1 - (1 : Int))),ko0.2.2.2))).2.2)).2.1 (((ko0.1,(ko0.2.1,((IntKind.i64.wrap (ko0.2.2.1 - (1 : Int))),ko0.2.2.2))).2.1).length : Int)).bind fun v1 =>
some (.inr ((),((((ko0.1,(ko0.2.1,((IntKind.i64.wrap (ko0.2.2.1 - (1 : Int))),ko0.2.2.2))).1,(((ko0.1,(ko0.2.1,((IntKind.i64.wrap (ko0.2.2.1 - (1 : Int))),ko0.2.2.2))).2.1 ++ [(Rose.node (((0 : Int),((0 : Int),((0 : Int),((0 : Int),((0 : Int),(([] : qT18),())))))),()) ([] : qT0))]),(ko0.1,(ko0.2.1,((IntKind.i64.wrap (ko0.2.2.1 - (1 : Int))),ko0.2.2.2))).2.2)).1,((List.set ((ko0.1,(ko0.2.1,((IntKind.i64.wrap (ko0.2.2.1 - (1 : Int))),ko0.2.2.2))).1,(((ko0.1,(ko0.2.1,((IntKind.i64.wrap (ko0.2.2.1 - (1 : Int))),ko0.2.2.2))).2.1 ++ [(Rose.node (((0 : Int),((0 : Int),((0 : Int),((0 : Int),((0 : Int),(([] : qT18),())))))),()) ([] : qT0))]),(ko0.1,(ko0.2.1,((IntKind.i64.wrap (ko0.2.2.1 - (1 : Int))),ko0.2.2.2))).2.2)).2.1 ((((ko0.1,(ko0.2.1,((IntKind.i64.wrap (ko0.2.2.1 - (1 : Int))),ko0.2.2.2))).2.1).length : Int)).toNat (Rose.node (((0 : Int),(to1,(c2,(poly3,((0 : Int),(args4,())))))),()) ([] : qT0))),((ko0.1,(ko0.2.1,((IntKind.i64.wrap (ko0.2.2.1 - (1 : Int))),ko0.2.2.2))).1,(((ko0.1,(ko0.2.1,((IntKind.i64.wrap (ko0.2.2.1 - (1 : Int))),ko0.2.2.2))).2.1 ++ [(Rose.node (((0 : Int),((0 : Int),((0 : Int),((0 : Int),((0 : Int),(([] : qT18),())))))),()) ([] : qT0))]),(ko0.1,(ko0.2.1,((IntKind.i64.wrap (ko0.2.2.1 - (1 : Int))),ko0.2.2.2))).2.2)).2.2)),()))))))
/-! "commodatum/field.check" -/
noncomputable def qaw (n : Nat) (f2 : qT1) (t10 : (List Int)) (t11 : Int) (t12 : Int) : Option ((qT1 × (List Int) × Int × Int × Unit) ⊕ ((Int × Unit) ⊕ ((Unit) ⊕ Empty))) :=
bif (decide (t12 < t11)) then
((idx t10 t12).bind fun v12 =>
(bif (decide (v12 < (0 : Int))) then
(some (.inl (f2,t10,t11,t12,true,())))
else
((qal n f2).bind fun r13 =>
some (.inl (f2,t10,t11,t12,(decide (r13.1 ≤ v12)),()))) : Option ((qT1 × (List Int) × Int × Int × Bool × Unit) ⊕ Empty)).bind (Sum.elim (fun d14 =>
bif d14.2.2.2.2.1 then
(some (.inr (.inl ((2 : Int),()))))
else
(some (.inl (d14.1,d14.2.1,d14.2.2.1,(IntKind.i64.wrap (d14.2.2.2.1 + (1 : Int))),())))) nof))
else
(some (.inr (.inr (.inl (())))))
noncomputable def qax (n : Nat) (d : (qT1 × (List Int) × Int × Int × Unit)) : Option ((qT1 × (List Int) × Int × Int × Unit) ⊕ ((Int × Unit) ⊕ ((Unit) ⊕ Empty))) := qaw n d.1 d.2.1 d.2.2.1 d.2.2.2.1
noncomputable def qay (n : Nat) (f0 : qT1) (l1 : (List Int)) : Option (Int × Unit) :=
(qak n f0).bind fun r3 =>
bif (!r3.1) then
(some ((1 : Int),()))
else
((iterN (qax n) n (f0,l1,(l1.length : Int),(0 : Int),())).bind (Sum.elim (fun d18 =>
some (d18.1,())) (Sum.elim (fun d17 =>
some ((0 : Int),())) nof)))
/-! "commodatum/field.moduli" -/
noncomputable def qaz (n : Nat) (degree0 : Int) : Option (Int × Unit) :=
(idx [(7 : Int),(11 : Int),(19 : Int),(37 : Int),(67 : Int),(131 : Int),(283 : Int),(515 : Int),(1033 : Int),(2053 : Int),(4105 : Int),(8219 : Int),(16417 : Int),(32771 : Int),(65579 : Int)] (IntKind.i64.wrap (degree0 - (2 : Int)))).bind fun v1 =>
some (v1,())
/-! "commodatum/field.of" -/
noncomputable def qa0 (n : Nat) (f0 : qT1) : Option ((Option ((Int × Unit) ⊕ qT1)) × Unit) :=
bif (decide (f0.2.1 = (1 : Int))) then
(some ((some (.inl (f0.1,())) : (Option ((Int × Unit) ⊕ qT1))),()))
else
((qaz n f0.2.1).bind fun r1 =>
some ((some (.inr (f0.2.1,(r1.1,()))) : (Option ((Int × Unit) ⊕ qT1))),()))
/-! "(commodatum/field.residues).mul" -/
noncomputable def qa1 (n : Nat) (f0 : (Int × Unit)) (a1 : Int) (b2 : Int) : Option (Int × Unit) :=
bif decide (f0.1 = 0) then none else
some ((Int.tmod (IntKind.i64.wrap (a1 * b2)) f0.1),())
/-! "(commodatum/field.bits).mul" -/
noncomputable def qa2 (n : Nat) (a1 : Int) (b2 : Int) (f3 : qT1) (out7 : Int) : Option (qT30 ⊕ qT11) :=
bif (decide ((0 : Int) < b2)) then
(((bif (decide ((IntKind.i64.wrap ((BitVec.ofInt IntKind.i64.bits b2 &&& BitVec.ofInt IntKind.i64.bits (1 : Int)).toNat)) = (1 : Int))) then
(some (.inl (a1,b2,f3,(IntKind.i64.wrap ((BitVec.ofInt IntKind.i64.bits out7 ^^^ BitVec.ofInt IntKind.i64.bits a1).toNat)),())))
else
(some (.inl (a1,b2,f3,out7,()))) : Option (qT30 ⊕ Empty)).bind (Sum.elim (fun d4 =>
bif decide ((1 : Int) < 0) then none else
bif decide (d4.2.2.1.1 < 0) then none else
bif (decide ((Int.fdiv (IntKind.i64.wrap (d4.1 * 2 ^ (min ((1 : Int)).toNat IntKind.i64.bits))) (2 ^ (min (d4.2.2.1.1).toNat IntKind.i64.bits))) = (1 : Int))) then
(some (.inl ((IntKind.i64.wrap ((BitVec.ofInt IntKind.i64.bits (IntKind.i64.wrap (d4.1 * 2 ^ (min ((1 : Int)).toNat IntKind.i64.bits))) ^^^ BitVec.ofInt IntKind.i64.bits d4.2.2.1.2.1).toNat)),d4.2.1,d4.2.2.1,d4.2.2.2.1,())))
else
(some (.inl ((IntKind.i64.wrap (d4.1 * 2 ^ (min ((1 : Int)).toNat IntKind.i64.bits))),d4.2.1,d4.2.2.1,d4.2.2.2.1,())))) nof) : Option (qT30 ⊕ Empty)).bind (Sum.elim (fun d5 =>
bif decide ((1 : Int) < 0) then none else
some (.inl (d5.1,(Int.fdiv d5.2.1 (2 ^ (min ((1 : Int)).toNat IntKind.i64.bits))),d5.2.2.1,d5.2.2.2.1,()))) nof))
else
(some (.inr (.inl (out7,()))))
noncomputable def qa3 (n : Nat) (d : qT30) : Option (qT30 ⊕ qT11) := qa2 n d.1 d.2.1 d.2.2.1 d.2.2.2.1
noncomputable def qa4 (n : Nat) (f0 : qT1) (a1 : Int) (b2 : Int) : Option (Int × Unit) :=
(iterN (qa3 n) n (a1,b2,f0,(0 : Int),())).bind (Sum.elim (fun d7 =>
some (d7.1,())) nof)
/-! "commodatum/field.Mul" -/
noncomputable def qa5 (n : Nat) (f0 : qT1) (a1 : Int) (b2 : Int) : Option qT1 :=
(qay n f0 ([a1,b2])).bind fun r3 =>
bif (!decide (r3.1 = (0 : Int))) then
(some ((0 : Int),(r3.1,())))
else
((qa0 n f0).bind fun r4 =>
(r4.1).bind (Sum.elim (fun u5 =>
(qa1 n u5 a1 b2).bind fun r7 =>
some (r7.1,((0 : Int),()))) (fun u6 =>
(qa4 n u6 a1 b2).bind fun r8 =>
some (r8.1,((0 : Int),())))))
/-! "(*commodatum/three.maker).times" -/
noncomputable def qa6 (n : Nat) (k0 : qT8) (a1 : Int) (b2 : Int) : Option (Int × Unit) :=
(qa5 n k0.1 a1 b2).bind fun r2 =>
some (r2.1,())
/-! "(commodatum/field.residues).negate" -/
noncomputable def qa7 (n : Nat) (f0 : (Int × Unit)) (a1 : Int) : Option (Int × Unit) :=
bif decide (f0.1 = 0) then none else
some ((Int.tmod (IntKind.i64.wrap (f0.1 - a1)) f0.1),())
/-! "(commodatum/field.residues).add" -/
noncomputable def qa8 (n : Nat) (f0 : (Int × Unit)) (a1 : Int) (b2 : Int) : Option (Int × Unit) :=
bif decide (f0.1 = 0) then none else
some ((Int.tmod (IntKind.i64.wrap (a1 + b2)) f0.1),())
/-! "(commodatum/field.bits).add" -/
noncomputable def qa9 (n : Nat) (f0 : qT1) (a1 : Int) (b2 : Int) : Option (Int × Unit) :=
some ((IntKind.i64.wrap ((BitVec.ofInt IntKind.i64.bits a1 ^^^ BitVec.ofInt IntKind.i64.bits b2).toNat)),())
/-! "(commodatum/field.bits).negate" -/
noncomputable def qba (n : Nat) (f0 : qT1) (a1 : Int) : Option (Int × Unit) :=
some (a1,())
/-! "commodatum/field.Sub" -/
noncomputable def qbb (n : Nat) (f0 : qT1) (a1 : Int) (b2 : Int) : Option qT1 :=
(qay n f0 ([a1,b2])).bind fun r3 =>
bif (!decide (r3.1 = (0 : Int))) then
(some ((0 : Int),(r3.1,())))
else
((qa0 n f0).bind fun r5 =>
(r5.1).bind (Sum.elim (fun u6 =>
(qa7 n u6 b2).bind fun r8 =>
(r5.1).bind fun _ =>
(r5.1).bind (Sum.elim (fun u9 =>
(qa8 n u9 a1 r8.1).bind fun r11 =>
some (r11.1,((0 : Int),()))) (fun u10 =>
(qa9 n u10 a1 r8.1).bind fun r12 =>
some (r12.1,((0 : Int),()))))) (fun u7 =>
(qba n u7 b2).bind fun r13 =>
(r5.1).bind fun _ =>
(r5.1).bind (Sum.elim (fun u14 =>
(qa8 n u14 a1 r13.1).bind fun r16 =>
some (r16.1,((0 : Int),()))) (fun u15 =>
(qa9 n u15 a1 r13.1).bind fun r17 =>
some (r17.1,((0 : Int),())))))))
/-! "(*commodatum/three.maker).minus" -/
noncomputable def qbc (n : Nat) (k0 : qT8) (c1 : Int) : Option (Int × Unit) :=
(qbb n k0.1 (0 : Int) c1).bind fun r2 =>
some (r2.1,())
/-! "(*commodatum/three.maker).expr$1" -/
noncomputable def qbd (self_three_maker_expr_1 : Int → Int → Int → qT2 → qT8 → Option qT5) (self_three_maker_expr_2 : Int → Int → Int → qT2 → qT8 → Option qT5) (self_three_maker_product__three_maker_expr_1__three_maker_expr_2 : Int → Int → Int → qT16 → qT16 → qT8 → Option qT5) (self_three_maker_expr : qT9 → Int → Int → Int → qT8 → Option qT5) (n : Nat) (to0 : Int) (from1 : Int) (c2 : Int) (x4 : qT2) (co0 : qT8) : Option qT5 :=
(idx x4.2.2.1 (0 : Int)).bind fun v1 =>
(self_three_maker_expr v1 to0 from1 c2 co0).bind (Sum.elim (fun _ =>
some (.inl ())) (fun r2 =>
some (.inr ((),(r2.2.1,())))))
/-! "(*commodatum/three.maker).expr$2" -/
noncomputable def qbe (self_three_maker_expr_1 : Int → Int → Int → qT2 → qT8 → Option qT5) (self_three_maker_expr_2 : Int → Int → Int → qT2 → qT8 → Option qT5) (self_three_maker_product__three_maker_expr_1__three_maker_expr_2 : Int → Int → Int → qT16 → qT16 → qT8 → Option qT5) (self_three_maker_expr : qT9 → Int → Int → Int → qT8 → Option qT5) (n : Nat) (to0 : Int) (from1 : Int) (c2 : Int) (x4 : qT2) (co0 : qT8) : Option qT5 :=
(idx x4.2.2.1 (1 : Int)).bind fun v1 =>
(self_three_maker_expr v1 to0 from1 c2 co0).bind (Sum.elim (fun _ =>
some (.inl ())) (fun r2 =>
some (.inr ((),(r2.2.1,())))))
/-! "(*commodatum/three.maker).product" -/
noncomputable def qbf (self_three_maker_expr_1 : Int → Int → Int → qT2 → qT8 → Option qT5) (self_three_maker_expr_2 : Int → Int → Int → qT2 → qT8 → Option qT5) (self_three_maker_product__three_maker_expr_1__three_maker_expr_2 : Int → Int → Int → qT16 → qT16 → qT8 → Option qT5) (self_three_maker_expr : qT9 → Int → Int → Int → qT8 → Option qT5) (n : Nat) (to1 : Int) (from2 : Int) (c3 : Int) (a4 : qT16) (b5 : qT16) (ko0 : qT8) : Option qT5 :=
(self_three_maker_expr_1 (IntKind.i64.wrap ((IntKind.i64.wrap ((3 : Int) - to1)) - from2)) from2 (1 : Int) a4.2.1 ko0).bind (Sum.elim (fun _ =>
some (.inl ())) (fun r2 =>
(self_three_maker_expr_2 to1 (IntKind.i64.wrap ((IntKind.i64.wrap ((3 : Int) - to1)) - from2)) c3 b5.2.1 r2.2.1).bind (Sum.elim (fun _ =>
some (.inl ())) (fun r4 =>
(qbc n r4.2.1 (1 : Int)).bind fun r7 =>
(self_three_maker_expr_1 (IntKind.i64.wrap ((IntKind.i64.wrap ((3 : Int) - to1)) - from2)) from2 r7.1 a4.2.1 r4.2.1).bind (Sum.elim (fun _ =>
some (.inl ())) (fun r8 =>
(qbc n r8.2.1 c3).bind fun r9 =>
(self_three_maker_expr_2 to1 (IntKind.i64.wrap ((IntKind.i64.wrap ((3 : Int) - to1)) - from2)) r9.1 b5.2.1 r8.2.1).bind (Sum.elim (fun _ =>
some (.inl ())) (fun r10 =>
some (.inr ((),(r10.2.1,())))))))))))
/-! "(*commodatum/three.maker).expr" -/
noncomputable def qbg (self_three_maker_expr_1 : Int → Int → Int → qT2 → qT8 → Option qT5) (self_three_maker_expr_2 : Int → Int → Int → qT2 → qT8 → Option qT5) (self_three_maker_product__three_maker_expr_1__three_maker_expr_2 : Int → Int → Int → qT16 → qT16 → qT8 → Option qT5) (self_three_maker_expr : qT9 → Int → Int → Int → qT8 → Option qT5) (n : Nat) (e1 : qT9) (to2 : Int) (from3 : Int) (c4 : Int) (ko0 : qT8) : Option qT5 :=
bif (decide ((Rose.val e1).1.1 = (0 : Int))) then
((qau n from3).bind fun r1 =>
(qav n to2 c4 (1 : Int) ([r1.1,(true,((Rose.val e1).1.2.1,()))]) ko0).bind (Sum.elim (fun _ =>
some (.inl ())) (fun r2 =>
some (.inr ((),(r2.2.1,()))))))
else
(bif (decide ((Rose.val e1).1.1 = (1 : Int))) then
((qa6 n ko0 c4 (Rose.val e1).1.2.1).bind fun r3 =>
(qau n from3).bind fun r4 =>
(qav n to2 r3.1 (0 : Int) [r4.1] ko0).bind (Sum.elim (fun _ =>
some (.inl ())) (fun r5 =>
some (.inr ((),(r5.2.1,()))))))
else
(bif (decide ((Rose.val e1).1.1 = (2 : Int))) then
((idx (Rose.kids e1) (0 : Int)).bind fun v8 =>
(self_three_maker_expr v8 to2 from3 c4 ko0).bind (Sum.elim (fun _ =>
some (.inl ())) (fun r9 =>
(idx (Rose.kids e1) (1 : Int)).bind fun v10 =>
(self_three_maker_expr v10 to2 from3 c4 r9.2.1).bind (Sum.elim (fun _ =>
some (.inl ())) (fun r11 =>
some (.inr ((),(r11.2.1,()))))))))
else
((self_three_maker_product__three_maker_expr_1__three_maker_expr_2 to2 from3 c4 ((),(((Rose.val e1).1.1,((Rose.val e1).1.2.1,((Rose.kids e1),()))),())) ((),(((Rose.val e1).1.1,((Rose.val e1).1.2.1,((Rose.kids e1),()))),())) ko0).bind (Sum.elim (fun _ =>
some (.inl ())) (fun r12 =>
some (.inr ((),(r12.2.1,()))))))))
noncomputable def qbh : Nat → (Int → Int → Int → qT2 → qT8 → Option qT5) × (Int → Int → Int → qT2 → qT8 → Option qT5) × (Int → Int → Int → qT16 → qT16 → qT8 → Option qT5) × (qT9 → Int → Int → Int → qT8 → Option qT5)
  | 0 => ((fun _ _ _ _ _ => none),(fun _ _ _ _ _ => none),(fun _ _ _ _ _ _ => none),(fun _ _ _ _ _ => none))
  | n + 1 => (qbd (qbh n).1 (qbh n).2.1 (qbh n).2.2.1 (qbh n).2.2.2 n,qbe (qbh n).1 (qbh n).2.1 (qbh n).2.2.1 (qbh n).2.2.2 n,qbf (qbh n).1 (qbh n).2.1 (qbh n).2.2.1 (qbh n).2.2.2 n,qbg (qbh n).1 (qbh n).2.1 (qbh n).2.2.1 (qbh n).2.2.2 n)
noncomputable def qbi (n : Nat) : Int → Int → Int → qT2 → qT8 → Option qT5 := (qbh n).1
noncomputable def qbj (n : Nat) : Int → Int → Int → qT2 → qT8 → Option qT5 := (qbh n).2.1
noncomputable def qbk (n : Nat) : Int → Int → Int → qT16 → qT16 → qT8 → Option qT5 := (qbh n).2.2.1
noncomputable def qbl (n : Nat) : qT9 → Int → Int → Int → qT8 → Option qT5 := (qbh n).2.2.2
/-! "commodatum/three.Scaled$1" -/
noncomputable def qbm (n : Nat) (x1 : qT2) (ko0 : qT8) : Option qT5 :=
(qbl n (Rose.node ((x1.1,(x1.2.1,())),()) x1.2.2.1) (0 : Int) (1 : Int) (1 : Int) ko0).bind (Sum.elim (fun _ =>
some (.inl ())) (fun r1 =>
some (.inr ((),(r1.2.1,())))))
/-! "commodatum/three.polys" -/
noncomputable def qbn (n : Nat)  : Option ((List qT10) × Unit) :=
some ([[((1 : Int),([(1 : Int)],()))],[((1 : Int),([(1 : Int),(1 : Int)],()))],[((1 : Int),(([] : (List Int)),()))]],())
/-! "commodatum/three.program$1" -/
noncomputable def qbo (n : Nat) (xo0 : qT3) (xo1 : Int) : Option qT28 :=
some ((),((((0 : Int),((0 : Int),())),((0 : Int),((0 : Int),(([] : (List qT10)),(([] : qT0),()))))),((5 : Int),())))
/-! "commodatum/three.program$1" -/
noncomputable def qbp (n : Nat) (xo0 : qT3) (xo1 : Int) : Option qT28 :=
some ((),(xo0,(xo1,())))
/-! "commodatum/three.program" -/
noncomputable def qbq (n : Nat) (n1 : Int) (f2 : (qT2 × Unit)) (F3 : qT1) (p6 : qT3) (e7 : Int) : Option qT20 :=
(qbm n f2.1 (F3,(([] : qT0),((200000 : Int),())))).bind (Sum.elim (fun _ =>
((qbo n (p6) (e7)).map (fun r => r.2)).bind fun r3 =>
some (r3.1,(r3.2.1,()))) (fun r2 =>
(qbn n).bind fun r4 =>
((qbp n ((F3,((3 : Int),(n1,(r4.1,(r2.2.1.2.1,())))))) ((0 : Int))).map (fun r => r.2)).bind fun r5 =>
some (r5.1,(r5.2.1,()))))
noncomputable def qbr (n : Nat) (d : qT38) : Option qT20 := qbq n d.1 d.2.1 d.2.2.1 d.2.2.2.1 d.2.2.2.2.1
noncomputable def qbs (n : Nat) (F0 : qT1) (n1 : Int) (f2 : (qT2 × Unit)) : Option qT20 :=
qbr n (n1,(f2.1,()),F0,(((0 : Int),((0 : Int),())),((0 : Int),((0 : Int),(([] : (List qT10)),(([] : qT0),()))))),(0 : Int),())
/-! "commodatum/three.Scaled" -/
noncomputable def qbt (n : Nat) (e0 : qT9) (F1 : qT1) (n2 : Int) : Option qT20 :=
(qat n (Rose.node (((Rose.val e0).1.1,((Rose.val e0).1.2.1,())),()) (Rose.kids e0)) F1 n2).bind fun r3 =>
bif (!decide (r3.1 = (0 : Int))) then
(some ((((0 : Int),((0 : Int),())),((0 : Int),((0 : Int),(([] : (List qT10)),(([] : qT0),()))))),(r3.1,())))
else
((qbs n F1 n2 (((Rose.val e0).1.1,((Rose.val e0).1.2.1,((Rose.kids e0),()))),())).bind fun r4 =>
some (r4.1,(r4.2.1,())))
/-! "commodatum/three.From$1$1" -/
noncomputable def qbu (n : Nat) (c0 : Int) (x2 : qT2) (co0 : qT8) : Option qT5 :=
(qbl n (Rose.node ((x2.1,(x2.2.1,())),()) x2.2.2.1) (0 : Int) (1 : Int) c0 co0).bind (Sum.elim (fun _ =>
some (.inl ())) (fun r1 =>
some (.inr ((),(r1.2.1,())))))
/-! "(*commodatum/three.maker).summed" -/
noncomputable def qbv (n : Nat) (f1 : qT16) (ko0 : qT8) : Option qT5 :=
(qav n (1 : Int) (1 : Int) (2 : Int) ([] : qT18) ko0).bind (Sum.elim (fun _ =>
some (.inl ())) (fun r2 =>
(qbu n (1 : Int) f1.2.1 r2.2.1).bind (Sum.elim (fun _ =>
some (.inl ())) (fun r4 =>
(qbc n r4.2.1 (1 : Int)).bind fun r7 =>
(qav n (1 : Int) r7.1 (2 : Int) ([] : qT18) r4.2.1).bind (Sum.elim (fun _ =>
some (.inl ())) (fun r8 =>
(qbc n r8.2.1 (1 : Int)).bind fun r9 =>
(qbu n r9.1 f1.2.1 r8.2.1).bind (Sum.elim (fun _ =>
some (.inl ())) (fun r10 =>
some (.inr ((),(r10.2.1,())))))))))))
/-! "commodatum/three.From$1" -/
noncomputable def qbw (n : Nat) (x1 : qT2) (ko0 : qT8) : Option qT5 :=
(qbv n ((),(x1,())) ko0).bind (Sum.elim (fun _ =>
some (.inl ())) (fun r1 =>
some (.inr ((),(r1.2.1,())))))
/-! "commodatum/three.program$1" -/
noncomputable def qbx (n : Nat) (xo0 : qT3) (xo1 : Int) : Option qT28 :=
some ((),((((0 : Int),((0 : Int),())),((0 : Int),((0 : Int),(([] : (List qT10)),(([] : qT0),()))))),((5 : Int),())))
/-! "commodatum/three.program$1" -/
noncomputable def qby (n : Nat) (xo0 : qT3) (xo1 : Int) : Option qT28 :=
some ((),(xo0,(xo1,())))
/-! "commodatum/three.program" -/
noncomputable def qbz (n : Nat) (n1 : Int) (f2 : (qT2 × Unit)) (F3 : qT1) (p6 : qT3) (e7 : Int) : Option qT20 :=
(qbw n f2.1 (F3,(([] : qT0),((200000 : Int),())))).bind (Sum.elim (fun _ =>
((qbx n (p6) (e7)).map (fun r => r.2)).bind fun r3 =>
some (r3.1,(r3.2.1,()))) (fun r2 =>
(qbn n).bind fun r4 =>
((qby n ((F3,((3 : Int),(n1,(r4.1,(r2.2.1.2.1,())))))) ((0 : Int))).map (fun r => r.2)).bind fun r5 =>
some (r5.1,(r5.2.1,()))))
noncomputable def qb0 (n : Nat) (d : qT38) : Option qT20 := qbz n d.1 d.2.1 d.2.2.1 d.2.2.2.1 d.2.2.2.2.1
noncomputable def qb1 (n : Nat) (F0 : qT1) (n1 : Int) (f2 : (qT2 × Unit)) : Option qT20 :=
qb0 n (n1,(f2.1,()),F0,(((0 : Int),((0 : Int),())),((0 : Int),((0 : Int),(([] : (List qT10)),(([] : qT0),()))))),(0 : Int),())
/-! "commodatum/three.From" -/
noncomputable def qb2 (n : Nat) (e0 : qT9) (F1 : qT1) (n2 : Int) : Option qT20 :=
(qat n (Rose.node (((Rose.val e0).1.1,((Rose.val e0).1.2.1,())),()) (Rose.kids e0)) F1 n2).bind fun r3 =>
bif (!decide (r3.1 = (0 : Int))) then
(some ((((0 : Int),((0 : Int),())),((0 : Int),((0 : Int),(([] : (List qT10)),(([] : qT0),()))))),(r3.1,())))
else
((qb1 n F1 n2 (((Rose.val e0).1.1,((Rose.val e0).1.2.1,((Rose.kids e0),()))),())).bind fun r4 =>
some (r4.1,(r4.2.1,())))
/-! "commodatum/commodatumref13.prime" -/
noncomputable def qb3 (n : Nat) (n0 : Int) (d3 : Int) : Option (qT13 ⊕ qT12) :=
bif (decide ((IntKind.i64.wrap (d3 * d3)) ≤ n0)) then
(bif decide (d3 = 0) then none else
bif (decide ((Int.tmod n0 d3) = (0 : Int))) then
(some (.inr (.inl (false,()))))
else
(some (.inl (n0,(IntKind.i64.wrap (d3 + (1 : Int))),()))))
else
(some (.inr (.inr (.inl (())))))
noncomputable def qb4 (n : Nat) (d : qT13) : Option (qT13 ⊕ qT12) := qb3 n d.1 d.2.1
noncomputable def qb5 (n : Nat) (n0 : Int) : Option (Bool × Unit) :=
(bif (decide (n0 < (2 : Int))) then
(some (.inl (n0,true,())))
else
(some (.inl (n0,(decide ((65536 : Int) < n0)),()))) : Option ((Int × Bool × Unit) ⊕ Empty)).bind (Sum.elim (fun d2 =>
bif d2.2.1 then
(some (false,()))
else
((iterN (qb4 n) n (d2.1,(2 : Int),())).bind (Sum.elim (fun d6 =>
some (d6.1,())) (Sum.elim (fun d5 =>
some (true,())) nof)))) nof)
/-! "commodatum/commodatumref13.FieldValid" -/
noncomputable def qb6 (n : Nat) (f0 : qT1) : Option (Bool × Unit) :=
((qb5 n f0.1).bind fun r4 =>
bif (!r4.1) then
(some (.inl (f0,true,())))
else
(bif (decide (f0.2.1 < (1 : Int))) then
(some (.inl (f0,true,())))
else
(bif (decide ((16 : Int) < f0.2.1)) then
(some (.inl (f0,true,())))
else
(bif (decide ((1 : Int) < f0.2.1)) then
(some (.inl (f0,(!decide (f0.1 = (2 : Int))),())))
else
(some (.inl (f0,false,())))))) : Option ((qT1 × Bool × Unit) ⊕ Empty)).bind (Sum.elim (fun d5 =>
bif d5.2.1 then
(some (false,()))
else
(bif (decide (d5.1.2.1 = (1 : Int))) then
(some (true,()))
else
(bif decide (d5.1.2.1 < 0) then none else
some ((decide ((IntKind.i64.wrap ((1 : Int) * 2 ^ (min (d5.1.2.1).toNat IntKind.i64.bits))) ≤ (65536 : Int))),())))) nof)
/-! "commodatum/commodatumref13.degree" -/
noncomputable def qb7 (n : Nat) (a0 : Int) (d3 : Int) : Option (qT13 ⊕ qT11) :=
bif (decide ((0 : Int) < a0)) then
(bif decide ((1 : Int) < 0) then none else
some (.inl ((Int.fdiv a0 (2 ^ (min ((1 : Int)).toNat IntKind.i64.bits))),(IntKind.i64.wrap (d3 + (1 : Int))),())))
else
(some (.inr (.inl (d3,()))))
noncomputable def qb8 (n : Nat) (d : qT13) : Option (qT13 ⊕ qT11) := qb7 n d.1 d.2.1
noncomputable def qb9 (n : Nat) (a0 : Int) : Option (Int × Unit) :=
(iterN (qb8 n) n (a0,(-1 : Int),())).bind (Sum.elim (fun d2 =>
some (d2.1,())) nof)
/-! "commodatum/commodatumref13.rest" -/
noncomputable def qca (n : Nat) (a0 : Int) (b1 : Int) : Option (qT13 ⊕ qT11) :=
(qb9 n a0).bind fun r9 =>
(qb9 n b1).bind fun r10 =>
bif (decide (r10.1 ≤ r9.1)) then
((qb9 n a0).bind fun r11 =>
(qb9 n b1).bind fun r12 =>
bif decide ((IntKind.i64.wrap (r11.1 - r12.1)) < 0) then none else
some (.inl ((IntKind.i64.wrap ((BitVec.ofInt IntKind.i64.bits a0 ^^^ BitVec.ofInt IntKind.i64.bits (IntKind.i64.wrap (b1 * 2 ^ (min ((IntKind.i64.wrap (r11.1 - r12.1))).toNat IntKind.i64.bits)))).toNat)),b1,())))
else
(some (.inr (.inl (a0,()))))
noncomputable def qcb (n : Nat) (d : qT13) : Option (qT13 ⊕ qT11) := qca n d.1 d.2.1
noncomputable def qcc (n : Nat) (a0 : Int) (b1 : Int) : Option (Int × Unit) :=
(iterN (qcb n) n (a0,b1,())).bind (Sum.elim (fun d14 =>
some (d14.1,())) nof)
/-! "commodatum/commodatumref13.irreducible" -/
noncomputable def qcd (n : Nat) (a0 : Int) (b3 : Int) : Option (qT13 ⊕ qT12) :=
(qb9 n b3).bind fun r10 =>
(qb9 n a0).bind fun r11 =>
bif (decide ((IntKind.i64.wrap ((2 : Int) * r10.1)) ≤ r11.1)) then
((qcc n a0 b3).bind fun r12 =>
bif (decide (r12.1 = (0 : Int))) then
(some (.inr (.inl (false,()))))
else
(some (.inl (a0,(IntKind.i64.wrap (b3 + (2 : Int))),()))))
else
(some (.inr (.inr (.inl (())))))
noncomputable def qce (n : Nat) (d : qT13) : Option (qT13 ⊕ qT12) := qcd n d.1 d.2.1
noncomputable def qcf (n : Nat) (a0 : Int) : Option (Bool × Unit) :=
bif (decide ((IntKind.i64.wrap ((BitVec.ofInt IntKind.i64.bits a0 &&& BitVec.ofInt IntKind.i64.bits (1 : Int)).toNat)) = (0 : Int))) then
(some ((decide (a0 = (2 : Int))),()))
else
((iterN (qce n) n (a0,(3 : Int),())).bind (Sum.elim (fun d16 =>
some (d16.1,())) (Sum.elim (fun d15 =>
some (true,())) nof)))
/-! "commodatum/commodatumref13.Modulus" -/
noncomputable def qcg (n : Nat) (a3 : Int) : Option ((Int × Unit) ⊕ qT11) :=
(qcf n a3).bind fun r4 =>
bif (!r4.1) then
(some (.inl ((IntKind.i64.wrap (a3 + (1 : Int))),())))
else
(some (.inr (.inl (a3,()))))
noncomputable def qch (n : Nat) (d : (Int × Unit)) : Option ((Int × Unit) ⊕ qT11) := qcg n d.1
noncomputable def qci (n : Nat) (m0 : Int) : Option (Int × Unit) :=
bif decide (m0 < 0) then none else
(iterN (qch n) n ((IntKind.i64.wrap ((1 : Int) * 2 ^ (min (m0).toNat IntKind.i64.bits))),())).bind (Sum.elim (fun d6 =>
some (d6.1,())) nof)
/-! "commodatum/commodatumref13.Of" -/
noncomputable def qcj (n : Nat) (f0 : qT1) : Option (qT7 × Unit) :=
bif (decide (f0.2.1 = (1 : Int))) then
(some ((f0.1,((1 : Int),(f0.1,((0 : Int),())))),()))
else
(bif decide (f0.2.1 < 0) then none else
(qci n f0.2.1).bind fun r1 =>
some (((2 : Int),(f0.2.1,((IntKind.i64.wrap ((1 : Int) * 2 ^ (min (f0.2.1).toNat IntKind.i64.bits))),(r1.1,())))),()))
/-! "commodatum/commodatumref13.before" -/
noncomputable def qck (n : Nat) (a0 : (List Int)) (b1 : (List Int)) (i5 : Int) : Option (qT21 ⊕ qT12) :=
bif (decide (i5 < (a0.length : Int))) then
((idx a0 i5).bind fun v11 =>
(idx b1 i5).bind fun v12 =>
bif (!decide (v11 = v12)) then
((idx a0 i5).bind fun v13 =>
(idx b1 i5).bind fun v14 =>
some (.inr (.inl ((decide (v13 < v14)),()))))
else
(some (.inl (a0,b1,(IntKind.i64.wrap (i5 + (1 : Int))),()))))
else
(some (.inr (.inr (.inl (())))))
noncomputable def qcl (n : Nat) (d : qT21) : Option (qT21 ⊕ qT12) := qck n d.1 d.2.1 d.2.2.1
noncomputable def qcm (n : Nat) (a0 : (List Int)) (b1 : (List Int)) : Option (Bool × Unit) :=
(iterN (qcl n) n (a0,b1,(0 : Int),())).bind (Sum.elim (fun d18 =>
some (d18.1,())) (Sum.elim (fun d17 =>
some (false,())) nof))
/-! "(commodatum/commodatumref13.Arith).Vars" -/
noncomputable def qcn (n : Nat) (p1 : qT10) (x2 : qT7) (n6 : Int) (i7 : Int) (k8 : Int) : Option ((qT10 × qT7 × Int × Int × Int × Unit) ⊕ ((Int × Bool × Unit) ⊕ (qT29 ⊕ Empty))) :=
bif (decide (k8 < n6)) then
(((idx p1 i7).bind fun v39 =>
(idx v39.2.1 k8).bind fun v40 =>
bif (decide (v40 < (0 : Int))) then
(some (.inl (p1,x2,n6,i7,k8,true,())))
else
((idx p1 i7).bind fun v41 =>
(idx v41.2.1 k8).bind fun v42 =>
some (.inl (p1,x2,n6,i7,k8,(decide ((65535 : Int) < v42)),()))) : Option ((qT10 × qT7 × Int × Int × Int × Bool × Unit) ⊕ Empty)).bind (Sum.elim (fun d43 =>
bif d43.2.2.2.2.2.1 then
(some (.inr (.inl ((0 : Int),false,()))))
else
(some (.inl (d43.1,d43.2.1,d43.2.2.1,d43.2.2.2.1,(IntKind.i64.wrap (d43.2.2.2.2.1 + (1 : Int))),())))) nof))
else
(some (.inr (.inr (.inl (p1,x2,n6,i7,())))))
noncomputable def qco (n : Nat) (d : (qT10 × qT7 × Int × Int × Int × Unit)) : Option ((qT10 × qT7 × Int × Int × Int × Unit) ⊕ ((Int × Bool × Unit) ⊕ (qT29 ⊕ Empty))) := qcn n d.1 d.2.1 d.2.2.1 d.2.2.2.1 d.2.2.2.2.1
noncomputable def qcp (n : Nat) (p1 : qT10) (x2 : qT7) (n6 : Int) (i7 : Int) : Option (qT29 ⊕ ((Int × Bool × Unit) ⊕ qT11)) :=
bif (decide (i7 < (p1.length : Int))) then
(((idx p1 i7).bind fun v55 =>
bif (!decide ((v55.2.1.length : Int) = n6)) then
(some (.inl (p1,x2,n6,i7,true,())))
else
((idx p1 i7).bind fun v56 =>
bif (decide (v56.1 < (1 : Int))) then
(some (.inl (p1,x2,n6,i7,true,())))
else
((idx p1 i7).bind fun v57 =>
bif (decide (x2.2.2.1 ≤ v57.1)) then
(some (.inl (p1,x2,n6,i7,true,())))
else
(bif (decide ((0 : Int) < i7)) then
((idx p1 (IntKind.i64.wrap (i7 - (1 : Int)))).bind fun v58 =>
(idx p1 i7).bind fun v59 =>
(qcm n v58.2.1 v59.2.1).bind fun r60 =>
some (.inl (p1,x2,n6,i7,(!r60.1),())))
else
(some (.inl (p1,x2,n6,i7,false,())))))) : Option ((qT10 × qT7 × Int × Int × Bool × Unit) ⊕ Empty)).bind (Sum.elim (fun d61 =>
bif d61.2.2.2.2.1 then
(some (.inr (.inl ((0 : Int),false,()))))
else
((iterN (qco n) n (d61.1,d61.2.1,d61.2.2.1,d61.2.2.2.1,(0 : Int),())).bind (Sum.elim (fun d63 =>
some (.inr (.inl (d63.1,d63.2.1,())))) (Sum.elim (fun d62 =>
some (.inl (d62.1,d62.2.1,d62.2.2.1,(IntKind.i64.wrap (d62.2.2.2.1 + (1 : Int))),()))) nof)))) nof))
else
(some (.inr (.inr (.inl (n6,())))))
noncomputable def qcq (n : Nat) (d : qT29) : Option (qT29 ⊕ ((Int × Bool × Unit) ⊕ qT11)) := qcp n d.1 d.2.1 d.2.2.1 d.2.2.2.1
noncomputable def qcr (n : Nat) (x0 : qT7) (p1 : qT10) : Option (Int × (Bool × Unit)) :=
bif (decide ((p1.length : Int) = (0 : Int))) then
(some ((-1 : Int),(true,())))
else
((idx p1 (0 : Int)).bind fun v2 =>
(bif (decide ((80 : Int) < (v2.2.1.length : Int))) then
(some (.inl (p1,x0,(v2.2.1.length : Int),true,())))
else
(some (.inl (p1,x0,(v2.2.1.length : Int),(decide ((20000 : Int) < (p1.length : Int))),()))) : Option ((qT10 × qT7 × Int × Bool × Unit) ⊕ Empty)).bind (Sum.elim (fun d4 =>
bif d4.2.2.2.1 then
(some ((0 : Int),(false,())))
else
((iterN (qcq n) n (d4.1,d4.2.1,d4.2.2.1,(0 : Int),())).bind (Sum.elim (fun d67 =>
some (d67.1,(d67.2.1,()))) (Sum.elim (fun d66 =>
some (d66.1,(true,()))) nof)))) nof))
/-! "commodatum/commodatumref13.count" -/
noncomputable def qcs (self_ref13_count : qT0 → Int → Option qT1) (n : Nat) (l0 : qT0) (levels1 : Int) (n6 : Int) (deep7 : Int) (i8 : Int) : Option (qT35 ⊕ (qT13 ⊕ Empty)) :=
(bif (decide (i8 < (l0.length : Int))) then
(bif (decide ((0 : Int) < levels1)) then
(some (.inl (l0,levels1,n6,deep7,i8,(decide (n6 ≤ (200000 : Int))),())))
else
(some (.inl (l0,levels1,n6,deep7,i8,false,()))))
else
(some (.inl (l0,levels1,n6,deep7,i8,false,()))) : Option ((qT0 × Int × Int × Int × Int × Bool × Unit) ⊕ Empty)).bind (Sum.elim (fun d13 =>
bif d13.2.2.2.2.2.1 then
(((idx d13.1 d13.2.2.2.2.1).bind fun v14 =>
bif (decide ((Rose.val v14).1.1 = (2 : Int))) then
((idx d13.1 d13.2.2.2.2.1).bind fun v15 =>
(self_ref13_count (Rose.kids v15) (IntKind.i64.wrap (d13.2.1 - (1 : Int)))).bind fun r16 =>
some (.inl (d13.1,d13.2.1,(IntKind.i64.wrap (d13.2.2.1 + r16.1)),(if (IntKind.i64.wrap (r16.2.1 + (1 : Int))) > d13.2.2.2.1 then (IntKind.i64.wrap (r16.2.1 + (1 : Int))) else d13.2.2.2.1),d13.2.2.2.2.1,())))
else
(some (.inl (d13.1,d13.2.1,d13.2.2.1,d13.2.2.2.1,d13.2.2.2.2.1,()))) : Option (qT35 ⊕ Empty)).bind (Sum.elim (fun d17 =>
some (.inl (d17.1,d17.2.1,d17.2.2.1,d17.2.2.2.1,(IntKind.i64.wrap (d17.2.2.2.2.1 + (1 : Int))),()))) nof))
else
(some (.inr (.inl (d13.2.2.1,d13.2.2.2.1,()))))) nof)
noncomputable def qct (self_ref13_count : qT0 → Int → Option qT1) (n : Nat) (d : qT35) : Option (qT35 ⊕ (qT13 ⊕ Empty)) := qcs self_ref13_count n d.1 d.2.1 d.2.2.1 d.2.2.2.1 d.2.2.2.2.1
noncomputable def qcu (self_ref13_count : qT0 → Int → Option qT1) (n : Nat) (l0 : qT0) (levels1 : Int) : Option qT1 :=
(iterN (qct self_ref13_count n) n (l0,levels1,(l0.length : Int),(0 : Int),(0 : Int),())).bind (Sum.elim (fun d19 =>
some (d19.1,(d19.2.1,()))) nof)
noncomputable def qcv : Nat → qT0 → Int → Option qT1
  | 0 => fun _ _ => none
  | n + 1 => qcu (qcv n) n
/-! "(commodatum/commodatumref13.Arith).Element" -/
noncomputable def qcw (n : Nat) (x0 : qT7) (a1 : Int) : Option (Bool × Unit) :=
bif (decide ((0 : Int) ≤ a1)) then
(some ((decide (a1 < x0.2.2.1)),()))
else
(some (false,()))
/-! "commodatum/commodatumref13.add" -/
noncomputable def qcx (n : Nat) (p4 : qT3) (s7 : qT6) (i9 : Int) : Option ((qT3 × qT6 × Int × Unit) ⊕ qT12) :=
bif (decide (i9 < (s7.2.2.2.2.2.1.length : Int))) then
((idx s7.2.2.2.2.2.1 i9).bind fun v25 =>
(bif (decide (v25.2.1 < (0 : Int))) then
(some (.inl (p4,s7,i9,true,())))
else
(bif v25.1 then
(bif (decide (p4.2.2.1 ≤ v25.2.1)) then
(some (.inl (p4,s7,i9,true,())))
else
(bif (!v25.1) then
(bif (decide (p4.2.1 ≤ v25.2.1)) then
(some (.inl (p4,s7,i9,true,())))
else
(some (.inl (p4,s7,i9,(decide (v25.2.1 = s7.2.1)),()))))
else
(some (.inl (p4,s7,i9,false,())))))
else
(bif (!v25.1) then
(bif (decide (p4.2.1 ≤ v25.2.1)) then
(some (.inl (p4,s7,i9,true,())))
else
(some (.inl (p4,s7,i9,(decide (v25.2.1 = s7.2.1)),()))))
else
(some (.inl (p4,s7,i9,false,()))))) : Option ((qT3 × qT6 × Int × Bool × Unit) ⊕ Empty)).bind (Sum.elim (fun d26 =>
bif d26.2.2.2.1 then
(some (.inr (.inl (false,()))))
else
(some (.inl (d26.1,d26.2.1,(IntKind.i64.wrap (d26.2.2.1 + (1 : Int))),())))) nof))
else
(some (.inr (.inr (.inl (())))))
noncomputable def qcy (n : Nat) (d : (qT3 × qT6 × Int × Unit)) : Option ((qT3 × qT6 × Int × Unit) ⊕ qT12) := qcx n d.1 d.2.1 d.2.2.1
noncomputable def qcz (n : Nat) (p0 : qT3) (x1 : qT7) (vars2 : (List Int)) (s3 : (Rose ((Int × (Int × (Int × (Int × (Int × (qT18 × Unit)))))) × Unit))) : Option (Bool × Unit) :=
(bif (decide ((Rose.val s3).1.2.1 < (0 : Int))) then
(some (.inl (vars2,p0,((Rose.val s3).1.1,((Rose.val s3).1.2.1,((Rose.val s3).1.2.2.1,((Rose.val s3).1.2.2.2.1,((Rose.val s3).1.2.2.2.2.1,((Rose.val s3).1.2.2.2.2.2.1,((Rose.kids s3),()))))))),true,())))
else
(bif (decide (p0.2.1 ≤ (Rose.val s3).1.2.1)) then
(some (.inl (vars2,p0,((Rose.val s3).1.1,((Rose.val s3).1.2.1,((Rose.val s3).1.2.2.1,((Rose.val s3).1.2.2.2.1,((Rose.val s3).1.2.2.2.2.1,((Rose.val s3).1.2.2.2.2.2.1,((Rose.kids s3),()))))))),true,())))
else
((qcw n x1 (Rose.val s3).1.2.2.1).bind fun r4 =>
bif (!r4.1) then
(some (.inl (vars2,p0,((Rose.val s3).1.1,((Rose.val s3).1.2.1,((Rose.val s3).1.2.2.1,((Rose.val s3).1.2.2.2.1,((Rose.val s3).1.2.2.2.2.1,((Rose.val s3).1.2.2.2.2.2.1,((Rose.kids s3),()))))))),true,())))
else
(bif (decide ((Rose.val s3).1.2.2.2.1 < (0 : Int))) then
(some (.inl (vars2,p0,((Rose.val s3).1.1,((Rose.val s3).1.2.1,((Rose.val s3).1.2.2.1,((Rose.val s3).1.2.2.2.1,((Rose.val s3).1.2.2.2.2.1,((Rose.val s3).1.2.2.2.2.2.1,((Rose.kids s3),()))))))),true,())))
else
(bif (decide ((vars2.length : Int) ≤ (Rose.val s3).1.2.2.2.1)) then
(some (.inl (vars2,p0,((Rose.val s3).1.1,((Rose.val s3).1.2.1,((Rose.val s3).1.2.2.1,((Rose.val s3).1.2.2.2.1,((Rose.val s3).1.2.2.2.2.1,((Rose.val s3).1.2.2.2.2.2.1,((Rose.kids s3),()))))))),true,())))
else
(bif (!decide ((Rose.val s3).1.2.2.2.2.1 = (0 : Int))) then
(some (.inl (vars2,p0,((Rose.val s3).1.1,((Rose.val s3).1.2.1,((Rose.val s3).1.2.2.1,((Rose.val s3).1.2.2.2.1,((Rose.val s3).1.2.2.2.2.1,((Rose.val s3).1.2.2.2.2.2.1,((Rose.kids s3),()))))))),true,())))
else
(some (.inl (vars2,p0,((Rose.val s3).1.1,((Rose.val s3).1.2.1,((Rose.val s3).1.2.2.1,((Rose.val s3).1.2.2.2.1,((Rose.val s3).1.2.2.2.2.1,((Rose.val s3).1.2.2.2.2.2.1,((Rose.kids s3),()))))))),(decide ((0 : Int) < (((Rose.kids s3)).length : Int))),())))))))) : Option (((List Int) × qT3 × qT6 × Bool × Unit) ⊕ Empty)).bind (Sum.elim (fun d5 =>
bif d5.2.2.2.1 then
(some (false,()))
else
(((idx d5.1 d5.2.2.1.2.2.2.1).bind fun v15 =>
bif (decide ((0 : Int) ≤ v15)) then
((idx d5.1 d5.2.2.1.2.2.2.1).bind fun v16 =>
bif (!decide ((d5.2.2.1.2.2.2.2.2.1.length : Int) = v16)) then
(some (.inl (d5.2.1,d5.2.2.1,true,())))
else
((idx d5.1 d5.2.2.1.2.2.2.1).bind fun v17 =>
bif (decide (v17 < (0 : Int))) then
(some (.inl (d5.2.1,d5.2.2.1,(decide ((80 : Int) < (d5.2.2.1.2.2.2.2.2.1.length : Int))),())))
else
(some (.inl (d5.2.1,d5.2.2.1,false,())))))
else
((idx d5.1 d5.2.2.1.2.2.2.1).bind fun v18 =>
bif (decide (v18 < (0 : Int))) then
(some (.inl (d5.2.1,d5.2.2.1,(decide ((80 : Int) < (d5.2.2.1.2.2.2.2.2.1.length : Int))),())))
else
(some (.inl (d5.2.1,d5.2.2.1,false,())))) : Option ((qT3 × qT6 × Bool × Unit) ⊕ Empty)).bind (Sum.elim (fun d19 =>
bif d19.2.2.1 then
(some (false,()))
else
((iterN (qcy n) n (d19.1,d19.2.1,(0 : Int),())).bind (Sum.elim (fun d30 =>
some (d30.1,())) (Sum.elim (fun d29 =>
some (true,())) nof)))) nof))) nof)
/-! "commodatum/commodatumref13.body" -/
noncomputable def qc0 (self_ref13_body : qT3 → qT7 → (List Int) → qT0 → Option (Bool × Unit)) (n : Nat) (vars2 : (List Int)) (l3 : qT0) (p4 : qT3) (x5 : qT7) (i9 : Int) : Option (qT27 ⊕ qT12) :=
bif (decide (i9 < (l3.length : Int))) then
(((idx l3 i9).bind fun v19 =>
bif (decide ((Rose.val v19).1.1 = (0 : Int))) then
((qcz n p4 x5 vars2 (Rose.node (((Rose.val v19).1.1,((Rose.val v19).1.2.1,((Rose.val v19).1.2.2.1,((Rose.val v19).1.2.2.2.1,((Rose.val v19).1.2.2.2.2.1,((Rose.val v19).1.2.2.2.2.2.1,())))))),()) (Rose.kids v19))).bind fun r20 =>
bif (!r20.1) then
(some (.inl (false,())))
else
(some (.inr (.inl (vars2,l3,p4,x5,i9,())))))
else
(bif (decide ((Rose.val v19).1.1 = (1 : Int))) then
((bif (decide ((Rose.val v19).1.2.1 < (0 : Int))) then
(some (.inl (vars2,l3,p4,x5,i9,true,())))
else
(bif (decide (p4.2.1 ≤ (Rose.val v19).1.2.1)) then
(some (.inl (vars2,l3,p4,x5,i9,true,())))
else
((qcw n x5 (Rose.val v19).1.2.2.1).bind fun r21 =>
bif (!r21.1) then
(some (.inl (vars2,l3,p4,x5,i9,true,())))
else
(bif (decide ((Rose.val v19).1.2.2.1 = (0 : Int))) then
(some (.inl (vars2,l3,p4,x5,i9,true,())))
else
(bif (!decide ((Rose.val v19).1.2.2.2.1 = (0 : Int))) then
(some (.inl (vars2,l3,p4,x5,i9,true,())))
else
(bif (!decide ((Rose.val v19).1.2.2.2.2.1 = (0 : Int))) then
(some (.inl (vars2,l3,p4,x5,i9,true,())))
else
(bif (decide ((0 : Int) < (((Rose.val v19).1.2.2.2.2.2.1).length : Int))) then
(some (.inl (vars2,l3,p4,x5,i9,true,())))
else
(some (.inl (vars2,l3,p4,x5,i9,(decide ((0 : Int) < (((Rose.kids v19)).length : Int))),()))))))))) : Option (((List Int) × qT0 × qT3 × qT7 × Int × Bool × Unit) ⊕ Empty)).bind (Sum.elim (fun d22 =>
bif d22.2.2.2.2.2.1 then
(some (.inl (false,())))
else
(some (.inr (.inl (d22.1,d22.2.1,d22.2.2.1,d22.2.2.2.1,d22.2.2.2.2.1,()))))) nof))
else
(bif (decide ((Rose.val v19).1.1 = (2 : Int))) then
((bif (decide ((Rose.val v19).1.2.2.2.2.1 < (0 : Int))) then
(some (.inl (vars2,l3,p4,x5,i9,true,())))
else
(bif (decide ((2000000 : Int) < (Rose.val v19).1.2.2.2.2.1)) then
(some (.inl (vars2,l3,p4,x5,i9,true,())))
else
(bif (!decide ((Rose.val v19).1.2.1 = (0 : Int))) then
(some (.inl (vars2,l3,p4,x5,i9,true,())))
else
(bif (!decide ((Rose.val v19).1.2.2.1 = (0 : Int))) then
(some (.inl (vars2,l3,p4,x5,i9,true,())))
else
(bif (!decide ((Rose.val v19).1.2.2.2.1 = (0 : Int))) then
(some (.inl (vars2,l3,p4,x5,i9,true,())))
else
(bif (decide ((0 : Int) < (((Rose.val v19).1.2.2.2.2.2.1).length : Int))) then
(some (.inl (vars2,l3,p4,x5,i9,true,())))
else
((self_ref13_body p4 x5 vars2 (Rose.kids v19)).bind fun r23 =>
some (.inl (vars2,l3,p4,x5,i9,(!r23.1),())))))))) : Option (((List Int) × qT0 × qT3 × qT7 × Int × Bool × Unit) ⊕ Empty)).bind (Sum.elim (fun d24 =>
bif d24.2.2.2.2.2.1 then
(some (.inl (false,())))
else
(some (.inr (.inl (d24.1,d24.2.1,d24.2.2.1,d24.2.2.2.1,d24.2.2.2.2.1,()))))) nof))
else
(some (.inl (false,()))))) : Option ((Bool × Unit) ⊕ (qT27 ⊕ Empty))).bind (Sum.elim (fun d26 =>
some (.inr (.inl (d26.1,())))) (Sum.elim (fun d25 =>
some (.inl (d25.1,d25.2.1,d25.2.2.1,d25.2.2.2.1,(IntKind.i64.wrap (d25.2.2.2.2.1 + (1 : Int))),()))) nof)))
else
(some (.inr (.inr (.inl (())))))
noncomputable def qc1 (self_ref13_body : qT3 → qT7 → (List Int) → qT0 → Option (Bool × Unit)) (n : Nat) (d : qT27) : Option (qT27 ⊕ qT12) := qc0 self_ref13_body n d.1 d.2.1 d.2.2.1 d.2.2.2.1 d.2.2.2.2.1
noncomputable def qc2 (self_ref13_body : qT3 → qT7 → (List Int) → qT0 → Option (Bool × Unit)) (n : Nat) (p0 : qT3) (x1 : qT7) (vars2 : (List Int)) (l3 : qT0) : Option (Bool × Unit) :=
(iterN (qc1 self_ref13_body n) n (vars2,l3,p0,x1,(0 : Int),())).bind (Sum.elim (fun d30 =>
some (d30.1,())) (Sum.elim (fun d29 =>
some (true,())) nof))
noncomputable def qc3 : Nat → qT3 → qT7 → (List Int) → qT0 → Option (Bool × Unit)
  | 0 => fun _ _ _ _ => none
  | n + 1 => qc2 (qc3 n) n
/-! "commodatum/commodatumref13.Valid" -/
noncomputable def qc4 (n : Nat) (p1 : qT3) (i5 : Int) (x3 : qT7) (vars4 : (List Int)) : Option qT36 :=
bif (decide (i5 < (p1.2.2.2.1.length : Int))) then
((idx p1.2.2.2.1 i5).bind fun v16 =>
(qcr n x3 v16).bind fun r17 =>
bif (!r17.2.1) then
(some (.inr (.inl (false,()))))
else
((idx vars4 i5).bind fun v18 =>
some (.inl (p1,(IntKind.i64.wrap (i5 + (1 : Int))),x3,(List.set vars4 (i5).toNat r17.1),()))))
else
(some (.inr (.inr (.inl (p1,x3,vars4,())))))
noncomputable def qc5 (n : Nat) (d : (qT3 × Int × qT7 × (List Int) × Unit)) : Option qT36 := qc4 n d.1 d.2.1 d.2.2.1 d.2.2.2.1
noncomputable def qc6 (n : Nat) (p0 : qT3) : Option (Bool × Unit) :=
((qb6 n p0.1).bind fun r4 =>
bif (!r4.1) then
(some (.inl (p0,true,())))
else
(bif (decide (p0.2.1 < (1 : Int))) then
(some (.inl (p0,true,())))
else
(bif (decide ((64 : Int) < p0.2.1)) then
(some (.inl (p0,true,())))
else
(bif (decide (p0.2.2.1 < (0 : Int))) then
(some (.inl (p0,true,())))
else
(bif (decide ((64 : Int) < p0.2.2.1)) then
(some (.inl (p0,true,())))
else
(some (.inl (p0,(decide ((1000 : Int) < (p0.2.2.2.1.length : Int))),()))))))) : Option ((qT3 × Bool × Unit) ⊕ Empty)).bind (Sum.elim (fun d5 =>
bif d5.2.1 then
(some (false,()))
else
((qcj n d5.1.1).bind fun r7 =>
chk (decide (0 ≤ (d5.1.2.2.2.1.length : Int))) (chk (decide ((d5.1.2.2.2.1.length : Int) ≤ (d5.1.2.2.2.1.length : Int))) (chk (lenB ((d5.1.2.2.2.1.length : Int)).toNat) ((iterN (qc5 n) n (d5.1,(0 : Int),r7.1,(List.replicate ((d5.1.2.2.2.1.length : Int)).toNat (0 : Int)),())).bind (Sum.elim (fun d25 =>
some (d25.1,())) (Sum.elim (fun d21 =>
(qcv n d21.1.2.2.2.2.1 (61 : Int)).bind fun r23 =>
bif (decide (r23.1 ≤ (200000 : Int))) then
(bif (decide (r23.2.1 ≤ (60 : Int))) then
((qc3 n d21.1 d21.2.1 d21.2.2.1 d21.1.2.2.2.2.1).bind fun r24 =>
some (r24.1,()))
else
(some (false,())))
else
(some (false,()))) nof))))))) nof)
/-! "commodatum/commodatumref13.steps" -/
noncomputable def qc7 (self_ref13_steps : qT0 → Option (Int × Unit)) (n : Nat) (l0 : qT0) (n3 : Int) (i4 : Int) : Option ((qT0 × Int × Int × Unit) ⊕ ((Int × Unit) ⊕ qT11)) :=
bif (decide (i4 < (l0.length : Int))) then
(((idx l0 i4).bind fun v29 =>
bif (decide ((Rose.val v29).1.1 = (2 : Int))) then
((idx l0 i4).bind fun v30 =>
(self_ref13_steps (Rose.kids v30)).bind fun r31 =>
(bif (decide ((0 : Int) < r31.1)) then
((idx l0 i4).bind fun v32 =>
bif decide (r31.1 = 0) then none else
some (.inl (l0,n3,i4,r31.1,(decide ((IntKind.i64.wrap (Int.tdiv (1099511627777 : Int) r31.1)) < (Rose.val v32).1.2.2.2.2.1)),())))
else
(some (.inl (l0,n3,i4,r31.1,false,()))) : Option ((qT0 × Int × Int × Int × Bool × Unit) ⊕ Empty)).bind (Sum.elim (fun d33 =>
bif d33.2.2.2.2.1 then
(some (.inl ((1099511627777 : Int),())))
else
((idx d33.1 d33.2.2.1).bind fun v34 =>
some (.inr (.inl (d33.1,d33.2.1,d33.2.2.1,(IntKind.i64.wrap (d33.2.2.2.1 * (Rose.val v34).1.2.2.2.2.1)),()))))) nof))
else
(some (.inr (.inl (l0,n3,i4,(1 : Int),())))) : Option ((Int × Unit) ⊕ ((qT0 × Int × Int × Int × Unit) ⊕ Empty))).bind (Sum.elim (fun d36 =>
some (.inr (.inl (d36.1,())))) (Sum.elim (fun d35 =>
some (.inl (d35.1,(if (1099511627777 : Int) < (IntKind.i64.wrap (d35.2.1 + d35.2.2.2.1)) then (1099511627777 : Int) else (IntKind.i64.wrap (d35.2.1 + d35.2.2.2.1))),(IntKind.i64.wrap (d35.2.2.1 + (1 : Int))),()))) nof)))
else
(some (.inr (.inr (.inl (n3,())))))
noncomputable def qc8 (self_ref13_steps : qT0 → Option (Int × Unit)) (n : Nat) (d : (qT0 × Int × Int × Unit)) : Option ((qT0 × Int × Int × Unit) ⊕ ((Int × Unit) ⊕ qT11)) := qc7 self_ref13_steps n d.1 d.2.1 d.2.2.1
noncomputable def qc9 (self_ref13_steps : qT0 → Option (Int × Unit)) (n : Nat) (l0 : qT0) : Option (Int × Unit) :=
(iterN (qc8 self_ref13_steps n) n (l0,(0 : Int),(0 : Int),())).bind (Sum.elim (fun d40 =>
some (d40.1,())) (Sum.elim (fun d39 =>
some (d39.1,())) nof))
noncomputable def qda : Nat → qT0 → Option (Int × Unit)
  | 0 => fun _ => none
  | n + 1 => qc9 (qda n) n
/-! "commodatum/commodatumref13.Steps" -/
noncomputable def qdb (n : Nat) (p0 : qT3) : Option (Int × Unit) :=
(qda n p0.2.2.2.2.1).bind fun r1 =>
some (r1.1,())
/-! "(commodatum/commodatumref13.Arith).Mul" -/
noncomputable def qdc (n : Nat) (a1 : Int) (b2 : Int) (x3 : qT7) (out7 : Int) : Option (qT19 ⊕ qT11) :=
bif (decide ((0 : Int) < b2)) then
(((bif (decide ((IntKind.i64.wrap ((BitVec.ofInt IntKind.i64.bits b2 &&& BitVec.ofInt IntKind.i64.bits (1 : Int)).toNat)) = (1 : Int))) then
(some (.inl (a1,b2,x3,(IntKind.i64.wrap ((BitVec.ofInt IntKind.i64.bits out7 ^^^ BitVec.ofInt IntKind.i64.bits a1).toNat)),())))
else
(some (.inl (a1,b2,x3,out7,()))) : Option (qT19 ⊕ Empty)).bind (Sum.elim (fun d4 =>
bif decide ((1 : Int) < 0) then none else
bif (decide (d4.2.2.1.2.2.1 ≤ (IntKind.i64.wrap (d4.1 * 2 ^ (min ((1 : Int)).toNat IntKind.i64.bits))))) then
(some (.inl ((IntKind.i64.wrap ((BitVec.ofInt IntKind.i64.bits (IntKind.i64.wrap (d4.1 * 2 ^ (min ((1 : Int)).toNat IntKind.i64.bits))) ^^^ BitVec.ofInt IntKind.i64.bits d4.2.2.1.2.2.2.1).toNat)),d4.2.1,d4.2.2.1,d4.2.2.2.1,())))
else
(some (.inl ((IntKind.i64.wrap (d4.1 * 2 ^ (min ((1 : Int)).toNat IntKind.i64.bits))),d4.2.1,d4.2.2.1,d4.2.2.2.1,())))) nof) : Option (qT19 ⊕ Empty)).bind (Sum.elim (fun d5 =>
bif decide ((1 : Int) < 0) then none else
some (.inl (d5.1,(Int.fdiv d5.2.1 (2 ^ (min ((1 : Int)).toNat IntKind.i64.bits))),d5.2.2.1,d5.2.2.2.1,()))) nof))
else
(some (.inr (.inl (out7,()))))
noncomputable def qdd (n : Nat) (d : qT19) : Option (qT19 ⊕ qT11) := qdc n d.1 d.2.1 d.2.2.1 d.2.2.2.1
noncomputable def qde (n : Nat) (x0 : qT7) (a1 : Int) (b2 : Int) : Option (Int × Unit) :=
bif (decide (x0.2.1 = (1 : Int))) then
(bif decide (x0.1 = 0) then none else
some ((Int.tmod (IntKind.i64.wrap (a1 * b2)) x0.1),()))
else
((iterN (qdd n) n (a1,b2,x0,(0 : Int),())).bind (Sum.elim (fun d7 =>
some (d7.1,())) nof))
/-! "(commodatum/commodatumref13.Arith).Power" -/
noncomputable def qdf (n : Nat) (a1 : Int) (k2 : Int) (x3 : qT7) (out7 : Int) : Option (qT19 ⊕ qT11) :=
bif (decide ((0 : Int) < k2)) then
((bif (decide ((IntKind.i64.wrap ((BitVec.ofInt IntKind.i64.bits k2 &&& BitVec.ofInt IntKind.i64.bits (1 : Int)).toNat)) = (1 : Int))) then
((qde n x3 out7 a1).bind fun r8 =>
some (.inl (a1,k2,x3,r8.1,())))
else
(some (.inl (a1,k2,x3,out7,()))) : Option (qT19 ⊕ Empty)).bind (Sum.elim (fun d9 =>
(qde n d9.2.2.1 d9.1 d9.1).bind fun r10 =>
bif decide ((1 : Int) < 0) then none else
some (.inl (r10.1,(Int.fdiv d9.2.1 (2 ^ (min ((1 : Int)).toNat IntKind.i64.bits))),d9.2.2.1,d9.2.2.2.1,()))) nof))
else
(some (.inr (.inl (out7,()))))
noncomputable def qdg (n : Nat) (d : qT19) : Option (qT19 ⊕ qT11) := qdf n d.1 d.2.1 d.2.2.1 d.2.2.2.1
noncomputable def qdh (n : Nat) (x0 : qT7) (a1 : Int) (k2 : Int) : Option (Int × Unit) :=
(iterN (qdg n) n (a1,k2,x0,(1 : Int),())).bind (Sum.elim (fun d12 =>
some (d12.1,())) nof)
/-! "(commodatum/commodatumref13.Arith).Add" -/
noncomputable def qdi (n : Nat) (x0 : qT7) (a1 : Int) (b2 : Int) : Option (Int × Unit) :=
bif (decide (x0.2.1 = (1 : Int))) then
(bif decide (x0.1 = 0) then none else
some ((Int.tmod (IntKind.i64.wrap (a1 + b2)) x0.1),()))
else
(some ((IntKind.i64.wrap ((BitVec.ofInt IntKind.i64.bits a1 ^^^ BitVec.ofInt IntKind.i64.bits b2).toNat)),()))
/-! "(commodatum/commodatumref13.Arith).Eval" -/
noncomputable def qdj (n : Nat) (p1 : qT10) (at2 : (List Int)) (x3 : qT7) (sum7 : Int) (i8 : Int) (v9 : Int) (k10 : Int) : Option (qT23 ⊕ ((qT10 × (List Int) × qT7 × Int × Int × Int × Unit) ⊕ Empty)) :=
((idx p1 i8).bind fun v25 =>
bif (decide (k10 < (v25.2.1.length : Int))) then
(some (.inl (p1,at2,x3,sum7,i8,v9,k10,(decide ((0 : Int) < v9)),())))
else
(some (.inl (p1,at2,x3,sum7,i8,v9,k10,false,()))) : Option ((qT10 × (List Int) × qT7 × Int × Int × Int × Int × Bool × Unit) ⊕ Empty)).bind (Sum.elim (fun d26 =>
bif d26.2.2.2.2.2.2.2.1 then
(((idx d26.1 d26.2.2.2.2.1).bind fun v27 =>
(idx v27.2.1 d26.2.2.2.2.2.2.1).bind fun v28 =>
bif (decide ((0 : Int) < v28)) then
((idx d26.2.1 d26.2.2.2.2.2.2.1).bind fun v29 =>
(idx d26.1 d26.2.2.2.2.1).bind fun v30 =>
(idx v30.2.1 d26.2.2.2.2.2.2.1).bind fun v31 =>
(qdh n d26.2.2.1 v29 v31).bind fun r32 =>
(qde n d26.2.2.1 d26.2.2.2.2.2.1 r32.1).bind fun r33 =>
some (.inl (d26.1,d26.2.1,d26.2.2.1,d26.2.2.2.1,d26.2.2.2.2.1,r33.1,d26.2.2.2.2.2.2.1,())))
else
(some (.inl (d26.1,d26.2.1,d26.2.2.1,d26.2.2.2.1,d26.2.2.2.2.1,d26.2.2.2.2.2.1,d26.2.2.2.2.2.2.1,()))) : Option (qT23 ⊕ Empty)).bind (Sum.elim (fun d34 =>
some (.inl (d34.1,d34.2.1,d34.2.2.1,d34.2.2.2.1,d34.2.2.2.2.1,d34.2.2.2.2.2.1,(IntKind.i64.wrap (d34.2.2.2.2.2.2.1 + (1 : Int))),()))) nof))
else
(some (.inr (.inl (d26.1,d26.2.1,d26.2.2.1,d26.2.2.2.1,d26.2.2.2.2.1,d26.2.2.2.2.2.1,()))))) nof)
noncomputable def qdk (n : Nat) (d : qT23) : Option (qT23 ⊕ ((qT10 × (List Int) × qT7 × Int × Int × Int × Unit) ⊕ Empty)) := qdj n d.1 d.2.1 d.2.2.1 d.2.2.2.1 d.2.2.2.2.1 d.2.2.2.2.2.1 d.2.2.2.2.2.2.1
noncomputable def qdl (n : Nat) (p1 : qT10) (at2 : (List Int)) (x3 : qT7) (sum7 : Int) (i8 : Int) : Option (qT39 ⊕ qT11) :=
bif (decide (i8 < (p1.length : Int))) then
((idx p1 i8).bind fun v41 =>
(iterN (qdk n) n (p1,at2,x3,sum7,i8,v41.1,(0 : Int),())).bind (Sum.elim (fun d42 =>
(qdi n d42.2.2.1 d42.2.2.2.1 d42.2.2.2.2.2.1).bind fun r43 =>
some (.inl (d42.1,d42.2.1,d42.2.2.1,r43.1,(IntKind.i64.wrap (d42.2.2.2.2.1 + (1 : Int))),()))) nof))
else
(some (.inr (.inl (sum7,()))))
noncomputable def qdm (n : Nat) (d : qT39) : Option (qT39 ⊕ qT11) := qdl n d.1 d.2.1 d.2.2.1 d.2.2.2.1 d.2.2.2.2.1
noncomputable def qdn (n : Nat) (x0 : qT7) (p1 : qT10) (at2 : (List Int)) : Option (Int × Unit) :=
(iterN (qdm n) n (p1,at2,x0,(0 : Int),(0 : Int),())).bind (Sum.elim (fun d45 =>
some (d45.1,())) nof)
/-! "(*commodatum/commodatumref13.machine).do" -/
noncomputable def qdo (self_ref13_machine_do : qT0 → qT4 → Option qT26) (n : Nat) (l1 : qT0) (i4 : Int) (k8 : Int) (m0 : qT4) (s5 : qT6) : Option ((qT0 × Int × Int × qT4 × qT6 × Unit) ⊕ (qT34 ⊕ Empty)) :=
(bif (decide (k8 < s5.2.2.2.2.1)) then
((qda n s5.2.2.2.2.2.2.1).bind fun r45 =>
some (.inl (l1,i4,k8,(decide ((0 : Int) < r45.1)),m0,s5,())))
else
(some (.inl (l1,i4,k8,false,m0,s5,()))) : Option ((qT0 × Int × Int × Bool × qT4 × qT6 × Unit) ⊕ Empty)).bind (Sum.elim (fun d46 =>
bif d46.2.2.2.1 then
((self_ref13_machine_do d46.2.2.2.2.2.1.2.2.2.2.2.2.1 d46.2.2.2.2.1).bind fun r47 =>
some (.inl (d46.1,d46.2.1,(IntKind.i64.wrap (d46.2.2.1 + (1 : Int))),r47.2.1,d46.2.2.2.2.2.1,())))
else
(some (.inr (.inl (d46.1,d46.2.1,d46.2.2.2.2.1,()))))) nof)
noncomputable def qdp (self_ref13_machine_do : qT0 → qT4 → Option qT26) (n : Nat) (d : (qT0 × Int × Int × qT4 × qT6 × Unit)) : Option ((qT0 × Int × Int × qT4 × qT6 × Unit) ⊕ (qT34 ⊕ Empty)) := qdo self_ref13_machine_do n d.1 d.2.1 d.2.2.1 d.2.2.2.1 d.2.2.2.2.1
noncomputable def qdq (self_ref13_machine_do : qT0 → qT4 → Option qT26) (n : Nat) (l1 : qT0) (i4 : Int) (k7 : Int) (m0 : qT4) (s5 : qT6) (at6 : (List Int)) : Option (qT25 ⊕ ((qT0 × Int × qT4 × qT6 × (List Int) × Unit) ⊕ Empty)) :=
bif (decide (k7 < (at6.length : Int))) then
(((idx s5.2.2.2.2.2.1 k7).bind fun v19 =>
bif v19.1 then
((idx s5.2.2.2.2.2.1 k7).bind fun v20 =>
(idx m0.2.2.2.1 v20.2.1).bind fun v21 =>
(idx at6 k7).bind fun v22 =>
some (.inl (l1,i4,k7,m0,s5,(List.set at6 (k7).toNat v21),())))
else
((idx s5.2.2.2.2.2.1 k7).bind fun v23 =>
(idx m0.2.2.1 v23.2.1).bind fun v24 =>
(idx at6 k7).bind fun v25 =>
some (.inl (l1,i4,k7,m0,s5,(List.set at6 (k7).toNat v24),()))) : Option (qT25 ⊕ Empty)).bind (Sum.elim (fun d26 =>
some (.inl (d26.1,d26.2.1,(IntKind.i64.wrap (d26.2.2.1 + (1 : Int))),d26.2.2.2.1,d26.2.2.2.2.1,d26.2.2.2.2.2.1,()))) nof))
else
(some (.inr (.inl (l1,i4,m0,s5,at6,()))))
noncomputable def qdr (self_ref13_machine_do : qT0 → qT4 → Option qT26) (n : Nat) (d : qT25) : Option (qT25 ⊕ ((qT0 × Int × qT4 × qT6 × (List Int) × Unit) ⊕ Empty)) := qdq self_ref13_machine_do n d.1 d.2.1 d.2.2.1 d.2.2.2.1 d.2.2.2.2.1 d.2.2.2.2.2.1
noncomputable def qds (self_ref13_machine_do : qT0 → qT4 → Option qT26) (n : Nat) (l1 : qT0) (i4 : Int) (m0 : qT4) : Option (qT34 ⊕ ((qT4 × Unit) ⊕ Empty)) :=
bif (decide (i4 < (l1.length : Int))) then
(((idx l1 i4).bind fun v62 =>
bif (decide ((Rose.val v62).1.1 = (0 : Int))) then
(chk (decide (0 ≤ (((Rose.val v62).1.2.2.2.2.2.1).length : Int))) (chk (decide ((((Rose.val v62).1.2.2.2.2.2.1).length : Int) ≤ (((Rose.val v62).1.2.2.2.2.2.1).length : Int))) (chk (lenB ((((Rose.val v62).1.2.2.2.2.2.1).length : Int)).toNat) ((iterN (qdr self_ref13_machine_do n) n (l1,i4,(0 : Int),m0,((Rose.val v62).1.1,((Rose.val v62).1.2.1,((Rose.val v62).1.2.2.1,((Rose.val v62).1.2.2.2.1,((Rose.val v62).1.2.2.2.2.1,((Rose.val v62).1.2.2.2.2.2.1,((Rose.kids v62),()))))))),(List.replicate ((((Rose.val v62).1.2.2.2.2.2.1).length : Int)).toNat (0 : Int)),())).bind (Sum.elim (fun d63 =>
(idx d63.2.2.1.2.2.1 d63.2.2.2.1.2.1).bind fun v64 =>
(idx d63.2.2.1.2.1 d63.2.2.2.1.2.2.2.1).bind fun v65 =>
(qdn n d63.2.2.1.1 v65 d63.2.2.2.2.1).bind fun r66 =>
(qde n d63.2.2.1.1 d63.2.2.2.1.2.2.1 r66.1).bind fun r67 =>
(qdi n d63.2.2.1.1 v64 r67.1).bind fun r68 =>
(idx d63.2.2.1.2.2.1 d63.2.2.2.1.2.1).bind fun v69 =>
some (.inl (d63.1,d63.2.1,(d63.2.2.1.1,(d63.2.2.1.2.1,((List.set d63.2.2.1.2.2.1 (d63.2.2.2.1.2.1).toNat r68.1),d63.2.2.1.2.2.2))),()))) nof)))))
else
(bif (decide ((Rose.val v62).1.1 = (1 : Int))) then
((idx m0.2.2.1 (Rose.val v62).1.2.1).bind fun v70 =>
(qde n m0.1 v70 (Rose.val v62).1.2.2.1).bind fun r71 =>
(idx m0.2.2.1 (Rose.val v62).1.2.1).bind fun v72 =>
some (.inl (l1,i4,(m0.1,(m0.2.1,((List.set m0.2.2.1 ((Rose.val v62).1.2.1).toNat r71.1),m0.2.2.2))),())))
else
(bif (decide ((Rose.val v62).1.1 = (2 : Int))) then
((iterN (qdp self_ref13_machine_do n) n (l1,i4,(0 : Int),m0,((Rose.val v62).1.1,((Rose.val v62).1.2.1,((Rose.val v62).1.2.2.1,((Rose.val v62).1.2.2.2.1,((Rose.val v62).1.2.2.2.2.1,((Rose.val v62).1.2.2.2.2.2.1,((Rose.kids v62),()))))))),())).bind (Sum.elim (fun d73 =>
some (.inl (d73.1,d73.2.1,d73.2.2.1,()))) nof))
else
(some (.inl (l1,i4,m0,()))))) : Option (qT34 ⊕ Empty)).bind (Sum.elim (fun d74 =>
some (.inl (d74.1,(IntKind.i64.wrap (d74.2.1 + (1 : Int))),d74.2.2.1,()))) nof))
else
(some (.inr (.inl (m0,()))))
noncomputable def qdt (self_ref13_machine_do : qT0 → qT4 → Option qT26) (n : Nat) (d : qT34) : Option (qT34 ⊕ ((qT4 × Unit) ⊕ Empty)) := qds self_ref13_machine_do n d.1 d.2.1 d.2.2.1
noncomputable def qdu (self_ref13_machine_do : qT0 → qT4 → Option qT26) (n : Nat) (l1 : qT0) (mo0 : qT4) : Option qT26 :=
(iterN (qdt self_ref13_machine_do n) n (l1,(0 : Int),mo0,())).bind (Sum.elim (fun d75 =>
some ((),(d75.1,()))) nof)
noncomputable def qdv : Nat → qT0 → qT4 → Option qT26
  | 0 => fun _ _ => none
  | n + 1 => qdu (qdv n) n
/-! "commodatum/commodatumref13.Run" -/
noncomputable def qdw (n : Nat) (p0 : qT3) (regs1 : (List Int)) (inputs2 : (List Int)) : Option ((List Int) × Unit) :=
(qcj n p0.1).bind fun r2 =>
chk (lenB ((([] : (List Int))).length + (regs1).length)) ((qdv n p0.2.2.2.2.1 (r2.1,(p0.2.2.2.1,((([] : (List Int)) ++ regs1),(inputs2,()))))).bind fun r4 =>
some (r4.2.1.2.2.1,()))
/-! "commodatum/commodatumlaw13.Equal" -/
noncomputable def qdx (n : Nat) (a0 : (List Int)) (b1 : (List Int)) (i5 : Int) : Option (qT21 ⊕ qT12) :=
bif (decide (i5 < (a0.length : Int))) then
((idx a0 i5).bind fun v7 =>
(idx b1 i5).bind fun v8 =>
bif (!decide (v7 = v8)) then
(some (.inr (.inl (false,()))))
else
(some (.inl (a0,b1,(IntKind.i64.wrap (i5 + (1 : Int))),()))))
else
(some (.inr (.inr (.inl (())))))
noncomputable def qdy (n : Nat) (d : qT21) : Option (qT21 ⊕ qT12) := qdx n d.1 d.2.1 d.2.2.1
noncomputable def qdz (n : Nat) (a0 : (List Int)) (b1 : (List Int)) : Option (Bool × Unit) :=
bif (!decide ((a0.length : Int) = (b1.length : Int))) then
(some (false,()))
else
((iterN (qdy n) n (a0,b1,(0 : Int),())).bind (Sum.elim (fun d12 =>
some (d12.1,())) (Sum.elim (fun d11 =>
some (true,())) nof)))
/-! "commodatum/commodatumlaw14.Awake" -/
noncomputable def qd0 (n : Nat)  : Option (Bool × Unit) :=
(qag n (0 : Int)).bind fun r4 =>
(qag n (1 : Int)).bind fun r5 =>
(qbt n (Rose.node (((3 : Int),((0 : Int),())),()) [r4.1,r5.1]) ((2 : Int),((1 : Int),())) (2 : Int)).bind fun r6 =>
(qag n (0 : Int)).bind fun r9 =>
(qb2 n r9.1 ((2 : Int),((1 : Int),())) (1 : Int)).bind fun r10 =>
(bif (!decide (r6.2.1 = (0 : Int))) then
(some (.inl (true,r6.1,r10.1,())))
else
(bif (!decide (r10.2.1 = (0 : Int))) then
(some (.inl (true,r6.1,r10.1,())))
else
((qc6 n r6.1).bind fun r20 =>
bif (!r20.1) then
(some (.inl (true,r6.1,r10.1,())))
else
((qc6 n r10.1).bind fun r21 =>
bif (!r21.1) then
(some (.inl (true,r6.1,r10.1,())))
else
(bif (!decide (r6.1.2.1 = (3 : Int))) then
(some (.inl (true,r6.1,r10.1,())))
else
(bif (!decide (r10.1.2.1 = (3 : Int))) then
(some (.inl (true,r6.1,r10.1,())))
else
(bif (!decide (r6.1.2.2.1 = (2 : Int))) then
(some (.inl (true,r6.1,r10.1,())))
else
(bif (!decide (r10.1.2.2.1 = (1 : Int))) then
(some (.inl (true,r6.1,r10.1,())))
else
((qdb n r6.1).bind fun r22 =>
bif (decide ((4 : Int) < r22.1)) then
(some (.inl (true,r6.1,r10.1,())))
else
((qdb n r10.1).bind fun r23 =>
some (.inl ((decide ((4 : Int) < r23.1)),r6.1,r10.1,()))))))))))) : Option ((Bool × qT3 × qT3 × Unit) ⊕ Empty)).bind (Sum.elim (fun d24 =>
bif d24.1 then
(some (false,()))
else
((qdw n d24.2.1 ([(0 : Int),(1 : Int),(1 : Int)]) ([(1 : Int),(1 : Int)])).bind fun r25 =>
(qdz n r25.1 ([(1 : Int),(1 : Int),(1 : Int)])).bind fun r26 =>
bif r26.1 then
((qdw n d24.2.2.1 ([(0 : Int),(1 : Int),(0 : Int)]) ([(1 : Int)])).bind fun r27 =>
(qdz n r27.1 ([(1 : Int),(1 : Int),(0 : Int)])).bind fun r28 =>
some (r28.1,()))
else
(some (false,())))) nof)
/-! "commodatum/commodatumref05.Count" -/
noncomputable def qd1 (self_ref05_Count : qT9 → Int → Option qT1) (n : Nat) (most1 : Int) (f2 : qT2) (n6 : Int) (d7 : Int) (i8 : Int) : Option ((Int × qT2 × Int × Int × Int × Unit) ⊕ (qT13 ⊕ Empty)) :=
(bif (decide (i8 < (f2.2.2.1.length : Int))) then
(some (.inl (most1,f2,n6,d7,i8,(decide (n6 ≤ (20000 : Int))),())))
else
(some (.inl (most1,f2,n6,d7,i8,false,()))) : Option ((Int × qT2 × Int × Int × Int × Bool × Unit) ⊕ Empty)).bind (Sum.elim (fun d9 =>
bif d9.2.2.2.2.2.1 then
((idx d9.2.1.2.2.1 d9.2.2.2.2.1).bind fun v10 =>
(self_ref05_Count v10 (IntKind.i64.wrap (d9.1 - (1 : Int)))).bind fun r11 =>
some (.inl (d9.1,d9.2.1,(IntKind.i64.wrap (d9.2.2.1 + r11.1)),(if r11.2.1 > d9.2.2.2.1 then r11.2.1 else d9.2.2.2.1),(IntKind.i64.wrap (d9.2.2.2.2.1 + (1 : Int))),())))
else
(some (.inr (.inl (d9.2.2.1,d9.2.2.2.1,()))))) nof)
noncomputable def qd2 (self_ref05_Count : qT9 → Int → Option qT1) (n : Nat) (d : (Int × qT2 × Int × Int × Int × Unit)) : Option ((Int × qT2 × Int × Int × Int × Unit) ⊕ (qT13 ⊕ Empty)) := qd1 self_ref05_Count n d.1 d.2.1 d.2.2.1 d.2.2.2.1 d.2.2.2.2.1
noncomputable def qd3 (self_ref05_Count : qT9 → Int → Option qT1) (n : Nat) (f0 : qT9) (most1 : Int) : Option qT1 :=
(bif (decide ((1 : Int) < most1)) then
((iterN (qd2 self_ref05_Count n) n (most1,((Rose.val f0).1.1,((Rose.val f0).1.2.1,((Rose.kids f0),()))),(1 : Int),(0 : Int),(0 : Int),())).bind (Sum.elim (fun d13 =>
some (.inl (d13.1,d13.2.1,()))) nof))
else
(bif (decide ((0 : Int) < (((Rose.kids f0)).length : Int))) then
(some (.inl ((1 : Int),(1 : Int),())))
else
(some (.inl ((1 : Int),(0 : Int),())))) : Option (qT13 ⊕ Empty)).bind (Sum.elim (fun d14 =>
some (d14.1,((IntKind.i64.wrap (d14.2.1 + (1 : Int))),()))) nof)
noncomputable def qd4 : Nat → qT9 → Int → Option qT1
  | 0 => fun _ _ => none
  | n + 1 => qd3 (qd4 n) n
/-! "commodatum/commodatumref05.Shape" -/
noncomputable def qd5 (n : Nat) (kind0 : Int) (n1 : Int) (kids2 : Int) (inputs3 : Int) : Option (Bool × Unit) :=
bif (decide (kind0 = (0 : Int))) then
(bif (decide ((0 : Int) ≤ n1)) then
(bif (decide (n1 < inputs3)) then
(some ((decide (kids2 = (0 : Int))),()))
else
(some (false,())))
else
(some (false,())))
else
(bif (decide (kind0 = (1 : Int))) then
(bif (decide (n1 = (0 : Int))) then
(some ((decide (kids2 = (0 : Int))),()))
else
(bif (decide (n1 = (1 : Int))) then
(some ((decide (kids2 = (0 : Int))),()))
else
(some (false,()))))
else
(bif (decide (kind0 = (2 : Int))) then
(bif (decide (n1 = (0 : Int))) then
(some ((decide (kids2 = (1 : Int))),()))
else
(some (false,())))
else
((bif (decide (kind0 = (3 : Int))) then
(some (.inl (n1,kids2,true,())))
else
(bif (decide (kind0 = (4 : Int))) then
(some (.inl (n1,kids2,true,())))
else
(some (.inl (n1,kids2,(decide (kind0 = (5 : Int))),())))) : Option ((Int × Int × Bool × Unit) ⊕ Empty)).bind (Sum.elim (fun d2 =>
bif d2.2.2.1 then
(bif (decide (d2.1 = (0 : Int))) then
(some ((decide (d2.2.1 = (2 : Int))),()))
else
(some (false,())))
else
(some (false,()))) nof))))
/-! "commodatum/commodatumref05.shape" -/
noncomputable def qd6 (self_ref05_shape : qT9 → Option (Bool × Unit)) (n : Nat) (f1 : qT2) (i3 : Int) : Option ((qT2 × Int × Unit) ⊕ ((Bool × Unit) ⊕ ((qT2 × Unit) ⊕ Empty))) :=
bif (decide (i3 < (f1.2.2.1.length : Int))) then
((idx f1.2.2.1 i3).bind fun v7 =>
(self_ref05_shape v7).bind fun r8 =>
bif (!r8.1) then
(some (.inr (.inl (false,()))))
else
(some (.inl (f1,(IntKind.i64.wrap (i3 + (1 : Int))),()))))
else
(some (.inr (.inr (.inl (f1,())))))
noncomputable def qd7 (self_ref05_shape : qT9 → Option (Bool × Unit)) (n : Nat) (d : (qT2 × Int × Unit)) : Option ((qT2 × Int × Unit) ⊕ ((Bool × Unit) ⊕ ((qT2 × Unit) ⊕ Empty))) := qd6 self_ref05_shape n d.1 d.2.1
noncomputable def qd8 (self_ref05_shape : qT9 → Option (Bool × Unit)) (n : Nat) (f0 : qT9) : Option (Bool × Unit) :=
(iterN (qd7 self_ref05_shape n) n (((Rose.val f0).1.1,((Rose.val f0).1.2.1,((Rose.kids f0),()))),(0 : Int),())).bind (Sum.elim (fun d13 =>
some (d13.1,())) (Sum.elim (fun d11 =>
(qd5 n d11.1.1 d11.1.2.1 (d11.1.2.2.1.length : Int) (16 : Int)).bind fun r12 =>
some (r12.1,())) nof))
noncomputable def qd9 : Nat → qT9 → Option (Bool × Unit)
  | 0 => fun _ => none
  | n + 1 => qd8 (qd9 n) n
/-! "commodatum/commodatumref05.Valid" -/
noncomputable def qea (n : Nat) (f0 : qT9) : Option (Bool × Unit) :=
(qd4 n (Rose.node (((Rose.val f0).1.1,((Rose.val f0).1.2.1,())),()) (Rose.kids f0)) (1001 : Int)).bind fun r2 =>
bif (decide (r2.1 ≤ (20000 : Int))) then
(bif (decide (r2.2.1 ≤ (1000 : Int))) then
((qd9 n (Rose.node (((Rose.val f0).1.1,((Rose.val f0).1.2.1,())),()) (Rose.kids f0))).bind fun r3 =>
some (r3.1,()))
else
(some (false,())))
else
(some (false,()))
/-! "commodatum/commodatumref05.Inputs" -/
noncomputable def qeb (self_ref05_Inputs : qT9 → Option (Int × Unit)) (n : Nat) (f1 : qT2) (n3 : Int) (i4 : Int) : Option (qT22 ⊕ qT11) :=
bif (decide (i4 < (f1.2.2.1.length : Int))) then
((idx f1.2.2.1 i4).bind fun v6 =>
(self_ref05_Inputs v6).bind fun r7 =>
some (.inl (f1,(if r7.1 > n3 then r7.1 else n3),(IntKind.i64.wrap (i4 + (1 : Int))),())))
else
(some (.inr (.inl (n3,()))))
noncomputable def qec (self_ref05_Inputs : qT9 → Option (Int × Unit)) (n : Nat) (d : qT22) : Option (qT22 ⊕ qT11) := qeb self_ref05_Inputs n d.1 d.2.1 d.2.2.1
noncomputable def qed (self_ref05_Inputs : qT9 → Option (Int × Unit)) (n : Nat) (f0 : qT9) : Option (Int × Unit) :=
(bif (decide ((Rose.val f0).1.1 = (0 : Int))) then
(some (.inl (((Rose.val f0).1.1,((Rose.val f0).1.2.1,((Rose.kids f0),()))),(IntKind.i64.wrap ((Rose.val f0).1.2.1 + (1 : Int))),())))
else
(some (.inl (((Rose.val f0).1.1,((Rose.val f0).1.2.1,((Rose.kids f0),()))),(0 : Int),()))) : Option ((qT2 × Int × Unit) ⊕ Empty)).bind (Sum.elim (fun d1 =>
(iterN (qec self_ref05_Inputs n) n (d1.1,d1.2.1,(0 : Int),())).bind (Sum.elim (fun d9 =>
some (d9.1,())) nof)) nof)
noncomputable def qee : Nat → qT9 → Option (Int × Unit)
  | 0 => fun _ => none
  | n + 1 => qed (qee n) n
/-! "commodatum/commodatumlaw09.CopyFormula" -/
noncomputable def qef (self_law09_CopyFormula : qT9 → Option (qT9 × Unit)) (n : Nat) (f1 : qT2) (i4 : Int) (t2 : qT2) (out3 : qT2) : Option ((qT2 × Int × qT2 × qT2 × Unit) ⊕ ((qT2 × qT2 × Unit) ⊕ Empty)) :=
bif (decide (i4 < (f1.2.2.1.length : Int))) then
((idx f1.2.2.1 i4).bind fun v5 =>
(self_law09_CopyFormula v5).bind fun r6 =>
chk (lenB ((out3.2.2.1).length + ([r6.1]).length)) (chk (sameP [.el (0),.f2,.f2,.f1] [.el (0),.f2,.f2,.f1]) (some (.inl (f1,(IntKind.i64.wrap (i4 + (1 : Int))),t2,(out3.1,(out3.2.1,((out3.2.2.1 ++ [r6.1]),out3.2.2.2))),())))))
else
(some (.inr (.inl (t2,out3,()))))
noncomputable def qeg (self_law09_CopyFormula : qT9 → Option (qT9 × Unit)) (n : Nat) (d : (qT2 × Int × qT2 × qT2 × Unit)) : Option ((qT2 × Int × qT2 × qT2 × Unit) ⊕ ((qT2 × qT2 × Unit) ⊕ Empty)) := qef self_law09_CopyFormula n d.1 d.2.1 d.2.2.1 d.2.2.2.1
noncomputable def qeh (self_law09_CopyFormula : qT9 → Option (qT9 × Unit)) (n : Nat) (f0 : qT9) : Option (qT9 × Unit) :=
(iterN (qeg self_law09_CopyFormula n) n (((Rose.val f0).1.1,((Rose.val f0).1.2.1,((Rose.kids f0),()))),(0 : Int),((0 : Int),((0 : Int),(([] : (List qT9)),()))),((Rose.val f0).1.1,((Rose.val f0).1.2.1,(([] : (List qT9)),()))),())).bind (Sum.elim (fun d8 =>
some ((Rose.node ((d8.2.1.1,(d8.2.1.2.1,())),()) d8.2.1.2.2.1),())) nof)
noncomputable def qei : Nat → qT9 → Option (qT9 × Unit)
  | 0 => fun _ => none
  | n + 1 => qeh (qei n) n
/-! "commodatum/formula.node" -/
noncomputable def qej (n : Nat) (f0 : qT9) : Option (Bool × Unit) :=
bif (decide ((Rose.val f0).1.1 = (0 : Int))) then
(bif (decide ((0 : Int) ≤ (Rose.val f0).1.2.1)) then
(bif (decide ((Rose.val f0).1.2.1 < (16 : Int))) then
(some ((decide ((((Rose.kids f0)).length : Int) = (0 : Int))),()))
else
(some (false,())))
else
(some (false,())))
else
(bif (decide ((Rose.val f0).1.1 = (1 : Int))) then
(bif (decide ((Rose.val f0).1.2.1 = (0 : Int))) then
(some ((decide ((((Rose.kids f0)).length : Int) = (0 : Int))),()))
else
(bif (decide ((Rose.val f0).1.2.1 = (1 : Int))) then
(some ((decide ((((Rose.kids f0)).length : Int) = (0 : Int))),()))
else
(some (false,()))))
else
(bif (decide ((Rose.val f0).1.1 = (2 : Int))) then
(bif (decide ((Rose.val f0).1.2.1 = (0 : Int))) then
(some ((decide ((((Rose.kids f0)).length : Int) = (1 : Int))),()))
else
(some (false,())))
else
((bif (decide ((Rose.val f0).1.1 = (3 : Int))) then
(some (.inl (((Rose.val f0).1.1,((Rose.val f0).1.2.1,((Rose.kids f0),()))),true,())))
else
(bif (decide ((Rose.val f0).1.1 = (4 : Int))) then
(some (.inl (((Rose.val f0).1.1,((Rose.val f0).1.2.1,((Rose.kids f0),()))),true,())))
else
(some (.inl (((Rose.val f0).1.1,((Rose.val f0).1.2.1,((Rose.kids f0),()))),(decide ((Rose.val f0).1.1 = (5 : Int))),())))) : Option ((qT2 × Bool × Unit) ⊕ Empty)).bind (Sum.elim (fun d2 =>
bif d2.2.1 then
(bif (decide (d2.1.2.1 = (0 : Int))) then
(some ((decide ((d2.1.2.2.1.length : Int) = (2 : Int))),()))
else
(some (false,())))
else
(some (false,()))) nof))))
/-! "(*commodatum/formula.shape).walk" -/
noncomputable def qek (self_formula_shape_walk : qT9 → Int → (Int × qT7) → Option qT14) (n : Nat) (level2 : Int) (f4 : qT2) (depth8 : Int) (t60 : (List qT9)) (t61 : Int) (t62 : Int) (s0 : (Int × qT7)) : Option qT24 :=
bif (decide (t62 < t61)) then
((idx t60 t62).bind fun v14 =>
(self_formula_shape_walk (Rose.node (((Rose.val v14).1.1,((Rose.val v14).1.2.1,())),()) (Rose.kids v14)) (IntKind.i64.wrap (level2 + (1 : Int))) s0).bind fun r15 =>
bif (!r15.1.2.1) then
(some (.inr (.inl ((0 : Int),false,r15.2.1,()))))
else
(some (.inl (level2,f4,(if r15.1.1 > depth8 then r15.1.1 else depth8),t60,t61,(IntKind.i64.wrap (t62 + (1 : Int))),r15.2.1,()))))
else
(some (.inr (.inr (.inl (f4,depth8,s0,())))))
noncomputable def qel (self_formula_shape_walk : qT9 → Int → (Int × qT7) → Option qT14) (n : Nat) (d : (Int × qT2 × Int × (List qT9) × Int × Int × (Int × qT7) × Unit)) : Option qT24 := qek self_formula_shape_walk n d.1 d.2.1 d.2.2.1 d.2.2.2.1 d.2.2.2.2.1 d.2.2.2.2.2.1 d.2.2.2.2.2.2.1
noncomputable def qem (self_formula_shape_walk : qT9 → Int → (Int × qT7) → Option qT14) (n : Nat) (f1 : qT9) (level2 : Int) (so0 : (Int × qT7)) : Option qT14 :=
(bif (decide ((20000 : Int) < ((IntKind.i64.wrap (so0.1 + (1 : Int))),so0.2).1)) then
(some (.inl (level2,((Rose.val f1).1.1,((Rose.val f1).1.2.1,((Rose.kids f1),()))),true,((IntKind.i64.wrap (so0.1 + (1 : Int))),so0.2),())))
else
(bif (decide ((1000 : Int) < level2)) then
(some (.inl (level2,((Rose.val f1).1.1,((Rose.val f1).1.2.1,((Rose.kids f1),()))),true,((IntKind.i64.wrap (so0.1 + (1 : Int))),so0.2),())))
else
((qej n (Rose.node (((Rose.val f1).1.1,((Rose.val f1).1.2.1,())),()) (Rose.kids f1))).bind fun r4 =>
some (.inl (level2,((Rose.val f1).1.1,((Rose.val f1).1.2.1,((Rose.kids f1),()))),(!r4.1),((IntKind.i64.wrap (so0.1 + (1 : Int))),so0.2),())))) : Option ((Int × qT2 × Bool × (Int × qT7) × Unit) ⊕ Empty)).bind (Sum.elim (fun d5 =>
bif d5.2.2.1 then
(some (((0 : Int),(false,())),(d5.2.2.2.1,())))
else
(bif (decide ((d5.2.1.2.2.1.length : Int) = (0 : Int))) then
((bif (decide (d5.2.1.1 = (0 : Int))) then
(some (.inl (((d5.2.2.2.1.1,((IntKind.i64.wrap (d5.2.2.2.1.2.1 + (1 : Int))),d5.2.2.2.1.2.2)).1,((d5.2.2.2.1.1,((IntKind.i64.wrap (d5.2.2.2.1.2.1 + (1 : Int))),d5.2.2.2.1.2.2)).2.1,((d5.2.2.2.1.1,((IntKind.i64.wrap (d5.2.2.2.1.2.1 + (1 : Int))),d5.2.2.2.1.2.2)).2.2.1,((if (IntKind.i64.wrap (d5.2.1.2.1 + (1 : Int))) > (d5.2.2.2.1.1,((IntKind.i64.wrap (d5.2.2.2.1.2.1 + (1 : Int))),d5.2.2.2.1.2.2)).2.2.2.1 then (IntKind.i64.wrap (d5.2.1.2.1 + (1 : Int))) else (d5.2.2.2.1.1,((IntKind.i64.wrap (d5.2.2.2.1.2.1 + (1 : Int))),d5.2.2.2.1.2.2)).2.2.2.1),(d5.2.2.2.1.1,((IntKind.i64.wrap (d5.2.2.2.1.2.1 + (1 : Int))),d5.2.2.2.1.2.2)).2.2.2.2)))),())))
else
(some (.inl ((d5.2.2.2.1.1,((IntKind.i64.wrap (d5.2.2.2.1.2.1 + (1 : Int))),d5.2.2.2.1.2.2)),()))) : Option (((Int × qT7) × Unit) ⊕ Empty)).bind (Sum.elim (fun d7 =>
some (((0 : Int),(true,())),(d7.1,()))) nof))
else
((iterN (qel self_formula_shape_walk n) n (d5.1,d5.2.1,(0 : Int),d5.2.1.2.2.1,(d5.2.1.2.2.1.length : Int),(0 : Int),d5.2.2.2.1,())).bind (Sum.elim (fun d22 =>
some ((d22.1,(d22.2.1,())),(d22.2.2.1,()))) (Sum.elim (fun d18 =>
((some [] : (Option (List (Int × Int))))).bind fun l19 =>
((some (mput (.int .i64) l19 (3 : Int) (1 : Int)))).bind fun l20 =>
((some (mput (.int .i64) l20 (4 : Int) (1 : Int)))).bind fun l21 =>
some (((IntKind.i64.wrap (d18.2.1 + ((((some (mput (.int .i64) l21 (5 : Int) (2 : Int)))).bind fun l => mget (.int .i64) l d18.1.1).getD (0 : Int)))),(true,())),(d18.2.2.1,()))) nof))))) nof)
noncomputable def qen : Nat → qT9 → Int → (Int × qT7) → Option qT14
  | 0 => fun _ _ _ => none
  | n + 1 => qem (qen n) n
/-! "commodatum/formula.of" -/
noncomputable def qeo (n : Nat) (f0 : qT9) : Option ((Int × qT7) × (Bool × Unit)) :=
(qen n (Rose.node (((Rose.val f0).1.1,((Rose.val f0).1.2.1,())),()) (Rose.kids f0)) (1 : Int) ((0 : Int),((0 : Int),((0 : Int),((0 : Int),((0 : Int),())))))).bind fun r2 =>
some ((r2.2.1.1,(r2.2.1.2.1,(r2.1.1,r2.2.1.2.2.2))),(r2.1.2.1,()))
/-! "commodatum/formula.Valid" -/
noncomputable def qep (n : Nat) (f0 : qT9) : Option (Bool × Unit) :=
(qeo n (Rose.node (((Rose.val f0).1.1,((Rose.val f0).1.2.1,())),()) (Rose.kids f0))).bind fun r2 =>
some (r2.2.1,())
/-! "commodatum/formula.Inputs$1" -/
noncomputable def qeq (n : Nat) (s0 : (Int × qT7)) : Option (Int × Unit) :=
some (s0.2.2.2.1,())
/-! "commodatum/formula.measure" -/
noncomputable def qer (n : Nat) (f0 : qT9) : Option (Int × Unit) :=
(qeo n (Rose.node (((Rose.val f0).1.1,((Rose.val f0).1.2.1,())),()) (Rose.kids f0))).bind fun r2 =>
bif (!r2.2.1) then
(some ((-1 : Int),()))
else
((qeq n r2.1).bind fun r3 =>
some (r3.1,()))
/-! "commodatum/formula.Inputs" -/
noncomputable def qes (n : Nat) (f0 : qT9) : Option (Int × Unit) :=
(qer n (Rose.node (((Rose.val f0).1.1,((Rose.val f0).1.2.1,())),()) (Rose.kids f0))).bind fun r1 =>
some (r1.1,())
/-! "(*commodatum/three.maker).boolean$1$1" -/
noncomputable def qet (self_three_maker_boolean_1_1 : Int → Int → Int → qT2 → Int → qT8 → Option qT5) (self_three_maker_product__three_maker_boolean_1_1__three_maker_boolean_1_1 : Int → Int → Int → qT15 → qT15 → qT8 → Option qT5) (self_three_maker_boolean : qT9 → Bool → Int → Int → qT8 → Option qT5) (n : Nat) (to0 : Int) (from1 : Int) (c2 : Int) (x4 : qT2) (x5 : Int) (co0 : qT8) : Option qT5 :=
(idx x4.2.2.1 x5).bind fun v1 =>
(self_three_maker_boolean v1 (decide (x4.1 = (4 : Int))) to0 from1 co0).bind (Sum.elim (fun _ =>
some (.inl ())) (fun r2 =>
some (.inr ((),(r2.2.1,())))))
/-! "(*commodatum/three.maker).product" -/
noncomputable def qeu (self_three_maker_boolean_1_1 : Int → Int → Int → qT2 → Int → qT8 → Option qT5) (self_three_maker_product__three_maker_boolean_1_1__three_maker_boolean_1_1 : Int → Int → Int → qT15 → qT15 → qT8 → Option qT5) (self_three_maker_boolean : qT9 → Bool → Int → Int → qT8 → Option qT5) (n : Nat) (to1 : Int) (from2 : Int) (c3 : Int) (a4 : qT15) (b5 : qT15) (ko0 : qT8) : Option qT5 :=
(self_three_maker_boolean_1_1 (IntKind.i64.wrap ((IntKind.i64.wrap ((3 : Int) - to1)) - from2)) from2 (1 : Int) a4.2.1 a4.2.2.1 ko0).bind (Sum.elim (fun _ =>
some (.inl ())) (fun r2 =>
(self_three_maker_boolean_1_1 to1 (IntKind.i64.wrap ((IntKind.i64.wrap ((3 : Int) - to1)) - from2)) c3 b5.2.1 b5.2.2.1 r2.2.1).bind (Sum.elim (fun _ =>
some (.inl ())) (fun r4 =>
(qbc n r4.2.1 (1 : Int)).bind fun r7 =>
(self_three_maker_boolean_1_1 (IntKind.i64.wrap ((IntKind.i64.wrap ((3 : Int) - to1)) - from2)) from2 r7.1 a4.2.1 a4.2.2.1 r4.2.1).bind (Sum.elim (fun _ =>
some (.inl ())) (fun r8 =>
(qbc n r8.2.1 c3).bind fun r9 =>
(self_three_maker_boolean_1_1 to1 (IntKind.i64.wrap ((IntKind.i64.wrap ((3 : Int) - to1)) - from2)) r9.1 b5.2.1 b5.2.2.1 r8.2.1).bind (Sum.elim (fun _ =>
some (.inl ())) (fun r10 =>
some (.inr ((),(r10.2.1,())))))))))))
/-! "(*commodatum/three.maker).boolean" -/
noncomputable def qev (self_three_maker_boolean_1_1 : Int → Int → Int → qT2 → Int → qT8 → Option qT5) (self_three_maker_product__three_maker_boolean_1_1__three_maker_boolean_1_1 : Int → Int → Int → qT15 → qT15 → qT8 → Option qT5) (self_three_maker_boolean : qT9 → Bool → Int → Int → qT8 → Option qT5) (n : Nat) (f1 : qT9) (neg2 : Bool) (to3 : Int) (from4 : Int) (ko0 : qT8) : Option qT5 :=
(bif (decide ((Rose.val f1).1.1 = (1 : Int))) then
(bif (!((decide ((Rose.val f1).1.2.1 = (1 : Int))) == neg2)) then
((qau n from4).bind fun r16 =>
(qav n to3 (1 : Int) (0 : Int) [r16.1] ko0).bind (Sum.elim (fun _ =>
some (.inl (()))) (fun r17 =>
some (.inr (.inl (r17.2.1,()))))))
else
(some (.inr (.inl (ko0,())))))
else
(bif (decide ((Rose.val f1).1.1 = (2 : Int))) then
((idx (Rose.kids f1) (0 : Int)).bind fun v18 =>
(self_three_maker_boolean v18 (!neg2) to3 from4 ko0).bind (Sum.elim (fun _ =>
some (.inl (()))) (fun r19 =>
some (.inr (.inl (r19.2.1,()))))))
else
(bif (decide ((Rose.val f1).1.1 = (0 : Int))) then
((qau n from4).bind fun r20 =>
(qav n to3 (1 : Int) (1 : Int) ([r20.1,(true,((Rose.val f1).1.2.1,()))]) ko0).bind (Sum.elim (fun _ =>
some (.inl (()))) (fun r21 =>
some (.inr (.inr (.inl (neg2,to3,from4,(),r21.2.1,())))))))
else
(bif (decide ((Rose.val f1).1.1 = (5 : Int))) then
((idx (Rose.kids f1) (0 : Int)).bind fun v22 =>
(self_three_maker_boolean v22 false to3 from4 ko0).bind (Sum.elim (fun _ =>
some (.inl (()))) (fun r23 =>
(idx (Rose.kids f1) (1 : Int)).bind fun v24 =>
(self_three_maker_boolean v24 false to3 from4 r23.2.1).bind (Sum.elim (fun _ =>
some (.inl (()))) (fun r25 =>
some (.inr (.inr (.inl (neg2,to3,from4,(),r25.2.1,())))))))))
else
((bif (decide ((Rose.val f1).1.1 = (3 : Int))) then
(some (.inl (neg2,to3,from4,(),((Rose.val f1).1.1,((Rose.val f1).1.2.1,((Rose.kids f1),()))),true,ko0,())))
else
(some (.inl (neg2,to3,from4,(),((Rose.val f1).1.1,((Rose.val f1).1.2.1,((Rose.kids f1),()))),(decide ((Rose.val f1).1.1 = (4 : Int))),ko0,()))) : Option ((Bool × Int × Int × Unit × qT2 × Bool × qT8 × Unit) ⊕ Empty)).bind (Sum.elim (fun d26 =>
bif d26.2.2.2.2.2.1 then
((self_three_maker_product__three_maker_boolean_1_1__three_maker_boolean_1_1 d26.2.1 d26.2.2.1 (1 : Int) ((),(d26.2.2.2.2.1,((0 : Int),()))) ((),(d26.2.2.2.2.1,((1 : Int),()))) d26.2.2.2.2.2.2.1).bind (Sum.elim (fun _ =>
some (.inl (()))) (fun r27 =>
some (.inr (.inr (.inl ((!(d26.1 == (decide (d26.2.2.2.2.1.1 = (4 : Int))))),d26.2.1,d26.2.2.1,(),r27.2.1,())))))))
else
(some (.inr (.inr (.inl (d26.1,d26.2.1,d26.2.2.1,(),d26.2.2.2.2.2.2.1,())))))) nof))))) : Option ((Unit) ⊕ ((qT8 × Unit) ⊕ ((Bool × Int × Int × Unit × qT8 × Unit) ⊕ Empty)))).bind (Sum.elim (fun d32 =>
some (.inl ())) (Sum.elim (fun d31 =>
some (.inr ((),(d31.1,())))) (Sum.elim (fun d28 =>
bif d28.1 then
((qau n d28.2.2.1).bind fun r29 =>
(qav n d28.2.1 (1 : Int) (0 : Int) [r29.1] d28.2.2.2.2.1).bind (Sum.elim (fun _ =>
some (.inl ())) (fun r30 =>
some (.inr ((),(r30.2.1,()))))))
else
(some (.inr ((),(d28.2.2.2.2.1,()))))) nof)))
noncomputable def qew : Nat → (Int → Int → Int → qT2 → Int → qT8 → Option qT5) × (Int → Int → Int → qT15 → qT15 → qT8 → Option qT5) × (qT9 → Bool → Int → Int → qT8 → Option qT5)
  | 0 => ((fun _ _ _ _ _ _ => none),(fun _ _ _ _ _ _ => none),(fun _ _ _ _ _ => none))
  | n + 1 => (qet (qew n).1 (qew n).2.1 (qew n).2.2 n,qeu (qew n).1 (qew n).2.1 (qew n).2.2 n,qev (qew n).1 (qew n).2.1 (qew n).2.2 n)
noncomputable def qex (n : Nat) : Int → Int → Int → qT2 → Int → qT8 → Option qT5 := (qew n).1
noncomputable def qey (n : Nat) : Int → Int → Int → qT15 → qT15 → qT8 → Option qT5 := (qew n).2.1
noncomputable def qez (n : Nat) : qT9 → Bool → Int → Int → qT8 → Option qT5 := (qew n).2.2
/-! "commodatum/three.OfFormula$1$1" -/
noncomputable def qe0 (n : Nat) (x0 : Int) (x2 : qT2) (co0 : qT8) : Option qT5 :=
(qez n (Rose.node ((x2.1,(x2.2.1,())),()) x2.2.2.1) false (0 : Int) (1 : Int) co0).bind (Sum.elim (fun _ =>
some (.inl ())) (fun r1 =>
some (.inr ((),(r1.2.1,())))))
/-! "(*commodatum/three.maker).summed" -/
noncomputable def qe1 (n : Nat) (f1 : qT16) (ko0 : qT8) : Option qT5 :=
(qav n (1 : Int) (1 : Int) (2 : Int) ([] : qT18) ko0).bind (Sum.elim (fun _ =>
some (.inl ())) (fun r2 =>
(qe0 n (1 : Int) f1.2.1 r2.2.1).bind (Sum.elim (fun _ =>
some (.inl ())) (fun r4 =>
(qbc n r4.2.1 (1 : Int)).bind fun r7 =>
(qav n (1 : Int) r7.1 (2 : Int) ([] : qT18) r4.2.1).bind (Sum.elim (fun _ =>
some (.inl ())) (fun r8 =>
(qbc n r8.2.1 (1 : Int)).bind fun r9 =>
(qe0 n r9.1 f1.2.1 r8.2.1).bind (Sum.elim (fun _ =>
some (.inl ())) (fun r10 =>
some (.inr ((),(r10.2.1,())))))))))))
/-! "commodatum/three.OfFormula$1" -/
noncomputable def qe2 (n : Nat) (x1 : qT2) (ko0 : qT8) : Option qT5 :=
(qe1 n ((),(x1,())) ko0).bind (Sum.elim (fun _ =>
some (.inl ())) (fun r1 =>
some (.inr ((),(r1.2.1,())))))
/-! "commodatum/three.program$1" -/
noncomputable def qe3 (n : Nat) (xo0 : qT3) (xo1 : Int) : Option qT28 :=
some ((),((((0 : Int),((0 : Int),())),((0 : Int),((0 : Int),(([] : (List qT10)),(([] : qT0),()))))),((5 : Int),())))
/-! "commodatum/three.program$1" -/
noncomputable def qe4 (n : Nat) (xo0 : qT3) (xo1 : Int) : Option qT28 :=
some ((),(xo0,(xo1,())))
/-! "commodatum/three.program" -/
noncomputable def qe5 (n : Nat) (n1 : Int) (f2 : (qT2 × Unit)) (F3 : qT1) (p6 : qT3) (e7 : Int) : Option qT20 :=
(qe2 n f2.1 (F3,(([] : qT0),((200000 : Int),())))).bind (Sum.elim (fun _ =>
((qe3 n (p6) (e7)).map (fun r => r.2)).bind fun r3 =>
some (r3.1,(r3.2.1,()))) (fun r2 =>
(qbn n).bind fun r4 =>
((qe4 n ((F3,((3 : Int),(n1,(r4.1,(r2.2.1.2.1,())))))) ((0 : Int))).map (fun r => r.2)).bind fun r5 =>
some (r5.1,(r5.2.1,()))))
noncomputable def qe6 (n : Nat) (d : qT38) : Option qT20 := qe5 n d.1 d.2.1 d.2.2.1 d.2.2.2.1 d.2.2.2.2.1
noncomputable def qe7 (n : Nat) (F0 : qT1) (n1 : Int) (f2 : (qT2 × Unit)) : Option qT20 :=
qe6 n (n1,(f2.1,()),F0,(((0 : Int),((0 : Int),())),((0 : Int),((0 : Int),(([] : (List qT10)),(([] : qT0),()))))),(0 : Int),())
/-! "commodatum/three.OfFormula" -/
noncomputable def qe8 (n : Nat) (f0 : qT9) (n1 : Int) : Option qT20 :=
(qep n (Rose.node (((Rose.val f0).1.1,((Rose.val f0).1.2.1,())),()) (Rose.kids f0))).bind fun r6 =>
bif (!r6.1) then
(some ((((0 : Int),((0 : Int),())),((0 : Int),((0 : Int),(([] : (List qT10)),(([] : qT0),()))))),((1 : Int),())))
else
((bif (decide (n1 < (0 : Int))) then
(some (.inl (n1,((Rose.val f0).1.1,((Rose.val f0).1.2.1,((Rose.kids f0),()))),true,(((0 : Int),((0 : Int),())),((0 : Int),((0 : Int),(([] : (List qT10)),(([] : qT0),()))))),())))
else
(bif (decide ((16 : Int) < n1)) then
(some (.inl (n1,((Rose.val f0).1.1,((Rose.val f0).1.2.1,((Rose.kids f0),()))),true,(((0 : Int),((0 : Int),())),((0 : Int),((0 : Int),(([] : (List qT10)),(([] : qT0),()))))),())))
else
((qes n (Rose.node (((Rose.val f0).1.1,((Rose.val f0).1.2.1,())),()) (Rose.kids f0))).bind fun r7 =>
some (.inl (n1,((Rose.val f0).1.1,((Rose.val f0).1.2.1,((Rose.kids f0),()))),(decide (n1 < r7.1)),(((0 : Int),((0 : Int),())),((0 : Int),((0 : Int),(([] : (List qT10)),(([] : qT0),()))))),())))) : Option ((Int × qT2 × Bool × qT3 × Unit) ⊕ Empty)).bind (Sum.elim (fun d8 =>
bif d8.2.2.1 then
(some ((((0 : Int),((0 : Int),())),((0 : Int),((0 : Int),(([] : (List qT10)),(([] : qT0),()))))),((2 : Int),())))
else
((qe7 n ((2 : Int),((1 : Int),())) d8.1 (d8.2.1,())).bind fun r9 =>
some (r9.1,(r9.2.1,())))) nof))
/-! "commodatum/commodatumlaw14.none" -/
noncomputable def qe9 (n : Nat) (p0 : qT3) : Option (Bool × Unit) :=
bif (decide (p0.1.1 = (0 : Int)) && (decide (p0.1.2.1 = (0 : Int)) && true)) then
(bif (decide (p0.2.1 = (0 : Int))) then
(bif (decide (p0.2.2.1 = (0 : Int))) then
(bif (decide ((p0.2.2.2.1.length : Int) = (0 : Int))) then
(some ((decide ((p0.2.2.2.2.1.length : Int) = (0 : Int))),()))
else
(some (false,())))
else
(some (false,())))
else
(some (false,())))
else
(some (false,()))
/-! "commodatum/commodatumref05.Cost" -/
noncomputable def qfa (n : Nat) (kind0 : Int) : Option (Int × Unit) :=
(bif (decide (kind0 = (3 : Int))) then
(some (.inl (kind0,true,())))
else
(some (.inl (kind0,(decide (kind0 = (4 : Int))),()))) : Option ((Int × Bool × Unit) ⊕ Empty)).bind (Sum.elim (fun d2 =>
bif d2.2.1 then
(some ((1 : Int),()))
else
(bif (decide (d2.1 = (5 : Int))) then
(some ((2 : Int),()))
else
(some ((0 : Int),())))) nof)
/-! "commodatum/commodatumref05.Depth" -/
noncomputable def qfb (self_ref05_Depth : qT9 → Option (Int × Unit)) (n : Nat) (f1 : qT2) (d3 : Int) (i4 : Int) : Option (qT22 ⊕ ((qT2 × Int × Unit) ⊕ Empty)) :=
bif (decide (i4 < (f1.2.2.1.length : Int))) then
((idx f1.2.2.1 i4).bind fun v5 =>
(self_ref05_Depth v5).bind fun r6 =>
some (.inl (f1,(if r6.1 > d3 then r6.1 else d3),(IntKind.i64.wrap (i4 + (1 : Int))),())))
else
(some (.inr (.inl (f1,d3,()))))
noncomputable def qfc (self_ref05_Depth : qT9 → Option (Int × Unit)) (n : Nat) (d : qT22) : Option (qT22 ⊕ ((qT2 × Int × Unit) ⊕ Empty)) := qfb self_ref05_Depth n d.1 d.2.1 d.2.2.1
noncomputable def qfd (self_ref05_Depth : qT9 → Option (Int × Unit)) (n : Nat) (f0 : qT9) : Option (Int × Unit) :=
(iterN (qfc self_ref05_Depth n) n (((Rose.val f0).1.1,((Rose.val f0).1.2.1,((Rose.kids f0),()))),(0 : Int),(0 : Int),())).bind (Sum.elim (fun d8 =>
(qfa n d8.1.1).bind fun r9 =>
some ((IntKind.i64.wrap (d8.2.1 + r9.1)),())) nof)
noncomputable def qfe : Nat → qT9 → Option (Int × Unit)
  | 0 => fun _ => none
  | n + 1 => qfd (qfe n) n
/-! "commodatum/commodatumref14.Power" -/
noncomputable def qff (n : Nat) (d0 : Int) (out3 : Int) : Option (qT13 ⊕ qT11) :=
(bif (decide ((0 : Int) < d0)) then
(some (.inl (d0,out3,(decide (out3 ≤ (1099511627776 : Int))),())))
else
(some (.inl (d0,out3,false,()))) : Option ((Int × Int × Bool × Unit) ⊕ Empty)).bind (Sum.elim (fun d3 =>
bif d3.2.2.1 then
(some (.inl ((IntKind.i64.wrap (d3.1 - (1 : Int))),(IntKind.i64.wrap (d3.2.1 * (4 : Int))),())))
else
(some (.inr (.inl (d3.2.1,()))))) nof)
noncomputable def qfg (n : Nat) (d : qT13) : Option (qT13 ⊕ qT11) := qff n d.1 d.2.1
noncomputable def qfh (n : Nat) (d0 : Int) : Option (Int × Unit) :=
(iterN (qfg n) n (d0,(1 : Int),())).bind (Sum.elim (fun d5 =>
some (d5.1,())) nof)
/-! "commodatum/commodatumlaw14.form" -/
noncomputable def qfi (n : Nat) (p0 : qT3) (f1 : qT1) (n2 : Int) (steps3 : Int) : Option (Bool × Unit) :=
(qc6 n p0).bind fun r1 =>
bif r1.1 then
(bif (decide (p0.1.1 = f1.1) && (decide (p0.1.2.1 = f1.2.1) && true)) then
(bif (decide (p0.2.1 = (3 : Int))) then
(bif (decide (p0.2.2.1 = n2)) then
((qdb n p0).bind fun r2 =>
some ((decide (r2.1 ≤ steps3)),()))
else
(some (false,())))
else
(some (false,())))
else
(some (false,())))
else
(some (false,()))
/-! "commodatum/commodatumref05.Size" -/
noncomputable def qfj (self_ref05_Size : qT9 → Option (Int × Unit)) (n : Nat) (f1 : qT2) (n3 : Int) (i4 : Int) : Option (qT22 ⊕ qT11) :=
bif (decide (i4 < (f1.2.2.1.length : Int))) then
((idx f1.2.2.1 i4).bind fun v5 =>
(self_ref05_Size v5).bind fun r6 =>
some (.inl (f1,(IntKind.i64.wrap (n3 + r6.1)),(IntKind.i64.wrap (i4 + (1 : Int))),())))
else
(some (.inr (.inl (n3,()))))
noncomputable def qfk (self_ref05_Size : qT9 → Option (Int × Unit)) (n : Nat) (d : qT22) : Option (qT22 ⊕ qT11) := qfj self_ref05_Size n d.1 d.2.1 d.2.2.1
noncomputable def qfl (self_ref05_Size : qT9 → Option (Int × Unit)) (n : Nat) (f0 : qT9) : Option (Int × Unit) :=
bif (decide ((((Rose.kids f0)).length : Int) = (0 : Int))) then
(some ((1 : Int),()))
else
((iterN (qfk self_ref05_Size n) n (((Rose.val f0).1.1,((Rose.val f0).1.2.1,((Rose.kids f0),()))),(0 : Int),(0 : Int),())).bind (Sum.elim (fun d8 =>
some (d8.1,())) nof))
noncomputable def qfm : Nat → qT9 → Option (Int × Unit)
  | 0 => fun _ => none
  | n + 1 => qfl (qfm n) n
/-! "commodatum/commodatumref09.Bits" -/
noncomputable def qfn (n : Nat) (i0 : Int) (n1 : Int) (k6 : Int) (out5 : (List Bool)) : Option ((Int × Int × Int × (List Bool) × Unit) ⊕ (((List Bool) × Unit) ⊕ Empty)) :=
bif (decide (k6 < n1)) then
(bif decide (k6 < 0) then none else
(idx out5 k6).bind fun v3 =>
some (.inl (i0,n1,(IntKind.i64.wrap (k6 + (1 : Int))),(List.set out5 (k6).toNat (decide ((IntKind.i64.wrap ((BitVec.ofInt IntKind.i64.bits (Int.fdiv i0 (2 ^ (min (k6).toNat IntKind.i64.bits))) &&& BitVec.ofInt IntKind.i64.bits (1 : Int)).toNat)) = (1 : Int)))),())))
else
(some (.inr (.inl (out5,()))))
noncomputable def qfo (n : Nat) (d : (Int × Int × Int × (List Bool) × Unit)) : Option ((Int × Int × Int × (List Bool) × Unit) ⊕ (((List Bool) × Unit) ⊕ Empty)) := qfn n d.1 d.2.1 d.2.2.1 d.2.2.2.1
noncomputable def qfp (n : Nat) (i0 : Int) (n1 : Int) : Option ((List Bool) × Unit) :=
chk (decide (0 ≤ n1)) (chk (decide (n1 ≤ n1)) (chk (lenB (n1).toNat) ((iterN (qfo n) n (i0,n1,(0 : Int),(List.replicate (n1).toNat false),())).bind (Sum.elim (fun d5 =>
some (d5.1,())) nof))))
/-! "commodatum/commodatumref12.Bits" -/
noncomputable def qfq (n : Nat) (i0 : Int) (n1 : Int) : Option ((List Bool) × Unit) :=
(qfp n i0 n1).bind fun r1 =>
some (r1.1,())
/-! "commodatum/commodatumref05.Apply" -/
noncomputable def qfr (n : Nat) (kind0 : Int) (a1 : Bool) (b2 : Bool) : Option (Bool × Unit) :=
bif (decide (kind0 = (2 : Int))) then
(some ((!a1),()))
else
(bif (decide (kind0 = (3 : Int))) then
(bif a1 then
(some (b2,()))
else
(some (false,())))
else
(bif (decide (kind0 = (4 : Int))) then
(bif a1 then
(some (true,()))
else
(some (b2,())))
else
(some ((!(a1 == b2)),()))))
/-! "commodatum/commodatumref05.Eval" -/
noncomputable def qfs (self_ref05_Eval : qT9 → (List Bool) → Option (Bool × Unit)) (n : Nat) (f0 : qT9) (x1 : (List Bool)) : Option (Bool × Unit) :=
bif (decide ((Rose.val f0).1.1 = (0 : Int))) then
((idx x1 (Rose.val f0).1.2.1).bind fun v4 =>
some (v4,()))
else
(bif (decide ((Rose.val f0).1.1 = (1 : Int))) then
(some ((decide ((Rose.val f0).1.2.1 = (1 : Int))),()))
else
(bif (decide ((Rose.val f0).1.1 = (2 : Int))) then
((idx (Rose.kids f0) (0 : Int)).bind fun v5 =>
(self_ref05_Eval v5 x1).bind fun r6 =>
some ((!r6.1),()))
else
((idx (Rose.kids f0) (0 : Int)).bind fun v7 =>
(self_ref05_Eval v7 x1).bind fun r8 =>
(idx (Rose.kids f0) (1 : Int)).bind fun v9 =>
(self_ref05_Eval v9 x1).bind fun r10 =>
(qfr n (Rose.val f0).1.1 r8.1 r10.1).bind fun r11 =>
some (r11.1,()))))
noncomputable def qft : Nat → qT9 → (List Bool) → Option (Bool × Unit)
  | 0 => fun _ _ => none
  | n + 1 => qfs (qft n) n
/-! "commodatum/commodatumlaw14.ThreeFormulas" -/
noncomputable def qfu (n : Nat) (n1 : Int) (at2 : (List Int)) (f3 : qT2) (all12 : Bool) (many13 : Int) (i14 : Int) (bits16 : (List Bool)) (j18 : Int) (p8 : qT3) (numbers17 : (List Int)) : Option qT37 :=
bif (decide (j18 < (IntKind.i64.wrap (n1 + (3 : Int))))) then
(((idx bits16 j18).bind fun v56 =>
bif v56 then
((idx numbers17 j18).bind fun v57 =>
some (.inl (n1,at2,f3,all12,many13,i14,bits16,j18,p8,(List.set numbers17 (j18).toNat (1 : Int)),())))
else
(some (.inl (n1,at2,f3,all12,many13,i14,bits16,j18,p8,numbers17,()))) : Option (qT17 ⊕ Empty)).bind (Sum.elim (fun d58 =>
some (.inl (d58.1,d58.2.1,d58.2.2.1,d58.2.2.2.1,d58.2.2.2.2.1,d58.2.2.2.2.2.1,d58.2.2.2.2.2.2.1,(IntKind.i64.wrap (d58.2.2.2.2.2.2.2.1 + (1 : Int))),d58.2.2.2.2.2.2.2.2.1,d58.2.2.2.2.2.2.2.2.2.1,()))) nof))
else
(some (.inr (.inl (n1,at2,f3,all12,many13,i14,bits16,p8,numbers17,()))))
noncomputable def qfv (n : Nat) (d : qT17) : Option qT37 := qfu n d.1 d.2.1 d.2.2.1 d.2.2.2.1 d.2.2.2.2.1 d.2.2.2.2.2.1 d.2.2.2.2.2.2.1 d.2.2.2.2.2.2.2.1 d.2.2.2.2.2.2.2.2.1 d.2.2.2.2.2.2.2.2.2.1
noncomputable def qfw (n : Nat) (n1 : Int) (at2 : (List Int)) (f3 : qT2) (all12 : Bool) (many13 : Int) (i14 : Int) (p8 : qT3) : Option (qT32 ⊕ qT12) :=
bif (decide (i14 < many13)) then
((bif (!all12) then
((idx at2 i14).bind fun v83 =>
some (.inl (n1,at2,f3,all12,many13,i14,v83,p8,())))
else
(some (.inl (n1,at2,f3,all12,many13,i14,i14,p8,()))) : Option ((Int × (List Int) × qT2 × Bool × Int × Int × Int × qT3 × Unit) ⊕ Empty)).bind (Sum.elim (fun d84 =>
(qfq n d84.2.2.2.2.2.2.1 (IntKind.i64.wrap (d84.1 + (3 : Int)))).bind fun r85 =>
chk (decide (0 ≤ (IntKind.i64.wrap (d84.1 + (3 : Int))))) (chk (decide ((IntKind.i64.wrap (d84.1 + (3 : Int))) ≤ (IntKind.i64.wrap (d84.1 + (3 : Int))))) (chk (lenB ((IntKind.i64.wrap (d84.1 + (3 : Int)))).toNat) ((iterN (qfv n) n (d84.1,d84.2.1,d84.2.2.1,d84.2.2.2.1,d84.2.2.2.2.1,d84.2.2.2.2.2.1,r85.1,(0 : Int),d84.2.2.2.2.2.2.2.1,(List.replicate ((IntKind.i64.wrap (d84.1 + (3 : Int)))).toNat (0 : Int)),())).bind (Sum.elim (fun d86 =>
chk (decide (0 ≤ d86.1)) (chk (decide (d86.1 ≤ (d86.2.2.2.2.2.2.2.2.1.length : Int))) (chk (decide ((d86.2.2.2.2.2.2.2.2.1.length : Int) ≤ (d86.2.2.2.2.2.2.2.2.1.length : Int))) (chk (lenB ((([] : (List Int))).length + ((subs d86.2.2.2.2.2.2.2.2.1 (d86.1).toNat ((d86.2.2.2.2.2.2.2.2.1.length : Int)).toNat)).length)) ((chk (decide (0 ≤ (0 : Int))) (chk (decide ((0 : Int) ≤ d86.1)) (chk (decide (d86.1 ≤ (d86.2.2.2.2.2.2.1.length : Int))) ((qft n (Rose.node ((d86.2.2.1.1,(d86.2.2.1.2.1,())),()) d86.2.2.1.2.2.1) (subs d86.2.2.2.2.2.2.1 0 (d86.1).toNat)).bind fun r87 =>
bif r87.1 then
((idx (([] : (List Int)) ++ (subs d86.2.2.2.2.2.2.2.2.1 (d86.1).toNat ((d86.2.2.2.2.2.2.2.2.1.length : Int)).toNat)) (0 : Int)).bind fun v88 =>
(idx (([] : (List Int)) ++ (subs d86.2.2.2.2.2.2.2.2.1 (d86.1).toNat ((d86.2.2.2.2.2.2.2.2.1.length : Int)).toNat)) (0 : Int)).bind fun v89 =>
some (.inl (d86.1,d86.2.1,d86.2.2.1,d86.2.2.2.1,d86.2.2.2.2.1,d86.2.2.2.2.2.1,d86.2.2.2.2.2.2.2.1,d86.2.2.2.2.2.2.2.2.1,(List.set (([] : (List Int)) ++ (subs d86.2.2.2.2.2.2.2.2.1 (d86.1).toNat ((d86.2.2.2.2.2.2.2.2.1.length : Int)).toNat)) 0 (IntKind.i64.wrap ((1 : Int) - v88))),())))
else
(some (.inl (d86.1,d86.2.1,d86.2.2.1,d86.2.2.2.1,d86.2.2.2.2.1,d86.2.2.2.2.2.1,d86.2.2.2.2.2.2.2.1,d86.2.2.2.2.2.2.2.2.1,(([] : (List Int)) ++ (subs d86.2.2.2.2.2.2.2.2.1 (d86.1).toNat ((d86.2.2.2.2.2.2.2.2.1.length : Int)).toNat)),())))))) : Option ((Int × (List Int) × qT2 × Bool × Int × Int × qT3 × (List Int) × (List Int) × Unit) ⊕ Empty)).bind (Sum.elim (fun d90 =>
chk (decide (0 ≤ d90.1)) (chk (decide (d90.1 ≤ (d90.2.2.2.2.2.2.2.1.length : Int))) (chk (decide ((d90.2.2.2.2.2.2.2.1.length : Int) ≤ (d90.2.2.2.2.2.2.2.1.length : Int))) (chk (decide (0 ≤ (0 : Int))) (chk (decide ((0 : Int) ≤ d90.1)) (chk (decide (d90.1 ≤ (d90.2.2.2.2.2.2.2.1.length : Int))) ((qdw n d90.2.2.2.2.2.2.1 (subs d90.2.2.2.2.2.2.2.1 (d90.1).toNat ((d90.2.2.2.2.2.2.2.1.length : Int)).toNat) (subs d90.2.2.2.2.2.2.2.1 0 (d90.1).toNat)).bind fun r91 =>
(qdz n r91.1 d90.2.2.2.2.2.2.2.2.1).bind fun r92 =>
bif (!r92.1) then
(some (.inr (.inl (false,()))))
else
(some (.inl (d90.1,d90.2.1,d90.2.2.1,d90.2.2.2.1,d90.2.2.2.2.1,(IntKind.i64.wrap (d90.2.2.2.2.2.1 + (1 : Int))),d90.2.2.2.2.2.2.1,())))))))))) nof)))))) nof))))) nof))
else
(some (.inr (.inr (.inl (())))))
noncomputable def qfx (n : Nat) (d : qT32) : Option (qT32 ⊕ qT12) := qfw n d.1 d.2.1 d.2.2.1 d.2.2.2.1 d.2.2.2.2.1 d.2.2.2.2.2.1 d.2.2.2.2.2.2.1
noncomputable def qfy (n : Nat) (f0 : qT9) (n1 : Int) (at2 : (List Int)) : Option (Bool × Unit) :=
((qaf n (Rose.node (((Rose.val f0).1.1,((Rose.val f0).1.2.1,())),()) (Rose.kids f0))).bind fun r5 =>
bif r5.1 then
(some (.inl (n1,at2,((Rose.val f0).1.1,((Rose.val f0).1.2.1,((Rose.kids f0),()))),true,())))
else
(some (.inl (n1,at2,((Rose.val f0).1.1,((Rose.val f0).1.2.1,((Rose.kids f0),()))),(decide ((100 : Int) < (at2.length : Int))),()))) : Option ((Int × (List Int) × qT2 × Bool × Unit) ⊕ Empty)).bind (Sum.elim (fun d6 =>
bif d6.2.2.2.1 then
((qd0 n).bind fun r7 =>
some (r7.1,()))
else
(((qea n (Rose.node ((d6.2.2.1.1,(d6.2.2.1.2.1,())),()) d6.2.2.1.2.2.1)).bind fun r13 =>
bif (!r13.1) then
(some (.inl (d6.1,d6.2.1,d6.2.2.1,(1 : Int),())))
else
((bif (decide (d6.1 < (0 : Int))) then
(some (.inl (d6.1,d6.2.1,d6.2.2.1,(0 : Int),true,())))
else
(bif (decide ((16 : Int) < d6.1)) then
(some (.inl (d6.1,d6.2.1,d6.2.2.1,(0 : Int),true,())))
else
((qee n (Rose.node ((d6.2.2.1.1,(d6.2.2.1.2.1,())),()) d6.2.2.1.2.2.1)).bind fun r14 =>
some (.inl (d6.1,d6.2.1,d6.2.2.1,(0 : Int),(decide (d6.1 < r14.1)),())))) : Option ((Int × (List Int) × qT2 × Int × Bool × Unit) ⊕ Empty)).bind (Sum.elim (fun d15 =>
bif d15.2.2.2.2.1 then
(some (.inl (d15.1,d15.2.1,d15.2.2.1,(2 : Int),())))
else
(some (.inl (d15.1,d15.2.1,d15.2.2.1,d15.2.2.2.1,())))) nof)) : Option ((Int × (List Int) × qT2 × Int × Unit) ⊕ Empty)).bind (Sum.elim (fun d16 =>
(qei n (Rose.node ((d16.2.2.1.1,(d16.2.2.1.2.1,())),()) d16.2.2.1.2.2.1)).bind fun r19 =>
(qe8 n r19.1 d16.1).bind fun r20 =>
bif (!decide (d16.2.2.2.1 = (0 : Int))) then
(bif (decide (r20.2.1 = d16.2.2.2.1)) then
((qe9 n r20.1).bind fun r23 =>
bif r23.1 then
((qd0 n).bind fun r24 =>
some (r24.1,()))
else
(some (false,())))
else
(some (false,())))
else
((qfe n (Rose.node ((d16.2.2.1.1,(d16.2.2.1.2.1,())),()) d16.2.2.1.2.2.1)).bind fun r27 =>
(qfh n r27.1).bind fun r28 =>
bif (decide (r20.2.1 = (5 : Int))) then
(bif (decide ((200000 : Int) < (IntKind.i64.wrap ((10 : Int) * r28.1)))) then
((qe9 n r20.1).bind fun r31 =>
bif r31.1 then
((qd0 n).bind fun r32 =>
some (r32.1,()))
else
(some (false,())))
else
(some (false,())))
else
((bif (!decide (r20.2.1 = (0 : Int))) then
(some (.inl (d16.1,d16.2.1,d16.2.2.1,true,r20.1,())))
else
((qfi n r20.1 ((2 : Int),((1 : Int),())) d16.1 (IntKind.i64.wrap ((10 : Int) * r28.1))).bind fun r36 =>
some (.inl (d16.1,d16.2.1,d16.2.2.1,(!r36.1),r20.1,()))) : Option ((Int × (List Int) × qT2 × Bool × qT3 × Unit) ⊕ Empty)).bind (Sum.elim (fun d37 =>
bif d37.2.2.2.1 then
(some (false,()))
else
((qdb n d37.2.2.2.2.1).bind fun r39 =>
bif (decide ((200000 : Int) < r39.1)) then
((qd0 n).bind fun r41 =>
some (r41.1,()))
else
(bif decide (d37.1 < 0) then none else
(qfm n (Rose.node ((d37.2.2.1.1,(d37.2.2.1.2.1,())),()) d37.2.2.1.2.2.1)).bind fun r43 =>
(bif (decide ((IntKind.i64.wrap ((IntKind.i64.wrap ((8 : Int) * 2 ^ (min (d37.1).toNat IntKind.i64.bits))) * (IntKind.i64.wrap ((IntKind.i64.wrap ((1 : Int) + r39.1)) + (IntKind.i64.wrap ((2 : Int) * r43.1)))))) ≤ (400000 : Int))) then
(bif decide (d37.1 < 0) then none else
some (.inl (d37.1,d37.2.1,d37.2.2.1,(decide ((IntKind.i64.wrap ((IntKind.i64.wrap ((8 : Int) * 2 ^ (min (d37.1).toNat IntKind.i64.bits))) * (IntKind.i64.wrap ((IntKind.i64.wrap ((1 : Int) + r39.1)) + (IntKind.i64.wrap ((2 : Int) * r43.1)))))) ≤ (400000 : Int))),(IntKind.i64.wrap ((8 : Int) * 2 ^ (min (d37.1).toNat IntKind.i64.bits))),d37.2.2.2.2.1,())))
else
(some (.inl (d37.1,d37.2.1,d37.2.2.1,(decide ((IntKind.i64.wrap ((IntKind.i64.wrap ((8 : Int) * 2 ^ (min (d37.1).toNat IntKind.i64.bits))) * (IntKind.i64.wrap ((IntKind.i64.wrap ((1 : Int) + r39.1)) + (IntKind.i64.wrap ((2 : Int) * r43.1)))))) ≤ (400000 : Int))),(if (8 : Int) < (d37.2.1.length : Int) then (8 : Int) else (d37.2.1.length : Int)),d37.2.2.2.2.1,()))) : Option ((Int × (List Int) × qT2 × Bool × Int × qT3 × Unit) ⊕ Empty)).bind (Sum.elim (fun d44 =>
(iterN (qfx n) n (d44.1,d44.2.1,d44.2.2.1,d44.2.2.2.1,d44.2.2.2.2.1,(0 : Int),d44.2.2.2.2.2.1,())).bind (Sum.elim (fun d97 =>
some (d97.1,())) (Sum.elim (fun d95 =>
(qd0 n).bind fun r96 =>
some (r96.1,())) nof))) nof)))) nof)))) nof))) nof)
end Go.Proofs.Ytjgfhbmgfhfplaa.V
