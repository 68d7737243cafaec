import Derived.Test.YtkokhfodjhlnlaaVc
namespace Go.Proofs.Ytkokhfodjhlnlaa.V
open Go
set_option linter.unusedVariables false
set_option linter.all false
abbrev qT0:Type:=(List (Rose ((Int × (Int × (Int × (Int × (Int × ((List (Bool × (Int × Unit))) × Unit)))))) × Unit)))
abbrev qT1:Type:=(List (Int × ((List Int) × Unit)))
abbrev qT2:Type:=((Int × (Int × Unit)) × (Int × (Int × (Int × (((Int × (Int × Unit)) × (Int × (Int × ((List qT1) × (qT0 × Unit))))) × ((Option (Option Bool)) × Unit))))))
abbrev qT3:Type:=(Int × (Int × (Int × (Int × Unit))))
abbrev qT4:Type:=((Int × (Int × Unit)) × (Int × (Int × ((List qT1) × (qT0 × Unit)))))
abbrev qT5:Type:=(qT3 × ((List qT1) × ((List Int) × ((List Int) × Unit))))
abbrev qT6:Type:=(Int × (Int × (Int × (Int × (Int × ((List (Bool × (Int × Unit))) × (qT0 × Unit)))))))
abbrev qT7:Type:=(Int × Unit × Int × Int × qT1 × Unit)
abbrev qT8:Type:=(Int × Int × Unit × Int × Int × qT1 × Unit)
abbrev qT9:Type:=(Int × (Int × Unit))
abbrev qT10:Type:=(List (Bool × (Int × Unit)))
abbrev qT11:Type:=((Int × Unit) ⊕ Empty)
abbrev qT12:Type:=(Int × Int × Int × (List Int) × Int × Int × Int × Int × qT1 × Int × Int × Int × Int × qT1 × (List Int) × (Int × ((List Int) × Unit)) × Unit)
abbrev qT13:Type:=((Bool × Unit) ⊕ ((Unit) ⊕ Empty))
abbrev qT14:Type:=(Int × Int × Int × (List Int) × Int × Int × Int × qT1 × Int × Int × qT1 × (List Int) × Unit)
abbrev qT15:Type:=((qT1 × Unit) ⊕ Empty)
abbrev qT16:Type:=(Int × Int × Unit)
abbrev qT17:Type:=(Int × Int × Int × Int × (Option Bool) × Int × Int × Int × Int × Int × Int × Int × Int × qT2 × qT10 × Unit)
abbrev qT18:Type:=((Int × Unit × Int × Int × Bool × qT1 × Unit) ⊕ Empty)
abbrev qT19:Type:=(Int × Int × Int × Int × (Option Bool) × Int × Int × qT2 × Unit)
abbrev qT20:Type:=(Int × Int × Unit × Int × qT1 × Unit)
abbrev qT21:Type:=(Int × Int × Unit × Int × Int × Int × qT1 × Unit)
abbrev qT22:Type:=(Int × Int × qT3 × Int × Unit)
abbrev qT23:Type:=(qT7 ⊕ (qT7 ⊕ Empty))
abbrev qT24:Type:=((Int × Int × Int × Int × Int × qT1 × (List Int) × Unit) ⊕ Empty)
abbrev qT25:Type:=(Unit × (qT1 × Unit))
abbrev qT26:Type:=((Int × Int × Int × Int × Int × Int × Int × Int × Int × Int × qT1 × (List Int) × Unit) ⊕ ((Int × Int × Int × Int × Int × Int × Int × Int × Int × qT1 × (List Int) × Unit) ⊕ Empty))
abbrev qT27:Type:=((List Int) × (List Int) × Int × Unit)
abbrev qT28:Type:=(Int × Int × Int × Int × (Option Bool) × Int × Int × Int × Int × Int × qT2 × Unit)
abbrev qT29:Type:=(qT1 × (List Int) × qT3 × Int × Int × Int × Int × Unit)
abbrev qT30:Type:=(Int × Int × qT1 × Unit)
abbrev qT31:Type:=(Int × Int × Int × Int × Int × Int × Int × Int × qT1 × (List Int) × Unit)
abbrev qT32:Type:=(qT0 × Int × Int × qT5 × qT6 × (List Int) × Unit)
abbrev qT33:Type:=(Unit × Int × Int × Int × qT1 × Unit)
abbrev qT34:Type:=(Unit × (qT5 × Unit))
abbrev qT35:Type:=((List Int) × Unit)
abbrev qT36:Type:=((List Int) × qT0 × qT4 × qT3 × Int × Unit)
abbrev qT37:Type:=(((List Int) × (List Int) × (List Int) × Int × Int × Unit) ⊕ ((Int × Unit) ⊕ (((List Int) × (List Int) × Unit) ⊕ Empty)))
abbrev qT38:Type:=((Int × Int × Unit × Int × Int × Bool × qT1 × Unit) ⊕ Empty)
abbrev qT39:Type:=(qT17 ⊕ ((Int × Int × Int × Int × (Option Bool) × Int × Int × Int × Int × Int × Int × qT2 × qT10 × Unit) ⊕ Empty))
abbrev qT40:Type:=(qT1 × qT3 × Int × Int × Unit)
abbrev qT41:Type:=(Int × Int × Int × (List Int) × Int × Int × qT1 × Unit)
abbrev qT42:Type:=(qT0 × Int × qT5 × Unit)
abbrev qT43:Type:=(Unit × (qT2 × Unit))
abbrev qT44:Type:=(qT0 × Int × Int × Int × Int × Unit)
abbrev qT45:Type:=((qT4 × Int × qT3 × (List Int) × Unit) ⊕ ((Bool × Unit) ⊕ ((qT4 × qT3 × (List Int) × Unit) ⊕ Empty)))
abbrev qT46:Type:=(Int × Int × Int × Unit × Bool × Bool × qT1 × Unit)
abbrev qT47:Type:=((Int × Unit) ⊕ qT11)
abbrev qT48:Type:=((Int × Int × Int × Int × Bool × Unit) ⊕ Empty)
abbrev qT49:Type:=((qT1 × qT1 × Int × Int × Unit) ⊕ ((Bool × Unit) ⊕ ((qT1 × qT1 × Int × Unit) ⊕ Empty)))
abbrev qT50:Type:=(Unit × Int × Int × Int × Int × qT1 × Unit)
noncomputable def qaa (n:Nat) (n0:Int) (d3:Int):Option (qT16 ⊕ ((Bool × Unit) ⊕ qT11)) :=
bif (decide ((IntKind.i64.wrap (d3*d3))≤n0)) then
(bif decide (d3=0) then none else
bif (decide ((Int.tmod n0 d3)=(0:Int))) then
(some (.inr (.inl (false,()))))
else
(some (.inl (n0,(IntKind.i64.wrap (d3+(1:Int))),()))))
else
(some (.inr (.inr (.inl (n0,())))))
noncomputable def qab (n:Nat) (d:qT16):Option (qT16 ⊕ ((Bool × Unit) ⊕ qT11)):=qaa n d.1 d.2.1
noncomputable def qac (n:Nat) (n0:Int):Option (Bool × Unit) :=
(iterN (qab n) n (n0,(2:Int),())).bind (Sum.elim (fun d4 =>
some (d4.1,())) (Sum.elim (fun d3 =>
some ((decide ((1:Int)<d3.1)),())) nof))
noncomputable def qad (n:Nat) (f0:qT9):Option (Bool × Unit) :=
(bif (decide (f0.1<(2:Int))) then
(some (.inl (f0,true,())))
else
(bif (decide ((65536:Int)<f0.1)) then
(some (.inl (f0,true,())))
else
(bif (decide (f0.2.1<(1:Int))) then
(some (.inl (f0,true,())))
else
(bif (decide ((16:Int)<f0.2.1)) then
(some (.inl (f0,true,())))
else
(bif (decide ((1:Int)<f0.2.1)) then
(some (.inl (f0,(!decide (f0.1=(2:Int))),())))
else
(some (.inl (f0,false,()))))))):Option ((qT9 × Bool × Unit) ⊕ Empty)).bind (Sum.elim (fun d2 =>
bif d2.2.1 then
(some (false,()))
else
((qac n d2.1.1).bind fun r3 =>
some (r3.1,()))) nof)
noncomputable def qae (n:Nat) (F0:qT9) (n1:Int) (k2:Int):Option (Int × Unit) :=
(qad n F0).bind fun r4 =>
bif (!r4.1) then
(some ((1:Int),()))
else
((bif (decide (n1<(1:Int))) then
(some (.inl (true,())))
else
(bif (decide ((21:Int)<n1)) then
(some (.inl (true,())))
else
(bif (decide (k2<(1:Int))) then
(some (.inl (true,())))
else
(some (.inl ((decide ((64:Int)<k2)),()))))):Option ((Bool × Unit) ⊕ Empty)).bind (Sum.elim (fun d5 =>
bif d5.1 then
(some ((2:Int),()))
else
(some ((0:Int),()))) nof))
noncomputable def qaf (n:Nat) (n0:Int) (b3:Int):Option (qT16 ⊕ qT11) :=
bif decide (b3<0) then none else
bif (decide ((IntKind.i64.wrap ((1:Int)*2 ^ (min (b3).toNat IntKind.i64.bits)))<n0)) then
(some (.inl (n0,(IntKind.i64.wrap (b3+(1:Int))),())))
else
(some (.inr (.inl (b3,()))))
noncomputable def qag (n:Nat) (d:qT16):Option (qT16 ⊕ qT11):=qaf n d.1 d.2.1
noncomputable def qah (n:Nat) (n0:Int):Option (Int × Unit) :=
(iterN (qag n) n (n0,(0:Int),())).bind (Sum.elim (fun d2 =>
some (d2.1,())) nof)
noncomputable def qai (n:Nat) (a0:Int) (most2:Int) (p7:Int) (t8:Int) (t9:Int):Option ((Int × Int × Int × Int × Int × Unit) ⊕ qT47) :=
bif (decide (t9<t8)) then
((bif (decide ((1:Int)<a0)) then
(bif decide (a0=0) then none else
some (.inl (a0,most2,p7,t8,t9,(decide ((IntKind.i64.wrap (Int.tdiv most2 a0))<p7)),())))
else
(some (.inl (a0,most2,p7,t8,t9,false,()))):Option ((Int × Int × Int × Int × Int × Bool × Unit) ⊕ Empty)).bind (Sum.elim (fun d4 =>
bif d4.2.2.2.2.2.1 then
(some (.inr (.inl ((IntKind.i64.wrap (d4.2.1+(1:Int))),()))))
else
(some (.inl (d4.1,d4.2.1,(IntKind.i64.wrap (d4.2.2.1*d4.1)),d4.2.2.2.1,(IntKind.i64.wrap (d4.2.2.2.2.1+(1:Int))),())))) nof))
else
(some (.inr (.inr (.inl (p7,())))))
noncomputable def qaj (n:Nat) (d:(Int × Int × Int × Int × Int × Unit)):Option ((Int × Int × Int × Int × Int × Unit) ⊕ qT47):=qai n d.1 d.2.1 d.2.2.1 d.2.2.2.1 d.2.2.2.2.1
noncomputable def qak (n:Nat) (a0:Int) (k1:Int) (most2:Int):Option (Int × Unit) :=
(iterN (qaj n) n (a0,most2,(1:Int),k1,(0:Int),())).bind (Sum.elim (fun d8 =>
some (d8.1,())) (Sum.elim (fun d7 =>
some (d7.1,())) nof))
noncomputable def qal (n:Nat) (n0:Int) (rows1:Int) (k2:Int) (in3:Int):Option (Int × Unit) :=
(bif (decide ((64:Int)<(IntKind.i64.wrap ((IntKind.i64.wrap ((3:Int)*rows1))*n0)))) then
(some (.inl (true,())))
else
(bif (decide ((64:Int)<in3)) then
(some (.inl (true,())))
else
((qah n k2).bind fun r6 =>
(qak n (4:Int) r6.1 (200000:Int)).bind fun r7 =>
some (.inl ((decide ((200000:Int)<(IntKind.i64.wrap ((IntKind.i64.wrap ((IntKind.i64.wrap ((IntKind.i64.wrap ((2:Int)*rows1))*n0))*r7.1))+(IntKind.i64.wrap ((2:Int)*rows1)))))),())))):Option ((Bool × Unit) ⊕ Empty)).bind (Sum.elim (fun d8 =>
bif d8.1 then
(some ((5:Int),()))
else
(some ((0:Int),()))) nof)
noncomputable def qam (n:Nat) (i2:Int) (j3:Int) (s0:qT1):Option (qT30 ⊕ qT15) :=
bif (decide (i2<j3)) then
((idx s0 j3).bind fun v9 =>
(idx s0 i2).bind fun v10 =>
(idx s0 i2).bind fun v11 =>
(idx (List.set s0 (i2).toNat v9) j3).bind fun v12 =>
some (.inl ((IntKind.i64.wrap (i2+(1:Int))),(IntKind.i64.wrap (j3-(1:Int))),(List.set (List.set s0 (i2).toNat v9) (j3).toNat v10),())))
else
(some (.inr (.inl (s0,()))))
noncomputable def qan (n:Nat) (d:qT30):Option (qT30 ⊕ qT15):=qam n d.1 d.2.1 d.2.2.1
noncomputable def qao (n:Nat) (so0:qT1):Option qT25 :=
(iterN (qan n) n ((0:Int),(IntKind.i64.wrap ((so0.length:Int)-(1:Int))),so0,())).bind (Sum.elim (fun d13 =>
some ((),(d13.1,()))) nof)
noncomputable def qap (n:Nat) (n1:Int) (t26:Int) (t27:Int) (k9:qT2) (sum10:qT1):Option ((Int × Int × Int × qT2 × qT1 × Unit) ⊕ ((qT2 × qT1 × Unit) ⊕ Empty)) :=
bif (decide (t27<t26)) then
(chk (decide (0≤(IntKind.i64.wrap ((2:Int)*n1)))) (chk (decide ((IntKind.i64.wrap ((2:Int)*n1))≤(IntKind.i64.wrap ((2:Int)*n1)))) (chk (lenB ((IntKind.i64.wrap ((2:Int)*n1))).toNat) ((idx (List.replicate ((IntKind.i64.wrap ((2:Int)*n1))).toNat (0:Int)) (IntKind.i64.wrap ((2:Int)*t27))).bind fun v7 =>
(idx (List.set (List.replicate ((IntKind.i64.wrap ((2:Int)*n1))).toNat (0:Int)) ((IntKind.i64.wrap ((2:Int)*t27))).toNat (1:Int)) (IntKind.i64.wrap ((IntKind.i64.wrap ((2:Int)*t27))+(1:Int)))).bind fun v8 =>
chk (lenB ((sum10).length+([((1:Int),((List.set (List.set (List.replicate ((IntKind.i64.wrap ((2:Int)*n1))).toNat (0:Int)) ((IntKind.i64.wrap ((2:Int)*t27))).toNat (1:Int)) ((IntKind.i64.wrap ((IntKind.i64.wrap ((2:Int)*t27))+(1:Int)))).toNat (1:Int)),()))]).length)) (some (.inl (n1,t26,(IntKind.i64.wrap (t27+(1:Int))),k9,(sum10++[((1:Int),((List.set (List.set (List.replicate ((IntKind.i64.wrap ((2:Int)*n1))).toNat (0:Int)) ((IntKind.i64.wrap ((2:Int)*t27))).toNat (1:Int)) ((IntKind.i64.wrap ((IntKind.i64.wrap ((2:Int)*t27))+(1:Int)))).toNat (1:Int)),()))]),())))))))
else
(some (.inr (.inl (k9,sum10,()))))
noncomputable def qaq (n:Nat) (d:(Int × Int × Int × qT2 × qT1 × Unit)):Option ((Int × Int × Int × qT2 × qT1 × Unit) ⊕ ((qT2 × qT1 × Unit) ⊕ Empty)):=qap n d.1 d.2.1 d.2.2.1 d.2.2.2.1 d.2.2.2.2.1
noncomputable def qar (n:Nat) (f0:qT9) (n1:Int) (rows2:Int) (inputs3:Int):Option (qT2 × Unit) :=
(iterN (qaq n) n (n1,n1,(0:Int),(f0,(n1,(rows2,((0:Int),((f0,((IntKind.i64.wrap ((IntKind.i64.wrap ((3:Int)*rows2))*n1)),(inputs3,(([]:(List qT1)),(([]:qT0),()))))),((none:(Option (Option Bool))),())))))),([]:qT1),())).bind (Sum.elim (fun d10 =>
(qao n d10.2.1).bind fun r12 =>
some ((d10.1.1,(d10.1.2.1,(d10.1.2.2.1,(d10.1.2.2.2.1,((d10.1.2.2.2.2.1.1,(d10.1.2.2.2.2.1.2.1,(d10.1.2.2.2.2.1.2.2.1,([[((1:Int),(([]:(List Int)),()))],r12.2.1],d10.1.2.2.2.2.1.2.2.2.2)))),d10.1.2.2.2.2.2))))),())) nof)
noncomputable def qas (n:Nat) :Option ((Option (Option Bool)) × Unit) :=
some ((some (some false:Option Bool):(Option (Option Bool))),())
noncomputable def qat (n:Nat) (t8:Int) (t9:Int) (out3:(List Int)):Option ((Int × Int × (List Int) × Unit) ⊕ (qT35 ⊕ Empty)) :=
bif (decide (t9<t8)) then
((idx out3 t9).bind fun v3 =>
some (.inl (t8,(IntKind.i64.wrap (t9+(1:Int))),(List.set out3 (t9).toNat t9),())))
else
(some (.inr (.inl (out3,()))))
noncomputable def qau (n:Nat) (d:(Int × Int × (List Int) × Unit)):Option ((Int × Int × (List Int) × Unit) ⊕ (qT35 ⊕ Empty)):=qat n d.1 d.2.1 d.2.2.1
noncomputable def qav (n:Nat) (n0:Int):Option qT35 :=
chk (decide (0≤n0)) (chk (decide (n0≤n0)) (chk (lenB (n0).toNat) ((iterN (qau n) n ((((List.replicate (n0).toNat (0:Int))).length:Int),(0:Int),(List.replicate (n0).toNat (0:Int)),())).bind (Sum.elim (fun d5 =>
some (d5.1,())) nof))))
noncomputable def qaw (n:Nat) (f0:qT9):Option (Int × Unit) :=
(qad n f0).bind fun r3 =>
bif (!r3.1) then
(some ((0:Int),()))
else
(bif (decide ((1:Int)<f0.2.1)) then
(bif decide (f0.2.1<0) then none else
some ((IntKind.i64.wrap ((1:Int)*2 ^ (min (f0.2.1).toNat IntKind.i64.bits))),()))
else
(some (f0.1,())))
noncomputable def qax (n:Nat) (f2:qT9) (t10:(List Int)) (t11:Int) (t12:Int):Option ((qT9 × (List Int) × Int × Int × Unit) ⊕ ((Int × Unit) ⊕ ((Unit) ⊕ Empty))) :=
bif (decide (t12<t11)) then
((idx t10 t12).bind fun v12 =>
(bif (decide (v12<(0:Int))) then
(some (.inl (f2,t10,t11,t12,true,())))
else
((qaw n f2).bind fun r13 =>
some (.inl (f2,t10,t11,t12,(decide (r13.1≤v12)),()))):Option ((qT9 × (List Int) × Int × Int × Bool × Unit) ⊕ Empty)).bind (Sum.elim (fun d14 =>
bif d14.2.2.2.2.1 then
(some (.inr (.inl ((2:Int),()))))
else
(some (.inl (d14.1,d14.2.1,d14.2.2.1,(IntKind.i64.wrap (d14.2.2.2.1+(1:Int))),())))) nof))
else
(some (.inr (.inr (.inl (())))))
noncomputable def qay (n:Nat) (d:(qT9 × (List Int) × Int × Int × Unit)):Option ((qT9 × (List Int) × Int × Int × Unit) ⊕ ((Int × Unit) ⊕ ((Unit) ⊕ Empty))):=qax n d.1 d.2.1 d.2.2.1 d.2.2.2.1
noncomputable def qaz (n:Nat) (f0:qT9) (l1:(List Int)):Option (Int × Unit) :=
(qad n f0).bind fun r3 =>
bif (!r3.1) then
(some ((1:Int),()))
else
((iterN (qay n) n (f0,l1,(l1.length:Int),(0:Int),())).bind (Sum.elim (fun d18 =>
some (d18.1,())) (Sum.elim (fun d17 =>
some ((0:Int),())) nof)))
noncomputable def qa0 (n:Nat) (degree0:Int):Option (Int × Unit) :=
(idx [(7:Int),(11:Int),(19:Int),(37:Int),(67:Int),(131:Int),(283:Int),(515:Int),(1033:Int),(2053:Int),(4105:Int),(8219:Int),(16417:Int),(32771:Int),(65579:Int)] (IntKind.i64.wrap (degree0-(2:Int)))).bind fun v1 =>
some (v1,())
noncomputable def qa1 (n:Nat) (f0:qT9):Option ((Option ((Int × Unit) ⊕ qT9)) × Unit) :=
bif (decide (f0.2.1=(1:Int))) then
(some ((some (.inl (f0.1,())):(Option ((Int × Unit) ⊕ qT9))),()))
else
((qa0 n f0.2.1).bind fun r1 =>
some ((some (.inr (f0.2.1,(r1.1,()))):(Option ((Int × Unit) ⊕ qT9))),()))
noncomputable def qa2 (n:Nat) (f0:(Int × Unit)) (a1:Int):Option (Int × Unit) :=
bif decide (f0.1=0) then none else
some ((Int.tmod (IntKind.i64.wrap (f0.1-a1)) f0.1),())
noncomputable def qa3 (n:Nat) (f0:(Int × Unit)) (a1:Int) (b2:Int):Option (Int × Unit) :=
bif decide (f0.1=0) then none else
some ((Int.tmod (IntKind.i64.wrap (a1+b2)) f0.1),())
noncomputable def qa4 (n:Nat) (f0:qT9) (a1:Int) (b2:Int):Option (Int × Unit) :=
some ((IntKind.i64.wrap ((BitVec.ofInt IntKind.i64.bits a1 ^^^ BitVec.ofInt IntKind.i64.bits b2).toNat)),())
noncomputable def qa5 (n:Nat) (f0:qT9) (a1:Int):Option (Int × Unit) :=
some (a1,())
noncomputable def qa6 (n:Nat) (f0:qT9) (a1:Int) (b2:Int):Option qT9 :=
(qaz n f0 ([a1,b2])).bind fun r3 =>
bif (!decide (r3.1=(0:Int))) then
(some ((0:Int),(r3.1,())))
else
((qa1 n f0).bind fun r5 =>
(r5.1).bind (Sum.elim (fun u6 =>
(qa2 n u6 b2).bind fun r8 =>
(r5.1).bind fun _ =>
(r5.1).bind (Sum.elim (fun u9 =>
(qa3 n u9 a1 r8.1).bind fun r11 =>
some (r11.1,((0:Int),()))) (fun u10 =>
(qa4 n u10 a1 r8.1).bind fun r12 =>
some (r12.1,((0:Int),()))))) (fun u7 =>
(qa5 n u7 b2).bind fun r13 =>
(r5.1).bind fun _ =>
(r5.1).bind (Sum.elim (fun u14 =>
(qa3 n u14 a1 r13.1).bind fun r16 =>
some (r16.1,((0:Int),()))) (fun u15 =>
(qa4 n u15 a1 r13.1).bind fun r17 =>
some (r17.1,((0:Int),())))))))
noncomputable def qa7 (n:Nat) (k0:qT2) (c1:Int):Option (Int × Unit) :=
(qa6 n k0.1 (0:Int) c1).bind fun r2 =>
some (r2.1,())
noncomputable def qa8 (n:Nat) (k0:qT2) (a1:Int) (row2:Int) (col3:Int):Option (Int × Unit) :=
some ((IntKind.i64.wrap ((IntKind.i64.wrap ((IntKind.i64.wrap ((IntKind.i64.wrap (a1*k0.2.2.1))+row2))*k0.2.1))+col3)),())
noncomputable def qa9 (n:Nat) (to1:Int) (c2:Int) (poly3:Int) (args4:qT10) (ko0:qT2):Option qT43 :=
chk (lenB ((ko0.2.2.2.2.1.2.2.2.2.1).length+([(Rose.node (((0:Int),((0:Int),((0:Int),((0:Int),((0:Int),(([]:qT10),())))))),()) ([]:qT0))]).length)) (chk (sameP [.el (0),.f2,.f2,.f2,.f2,.f1,.f2,.f2,.f2,.f2,.f1] [.el (0),.f2,.f2,.f2,.f2,.f1,.f2,.f2,.f2,.f2,.f1]) ((idx (ko0.1,(ko0.2.1,(ko0.2.2.1,(ko0.2.2.2.1,((ko0.2.2.2.2.1.1,(ko0.2.2.2.2.1.2.1,(ko0.2.2.2.2.1.2.2.1,(ko0.2.2.2.2.1.2.2.2.1,((ko0.2.2.2.2.1.2.2.2.2.1++[(Rose.node (((0:Int),((0:Int),((0:Int),((0:Int),((0:Int),(([]:qT10),())))))),()) ([]:qT0))]),ko0.2.2.2.2.1.2.2.2.2.2))))),ko0.2.2.2.2.2))))).2.2.2.2.1.2.2.2.2.1 (ko0.2.2.2.2.1.2.2.2.2.1.length:Int)).bind fun v1 =>
some ((),(((ko0.1,(ko0.2.1,(ko0.2.2.1,(ko0.2.2.2.1,((ko0.2.2.2.2.1.1,(ko0.2.2.2.2.1.2.1,(ko0.2.2.2.2.1.2.2.1,(ko0.2.2.2.2.1.2.2.2.1,((ko0.2.2.2.2.1.2.2.2.2.1++[(Rose.node (((0:Int),((0:Int),((0:Int),((0:Int),((0:Int),(([]:qT10),())))))),()) ([]:qT0))]),ko0.2.2.2.2.1.2.2.2.2.2))))),ko0.2.2.2.2.2))))).1,((ko0.1,(ko0.2.1,(ko0.2.2.1,(ko0.2.2.2.1,((ko0.2.2.2.2.1.1,(ko0.2.2.2.2.1.2.1,(ko0.2.2.2.2.1.2.2.1,(ko0.2.2.2.2.1.2.2.2.1,((ko0.2.2.2.2.1.2.2.2.2.1++[(Rose.node (((0:Int),((0:Int),((0:Int),((0:Int),((0:Int),(([]:qT10),())))))),()) ([]:qT0))]),ko0.2.2.2.2.1.2.2.2.2.2))))),ko0.2.2.2.2.2))))).2.1,((ko0.1,(ko0.2.1,(ko0.2.2.1,(ko0.2.2.2.1,((ko0.2.2.2.2.1.1,(ko0.2.2.2.2.1.2.1,(ko0.2.2.2.2.1.2.2.1,(ko0.2.2.2.2.1.2.2.2.1,((ko0.2.2.2.2.1.2.2.2.2.1++[(Rose.node (((0:Int),((0:Int),((0:Int),((0:Int),((0:Int),(([]:qT10),())))))),()) ([]:qT0))]),ko0.2.2.2.2.1.2.2.2.2.2))))),ko0.2.2.2.2.2))))).2.2.1,((ko0.1,(ko0.2.1,(ko0.2.2.1,(ko0.2.2.2.1,((ko0.2.2.2.2.1.1,(ko0.2.2.2.2.1.2.1,(ko0.2.2.2.2.1.2.2.1,(ko0.2.2.2.2.1.2.2.2.1,((ko0.2.2.2.2.1.2.2.2.2.1++[(Rose.node (((0:Int),((0:Int),((0:Int),((0:Int),((0:Int),(([]:qT10),())))))),()) ([]:qT0))]),ko0.2.2.2.2.1.2.2.2.2.2))))),ko0.2.2.2.2.2))))).2.2.2.1,(((ko0.1,(ko0.2.1,(ko0.2.2.1,(ko0.2.2.2.1,((ko0.2.2.2.2.1.1,(ko0.2.2.2.2.1.2.1,(ko0.2.2.2.2.1.2.2.1,(ko0.2.2.2.2.1.2.2.2.1,((ko0.2.2.2.2.1.2.2.2.2.1++[(Rose.node (((0:Int),((0:Int),((0:Int),((0:Int),((0:Int),(([]:qT10),())))))),()) ([]:qT0))]),ko0.2.2.2.2.1.2.2.2.2.2))))),ko0.2.2.2.2.2))))).2.2.2.2.1.1,((ko0.1,(ko0.2.1,(ko0.2.2.1,(ko0.2.2.2.1,((ko0.2.2.2.2.1.1,(ko0.2.2.2.2.1.2.1,(ko0.2.2.2.2.1.2.2.1,(ko0.2.2.2.2.1.2.2.2.1,((ko0.2.2.2.2.1.2.2.2.2.1++[(Rose.node (((0:Int),((0:Int),((0:Int),((0:Int),((0:Int),(([]:qT10),())))))),()) ([]:qT0))]),ko0.2.2.2.2.1.2.2.2.2.2))))),ko0.2.2.2.2.2))))).2.2.2.2.1.2.1,((ko0.1,(ko0.2.1,(ko0.2.2.1,(ko0.2.2.2.1,((ko0.2.2.2.2.1.1,(ko0.2.2.2.2.1.2.1,(ko0.2.2.2.2.1.2.2.1,(ko0.2.2.2.2.1.2.2.2.1,((ko0.2.2.2.2.1.2.2.2.2.1++[(Rose.node (((0:Int),((0:Int),((0:Int),((0:Int),((0:Int),(([]:qT10),())))))),()) ([]:qT0))]),ko0.2.2.2.2.1.2.2.2.2.2))))),ko0.2.2.2.2.2))))).2.2.2.2.1.2.2.1,((ko0.1,(ko0.2.1,(ko0.2.2.1,(ko0.2.2.2.1,((ko0.2.2.2.2.1.1,(ko0.2.2.2.2.1.2.1,(ko0.2.2.2.2.1.2.2.1,(ko0.2.2.2.2.1.2.2.2.1,((ko0.2.2.2.2.1.2.2.2.2.1++[(Rose.node (((0:Int),((0:Int),((0:Int),((0:Int),((0:Int),(([]:qT10),())))))),()) ([]:qT0))]),ko0.2.2.2.2.1.2.2.2.2.2))))),ko0.2.2.2.2.2))))).2.2.2.2.1.2.2.2.1,((List.set (ko0.1,(ko0.2.1,(ko0.2.2.1,(ko0.2.2.2.1,((ko0.2.2.2.2.1.1,(ko0.2.2.2.2.1.2.1,(ko0.2.2.2.2.1.2.2.1,(ko0.2.2.2.2.1.2.2.2.1,((ko0.2.2.2.2.1.2.2.2.2.1++[(Rose.node (((0:Int),((0:Int),((0:Int),((0:Int),((0:Int),(([]:qT10),())))))),()) ([]:qT0))]),ko0.2.2.2.2.1.2.2.2.2.2))))),ko0.2.2.2.2.2))))).2.2.2.2.1.2.2.2.2.1 ((ko0.2.2.2.2.1.2.2.2.2.1.length:Int)).toNat (Rose.node (((0:Int),(to1,(c2,(poly3,((0:Int),(args4,())))))),()) ([]:qT0))),(ko0.1,(ko0.2.1,(ko0.2.2.1,(ko0.2.2.2.1,((ko0.2.2.2.2.1.1,(ko0.2.2.2.2.1.2.1,(ko0.2.2.2.2.1.2.2.1,(ko0.2.2.2.2.1.2.2.2.1,((ko0.2.2.2.2.1.2.2.2.2.1++[(Rose.node (((0:Int),((0:Int),((0:Int),((0:Int),((0:Int),(([]:qT10),())))))),()) ([]:qT0))]),ko0.2.2.2.2.1.2.2.2.2.2))))),ko0.2.2.2.2.2))))).2.2.2.2.1.2.2.2.2.2))))),(ko0.1,(ko0.2.1,(ko0.2.2.1,(ko0.2.2.2.1,((ko0.2.2.2.2.1.1,(ko0.2.2.2.2.1.2.1,(ko0.2.2.2.2.1.2.2.1,(ko0.2.2.2.2.1.2.2.2.1,((ko0.2.2.2.2.1.2.2.2.2.1++[(Rose.node (((0:Int),((0:Int),((0:Int),((0:Int),((0:Int),(([]:qT10),())))))),()) ([]:qT0))]),ko0.2.2.2.2.1.2.2.2.2.2))))),ko0.2.2.2.2.2))))).2.2.2.2.2))))),()))))
noncomputable def qba (n:Nat) (c2:Int) (t8:(List Int)) (t9:Int) (t10:Int) (k0:qT2):Option ((Int × (List Int) × Int × Int × qT2 × Unit) ⊕ ((qT2 × Unit) ⊕ Empty)) :=
bif (decide (t10<t9)) then
((idx t8 t10).bind fun v8 =>
(qa8 n k0 (1:Int) t10 v8).bind fun r9 =>
(qa9 n r9.1 c2 (0:Int) ([]:qT10) k0).bind fun r10 =>
some (.inl (c2,t8,t9,(IntKind.i64.wrap (t10+(1:Int))),r10.2.1,())))
else
(some (.inr (.inl (k0,()))))
noncomputable def qbb (n:Nat) (d:(Int × (List Int) × Int × Int × qT2 × Unit)):Option ((Int × (List Int) × Int × Int × qT2 × Unit) ⊕ ((qT2 × Unit) ⊕ Empty)):=qba n d.1 d.2.1 d.2.2.1 d.2.2.2.1 d.2.2.2.2.1
noncomputable def qbc (n:Nat) (cols1:(List Int)) (c2:Int) (ko0:qT2):Option qT43 :=
(iterN (qbb n) n (c2,cols1,(cols1.length:Int),(0:Int),ko0,())).bind (Sum.elim (fun d11 =>
some ((),(d11.1,()))) nof)
noncomputable def qbd (n:Nat) (i0:Int):Option (Int × Unit) :=
some (i0,())
noncomputable def qbe (n:Nat) (i0:Int):Option (Int × Unit) :=
some (i0,())
noncomputable def qbf (n:Nat) (i1:Int) (to2:Int) (from3:Int) (c4:Int) (t5:(Option Bool)) (r11:Int) (col12:Int) (t18:Int) (t19:Int) (t25:Int) (t26:Int) (t32:Int) (t33:Int) (k0:qT2) (args13:qT10):Option qT39 :=
bif (decide (t33<t32)) then
(((qa8 n k0 from3 r11 t33).bind fun r10 =>
(t5).bind fun u11 =>
bif u11 then
((qbd n i1).bind fun r12 =>
chk (lenB ((args13).length+([(false,(r10.1,())),(true,((IntKind.i64.wrap ((IntKind.i64.wrap ((IntKind.i64.wrap ((IntKind.i64.wrap (r12.1*k0.2.1))+t33))*k0.2.1))+col12)),()))]).length)) (some (.inl (i1,to2,from3,c4,t5,r11,col12,t18,t19,t25,t26,t32,t33,k0,(args13++[(false,(r10.1,())),(true,((IntKind.i64.wrap ((IntKind.i64.wrap ((IntKind.i64.wrap ((IntKind.i64.wrap (r12.1*k0.2.1))+t33))*k0.2.1))+col12)),()))]),()))))
else
((qbe n i1).bind fun r13 =>
chk (lenB ((args13).length+([(false,(r10.1,())),(true,((IntKind.i64.wrap ((IntKind.i64.wrap ((IntKind.i64.wrap ((IntKind.i64.wrap (r13.1*k0.2.1))+t33))*k0.2.1))+col12)),()))]).length)) (some (.inl (i1,to2,from3,c4,t5,r11,col12,t18,t19,t25,t26,t32,t33,k0,(args13++[(false,(r10.1,())),(true,((IntKind.i64.wrap ((IntKind.i64.wrap ((IntKind.i64.wrap ((IntKind.i64.wrap (r13.1*k0.2.1))+t33))*k0.2.1))+col12)),()))]),())))):Option (qT17 ⊕ Empty)).bind (Sum.elim (fun d14 =>
some (.inl (d14.1,d14.2.1,d14.2.2.1,d14.2.2.2.1,d14.2.2.2.2.1,d14.2.2.2.2.2.1,d14.2.2.2.2.2.2.1,d14.2.2.2.2.2.2.2.1,d14.2.2.2.2.2.2.2.2.1,d14.2.2.2.2.2.2.2.2.2.1,d14.2.2.2.2.2.2.2.2.2.2.1,d14.2.2.2.2.2.2.2.2.2.2.2.1,(IntKind.i64.wrap (d14.2.2.2.2.2.2.2.2.2.2.2.2.1+(1:Int))),d14.2.2.2.2.2.2.2.2.2.2.2.2.2.1,d14.2.2.2.2.2.2.2.2.2.2.2.2.2.2.1,()))) nof))
else
(some (.inr (.inl (i1,to2,from3,c4,t5,r11,col12,t18,t19,t25,t26,k0,args13,()))))
noncomputable def qbg (n:Nat) (d:qT17):Option qT39:=qbf n d.1 d.2.1 d.2.2.1 d.2.2.2.1 d.2.2.2.2.1 d.2.2.2.2.2.1 d.2.2.2.2.2.2.1 d.2.2.2.2.2.2.2.1 d.2.2.2.2.2.2.2.2.1 d.2.2.2.2.2.2.2.2.2.1 d.2.2.2.2.2.2.2.2.2.2.1 d.2.2.2.2.2.2.2.2.2.2.2.1 d.2.2.2.2.2.2.2.2.2.2.2.2.1 d.2.2.2.2.2.2.2.2.2.2.2.2.2.1 d.2.2.2.2.2.2.2.2.2.2.2.2.2.2.1
noncomputable def qbh (n:Nat) (i1:Int) (to2:Int) (from3:Int) (c4:Int) (t5:(Option Bool)) (r11:Int) (t18:Int) (t19:Int) (t25:Int) (t26:Int) (k0:qT2):Option (qT28 ⊕ (qT19 ⊕ Empty)) :=
bif (decide (t26<t25)) then
((iterN (qbg n) n (i1,to2,from3,c4,t5,r11,t26,t18,t19,t25,t26,k0.2.1,(0:Int),k0,([]:qT10),())).bind (Sum.elim (fun d22 =>
(qa8 n d22.2.2.2.2.2.2.2.2.2.2.2.1 d22.2.1 d22.2.2.2.2.2.1 d22.2.2.2.2.2.2.1).bind fun r23 =>
(qa9 n r23.1 d22.2.2.2.1 (1:Int) d22.2.2.2.2.2.2.2.2.2.2.2.2.1 d22.2.2.2.2.2.2.2.2.2.2.2.1).bind fun r24 =>
some (.inl (d22.1,d22.2.1,d22.2.2.1,d22.2.2.2.1,d22.2.2.2.2.1,d22.2.2.2.2.2.1,d22.2.2.2.2.2.2.2.1,d22.2.2.2.2.2.2.2.2.1,d22.2.2.2.2.2.2.2.2.2.1,(IntKind.i64.wrap (d22.2.2.2.2.2.2.2.2.2.2.1+(1:Int))),r24.2.1,()))) nof))
else
(some (.inr (.inl (i1,to2,from3,c4,t5,t18,t19,k0,()))))
noncomputable def qbi (n:Nat) (d:qT28):Option (qT28 ⊕ (qT19 ⊕ Empty)):=qbh n d.1 d.2.1 d.2.2.1 d.2.2.2.1 d.2.2.2.2.1 d.2.2.2.2.2.1 d.2.2.2.2.2.2.1 d.2.2.2.2.2.2.2.1 d.2.2.2.2.2.2.2.2.1 d.2.2.2.2.2.2.2.2.2.1 d.2.2.2.2.2.2.2.2.2.2.1
noncomputable def qbj (n:Nat) (i1:Int) (to2:Int) (from3:Int) (c4:Int) (t5:(Option Bool)) (t18:Int) (t19:Int) (k0:qT2):Option (qT19 ⊕ ((qT2 × Unit) ⊕ Empty)) :=
bif (decide (t19<t18)) then
((iterN (qbi n) n (i1,to2,from3,c4,t5,t19,t18,t19,k0.2.1,(0:Int),k0,())).bind (Sum.elim (fun d27 =>
some (.inl (d27.1,d27.2.1,d27.2.2.1,d27.2.2.2.1,d27.2.2.2.2.1,d27.2.2.2.2.2.1,(IntKind.i64.wrap (d27.2.2.2.2.2.2.1+(1:Int))),d27.2.2.2.2.2.2.2.1,()))) nof))
else
(some (.inr (.inl (k0,()))))
noncomputable def qbk (n:Nat) (d:qT19):Option (qT19 ⊕ ((qT2 × Unit) ⊕ Empty)):=qbj n d.1 d.2.1 d.2.2.1 d.2.2.2.1 d.2.2.2.2.1 d.2.2.2.2.2.1 d.2.2.2.2.2.2.1 d.2.2.2.2.2.2.2.1
noncomputable def qbl (n:Nat) (i1:Int) (to2:Int) (from3:Int) (c4:Int) (x5:(Option Bool)) (ko0:qT2):Option qT43 :=
(iterN (qbk n) n (i1,to2,from3,c4,x5,ko0.2.2.1,(0:Int),ko0,())).bind (Sum.elim (fun d28 =>
some ((),(d28.1,()))) nof)
noncomputable def qbm (self_matrix_maker_product:Int→Int→Int→Int→Int→qT2→Option qT43) (n:Nat) (lo1:Int) (hi2:Int) (to3:Int) (from4:Int) (c5:Int) (ko0:qT2):Option qT43 :=
bif (decide ((IntKind.i64.wrap (hi2-lo1))=(1:Int))) then
((ko0.2.2.2.2.2.1).bind fun u3 =>
(qbl n lo1 to3 from4 c5 u3 ko0).bind fun r4 =>
some ((),(r4.2.1,())))
else
(bif decide ((2:Int)=0) then none else
(self_matrix_maker_product lo1 (IntKind.i64.wrap (lo1+(IntKind.i64.wrap (Int.tdiv (IntKind.i64.wrap ((IntKind.i64.wrap (hi2-lo1))+(1:Int))) (2:Int))))) (IntKind.i64.wrap ((IntKind.i64.wrap ((3:Int)-to3))-from4)) from4 (1:Int) ko0).bind fun r6 =>
(self_matrix_maker_product (IntKind.i64.wrap (lo1+(IntKind.i64.wrap (Int.tdiv (IntKind.i64.wrap ((IntKind.i64.wrap (hi2-lo1))+(1:Int))) (2:Int))))) hi2 to3 (IntKind.i64.wrap ((IntKind.i64.wrap ((3:Int)-to3))-from4)) c5 r6.2.1).bind fun r8 =>
(self_matrix_maker_product lo1 (IntKind.i64.wrap (lo1+(IntKind.i64.wrap (Int.tdiv (IntKind.i64.wrap ((IntKind.i64.wrap (hi2-lo1))+(1:Int))) (2:Int))))) (IntKind.i64.wrap ((IntKind.i64.wrap ((3:Int)-to3))-from4)) from4 r8.2.1.2.2.2.1 r8.2.1).bind fun r10 =>
(qa7 n r10.2.1 c5).bind fun r11 =>
(self_matrix_maker_product (IntKind.i64.wrap (lo1+(IntKind.i64.wrap (Int.tdiv (IntKind.i64.wrap ((IntKind.i64.wrap (hi2-lo1))+(1:Int))) (2:Int))))) hi2 to3 (IntKind.i64.wrap ((IntKind.i64.wrap ((3:Int)-to3))-from4)) r11.1 r10.2.1).bind fun r12 =>
some ((),(r12.2.1,())))
noncomputable def qbn:Nat→Int→Int→Int→Int→Int→qT2→Option qT43
  | 0=>fun _ _ _ _ _ _=>none
  | n+1=>qbm (qbn n) n
noncomputable def qbo (n:Nat) (count1:Int) (cols2:(List Int)) (ko0:qT2):Option qT43 :=
(qa7 n ko0 (1:Int)).bind fun r2 =>
(qbc n cols2 (1:Int) (ko0.1,(ko0.2.1,(ko0.2.2.1,(r2.1,ko0.2.2.2.2))))).bind fun r4 =>
(qbn n (0:Int) count1 (0:Int) (1:Int) (1:Int) r4.2.1).bind fun r6 =>
(qbc n cols2 r6.2.1.2.2.2.1 r6.2.1).bind fun r8 =>
(qbn n (0:Int) count1 (0:Int) (1:Int) r8.2.1.2.2.2.1 r8.2.1).bind fun r9 =>
some ((),(r9.2.1,()))
noncomputable def qbp (n:Nat) (F0:qT9) (n1:Int) (k2:Int):Option (qT4 × (Int × Unit)) :=
(qae n F0 n1 k2).bind fun r3 =>
bif (!decide (r3.1=(0:Int))) then
(some ((((0:Int),((0:Int),())),((0:Int),((0:Int),(([]:(List qT1)),(([]:qT0),()))))),(r3.1,())))
else
((qal n n1 n1 k2 (IntKind.i64.wrap ((IntKind.i64.wrap (k2*n1))*n1))).bind fun r6 =>
bif (!decide (r6.1=(0:Int))) then
(some ((((0:Int),((0:Int),())),((0:Int),((0:Int),(([]:(List qT1)),(([]:qT0),()))))),(r6.1,())))
else
((qar n F0 n1 n1 (IntKind.i64.wrap ((IntKind.i64.wrap (k2*n1))*n1))).bind fun r8 =>
(qas n).bind fun r10 =>
(qav n n1).bind fun r13 =>
(qbo n k2 r13.1 (r8.1.1,(r8.1.2.1,(r8.1.2.2.1,(r8.1.2.2.2.1,(r8.1.2.2.2.2.1,(r10.1,r8.1.2.2.2.2.2.2))))))).bind fun r14 =>
some (r14.2.1.2.2.2.2.1,((0:Int),()))))
noncomputable def qbq (n:Nat) (nb:Bool) (s0:(List Int)):Option qT35 :=
bif nb then
(some (([]:(List Int)),()))
else
(chk (lenB ((([]:(List Int))).length+(s0).length)) (some ((([]:(List Int))++s0),())))
noncomputable def qbr (n:Nat) (s0:(List Int)):Option qT35:=qbq n false s0
noncomputable def qbs (n:Nat) (x0:Int):Option (Int × Unit) :=
(bif (decide ((4294967296:Int)≤x0)) then
(bif decide ((32:Int)<0) then none else
some (.inl ((Int.fdiv x0 (2 ^ (min ((32:Int)).toNat IntKind.u64.bits))),(32:Int),())))
else
(some (.inl (x0,(0:Int),()))):Option (qT16 ⊕ Empty)).bind (Sum.elim (fun d1 =>
(bif (decide ((65536:Int)≤d1.1)) then
(bif decide ((16:Int)<0) then none else
some (.inl ((Int.fdiv d1.1 (2 ^ (min ((16:Int)).toNat IntKind.u64.bits))),(IntKind.i64.wrap (d1.2.1+(16:Int))),())))
else
(some (.inl (d1.1,d1.2.1,()))):Option (qT16 ⊕ Empty)).bind (Sum.elim (fun d2 =>
(bif (decide ((256:Int)≤d2.1)) then
(bif decide ((8:Int)<0) then none else
some (.inl ((Int.fdiv d2.1 (2 ^ (min ((8:Int)).toNat IntKind.u64.bits))),(IntKind.i64.wrap (d2.2.1+(8:Int))),())))
else
(some (.inl (d2.1,d2.2.1,()))):Option (qT16 ⊕ Empty)).bind (Sum.elim (fun d3 =>
(idx (ByteArray.mk #[0,1,2,2,3,3,3,3,4,4,4,4,4,4,4,4,5,5,5,5,5,5,5,5,5,5,5,5,5,5,5,5,6,6,6,6,6,6,6,6,6,6,6,6,6,6,6,6,6,6,6,6,6,6,6,6,6,6,6,6,6,6,6,6,7,7,7,7,7,7,7,7,7,7,7,7,7,7,7,7,7,7,7,7,7,7,7,7,7,7,7,7,7,7,7,7,7,7,7,7,7,7,7,7,7,7,7,7,7,7,7,7,7,7,7,7,7,7,7,7,7,7,7,7,7,7,7,7,8,8,8,8,8,8,8,8,8,8,8,8,8,8,8,8,8,8,8,8,8,8,8,8,8,8,8,8,8,8,8,8,8,8,8,8,8,8,8,8,8,8,8,8,8,8,8,8,8,8,8,8,8,8,8,8,8,8,8,8,8,8,8,8,8,8,8,8,8,8,8,8,8,8,8,8,8,8,8,8,8,8,8,8,8,8,8,8,8,8,8,8,8,8,8,8,8,8,8,8,8,8,8,8,8,8,8,8,8,8,8,8,8,8,8,8,8,8,8,8,8,8,8,8,8,8,8,8]).data.toList (IntKind.u8.wrap d3.1)).bind fun v4 =>
some ((IntKind.i64.wrap (d3.2.1+(IntKind.i64.wrap ((v4.toNat:Nat):Int)))),())) nof)) nof)) nof)
noncomputable def qbt (n:Nat) (x0:Int):Option (Int × Unit) :=
(qbs n x0).bind fun r1 =>
some (r1.1,())
noncomputable def qbu (n:Nat) (x0:Int):Option (Bool × Unit) :=
some ((!decide (x0=x0)),())
noncomputable def qbv (n:Nat) (x0:Int) (y1:Int):Option (Int × Unit) :=
(qbu n x0).bind fun r2 =>
(qbu n y1).bind fun r4 =>
bif r2.1 then
(bif r4.1 then
(some ((0:Int),()))
else
(some ((-1:Int),())))
else
(bif r4.1 then
(some ((1:Int),()))
else
(bif (decide (x0<y1)) then
(some ((-1:Int),()))
else
(bif (decide (y1<x0)) then
(some ((1:Int),()))
else
(some ((0:Int),())))))
noncomputable def qbw (n:Nat) (s10:(List Int)) (s21:(List Int)) (t9:(List Int)) (t10:Int) (t11:Int):Option qT37 :=
bif (decide (t11<t10)) then
((idx t9 t11).bind fun v10 =>
bif (decide ((s21.length:Int)≤t11)) then
(some (.inr (.inl ((1:Int),()))))
else
((idx s21 t11).bind fun v11 =>
(qbv n v10 v11).bind fun r12 =>
bif (!decide (r12.1=(0:Int))) then
(some (.inr (.inl (r12.1,()))))
else
(some (.inl (s10,s21,t9,t10,(IntKind.i64.wrap (t11+(1:Int))),())))))
else
(some (.inr (.inr (.inl (s10,s21,())))))
noncomputable def qbx (n:Nat) (d:((List Int) × (List Int) × (List Int) × Int × Int × Unit)):Option qT37:=qbw n d.1 d.2.1 d.2.2.1 d.2.2.2.1 d.2.2.2.2.1
noncomputable def qby (n:Nat) (s10:(List Int)) (s21:(List Int)):Option (Int × Unit) :=
(iterN (qbx n) n (s10,s21,s10,(s10.length:Int),(0:Int),())).bind (Sum.elim (fun d16 =>
some (d16.1,())) (Sum.elim (fun d15 =>
bif (decide ((d15.1.length:Int)<(d15.2.1.length:Int))) then
(some ((-1:Int),()))
else
(some ((0:Int),()))) nof))
noncomputable def qbz (n:Nat) (a0:(Int × qT35)) (b1:(Int × qT35)):Option (Int × Unit) :=
(qby n a0.2.1 b1.2.1).bind fun r1 =>
some (r1.1,())
noncomputable def qb0 (n:Nat) (a1:Int) (b2:Int) (cmp3:Unit) (i8:Int) (j9:Int) (data0:qT1):Option (qT8 ⊕ (qT20 ⊕ Empty)) :=
(bif (decide (a1<j9)) then
((idx data0 j9).bind fun v20 =>
(idx data0 (IntKind.i64.wrap (j9-(1:Int)))).bind fun v21 =>
(qbz n v20 v21).bind fun r22 =>
some (.inl (a1,b2,(),i8,j9,(decide (r22.1<(0:Int))),data0,())))
else
(some (.inl (a1,b2,(),i8,j9,false,data0,()))):Option qT38).bind (Sum.elim (fun d23 =>
bif d23.2.2.2.2.2.1 then
((idx d23.2.2.2.2.2.2.1 (IntKind.i64.wrap (d23.2.2.2.2.1-(1:Int)))).bind fun v24 =>
(idx d23.2.2.2.2.2.2.1 d23.2.2.2.2.1).bind fun v25 =>
(idx d23.2.2.2.2.2.2.1 d23.2.2.2.2.1).bind fun v26 =>
(idx (List.set d23.2.2.2.2.2.2.1 (d23.2.2.2.2.1).toNat v24) (IntKind.i64.wrap (d23.2.2.2.2.1-(1:Int)))).bind fun v27 =>
some (.inl (d23.1,d23.2.1,(),d23.2.2.2.1,(IntKind.i64.wrap (d23.2.2.2.2.1-(1:Int))),(List.set (List.set d23.2.2.2.2.2.2.1 (d23.2.2.2.2.1).toNat v24) ((IntKind.i64.wrap (d23.2.2.2.2.1-(1:Int)))).toNat v25),())))
else
(some (.inr (.inl (d23.1,d23.2.1,(),d23.2.2.2.1,d23.2.2.2.2.2.2.1,()))))) nof)
noncomputable def qb1 (n:Nat) (d:qT8):Option (qT8 ⊕ (qT20 ⊕ Empty)):=qb0 n d.1 d.2.1 d.2.2.1 d.2.2.2.1 d.2.2.2.2.1 d.2.2.2.2.2.1
noncomputable def qb2 (n:Nat) (a1:Int) (b2:Int) (cmp3:Unit) (i8:Int) (data0:qT1):Option (qT20 ⊕ qT15) :=
bif (decide (i8<b2)) then
((iterN (qb1 n) n (a1,b2,(),i8,i8,data0,())).bind (Sum.elim (fun d30 =>
some (.inl (d30.1,d30.2.1,(),(IntKind.i64.wrap (d30.2.2.2.1+(1:Int))),d30.2.2.2.2.1,()))) nof))
else
(some (.inr (.inl (data0,()))))
noncomputable def qb3 (n:Nat) (d:qT20):Option (qT20 ⊕ qT15):=qb2 n d.1 d.2.1 d.2.2.1 d.2.2.2.1 d.2.2.2.2.1
noncomputable def qb4 (n:Nat) (a1:Int) (b2:Int) (datao0:qT1):Option qT25 :=
(iterN (qb3 n) n (a1,b2,(),(IntKind.i64.wrap (a1+(1:Int))),datao0,())).bind (Sum.elim (fun d31 =>
some ((),(d31.1,()))) nof)
noncomputable def qb5 (n:Nat) (hi2:Int) (first3:Int) (cmp4:Unit) (root10:Int) (data0:qT1):Option (qT20 ⊕ ((qT1 × Unit) ⊕ qT15)) :=
bif (decide (hi2≤(IntKind.i64.wrap ((IntKind.i64.wrap ((2:Int)*root10))+(1:Int))))) then
(some (.inr (.inl (data0,()))))
else
(((bif (decide ((IntKind.i64.wrap ((IntKind.i64.wrap ((IntKind.i64.wrap ((2:Int)*root10))+(1:Int)))+(1:Int)))<hi2)) then
((idx data0 (IntKind.i64.wrap (first3+(IntKind.i64.wrap ((IntKind.i64.wrap ((2:Int)*root10))+(1:Int)))))).bind fun v30 =>
(idx data0 (IntKind.i64.wrap ((IntKind.i64.wrap (first3+(IntKind.i64.wrap ((IntKind.i64.wrap ((2:Int)*root10))+(1:Int)))))+(1:Int)))).bind fun v31 =>
(qbz n v30 v31).bind fun r32 =>
some (.inl (hi2,first3,(),root10,(IntKind.i64.wrap ((IntKind.i64.wrap ((2:Int)*root10))+(1:Int))),(decide (r32.1<(0:Int))),data0,())))
else
(some (.inl (hi2,first3,(),root10,(IntKind.i64.wrap ((IntKind.i64.wrap ((2:Int)*root10))+(1:Int))),false,data0,()))):Option qT38).bind (Sum.elim (fun d33 =>
bif d33.2.2.2.2.2.1 then
(some (.inl (d33.1,d33.2.1,(),d33.2.2.2.1,(IntKind.i64.wrap (d33.2.2.2.2.1+(1:Int))),d33.2.2.2.2.2.2.1,())))
else
(some (.inl (d33.1,d33.2.1,(),d33.2.2.2.1,d33.2.2.2.2.1,d33.2.2.2.2.2.2.1,())))) nof):Option (qT8 ⊕ Empty)).bind (Sum.elim (fun d34 =>
(idx d34.2.2.2.2.2.1 (IntKind.i64.wrap (d34.2.1+d34.2.2.2.1))).bind fun v35 =>
(idx d34.2.2.2.2.2.1 (IntKind.i64.wrap (d34.2.1+d34.2.2.2.2.1))).bind fun v36 =>
(qbz n v35 v36).bind fun r37 =>
bif (!(decide (r37.1<(0:Int)))) then
(some (.inr (.inr (.inl (d34.2.2.2.2.2.1,())))))
else
((idx d34.2.2.2.2.2.1 (IntKind.i64.wrap (d34.2.1+d34.2.2.2.2.1))).bind fun v38 =>
(idx d34.2.2.2.2.2.1 (IntKind.i64.wrap (d34.2.1+d34.2.2.2.1))).bind fun v39 =>
(idx d34.2.2.2.2.2.1 (IntKind.i64.wrap (d34.2.1+d34.2.2.2.1))).bind fun v40 =>
(idx (List.set d34.2.2.2.2.2.1 ((IntKind.i64.wrap (d34.2.1+d34.2.2.2.1))).toNat v38) (IntKind.i64.wrap (d34.2.1+d34.2.2.2.2.1))).bind fun v41 =>
some (.inl (d34.1,d34.2.1,(),d34.2.2.2.2.1,(List.set (List.set d34.2.2.2.2.2.1 ((IntKind.i64.wrap (d34.2.1+d34.2.2.2.1))).toNat v38) ((IntKind.i64.wrap (d34.2.1+d34.2.2.2.2.1))).toNat v39),())))) nof))
noncomputable def qb6 (n:Nat) (d:qT20):Option (qT20 ⊕ ((qT1 × Unit) ⊕ qT15)):=qb5 n d.1 d.2.1 d.2.2.1 d.2.2.2.1 d.2.2.2.2.1
noncomputable def qb7 (n:Nat) (lo1:Int) (hi2:Int) (first3:Int) (datao0:qT1):Option qT25 :=
(iterN (qb6 n) n (hi2,first3,(),lo1,datao0,())).bind (Sum.elim (fun d43 =>
some ((),(d43.1,()))) (Sum.elim (fun d42 =>
some ((),(d42.1,()))) nof))
noncomputable def qb8 (n:Nat) (cmp3:Unit) (first8:Int) (lo9:Int) (hi10:Int) (i11:Int) (data0:qT1):Option (qT50 ⊕ (qT33 ⊕ Empty)) :=
bif (decide ((0:Int)≤i11)) then
((qb7 n i11 hi10 first8 data0).bind fun r3 =>
some (.inl ((),first8,lo9,hi10,(IntKind.i64.wrap (i11-(1:Int))),r3.2.1,())))
else
(some (.inr (.inl ((),first8,lo9,hi10,data0,()))))
noncomputable def qb9 (n:Nat) (d:qT50):Option (qT50 ⊕ (qT33 ⊕ Empty)):=qb8 n d.1 d.2.1 d.2.2.1 d.2.2.2.1 d.2.2.2.2.1 d.2.2.2.2.2.1
noncomputable def qca (n:Nat) (cmp3:Unit) (first8:Int) (lo9:Int) (i12:Int) (data0:qT1):Option (qT33 ⊕ qT15) :=
bif (decide ((0:Int)≤i12)) then
((idx data0 (IntKind.i64.wrap (first8+i12))).bind fun v20 =>
(idx data0 first8).bind fun v21 =>
(idx data0 first8).bind fun v22 =>
(idx (List.set data0 (first8).toNat v20) (IntKind.i64.wrap (first8+i12))).bind fun v23 =>
(qb7 n lo9 i12 first8 (List.set (List.set data0 (first8).toNat v20) ((IntKind.i64.wrap (first8+i12))).toNat v21)).bind fun r24 =>
some (.inl ((),first8,lo9,(IntKind.i64.wrap (i12-(1:Int))),r24.2.1,())))
else
(some (.inr (.inl (data0,()))))
noncomputable def qcb (n:Nat) (d:qT33):Option (qT33 ⊕ qT15):=qca n d.1 d.2.1 d.2.2.1 d.2.2.2.1 d.2.2.2.2.1
noncomputable def qcc (n:Nat) (a1:Int) (b2:Int) (datao0:qT1):Option qT25 :=
bif decide ((2:Int)=0) then none else
(iterN (qb9 n) n ((),a1,(0:Int),(IntKind.i64.wrap (b2-a1)),(IntKind.i64.wrap (Int.tdiv (IntKind.i64.wrap ((IntKind.i64.wrap (b2-a1))-(1:Int))) (2:Int))),datao0,())).bind (Sum.elim (fun d5 =>
(iterN (qcb n) n ((),d5.2.1,d5.2.2.1,(IntKind.i64.wrap (d5.2.2.2.1-(1:Int))),d5.2.2.2.2.1,())).bind (Sum.elim (fun d25 =>
some ((),(d25.1,()))) nof)) nof)
noncomputable def qcd (n:Nat) (length0:Int):Option (Int × Unit) :=
(qbt n (IntKind.u64.wrap length0)).bind fun r1 =>
bif decide (r1.1<0) then none else
some ((IntKind.u64.wrap ((1:Int)*2 ^ (min (r1.1).toNat IntKind.u64.bits))),())
noncomputable def qce (n:Nat) (ro0:Int):Option ((Int × Unit) × (Int × Unit)) :=
bif decide ((13:Int)<0) then none else
bif decide ((7:Int)<0) then none else
bif decide ((17:Int)<0) then none else
some (((IntKind.u64.wrap ((BitVec.ofInt IntKind.u64.bits (IntKind.u64.wrap ((BitVec.ofInt IntKind.u64.bits (IntKind.u64.wrap ((BitVec.ofInt IntKind.u64.bits ro0 ^^^ BitVec.ofInt IntKind.u64.bits (IntKind.u64.wrap (ro0*2 ^ (min ((13:Int)).toNat IntKind.u64.bits)))).toNat)) ^^^ BitVec.ofInt IntKind.u64.bits (Int.fdiv (IntKind.u64.wrap ((BitVec.ofInt IntKind.u64.bits ro0 ^^^ BitVec.ofInt IntKind.u64.bits (IntKind.u64.wrap (ro0*2 ^ (min ((13:Int)).toNat IntKind.u64.bits)))).toNat)) (2 ^ (min ((7:Int)).toNat IntKind.u64.bits)))).toNat)) ^^^ BitVec.ofInt IntKind.u64.bits (IntKind.u64.wrap ((IntKind.u64.wrap ((BitVec.ofInt IntKind.u64.bits (IntKind.u64.wrap ((BitVec.ofInt IntKind.u64.bits ro0 ^^^ BitVec.ofInt IntKind.u64.bits (IntKind.u64.wrap (ro0*2 ^ (min ((13:Int)).toNat IntKind.u64.bits)))).toNat)) ^^^ BitVec.ofInt IntKind.u64.bits (Int.fdiv (IntKind.u64.wrap ((BitVec.ofInt IntKind.u64.bits ro0 ^^^ BitVec.ofInt IntKind.u64.bits (IntKind.u64.wrap (ro0*2 ^ (min ((13:Int)).toNat IntKind.u64.bits)))).toNat)) (2 ^ (min ((7:Int)).toNat IntKind.u64.bits)))).toNat))*2 ^ (min ((17:Int)).toNat IntKind.u64.bits)))).toNat)),()),((IntKind.u64.wrap ((BitVec.ofInt IntKind.u64.bits (IntKind.u64.wrap ((BitVec.ofInt IntKind.u64.bits (IntKind.u64.wrap ((BitVec.ofInt IntKind.u64.bits ro0 ^^^ BitVec.ofInt IntKind.u64.bits (IntKind.u64.wrap (ro0*2 ^ (min ((13:Int)).toNat IntKind.u64.bits)))).toNat)) ^^^ BitVec.ofInt IntKind.u64.bits (Int.fdiv (IntKind.u64.wrap ((BitVec.ofInt IntKind.u64.bits ro0 ^^^ BitVec.ofInt IntKind.u64.bits (IntKind.u64.wrap (ro0*2 ^ (min ((13:Int)).toNat IntKind.u64.bits)))).toNat)) (2 ^ (min ((7:Int)).toNat IntKind.u64.bits)))).toNat)) ^^^ BitVec.ofInt IntKind.u64.bits (IntKind.u64.wrap ((IntKind.u64.wrap ((BitVec.ofInt IntKind.u64.bits (IntKind.u64.wrap ((BitVec.ofInt IntKind.u64.bits ro0 ^^^ BitVec.ofInt IntKind.u64.bits (IntKind.u64.wrap (ro0*2 ^ (min ((13:Int)).toNat IntKind.u64.bits)))).toNat)) ^^^ BitVec.ofInt IntKind.u64.bits (Int.fdiv (IntKind.u64.wrap ((BitVec.ofInt IntKind.u64.bits ro0 ^^^ BitVec.ofInt IntKind.u64.bits (IntKind.u64.wrap (ro0*2 ^ (min ((13:Int)).toNat IntKind.u64.bits)))).toNat)) (2 ^ (min ((7:Int)).toNat IntKind.u64.bits)))).toNat))*2 ^ (min ((17:Int)).toNat IntKind.u64.bits)))).toNat)),()))
noncomputable def qcf (n:Nat) (a1:Int) (length8:Int) (modulus10:Int) (idx11:Int) (data0:qT1) (random9:Int):Option ((Int × Int × Int × Int × qT1 × Int × Unit) ⊕ qT15) :=
bif decide ((4:Int)=0) then none else
bif (decide (idx11≤(IntKind.i64.wrap ((IntKind.i64.wrap (a1+(IntKind.i64.wrap ((IntKind.i64.wrap (Int.tdiv length8 (4:Int)))*(2:Int)))))+(1:Int))))) then
((qce n random9).bind fun r16 =>
(bif (decide (length8≤(IntKind.i64.wrap (IntKind.u64.wrap ((BitVec.ofInt IntKind.u64.bits r16.1.1 &&& BitVec.ofInt IntKind.u64.bits (IntKind.u64.wrap (modulus10-(1:Int)))).toNat))))) then
(some (.inl (a1,length8,modulus10,idx11,(IntKind.i64.wrap ((IntKind.i64.wrap (IntKind.u64.wrap ((BitVec.ofInt IntKind.u64.bits r16.1.1 &&& BitVec.ofInt IntKind.u64.bits (IntKind.u64.wrap (modulus10-(1:Int)))).toNat)))-length8)),data0,r16.2.1,())))
else
(some (.inl (a1,length8,modulus10,idx11,(IntKind.i64.wrap (IntKind.u64.wrap ((BitVec.ofInt IntKind.u64.bits r16.1.1 &&& BitVec.ofInt IntKind.u64.bits (IntKind.u64.wrap (modulus10-(1:Int)))).toNat))),data0,r16.2.1,()))):Option ((Int × Int × Int × Int × Int × qT1 × Int × Unit) ⊕ Empty)).bind (Sum.elim (fun d17 =>
(idx d17.2.2.2.2.2.1 (IntKind.i64.wrap (d17.1+d17.2.2.2.2.1))).bind fun v18 =>
(idx d17.2.2.2.2.2.1 d17.2.2.2.1).bind fun v19 =>
(idx d17.2.2.2.2.2.1 d17.2.2.2.1).bind fun v20 =>
(idx (List.set d17.2.2.2.2.2.1 (d17.2.2.2.1).toNat v18) (IntKind.i64.wrap (d17.1+d17.2.2.2.2.1))).bind fun v21 =>
some (.inl (d17.1,d17.2.1,d17.2.2.1,(IntKind.i64.wrap (d17.2.2.2.1+(1:Int))),(List.set (List.set d17.2.2.2.2.2.1 (d17.2.2.2.1).toNat v18) ((IntKind.i64.wrap (d17.1+d17.2.2.2.2.1))).toNat v19),d17.2.2.2.2.2.2.1,()))) nof))
else
(some (.inr (.inl (data0,()))))
noncomputable def qcg (n:Nat) (d:(Int × Int × Int × Int × qT1 × Int × Unit)):Option ((Int × Int × Int × Int × qT1 × Int × Unit) ⊕ qT15):=qcf n d.1 d.2.1 d.2.2.1 d.2.2.2.1 d.2.2.2.2.1 d.2.2.2.2.2.1
noncomputable def qch (n:Nat) (a1:Int) (b2:Int) (datao0:qT1):Option qT25 :=
bif (decide ((8:Int)≤(IntKind.i64.wrap (b2-a1)))) then
((qcd n (IntKind.i64.wrap (b2-a1))).bind fun r2 =>
bif decide ((4:Int)=0) then none else
(iterN (qcg n) n (a1,(IntKind.i64.wrap (b2-a1)),r2.1,(IntKind.i64.wrap ((IntKind.i64.wrap (a1+(IntKind.i64.wrap ((IntKind.i64.wrap (Int.tdiv (IntKind.i64.wrap (b2-a1)) (4:Int)))*(2:Int)))))-(1:Int))),datao0,(IntKind.u64.wrap (IntKind.i64.wrap (b2-a1))),())).bind (Sum.elim (fun d22 =>
some ((),(d22.1,()))) nof))
else
(some ((),(datao0,())))
noncomputable def qci (n:Nat) (data0:qT1) (a1:Int) (b2:Int) (swapso0:Int):Option (qT9 × (Int × Unit)) :=
(idx data0 b2).bind fun v7 =>
(idx data0 a1).bind fun v8 =>
(qbz n v7 v8).bind fun r9 =>
bif (decide (r9.1<(0:Int))) then
(some ((b2,(a1,())),((IntKind.i64.wrap (swapso0+(1:Int))),())))
else
(some ((a1,(b2,())),(swapso0,())))
noncomputable def qcj (n:Nat) (data0:qT1) (a1:Int) (b2:Int) (c3:Int) (swapso0:Int):Option ((Int × Unit) × (Int × Unit)) :=
(qci n data0 a1 b2 swapso0).bind fun r2 =>
(qci n data0 r2.1.2.1 c3 r2.2.1).bind fun r4 =>
(qci n data0 r2.1.1 r4.1.1 r4.2.1).bind fun r6 =>
some ((r6.1.2.1,()),(r6.2.1,()))
noncomputable def qck (n:Nat) (data0:qT1) (a1:Int) (swapso0:Int):Option ((Int × Unit) × (Int × Unit)) :=
(qcj n data0 (IntKind.i64.wrap (a1-(1:Int))) a1 (IntKind.i64.wrap (a1+(1:Int))) swapso0).bind fun r1 =>
some ((r1.1.1,()),(r1.2.1,()))
noncomputable def qcl (n:Nat) (data0:qT1) (a1:Int) (b2:Int):Option qT9 :=
bif decide ((4:Int)=0) then none else
bif decide ((4:Int)=0) then none else
bif decide ((4:Int)=0) then none else
(bif (decide ((8:Int)≤(IntKind.i64.wrap (b2-a1)))) then
((bif (decide ((50:Int)≤(IntKind.i64.wrap (b2-a1)))) then
((qck n data0 (IntKind.i64.wrap (a1+(IntKind.i64.wrap ((IntKind.i64.wrap (Int.tdiv (IntKind.i64.wrap (b2-a1)) (4:Int)))*(1:Int))))) (0:Int)).bind fun r11 =>
(qck n data0 (IntKind.i64.wrap (a1+(IntKind.i64.wrap ((IntKind.i64.wrap (Int.tdiv (IntKind.i64.wrap (b2-a1)) (4:Int)))*(2:Int))))) r11.2.1).bind fun r12 =>
(qck n data0 (IntKind.i64.wrap (a1+(IntKind.i64.wrap ((IntKind.i64.wrap (Int.tdiv (IntKind.i64.wrap (b2-a1)) (4:Int)))*(3:Int))))) r12.2.1).bind fun r13 =>
some (.inl (data0,(),r11.1.1,r12.1.1,r13.1.1,r13.2.1,())))
else
(some (.inl (data0,(),(IntKind.i64.wrap (a1+(IntKind.i64.wrap ((IntKind.i64.wrap (Int.tdiv (IntKind.i64.wrap (b2-a1)) (4:Int)))*(1:Int))))),(IntKind.i64.wrap (a1+(IntKind.i64.wrap ((IntKind.i64.wrap (Int.tdiv (IntKind.i64.wrap (b2-a1)) (4:Int)))*(2:Int))))),(IntKind.i64.wrap (a1+(IntKind.i64.wrap ((IntKind.i64.wrap (Int.tdiv (IntKind.i64.wrap (b2-a1)) (4:Int)))*(3:Int))))),(0:Int),()))):Option ((qT1 × Unit × Int × Int × Int × Int × Unit) ⊕ Empty)).bind (Sum.elim (fun d14 =>
(qcj n d14.1 d14.2.2.1 d14.2.2.2.1 d14.2.2.2.2.1 d14.2.2.2.2.2.1).bind fun r15 =>
some (.inl (r15.1.1,r15.2.1,()))) nof))
else
(some (.inl ((IntKind.i64.wrap (a1+(IntKind.i64.wrap ((IntKind.i64.wrap (Int.tdiv (IntKind.i64.wrap (b2-a1)) (4:Int)))*(2:Int))))),(0:Int),()))):Option (qT16 ⊕ Empty)).bind (Sum.elim (fun d16 =>
bif (decide (d16.2.1=(0:Int))) then
(some (d16.1,((1:Int),())))
else
(bif (decide (d16.2.1=(12:Int))) then
(some (d16.1,((2:Int),())))
else
(some (d16.1,((0:Int),()))))) nof)
noncomputable def qcm (n:Nat) (i8:Int) (j9:Int) (data0:qT1):Option (qT30 ⊕ qT15) :=
bif (decide (i8<j9)) then
((idx data0 j9).bind fun v9 =>
(idx data0 i8).bind fun v10 =>
(idx data0 i8).bind fun v11 =>
(idx (List.set data0 (i8).toNat v9) j9).bind fun v12 =>
some (.inl ((IntKind.i64.wrap (i8+(1:Int))),(IntKind.i64.wrap (j9-(1:Int))),(List.set (List.set data0 (i8).toNat v9) (j9).toNat v10),())))
else
(some (.inr (.inl (data0,()))))
noncomputable def qcn (n:Nat) (d:qT30):Option (qT30 ⊕ qT15):=qcm n d.1 d.2.1 d.2.2.1
noncomputable def qco (n:Nat) (a1:Int) (b2:Int) (datao0:qT1):Option qT25 :=
(iterN (qcn n) n (a1,(IntKind.i64.wrap (b2-(1:Int))),datao0,())).bind (Sum.elim (fun d13 =>
some ((),(d13.1,()))) nof)
noncomputable def qcp (n:Nat) (a1:Int) (b2:Int) (cmp3:Unit) (i9:Int) (j10:Int) (j11:Int) (data0:qT1):Option (qT21 ⊕ (qT8 ⊕ Empty)) :=
bif (decide ((1:Int)≤j11)) then
((idx data0 j11).bind fun v46 =>
(idx data0 (IntKind.i64.wrap (j11-(1:Int)))).bind fun v47 =>
(qbz n v46 v47).bind fun r48 =>
bif (!(decide (r48.1<(0:Int)))) then
(some (.inr (.inl (a1,b2,(),i9,j10,data0,()))))
else
((idx data0 (IntKind.i64.wrap (j11-(1:Int)))).bind fun v49 =>
(idx data0 j11).bind fun v50 =>
(idx data0 j11).bind fun v51 =>
(idx (List.set data0 (j11).toNat v49) (IntKind.i64.wrap (j11-(1:Int)))).bind fun v52 =>
some (.inl (a1,b2,(),i9,j10,(IntKind.i64.wrap (j11-(1:Int))),(List.set (List.set data0 (j11).toNat v49) ((IntKind.i64.wrap (j11-(1:Int)))).toNat v50),()))))
else
(some (.inr (.inl (a1,b2,(),i9,j10,data0,()))))
noncomputable def qcq (n:Nat) (d:qT21):Option (qT21 ⊕ (qT8 ⊕ Empty)):=qcp n d.1 d.2.1 d.2.2.1 d.2.2.2.1 d.2.2.2.2.1 d.2.2.2.2.2.1 d.2.2.2.2.2.2.1
noncomputable def qcr (n:Nat) (a1:Int) (b2:Int) (cmp3:Unit) (i9:Int) (j10:Int) (j12:Int) (data0:qT1):Option (qT21 ⊕ (qT8 ⊕ Empty)) :=
bif (decide (j12<b2)) then
((idx data0 j12).bind fun v76 =>
(idx data0 (IntKind.i64.wrap (j12-(1:Int)))).bind fun v77 =>
(qbz n v76 v77).bind fun r78 =>
bif (!(decide (r78.1<(0:Int)))) then
(some (.inr (.inl (a1,b2,(),i9,j10,data0,()))))
else
((idx data0 (IntKind.i64.wrap (j12-(1:Int)))).bind fun v79 =>
(idx data0 j12).bind fun v80 =>
(idx data0 j12).bind fun v81 =>
(idx (List.set data0 (j12).toNat v79) (IntKind.i64.wrap (j12-(1:Int)))).bind fun v82 =>
some (.inl (a1,b2,(),i9,j10,(IntKind.i64.wrap (j12+(1:Int))),(List.set (List.set data0 (j12).toNat v79) ((IntKind.i64.wrap (j12-(1:Int)))).toNat v80),()))))
else
(some (.inr (.inl (a1,b2,(),i9,j10,data0,()))))
noncomputable def qcs (n:Nat) (d:qT21):Option (qT21 ⊕ (qT8 ⊕ Empty)):=qcr n d.1 d.2.1 d.2.2.1 d.2.2.2.1 d.2.2.2.2.1 d.2.2.2.2.2.1 d.2.2.2.2.2.2.1
noncomputable def qct (n:Nat) (a1:Int) (b2:Int) (cmp3:Unit) (i9:Int) (j10:Int) (data0:qT1):Option (qT8 ⊕ (qT8 ⊕ Empty)) :=
(bif (decide (i9<b2)) then
((idx data0 i9).bind fun v12 =>
(idx data0 (IntKind.i64.wrap (i9-(1:Int)))).bind fun v13 =>
(qbz n v12 v13).bind fun r14 =>
some (.inl (a1,b2,(),i9,j10,(!(decide (r14.1<(0:Int)))),data0,())))
else
(some (.inl (a1,b2,(),i9,j10,false,data0,()))):Option qT38).bind (Sum.elim (fun d15 =>
bif d15.2.2.2.2.2.1 then
(some (.inl (d15.1,d15.2.1,(),(IntKind.i64.wrap (d15.2.2.2.1+(1:Int))),d15.2.2.2.2.1,d15.2.2.2.2.2.2.1,())))
else
(some (.inr (.inl (d15.1,d15.2.1,(),d15.2.2.2.1,d15.2.2.2.2.1,d15.2.2.2.2.2.2.1,()))))) nof)
noncomputable def qcu (n:Nat) (d:qT8):Option (qT8 ⊕ (qT8 ⊕ Empty)):=qct n d.1 d.2.1 d.2.2.1 d.2.2.2.1 d.2.2.2.2.1 d.2.2.2.2.2.1
noncomputable def qcv (n:Nat) (a1:Int) (b2:Int) (cmp3:Unit) (i9:Int) (j10:Int) (data0:qT1):Option (qT8 ⊕ ((Bool × qT1 × Unit) ⊕ qT15)) :=
bif (decide (j10<(5:Int))) then
(((iterN (qcu n) n (a1,b2,(),i9,j10,data0,())).bind (Sum.elim (fun d94 =>
bif (decide (d94.2.2.2.1=d94.2.1)) then
(some (.inl (true,d94.2.2.2.2.2.1,())))
else
(bif (decide ((IntKind.i64.wrap (d94.2.1-d94.1))<(50:Int))) then
(some (.inl (false,d94.2.2.2.2.2.1,())))
else
((idx d94.2.2.2.2.2.1 (IntKind.i64.wrap (d94.2.2.2.1-(1:Int)))).bind fun v95 =>
(idx d94.2.2.2.2.2.1 d94.2.2.2.1).bind fun v96 =>
(idx d94.2.2.2.2.2.1 d94.2.2.2.1).bind fun v97 =>
(idx (List.set d94.2.2.2.2.2.1 (d94.2.2.2.1).toNat v95) (IntKind.i64.wrap (d94.2.2.2.1-(1:Int)))).bind fun v98 =>
(bif (decide ((2:Int)≤(IntKind.i64.wrap (d94.2.2.2.1-d94.1)))) then
((iterN (qcq n) n (d94.1,d94.2.1,(),d94.2.2.2.1,d94.2.2.2.2.1,(IntKind.i64.wrap (d94.2.2.2.1-(1:Int))),(List.set (List.set d94.2.2.2.2.2.1 (d94.2.2.2.1).toNat v95) ((IntKind.i64.wrap (d94.2.2.2.1-(1:Int)))).toNat v96),())).bind (Sum.elim (fun d99 =>
some (.inl (d99.1,d99.2.1,(),d99.2.2.2.1,d99.2.2.2.2.1,d99.2.2.2.2.2.1,()))) nof))
else
(some (.inl (d94.1,d94.2.1,(),d94.2.2.2.1,d94.2.2.2.2.1,(List.set (List.set d94.2.2.2.2.2.1 (d94.2.2.2.1).toNat v95) ((IntKind.i64.wrap (d94.2.2.2.1-(1:Int)))).toNat v96),()))):Option (qT8 ⊕ Empty)).bind (Sum.elim (fun d100 =>
bif (decide ((2:Int)≤(IntKind.i64.wrap (d100.2.1-d100.2.2.2.1)))) then
((iterN (qcs n) n (d100.1,d100.2.1,(),d100.2.2.2.1,d100.2.2.2.2.1,(IntKind.i64.wrap (d100.2.2.2.1+(1:Int))),d100.2.2.2.2.2.1,())).bind (Sum.elim (fun d101 =>
some (.inr (.inl (d101.1,d101.2.1,(),d101.2.2.2.1,d101.2.2.2.2.1,d101.2.2.2.2.2.1,())))) nof))
else
(some (.inr (.inl (d100.1,d100.2.1,(),d100.2.2.2.1,d100.2.2.2.2.1,d100.2.2.2.2.2.1,()))))) nof)))) nof):Option ((Bool × qT1 × Unit) ⊕ (qT8 ⊕ Empty))).bind (Sum.elim (fun d103 =>
some (.inr (.inl (d103.1,d103.2.1,())))) (Sum.elim (fun d102 =>
some (.inl (d102.1,d102.2.1,(),d102.2.2.2.1,(IntKind.i64.wrap (d102.2.2.2.2.1+(1:Int))),d102.2.2.2.2.2.1,()))) nof)))
else
(some (.inr (.inr (.inl (data0,())))))
noncomputable def qcw (n:Nat) (d:qT8):Option (qT8 ⊕ ((Bool × qT1 × Unit) ⊕ qT15)):=qcv n d.1 d.2.1 d.2.2.1 d.2.2.2.1 d.2.2.2.2.1 d.2.2.2.2.2.1
noncomputable def qcx (n:Nat) (a1:Int) (b2:Int) (datao0:qT1):Option ((Bool × Unit) × (qT1 × Unit)) :=
(iterN (qcw n) n (a1,b2,(),(IntKind.i64.wrap (a1+(1:Int))),(0:Int),datao0,())).bind (Sum.elim (fun d107 =>
some ((d107.1,()),(d107.2.1,()))) (Sum.elim (fun d106 =>
some ((false,()),(d106.1,()))) nof))
noncomputable def qcy (n:Nat) (a1:Int) (cmp4:Unit) (i11:Int) (j12:Int) (data0:qT1):Option qT23 :=
(bif (decide (i11≤j12)) then
((idx data0 a1).bind fun v37 =>
(idx data0 j12).bind fun v38 =>
(qbz n v37 v38).bind fun r39 =>
some (.inl (a1,(),i11,j12,(decide (r39.1<(0:Int))),data0,())))
else
(some (.inl (a1,(),i11,j12,false,data0,()))):Option qT18).bind (Sum.elim (fun d40 =>
bif d40.2.2.2.2.1 then
(some (.inl (d40.1,(),d40.2.2.1,(IntKind.i64.wrap (d40.2.2.2.1-(1:Int))),d40.2.2.2.2.2.1,())))
else
(some (.inr (.inl (d40.1,(),d40.2.2.1,d40.2.2.2.1,d40.2.2.2.2.2.1,()))))) nof)
noncomputable def qcz (n:Nat) (d:qT7):Option qT23:=qcy n d.1 d.2.1 d.2.2.1 d.2.2.2.1 d.2.2.2.2.1
noncomputable def qc0 (n:Nat) (a1:Int) (cmp4:Unit) (i11:Int) (j12:Int) (data0:qT1):Option qT23 :=
(bif (decide (i11≤j12)) then
((idx data0 a1).bind fun v20 =>
(idx data0 i11).bind fun v21 =>
(qbz n v20 v21).bind fun r22 =>
some (.inl (a1,(),i11,j12,(!(decide (r22.1<(0:Int)))),data0,())))
else
(some (.inl (a1,(),i11,j12,false,data0,()))):Option qT18).bind (Sum.elim (fun d23 =>
bif d23.2.2.2.2.1 then
(some (.inl (d23.1,(),(IntKind.i64.wrap (d23.2.2.1+(1:Int))),d23.2.2.2.1,d23.2.2.2.2.2.1,())))
else
(some (.inr (.inl (d23.1,(),d23.2.2.1,d23.2.2.2.1,d23.2.2.2.2.2.1,()))))) nof)
noncomputable def qc1 (n:Nat) (d:qT7):Option qT23:=qc0 n d.1 d.2.1 d.2.2.1 d.2.2.2.1 d.2.2.2.2.1
noncomputable def qc2 (n:Nat) (a1:Int) (cmp4:Unit) (i11:Int) (j12:Int) (data0:qT1):Option (qT7 ⊕ ((Int × qT1 × Unit) ⊕ Empty)) :=
(iterN (qc1 n) n (a1,(),i11,j12,data0,())).bind (Sum.elim (fun d51 =>
(iterN (qcz n) n (d51.1,(),d51.2.2.1,d51.2.2.2.1,d51.2.2.2.2.1,())).bind (Sum.elim (fun d52 =>
bif (decide (d52.2.2.2.1<d52.2.2.1)) then
(some (.inr (.inl (d52.2.2.1,d52.2.2.2.2.1,()))))
else
((idx d52.2.2.2.2.1 d52.2.2.2.1).bind fun v53 =>
(idx d52.2.2.2.2.1 d52.2.2.1).bind fun v54 =>
(idx d52.2.2.2.2.1 d52.2.2.1).bind fun v55 =>
(idx (List.set d52.2.2.2.2.1 (d52.2.2.1).toNat v53) d52.2.2.2.1).bind fun v56 =>
some (.inl (d52.1,(),(IntKind.i64.wrap (d52.2.2.1+(1:Int))),(IntKind.i64.wrap (d52.2.2.2.1-(1:Int))),(List.set (List.set d52.2.2.2.2.1 (d52.2.2.1).toNat v53) (d52.2.2.2.1).toNat v54),())))) nof)) nof)
noncomputable def qc3 (n:Nat) (d:qT7):Option (qT7 ⊕ ((Int × qT1 × Unit) ⊕ Empty)):=qc2 n d.1 d.2.1 d.2.2.1 d.2.2.2.1 d.2.2.2.2.1
noncomputable def qc4 (n:Nat) (a1:Int) (b2:Int) (pivot3:Int) (datao0:qT1):Option ((Int × Unit) × (qT1 × Unit)) :=
(idx datao0 pivot3).bind fun v5 =>
(idx datao0 a1).bind fun v6 =>
(idx datao0 a1).bind fun v7 =>
(idx (List.set datao0 (a1).toNat v5) pivot3).bind fun v8 =>
(iterN (qc3 n) n (a1,(),(IntKind.i64.wrap (a1+(1:Int))),(IntKind.i64.wrap (b2-(1:Int))),(List.set (List.set datao0 (a1).toNat v5) (pivot3).toNat v6),())).bind (Sum.elim (fun d58 =>
some ((d58.1,()),(d58.2.1,()))) nof)
noncomputable def qc5 (n:Nat) (a1:Int) (cmp4:Unit) (i12:Int) (j13:Int) (data0:qT1):Option qT23 :=
(bif (decide (i12≤j13)) then
((idx data0 j13).bind fun v91 =>
(idx data0 a1).bind fun v92 =>
(qbz n v91 v92).bind fun r93 =>
some (.inl (a1,(),i12,j13,(!(decide (r93.1<(0:Int)))),data0,())))
else
(some (.inl (a1,(),i12,j13,false,data0,()))):Option qT18).bind (Sum.elim (fun d94 =>
bif d94.2.2.2.2.1 then
(some (.inl (d94.1,(),d94.2.2.1,(IntKind.i64.wrap (d94.2.2.2.1-(1:Int))),d94.2.2.2.2.2.1,())))
else
(some (.inr (.inl (d94.1,(),d94.2.2.1,d94.2.2.2.1,d94.2.2.2.2.2.1,()))))) nof)
noncomputable def qc6 (n:Nat) (d:qT7):Option qT23:=qc5 n d.1 d.2.1 d.2.2.1 d.2.2.2.1 d.2.2.2.2.1
noncomputable def qc7 (n:Nat) (a1:Int) (cmp4:Unit) (i12:Int) (j13:Int) (data0:qT1):Option qT23 :=
(bif (decide (i12≤j13)) then
((idx data0 i12).bind fun v74 =>
(idx data0 a1).bind fun v75 =>
(qbz n v74 v75).bind fun r76 =>
some (.inl (a1,(),i12,j13,(decide (r76.1<(0:Int))),data0,())))
else
(some (.inl (a1,(),i12,j13,false,data0,()))):Option qT18).bind (Sum.elim (fun d77 =>
bif d77.2.2.2.2.1 then
(some (.inl (d77.1,(),(IntKind.i64.wrap (d77.2.2.1+(1:Int))),d77.2.2.2.1,d77.2.2.2.2.2.1,())))
else
(some (.inr (.inl (d77.1,(),d77.2.2.1,d77.2.2.2.1,d77.2.2.2.2.2.1,()))))) nof)
noncomputable def qc8 (n:Nat) (d:qT7):Option qT23:=qc7 n d.1 d.2.1 d.2.2.1 d.2.2.2.1 d.2.2.2.2.1
noncomputable def qc9 (n:Nat) (a1:Int) (cmp4:Unit) (i12:Int) (j13:Int) (data0:qT1):Option (qT7 ⊕ (qT30 ⊕ Empty)) :=
(iterN (qc8 n) n (a1,(),i12,j13,data0,())).bind (Sum.elim (fun d105 =>
(iterN (qc6 n) n (d105.1,(),d105.2.2.1,d105.2.2.2.1,d105.2.2.2.2.1,())).bind (Sum.elim (fun d106 =>
bif (decide (d106.2.2.2.1<d106.2.2.1)) then
(some (.inr (.inl (d106.1,d106.2.2.2.1,d106.2.2.2.2.1,()))))
else
((idx d106.2.2.2.2.1 d106.2.2.2.1).bind fun v107 =>
(idx d106.2.2.2.2.1 d106.2.2.1).bind fun v108 =>
(idx d106.2.2.2.2.1 d106.2.2.1).bind fun v109 =>
(idx (List.set d106.2.2.2.2.1 (d106.2.2.1).toNat v107) d106.2.2.2.1).bind fun v110 =>
some (.inl (d106.1,(),(IntKind.i64.wrap (d106.2.2.1+(1:Int))),(IntKind.i64.wrap (d106.2.2.2.1-(1:Int))),(List.set (List.set d106.2.2.2.2.1 (d106.2.2.1).toNat v107) (d106.2.2.2.1).toNat v108),())))) nof)) nof)
noncomputable def qda (n:Nat) (d:qT7):Option (qT7 ⊕ (qT30 ⊕ Empty)):=qc9 n d.1 d.2.1 d.2.2.1 d.2.2.2.1 d.2.2.2.2.1
noncomputable def qdb (n:Nat) (a1:Int) (cmp4:Unit) (i12:Int) (j13:Int) (data0:qT1):Option qT23 :=
(bif (decide (i12≤j13)) then
((idx data0 j13).bind fun v37 =>
(idx data0 a1).bind fun v38 =>
(qbz n v37 v38).bind fun r39 =>
some (.inl (a1,(),i12,j13,(!(decide (r39.1<(0:Int)))),data0,())))
else
(some (.inl (a1,(),i12,j13,false,data0,()))):Option qT18).bind (Sum.elim (fun d40 =>
bif d40.2.2.2.2.1 then
(some (.inl (d40.1,(),d40.2.2.1,(IntKind.i64.wrap (d40.2.2.2.1-(1:Int))),d40.2.2.2.2.2.1,())))
else
(some (.inr (.inl (d40.1,(),d40.2.2.1,d40.2.2.2.1,d40.2.2.2.2.2.1,()))))) nof)
noncomputable def qdc (n:Nat) (d:qT7):Option qT23:=qdb n d.1 d.2.1 d.2.2.1 d.2.2.2.1 d.2.2.2.2.1
noncomputable def qdd (n:Nat) (a1:Int) (cmp4:Unit) (i12:Int) (j13:Int) (data0:qT1):Option qT23 :=
(bif (decide (i12≤j13)) then
((idx data0 i12).bind fun v20 =>
(idx data0 a1).bind fun v21 =>
(qbz n v20 v21).bind fun r22 =>
some (.inl (a1,(),i12,j13,(decide (r22.1<(0:Int))),data0,())))
else
(some (.inl (a1,(),i12,j13,false,data0,()))):Option qT18).bind (Sum.elim (fun d23 =>
bif d23.2.2.2.2.1 then
(some (.inl (d23.1,(),(IntKind.i64.wrap (d23.2.2.1+(1:Int))),d23.2.2.2.1,d23.2.2.2.2.2.1,())))
else
(some (.inr (.inl (d23.1,(),d23.2.2.1,d23.2.2.2.1,d23.2.2.2.2.2.1,()))))) nof)
noncomputable def qde (n:Nat) (d:qT7):Option qT23:=qdd n d.1 d.2.1 d.2.2.1 d.2.2.2.1 d.2.2.2.2.1
noncomputable def qdf (n:Nat) (a1:Int) (b2:Int) (pivot3:Int) (datao0:qT1):Option ((Int × (Bool × Unit)) × (qT1 × Unit)) :=
(idx datao0 pivot3).bind fun v5 =>
(idx datao0 a1).bind fun v6 =>
(idx datao0 a1).bind fun v7 =>
(idx (List.set datao0 (a1).toNat v5) pivot3).bind fun v8 =>
(iterN (qde n) n (a1,(),(IntKind.i64.wrap (a1+(1:Int))),(IntKind.i64.wrap (b2-(1:Int))),(List.set (List.set datao0 (a1).toNat v5) (pivot3).toNat v6),())).bind (Sum.elim (fun d25 =>
(iterN (qdc n) n (d25.1,(),d25.2.2.1,d25.2.2.2.1,d25.2.2.2.2.1,())).bind (Sum.elim (fun d42 =>
bif (decide (d42.2.2.2.1<d42.2.2.1)) then
((idx d42.2.2.2.2.1 d42.1).bind fun v51 =>
(idx d42.2.2.2.2.1 d42.2.2.2.1).bind fun v52 =>
(idx d42.2.2.2.2.1 d42.2.2.2.1).bind fun v53 =>
(idx (List.set d42.2.2.2.2.1 (d42.2.2.2.1).toNat v51) d42.1).bind fun v54 =>
some ((d42.2.2.2.1,(true,())),((List.set (List.set d42.2.2.2.2.1 (d42.2.2.2.1).toNat v51) (d42.1).toNat v52),())))
else
((idx d42.2.2.2.2.1 d42.2.2.2.1).bind fun v59 =>
(idx d42.2.2.2.2.1 d42.2.2.1).bind fun v60 =>
(idx d42.2.2.2.2.1 d42.2.2.1).bind fun v61 =>
(idx (List.set d42.2.2.2.2.1 (d42.2.2.1).toNat v59) d42.2.2.2.1).bind fun v62 =>
(iterN (qda n) n (d42.1,(),(IntKind.i64.wrap (d42.2.2.1+(1:Int))),(IntKind.i64.wrap (d42.2.2.2.1-(1:Int))),(List.set (List.set d42.2.2.2.2.1 (d42.2.2.1).toNat v59) (d42.2.2.2.1).toNat v60),())).bind (Sum.elim (fun d112 =>
(idx d112.2.2.1 d112.1).bind fun v117 =>
(idx d112.2.2.1 d112.2.1).bind fun v118 =>
(idx d112.2.2.1 d112.2.1).bind fun v119 =>
(idx (List.set d112.2.2.1 (d112.2.1).toNat v117) d112.1).bind fun v120 =>
some ((d112.2.1,(false,())),((List.set (List.set d112.2.2.1 (d112.2.1).toNat v117) (d112.1).toNat v118),()))) nof))) nof)) nof)
noncomputable def qdg (self_slices_pdqsortCmpFunc_api_Term__matrix_Entry_1:Int→Int→Int→qT1→Option qT25) (n:Nat) (a1:Int) (b2:Int) (limit3:Int) (cmp4:Unit) (wasBalanced10:Bool) (wasPartitioned11:Bool) (data0:qT1):Option (qT46 ⊕ qT15) :=
bif (decide ((IntKind.i64.wrap (b2-a1))≤(12:Int))) then
((qb4 n a1 b2 data0).bind fun r42 =>
some (.inr (.inl (r42.2.1,()))))
else
(bif (decide (limit3=(0:Int))) then
((qcc n a1 b2 data0).bind fun r43 =>
some (.inr (.inl (r43.2.1,()))))
else
((bif (!wasBalanced10) then
((qch n a1 b2 data0).bind fun r44 =>
some (.inl (a1,b2,(IntKind.i64.wrap (limit3-(1:Int))),(),wasBalanced10,wasPartitioned11,(IntKind.i64.wrap (b2-a1)),r44.2.1,())))
else
(some (.inl (a1,b2,limit3,(),wasBalanced10,wasPartitioned11,(IntKind.i64.wrap (b2-a1)),data0,()))):Option ((Int × Int × Int × Unit × Bool × Bool × Int × qT1 × Unit) ⊕ Empty)).bind (Sum.elim (fun d45 =>
(qcl n d45.2.2.2.2.2.2.2.1 d45.1 d45.2.1).bind fun r46 =>
(bif (decide (r46.2.1=(2:Int))) then
((qco n d45.1 d45.2.1 d45.2.2.2.2.2.2.2.1).bind fun r47 =>
some (.inl (d45.1,d45.2.1,d45.2.2.1,(),d45.2.2.2.2.1,d45.2.2.2.2.2.1,d45.2.2.2.2.2.2.1,(IntKind.i64.wrap ((IntKind.i64.wrap (d45.2.1-(1:Int)))-(IntKind.i64.wrap (r46.1-d45.1)))),(1:Int),r47.2.1,())))
else
(some (.inl (d45.1,d45.2.1,d45.2.2.1,(),d45.2.2.2.2.1,d45.2.2.2.2.2.1,d45.2.2.2.2.2.2.1,r46.1,r46.2.1,d45.2.2.2.2.2.2.2.1,()))):Option ((Int × Int × Int × Unit × Bool × Bool × Int × Int × Int × qT1 × Unit) ⊕ Empty)).bind (Sum.elim (fun d48 =>
((bif d48.2.2.2.2.1 then
(bif d48.2.2.2.2.2.1 then
(some (.inl (d48.1,d48.2.1,d48.2.2.1,(),d48.2.2.2.2.1,d48.2.2.2.2.2.1,d48.2.2.2.2.2.2.1,d48.2.2.2.2.2.2.2.1,(decide (d48.2.2.2.2.2.2.2.2.1=(1:Int))),d48.2.2.2.2.2.2.2.2.2.1,())))
else
(some (.inl (d48.1,d48.2.1,d48.2.2.1,(),d48.2.2.2.2.1,d48.2.2.2.2.2.1,d48.2.2.2.2.2.2.1,d48.2.2.2.2.2.2.2.1,false,d48.2.2.2.2.2.2.2.2.2.1,()))))
else
(some (.inl (d48.1,d48.2.1,d48.2.2.1,(),d48.2.2.2.2.1,d48.2.2.2.2.2.1,d48.2.2.2.2.2.2.1,d48.2.2.2.2.2.2.2.1,false,d48.2.2.2.2.2.2.2.2.2.1,()))):Option ((Int × Int × Int × Unit × Bool × Bool × Int × Int × Bool × qT1 × Unit) ⊕ Empty)).bind (Sum.elim (fun d49 =>
bif d49.2.2.2.2.2.2.2.2.1 then
((qcx n d49.1 d49.2.1 d49.2.2.2.2.2.2.2.2.2.1).bind fun r50 =>
bif r50.1.1 then
(some (.inl (r50.2.1,())))
else
(some (.inr (.inl (d49.1,d49.2.1,d49.2.2.1,(),d49.2.2.2.2.1,d49.2.2.2.2.2.1,d49.2.2.2.2.2.2.1,d49.2.2.2.2.2.2.2.1,r50.2.1,())))))
else
(some (.inr (.inl (d49.1,d49.2.1,d49.2.2.1,(),d49.2.2.2.2.1,d49.2.2.2.2.2.1,d49.2.2.2.2.2.2.1,d49.2.2.2.2.2.2.2.1,d49.2.2.2.2.2.2.2.2.2.1,()))))) nof):Option ((qT1 × Unit) ⊕ ((Int × Int × Int × Unit × Bool × Bool × Int × Int × qT1 × Unit) ⊕ Empty))).bind (Sum.elim (fun d60 =>
some (.inr (.inl (d60.1,())))) (Sum.elim (fun d51 =>
(bif (decide ((0:Int)<d51.1)) then
((idx d51.2.2.2.2.2.2.2.2.1 (IntKind.i64.wrap (d51.1-(1:Int)))).bind fun v52 =>
(idx d51.2.2.2.2.2.2.2.2.1 d51.2.2.2.2.2.2.2.1).bind fun v53 =>
(qbz n v52 v53).bind fun r54 =>
some (.inl (d51.1,d51.2.1,d51.2.2.1,(),d51.2.2.2.2.1,d51.2.2.2.2.2.1,d51.2.2.2.2.2.2.1,d51.2.2.2.2.2.2.2.1,(!(decide (r54.1<(0:Int)))),d51.2.2.2.2.2.2.2.2.1,())))
else
(some (.inl (d51.1,d51.2.1,d51.2.2.1,(),d51.2.2.2.2.1,d51.2.2.2.2.2.1,d51.2.2.2.2.2.2.1,d51.2.2.2.2.2.2.2.1,false,d51.2.2.2.2.2.2.2.2.1,()))):Option ((Int × Int × Int × Unit × Bool × Bool × Int × Int × Bool × qT1 × Unit) ⊕ Empty)).bind (Sum.elim (fun d55 =>
bif d55.2.2.2.2.2.2.2.2.1 then
((qc4 n d55.1 d55.2.1 d55.2.2.2.2.2.2.2.1 d55.2.2.2.2.2.2.2.2.2.1).bind fun r56 =>
some (.inl (r56.1.1,d55.2.1,d55.2.2.1,(),d55.2.2.2.2.1,d55.2.2.2.2.2.1,r56.2.1,())))
else
((qdf n d55.1 d55.2.1 d55.2.2.2.2.2.2.2.1 d55.2.2.2.2.2.2.2.2.2.1).bind fun r57 =>
bif decide ((8:Int)=0) then none else
bif (decide ((IntKind.i64.wrap (r57.1.1-d55.1))<(IntKind.i64.wrap (d55.2.1-r57.1.1)))) then
((self_slices_pdqsortCmpFunc_api_Term__matrix_Entry_1 d55.1 r57.1.1 d55.2.2.1 r57.2.1).bind fun r58 =>
some (.inl ((IntKind.i64.wrap (r57.1.1+(1:Int))),d55.2.1,d55.2.2.1,(),(decide ((IntKind.i64.wrap (Int.tdiv d55.2.2.2.2.2.2.1 (8:Int)))≤(IntKind.i64.wrap (r57.1.1-d55.1)))),r57.1.2.1,r58.2.1,())))
else
((self_slices_pdqsortCmpFunc_api_Term__matrix_Entry_1 (IntKind.i64.wrap (r57.1.1+(1:Int))) d55.2.1 d55.2.2.1 r57.2.1).bind fun r59 =>
some (.inl (d55.1,r57.1.1,d55.2.2.1,(),(decide ((IntKind.i64.wrap (Int.tdiv d55.2.2.2.2.2.2.1 (8:Int)))≤(IntKind.i64.wrap (d55.2.1-r57.1.1)))),r57.1.2.1,r59.2.1,()))))) nof)) nof))) nof)) nof)))
noncomputable def qdh (self_slices_pdqsortCmpFunc_api_Term__matrix_Entry_1:Int→Int→Int→qT1→Option qT25) (n:Nat) (d:qT46):Option (qT46 ⊕ qT15):=qdg self_slices_pdqsortCmpFunc_api_Term__matrix_Entry_1 n d.1 d.2.1 d.2.2.1 d.2.2.2.1 d.2.2.2.2.1 d.2.2.2.2.2.1 d.2.2.2.2.2.2.1
noncomputable def qdi (self_slices_pdqsortCmpFunc_api_Term__matrix_Entry_1:Int→Int→Int→qT1→Option qT25) (n:Nat) (a1:Int) (b2:Int) (limit3:Int) (datao0:qT1):Option qT25 :=
(iterN (qdh self_slices_pdqsortCmpFunc_api_Term__matrix_Entry_1 n) n (a1,b2,limit3,(),true,true,datao0,())).bind (Sum.elim (fun d61 =>
some ((),(d61.1,()))) nof)
noncomputable def qdj:Nat→Int→Int→Int→qT1→Option qT25
  | 0=>fun _ _ _ _=>none
  | n+1=>qdi (qdj n) n
noncomputable def qdk (n:Nat) (xo0:qT1):Option qT25 :=
(qbt n (IntKind.u64.wrap (xo0.length:Int))).bind fun r1 =>
(qdj n (0:Int) (xo0.length:Int) r1.1 xo0).bind fun r2 =>
some ((),(r2.2.1,()))
noncomputable def qdl (n:Nat) (n1:Int) (k2:Int) (j4:Int) (ends14:(List Int)) (m15:Int) (t18:Int) (t70:Int) (t71:Int) (t74:qT1) (t75:Int) (t76:Int) (t81:Int) (t82:Int) (later16:qT1) (at17:(List Int)) (p19:(Int × qT35)):Option (qT12 ⊕ (qT14 ⊕ Empty)) :=
bif (decide (t82<t81)) then
(((bif (decide (m15=(IntKind.i64.wrap (k2-(1:Int))))) then
(some (.inl (n1,k2,j4,ends14,m15,t18,t82,t70,t71,t74,t75,t76,t81,t82,(!decide (t82=j4)),later16,at17,p19,())))
else
(some (.inl (n1,k2,j4,ends14,m15,t18,t82,t70,t71,t74,t75,t76,t81,t82,false,later16,at17,p19,()))):Option ((Int × Int × Int × (List Int) × Int × Int × Int × Int × Int × qT1 × Int × Int × Int × Int × Bool × qT1 × (List Int) × (Int × qT35) × Unit) ⊕ Empty)).bind (Sum.elim (fun d26 =>
bif d26.2.2.2.2.2.2.2.2.2.2.2.2.2.2.1 then
(some (.inl (d26.1,d26.2.1,d26.2.2.1,d26.2.2.2.1,d26.2.2.2.2.1,d26.2.2.2.2.2.1,d26.2.2.2.2.2.2.2.1,d26.2.2.2.2.2.2.2.2.1,d26.2.2.2.2.2.2.2.2.2.1,d26.2.2.2.2.2.2.2.2.2.2.1,d26.2.2.2.2.2.2.2.2.2.2.2.1,d26.2.2.2.2.2.2.2.2.2.2.2.2.1,d26.2.2.2.2.2.2.2.2.2.2.2.2.2.1,d26.2.2.2.2.2.2.2.2.2.2.2.2.2.2.2.1,d26.2.2.2.2.2.2.2.2.2.2.2.2.2.2.2.2.1,d26.2.2.2.2.2.2.2.2.2.2.2.2.2.2.2.2.2.1,())))
else
((qbr n d26.2.2.2.2.2.2.2.2.2.2.2.2.2.2.2.2.2.1.2.1).bind fun r27 =>
(idx d26.2.2.2.1 d26.2.2.2.2.2.1).bind fun v28 =>
(idx r27.1 (IntKind.i64.wrap ((IntKind.i64.wrap ((IntKind.i64.wrap ((IntKind.i64.wrap (d26.2.2.2.2.1*d26.1))+v28))*d26.1))+d26.2.2.2.2.2.2.1))).bind fun v29 =>
chk (lenB ((d26.2.2.2.2.2.2.2.2.2.2.2.2.2.2.2.1).length+([((1:Int),((List.set r27.1 ((IntKind.i64.wrap ((IntKind.i64.wrap ((IntKind.i64.wrap ((IntKind.i64.wrap (d26.2.2.2.2.1*d26.1))+v28))*d26.1))+d26.2.2.2.2.2.2.1))).toNat (1:Int)),()))]).length)) (chk (lenB ((d26.2.2.2.2.2.2.2.2.2.2.2.2.2.2.2.2.1).length+([d26.2.2.2.2.2.2.1]).length)) (some (.inl (d26.1,d26.2.1,d26.2.2.1,d26.2.2.2.1,d26.2.2.2.2.1,d26.2.2.2.2.2.1,d26.2.2.2.2.2.2.2.1,d26.2.2.2.2.2.2.2.2.1,d26.2.2.2.2.2.2.2.2.2.1,d26.2.2.2.2.2.2.2.2.2.2.1,d26.2.2.2.2.2.2.2.2.2.2.2.1,d26.2.2.2.2.2.2.2.2.2.2.2.2.1,d26.2.2.2.2.2.2.2.2.2.2.2.2.2.1,(d26.2.2.2.2.2.2.2.2.2.2.2.2.2.2.2.1++[((1:Int),((List.set r27.1 ((IntKind.i64.wrap ((IntKind.i64.wrap ((IntKind.i64.wrap ((IntKind.i64.wrap (d26.2.2.2.2.1*d26.1))+v28))*d26.1))+d26.2.2.2.2.2.2.1))).toNat (1:Int)),()))]),(d26.2.2.2.2.2.2.2.2.2.2.2.2.2.2.2.2.1++[d26.2.2.2.2.2.2.1]),d26.2.2.2.2.2.2.2.2.2.2.2.2.2.2.2.2.2.1,())))))) nof):Option (qT12 ⊕ Empty)).bind (Sum.elim (fun d30 =>
some (.inl (d30.1,d30.2.1,d30.2.2.1,d30.2.2.2.1,d30.2.2.2.2.1,d30.2.2.2.2.2.1,d30.2.2.2.2.2.2.1,d30.2.2.2.2.2.2.2.1,d30.2.2.2.2.2.2.2.2.1,d30.2.2.2.2.2.2.2.2.2.1,d30.2.2.2.2.2.2.2.2.2.2.1,d30.2.2.2.2.2.2.2.2.2.2.2.1,(IntKind.i64.wrap (d30.2.2.2.2.2.2.2.2.2.2.2.2.1+(1:Int))),d30.2.2.2.2.2.2.2.2.2.2.2.2.2.1,d30.2.2.2.2.2.2.2.2.2.2.2.2.2.2.1,d30.2.2.2.2.2.2.2.2.2.2.2.2.2.2.2.1,()))) nof))
else
(some (.inr (.inl (n1,k2,j4,ends14,m15,t70,t71,t74,t75,t76,later16,at17,()))))
noncomputable def qdm (n:Nat) (d:qT12):Option (qT12 ⊕ (qT14 ⊕ Empty)):=qdl n d.1 d.2.1 d.2.2.1 d.2.2.2.1 d.2.2.2.2.1 d.2.2.2.2.2.1 d.2.2.2.2.2.2.1 d.2.2.2.2.2.2.2.1 d.2.2.2.2.2.2.2.2.1 d.2.2.2.2.2.2.2.2.2.1 d.2.2.2.2.2.2.2.2.2.2.1 d.2.2.2.2.2.2.2.2.2.2.2.1 d.2.2.2.2.2.2.2.2.2.2.2.2.1 d.2.2.2.2.2.2.2.2.2.2.2.2.2.1 d.2.2.2.2.2.2.2.2.2.2.2.2.2.2.1 d.2.2.2.2.2.2.2.2.2.2.2.2.2.2.2.1
noncomputable def qdn (n:Nat) (n1:Int) (k2:Int) (j4:Int) (ends14:(List Int)) (m15:Int) (t70:Int) (t71:Int) (t74:qT1) (t75:Int) (t76:Int) (later16:qT1) (at17:(List Int)):Option (qT14 ⊕ qT24) :=
bif (decide (t76<t75)) then
((idx t74 t76).bind fun v34 =>
(iterN (qdm n) n (n1,k2,j4,ends14,m15,t76,t70,t71,t74,t75,t76,n1,(0:Int),later16,at17,v34,())).bind (Sum.elim (fun d35 =>
some (.inl (d35.1,d35.2.1,d35.2.2.1,d35.2.2.2.1,d35.2.2.2.2.1,d35.2.2.2.2.2.1,d35.2.2.2.2.2.2.1,d35.2.2.2.2.2.2.2.1,d35.2.2.2.2.2.2.2.2.1,(IntKind.i64.wrap (d35.2.2.2.2.2.2.2.2.2.1+(1:Int))),d35.2.2.2.2.2.2.2.2.2.2.1,d35.2.2.2.2.2.2.2.2.2.2.2.1,()))) nof))
else
(some (.inr (.inl (n1,k2,j4,t70,t71,later16,at17,()))))
noncomputable def qdo (n:Nat) (d:qT14):Option (qT14 ⊕ qT24):=qdn n d.1 d.2.1 d.2.2.1 d.2.2.2.1 d.2.2.2.2.1 d.2.2.2.2.2.1 d.2.2.2.2.2.2.1 d.2.2.2.2.2.2.2.1 d.2.2.2.2.2.2.2.2.1 d.2.2.2.2.2.2.2.2.2.1 d.2.2.2.2.2.2.2.2.2.2.1 d.2.2.2.2.2.2.2.2.2.2.2.1
noncomputable def qdp (n:Nat) (n1:Int) (k2:Int) (j4:Int) (ends14:(List Int)) (t70:Int) (t71:Int) (paths13:qT1):Option (qT41 ⊕ qT15) :=
bif (decide (t71<t70)) then
((iterN (qdo n) n (n1,k2,j4,ends14,t71,t70,t71,paths13,(paths13.length:Int),(0:Int),([]:qT1),([]:(List Int)),())).bind (Sum.elim (fun d39 =>
some (.inl (d39.1,d39.2.1,d39.2.2.1,d39.2.2.2.2.2.2.1,d39.2.2.2.1,(IntKind.i64.wrap (d39.2.2.2.2.1+(1:Int))),d39.2.2.2.2.2.1,()))) nof))
else
(some (.inr (.inl (paths13,()))))
noncomputable def qdq (n:Nat) (d:qT41):Option (qT41 ⊕ qT15):=qdp n d.1 d.2.1 d.2.2.1 d.2.2.2.1 d.2.2.2.2.1 d.2.2.2.2.2.1 d.2.2.2.2.2.2.1
noncomputable def qdr (n:Nat) (F0:qT9) (n1:Int) (k2:Int) (i3:Int) (j4:Int):Option (qT1 × (Int × Unit)) :=
(qae n F0 n1 k2).bind fun r3 =>
bif (!decide (r3.1=(0:Int))) then
(some (([]:qT1),(r3.1,())))
else
((bif (decide (i3<(0:Int))) then
(some (.inl (n1,k2,i3,j4,true,())))
else
(bif (decide (n1≤i3)) then
(some (.inl (n1,k2,i3,j4,true,())))
else
(bif (decide (j4<(0:Int))) then
(some (.inl (n1,k2,i3,j4,true,())))
else
(some (.inl (n1,k2,i3,j4,(decide (n1≤j4)),()))))):Option qT48).bind (Sum.elim (fun d8 =>
bif d8.2.2.2.2.1 then
(some (([]:qT1),((2:Int),())))
else
((bif (decide ((64:Int)<(IntKind.i64.wrap ((IntKind.i64.wrap (d8.2.1*d8.1))*d8.1)))) then
(some (.inl (d8.1,d8.2.1,d8.2.2.1,d8.2.2.2.1,true,())))
else
((qak n d8.1 (IntKind.i64.wrap (d8.2.1-(1:Int))) (20000:Int)).bind fun r9 =>
some (.inl (d8.1,d8.2.1,d8.2.2.1,d8.2.2.2.1,(decide ((20000:Int)<r9.1)),()))):Option qT48).bind (Sum.elim (fun d10 =>
bif d10.2.2.2.2.1 then
(some (([]:qT1),((5:Int),())))
else
(chk (decide (0≤(IntKind.i64.wrap ((IntKind.i64.wrap (d10.2.1*d10.1))*d10.1)))) (chk (decide ((IntKind.i64.wrap ((IntKind.i64.wrap (d10.2.1*d10.1))*d10.1))≤(IntKind.i64.wrap ((IntKind.i64.wrap (d10.2.1*d10.1))*d10.1)))) (chk (lenB ((IntKind.i64.wrap ((IntKind.i64.wrap (d10.2.1*d10.1))*d10.1))).toNat) ((iterN (qdq n) n (d10.1,d10.2.1,d10.2.2.2.1,[d10.2.2.1],d10.2.1,(0:Int),[((1:Int),((List.replicate ((IntKind.i64.wrap ((IntKind.i64.wrap (d10.2.1*d10.1))*d10.1))).toNat (0:Int)),()))],())).bind (Sum.elim (fun d41 =>
(qdk n d41.1).bind fun r43 =>
some (r43.2.1,((0:Int),()))) nof)))))) nof))) nof))
noncomputable def qds (n:Nat) (n0:Int) (d3:Int):Option (qT16 ⊕ qT13) :=
bif (decide ((IntKind.i64.wrap (d3*d3))≤n0)) then
(bif decide (d3=0) then none else
bif (decide ((Int.tmod n0 d3)=(0:Int))) then
(some (.inr (.inl (false,()))))
else
(some (.inl (n0,(IntKind.i64.wrap (d3+(1:Int))),()))))
else
(some (.inr (.inr (.inl (())))))
noncomputable def qdt (n:Nat) (d:qT16):Option (qT16 ⊕ qT13):=qds n d.1 d.2.1
noncomputable def qdu (n:Nat) (n0:Int):Option (Bool × Unit) :=
(bif (decide (n0<(2:Int))) then
(some (.inl (n0,true,())))
else
(some (.inl (n0,(decide ((65536:Int)<n0)),()))):Option ((Int × Bool × Unit) ⊕ Empty)).bind (Sum.elim (fun d2 =>
bif d2.2.1 then
(some (false,()))
else
((iterN (qdt n) n (d2.1,(2:Int),())).bind (Sum.elim (fun d6 =>
some (d6.1,())) (Sum.elim (fun d5 =>
some (true,())) nof)))) nof)
noncomputable def qdv (n:Nat) (f0:qT9):Option (Bool × Unit) :=
((qdu n f0.1).bind fun r4 =>
bif (!r4.1) then
(some (.inl (f0,true,())))
else
(bif (decide (f0.2.1<(1:Int))) then
(some (.inl (f0,true,())))
else
(bif (decide ((16:Int)<f0.2.1)) then
(some (.inl (f0,true,())))
else
(bif (decide ((1:Int)<f0.2.1)) then
(some (.inl (f0,(!decide (f0.1=(2:Int))),())))
else
(some (.inl (f0,false,())))))):Option ((qT9 × Bool × Unit) ⊕ Empty)).bind (Sum.elim (fun d5 =>
bif d5.2.1 then
(some (false,()))
else
(bif (decide (d5.1.2.1=(1:Int))) then
(some (true,()))
else
(bif decide (d5.1.2.1<0) then none else
some ((decide ((IntKind.i64.wrap ((1:Int)*2 ^ (min (d5.1.2.1).toNat IntKind.i64.bits)))≤(65536:Int))),())))) nof)
noncomputable def qdw (n:Nat) (a0:Int) (d3:Int):Option (qT16 ⊕ qT11) :=
bif (decide ((0:Int)<a0)) then
(bif decide ((1:Int)<0) then none else
some (.inl ((Int.fdiv a0 (2 ^ (min ((1:Int)).toNat IntKind.i64.bits))),(IntKind.i64.wrap (d3+(1:Int))),())))
else
(some (.inr (.inl (d3,()))))
noncomputable def qdx (n:Nat) (d:qT16):Option (qT16 ⊕ qT11):=qdw n d.1 d.2.1
noncomputable def qdy (n:Nat) (a0:Int):Option (Int × Unit) :=
(iterN (qdx n) n (a0,(-1:Int),())).bind (Sum.elim (fun d2 =>
some (d2.1,())) nof)
noncomputable def qdz (n:Nat) (a0:Int) (b1:Int):Option (qT16 ⊕ qT11) :=
(qdy n a0).bind fun r9 =>
(qdy n b1).bind fun r10 =>
bif (decide (r10.1≤r9.1)) then
((qdy n a0).bind fun r11 =>
(qdy n b1).bind fun r12 =>
bif decide ((IntKind.i64.wrap (r11.1-r12.1))<0) then none else
some (.inl ((IntKind.i64.wrap ((BitVec.ofInt IntKind.i64.bits a0 ^^^ BitVec.ofInt IntKind.i64.bits (IntKind.i64.wrap (b1*2 ^ (min ((IntKind.i64.wrap (r11.1-r12.1))).toNat IntKind.i64.bits)))).toNat)),b1,())))
else
(some (.inr (.inl (a0,()))))
noncomputable def qd0 (n:Nat) (d:qT16):Option (qT16 ⊕ qT11):=qdz n d.1 d.2.1
noncomputable def qd1 (n:Nat) (a0:Int) (b1:Int):Option (Int × Unit) :=
(iterN (qd0 n) n (a0,b1,())).bind (Sum.elim (fun d14 =>
some (d14.1,())) nof)
noncomputable def qd2 (n:Nat) (a0:Int) (b3:Int):Option (qT16 ⊕ qT13) :=
(qdy n b3).bind fun r10 =>
(qdy n a0).bind fun r11 =>
bif (decide ((IntKind.i64.wrap ((2:Int)*r10.1))≤r11.1)) then
((qd1 n a0 b3).bind fun r12 =>
bif (decide (r12.1=(0:Int))) then
(some (.inr (.inl (false,()))))
else
(some (.inl (a0,(IntKind.i64.wrap (b3+(2:Int))),()))))
else
(some (.inr (.inr (.inl (())))))
noncomputable def qd3 (n:Nat) (d:qT16):Option (qT16 ⊕ qT13):=qd2 n d.1 d.2.1
noncomputable def qd4 (n:Nat) (a0:Int):Option (Bool × Unit) :=
bif (decide ((IntKind.i64.wrap ((BitVec.ofInt IntKind.i64.bits a0 &&& BitVec.ofInt IntKind.i64.bits (1:Int)).toNat))=(0:Int))) then
(some ((decide (a0=(2:Int))),()))
else
((iterN (qd3 n) n (a0,(3:Int),())).bind (Sum.elim (fun d16 =>
some (d16.1,())) (Sum.elim (fun d15 =>
some (true,())) nof)))
noncomputable def qd5 (n:Nat) (a3:Int):Option qT47 :=
(qd4 n a3).bind fun r4 =>
bif (!r4.1) then
(some (.inl ((IntKind.i64.wrap (a3+(1:Int))),())))
else
(some (.inr (.inl (a3,()))))
noncomputable def qd6 (n:Nat) (d:(Int × Unit)):Option qT47:=qd5 n d.1
noncomputable def qd7 (n:Nat) (m0:Int):Option (Int × Unit) :=
bif decide (m0<0) then none else
(iterN (qd6 n) n ((IntKind.i64.wrap ((1:Int)*2 ^ (min (m0).toNat IntKind.i64.bits))),())).bind (Sum.elim (fun d6 =>
some (d6.1,())) nof)
noncomputable def qd8 (n:Nat) (f0:qT9):Option (qT3 × Unit) :=
bif (decide (f0.2.1=(1:Int))) then
(some ((f0.1,((1:Int),(f0.1,((0:Int),())))),()))
else
(bif decide (f0.2.1<0) then none else
(qd7 n f0.2.1).bind fun r1 =>
some (((2:Int),(f0.2.1,((IntKind.i64.wrap ((1:Int)*2 ^ (min (f0.2.1).toNat IntKind.i64.bits))),(r1.1,())))),()))
noncomputable def qd9 (n:Nat) (a0:(List Int)) (b1:(List Int)) (i5:Int):Option (qT27 ⊕ qT13) :=
bif (decide (i5<(a0.length:Int))) then
((idx a0 i5).bind fun v11 =>
(idx b1 i5).bind fun v12 =>
bif (!decide (v11=v12)) then
((idx a0 i5).bind fun v13 =>
(idx b1 i5).bind fun v14 =>
some (.inr (.inl ((decide (v13<v14)),()))))
else
(some (.inl (a0,b1,(IntKind.i64.wrap (i5+(1:Int))),()))))
else
(some (.inr (.inr (.inl (())))))
noncomputable def qea (n:Nat) (d:qT27):Option (qT27 ⊕ qT13):=qd9 n d.1 d.2.1 d.2.2.1
noncomputable def qeb (n:Nat) (a0:(List Int)) (b1:(List Int)):Option (Bool × Unit) :=
(iterN (qea n) n (a0,b1,(0:Int),())).bind (Sum.elim (fun d18 =>
some (d18.1,())) (Sum.elim (fun d17 =>
some (false,())) nof))
noncomputable def qec (n:Nat) (p1:qT1) (x2:qT3) (n6:Int) (i7:Int) (k8:Int):Option ((qT1 × qT3 × Int × Int × Int × Unit) ⊕ ((Int × Bool × Unit) ⊕ (qT40 ⊕ Empty))) :=
bif (decide (k8<n6)) then
(((idx p1 i7).bind fun v39 =>
(idx v39.2.1 k8).bind fun v40 =>
bif (decide (v40<(0:Int))) then
(some (.inl (p1,x2,n6,i7,k8,true,())))
else
((idx p1 i7).bind fun v41 =>
(idx v41.2.1 k8).bind fun v42 =>
some (.inl (p1,x2,n6,i7,k8,(decide ((65535:Int)<v42)),()))):Option ((qT1 × qT3 × Int × Int × Int × Bool × Unit) ⊕ Empty)).bind (Sum.elim (fun d43 =>
bif d43.2.2.2.2.2.1 then
(some (.inr (.inl ((0:Int),false,()))))
else
(some (.inl (d43.1,d43.2.1,d43.2.2.1,d43.2.2.2.1,(IntKind.i64.wrap (d43.2.2.2.2.1+(1:Int))),())))) nof))
else
(some (.inr (.inr (.inl (p1,x2,n6,i7,())))))
noncomputable def qed (n:Nat) (d:(qT1 × qT3 × Int × Int × Int × Unit)):Option ((qT1 × qT3 × Int × Int × Int × Unit) ⊕ ((Int × Bool × Unit) ⊕ (qT40 ⊕ Empty))):=qec n d.1 d.2.1 d.2.2.1 d.2.2.2.1 d.2.2.2.2.1
noncomputable def qee (n:Nat) (p1:qT1) (x2:qT3) (n6:Int) (i7:Int):Option (qT40 ⊕ ((Int × Bool × Unit) ⊕ qT11)) :=
bif (decide (i7<(p1.length:Int))) then
(((idx p1 i7).bind fun v55 =>
bif (!decide ((v55.2.1.length:Int)=n6)) then
(some (.inl (p1,x2,n6,i7,true,())))
else
((idx p1 i7).bind fun v56 =>
bif (decide (v56.1<(1:Int))) then
(some (.inl (p1,x2,n6,i7,true,())))
else
((idx p1 i7).bind fun v57 =>
bif (decide (x2.2.2.1≤v57.1)) then
(some (.inl (p1,x2,n6,i7,true,())))
else
(bif (decide ((0:Int)<i7)) then
((idx p1 (IntKind.i64.wrap (i7-(1:Int)))).bind fun v58 =>
(idx p1 i7).bind fun v59 =>
(qeb n v58.2.1 v59.2.1).bind fun r60 =>
some (.inl (p1,x2,n6,i7,(!r60.1),())))
else
(some (.inl (p1,x2,n6,i7,false,())))))):Option ((qT1 × qT3 × Int × Int × Bool × Unit) ⊕ Empty)).bind (Sum.elim (fun d61 =>
bif d61.2.2.2.2.1 then
(some (.inr (.inl ((0:Int),false,()))))
else
((iterN (qed n) n (d61.1,d61.2.1,d61.2.2.1,d61.2.2.2.1,(0:Int),())).bind (Sum.elim (fun d63 =>
some (.inr (.inl (d63.1,d63.2.1,())))) (Sum.elim (fun d62 =>
some (.inl (d62.1,d62.2.1,d62.2.2.1,(IntKind.i64.wrap (d62.2.2.2.1+(1:Int))),()))) nof)))) nof))
else
(some (.inr (.inr (.inl (n6,())))))
noncomputable def qef (n:Nat) (d:qT40):Option (qT40 ⊕ ((Int × Bool × Unit) ⊕ qT11)):=qee n d.1 d.2.1 d.2.2.1 d.2.2.2.1
noncomputable def qeg (n:Nat) (x0:qT3) (p1:qT1):Option (Int × (Bool × Unit)) :=
bif (decide ((p1.length:Int)=(0:Int))) then
(some ((-1:Int),(true,())))
else
((idx p1 (0:Int)).bind fun v2 =>
(bif (decide ((80:Int)<(v2.2.1.length:Int))) then
(some (.inl (p1,x0,(v2.2.1.length:Int),true,())))
else
(some (.inl (p1,x0,(v2.2.1.length:Int),(decide ((20000:Int)<(p1.length:Int))),()))):Option ((qT1 × qT3 × Int × Bool × Unit) ⊕ Empty)).bind (Sum.elim (fun d4 =>
bif d4.2.2.2.1 then
(some ((0:Int),(false,())))
else
((iterN (qef n) n (d4.1,d4.2.1,d4.2.2.1,(0:Int),())).bind (Sum.elim (fun d67 =>
some (d67.1,(d67.2.1,()))) (Sum.elim (fun d66 =>
some (d66.1,(true,()))) nof)))) nof))
noncomputable def qeh (self_ref13_count:qT0→Int→Option qT9) (n:Nat) (l0:qT0) (levels1:Int) (n6:Int) (deep7:Int) (i8:Int):Option (qT44 ⊕ (qT16 ⊕ Empty)) :=
(bif (decide (i8<(l0.length:Int))) then
(bif (decide ((0:Int)<levels1)) then
(some (.inl (l0,levels1,n6,deep7,i8,(decide (n6≤(200000:Int))),())))
else
(some (.inl (l0,levels1,n6,deep7,i8,false,()))))
else
(some (.inl (l0,levels1,n6,deep7,i8,false,()))):Option ((qT0 × Int × Int × Int × Int × Bool × Unit) ⊕ Empty)).bind (Sum.elim (fun d13 =>
bif d13.2.2.2.2.2.1 then
(((idx d13.1 d13.2.2.2.2.1).bind fun v14 =>
bif (decide ((Rose.val v14).1.1=(2:Int))) then
((idx d13.1 d13.2.2.2.2.1).bind fun v15 =>
(self_ref13_count (Rose.kids v15) (IntKind.i64.wrap (d13.2.1-(1:Int)))).bind fun r16 =>
some (.inl (d13.1,d13.2.1,(IntKind.i64.wrap (d13.2.2.1+r16.1)),(if (IntKind.i64.wrap (r16.2.1+(1:Int))) > d13.2.2.2.1 then (IntKind.i64.wrap (r16.2.1+(1:Int))) else d13.2.2.2.1),d13.2.2.2.2.1,())))
else
(some (.inl (d13.1,d13.2.1,d13.2.2.1,d13.2.2.2.1,d13.2.2.2.2.1,()))):Option (qT44 ⊕ Empty)).bind (Sum.elim (fun d17 =>
some (.inl (d17.1,d17.2.1,d17.2.2.1,d17.2.2.2.1,(IntKind.i64.wrap (d17.2.2.2.2.1+(1:Int))),()))) nof))
else
(some (.inr (.inl (d13.2.2.1,d13.2.2.2.1,()))))) nof)
noncomputable def qei (self_ref13_count:qT0→Int→Option qT9) (n:Nat) (d:qT44):Option (qT44 ⊕ (qT16 ⊕ Empty)):=qeh self_ref13_count n d.1 d.2.1 d.2.2.1 d.2.2.2.1 d.2.2.2.2.1
noncomputable def qej (self_ref13_count:qT0→Int→Option qT9) (n:Nat) (l0:qT0) (levels1:Int):Option qT9 :=
(iterN (qei self_ref13_count n) n (l0,levels1,(l0.length:Int),(0:Int),(0:Int),())).bind (Sum.elim (fun d19 =>
some (d19.1,(d19.2.1,()))) nof)
noncomputable def qek:Nat→qT0→Int→Option qT9
  | 0=>fun _ _=>none
  | n+1=>qej (qek n) n
noncomputable def qel (n:Nat) (x0:qT3) (a1:Int):Option (Bool × Unit) :=
bif (decide ((0:Int)≤a1)) then
(some ((decide (a1<x0.2.2.1)),()))
else
(some (false,()))
noncomputable def qem (n:Nat) (p4:qT4) (s7:qT6) (i9:Int):Option ((qT4 × qT6 × Int × Unit) ⊕ qT13) :=
bif (decide (i9<(s7.2.2.2.2.2.1.length:Int))) then
((idx s7.2.2.2.2.2.1 i9).bind fun v25 =>
(bif (decide (v25.2.1<(0:Int))) then
(some (.inl (p4,s7,i9,true,())))
else
(bif v25.1 then
(bif (decide (p4.2.2.1≤v25.2.1)) then
(some (.inl (p4,s7,i9,true,())))
else
(bif (!v25.1) then
(bif (decide (p4.2.1≤v25.2.1)) then
(some (.inl (p4,s7,i9,true,())))
else
(some (.inl (p4,s7,i9,(decide (v25.2.1=s7.2.1)),()))))
else
(some (.inl (p4,s7,i9,false,())))))
else
(bif (!v25.1) then
(bif (decide (p4.2.1≤v25.2.1)) then
(some (.inl (p4,s7,i9,true,())))
else
(some (.inl (p4,s7,i9,(decide (v25.2.1=s7.2.1)),()))))
else
(some (.inl (p4,s7,i9,false,()))))):Option ((qT4 × qT6 × Int × Bool × Unit) ⊕ Empty)).bind (Sum.elim (fun d26 =>
bif d26.2.2.2.1 then
(some (.inr (.inl (false,()))))
else
(some (.inl (d26.1,d26.2.1,(IntKind.i64.wrap (d26.2.2.1+(1:Int))),())))) nof))
else
(some (.inr (.inr (.inl (())))))
noncomputable def qen (n:Nat) (d:(qT4 × qT6 × Int × Unit)):Option ((qT4 × qT6 × Int × Unit) ⊕ qT13):=qem n d.1 d.2.1 d.2.2.1
noncomputable def qeo (n:Nat) (p0:qT4) (x1:qT3) (vars2:(List Int)) (s3:(Rose ((Int × (Int × (Int × (Int × (Int × (qT10 × Unit)))))) × Unit))):Option (Bool × Unit) :=
(bif (decide ((Rose.val s3).1.2.1<(0:Int))) then
(some (.inl (vars2,p0,((Rose.val s3).1.1,((Rose.val s3).1.2.1,((Rose.val s3).1.2.2.1,((Rose.val s3).1.2.2.2.1,((Rose.val s3).1.2.2.2.2.1,((Rose.val s3).1.2.2.2.2.2.1,((Rose.kids s3),()))))))),true,())))
else
(bif (decide (p0.2.1≤(Rose.val s3).1.2.1)) then
(some (.inl (vars2,p0,((Rose.val s3).1.1,((Rose.val s3).1.2.1,((Rose.val s3).1.2.2.1,((Rose.val s3).1.2.2.2.1,((Rose.val s3).1.2.2.2.2.1,((Rose.val s3).1.2.2.2.2.2.1,((Rose.kids s3),()))))))),true,())))
else
((qel n x1 (Rose.val s3).1.2.2.1).bind fun r4 =>
bif (!r4.1) then
(some (.inl (vars2,p0,((Rose.val s3).1.1,((Rose.val s3).1.2.1,((Rose.val s3).1.2.2.1,((Rose.val s3).1.2.2.2.1,((Rose.val s3).1.2.2.2.2.1,((Rose.val s3).1.2.2.2.2.2.1,((Rose.kids s3),()))))))),true,())))
else
(bif (decide ((Rose.val s3).1.2.2.2.1<(0:Int))) then
(some (.inl (vars2,p0,((Rose.val s3).1.1,((Rose.val s3).1.2.1,((Rose.val s3).1.2.2.1,((Rose.val s3).1.2.2.2.1,((Rose.val s3).1.2.2.2.2.1,((Rose.val s3).1.2.2.2.2.2.1,((Rose.kids s3),()))))))),true,())))
else
(bif (decide ((vars2.length:Int)≤(Rose.val s3).1.2.2.2.1)) then
(some (.inl (vars2,p0,((Rose.val s3).1.1,((Rose.val s3).1.2.1,((Rose.val s3).1.2.2.1,((Rose.val s3).1.2.2.2.1,((Rose.val s3).1.2.2.2.2.1,((Rose.val s3).1.2.2.2.2.2.1,((Rose.kids s3),()))))))),true,())))
else
(bif (!decide ((Rose.val s3).1.2.2.2.2.1=(0:Int))) then
(some (.inl (vars2,p0,((Rose.val s3).1.1,((Rose.val s3).1.2.1,((Rose.val s3).1.2.2.1,((Rose.val s3).1.2.2.2.1,((Rose.val s3).1.2.2.2.2.1,((Rose.val s3).1.2.2.2.2.2.1,((Rose.kids s3),()))))))),true,())))
else
(some (.inl (vars2,p0,((Rose.val s3).1.1,((Rose.val s3).1.2.1,((Rose.val s3).1.2.2.1,((Rose.val s3).1.2.2.2.1,((Rose.val s3).1.2.2.2.2.1,((Rose.val s3).1.2.2.2.2.2.1,((Rose.kids s3),()))))))),(decide ((0:Int)<(((Rose.kids s3)).length:Int))),())))))))):Option (((List Int) × qT4 × qT6 × Bool × Unit) ⊕ Empty)).bind (Sum.elim (fun d5 =>
bif d5.2.2.2.1 then
(some (false,()))
else
(((idx d5.1 d5.2.2.1.2.2.2.1).bind fun v15 =>
bif (decide ((0:Int)≤v15)) then
((idx d5.1 d5.2.2.1.2.2.2.1).bind fun v16 =>
bif (!decide ((d5.2.2.1.2.2.2.2.2.1.length:Int)=v16)) then
(some (.inl (d5.2.1,d5.2.2.1,true,())))
else
((idx d5.1 d5.2.2.1.2.2.2.1).bind fun v17 =>
bif (decide (v17<(0:Int))) then
(some (.inl (d5.2.1,d5.2.2.1,(decide ((80:Int)<(d5.2.2.1.2.2.2.2.2.1.length:Int))),())))
else
(some (.inl (d5.2.1,d5.2.2.1,false,())))))
else
((idx d5.1 d5.2.2.1.2.2.2.1).bind fun v18 =>
bif (decide (v18<(0:Int))) then
(some (.inl (d5.2.1,d5.2.2.1,(decide ((80:Int)<(d5.2.2.1.2.2.2.2.2.1.length:Int))),())))
else
(some (.inl (d5.2.1,d5.2.2.1,false,())))):Option ((qT4 × qT6 × Bool × Unit) ⊕ Empty)).bind (Sum.elim (fun d19 =>
bif d19.2.2.1 then
(some (false,()))
else
((iterN (qen n) n (d19.1,d19.2.1,(0:Int),())).bind (Sum.elim (fun d30 =>
some (d30.1,())) (Sum.elim (fun d29 =>
some (true,())) nof)))) nof))) nof)
noncomputable def qep (self_ref13_body:qT4→qT3→(List Int)→qT0→Option (Bool × Unit)) (n:Nat) (vars2:(List Int)) (l3:qT0) (p4:qT4) (x5:qT3) (i9:Int):Option (qT36 ⊕ qT13) :=
bif (decide (i9<(l3.length:Int))) then
(((idx l3 i9).bind fun v19 =>
bif (decide ((Rose.val v19).1.1=(0:Int))) then
((qeo n p4 x5 vars2 (Rose.node (((Rose.val v19).1.1,((Rose.val v19).1.2.1,((Rose.val v19).1.2.2.1,((Rose.val v19).1.2.2.2.1,((Rose.val v19).1.2.2.2.2.1,((Rose.val v19).1.2.2.2.2.2.1,())))))),()) (Rose.kids v19))).bind fun r20 =>
bif (!r20.1) then
(some (.inl (false,())))
else
(some (.inr (.inl (vars2,l3,p4,x5,i9,())))))
else
(bif (decide ((Rose.val v19).1.1=(1:Int))) then
((bif (decide ((Rose.val v19).1.2.1<(0:Int))) then
(some (.inl (vars2,l3,p4,x5,i9,true,())))
else
(bif (decide (p4.2.1≤(Rose.val v19).1.2.1)) then
(some (.inl (vars2,l3,p4,x5,i9,true,())))
else
((qel n x5 (Rose.val v19).1.2.2.1).bind fun r21 =>
bif (!r21.1) then
(some (.inl (vars2,l3,p4,x5,i9,true,())))
else
(bif (decide ((Rose.val v19).1.2.2.1=(0:Int))) then
(some (.inl (vars2,l3,p4,x5,i9,true,())))
else
(bif (!decide ((Rose.val v19).1.2.2.2.1=(0:Int))) then
(some (.inl (vars2,l3,p4,x5,i9,true,())))
else
(bif (!decide ((Rose.val v19).1.2.2.2.2.1=(0:Int))) then
(some (.inl (vars2,l3,p4,x5,i9,true,())))
else
(bif (decide ((0:Int)<(((Rose.val v19).1.2.2.2.2.2.1).length:Int))) then
(some (.inl (vars2,l3,p4,x5,i9,true,())))
else
(some (.inl (vars2,l3,p4,x5,i9,(decide ((0:Int)<(((Rose.kids v19)).length:Int))),()))))))))):Option (((List Int) × qT0 × qT4 × qT3 × Int × Bool × Unit) ⊕ Empty)).bind (Sum.elim (fun d22 =>
bif d22.2.2.2.2.2.1 then
(some (.inl (false,())))
else
(some (.inr (.inl (d22.1,d22.2.1,d22.2.2.1,d22.2.2.2.1,d22.2.2.2.2.1,()))))) nof))
else
(bif (decide ((Rose.val v19).1.1=(2:Int))) then
((bif (decide ((Rose.val v19).1.2.2.2.2.1<(0:Int))) then
(some (.inl (vars2,l3,p4,x5,i9,true,())))
else
(bif (decide ((2000000:Int)<(Rose.val v19).1.2.2.2.2.1)) then
(some (.inl (vars2,l3,p4,x5,i9,true,())))
else
(bif (!decide ((Rose.val v19).1.2.1=(0:Int))) then
(some (.inl (vars2,l3,p4,x5,i9,true,())))
else
(bif (!decide ((Rose.val v19).1.2.2.1=(0:Int))) then
(some (.inl (vars2,l3,p4,x5,i9,true,())))
else
(bif (!decide ((Rose.val v19).1.2.2.2.1=(0:Int))) then
(some (.inl (vars2,l3,p4,x5,i9,true,())))
else
(bif (decide ((0:Int)<(((Rose.val v19).1.2.2.2.2.2.1).length:Int))) then
(some (.inl (vars2,l3,p4,x5,i9,true,())))
else
((self_ref13_body p4 x5 vars2 (Rose.kids v19)).bind fun r23 =>
some (.inl (vars2,l3,p4,x5,i9,(!r23.1),())))))))):Option (((List Int) × qT0 × qT4 × qT3 × Int × Bool × Unit) ⊕ Empty)).bind (Sum.elim (fun d24 =>
bif d24.2.2.2.2.2.1 then
(some (.inl (false,())))
else
(some (.inr (.inl (d24.1,d24.2.1,d24.2.2.1,d24.2.2.2.1,d24.2.2.2.2.1,()))))) nof))
else
(some (.inl (false,()))))):Option ((Bool × Unit) ⊕ (qT36 ⊕ Empty))).bind (Sum.elim (fun d26 =>
some (.inr (.inl (d26.1,())))) (Sum.elim (fun d25 =>
some (.inl (d25.1,d25.2.1,d25.2.2.1,d25.2.2.2.1,(IntKind.i64.wrap (d25.2.2.2.2.1+(1:Int))),()))) nof)))
else
(some (.inr (.inr (.inl (())))))
noncomputable def qeq (self_ref13_body:qT4→qT3→(List Int)→qT0→Option (Bool × Unit)) (n:Nat) (d:qT36):Option (qT36 ⊕ qT13):=qep self_ref13_body n d.1 d.2.1 d.2.2.1 d.2.2.2.1 d.2.2.2.2.1
noncomputable def qer (self_ref13_body:qT4→qT3→(List Int)→qT0→Option (Bool × Unit)) (n:Nat) (p0:qT4) (x1:qT3) (vars2:(List Int)) (l3:qT0):Option (Bool × Unit) :=
(iterN (qeq self_ref13_body n) n (vars2,l3,p0,x1,(0:Int),())).bind (Sum.elim (fun d30 =>
some (d30.1,())) (Sum.elim (fun d29 =>
some (true,())) nof))
noncomputable def qes:Nat→qT4→qT3→(List Int)→qT0→Option (Bool × Unit)
  | 0=>fun _ _ _ _=>none
  | n+1=>qer (qes n) n
noncomputable def qet (n:Nat) (p1:qT4) (i5:Int) (x3:qT3) (vars4:(List Int)):Option qT45 :=
bif (decide (i5<(p1.2.2.2.1.length:Int))) then
((idx p1.2.2.2.1 i5).bind fun v16 =>
(qeg n x3 v16).bind fun r17 =>
bif (!r17.2.1) then
(some (.inr (.inl (false,()))))
else
((idx vars4 i5).bind fun v18 =>
some (.inl (p1,(IntKind.i64.wrap (i5+(1:Int))),x3,(List.set vars4 (i5).toNat r17.1),()))))
else
(some (.inr (.inr (.inl (p1,x3,vars4,())))))
noncomputable def qeu (n:Nat) (d:(qT4 × Int × qT3 × (List Int) × Unit)):Option qT45:=qet n d.1 d.2.1 d.2.2.1 d.2.2.2.1
noncomputable def qev (n:Nat) (p0:qT4):Option (Bool × Unit) :=
((qdv n p0.1).bind fun r4 =>
bif (!r4.1) then
(some (.inl (p0,true,())))
else
(bif (decide (p0.2.1<(1:Int))) then
(some (.inl (p0,true,())))
else
(bif (decide ((64:Int)<p0.2.1)) then
(some (.inl (p0,true,())))
else
(bif (decide (p0.2.2.1<(0:Int))) then
(some (.inl (p0,true,())))
else
(bif (decide ((64:Int)<p0.2.2.1)) then
(some (.inl (p0,true,())))
else
(some (.inl (p0,(decide ((1000:Int)<(p0.2.2.2.1.length:Int))),()))))))):Option ((qT4 × Bool × Unit) ⊕ Empty)).bind (Sum.elim (fun d5 =>
bif d5.2.1 then
(some (false,()))
else
((qd8 n d5.1.1).bind fun r7 =>
chk (decide (0≤(d5.1.2.2.2.1.length:Int))) (chk (decide ((d5.1.2.2.2.1.length:Int)≤(d5.1.2.2.2.1.length:Int))) (chk (lenB ((d5.1.2.2.2.1.length:Int)).toNat) ((iterN (qeu n) n (d5.1,(0:Int),r7.1,(List.replicate ((d5.1.2.2.2.1.length:Int)).toNat (0:Int)),())).bind (Sum.elim (fun d25 =>
some (d25.1,())) (Sum.elim (fun d21 =>
(qek n d21.1.2.2.2.2.1 (61:Int)).bind fun r23 =>
bif (decide (r23.1≤(200000:Int))) then
(bif (decide (r23.2.1≤(60:Int))) then
((qes n d21.1 d21.2.1 d21.2.2.1 d21.1.2.2.2.2.1).bind fun r24 =>
some (r24.1,()))
else
(some (false,())))
else
(some (false,()))) nof))))))) nof)
noncomputable def qew (self_ref13_steps:qT0→Option (Int × Unit)) (n:Nat) (l0:qT0) (n3:Int) (i4:Int):Option ((qT0 × Int × Int × Unit) ⊕ qT47) :=
bif (decide (i4<(l0.length:Int))) then
(((idx l0 i4).bind fun v29 =>
bif (decide ((Rose.val v29).1.1=(2:Int))) then
((idx l0 i4).bind fun v30 =>
(self_ref13_steps (Rose.kids v30)).bind fun r31 =>
(bif (decide ((0:Int)<r31.1)) then
((idx l0 i4).bind fun v32 =>
bif decide (r31.1=0) then none else
some (.inl (l0,n3,i4,r31.1,(decide ((IntKind.i64.wrap (Int.tdiv (1099511627777:Int) r31.1))<(Rose.val v32).1.2.2.2.2.1)),())))
else
(some (.inl (l0,n3,i4,r31.1,false,()))):Option ((qT0 × Int × Int × Int × Bool × Unit) ⊕ Empty)).bind (Sum.elim (fun d33 =>
bif d33.2.2.2.2.1 then
(some (.inl ((1099511627777:Int),())))
else
((idx d33.1 d33.2.2.1).bind fun v34 =>
some (.inr (.inl (d33.1,d33.2.1,d33.2.2.1,(IntKind.i64.wrap (d33.2.2.2.1*(Rose.val v34).1.2.2.2.2.1)),()))))) nof))
else
(some (.inr (.inl (l0,n3,i4,(1:Int),())))):Option ((Int × Unit) ⊕ ((qT0 × Int × Int × Int × Unit) ⊕ Empty))).bind (Sum.elim (fun d36 =>
some (.inr (.inl (d36.1,())))) (Sum.elim (fun d35 =>
some (.inl (d35.1,(if (1099511627777:Int)<(IntKind.i64.wrap (d35.2.1+d35.2.2.2.1)) then (1099511627777:Int) else (IntKind.i64.wrap (d35.2.1+d35.2.2.2.1))),(IntKind.i64.wrap (d35.2.2.1+(1:Int))),()))) nof)))
else
(some (.inr (.inr (.inl (n3,())))))
noncomputable def qex (self_ref13_steps:qT0→Option (Int × Unit)) (n:Nat) (d:(qT0 × Int × Int × Unit)):Option ((qT0 × Int × Int × Unit) ⊕ qT47):=qew self_ref13_steps n d.1 d.2.1 d.2.2.1
noncomputable def qey (self_ref13_steps:qT0→Option (Int × Unit)) (n:Nat) (l0:qT0):Option (Int × Unit) :=
(iterN (qex self_ref13_steps n) n (l0,(0:Int),(0:Int),())).bind (Sum.elim (fun d40 =>
some (d40.1,())) (Sum.elim (fun d39 =>
some (d39.1,())) nof))
noncomputable def qez:Nat→qT0→Option (Int × Unit)
  | 0=>fun _=>none
  | n+1=>qey (qez n) n
noncomputable def qe0 (n:Nat) (p0:qT4):Option (Int × Unit) :=
(qez n p0.2.2.2.2.1).bind fun r1 =>
some (r1.1,())
noncomputable def qe1 (n:Nat) (a1:Int) (b2:Int) (x3:qT3) (out7:Int):Option (qT22 ⊕ qT11) :=
bif (decide ((0:Int)<b2)) then
(((bif (decide ((IntKind.i64.wrap ((BitVec.ofInt IntKind.i64.bits b2 &&& BitVec.ofInt IntKind.i64.bits (1:Int)).toNat))=(1:Int))) then
(some (.inl (a1,b2,x3,(IntKind.i64.wrap ((BitVec.ofInt IntKind.i64.bits out7 ^^^ BitVec.ofInt IntKind.i64.bits a1).toNat)),())))
else
(some (.inl (a1,b2,x3,out7,()))):Option (qT22 ⊕ Empty)).bind (Sum.elim (fun d4 =>
bif decide ((1:Int)<0) then none else
bif (decide (d4.2.2.1.2.2.1≤(IntKind.i64.wrap (d4.1*2 ^ (min ((1:Int)).toNat IntKind.i64.bits))))) then
(some (.inl ((IntKind.i64.wrap ((BitVec.ofInt IntKind.i64.bits (IntKind.i64.wrap (d4.1*2 ^ (min ((1:Int)).toNat IntKind.i64.bits))) ^^^ BitVec.ofInt IntKind.i64.bits d4.2.2.1.2.2.2.1).toNat)),d4.2.1,d4.2.2.1,d4.2.2.2.1,())))
else
(some (.inl ((IntKind.i64.wrap (d4.1*2 ^ (min ((1:Int)).toNat IntKind.i64.bits))),d4.2.1,d4.2.2.1,d4.2.2.2.1,())))) nof):Option (qT22 ⊕ Empty)).bind (Sum.elim (fun d5 =>
bif decide ((1:Int)<0) then none else
some (.inl (d5.1,(Int.fdiv d5.2.1 (2 ^ (min ((1:Int)).toNat IntKind.i64.bits))),d5.2.2.1,d5.2.2.2.1,()))) nof))
else
(some (.inr (.inl (out7,()))))
noncomputable def qe2 (n:Nat) (d:qT22):Option (qT22 ⊕ qT11):=qe1 n d.1 d.2.1 d.2.2.1 d.2.2.2.1
noncomputable def qe3 (n:Nat) (x0:qT3) (a1:Int) (b2:Int):Option (Int × Unit) :=
bif (decide (x0.2.1=(1:Int))) then
(bif decide (x0.1=0) then none else
some ((Int.tmod (IntKind.i64.wrap (a1*b2)) x0.1),()))
else
((iterN (qe2 n) n (a1,b2,x0,(0:Int),())).bind (Sum.elim (fun d7 =>
some (d7.1,())) nof))
noncomputable def qe4 (n:Nat) (a1:Int) (k2:Int) (x3:qT3) (out7:Int):Option (qT22 ⊕ qT11) :=
bif (decide ((0:Int)<k2)) then
((bif (decide ((IntKind.i64.wrap ((BitVec.ofInt IntKind.i64.bits k2 &&& BitVec.ofInt IntKind.i64.bits (1:Int)).toNat))=(1:Int))) then
((qe3 n x3 out7 a1).bind fun r8 =>
some (.inl (a1,k2,x3,r8.1,())))
else
(some (.inl (a1,k2,x3,out7,()))):Option (qT22 ⊕ Empty)).bind (Sum.elim (fun d9 =>
(qe3 n d9.2.2.1 d9.1 d9.1).bind fun r10 =>
bif decide ((1:Int)<0) then none else
some (.inl (r10.1,(Int.fdiv d9.2.1 (2 ^ (min ((1:Int)).toNat IntKind.i64.bits))),d9.2.2.1,d9.2.2.2.1,()))) nof))
else
(some (.inr (.inl (out7,()))))
noncomputable def qe5 (n:Nat) (d:qT22):Option (qT22 ⊕ qT11):=qe4 n d.1 d.2.1 d.2.2.1 d.2.2.2.1
noncomputable def qe6 (n:Nat) (x0:qT3) (a1:Int) (k2:Int):Option (Int × Unit) :=
(iterN (qe5 n) n (a1,k2,x0,(1:Int),())).bind (Sum.elim (fun d12 =>
some (d12.1,())) nof)
noncomputable def qe7 (n:Nat) (x0:qT3) (a1:Int) (b2:Int):Option (Int × Unit) :=
bif (decide (x0.2.1=(1:Int))) then
(bif decide (x0.1=0) then none else
some ((Int.tmod (IntKind.i64.wrap (a1+b2)) x0.1),()))
else
(some ((IntKind.i64.wrap ((BitVec.ofInt IntKind.i64.bits a1 ^^^ BitVec.ofInt IntKind.i64.bits b2).toNat)),()))
noncomputable def qe8 (n:Nat) (p1:qT1) (at2:(List Int)) (x3:qT3) (sum7:Int) (i8:Int) (v9:Int) (k10:Int):Option (qT29 ⊕ ((qT1 × (List Int) × qT3 × Int × Int × Int × Unit) ⊕ Empty)) :=
((idx p1 i8).bind fun v25 =>
bif (decide (k10<(v25.2.1.length:Int))) then
(some (.inl (p1,at2,x3,sum7,i8,v9,k10,(decide ((0:Int)<v9)),())))
else
(some (.inl (p1,at2,x3,sum7,i8,v9,k10,false,()))):Option ((qT1 × (List Int) × qT3 × Int × Int × Int × Int × Bool × Unit) ⊕ Empty)).bind (Sum.elim (fun d26 =>
bif d26.2.2.2.2.2.2.2.1 then
(((idx d26.1 d26.2.2.2.2.1).bind fun v27 =>
(idx v27.2.1 d26.2.2.2.2.2.2.1).bind fun v28 =>
bif (decide ((0:Int)<v28)) then
((idx d26.2.1 d26.2.2.2.2.2.2.1).bind fun v29 =>
(idx d26.1 d26.2.2.2.2.1).bind fun v30 =>
(idx v30.2.1 d26.2.2.2.2.2.2.1).bind fun v31 =>
(qe6 n d26.2.2.1 v29 v31).bind fun r32 =>
(qe3 n d26.2.2.1 d26.2.2.2.2.2.1 r32.1).bind fun r33 =>
some (.inl (d26.1,d26.2.1,d26.2.2.1,d26.2.2.2.1,d26.2.2.2.2.1,r33.1,d26.2.2.2.2.2.2.1,())))
else
(some (.inl (d26.1,d26.2.1,d26.2.2.1,d26.2.2.2.1,d26.2.2.2.2.1,d26.2.2.2.2.2.1,d26.2.2.2.2.2.2.1,()))):Option (qT29 ⊕ Empty)).bind (Sum.elim (fun d34 =>
some (.inl (d34.1,d34.2.1,d34.2.2.1,d34.2.2.2.1,d34.2.2.2.2.1,d34.2.2.2.2.2.1,(IntKind.i64.wrap (d34.2.2.2.2.2.2.1+(1:Int))),()))) nof))
else
(some (.inr (.inl (d26.1,d26.2.1,d26.2.2.1,d26.2.2.2.1,d26.2.2.2.2.1,d26.2.2.2.2.2.1,()))))) nof)
noncomputable def qe9 (n:Nat) (d:qT29):Option (qT29 ⊕ ((qT1 × (List Int) × qT3 × Int × Int × Int × Unit) ⊕ Empty)):=qe8 n d.1 d.2.1 d.2.2.1 d.2.2.2.1 d.2.2.2.2.1 d.2.2.2.2.2.1 d.2.2.2.2.2.2.1
noncomputable def qfa (n:Nat) (p1:qT1) (at2:(List Int)) (x3:qT3) (sum7:Int) (i8:Int):Option ((qT1 × (List Int) × qT3 × Int × Int × Unit) ⊕ qT11) :=
bif (decide (i8<(p1.length:Int))) then
((idx p1 i8).bind fun v41 =>
(iterN (qe9 n) n (p1,at2,x3,sum7,i8,v41.1,(0:Int),())).bind (Sum.elim (fun d42 =>
(qe7 n d42.2.2.1 d42.2.2.2.1 d42.2.2.2.2.2.1).bind fun r43 =>
some (.inl (d42.1,d42.2.1,d42.2.2.1,r43.1,(IntKind.i64.wrap (d42.2.2.2.2.1+(1:Int))),()))) nof))
else
(some (.inr (.inl (sum7,()))))
noncomputable def qfb (n:Nat) (d:(qT1 × (List Int) × qT3 × Int × Int × Unit)):Option ((qT1 × (List Int) × qT3 × Int × Int × Unit) ⊕ qT11):=qfa n d.1 d.2.1 d.2.2.1 d.2.2.2.1 d.2.2.2.2.1
noncomputable def qfc (n:Nat) (x0:qT3) (p1:qT1) (at2:(List Int)):Option (Int × Unit) :=
(iterN (qfb n) n (p1,at2,x0,(0:Int),(0:Int),())).bind (Sum.elim (fun d45 =>
some (d45.1,())) nof)
noncomputable def qfd (self_ref13_machine_do:qT0→qT5→Option qT34) (n:Nat) (l1:qT0) (i4:Int) (k8:Int) (m0:qT5) (s5:qT6):Option ((qT0 × Int × Int × qT5 × qT6 × Unit) ⊕ (qT42 ⊕ Empty)) :=
(bif (decide (k8<s5.2.2.2.2.1)) then
((qez n s5.2.2.2.2.2.2.1).bind fun r45 =>
some (.inl (l1,i4,k8,(decide ((0:Int)<r45.1)),m0,s5,())))
else
(some (.inl (l1,i4,k8,false,m0,s5,()))):Option ((qT0 × Int × Int × Bool × qT5 × qT6 × Unit) ⊕ Empty)).bind (Sum.elim (fun d46 =>
bif d46.2.2.2.1 then
((self_ref13_machine_do d46.2.2.2.2.2.1.2.2.2.2.2.2.1 d46.2.2.2.2.1).bind fun r47 =>
some (.inl (d46.1,d46.2.1,(IntKind.i64.wrap (d46.2.2.1+(1:Int))),r47.2.1,d46.2.2.2.2.2.1,())))
else
(some (.inr (.inl (d46.1,d46.2.1,d46.2.2.2.2.1,()))))) nof)
noncomputable def qfe (self_ref13_machine_do:qT0→qT5→Option qT34) (n:Nat) (d:(qT0 × Int × Int × qT5 × qT6 × Unit)):Option ((qT0 × Int × Int × qT5 × qT6 × Unit) ⊕ (qT42 ⊕ Empty)):=qfd self_ref13_machine_do n d.1 d.2.1 d.2.2.1 d.2.2.2.1 d.2.2.2.2.1
noncomputable def qff (self_ref13_machine_do:qT0→qT5→Option qT34) (n:Nat) (l1:qT0) (i4:Int) (k7:Int) (m0:qT5) (s5:qT6) (at6:(List Int)):Option (qT32 ⊕ ((qT0 × Int × qT5 × qT6 × (List Int) × Unit) ⊕ Empty)) :=
bif (decide (k7<(at6.length:Int))) then
(((idx s5.2.2.2.2.2.1 k7).bind fun v19 =>
bif v19.1 then
((idx s5.2.2.2.2.2.1 k7).bind fun v20 =>
(idx m0.2.2.2.1 v20.2.1).bind fun v21 =>
(idx at6 k7).bind fun v22 =>
some (.inl (l1,i4,k7,m0,s5,(List.set at6 (k7).toNat v21),())))
else
((idx s5.2.2.2.2.2.1 k7).bind fun v23 =>
(idx m0.2.2.1 v23.2.1).bind fun v24 =>
(idx at6 k7).bind fun v25 =>
some (.inl (l1,i4,k7,m0,s5,(List.set at6 (k7).toNat v24),()))):Option (qT32 ⊕ Empty)).bind (Sum.elim (fun d26 =>
some (.inl (d26.1,d26.2.1,(IntKind.i64.wrap (d26.2.2.1+(1:Int))),d26.2.2.2.1,d26.2.2.2.2.1,d26.2.2.2.2.2.1,()))) nof))
else
(some (.inr (.inl (l1,i4,m0,s5,at6,()))))
noncomputable def qfg (self_ref13_machine_do:qT0→qT5→Option qT34) (n:Nat) (d:qT32):Option (qT32 ⊕ ((qT0 × Int × qT5 × qT6 × (List Int) × Unit) ⊕ Empty)):=qff self_ref13_machine_do n d.1 d.2.1 d.2.2.1 d.2.2.2.1 d.2.2.2.2.1 d.2.2.2.2.2.1
noncomputable def qfh (self_ref13_machine_do:qT0→qT5→Option qT34) (n:Nat) (l1:qT0) (i4:Int) (m0:qT5):Option (qT42 ⊕ ((qT5 × Unit) ⊕ Empty)) :=
bif (decide (i4<(l1.length:Int))) then
(((idx l1 i4).bind fun v62 =>
bif (decide ((Rose.val v62).1.1=(0:Int))) then
(chk (decide (0≤(((Rose.val v62).1.2.2.2.2.2.1).length:Int))) (chk (decide ((((Rose.val v62).1.2.2.2.2.2.1).length:Int)≤(((Rose.val v62).1.2.2.2.2.2.1).length:Int))) (chk (lenB ((((Rose.val v62).1.2.2.2.2.2.1).length:Int)).toNat) ((iterN (qfg self_ref13_machine_do n) n (l1,i4,(0:Int),m0,((Rose.val v62).1.1,((Rose.val v62).1.2.1,((Rose.val v62).1.2.2.1,((Rose.val v62).1.2.2.2.1,((Rose.val v62).1.2.2.2.2.1,((Rose.val v62).1.2.2.2.2.2.1,((Rose.kids v62),()))))))),(List.replicate ((((Rose.val v62).1.2.2.2.2.2.1).length:Int)).toNat (0:Int)),())).bind (Sum.elim (fun d63 =>
(idx d63.2.2.1.2.2.1 d63.2.2.2.1.2.1).bind fun v64 =>
(idx d63.2.2.1.2.1 d63.2.2.2.1.2.2.2.1).bind fun v65 =>
(qfc n d63.2.2.1.1 v65 d63.2.2.2.2.1).bind fun r66 =>
(qe3 n d63.2.2.1.1 d63.2.2.2.1.2.2.1 r66.1).bind fun r67 =>
(qe7 n d63.2.2.1.1 v64 r67.1).bind fun r68 =>
(idx d63.2.2.1.2.2.1 d63.2.2.2.1.2.1).bind fun v69 =>
some (.inl (d63.1,d63.2.1,(d63.2.2.1.1,(d63.2.2.1.2.1,((List.set d63.2.2.1.2.2.1 (d63.2.2.2.1.2.1).toNat r68.1),d63.2.2.1.2.2.2))),()))) nof)))))
else
(bif (decide ((Rose.val v62).1.1=(1:Int))) then
((idx m0.2.2.1 (Rose.val v62).1.2.1).bind fun v70 =>
(qe3 n m0.1 v70 (Rose.val v62).1.2.2.1).bind fun r71 =>
(idx m0.2.2.1 (Rose.val v62).1.2.1).bind fun v72 =>
some (.inl (l1,i4,(m0.1,(m0.2.1,((List.set m0.2.2.1 ((Rose.val v62).1.2.1).toNat r71.1),m0.2.2.2))),())))
else
(bif (decide ((Rose.val v62).1.1=(2:Int))) then
((iterN (qfe self_ref13_machine_do n) n (l1,i4,(0:Int),m0,((Rose.val v62).1.1,((Rose.val v62).1.2.1,((Rose.val v62).1.2.2.1,((Rose.val v62).1.2.2.2.1,((Rose.val v62).1.2.2.2.2.1,((Rose.val v62).1.2.2.2.2.2.1,((Rose.kids v62),()))))))),())).bind (Sum.elim (fun d73 =>
some (.inl (d73.1,d73.2.1,d73.2.2.1,()))) nof))
else
(some (.inl (l1,i4,m0,()))))):Option (qT42 ⊕ Empty)).bind (Sum.elim (fun d74 =>
some (.inl (d74.1,(IntKind.i64.wrap (d74.2.1+(1:Int))),d74.2.2.1,()))) nof))
else
(some (.inr (.inl (m0,()))))
noncomputable def qfi (self_ref13_machine_do:qT0→qT5→Option qT34) (n:Nat) (d:qT42):Option (qT42 ⊕ ((qT5 × Unit) ⊕ Empty)):=qfh self_ref13_machine_do n d.1 d.2.1 d.2.2.1
noncomputable def qfj (self_ref13_machine_do:qT0→qT5→Option qT34) (n:Nat) (l1:qT0) (mo0:qT5):Option qT34 :=
(iterN (qfi self_ref13_machine_do n) n (l1,(0:Int),mo0,())).bind (Sum.elim (fun d75 =>
some ((),(d75.1,()))) nof)
noncomputable def qfk:Nat→qT0→qT5→Option qT34
  | 0=>fun _ _=>none
  | n+1=>qfj (qfk n) n
noncomputable def qfl (n:Nat) (p0:qT4) (regs1:(List Int)) (inputs2:(List Int)):Option qT35 :=
(qd8 n p0.1).bind fun r2 =>
chk (lenB ((([]:(List Int))).length+(regs1).length)) ((qfk n p0.2.2.2.2.1 (r2.1,(p0.2.2.2.1,((([]:(List Int))++regs1),(inputs2,()))))).bind fun r4 =>
some (r4.2.1.2.2.1,()))
noncomputable def qfm (n:Nat) (a0:(List Int)) (b1:(List Int)) (i5:Int):Option (qT27 ⊕ qT13) :=
bif (decide (i5<(a0.length:Int))) then
((idx a0 i5).bind fun v7 =>
(idx b1 i5).bind fun v8 =>
bif (!decide (v7=v8)) then
(some (.inr (.inl (false,()))))
else
(some (.inl (a0,b1,(IntKind.i64.wrap (i5+(1:Int))),()))))
else
(some (.inr (.inr (.inl (())))))
noncomputable def qfn (n:Nat) (d:qT27):Option (qT27 ⊕ qT13):=qfm n d.1 d.2.1 d.2.2.1
noncomputable def qfo (n:Nat) (a0:(List Int)) (b1:(List Int)):Option (Bool × Unit) :=
bif (!decide ((a0.length:Int)=(b1.length:Int))) then
(some (false,()))
else
((iterN (qfn n) n (a0,b1,(0:Int),())).bind (Sum.elim (fun d12 =>
some (d12.1,())) (Sum.elim (fun d11 =>
some (true,())) nof)))
noncomputable def qfp (n:Nat) :Option (Bool × Unit) :=
(qbp n ((2:Int),((1:Int),())) (1:Int) (3:Int)).bind fun r2 =>
(qdr n ((2:Int),((1:Int),())) (2:Int) (2:Int) (0:Int) (1:Int)).bind fun r4 =>
(bif (!decide (r2.2.1=(0:Int))) then
(some (.inl (r4.1,true,r2.1,())))
else
(bif (!decide (r4.2.1=(0:Int))) then
(some (.inl (r4.1,true,r2.1,())))
else
((qev n r2.1).bind fun r10 =>
bif (!r10.1) then
(some (.inl (r4.1,true,r2.1,())))
else
(bif (!decide (r2.1.2.1=(3:Int))) then
(some (.inl (r4.1,true,r2.1,())))
else
(bif (!decide (r2.1.2.2.1=(3:Int))) then
(some (.inl (r4.1,true,r2.1,())))
else
((qe0 n r2.1).bind fun r11 =>
some (.inl (r4.1,(decide ((40:Int)<r11.1)),r2.1,()))))))):Option ((qT1 × Bool × qT4 × Unit) ⊕ Empty)).bind (Sum.elim (fun d12 =>
bif d12.2.1 then
(some (false,()))
else
((qfl n d12.2.2.1 ([(0:Int),(1:Int),(1:Int)]) ([(1:Int),(1:Int),(1:Int)])).bind fun r14 =>
bif (decide ((d12.1.length:Int)=(2:Int))) then
((idx d12.1 (0:Int)).bind fun v15 =>
bif (decide ((v15.2.1.length:Int)=(8:Int))) then
((idx d12.1 (0:Int)).bind fun v16 =>
(idx v16.2.1 (1:Int)).bind fun v17 =>
bif (decide (v17=(1:Int))) then
((idx d12.1 (0:Int)).bind fun v18 =>
(idx v18.2.1 (7:Int)).bind fun v19 =>
bif (decide (v19=(1:Int))) then
((idx d12.1 (1:Int)).bind fun v20 =>
(idx v20.2.1 (0:Int)).bind fun v21 =>
bif (decide (v21=(1:Int))) then
((idx d12.1 (1:Int)).bind fun v22 =>
(idx v22.2.1 (5:Int)).bind fun v23 =>
bif (decide (v23=(1:Int))) then
((qfo n r14.1 ([(1:Int),(1:Int),(1:Int)])).bind fun r24 =>
some (r24.1,()))
else
(some (false,())))
else
(some (false,())))
else
(some (false,())))
else
(some (false,())))
else
(some (false,())))
else
(some (false,())))) nof)
noncomputable def qfq (n:Nat) (q0:(qT9 × qT3)):Option (Int × Unit) :=
(qdv n q0.1).bind fun r4 =>
bif (!r4.1) then
(some ((1:Int),()))
else
((bif (decide (q0.2.1<(1:Int))) then
(some (.inl (true,())))
else
(bif (decide ((21:Int)<q0.2.1)) then
(some (.inl (true,())))
else
(bif (decide (q0.2.2.1<(1:Int))) then
(some (.inl (true,())))
else
(some (.inl ((decide ((64:Int)<q0.2.2.1)),()))))):Option ((Bool × Unit) ⊕ Empty)).bind (Sum.elim (fun d5 =>
bif d5.1 then
(some ((2:Int),()))
else
(some ((0:Int),()))) nof))
noncomputable def qfr (n:Nat) (n0:Int) (k1:Int) (out5:Int) (i6:Int):Option ((Int × Int × Int × Int × Unit) ⊕ qT11) :=
(bif (decide (i6<k1)) then
(some (.inl (n0,k1,out5,i6,(decide (out5≤(20000:Int))),())))
else
(some (.inl (n0,k1,out5,i6,false,()))):Option qT48).bind (Sum.elim (fun d3 =>
bif d3.2.2.2.2.1 then
(some (.inl (d3.1,d3.2.1,(IntKind.i64.wrap (d3.2.2.1*d3.1)),(IntKind.i64.wrap (d3.2.2.2.1+(1:Int))),())))
else
(some (.inr (.inl (d3.2.2.1,()))))) nof)
noncomputable def qfs (n:Nat) (d:(Int × Int × Int × Int × Unit)):Option ((Int × Int × Int × Int × Unit) ⊕ qT11):=qfr n d.1 d.2.1 d.2.2.1 d.2.2.2.1
noncomputable def qft (n:Nat) (n0:Int) (k1:Int):Option (Int × Unit) :=
(iterN (qfs n) n (n0,k1,(1:Int),(1:Int),())).bind (Sum.elim (fun d5 =>
some (d5.1,())) nof)
noncomputable def qfu (n:Nat) (n0:Int) (k1:Int) (i2:Int) (j3:Int) (w10:Int) (row12:Int) (rest13:Int) (a14:Int) (power16:Int) (c17:Int) (out9:qT1) (e11:(List Int)):Option qT26 :=
bif (decide (c17<(IntKind.i64.wrap (k1-(1:Int))))) then
(some (.inl (n0,k1,i2,j3,w10,row12,rest13,a14,(IntKind.i64.wrap (power16*n0)),(IntKind.i64.wrap (c17+(1:Int))),out9,e11,())))
else
(some (.inr (.inl (n0,k1,i2,j3,w10,row12,rest13,a14,power16,out9,e11,()))))
noncomputable def qfv (n:Nat) (d:(Int × Int × Int × Int × Int × Int × Int × Int × Int × Int × qT1 × (List Int) × Unit)):Option qT26:=qfu n d.1 d.2.1 d.2.2.1 d.2.2.2.1 d.2.2.2.2.1 d.2.2.2.2.2.1 d.2.2.2.2.2.2.1 d.2.2.2.2.2.2.2.1 d.2.2.2.2.2.2.2.2.1 d.2.2.2.2.2.2.2.2.2.1 d.2.2.2.2.2.2.2.2.2.2.1 d.2.2.2.2.2.2.2.2.2.2.2.1
noncomputable def qfw (n:Nat) (n0:Int) (k1:Int) (i2:Int) (j3:Int) (w10:Int) (row12:Int) (rest13:Int) (a14:Int) (out9:qT1) (e11:(List Int)):Option (qT31 ⊕ qT24) :=
bif (decide (a14<k1)) then
((bif (decide (a14<(IntKind.i64.wrap (k1-(1:Int))))) then
((iterN (qfv n) n (n0,k1,i2,j3,w10,row12,rest13,a14,(1:Int),(IntKind.i64.wrap (a14+(1:Int))),out9,e11,())).bind (Sum.elim (fun d12 =>
bif decide (d12.2.2.2.2.2.2.2.2.1=0) then none else
bif decide (d12.1=0) then none else
some (.inl (d12.1,d12.2.1,d12.2.2.1,d12.2.2.2.1,d12.2.2.2.2.1,d12.2.2.2.2.2.1,d12.2.2.2.2.2.2.1,d12.2.2.2.2.2.2.2.1,(Int.tmod (IntKind.i64.wrap (Int.tdiv d12.2.2.2.2.2.2.1 d12.2.2.2.2.2.2.2.2.1)) d12.1),d12.2.2.2.2.2.2.2.2.2.1,d12.2.2.2.2.2.2.2.2.2.2.1,()))) nof))
else
(some (.inl (n0,k1,i2,j3,w10,row12,rest13,a14,j3,out9,e11,()))):Option ((Int × Int × Int × Int × Int × Int × Int × Int × Int × qT1 × (List Int) × Unit) ⊕ Empty)).bind (Sum.elim (fun d13 =>
(idx d13.2.2.2.2.2.2.2.2.2.2.1 (IntKind.i64.wrap ((IntKind.i64.wrap ((IntKind.i64.wrap ((IntKind.i64.wrap (d13.2.2.2.2.2.2.2.1*d13.1))*d13.1))+(IntKind.i64.wrap (d13.2.2.2.2.2.1*d13.1))))+d13.2.2.2.2.2.2.2.2.1))).bind fun v14 =>
some (.inl (d13.1,d13.2.1,d13.2.2.1,d13.2.2.2.1,d13.2.2.2.2.1,d13.2.2.2.2.2.2.2.2.1,d13.2.2.2.2.2.2.1,(IntKind.i64.wrap (d13.2.2.2.2.2.2.2.1+(1:Int))),d13.2.2.2.2.2.2.2.2.2.1,(List.set d13.2.2.2.2.2.2.2.2.2.2.1 ((IntKind.i64.wrap ((IntKind.i64.wrap ((IntKind.i64.wrap ((IntKind.i64.wrap (d13.2.2.2.2.2.2.2.1*d13.1))*d13.1))+(IntKind.i64.wrap (d13.2.2.2.2.2.1*d13.1))))+d13.2.2.2.2.2.2.2.2.1))).toNat (1:Int)),()))) nof))
else
(some (.inr (.inl (n0,k1,i2,j3,w10,out9,e11,()))))
noncomputable def qfx (n:Nat) (d:qT31):Option (qT31 ⊕ qT24):=qfw n d.1 d.2.1 d.2.2.1 d.2.2.2.1 d.2.2.2.2.1 d.2.2.2.2.2.1 d.2.2.2.2.2.2.1 d.2.2.2.2.2.2.2.1 d.2.2.2.2.2.2.2.2.1 d.2.2.2.2.2.2.2.2.2.1
noncomputable def qfy (n:Nat) (n0:Int) (k1:Int) (i2:Int) (j3:Int) (w10:Int) (out9:qT1):Option ((Int × Int × Int × Int × Int × qT1 × Unit) ⊕ qT15) :=
bif (decide ((0:Int)≤w10)) then
(chk (decide (0≤(IntKind.i64.wrap ((IntKind.i64.wrap (k1*n0))*n0)))) (chk (decide ((IntKind.i64.wrap ((IntKind.i64.wrap (k1*n0))*n0))≤(IntKind.i64.wrap ((IntKind.i64.wrap (k1*n0))*n0)))) (chk (lenB ((IntKind.i64.wrap ((IntKind.i64.wrap (k1*n0))*n0))).toNat) ((iterN (qfx n) n (n0,k1,i2,j3,w10,i2,w10,(0:Int),out9,(List.replicate ((IntKind.i64.wrap ((IntKind.i64.wrap (k1*n0))*n0))).toNat (0:Int)),())).bind (Sum.elim (fun d18 =>
chk (lenB ((d18.2.2.2.2.2.1).length+([((1:Int),(d18.2.2.2.2.2.2.1,()))]).length)) (some (.inl (d18.1,d18.2.1,d18.2.2.1,d18.2.2.2.1,(IntKind.i64.wrap (d18.2.2.2.2.1-(1:Int))),(d18.2.2.2.2.2.1++[((1:Int),(d18.2.2.2.2.2.2.1,()))]),())))) nof)))))
else
(some (.inr (.inl (out9,()))))
noncomputable def qfz (n:Nat) (d:(Int × Int × Int × Int × Int × qT1 × Unit)):Option ((Int × Int × Int × Int × Int × qT1 × Unit) ⊕ qT15):=qfy n d.1 d.2.1 d.2.2.1 d.2.2.2.1 d.2.2.2.2.1 d.2.2.2.2.2.1
noncomputable def qf0 (n:Nat) (n0:Int) (k1:Int) (i2:Int) (j3:Int):Option (qT1 × Unit) :=
(qft n n0 k1).bind fun r20 =>
(iterN (qfz n) n (n0,k1,i2,j3,(IntKind.i64.wrap (r20.1-(1:Int))),([]:qT1),())).bind (Sum.elim (fun d21 =>
some (d21.1,())) nof)
noncomputable def qf1 (n:Nat) (a0:qT1) (b1:qT1) (i5:Int) (k6:Int):Option qT49 :=
(idx a0 i5).bind fun v30 =>
bif (decide (k6<(v30.2.1.length:Int))) then
((idx a0 i5).bind fun v31 =>
(idx v31.2.1 k6).bind fun v32 =>
(idx b1 i5).bind fun v33 =>
(idx v33.2.1 k6).bind fun v34 =>
bif (!decide (v32=v34)) then
(some (.inr (.inl (false,()))))
else
(some (.inl (a0,b1,i5,(IntKind.i64.wrap (k6+(1:Int))),()))))
else
(some (.inr (.inr (.inl (a0,b1,i5,())))))
noncomputable def qf2 (n:Nat) (d:(qT1 × qT1 × Int × Int × Unit)):Option qT49:=qf1 n d.1 d.2.1 d.2.2.1 d.2.2.2.1
noncomputable def qf3 (n:Nat) (a0:qT1) (b1:qT1) (i5:Int):Option ((qT1 × qT1 × Int × Unit) ⊕ qT13) :=
bif (decide (i5<(a0.length:Int))) then
(((idx a0 i5).bind fun v44 =>
(idx b1 i5).bind fun v45 =>
bif (!decide (v44.1=v45.1)) then
(some (.inl (a0,b1,i5,true,())))
else
((idx a0 i5).bind fun v46 =>
(idx b1 i5).bind fun v47 =>
some (.inl (a0,b1,i5,(!decide ((v46.2.1.length:Int)=(v47.2.1.length:Int))),()))):Option ((qT1 × qT1 × Int × Bool × Unit) ⊕ Empty)).bind (Sum.elim (fun d48 =>
bif d48.2.2.2.1 then
(some (.inr (.inl (false,()))))
else
((iterN (qf2 n) n (d48.1,d48.2.1,d48.2.2.1,(0:Int),())).bind (Sum.elim (fun d50 =>
some (.inr (.inl (d50.1,())))) (Sum.elim (fun d49 =>
some (.inl (d49.1,d49.2.1,(IntKind.i64.wrap (d49.2.2.1+(1:Int))),()))) nof)))) nof))
else
(some (.inr (.inr (.inl (())))))
noncomputable def qf4 (n:Nat) (d:(qT1 × qT1 × Int × Unit)):Option ((qT1 × qT1 × Int × Unit) ⊕ qT13):=qf3 n d.1 d.2.1 d.2.2.1
noncomputable def qf5 (n:Nat) (a0:qT1) (b1:qT1):Option (Bool × Unit) :=
bif (!decide ((a0.length:Int)=(b1.length:Int))) then
(some (false,()))
else
((iterN (qf4 n) n (a0,b1,(0:Int),())).bind (Sum.elim (fun d54 =>
some (d54.1,())) (Sum.elim (fun d53 =>
some (true,())) nof)))
noncomputable def qf6 (n:Nat) (q0:(qT9 × qT3)):Option (Bool × Unit) :=
(qfq n q0).bind fun r2 =>
(bif (!decide (r2.1=(0:Int))) then
(some (.inl (q0,r2.1,([]:qT1),())))
else
((bif (decide (q0.2.2.2.1<(0:Int))) then
(some (.inl (q0,r2.1,([]:qT1),q0.2.1,true,())))
else
(bif (decide (q0.2.1≤q0.2.2.2.1)) then
(some (.inl (q0,r2.1,([]:qT1),q0.2.1,true,())))
else
(bif (decide (q0.2.2.2.2.1<(0:Int))) then
(some (.inl (q0,r2.1,([]:qT1),q0.2.1,true,())))
else
(some (.inl (q0,r2.1,([]:qT1),q0.2.1,(decide (q0.2.1≤q0.2.2.2.2.1)),()))))):Option (((qT9 × qT3) × Int × qT1 × Int × Bool × Unit) ⊕ Empty)).bind (Sum.elim (fun d8 =>
bif d8.2.2.2.2.1 then
(some (.inl (d8.1,(2:Int),d8.2.2.1,())))
else
((bif (decide ((64:Int)<(IntKind.i64.wrap ((IntKind.i64.wrap (d8.1.2.2.1*d8.2.2.2.1))*d8.2.2.2.1)))) then
(some (.inl (d8.1,d8.2.1,d8.2.2.1,d8.2.2.2.1,true,())))
else
((qft n d8.2.2.2.1 d8.1.2.2.1).bind fun r9 =>
some (.inl (d8.1,d8.2.1,d8.2.2.1,d8.2.2.2.1,(decide ((20000:Int)<r9.1)),()))):Option (((qT9 × qT3) × Int × qT1 × Int × Bool × Unit) ⊕ Empty)).bind (Sum.elim (fun d10 =>
bif d10.2.2.2.2.1 then
(some (.inl (d10.1,(5:Int),d10.2.2.1,())))
else
((qf0 n d10.2.2.2.1 d10.1.2.2.1 d10.1.2.2.2.1 d10.1.2.2.2.2.1).bind fun r11 =>
some (.inl (d10.1,d10.2.1,r11.1,())))) nof))) nof)):Option (((qT9 × qT3) × Int × qT1 × Unit) ⊕ Empty)).bind (Sum.elim (fun d12 =>
(qdr n d12.1.1 d12.1.2.1 d12.1.2.2.1 d12.1.2.2.2.1 d12.1.2.2.2.2.1).bind fun r14 =>
bif (decide (r14.2.1=d12.2.1)) then
((qf5 n r14.1 d12.2.2.1).bind fun r15 =>
bif r15.1 then
((qfp n).bind fun r16 =>
some (r16.1,()))
else
(some (false,())))
else
(some (false,()))) nof)
end Go.Proofs.Ytkokhfodjhlnlaa.V
