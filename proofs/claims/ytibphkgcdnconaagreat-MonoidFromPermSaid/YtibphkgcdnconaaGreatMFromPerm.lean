import Derived.Test.YtibphkgcdnconaaGreatVc
namespace Go.Proofs.YtibphkgcdnconaaGreat.V
open Go
set_option linter.unusedVariables false
set_option linter.all false
abbrev qT0:Type:=(Int × (Int × ((List (Int × ((List Int) × ((List Int) × Unit)))) × ((List Int) × Unit))))
abbrev qT1:Type:=(List (List Int))
abbrev qT2:Type:=(Int × ((List (Int × (Int × (Int × Unit)))) × ((List Int) × Unit)))
abbrev qT3:Type:=(List (Int × ((List Int) × ((List Int) × Unit))))
abbrev qT4:Type:=(Int × Unit × Int × Int × qT1 × Unit)
abbrev qT5:Type:=(Option (List ((List Int) × Bool)))
abbrev qT6:Type:=((Bool × Unit) ⊕ ((Unit) ⊕ Empty))
abbrev qT7:Type:=(Int × ((List Bool) × Unit))
abbrev qT8:Type:=(Int × Int × Unit × Int × Int × qT1 × Unit)
abbrev qT9:Type:=(List (Int × (Int × (Int × Unit))))
abbrev qT10:Type:=(Option (List (ByteArray × Bool)))
abbrev qT11:Type:=((qT1 × Unit) ⊕ Empty)
abbrev qT12:Type:=((Int × Int × (List Int) × Unit) ⊕ (((List Int) × Unit) ⊕ Empty))
abbrev qT13:Type:=((List Int) × (List Int) × Int × Int × (List Int) × Unit)
abbrev qT14:Type:=((Int × Unit) ⊕ ((Unit) ⊕ Empty))
abbrev qT15:Type:=((List Int) × Unit)
abbrev qT16:Type:=((Int × Unit × Int × Int × Bool × qT1 × Unit) ⊕ Empty)
abbrev qT17:Type:=(Int × Int × Unit × Int × qT1 × Unit)
abbrev qT18:Type:=(Int × Int × Unit × Int × Int × Int × qT1 × Unit)
abbrev qT19:Type:=(qT0 × (List Int) × ByteArray × qT3 × Int × Int × qT1 × Int × Int × (List Int) × Int × Int × qT2 × qT1 × qT10 × Unit)
abbrev qT20:Type:=((List Int) × Int × Int × Unit)
abbrev qT21:Type:=(qT1 × Int × Int × Int × Int × qT1 × Int × (List Int) × (List Int) × Unit)
abbrev qT22:Type:=((Int × Int × Int × (List Bool) × Unit) ⊕ (((List Bool) × Unit) ⊕ Empty))
abbrev qT23:Type:=(qT4 ⊕ (qT4 ⊕ Empty))
abbrev qT24:Type:=(qT0 × qT3 × Int × Int × qT1 × Int × Int × qT2 × qT1 × qT10 × Unit)
abbrev qT25:Type:=(qT0 × qT3 × Int × Int × qT2 × qT1 × qT10 × Unit)
abbrev qT26:Type:=(qT1 × Int × Int × Int × Int × qT1 × Int × (List Int) × Unit)
abbrev qT27:Type:=(Unit × (qT1 × Unit))
abbrev qT28:Type:=((List Int) × (List Int) × Int × Unit)
abbrev qT29:Type:=(qT1 × Int × Int × qT1 × Unit)
abbrev qT30:Type:=((List Bool) × qT0 × Int × (List Int) × Unit)
abbrev qT31:Type:=(qT1 × Int × Int × Int × Int × Int × Unit)
abbrev qT32:Type:=(qT1 × Int × Int × qT1 × (List Int) × Unit)
abbrev qT33:Type:=((List Int) × qT0 × Int × Int × qT1 × Unit)
abbrev qT34:Type:=((Unit × (Unit × (Unit × Unit))) × qT1 × Int × Int × qT5 × qT1 × qT1 × Unit)
abbrev qT35:Type:=(qT1 × qT1 × Int × Unit)
abbrev qT36:Type:=(qT1 × Int × (List Int) × qT1 × Int × Int × qT1 × Int × Int × qT1 × Unit)
abbrev qT37:Type:=(qT1 × (List Bool) × Int × qT9 × Int × Int × Unit)
abbrev qT38:Type:=(Unit × Int × Int × Int × qT1 × Unit)
abbrev qT39:Type:=((List Int) × Int × Int × Int × Unit)
abbrev qT40:Type:=(qT1 × qT1 × Int × Int × qT1 × Unit)
abbrev qT41:Type:=((Int × Unit) ⊕ Empty)
abbrev qT42:Type:=(Int × (Int × Unit))
abbrev qT43:Type:=(qT2 × ((qT1 × Unit) × Unit))
abbrev qT44:Type:=(qT0 × ((qT0 × Unit) × Unit))
abbrev qT45:Type:=((qT1 × Int × Int × (List Int) × Int × qT1 × (List Int) × Unit) ⊕ ((qT1 × Int × Int × Int × qT1 × (List Int) × Unit) ⊕ Empty))
abbrev qT46:Type:=(qT1 × (List Bool) × qT2 × Int × Int × Unit)
abbrev qT47:Type:=((List Int) × Int × Int × Int × Int × Unit)
abbrev qT48:Type:=(qT1 × (List Int) × Int × qT7 × qT1 × Unit)
abbrev qT49:Type:=(Int × Int × Int × qT5 × qT1 × qT1 × Unit)
abbrev qT50:Type:=((List Bool) × qT0 × Int × (List Int) × Int × (List Int) × Unit)
abbrev qT51:Type:=(((List Int) × qT0 × qT1 × qT1 × Int × qT2 × Unit) ⊕ ((Bool × Unit) ⊕ (((List Int) × qT0 × qT1 × qT2 × Unit) ⊕ Empty)))
abbrev qT52:Type:=(((List Int) × (List Int) × (List Int) × Int × Int × Unit) ⊕ ((Int × Unit) ⊕ (((List Int) × (List Int) × Unit) ⊕ Empty)))
abbrev qT53:Type:=(qT1 × Int × Int × Int × Int × Int × Int × Int × Int × Unit)
abbrev qT54:Type:=((Int × Int × Unit × Int × Int × Bool × qT1 × Unit) ⊕ Empty)
abbrev qT55:Type:=((qT2 × (qT1 × Unit) × (List Int) × Int × Int × Unit) ⊕ ((Bool × Unit) ⊕ ((qT2 × (qT1 × Unit) × Unit) ⊕ Empty)))
abbrev qT56:Type:=(qT19 ⊕ ((qT0 × (List Int) × ByteArray × qT3 × Int × Int × qT1 × Int × Int × qT2 × qT1 × qT10 × Unit) ⊕ Empty))
abbrev qT57:Type:=(Int × Int × Int × qT1 × Unit)
abbrev qT58:Type:=(Int × qT5 × qT1 × qT1 × Unit)
abbrev qT59:Type:=((qT1 × (List Int) × Unit × Int × Int × Int × Unit) ⊕ ((qT1 × (List Int) × Unit × Int × Int × Unit) ⊕ Empty))
abbrev qT60:Type:=(((List Int) × Int × (List Int) × (List Int) × Unit) ⊕ (((List Int) × (List Int) × (List Int) × Unit) ⊕ Empty))
abbrev qT61:Type:=((List Int) × qT0 × qT1 × Int × Bool × Int × qT2 × Unit)
abbrev qT62:Type:=((List Int) × Int × Int × (List Int) × (List Int) × Unit)
abbrev qT63:Type:=(qT5 × qT1 × qT1 × Unit)
abbrev qT64:Type:=(qT2 × Int × Int × Unit)
abbrev qT65:Type:=(Int × Int × Int × Unit × Bool × Bool × qT1 × Unit)
abbrev qT66:Type:=(Int × Int × Int × Int × Int × Int × qT1 × Unit)
abbrev qT67:Type:=((List Int) × (List Int) × Int × (List Int) × Unit)
abbrev qT68:Type:=(Int × Int × (List Int) × Int × (List Int) × Unit)
abbrev qT69:Type:=(qT1 × qT1 × qT3 × Int × Int × qT2 × qT2 × Unit)
abbrev qT70:Type:=((List Int) × (Int × Unit) × Int × Int × Unit)
abbrev qT71:Type:=((List Int) × (qT1 × qT42) × Int × Int × Unit)
abbrev qT72:Type:=(qT1 × Int × Int × Unit)
abbrev qT73:Type:=((List Int) × Int × Unit)
abbrev qT74:Type:=(qT1 × qT7 × qT1 × Unit)
abbrev qT75:Type:=(Int × Int × qT1 × Unit)
abbrev qT76:Type:=(qT1 × qT2 × Int × Int × (List Bool) × Unit)
abbrev qT77:Type:=(Int × Int × (List Int) × Unit)
abbrev qT78:Type:=(Unit × Int × Int × Int × Int × qT1 × Unit)
noncomputable def qaa (n:Nat) (p1:qT0) (n3:Int) (i4:Int):Option ((qT0 × Int × Int × Unit) ⊕ qT41) :=
(bif (decide (i4<(p1.2.2.1.length:Int))) then
(some (.inl (p1,n3,i4,(decide (n3≤(20000:Int))),())))
else
(some (.inl (p1,n3,i4,false,()))):Option ((qT0 × Int × Int × Bool × Unit) ⊕ Empty)).bind (Sum.elim (fun d7 =>
bif d7.2.2.2.1 then
((idx d7.1.2.2.1 d7.2.2.1).bind fun v8 =>
bif decide ((8:Int)=0) then none else
(idx d7.1.2.2.1 d7.2.2.1).bind fun v9 =>
bif decide ((8:Int)=0) then none else
some (.inl (d7.1,(IntKind.i64.wrap (d7.2.1+(IntKind.i64.wrap ((IntKind.i64.wrap (Int.tdiv (v8.2.1.length:Int) (8:Int)))+(IntKind.i64.wrap (Int.tdiv (v9.2.2.1.length:Int) (8:Int))))))),(IntKind.i64.wrap (d7.2.2.1+(1:Int))),())))
else
(some (.inr (.inl (d7.2.1,()))))) nof)
noncomputable def qab (n:Nat) (d:(qT0 × Int × Int × Unit)):Option ((qT0 × Int × Int × Unit) ⊕ qT41):=qaa n d.1 d.2.1 d.2.2.1
noncomputable def qac (n:Nat) (p0:qT0):Option (Bool × Unit) :=
(iterN (qab n) n (p0,(IntKind.i64.wrap ((p0.2.2.1.length:Int)+(p0.2.2.2.1.length:Int))),(0:Int),())).bind (Sum.elim (fun d11 =>
some ((decide ((20000:Int)<d11.1)),())) nof)
noncomputable def qad (n:Nat) :Option (qT1 × Unit) :=
some ([[(0:Int),(1:Int)],[(1:Int),(1:Int)]],())
noncomputable def qae (n:Nat) (x0:Int) (x1:Int):Option (Bool × Unit) :=
bif (decide (x0<(0:Int))) then
(some (true,()))
else
(some ((decide (x1≤x0)),()))
noncomputable def qaf (n:Nat) (s0:(List Int)) (f1:(Int × Unit)) (t7:Int) (t8:Int):Option (qT70 ⊕ qT14) :=
bif (decide (t8<t7)) then
((idx s0 t8).bind fun v7 =>
(qae n v7 f1.1).bind fun r8 =>
bif r8.1 then
(some (.inr (.inl (t8,()))))
else
(some (.inl (s0,(f1.1,()),t7,(IntKind.i64.wrap (t8+(1:Int))),()))))
else
(some (.inr (.inr (.inl (())))))
noncomputable def qag (n:Nat) (d:qT70):Option (qT70 ⊕ qT14):=qaf n d.1 d.2.1 d.2.2.1 d.2.2.2.1
noncomputable def qah (n:Nat) (s0:(List Int)) (f1:(Int × Unit)):Option (Int × Unit) :=
(iterN (qag n) n (s0,(f1.1,()),(s0.length:Int),(0:Int),())).bind (Sum.elim (fun d12 =>
some (d12.1,())) (Sum.elim (fun d11 =>
some ((-1:Int),())) nof))
noncomputable def qai (n:Nat) (s0:(List Int)) (f1:(Int × Unit)):Option (Bool × Unit) :=
(qah n s0 (f1.1,())).bind fun r1 =>
some ((decide ((0:Int)≤r1.1)),())
noncomputable def qaj (n:Nat) (m0:qT1) (a6:Int) (b7:Int) (t52:Int) (t53:Int) (t57:Int) (t58:Int) (t62:Int) (t63:Int):Option (qT53 ⊕ ((Bool × Unit) ⊕ (qT31 ⊕ Empty))) :=
bif (decide (t63<t62)) then
((idx m0 a6).bind fun v53 =>
(idx v53 b7).bind fun v54 =>
(idx m0 v54).bind fun v55 =>
(idx v55 t63).bind fun v56 =>
(idx m0 a6).bind fun v57 =>
(idx m0 b7).bind fun v58 =>
(idx v58 t63).bind fun v59 =>
(idx v57 v59).bind fun v60 =>
bif (!decide (v56=v60)) then
(some (.inr (.inl (false,()))))
else
(some (.inl (m0,a6,b7,t52,t53,t57,t58,t62,(IntKind.i64.wrap (t63+(1:Int))),()))))
else
(some (.inr (.inr (.inl (m0,a6,t52,t53,t57,t58,())))))
noncomputable def qak (n:Nat) (d:qT53):Option (qT53 ⊕ ((Bool × Unit) ⊕ (qT31 ⊕ Empty))):=qaj n d.1 d.2.1 d.2.2.1 d.2.2.2.1 d.2.2.2.2.1 d.2.2.2.2.2.1 d.2.2.2.2.2.2.1 d.2.2.2.2.2.2.2.1 d.2.2.2.2.2.2.2.2.1
noncomputable def qal (n:Nat) (m0:qT1) (a6:Int) (t52:Int) (t53:Int) (t57:Int) (t58:Int):Option (qT31 ⊕ ((Bool × Unit) ⊕ (qT72 ⊕ Empty))) :=
bif (decide (t58<t57)) then
((iterN (qak n) n (m0,a6,t58,t52,t53,t57,t58,(m0.length:Int),(0:Int),())).bind (Sum.elim (fun d66 =>
some (.inr (.inl (d66.1,())))) (Sum.elim (fun d65 =>
some (.inl (d65.1,d65.2.1,d65.2.2.1,d65.2.2.2.1,d65.2.2.2.2.1,(IntKind.i64.wrap (d65.2.2.2.2.2.1+(1:Int))),()))) nof)))
else
(some (.inr (.inr (.inl (m0,t52,t53,())))))
noncomputable def qam (n:Nat) (d:qT31):Option (qT31 ⊕ ((Bool × Unit) ⊕ (qT72 ⊕ Empty))):=qal n d.1 d.2.1 d.2.2.1 d.2.2.2.1 d.2.2.2.2.1 d.2.2.2.2.2.1
noncomputable def qan (n:Nat) (m0:qT1) (t52:Int) (t53:Int):Option (qT72 ⊕ qT6) :=
bif (decide (t53<t52)) then
((iterN (qam n) n (m0,t53,t52,t53,(m0.length:Int),(0:Int),())).bind (Sum.elim (fun d72 =>
some (.inr (.inl (d72.1,())))) (Sum.elim (fun d71 =>
some (.inl (d71.1,d71.2.1,(IntKind.i64.wrap (d71.2.2.1+(1:Int))),()))) nof)))
else
(some (.inr (.inr (.inl (())))))
noncomputable def qao (n:Nat) (d:qT72):Option (qT72 ⊕ qT6):=qan n d.1 d.2.1 d.2.2.1
noncomputable def qap (n:Nat) (m0:qT1) (t17:qT1) (t18:Int) (t19:Int) (e3:Int):Option ((qT1 × qT1 × Int × Int × Int × Unit) ⊕ ((Bool × Unit) ⊕ qT11)) :=
bif (decide (t19<t18)) then
((idx t17 t19).bind fun v20 =>
(bif (!decide ((v20.length:Int)=e3)) then
(some (.inl (m0,t17,t18,t19,true,e3,())))
else
((qai n v20 (e3,())).bind fun r21 =>
bif r21.1 then
(some (.inl (m0,t17,t18,t19,true,e3,())))
else
((idx v20 (0:Int)).bind fun v22 =>
bif (!decide (v22=t19)) then
(some (.inl (m0,t17,t18,t19,true,e3,())))
else
((idx m0 (0:Int)).bind fun v23 =>
(idx v23 t19).bind fun v24 =>
some (.inl (m0,t17,t18,t19,(!decide (v24=t19)),e3,()))))):Option ((qT1 × qT1 × Int × Int × Bool × Int × Unit) ⊕ Empty)).bind (Sum.elim (fun d25 =>
bif d25.2.2.2.2.1 then
(some (.inr (.inl (false,()))))
else
(some (.inl (d25.1,d25.2.1,d25.2.2.1,(IntKind.i64.wrap (d25.2.2.2.1+(1:Int))),d25.2.2.2.2.2.1,())))) nof))
else
(some (.inr (.inr (.inl (m0,())))))
noncomputable def qaq (n:Nat) (d:(qT1 × qT1 × Int × Int × Int × Unit)):Option ((qT1 × qT1 × Int × Int × Int × Unit) ⊕ ((Bool × Unit) ⊕ qT11)):=qap n d.1 d.2.1 d.2.2.1 d.2.2.2.1 d.2.2.2.2.1
noncomputable def qar (n:Nat) (m0:qT1):Option (Bool × Unit) :=
(bif (decide ((m0.length:Int)<(1:Int))) then
(some (.inl (m0,true,(m0.length:Int),())))
else
(some (.inl (m0,(decide ((120:Int)<(m0.length:Int))),(m0.length:Int),()))):Option ((qT1 × Bool × Int × Unit) ⊕ Empty)).bind (Sum.elim (fun d2 =>
bif d2.2.1 then
(some (false,()))
else
((iterN (qaq n) n (d2.1,d2.1,(d2.1.length:Int),(0:Int),d2.2.2.1,())).bind (Sum.elim (fun d77 =>
some (d77.1,())) (Sum.elim (fun d28 =>
(iterN (qao n) n (d28.1,(d28.1.length:Int),(0:Int),())).bind (Sum.elim (fun d76 =>
some (d76.1,())) (Sum.elim (fun d75 =>
some (true,())) nof))) nof)))) nof)
noncomputable def qas (n:Nat) (c0:Int) (x1:qT1) (x2:Int) (x3:Int):Option (Bool × Unit) :=
(idx x1 x2).bind fun v1 =>
(idx v1 c0).bind fun v2 =>
bif (decide (v2=x3)) then
((idx x1 c0).bind fun v3 =>
(idx v3 x2).bind fun v4 =>
some ((decide (v4=x3)),()))
else
(some (false,()))
noncomputable def qat (n:Nat) (s0:(List Int)) (f1:(qT1 × qT42)) (t7:Int) (t8:Int):Option (qT71 ⊕ qT14) :=
bif (decide (t8<t7)) then
((idx s0 t8).bind fun v7 =>
(qas n v7 f1.1 f1.2.1 f1.2.2.1).bind fun r8 =>
bif r8.1 then
(some (.inr (.inl (t8,()))))
else
(some (.inl (s0,(f1.1,(f1.2.1,(f1.2.2.1,()))),t7,(IntKind.i64.wrap (t8+(1:Int))),()))))
else
(some (.inr (.inr (.inl (())))))
noncomputable def qau (n:Nat) (d:qT71):Option (qT71 ⊕ qT14):=qat n d.1 d.2.1 d.2.2.1 d.2.2.2.1
noncomputable def qav (n:Nat) (s0:(List Int)) (f1:(qT1 × qT42)):Option (Int × Unit) :=
(iterN (qau n) n (s0,(f1.1,(f1.2.1,(f1.2.2.1,()))),(s0.length:Int),(0:Int),())).bind (Sum.elim (fun d12 =>
some (d12.1,())) (Sum.elim (fun d11 =>
some ((-1:Int),())) nof))
noncomputable def qaw (n:Nat) (s0:(List Int)) (f1:(qT1 × qT42)):Option (Bool × Unit) :=
(qav n s0 (f1.1,(f1.2.1,(f1.2.2.1,())))).bind fun r1 =>
some ((decide ((0:Int)≤r1.1)),())
noncomputable def qax (n:Nat) (m1:qT1) (t11:Int) (t12:Int) (t55:Int) (t56:Int) (out3:qT1) (x4:Int) (t54:(List Int)) (l7:(List Int)):Option (qT21 ⊕ (qT32 ⊕ Empty)) :=
bif (decide (t56<t55)) then
(((idx t54 t56).bind fun v37 =>
(qaw n t54 (m1,(v37,(x4,())))).bind fun r38 =>
bif r38.1 then
(chk (lenB ((l7).length+([v37]).length)) (some (.inl (m1,t11,t12,t55,t56,out3,x4,t54,(l7++[v37]),()))))
else
(some (.inl (m1,t11,t12,t55,t56,out3,x4,t54,l7,()))):Option (qT21 ⊕ Empty)).bind (Sum.elim (fun d39 =>
some (.inl (d39.1,d39.2.1,d39.2.2.1,d39.2.2.2.1,(IntKind.i64.wrap (d39.2.2.2.2.1+(1:Int))),d39.2.2.2.2.2.1,d39.2.2.2.2.2.2.1,d39.2.2.2.2.2.2.2.1,d39.2.2.2.2.2.2.2.2.1,()))) nof))
else
(some (.inr (.inl (m1,t11,t12,out3,l7,()))))
noncomputable def qay (n:Nat) (d:qT21):Option (qT21 ⊕ (qT32 ⊕ Empty)):=qax n d.1 d.2.1 d.2.2.1 d.2.2.2.1 d.2.2.2.2.1 d.2.2.2.2.2.1 d.2.2.2.2.2.2.1 d.2.2.2.2.2.2.2.1 d.2.2.2.2.2.2.2.2.1
noncomputable def qaz (n:Nat) (m1:qT1) (t11:Int) (t12:Int) (t25:Int) (t26:Int) (out3:qT1) (x4:Int) (local5:(List Int)):Option (qT26 ⊕ ((qT1 × Int × Int × qT1 × Int × (List Int) × Unit) ⊕ Empty)) :=
bif (decide (t26<t25)) then
((((idx m1 t26).bind fun v22 =>
(idx v22 x4).bind fun v23 =>
bif (decide (v23=t26)) then
((idx m1 x4).bind fun v24 =>
(idx v24 t26).bind fun v25 =>
some (.inl (m1,t26,t11,t12,t25,t26,(decide (v25=t26)),out3,x4,local5,())))
else
(some (.inl (m1,t26,t11,t12,t25,t26,false,out3,x4,local5,()))):Option ((qT1 × Int × Int × Int × Int × Int × Bool × qT1 × Int × (List Int) × Unit) ⊕ Empty)).bind (Sum.elim (fun d26 =>
bif d26.2.2.2.2.2.2.1 then
(chk (lenB ((d26.2.2.2.2.2.2.2.2.2.1).length+([d26.2.1]).length)) (some (.inl (d26.1,d26.2.2.1,d26.2.2.2.1,d26.2.2.2.2.1,d26.2.2.2.2.2.1,d26.2.2.2.2.2.2.2.1,d26.2.2.2.2.2.2.2.2.1,(d26.2.2.2.2.2.2.2.2.2.1++[d26.2.1]),()))))
else
(some (.inl (d26.1,d26.2.2.1,d26.2.2.2.1,d26.2.2.2.2.1,d26.2.2.2.2.2.1,d26.2.2.2.2.2.2.2.1,d26.2.2.2.2.2.2.2.2.1,d26.2.2.2.2.2.2.2.2.2.1,())))) nof):Option (qT26 ⊕ Empty)).bind (Sum.elim (fun d27 =>
some (.inl (d27.1,d27.2.1,d27.2.2.1,d27.2.2.2.1,(IntKind.i64.wrap (d27.2.2.2.2.1+(1:Int))),d27.2.2.2.2.2.1,d27.2.2.2.2.2.2.1,d27.2.2.2.2.2.2.2.1,()))) nof))
else
(some (.inr (.inl (m1,t11,t12,out3,x4,local5,()))))
noncomputable def qa0 (n:Nat) (d:qT26):Option (qT26 ⊕ ((qT1 × Int × Int × qT1 × Int × (List Int) × Unit) ⊕ Empty)):=qaz n d.1 d.2.1 d.2.2.1 d.2.2.2.1 d.2.2.2.2.1 d.2.2.2.2.2.1 d.2.2.2.2.2.2.1 d.2.2.2.2.2.2.2.1
noncomputable def qa1 (n:Nat) (m1:qT1) (t11:Int) (t12:Int) (out3:qT1):Option (qT29 ⊕ qT11) :=
bif (decide (t12<t11)) then
(((idx m1 t12).bind fun v47 =>
(idx v47 t12).bind fun v48 =>
bif (!decide (v48=t12)) then
(some (.inl (m1,t11,t12,out3,())))
else
((iterN (qa0 n) n (m1,t11,t12,(m1.length:Int),(0:Int),out3,t12,([]:(List Int)),())).bind (Sum.elim (fun d49 =>
(iterN (qay n) n (d49.1,d49.2.1,d49.2.2.1,(d49.2.2.2.2.2.1.length:Int),(0:Int),d49.2.2.2.1,d49.2.2.2.2.1,d49.2.2.2.2.2.1,([]:(List Int)),())).bind (Sum.elim (fun d50 =>
chk (lenB ((d50.2.2.2.1).length+([d50.2.2.2.2.1]).length)) (some (.inl (d50.1,d50.2.1,d50.2.2.1,(d50.2.2.2.1++[d50.2.2.2.2.1]),())))) nof)) nof)):Option (qT29 ⊕ Empty)).bind (Sum.elim (fun d51 =>
some (.inl (d51.1,d51.2.1,(IntKind.i64.wrap (d51.2.2.1+(1:Int))),d51.2.2.2.1,()))) nof))
else
(some (.inr (.inl (out3,()))))
noncomputable def qa2 (n:Nat) (d:qT29):Option (qT29 ⊕ qT11):=qa1 n d.1 d.2.1 d.2.2.1 d.2.2.2.1
noncomputable def qa3 (n:Nat) (m0:qT1):Option (qT1 × Unit) :=
(iterN (qa2 n) n (m0,(m0.length:Int),(0:Int),([]:qT1),())).bind (Sum.elim (fun d53 =>
some (d53.1,())) nof)
noncomputable def qa4 (n:Nat) (m0:qT1):Option (qT1 × (Int × Unit)) :=
(qar n m0).bind fun r3 =>
bif (!r3.1) then
(some (([]:qT1),((1:Int),())))
else
((qa3 n m0).bind fun r4 =>
some (r4.1,((0:Int),())))
noncomputable def qa5 (n:Nat) (l0:(List Int)):Option (Bool × Unit) :=
some ((decide ((1:Int)<(l0.length:Int))),())
noncomputable def qa6 (n:Nat) (s0:qT1) (f1:Unit) (t7:Int) (t8:Int):Option ((qT1 × Unit × Int × Int × Unit) ⊕ qT14) :=
bif (decide (t8<t7)) then
((idx s0 t8).bind fun v7 =>
(qa5 n v7).bind fun r8 =>
bif r8.1 then
(some (.inr (.inl (t8,()))))
else
(some (.inl (s0,(),t7,(IntKind.i64.wrap (t8+(1:Int))),()))))
else
(some (.inr (.inr (.inl (())))))
noncomputable def qa7 (n:Nat) (d:(qT1 × Unit × Int × Int × Unit)):Option ((qT1 × Unit × Int × Int × Unit) ⊕ qT14):=qa6 n d.1 d.2.1 d.2.2.1 d.2.2.2.1
noncomputable def qa8 (n:Nat) (s0:qT1):Option (Int × Unit) :=
(iterN (qa7 n) n (s0,(),(s0.length:Int),(0:Int),())).bind (Sum.elim (fun d12 =>
some (d12.1,())) (Sum.elim (fun d11 =>
some ((-1:Int),())) nof))
noncomputable def qa9 (n:Nat) (s0:qT1):Option (Bool × Unit) :=
(qa8 n s0).bind fun r1 =>
some ((decide ((0:Int)≤r1.1)),())
noncomputable def qba (n:Nat) (m0:qT1):Option (Bool × (Int × Unit)) :=
(qar n m0).bind fun r3 =>
bif (!r3.1) then
(some (false,((1:Int),())))
else
((qa3 n m0).bind fun r4 =>
(qa9 n r4.1).bind fun r5 =>
some ((!r5.1),((0:Int),())))
noncomputable def qbb (n:Nat) (k0:Int) (a5:Int) (t16:Int) (t17:Int) (t20:Int) (t21:Int) (m4:qT1):Option (qT66 ⊕ (qT57 ⊕ Empty)) :=
bif (decide (t21<t20)) then
((idx m4 a5).bind fun v7 =>
bif decide (k0=0) then none else
chk (lenB ((v7).length+([(Int.tmod (IntKind.i64.wrap (a5+t21)) k0)]).length)) ((idx m4 a5).bind fun v8 =>
chk (sameP [.el ((a5).toNat)] [.el ((a5).toNat)]) (some (.inl (k0,a5,t16,t17,t20,(IntKind.i64.wrap (t21+(1:Int))),(List.set m4 (a5).toNat (v7++[(Int.tmod (IntKind.i64.wrap (a5+t21)) k0)])),())))))
else
(some (.inr (.inl (k0,t16,t17,m4,()))))
noncomputable def qbc (n:Nat) (d:qT66):Option (qT66 ⊕ (qT57 ⊕ Empty)):=qbb n d.1 d.2.1 d.2.2.1 d.2.2.2.1 d.2.2.2.2.1 d.2.2.2.2.2.1 d.2.2.2.2.2.2.1
noncomputable def qbd (n:Nat) (k0:Int) (t16:Int) (t17:Int) (m4:qT1):Option (qT57 ⊕ qT11) :=
bif (decide (t17<t16)) then
((iterN (qbc n) n (k0,t17,t16,t17,k0,(0:Int),m4,())).bind (Sum.elim (fun d11 =>
some (.inl (d11.1,d11.2.1,(IntKind.i64.wrap (d11.2.2.1+(1:Int))),d11.2.2.2.1,()))) nof))
else
(some (.inr (.inl (m4,()))))
noncomputable def qbe (n:Nat) (d:qT57):Option (qT57 ⊕ qT11):=qbd n d.1 d.2.1 d.2.2.1 d.2.2.2.1
noncomputable def qbf (n:Nat) (k0:Int):Option (qT1 × (Int × Unit)) :=
(bif (decide (k0<(1:Int))) then
(some (.inl (k0,true,())))
else
(some (.inl (k0,(decide ((120:Int)<k0)),()))):Option ((Int × Bool × Unit) ⊕ Empty)).bind (Sum.elim (fun d2 =>
bif d2.2.1 then
(some (([]:qT1),((2:Int),())))
else
(chk (decide (0≤d2.1)) (chk (decide (d2.1≤d2.1)) (chk (lenB (d2.1).toNat) ((iterN (qbe n) n (d2.1,(((List.replicate (d2.1).toNat ([]:(List Int)))).length:Int),(0:Int),(List.replicate (d2.1).toNat ([]:(List Int))),())).bind (Sum.elim (fun d13 =>
some (d13.1,((0:Int),()))) nof)))))) nof)
noncomputable def qbg (n:Nat) (k1:Int) (t26:Int) (t27:Int) (t4:qT2) (out6:qT2):Option ((Int × Int × Int × qT2 × qT2 × Unit) ⊕ ((qT2 × qT2 × Unit) ⊕ Empty)) :=
bif (decide (t27<t26)) then
(bif decide (k1=0) then none else
chk (lenB ((out6.2.1).length+([(t27,((0:Int),((Int.tmod (1:Int) k1),())))]).length)) (chk (sameP [.el (0),.f2,.f1] [.el (0),.f2,.f1]) (some (.inl (k1,t26,(IntKind.i64.wrap (t27+(1:Int))),t4,(out6.1,((out6.2.1++[(t27,((0:Int),((Int.tmod (1:Int) k1),())))]),out6.2.2)),())))))
else
(some (.inr (.inl (t4,out6,()))))
noncomputable def qbh (n:Nat) (d:(Int × Int × Int × qT2 × qT2 × Unit)):Option ((Int × Int × Int × qT2 × qT2 × Unit) ⊕ ((qT2 × qT2 × Unit) ⊕ Empty)):=qbg n d.1 d.2.1 d.2.2.1 d.2.2.2.1 d.2.2.2.2.1
noncomputable def qbi (n:Nat) (n0:Int) (k1:Int):Option (qT2 × (Int × Unit)) :=
(bif (decide (k1<(1:Int))) then
(some (.inl (n0,k1,true,((0:Int),(([]:qT9),(([]:(List Int)),()))),())))
else
(bif (decide ((120:Int)<k1)) then
(some (.inl (n0,k1,true,((0:Int),(([]:qT9),(([]:(List Int)),()))),())))
else
(bif (decide (n0<(0:Int))) then
(some (.inl (n0,k1,true,((0:Int),(([]:qT9),(([]:(List Int)),()))),())))
else
(some (.inl (n0,k1,(decide ((16:Int)<n0)),((0:Int),(([]:qT9),(([]:(List Int)),()))),()))))):Option ((Int × Int × Bool × qT2 × Unit) ⊕ Empty)).bind (Sum.elim (fun d2 =>
bif d2.2.2.1 then
(some (((0:Int),(([]:qT9),(([]:(List Int)),()))),((2:Int),())))
else
((iterN (qbh n) n (d2.2.1,d2.1,(0:Int),d2.2.2.2.1,(d2.1,(([]:qT9),([(0:Int)],()))),())).bind (Sum.elim (fun d4 =>
some (d4.2.1,((0:Int),()))) nof))) nof)
noncomputable def qbj (n:Nat) (x0:Int) (x1:qT1):Option (Bool × Unit) :=
bif (decide ((0:Int)≤x0)) then
(some ((decide (x0<(x1.length:Int))),()))
else
(some (false,()))
noncomputable def qbk (n:Nat) (x0:(Int × qT42)) (x1:qT2) (x2:(qT1 × Unit)):Option (Bool × Unit) :=
bif (decide (x0.1<(0:Int))) then
(some (true,()))
else
(bif (decide (x1.1≤x0.1)) then
(some (true,()))
else
((qbj n x0.2.1 x2.1).bind fun r1 =>
bif (!r1.1) then
(some (true,()))
else
((qbj n x0.2.2.1 x2.1).bind fun r2 =>
some ((!r2.1),()))))
noncomputable def qbl (n:Nat) (s0:qT9) (f1:qT43) (t7:Int) (t8:Int):Option ((qT9 × qT43 × Int × Int × Unit) ⊕ qT14) :=
bif (decide (t8<t7)) then
((idx s0 t8).bind fun v7 =>
(qbk n v7 f1.1 (f1.2.1.1,())).bind fun r8 =>
bif r8.1 then
(some (.inr (.inl (t8,()))))
else
(some (.inl (s0,(f1.1,((f1.2.1.1,()),())),t7,(IntKind.i64.wrap (t8+(1:Int))),()))))
else
(some (.inr (.inr (.inl (())))))
noncomputable def qbm (n:Nat) (d:(qT9 × qT43 × Int × Int × Unit)):Option ((qT9 × qT43 × Int × Int × Unit) ⊕ qT14):=qbl n d.1 d.2.1 d.2.2.1 d.2.2.2.1
noncomputable def qbn (n:Nat) (s0:qT9) (f1:qT43):Option (Int × Unit) :=
(iterN (qbm n) n (s0,(f1.1,((f1.2.1.1,()),())),(s0.length:Int),(0:Int),())).bind (Sum.elim (fun d12 =>
some (d12.1,())) (Sum.elim (fun d11 =>
some ((-1:Int),())) nof))
noncomputable def qbo (n:Nat) (s0:qT9) (f1:qT43):Option (Bool × Unit) :=
(qbn n s0 (f1.1,((f1.2.1.1,()),()))).bind fun r1 =>
some ((decide ((0:Int)≤r1.1)),())
noncomputable def qbp (n:Nat) (p3:qT2) (element5:(qT1 × Unit)) (t24:(List Int)) (t25:Int) (t26:Int):Option qT55 :=
bif (decide (t26<t25)) then
((idx t24 t26).bind fun v14 =>
((qbj n v14 element5.1).bind fun r15 =>
bif (!r15.1) then
(some (.inl (p3,(element5.1,()),t24,t25,t26,true,())))
else
(bif (decide ((0:Int)<t26)) then
((idx p3.2.2.1 (IntKind.i64.wrap (t26-(1:Int)))).bind fun v16 =>
some (.inl (p3,(element5.1,()),t24,t25,t26,(decide (v14≤v16)),())))
else
(some (.inl (p3,(element5.1,()),t24,t25,t26,false,())))):Option ((qT2 × (qT1 × Unit) × (List Int) × Int × Int × Bool × Unit) ⊕ Empty)).bind (Sum.elim (fun d17 =>
bif d17.2.2.2.2.2.1 then
(some (.inr (.inl (false,()))))
else
(some (.inl (d17.1,(d17.2.1.1,()),d17.2.2.1,d17.2.2.2.1,(IntKind.i64.wrap (d17.2.2.2.2.1+(1:Int))),())))) nof))
else
(some (.inr (.inr (.inl (p3,(element5.1,()),())))))
noncomputable def qbq (n:Nat) (d:(qT2 × (qT1 × Unit) × (List Int) × Int × Int × Unit)):Option qT55:=qbp n d.1 d.2.1 d.2.2.1 d.2.2.2.1 d.2.2.2.2.1
noncomputable def qbr (n:Nat) (m0:qT1) (p1:qT2):Option (Bool × Unit) :=
(bif (decide (p1.1<(0:Int))) then
(some (.inl (p1,(m0,()),true,())))
else
(bif (decide ((16:Int)<p1.1)) then
(some (.inl (p1,(m0,()),true,())))
else
(some (.inl (p1,(m0,()),(decide ((200000:Int)<(p1.2.1.length:Int))),())))):Option ((qT2 × (qT1 × Unit) × Bool × Unit) ⊕ Empty)).bind (Sum.elim (fun d2 =>
bif d2.2.2.1 then
(some (false,()))
else
((iterN (qbq n) n (d2.1,(d2.2.1.1,()),d2.1.2.2.1,(d2.1.2.2.1.length:Int),(0:Int),())).bind (Sum.elim (fun d22 =>
some (d22.1,())) (Sum.elim (fun d20 =>
(qbo n d20.1.2.1 (d20.1,((d20.2.1.1,()),()))).bind fun r21 =>
some ((!r21.1),())) nof)))) nof)
noncomputable def qbs (n:Nat) (m0:qT1) (p1:qT2):Option (Bool × Unit) :=
(qar n m0).bind fun r1 =>
bif r1.1 then
((qbr n m0 p1).bind fun r2 =>
some (r2.1,()))
else
(some (false,()))
noncomputable def qbt (n:Nat) (i0:Int) (t10:Int) (t11:Int) (x5:(List Bool)):Option qT22 :=
bif (decide (t11<t10)) then
(bif decide (t11<0) then none else
(idx x5 t11).bind fun v3 =>
some (.inl (i0,t10,(IntKind.i64.wrap (t11+(1:Int))),(List.set x5 (t11).toNat (decide ((IntKind.i64.wrap ((BitVec.ofInt IntKind.i64.bits (Int.fdiv i0 (2 ^ (min (t11).toNat IntKind.i64.bits))) &&& BitVec.ofInt IntKind.i64.bits (1:Int)).toNat))=(1:Int)))),())))
else
(some (.inr (.inl (x5,()))))
noncomputable def qbu (n:Nat) (d:(Int × Int × Int × (List Bool) × Unit)):Option qT22:=qbt n d.1 d.2.1 d.2.2.1 d.2.2.2.1
noncomputable def qbv (n:Nat) (i0:Int) (n1:Int):Option ((List Bool) × Unit) :=
chk (decide (0≤n1)) (chk (decide (n1≤n1)) (chk (lenB (n1).toNat) ((iterN (qbu n) n (i0,(((List.replicate (n1).toNat false)).length:Int),(0:Int),(List.replicate (n1).toNat false),())).bind (Sum.elim (fun d5 =>
some (d5.1,())) nof))))
noncomputable def qbw (n:Nat) (m0:qT1) (x2:(List Bool)) (a7:Int) (t11:qT9) (t12:Int) (t13:Int):Option (qT37 ⊕ qT41) :=
bif (decide (t13<t12)) then
(((idx t11 t13).bind fun v16 =>
(idx x2 v16.1).bind fun v17 =>
bif v17 then
((idx m0 a7).bind fun v18 =>
(idx v18 v16.2.2.1).bind fun v19 =>
some (.inl (m0,x2,v19,t11,t12,t13,())))
else
((idx m0 a7).bind fun v20 =>
(idx v20 v16.2.1).bind fun v21 =>
some (.inl (m0,x2,v21,t11,t12,t13,()))):Option (qT37 ⊕ Empty)).bind (Sum.elim (fun d22 =>
some (.inl (d22.1,d22.2.1,d22.2.2.1,d22.2.2.2.1,d22.2.2.2.2.1,(IntKind.i64.wrap (d22.2.2.2.2.2.1+(1:Int))),()))) nof))
else
(some (.inr (.inl (a7,()))))
noncomputable def qbx (n:Nat) (d:qT37):Option (qT37 ⊕ qT41):=qbw n d.1 d.2.1 d.2.2.1 d.2.2.2.1 d.2.2.2.2.1 d.2.2.2.2.2.1
noncomputable def qby (n:Nat) (m0:qT1) (p1:qT2) (x2:(List Bool)):Option (Int × Unit) :=
(iterN (qbx n) n (m0,x2,(0:Int),p1.2.1,(p1.2.1.length:Int),(0:Int),())).bind (Sum.elim (fun d24 =>
some (d24.1,())) nof)
noncomputable def qbz (n:Nat) (s0:(List Int)) (v1:Int) (t7:Int) (t8:Int):Option (qT39 ⊕ qT14) :=
bif (decide (t8<t7)) then
((idx s0 t8).bind fun v4 =>
bif (decide (v1=v4)) then
(some (.inr (.inl (t8,()))))
else
(some (.inl (s0,v1,t7,(IntKind.i64.wrap (t8+(1:Int))),()))))
else
(some (.inr (.inr (.inl (())))))
noncomputable def qb0 (n:Nat) (d:qT39):Option (qT39 ⊕ qT14):=qbz n d.1 d.2.1 d.2.2.1 d.2.2.2.1
noncomputable def qb1 (n:Nat) (s0:(List Int)) (v1:Int):Option (Int × Unit) :=
(iterN (qb0 n) n (s0,v1,(s0.length:Int),(0:Int),())).bind (Sum.elim (fun d8 =>
some (d8.1,())) (Sum.elim (fun d7 =>
some ((-1:Int),())) nof))
noncomputable def qb2 (n:Nat) (s0:(List Int)) (v1:Int):Option (Bool × Unit) :=
(qb1 n s0 v1).bind fun r1 =>
some ((decide ((0:Int)≤r1.1)),())
noncomputable def qb3 (n:Nat) (m0:qT1) (p3:qT2) (t32:Int) (t33:Int) (out6:(List Bool)):Option (qT76 ⊕ (((List Bool) × Unit) ⊕ Empty)) :=
bif (decide (t33<t32)) then
((qbv n t33 p3.1).bind fun r14 =>
(qby n m0 p3 r14.1).bind fun r15 =>
(qb2 n p3.2.2.1 r15.1).bind fun r16 =>
(idx out6 t33).bind fun v17 =>
some (.inl (m0,p3,t32,(IntKind.i64.wrap (t33+(1:Int))),(List.set out6 (t33).toNat r16.1),())))
else
(some (.inr (.inl (out6,()))))
noncomputable def qb4 (n:Nat) (d:qT76):Option (qT76 ⊕ (((List Bool) × Unit) ⊕ Empty)):=qb3 n d.1 d.2.1 d.2.2.1 d.2.2.2.1 d.2.2.2.2.1
noncomputable def qb5 (n:Nat) (m0:qT1) (p1:qT2):Option ((List Bool) × (Int × Unit)) :=
(qbs n m0 p1).bind fun r4 =>
bif (!r4.1) then
(some (([]:(List Bool)),((1:Int),())))
else
((bif (decide ((12:Int)<p1.1)) then
(some (.inl (m0,p1,true,())))
else
(bif decide (p1.1<0) then none else
some (.inl (m0,p1,(decide ((16777216:Int)<(IntKind.i64.wrap ((IntKind.i64.wrap ((1:Int)+(p1.2.1.length:Int)))*2 ^ (min (p1.1).toNat IntKind.i64.bits))))),()))):Option ((qT1 × qT2 × Bool × Unit) ⊕ Empty)).bind (Sum.elim (fun d5 =>
bif d5.2.2.1 then
(some (([]:(List Bool)),((5:Int),())))
else
(bif decide (d5.2.1.1<0) then none else
chk (decide (0≤(IntKind.i64.wrap ((1:Int)*2 ^ (min (d5.2.1.1).toNat IntKind.i64.bits))))) (chk (decide ((IntKind.i64.wrap ((1:Int)*2 ^ (min (d5.2.1.1).toNat IntKind.i64.bits)))≤(IntKind.i64.wrap ((1:Int)*2 ^ (min (d5.2.1.1).toNat IntKind.i64.bits))))) (chk (lenB ((IntKind.i64.wrap ((1:Int)*2 ^ (min (d5.2.1.1).toNat IntKind.i64.bits)))).toNat) ((iterN (qb4 n) n (d5.1,d5.2.1,(((List.replicate ((IntKind.i64.wrap ((1:Int)*2 ^ (min (d5.2.1.1).toNat IntKind.i64.bits)))).toNat false)).length:Int),(0:Int),(List.replicate ((IntKind.i64.wrap ((1:Int)*2 ^ (min (d5.2.1.1).toNat IntKind.i64.bits)))).toNat false),())).bind (Sum.elim (fun d19 =>
some (d19.1,((0:Int),()))) nof)))))) nof))
noncomputable def qb6 (n:Nat) (a0:(List Int)) (b1:(List Int)) (i5:Int):Option (qT28 ⊕ qT6) :=
bif (decide (i5<(a0.length:Int))) then
((idx a0 i5).bind fun v7 =>
(idx b1 i5).bind fun v8 =>
bif (!decide (v7=v8)) then
(some (.inr (.inl (false,()))))
else
(some (.inl (a0,b1,(IntKind.i64.wrap (i5+(1:Int))),()))))
else
(some (.inr (.inr (.inl (())))))
noncomputable def qb7 (n:Nat) (d:qT28):Option (qT28 ⊕ qT6):=qb6 n d.1 d.2.1 d.2.2.1
noncomputable def qb8 (n:Nat) (a0:(List Int)) (b1:(List Int)):Option (Bool × Unit) :=
bif (!decide ((a0.length:Int)=(b1.length:Int))) then
(some (false,()))
else
((iterN (qb7 n) n (a0,b1,(0:Int),())).bind (Sum.elim (fun d12 =>
some (d12.1,())) (Sum.elim (fun d11 =>
some (true,())) nof)))
noncomputable def qb9 (n:Nat) (a0:qT1) (b1:qT1) (i5:Int):Option (qT35 ⊕ qT6) :=
bif (decide (i5<(a0.length:Int))) then
((idx a0 i5).bind fun v10 =>
(idx b1 i5).bind fun v11 =>
(qb8 n v10 v11).bind fun r12 =>
bif (!r12.1) then
(some (.inr (.inl (false,()))))
else
(some (.inl (a0,b1,(IntKind.i64.wrap (i5+(1:Int))),()))))
else
(some (.inr (.inr (.inl (())))))
noncomputable def qca (n:Nat) (d:qT35):Option (qT35 ⊕ qT6):=qb9 n d.1 d.2.1 d.2.2.1
noncomputable def qcb (n:Nat) (a0:qT1) (b1:qT1):Option (Bool × Unit) :=
bif (!decide ((a0.length:Int)=(b1.length:Int))) then
(some (false,()))
else
((iterN (qca n) n (a0,b1,(0:Int),())).bind (Sum.elim (fun d16 =>
some (d16.1,())) (Sum.elim (fun d15 =>
some (true,())) nof)))
noncomputable def qcc (n:Nat) (a0:(List Bool)) (b1:(List Bool)) (i5:Int):Option (((List Bool) × (List Bool) × Int × Unit) ⊕ qT6) :=
bif (decide (i5<(a0.length:Int))) then
((idx a0 i5).bind fun v7 =>
(idx b1 i5).bind fun v8 =>
bif (!(v7 == v8)) then
(some (.inr (.inl (false,()))))
else
(some (.inl (a0,b1,(IntKind.i64.wrap (i5+(1:Int))),()))))
else
(some (.inr (.inr (.inl (())))))
noncomputable def qcd (n:Nat) (d:((List Bool) × (List Bool) × Int × Unit)):Option (((List Bool) × (List Bool) × Int × Unit) ⊕ qT6):=qcc n d.1 d.2.1 d.2.2.1
noncomputable def qce (n:Nat) (a0:(List Bool)) (b1:(List Bool)):Option (Bool × Unit) :=
bif (!decide ((a0.length:Int)=(b1.length:Int))) then
(some (false,()))
else
((iterN (qcd n) n (a0,b1,(0:Int),())).bind (Sum.elim (fun d12 =>
some (d12.1,())) (Sum.elim (fun d11 =>
some (true,())) nof)))
noncomputable def qcf (n:Nat) :Option (Bool × Unit) :=
(qad n).bind fun r3 =>
(qa4 n r3.1).bind fun r4 =>
(qad n).bind fun r7 =>
(qba n r7.1).bind fun r8 =>
(qbf n (3:Int)).bind fun r10 =>
(qbi n (2:Int) (3:Int)).bind fun r12 =>
(qb5 n r10.1 r12.1).bind fun r14 =>
bif (decide (r4.2.1=(0:Int))) then
(bif (decide (r8.2.1=(0:Int))) then
(bif (decide (r10.2.1=(0:Int))) then
(bif (decide (r12.2.1=(0:Int))) then
(bif (decide (r14.2.1=(0:Int))) then
(bif r8.1 then
((qcb n r4.1 ([[(0:Int)],[(1:Int)]])).bind fun r15 =>
bif r15.1 then
((qce n r14.1 ([true,false,false,false])).bind fun r16 =>
some (r16.1,()))
else
(some (false,())))
else
(some (false,())))
else
(some (false,())))
else
(some (false,())))
else
(some (false,())))
else
(some (false,())))
else
(some (false,()))
noncomputable def qcg (n:Nat) (p0:(List Int)) (i3:Int) (k4:Int):Option (qT20 ⊕ ((Bool × Unit) ⊕ (qT73 ⊕ Empty))) :=
bif (decide (k4<i3)) then
((idx p0 k4).bind fun v17 =>
(idx p0 i3).bind fun v18 =>
bif (decide (v17=v18)) then
(some (.inr (.inl (false,()))))
else
(some (.inl (p0,i3,(IntKind.i64.wrap (k4+(1:Int))),()))))
else
(some (.inr (.inr (.inl (p0,i3,())))))
noncomputable def qch (n:Nat) (d:qT20):Option (qT20 ⊕ ((Bool × Unit) ⊕ (qT73 ⊕ Empty))):=qcg n d.1 d.2.1 d.2.2.1
noncomputable def qci (n:Nat) (p0:(List Int)) (i3:Int):Option (qT73 ⊕ qT6) :=
bif (decide (i3<(p0.length:Int))) then
(((idx p0 i3).bind fun v26 =>
bif (decide (v26<(0:Int))) then
(some (.inl (p0,i3,true,())))
else
((idx p0 i3).bind fun v27 =>
some (.inl (p0,i3,(decide ((p0.length:Int)≤v27)),()))):Option (((List Int) × Int × Bool × Unit) ⊕ Empty)).bind (Sum.elim (fun d28 =>
bif d28.2.2.1 then
(some (.inr (.inl (false,()))))
else
((iterN (qch n) n (d28.1,d28.2.1,(0:Int),())).bind (Sum.elim (fun d30 =>
some (.inr (.inl (d30.1,())))) (Sum.elim (fun d29 =>
some (.inl (d29.1,(IntKind.i64.wrap (d29.2.1+(1:Int))),()))) nof)))) nof))
else
(some (.inr (.inr (.inl (())))))
noncomputable def qcj (n:Nat) (d:qT73):Option (qT73 ⊕ qT6):=qci n d.1 d.2.1
noncomputable def qck (n:Nat) (p0:(List Int)):Option (Bool × Unit) :=
(bif (decide ((p0.length:Int)<(1:Int))) then
(some (.inl (p0,true,())))
else
(some (.inl (p0,(decide ((7:Int)<(p0.length:Int))),()))):Option (((List Int) × Bool × Unit) ⊕ Empty)).bind (Sum.elim (fun d2 =>
bif d2.2.1 then
(some (false,()))
else
((iterN (qcj n) n (d2.1,(0:Int),())).bind (Sum.elim (fun d34 =>
some (d34.1,())) (Sum.elim (fun d33 =>
some (true,())) nof)))) nof)
noncomputable def qcl (n:Nat) (p0:(List Int)) (n1:Int):Option (Bool × Unit) :=
bif (decide ((p0.length:Int)=n1)) then
((qck n p0).bind fun r1 =>
some (r1.1,()))
else
(some (false,()))
noncomputable def qcm (n:Nat) (n0:Int) (i4:Int) (p3:(List Int)):Option qT12 :=
bif (decide (i4<n0)) then
((idx p3 i4).bind fun v3 =>
some (.inl (n0,(IntKind.i64.wrap (i4+(1:Int))),(List.set p3 (i4).toNat i4),())))
else
(some (.inr (.inl (p3,()))))
noncomputable def qcn (n:Nat) (d:qT77):Option qT12:=qcm n d.1 d.2.1 d.2.2.1
noncomputable def qco (n:Nat) (n0:Int):Option qT15 :=
chk (decide (0≤n0)) (chk (decide (n0≤n0)) (chk (lenB (n0).toNat) ((iterN (qcn n) n (n0,(0:Int),(List.replicate (n0).toNat (0:Int)),())).bind (Sum.elim (fun d5 =>
some (d5.1,())) nof))))
noncomputable def qcp (n:Nat) (p0:(List Int)) (q1:(List Int)) (i5:Int):Option (qT28 ⊕ qT6) :=
bif (decide (i5<(p0.length:Int))) then
((idx p0 i5).bind fun v7 =>
(idx q1 i5).bind fun v8 =>
bif (!decide (v7=v8)) then
(some (.inr (.inl (false,()))))
else
(some (.inl (p0,q1,(IntKind.i64.wrap (i5+(1:Int))),()))))
else
(some (.inr (.inr (.inl (())))))
noncomputable def qcq (n:Nat) (d:qT28):Option (qT28 ⊕ qT6):=qcp n d.1 d.2.1 d.2.2.1
noncomputable def qcr (n:Nat) (p0:(List Int)) (q1:(List Int)):Option (Bool × Unit) :=
bif (!decide ((p0.length:Int)=(q1.length:Int))) then
(some (false,()))
else
((iterN (qcq n) n (p0,q1,(0:Int),())).bind (Sum.elim (fun d12 =>
some (d12.1,())) (Sum.elim (fun d11 =>
some (true,())) nof)))
noncomputable def qcs (n:Nat) (p1:qT0) (i3:Int):Option ((qT0 × Int × Unit) ⊕ qT6) :=
bif (decide (i3<(p1.2.2.1.length:Int))) then
((idx p1.2.2.1 i3).bind fun v23 =>
(bif (decide (v23.1<(0:Int))) then
(some (.inl (p1,i3,true,())))
else
(bif (decide (p1.2.1≤v23.1)) then
(some (.inl (p1,i3,true,())))
else
((qcl n v23.2.1 p1.1).bind fun r24 =>
bif (!r24.1) then
(some (.inl (p1,i3,true,())))
else
((qcl n v23.2.2.1 p1.1).bind fun r25 =>
some (.inl (p1,i3,(!r25.1),()))))):Option ((qT0 × Int × Bool × Unit) ⊕ Empty)).bind (Sum.elim (fun d26 =>
bif d26.2.2.1 then
(some (.inr (.inl (false,()))))
else
(some (.inl (d26.1,(IntKind.i64.wrap (d26.2.1+(1:Int))),())))) nof))
else
(some (.inr (.inr (.inl (())))))
noncomputable def qct (n:Nat) (d:(qT0 × Int × Unit)):Option ((qT0 × Int × Unit) ⊕ qT6):=qcs n d.1 d.2.1
noncomputable def qcu (n:Nat) (p0:qT0):Option (Bool × Unit) :=
(bif (decide (p0.1<(2:Int))) then
(some (.inl (p0,true,())))
else
(bif (decide ((7:Int)<p0.1)) then
(some (.inl (p0,true,())))
else
(bif (decide (p0.2.1<(0:Int))) then
(some (.inl (p0,true,())))
else
(bif (decide ((16:Int)<p0.2.1)) then
(some (.inl (p0,true,())))
else
(bif (decide ((200000:Int)<(p0.2.2.1.length:Int))) then
(some (.inl (p0,true,())))
else
((qcl n p0.2.2.2.1 p0.1).bind fun r8 =>
bif (!r8.1) then
(some (.inl (p0,true,())))
else
((qco n p0.1).bind fun r9 =>
(qcr n p0.2.2.2.1 r9.1).bind fun r10 =>
some (.inl (p0,r10.1,())))))))):Option ((qT0 × Bool × Unit) ⊕ Empty)).bind (Sum.elim (fun d11 =>
bif d11.2.1 then
(some (false,()))
else
((iterN (qct n) n (d11.1,(0:Int),())).bind (Sum.elim (fun d30 =>
some (d30.1,())) (Sum.elim (fun d29 =>
some (true,())) nof)))) nof)
noncomputable def qcv (n:Nat) (l0:qT1) (p1:(List Int)) (i5:Int):Option ((qT1 × (List Int) × Int × Unit) ⊕ qT6) :=
bif (decide (i5<(l0.length:Int))) then
((idx l0 i5).bind fun v7 =>
(qcr n v7 p1).bind fun r8 =>
bif r8.1 then
(some (.inr (.inl (true,()))))
else
(some (.inl (l0,p1,(IntKind.i64.wrap (i5+(1:Int))),()))))
else
(some (.inr (.inr (.inl (())))))
noncomputable def qcw (n:Nat) (d:(qT1 × (List Int) × Int × Unit)):Option ((qT1 × (List Int) × Int × Unit) ⊕ qT6):=qcv n d.1 d.2.1 d.2.2.1
noncomputable def qcx (n:Nat) (l0:qT1) (p1:(List Int)):Option (Bool × Unit) :=
(iterN (qcw n) n (l0,p1,(0:Int),())).bind (Sum.elim (fun d12 =>
some (d12.1,())) (Sum.elim (fun d11 =>
some (false,())) nof))
noncomputable def qcy (self_ref01_Factorial:Int→Option (Int × Unit)) (n:Nat) (n0:Int):Option (Int × Unit) :=
bif (decide (n0<(2:Int))) then
(some ((1:Int),()))
else
((self_ref01_Factorial (IntKind.i64.wrap (n0-(1:Int)))).bind fun r1 =>
some ((IntKind.i64.wrap (n0*r1.1)),()))
noncomputable def qcz:Nat→Int→Option (Int × Unit)
  | 0=>fun _=>none
  | n+1=>qcy (qcz n) n
noncomputable def qc0 (n:Nat) (p0:(List Int)) (r3:Int) (i4:Int) (less5:Int) (k6:Int):Option (qT47 ⊕ (qT39 ⊕ Empty)) :=
bif (decide (k6<(p0.length:Int))) then
(((idx p0 k6).bind fun v8 =>
(idx p0 i4).bind fun v9 =>
bif (decide (v8<v9)) then
(some (.inl (p0,r3,i4,(IntKind.i64.wrap (less5+(1:Int))),k6,())))
else
(some (.inl (p0,r3,i4,less5,k6,()))):Option (qT47 ⊕ Empty)).bind (Sum.elim (fun d10 =>
some (.inl (d10.1,d10.2.1,d10.2.2.1,d10.2.2.2.1,(IntKind.i64.wrap (d10.2.2.2.2.1+(1:Int))),()))) nof))
else
(some (.inr (.inl (p0,r3,i4,less5,()))))
noncomputable def qc1 (n:Nat) (d:qT47):Option (qT47 ⊕ (qT39 ⊕ Empty)):=qc0 n d.1 d.2.1 d.2.2.1 d.2.2.2.1 d.2.2.2.2.1
noncomputable def qc2 (n:Nat) (p0:(List Int)) (r3:Int) (i4:Int):Option (qT20 ⊕ qT41) :=
bif (decide (i4<(p0.length:Int))) then
((iterN (qc1 n) n (p0,r3,i4,(0:Int),(IntKind.i64.wrap (i4+(1:Int))),())).bind (Sum.elim (fun d16 =>
(qcz n (IntKind.i64.wrap ((IntKind.i64.wrap ((d16.1.length:Int)-(1:Int)))-d16.2.2.1))).bind fun r17 =>
some (.inl (d16.1,(IntKind.i64.wrap (d16.2.1+(IntKind.i64.wrap (d16.2.2.2.1*r17.1)))),(IntKind.i64.wrap (d16.2.2.1+(1:Int))),()))) nof))
else
(some (.inr (.inl (r3,()))))
noncomputable def qc3 (n:Nat) (d:qT20):Option (qT20 ⊕ qT41):=qc2 n d.1 d.2.1 d.2.2.1
noncomputable def qc4 (n:Nat) (p0:(List Int)):Option (Int × Unit) :=
(iterN (qc3 n) n (p0,(0:Int),(0:Int),())).bind (Sum.elim (fun d19 =>
some (d19.1,())) nof)
noncomputable def qc5 (n:Nat) (l1:qT1) (i6:Int) (t4:qT7) (s5:qT7):Option ((qT1 × Int × qT7 × qT7 × Unit) ⊕ ((qT7 × qT7 × Unit) ⊕ Empty)) :=
bif (decide (i6<(l1.length:Int))) then
((idx l1 i6).bind fun v9 =>
(qc4 n v9).bind fun r10 =>
(idx s5.2.1 r10.1).bind fun v11 =>
some (.inl (l1,(IntKind.i64.wrap (i6+(1:Int))),t4,(s5.1,((List.set s5.2.1 (r10.1).toNat true),s5.2.2)),())))
else
(some (.inr (.inl (t4,s5,()))))
noncomputable def qc6 (n:Nat) (d:(qT1 × Int × qT7 × qT7 × Unit)):Option ((qT1 × Int × qT7 × qT7 × Unit) ⊕ ((qT7 × qT7 × Unit) ⊕ Empty)):=qc5 n d.1 d.2.1 d.2.2.1 d.2.2.2.1
noncomputable def qc7 (n:Nat) (n0:Int) (l1:qT1):Option (qT7 × Unit) :=
(qcz n n0).bind fun r2 =>
chk (decide (0≤r2.1)) (chk (decide (r2.1≤r2.1)) (chk (lenB (r2.1).toNat) ((iterN (qc6 n) n (l1,(0:Int),((0:Int),(([]:(List Bool)),())),(n0,((List.replicate (r2.1).toNat false),())),())).bind (Sum.elim (fun d13 =>
some (d13.2.1,())) nof))))
noncomputable def qc8 (n:Nat) (p0:(List Int)) (q1:(List Int)) (i6:Int) (r5:(List Int)):Option (qT67 ⊕ (qT15 ⊕ Empty)) :=
bif (decide (i6<(p0.length:Int))) then
((idx p0 i6).bind fun v7 =>
(idx q1 v7).bind fun v8 =>
(idx r5 i6).bind fun v9 =>
some (.inl (p0,q1,(IntKind.i64.wrap (i6+(1:Int))),(List.set r5 (i6).toNat v8),())))
else
(some (.inr (.inl (r5,()))))
noncomputable def qc9 (n:Nat) (d:qT67):Option (qT67 ⊕ (qT15 ⊕ Empty)):=qc8 n d.1 d.2.1 d.2.2.1 d.2.2.2.1
noncomputable def qda (n:Nat) (p0:(List Int)) (q1:(List Int)):Option qT15 :=
chk (decide (0≤(p0.length:Int))) (chk (decide ((p0.length:Int)≤(p0.length:Int))) (chk (lenB ((p0.length:Int)).toNat) ((iterN (qc9 n) n (p0,q1,(0:Int),(List.replicate ((p0.length:Int)).toNat (0:Int)),())).bind (Sum.elim (fun d11 =>
some (d11.1,())) nof))))
noncomputable def qdb (n:Nat) (n0:Int) (rank1:Int) (rest5:(List Int)) (i7:Int) (p6:(List Int)):Option (qT68 ⊕ (qT15 ⊕ Empty)) :=
bif (decide (i7<n0)) then
((qcz n (IntKind.i64.wrap ((IntKind.i64.wrap (n0-(1:Int)))-i7))).bind fun r9 =>
bif decide (r9.1=0) then none else
bif decide (r9.1=0) then none else
(idx rest5 (IntKind.i64.wrap (Int.tdiv rank1 r9.1))).bind fun v10 =>
chk (lenB ((p6).length+([v10]).length)) (chk (decide (0≤(0:Int))) (chk (decide ((0:Int)≤(IntKind.i64.wrap (Int.tdiv rank1 r9.1)))) (chk (decide ((IntKind.i64.wrap (Int.tdiv rank1 r9.1))≤(rest5.length:Int))) (chk (lenB ((([]:(List Int))).length+((subs rest5 0 ((IntKind.i64.wrap (Int.tdiv rank1 r9.1))).toNat)).length)) (chk (decide (0≤(IntKind.i64.wrap ((IntKind.i64.wrap (Int.tdiv rank1 r9.1))+(1:Int))))) (chk (decide ((IntKind.i64.wrap ((IntKind.i64.wrap (Int.tdiv rank1 r9.1))+(1:Int)))≤(rest5.length:Int))) (chk (decide ((rest5.length:Int)≤(rest5.length:Int))) (chk (lenB (((([]:(List Int))++(subs rest5 0 ((IntKind.i64.wrap (Int.tdiv rank1 r9.1))).toNat))).length+((subs rest5 ((IntKind.i64.wrap ((IntKind.i64.wrap (Int.tdiv rank1 r9.1))+(1:Int)))).toNat ((rest5.length:Int)).toNat)).length)) (some (.inl (n0,(Int.tmod rank1 r9.1),((([]:(List Int))++(subs rest5 0 ((IntKind.i64.wrap (Int.tdiv rank1 r9.1))).toNat))++(subs rest5 ((IntKind.i64.wrap ((IntKind.i64.wrap (Int.tdiv rank1 r9.1))+(1:Int)))).toNat ((rest5.length:Int)).toNat)),(IntKind.i64.wrap (i7+(1:Int))),(p6++[v10]),()))))))))))))
else
(some (.inr (.inl (p6,()))))
noncomputable def qdc (n:Nat) (d:qT68):Option (qT68 ⊕ (qT15 ⊕ Empty)):=qdb n d.1 d.2.1 d.2.2.1 d.2.2.2.1 d.2.2.2.2.1
noncomputable def qdd (n:Nat) (n0:Int) (rank1:Int):Option qT15 :=
(qco n n0).bind fun r2 =>
(iterN (qdc n) n (n0,rank1,r2.1,(0:Int),([]:(List Int)),())).bind (Sum.elim (fun d12 =>
some (d12.1,())) nof)
noncomputable def qde (n:Nat) (s1:qT7) (i4:Int) (out3:qT1):Option ((qT7 × Int × qT1 × Unit) ⊕ qT11) :=
bif (decide (i4<(s1.2.1.length:Int))) then
(((idx s1.2.1 i4).bind fun v7 =>
bif v7 then
((qdd n s1.1 i4).bind fun r8 =>
chk (lenB ((out3).length+([r8.1]).length)) (some (.inl (s1,i4,(out3++[r8.1]),()))))
else
(some (.inl (s1,i4,out3,()))):Option ((qT7 × Int × qT1 × Unit) ⊕ Empty)).bind (Sum.elim (fun d9 =>
some (.inl (d9.1,(IntKind.i64.wrap (d9.2.1+(1:Int))),d9.2.2.1,()))) nof))
else
(some (.inr (.inl (out3,()))))
noncomputable def qdf (n:Nat) (d:(qT7 × Int × qT1 × Unit)):Option ((qT7 × Int × qT1 × Unit) ⊕ qT11):=qde n d.1 d.2.1 d.2.2.1
noncomputable def qdg (n:Nat) (s0:qT7):Option (qT1 × Unit) :=
(iterN (qdf n) n (s0,(0:Int),([]:qT1),())).bind (Sum.elim (fun d11 =>
some (d11.1,())) nof)
noncomputable def qdh (n:Nat) (gens0:qT1) (p6:(List Int)) (i7:Int) (s4:qT7) (todo5:qT1):Option (qT48 ⊕ (qT74 ⊕ Empty)) :=
bif (decide (i7<(gens0.length:Int))) then
(((idx gens0 i7).bind fun v27 =>
(qda n p6 v27).bind fun r28 =>
(qc4 n r28.1).bind fun r29 =>
(idx s4.2.1 r29.1).bind fun v30 =>
bif (!v30) then
((idx s4.2.1 r29.1).bind fun v31 =>
chk (lenB ((todo5).length+([r28.1]).length)) (some (.inl (gens0,p6,i7,(s4.1,((List.set s4.2.1 (r29.1).toNat true),s4.2.2)),(todo5++[r28.1]),()))))
else
(some (.inl (gens0,p6,i7,s4,todo5,()))):Option (qT48 ⊕ Empty)).bind (Sum.elim (fun d32 =>
some (.inl (d32.1,d32.2.1,(IntKind.i64.wrap (d32.2.2.1+(1:Int))),d32.2.2.2.1,d32.2.2.2.2.1,()))) nof))
else
(some (.inr (.inl (gens0,s4,todo5,()))))
noncomputable def qdi (n:Nat) (d:qT48):Option (qT48 ⊕ (qT74 ⊕ Empty)):=qdh n d.1 d.2.1 d.2.2.1 d.2.2.2.1 d.2.2.2.2.1
noncomputable def qdj (n:Nat) (gens0:qT1) (s4:qT7) (todo5:qT1):Option (qT74 ⊕ ((qT7 × Unit) ⊕ Empty)) :=
bif (decide ((0:Int)<(todo5.length:Int))) then
((idx todo5 (0:Int)).bind fun v34 =>
chk (decide (0≤(1:Int))) (chk (decide ((1:Int)≤(todo5.length:Int))) (chk (decide ((todo5.length:Int)≤(todo5.length:Int))) ((iterN (qdi n) n (gens0,v34,(0:Int),s4,(subs todo5 ((1:Int)).toNat ((todo5.length:Int)).toNat),())).bind (Sum.elim (fun d35 =>
some (.inl (d35.1,d35.2.1,d35.2.2.1,()))) nof)))))
else
(some (.inr (.inl (s4,()))))
noncomputable def qdk (n:Nat) (d:qT74):Option (qT74 ⊕ ((qT7 × Unit) ⊕ Empty)):=qdj n d.1 d.2.1 d.2.2.1
noncomputable def qdl (n:Nat) (gens0:qT1):Option (qT1 × Unit) :=
(idx gens0 (0:Int)).bind fun v2 =>
(qc7 n (v2.length:Int) ([]:qT1)).bind fun r4 =>
(qco n (v2.length:Int)).bind fun r6 =>
(idx r4.1.2.1 (0:Int)).bind fun v8 =>
(iterN (qdk n) n (gens0,(r4.1.1,((List.set r4.1.2.1 0 true),())),[r6.1],())).bind (Sum.elim (fun d37 =>
(qdg n d37.1).bind fun r38 =>
some (r38.1,())) nof)
noncomputable def qdm (n:Nat) (p1:qT0) (i4:Int) (t2:qT0) (out3:qT0):Option ((qT0 × Int × qT0 × qT0 × Unit) ⊕ ((qT0 × qT0 × Unit) ⊕ Empty)) :=
bif (decide (i4<(p1.2.2.1.length:Int))) then
((idx p1.2.2.1 i4).bind fun v4 =>
chk (lenB ((([]:(List Int))).length+(v4.2.1).length)) (chk (lenB ((([]:(List Int))).length+(v4.2.2.1).length)) (chk (lenB ((out3.2.2.1).length+([(v4.1,((([]:(List Int))++v4.2.1),((([]:(List Int))++v4.2.2.1),())))]).length)) (chk (sameP [.el (0),.f2,.f2,.f1] [.el (0),.f2,.f2,.f1]) (some (.inl (p1,(IntKind.i64.wrap (i4+(1:Int))),t2,(out3.1,(out3.2.1,((out3.2.2.1++[(v4.1,((([]:(List Int))++v4.2.1),((([]:(List Int))++v4.2.2.1),())))]),out3.2.2.2))),())))))))
else
(some (.inr (.inl (t2,out3,()))))
noncomputable def qdn (n:Nat) (d:(qT0 × Int × qT0 × qT0 × Unit)):Option ((qT0 × Int × qT0 × qT0 × Unit) ⊕ ((qT0 × qT0 × Unit) ⊕ Empty)):=qdm n d.1 d.2.1 d.2.2.1 d.2.2.2.1
noncomputable def qdo (n:Nat) (p0:qT0):Option (qT0 × Unit) :=
chk (lenB ((([]:(List Int))).length+(p0.2.2.2.1).length)) ((iterN (qdn n) n (p0,(0:Int),((0:Int),((0:Int),(([]:qT3),(([]:(List Int)),())))),(p0.1,(p0.2.1,(([]:qT3),((([]:(List Int))++p0.2.2.2.1),())))),())).bind (Sum.elim (fun d6 =>
some (d6.2.1,())) nof))
noncomputable def qdp (n:Nat) (p0:(List Int)) (t14:(List Int)) (t15:Int) (t16:Int) (met3:(List Int)):Option (qT13 ⊕ qT6) :=
bif (decide (t16<t15)) then
((idx t14 t16).bind fun v17 =>
(bif (decide (v17<(0:Int))) then
(some (.inl (p0,v17,t14,t15,t16,true,met3,())))
else
(bif (decide ((p0.length:Int)≤v17)) then
(some (.inl (p0,v17,t14,t15,t16,true,met3,())))
else
((idx met3 v17).bind fun v18 =>
some (.inl (p0,v17,t14,t15,t16,(decide ((0:Int)<v18)),met3,())))):Option (((List Int) × Int × (List Int) × Int × Int × Bool × (List Int) × Unit) ⊕ Empty)).bind (Sum.elim (fun d19 =>
bif d19.2.2.2.2.2.1 then
(some (.inr (.inl (false,()))))
else
((idx d19.2.2.2.2.2.2.1 d19.2.1).bind fun v20 =>
(idx d19.2.2.2.2.2.2.1 d19.2.1).bind fun v21 =>
some (.inl (d19.1,d19.2.2.1,d19.2.2.2.1,(IntKind.i64.wrap (d19.2.2.2.2.1+(1:Int))),(List.set d19.2.2.2.2.2.2.1 (d19.2.1).toNat (IntKind.i8.wrap (v20+(1:Int)))),())))) nof))
else
(some (.inr (.inr (.inl (())))))
noncomputable def qdq (n:Nat) (d:qT13):Option (qT13 ⊕ qT6):=qdp n d.1 d.2.1 d.2.2.1 d.2.2.2.1 d.2.2.2.2.1
noncomputable def qdr (n:Nat) (p0:(List Int)):Option (Bool × Unit) :=
(bif (decide ((p0.length:Int)<(1:Int))) then
(some (.inl (p0,true,())))
else
(some (.inl (p0,(decide ((7:Int)<(p0.length:Int))),()))):Option (((List Int) × Bool × Unit) ⊕ Empty)).bind (Sum.elim (fun d2 =>
bif d2.2.1 then
(some (false,()))
else
((iterN (qdq n) n (d2.1,d2.1,(d2.1.length:Int),(0:Int),(List.replicate 7 (0:Int)),())).bind (Sum.elim (fun d25 =>
some (d25.1,())) (Sum.elim (fun d24 =>
some (true,())) nof)))) nof)
noncomputable def qds (n:Nat) (q0:(List Int)) (x1:qT0):Option (Bool × Unit) :=
bif (decide ((q0.length:Int)=x1.1)) then
((qdr n q0).bind fun r1 =>
some (r1.1,()))
else
(some (false,()))
noncomputable def qdt (n:Nat) (t8:Int) (t9:Int) (p3:(List Int)):Option qT12 :=
bif (decide (t9<t8)) then
((idx p3 t9).bind fun v3 =>
some (.inl (t8,(IntKind.i64.wrap (t9+(1:Int))),(List.set p3 (t9).toNat t9),())))
else
(some (.inr (.inl (p3,()))))
noncomputable def qdu (n:Nat) (d:qT77):Option qT12:=qdt n d.1 d.2.1 d.2.2.1
noncomputable def qdv (n:Nat) (n0:Int):Option qT15 :=
chk (decide (0≤n0)) (chk (decide (n0≤n0)) (chk (lenB (n0).toNat) ((iterN (qdu n) n ((((List.replicate (n0).toNat (0:Int))).length:Int),(0:Int),(List.replicate (n0).toNat (0:Int)),())).bind (Sum.elim (fun d5 =>
some (d5.1,())) nof))))
noncomputable def qdw (n:Nat) (s10:(List Int)) (s21:(List Int)) (t12:Int) (t13:Int):Option (((List Int) × (List Int) × Int × Int × Unit) ⊕ qT6) :=
bif (decide (t13<t12)) then
((idx s10 t13).bind fun v7 =>
(idx s21 t13).bind fun v8 =>
bif (!decide (v7=v8)) then
(some (.inr (.inl (false,()))))
else
(some (.inl (s10,s21,t12,(IntKind.i64.wrap (t13+(1:Int))),()))))
else
(some (.inr (.inr (.inl (())))))
noncomputable def qdx (n:Nat) (d:((List Int) × (List Int) × Int × Int × Unit)):Option (((List Int) × (List Int) × Int × Int × Unit) ⊕ qT6):=qdw n d.1 d.2.1 d.2.2.1 d.2.2.2.1
noncomputable def qdy (n:Nat) (s10:(List Int)) (s21:(List Int)):Option (Bool × Unit) :=
bif (!decide ((s10.length:Int)=(s21.length:Int))) then
(some (false,()))
else
((iterN (qdx n) n (s10,s21,(s10.length:Int),(0:Int),())).bind (Sum.elim (fun d12 =>
some (d12.1,())) (Sum.elim (fun d11 =>
some (true,())) nof)))
noncomputable def qdz (n:Nat) (x0:(Int × ((List Int) × qT15))) (x1:qT0) (x2:(qT0 × Unit)):Option (Bool × Unit) :=
bif (decide (x0.1<(0:Int))) then
(some (true,()))
else
(bif (decide (x1.2.1≤x0.1)) then
(some (true,()))
else
((qds n x0.2.1 x2.1).bind fun r1 =>
bif (!r1.1) then
(some (true,()))
else
((qds n x0.2.2.1 x2.1).bind fun r2 =>
some ((!r2.1),()))))
noncomputable def qd0 (n:Nat) (s0:qT3) (f1:qT44) (t7:Int) (t8:Int):Option ((qT3 × qT44 × Int × Int × Unit) ⊕ qT14) :=
bif (decide (t8<t7)) then
((idx s0 t8).bind fun v7 =>
(qdz n v7 f1.1 (f1.2.1.1,())).bind fun r8 =>
bif r8.1 then
(some (.inr (.inl (t8,()))))
else
(some (.inl (s0,(f1.1,((f1.2.1.1,()),())),t7,(IntKind.i64.wrap (t8+(1:Int))),()))))
else
(some (.inr (.inr (.inl (())))))
noncomputable def qd1 (n:Nat) (d:(qT3 × qT44 × Int × Int × Unit)):Option ((qT3 × qT44 × Int × Int × Unit) ⊕ qT14):=qd0 n d.1 d.2.1 d.2.2.1 d.2.2.2.1
noncomputable def qd2 (n:Nat) (s0:qT3) (f1:qT44):Option (Int × Unit) :=
(iterN (qd1 n) n (s0,(f1.1,((f1.2.1.1,()),())),(s0.length:Int),(0:Int),())).bind (Sum.elim (fun d12 =>
some (d12.1,())) (Sum.elim (fun d11 =>
some ((-1:Int),())) nof))
noncomputable def qd3 (n:Nat) (s0:qT3) (f1:qT44):Option (Bool × Unit) :=
(qd2 n s0 (f1.1,((f1.2.1.1,()),()))).bind fun r1 =>
some ((decide ((0:Int)≤r1.1)),())
noncomputable def qd4 (n:Nat) (p0:qT0):Option (Bool × Unit) :=
(bif (decide (p0.1<(2:Int))) then
(some (.inl (p0,true,())))
else
(bif (decide ((7:Int)<p0.1)) then
(some (.inl (p0,true,())))
else
(bif (decide (p0.2.1<(0:Int))) then
(some (.inl (p0,true,())))
else
(bif (decide ((16:Int)<p0.2.1)) then
(some (.inl (p0,true,())))
else
(some (.inl (p0,(decide ((200000:Int)<(p0.2.2.1.length:Int))),())))))):Option ((qT0 × Bool × Unit) ⊕ Empty)).bind (Sum.elim (fun d2 =>
bif d2.2.1 then
(some (false,()))
else
(((qds n d2.1.2.2.2.1 d2.1).bind fun r10 =>
bif (!r10.1) then
(some (.inl (d2.1,(d2.1,()),true,())))
else
((qdv n d2.1.1).bind fun r11 =>
(qdy n d2.1.2.2.2.1 r11.1).bind fun r12 =>
some (.inl (d2.1,(d2.1,()),r12.1,()))):Option ((qT0 × (qT0 × Unit) × Bool × Unit) ⊕ Empty)).bind (Sum.elim (fun d13 =>
bif d13.2.2.1 then
(some (false,()))
else
((qd3 n d13.1.2.2.1 (d13.1,((d13.2.1.1,()),()))).bind fun r14 =>
some ((!r14.1),()))) nof))) nof)
noncomputable def qd5 (n:Nat) (p0:(List Int)) (x1:qT1):Option (Bool × Unit) :=
(qdr n p0).bind fun r1 =>
bif (!r1.1) then
(some (true,()))
else
((idx x1 (0:Int)).bind fun v2 =>
some ((!decide ((p0.length:Int)=(v2.length:Int))),()))
noncomputable def qd6 (n:Nat) (s0:qT1) (f1:(qT1 × Unit)) (t7:Int) (t8:Int):Option ((qT1 × (qT1 × Unit) × Int × Int × Unit) ⊕ qT14) :=
bif (decide (t8<t7)) then
((idx s0 t8).bind fun v7 =>
(qd5 n v7 f1.1).bind fun r8 =>
bif r8.1 then
(some (.inr (.inl (t8,()))))
else
(some (.inl (s0,(f1.1,()),t7,(IntKind.i64.wrap (t8+(1:Int))),()))))
else
(some (.inr (.inr (.inl (())))))
noncomputable def qd7 (n:Nat) (d:(qT1 × (qT1 × Unit) × Int × Int × Unit)):Option ((qT1 × (qT1 × Unit) × Int × Int × Unit) ⊕ qT14):=qd6 n d.1 d.2.1 d.2.2.1 d.2.2.2.1
noncomputable def qd8 (n:Nat) (s0:qT1) (f1:(qT1 × Unit)):Option (Int × Unit) :=
(iterN (qd7 n) n (s0,(f1.1,()),(s0.length:Int),(0:Int),())).bind (Sum.elim (fun d12 =>
some (d12.1,())) (Sum.elim (fun d11 =>
some ((-1:Int),())) nof))
noncomputable def qd9 (n:Nat) (s0:qT1) (f1:(qT1 × Unit)):Option (Bool × Unit) :=
(qd8 n s0 (f1.1,())).bind fun r1 =>
some ((decide ((0:Int)≤r1.1)),())
noncomputable def qea (n:Nat) (gens0:qT1):Option (Bool × Unit) :=
bif (decide ((0:Int)<(gens0.length:Int))) then
(bif (decide ((gens0.length:Int)≤(5040:Int))) then
((qd9 n gens0 (gens0,())).bind fun r1 =>
some ((!r1.1),()))
else
(some (false,())))
else
(some (false,()))
noncomputable def qeb (n:Nat) (t8:Int) (t9:Int) (p3:(List Int)):Option qT12 :=
bif (decide (t9<t8)) then
((idx p3 t9).bind fun v3 =>
some (.inl (t8,(IntKind.i64.wrap (t9+(1:Int))),(List.set p3 (t9).toNat t9),())))
else
(some (.inr (.inl (p3,()))))
noncomputable def qec (n:Nat) (d:qT77):Option qT12:=qeb n d.1 d.2.1 d.2.2.1
noncomputable def qed (n:Nat) (n0:Int):Option qT15 :=
chk (decide (0≤n0)) (chk (decide (n0≤n0)) (chk (lenB (n0).toNat) ((iterN (qec n) n ((((List.replicate (n0).toNat (0:Int))).length:Int),(0:Int),(List.replicate (n0).toNat (0:Int)),())).bind (Sum.elim (fun d5 =>
some (d5.1,())) nof))))
noncomputable def qee (n:Nat) (n0:Int):Option ((List Int) × (Int × Unit)) :=
(bif (decide (n0<(1:Int))) then
(some (.inl (n0,true,())))
else
(some (.inl (n0,(decide ((7:Int)<n0)),()))):Option ((Int × Bool × Unit) ⊕ Empty)).bind (Sum.elim (fun d2 =>
bif d2.2.1 then
(some (([]:(List Int)),((2:Int),())))
else
((qed n d2.1).bind fun r3 =>
some (r3.1,((0:Int),())))) nof)
noncomputable def qef (n:Nat) (t13:(List Int)) (t14:Int) (t15:Int) (t2:(List Int)) (k3:(List Int)):Option (qT62 ⊕ (((List Int) × (List Int) × Unit) ⊕ Empty)) :=
bif (decide (t15<t14)) then
((idx t13 t15).bind fun v11 =>
(idx k3 t15).bind fun v12 =>
some (.inl (t13,t14,(IntKind.i64.wrap (t15+(1:Int))),t2,(List.set k3 (t15).toNat (IntKind.i8.wrap v11)),())))
else
(some (.inr (.inl (t2,k3,()))))
noncomputable def qeg (n:Nat) (d:qT62):Option (qT62 ⊕ (((List Int) × (List Int) × Unit) ⊕ Empty)):=qef n d.1 d.2.1 d.2.2.1 d.2.2.2.1 d.2.2.2.2.1
noncomputable def qeh (n:Nat) (p0:(List Int)) (t7:Int) (t2:(List Int)) (k3:(List Int)):Option qT60 :=
bif (decide (t7<(7:Int))) then
((idx k3 t7).bind fun v3 =>
some (.inl (p0,(IntKind.i64.wrap (t7+(1:Int))),t2,(List.set k3 (t7).toNat (-1:Int)),())))
else
(some (.inr (.inl (p0,t2,k3,()))))
noncomputable def qei (n:Nat) (d:((List Int) × Int × (List Int) × (List Int) × Unit)):Option qT60:=qeh n d.1 d.2.1 d.2.2.1 d.2.2.2.1
noncomputable def qej (n:Nat) (p0:(List Int)):Option qT15 :=
(iterN (qei n) n (p0,(0:Int),(List.replicate 7 (0:Int)),(List.replicate 7 (0:Int)),())).bind (Sum.elim (fun d5 =>
(iterN (qeg n) n (d5.1,(d5.1.length:Int),(0:Int),d5.2.1,d5.2.2.1,())).bind (Sum.elim (fun d14 =>
some (d14.2.1,())) nof)) nof)
noncomputable def qek (n:Nat) (t7:qT1) (t8:Int) (t9:Int) (s3:qT5):Option ((qT1 × Int × Int × qT5 × Unit) ⊕ ((qT5 × Unit) ⊕ Empty)) :=
bif (decide (t9<t8)) then
((idx t7 t9).bind fun v8 =>
(qej n v8).bind fun r9 =>
(s3).bind fun l10 =>
some (.inl (t7,t8,(IntKind.i64.wrap (t9+(1:Int))),(some (mput (.arr 7 (.int .i8)) l10 r9.1 true)),())))
else
(some (.inr (.inl (s3,()))))
noncomputable def qel (n:Nat) (d:(qT1 × Int × Int × qT5 × Unit)):Option ((qT1 × Int × Int × qT5 × Unit) ⊕ ((qT5 × Unit) ⊕ Empty)):=qek n d.1 d.2.1 d.2.2.1 d.2.2.2.1
noncomputable def qem (n:Nat) (l0:qT1):Option (qT5 × Unit) :=
(iterN (qel n) n (l0,(l0.length:Int),(0:Int),(some []:qT5),())).bind (Sum.elim (fun d12 =>
some (d12.1,())) nof)
noncomputable def qen (n:Nat) (q1:(List Int)) (t11:(List Int)) (t12:Int) (t13:Int) (out5:(List Int)):Option (qT13 ⊕ (qT15 ⊕ Empty)) :=
bif (decide (t13<t12)) then
((idx t11 t13).bind fun v8 =>
(idx q1 v8).bind fun v9 =>
(idx out5 t13).bind fun v10 =>
some (.inl (q1,t11,t12,(IntKind.i64.wrap (t13+(1:Int))),(List.set out5 (t13).toNat v9),())))
else
(some (.inr (.inl (out5,()))))
noncomputable def qeo (n:Nat) (d:qT13):Option (qT13 ⊕ (qT15 ⊕ Empty)):=qen n d.1 d.2.1 d.2.2.1 d.2.2.2.1 d.2.2.2.2.1
noncomputable def qep (n:Nat) (p0:(List Int)) (q1:(List Int)):Option qT15 :=
chk (decide (0≤(p0.length:Int))) (chk (decide ((p0.length:Int)≤(p0.length:Int))) (chk (lenB ((p0.length:Int)).toNat) ((iterN (qeo n) n (q1,p0,(p0.length:Int),(0:Int),(List.replicate ((p0.length:Int)).toNat (0:Int)),())).bind (Sum.elim (fun d12 =>
some (d12.1,())) nof))))
noncomputable def qeq (n:Nat) (i5:Int) (t25:Int) (t26:Int) (t1:qT5) (t24:qT1) (t3:qT1):Option (qT49 ⊕ (qT58 ⊕ Empty)) :=
bif (decide (t26<t25)) then
(((idx t24 t26).bind fun v20 =>
(idx t3 i5).bind fun v21 =>
(qep n v21 v20).bind fun r22 =>
(qej n r22.1).bind fun r23 =>
bif (!(((t1).bind fun l=>mget (.arr 7 (.int .i8)) l r23.1).getD false)) then
((t1).bind fun l24 =>
chk (lenB ((t3).length+([r22.1]).length)) (chk (sameP [.el (0)] [.el (0)]) (some (.inl (i5,t25,t26,(some (mput (.arr 7 (.int .i8)) l24 r23.1 true)),t24,(t3++[r22.1]),())))))
else
(some (.inl (i5,t25,t26,t1,t24,t3,()))):Option (qT49 ⊕ Empty)).bind (Sum.elim (fun d25 =>
some (.inl (d25.1,d25.2.1,(IntKind.i64.wrap (d25.2.2.1+(1:Int))),d25.2.2.2.1,d25.2.2.2.2.1,d25.2.2.2.2.2.1,()))) nof))
else
(some (.inr (.inl (i5,t1,t24,t3,()))))
noncomputable def qer (n:Nat) (d:qT49):Option (qT49 ⊕ (qT58 ⊕ Empty)):=qeq n d.1 d.2.1 d.2.2.1 d.2.2.2.1 d.2.2.2.2.1 d.2.2.2.2.2.1
noncomputable def qes (n:Nat) (i5:Int) (t1:qT5) (t2:qT1) (t3:qT1):Option (qT58 ⊕ (qT63 ⊕ Empty)) :=
bif (decide (i5<(t3.length:Int))) then
((iterN (qer n) n (i5,(t2.length:Int),(0:Int),t1,t2,t3,())).bind (Sum.elim (fun d28 =>
some (.inl ((IntKind.i64.wrap (d28.1+(1:Int))),d28.2.1,d28.2.2.1,d28.2.2.2.1,()))) nof))
else
(some (.inr (.inl (t1,t2,t3,()))))
noncomputable def qet (n:Nat) (d:qT58):Option (qT58 ⊕ (qT63 ⊕ Empty)):=qes n d.1 d.2.1 d.2.2.1 d.2.2.2.1
noncomputable def qeu (n:Nat) (p0:(List Int)) (xo0:qT5) (xo1:qT1) (xo2:qT1):Option (Unit × qT63) :=
(qej n p0).bind fun r3 =>
bif (((xo0).bind fun l=>mget (.arr 7 (.int .i8)) l r3.1).getD false) then
(some ((),(xo0,(xo1,(xo2,())))))
else
(chk (lenB ((xo1).length+([p0]).length)) (chk (sameP [.el (0)] [.el (0)]) ((iterN (qet n) n ((0:Int),xo0,(xo1++[p0]),xo2,())).bind (Sum.elim (fun d29 =>
some ((),(d29.1,(d29.2.1,(d29.2.2.1,()))))) nof))))
noncomputable def qev (n:Nat) (yield0:(Unit × (Unit × (Unit × Unit)))) (t5:qT1) (t6:Int) (t7:Int) (c0:qT5) (c1:qT1) (c2:qT1):Option (qT34 ⊕ (qT63 ⊕ Empty)) :=
bif (decide (t7<t6)) then
((idx t5 t7).bind fun v6 =>
(qeu n v6 c0 c1 c2).bind fun r7 =>
some (.inl (((),((),((),()))),t5,t6,(IntKind.i64.wrap (t7+(1:Int))),r7.2.1,r7.2.2.1,r7.2.2.2.1,())))
else
(some (.inr (.inl (c0,c1,c2,()))))
noncomputable def qew (n:Nat) (d:qT34):Option (qT34 ⊕ (qT63 ⊕ Empty)):=qev n d.1 d.2.1 d.2.2.1 d.2.2.2.1 d.2.2.2.2.1 d.2.2.2.2.2.1 d.2.2.2.2.2.2.1
noncomputable def qex (n:Nat) (x1:qT1) (co0:qT5) (co1:qT1) (co2:qT1):Option (Unit × qT63) :=
(iterN (qew n) n (((),((),((),()))),x1,(x1.length:Int),(0:Int),co0,co1,co2,())).bind (Sum.elim (fun d8 =>
some ((),(d8.1,(d8.2.1,(d8.2.2.1,()))))) nof)
noncomputable def qey (n:Nat) (n0:Int) (add1:(qT1 × Unit)):Option (qT1 × Unit) :=
(qee n n0).bind fun r2 =>
(qem n [r2.1]).bind fun r4 =>
(qex n add1.1 r4.1 ([]:qT1) [r2.1]).bind fun r6 =>
some (r6.2.2.2.1,())
noncomputable def qez (n:Nat) (x0:Int):Option (Int × Unit) :=
(bif (decide ((4294967296:Int)≤x0)) then
(bif decide ((32:Int)<0) then none else
some (.inl ((Int.fdiv x0 (2 ^ (min ((32:Int)).toNat IntKind.u64.bits))),(32:Int),())))
else
(some (.inl (x0,(0:Int),()))):Option ((Int × Int × Unit) ⊕ Empty)).bind (Sum.elim (fun d1 =>
(bif (decide ((65536:Int)≤d1.1)) then
(bif decide ((16:Int)<0) then none else
some (.inl ((Int.fdiv d1.1 (2 ^ (min ((16:Int)).toNat IntKind.u64.bits))),(IntKind.i64.wrap (d1.2.1+(16:Int))),())))
else
(some (.inl (d1.1,d1.2.1,()))):Option ((Int × Int × Unit) ⊕ Empty)).bind (Sum.elim (fun d2 =>
(bif (decide ((256:Int)≤d2.1)) then
(bif decide ((8:Int)<0) then none else
some (.inl ((Int.fdiv d2.1 (2 ^ (min ((8:Int)).toNat IntKind.u64.bits))),(IntKind.i64.wrap (d2.2.1+(8:Int))),())))
else
(some (.inl (d2.1,d2.2.1,()))):Option ((Int × Int × Unit) ⊕ Empty)).bind (Sum.elim (fun d3 =>
(idx (ByteArray.mk #[0,1,2,2,3,3,3,3,4,4,4,4,4,4,4,4,5,5,5,5,5,5,5,5,5,5,5,5,5,5,5,5,6,6,6,6,6,6,6,6,6,6,6,6,6,6,6,6,6,6,6,6,6,6,6,6,6,6,6,6,6,6,6,6,7,7,7,7,7,7,7,7,7,7,7,7,7,7,7,7,7,7,7,7,7,7,7,7,7,7,7,7,7,7,7,7,7,7,7,7,7,7,7,7,7,7,7,7,7,7,7,7,7,7,7,7,7,7,7,7,7,7,7,7,7,7,7,7,8,8,8,8,8,8,8,8,8,8,8,8,8,8,8,8,8,8,8,8,8,8,8,8,8,8,8,8,8,8,8,8,8,8,8,8,8,8,8,8,8,8,8,8,8,8,8,8,8,8,8,8,8,8,8,8,8,8,8,8,8,8,8,8,8,8,8,8,8,8,8,8,8,8,8,8,8,8,8,8,8,8,8,8,8,8,8,8,8,8,8,8,8,8,8,8,8,8,8,8,8,8,8,8,8,8,8,8,8,8,8,8,8,8,8,8,8,8,8,8,8,8,8,8,8,8,8,8]).data.toList (IntKind.u8.wrap d3.1)).bind fun v4 =>
some ((IntKind.i64.wrap (d3.2.1+(IntKind.i64.wrap ((v4.toNat:Nat):Int)))),())) nof)) nof)) nof)
noncomputable def qe0 (n:Nat) (x0:Int):Option (Int × Unit) :=
(qez n x0).bind fun r1 =>
some (r1.1,())
noncomputable def qe1 (n:Nat) (x0:Int):Option (Bool × Unit) :=
some ((!decide (x0=x0)),())
noncomputable def qe2 (n:Nat) (x0:Int) (y1:Int):Option (Int × Unit) :=
(qe1 n x0).bind fun r2 =>
(qe1 n y1).bind fun r4 =>
bif r2.1 then
(bif r4.1 then
(some ((0:Int),()))
else
(some ((-1:Int),())))
else
(bif r4.1 then
(some ((1:Int),()))
else
(bif (decide (x0<y1)) then
(some ((-1:Int),()))
else
(bif (decide (y1<x0)) then
(some ((1:Int),()))
else
(some ((0:Int),())))))
noncomputable def qe3 (n:Nat) (s10:(List Int)) (s21:(List Int)) (t9:(List Int)) (t10:Int) (t11:Int):Option qT52 :=
bif (decide (t11<t10)) then
((idx t9 t11).bind fun v10 =>
bif (decide ((s21.length:Int)≤t11)) then
(some (.inr (.inl ((1:Int),()))))
else
((idx s21 t11).bind fun v11 =>
(qe2 n v10 v11).bind fun r12 =>
bif (!decide (r12.1=(0:Int))) then
(some (.inr (.inl (r12.1,()))))
else
(some (.inl (s10,s21,t9,t10,(IntKind.i64.wrap (t11+(1:Int))),())))))
else
(some (.inr (.inr (.inl (s10,s21,())))))
noncomputable def qe4 (n:Nat) (d:((List Int) × (List Int) × (List Int) × Int × Int × Unit)):Option qT52:=qe3 n d.1 d.2.1 d.2.2.1 d.2.2.2.1 d.2.2.2.2.1
noncomputable def qe5 (n:Nat) (s10:(List Int)) (s21:(List Int)):Option (Int × Unit) :=
(iterN (qe4 n) n (s10,s21,s10,(s10.length:Int),(0:Int),())).bind (Sum.elim (fun d16 =>
some (d16.1,())) (Sum.elim (fun d15 =>
bif (decide ((d15.1.length:Int)<(d15.2.1.length:Int))) then
(some ((-1:Int),()))
else
(some ((0:Int),()))) nof))
noncomputable def qe6 (n:Nat) (a0:(List Int)) (b1:(List Int)):Option (Int × Unit) :=
(qe5 n a0 b1).bind fun r1 =>
some (r1.1,())
noncomputable def qe7 (n:Nat) (a1:Int) (b2:Int) (cmp3:Unit) (i8:Int) (j9:Int) (data0:qT1):Option (qT8 ⊕ (qT17 ⊕ Empty)) :=
(bif (decide (a1<j9)) then
((idx data0 j9).bind fun v20 =>
(idx data0 (IntKind.i64.wrap (j9-(1:Int)))).bind fun v21 =>
(qe6 n v20 v21).bind fun r22 =>
some (.inl (a1,b2,(),i8,j9,(decide (r22.1<(0:Int))),data0,())))
else
(some (.inl (a1,b2,(),i8,j9,false,data0,()))):Option qT54).bind (Sum.elim (fun d23 =>
bif d23.2.2.2.2.2.1 then
((idx d23.2.2.2.2.2.2.1 (IntKind.i64.wrap (d23.2.2.2.2.1-(1:Int)))).bind fun v24 =>
(idx d23.2.2.2.2.2.2.1 d23.2.2.2.2.1).bind fun v25 =>
(idx d23.2.2.2.2.2.2.1 d23.2.2.2.2.1).bind fun v26 =>
(idx (List.set d23.2.2.2.2.2.2.1 (d23.2.2.2.2.1).toNat v24) (IntKind.i64.wrap (d23.2.2.2.2.1-(1:Int)))).bind fun v27 =>
some (.inl (d23.1,d23.2.1,(),d23.2.2.2.1,(IntKind.i64.wrap (d23.2.2.2.2.1-(1:Int))),(List.set (List.set d23.2.2.2.2.2.2.1 (d23.2.2.2.2.1).toNat v24) ((IntKind.i64.wrap (d23.2.2.2.2.1-(1:Int)))).toNat v25),())))
else
(some (.inr (.inl (d23.1,d23.2.1,(),d23.2.2.2.1,d23.2.2.2.2.2.2.1,()))))) nof)
noncomputable def qe8 (n:Nat) (d:qT8):Option (qT8 ⊕ (qT17 ⊕ Empty)):=qe7 n d.1 d.2.1 d.2.2.1 d.2.2.2.1 d.2.2.2.2.1 d.2.2.2.2.2.1
noncomputable def qe9 (n:Nat) (a1:Int) (b2:Int) (cmp3:Unit) (i8:Int) (data0:qT1):Option (qT17 ⊕ qT11) :=
bif (decide (i8<b2)) then
((iterN (qe8 n) n (a1,b2,(),i8,i8,data0,())).bind (Sum.elim (fun d30 =>
some (.inl (d30.1,d30.2.1,(),(IntKind.i64.wrap (d30.2.2.2.1+(1:Int))),d30.2.2.2.2.1,()))) nof))
else
(some (.inr (.inl (data0,()))))
noncomputable def qfa (n:Nat) (d:qT17):Option (qT17 ⊕ qT11):=qe9 n d.1 d.2.1 d.2.2.1 d.2.2.2.1 d.2.2.2.2.1
noncomputable def qfb (n:Nat) (a1:Int) (b2:Int) (datao0:qT1):Option qT27 :=
(iterN (qfa n) n (a1,b2,(),(IntKind.i64.wrap (a1+(1:Int))),datao0,())).bind (Sum.elim (fun d31 =>
some ((),(d31.1,()))) nof)
noncomputable def qfc (n:Nat) (hi2:Int) (first3:Int) (cmp4:Unit) (root10:Int) (data0:qT1):Option (qT17 ⊕ ((qT1 × Unit) ⊕ qT11)) :=
bif (decide (hi2≤(IntKind.i64.wrap ((IntKind.i64.wrap ((2:Int)*root10))+(1:Int))))) then
(some (.inr (.inl (data0,()))))
else
(((bif (decide ((IntKind.i64.wrap ((IntKind.i64.wrap ((IntKind.i64.wrap ((2:Int)*root10))+(1:Int)))+(1:Int)))<hi2)) then
((idx data0 (IntKind.i64.wrap (first3+(IntKind.i64.wrap ((IntKind.i64.wrap ((2:Int)*root10))+(1:Int)))))).bind fun v30 =>
(idx data0 (IntKind.i64.wrap ((IntKind.i64.wrap (first3+(IntKind.i64.wrap ((IntKind.i64.wrap ((2:Int)*root10))+(1:Int)))))+(1:Int)))).bind fun v31 =>
(qe6 n v30 v31).bind fun r32 =>
some (.inl (hi2,first3,(),root10,(IntKind.i64.wrap ((IntKind.i64.wrap ((2:Int)*root10))+(1:Int))),(decide (r32.1<(0:Int))),data0,())))
else
(some (.inl (hi2,first3,(),root10,(IntKind.i64.wrap ((IntKind.i64.wrap ((2:Int)*root10))+(1:Int))),false,data0,()))):Option qT54).bind (Sum.elim (fun d33 =>
bif d33.2.2.2.2.2.1 then
(some (.inl (d33.1,d33.2.1,(),d33.2.2.2.1,(IntKind.i64.wrap (d33.2.2.2.2.1+(1:Int))),d33.2.2.2.2.2.2.1,())))
else
(some (.inl (d33.1,d33.2.1,(),d33.2.2.2.1,d33.2.2.2.2.1,d33.2.2.2.2.2.2.1,())))) nof):Option (qT8 ⊕ Empty)).bind (Sum.elim (fun d34 =>
(idx d34.2.2.2.2.2.1 (IntKind.i64.wrap (d34.2.1+d34.2.2.2.1))).bind fun v35 =>
(idx d34.2.2.2.2.2.1 (IntKind.i64.wrap (d34.2.1+d34.2.2.2.2.1))).bind fun v36 =>
(qe6 n v35 v36).bind fun r37 =>
bif (!(decide (r37.1<(0:Int)))) then
(some (.inr (.inr (.inl (d34.2.2.2.2.2.1,())))))
else
((idx d34.2.2.2.2.2.1 (IntKind.i64.wrap (d34.2.1+d34.2.2.2.2.1))).bind fun v38 =>
(idx d34.2.2.2.2.2.1 (IntKind.i64.wrap (d34.2.1+d34.2.2.2.1))).bind fun v39 =>
(idx d34.2.2.2.2.2.1 (IntKind.i64.wrap (d34.2.1+d34.2.2.2.1))).bind fun v40 =>
(idx (List.set d34.2.2.2.2.2.1 ((IntKind.i64.wrap (d34.2.1+d34.2.2.2.1))).toNat v38) (IntKind.i64.wrap (d34.2.1+d34.2.2.2.2.1))).bind fun v41 =>
some (.inl (d34.1,d34.2.1,(),d34.2.2.2.2.1,(List.set (List.set d34.2.2.2.2.2.1 ((IntKind.i64.wrap (d34.2.1+d34.2.2.2.1))).toNat v38) ((IntKind.i64.wrap (d34.2.1+d34.2.2.2.2.1))).toNat v39),())))) nof))
noncomputable def qfd (n:Nat) (d:qT17):Option (qT17 ⊕ ((qT1 × Unit) ⊕ qT11)):=qfc n d.1 d.2.1 d.2.2.1 d.2.2.2.1 d.2.2.2.2.1
noncomputable def qfe (n:Nat) (lo1:Int) (hi2:Int) (first3:Int) (datao0:qT1):Option qT27 :=
(iterN (qfd n) n (hi2,first3,(),lo1,datao0,())).bind (Sum.elim (fun d43 =>
some ((),(d43.1,()))) (Sum.elim (fun d42 =>
some ((),(d42.1,()))) nof))
noncomputable def qff (n:Nat) (cmp3:Unit) (first8:Int) (lo9:Int) (hi10:Int) (i11:Int) (data0:qT1):Option (qT78 ⊕ (qT38 ⊕ Empty)) :=
bif (decide ((0:Int)≤i11)) then
((qfe n i11 hi10 first8 data0).bind fun r3 =>
some (.inl ((),first8,lo9,hi10,(IntKind.i64.wrap (i11-(1:Int))),r3.2.1,())))
else
(some (.inr (.inl ((),first8,lo9,hi10,data0,()))))
noncomputable def qfg (n:Nat) (d:qT78):Option (qT78 ⊕ (qT38 ⊕ Empty)):=qff n d.1 d.2.1 d.2.2.1 d.2.2.2.1 d.2.2.2.2.1 d.2.2.2.2.2.1
noncomputable def qfh (n:Nat) (cmp3:Unit) (first8:Int) (lo9:Int) (i12:Int) (data0:qT1):Option (qT38 ⊕ qT11) :=
bif (decide ((0:Int)≤i12)) then
((idx data0 (IntKind.i64.wrap (first8+i12))).bind fun v20 =>
(idx data0 first8).bind fun v21 =>
(idx data0 first8).bind fun v22 =>
(idx (List.set data0 (first8).toNat v20) (IntKind.i64.wrap (first8+i12))).bind fun v23 =>
(qfe n lo9 i12 first8 (List.set (List.set data0 (first8).toNat v20) ((IntKind.i64.wrap (first8+i12))).toNat v21)).bind fun r24 =>
some (.inl ((),first8,lo9,(IntKind.i64.wrap (i12-(1:Int))),r24.2.1,())))
else
(some (.inr (.inl (data0,()))))
noncomputable def qfi (n:Nat) (d:qT38):Option (qT38 ⊕ qT11):=qfh n d.1 d.2.1 d.2.2.1 d.2.2.2.1 d.2.2.2.2.1
noncomputable def qfj (n:Nat) (a1:Int) (b2:Int) (datao0:qT1):Option qT27 :=
bif decide ((2:Int)=0) then none else
(iterN (qfg n) n ((),a1,(0:Int),(IntKind.i64.wrap (b2-a1)),(IntKind.i64.wrap (Int.tdiv (IntKind.i64.wrap ((IntKind.i64.wrap (b2-a1))-(1:Int))) (2:Int))),datao0,())).bind (Sum.elim (fun d5 =>
(iterN (qfi n) n ((),d5.2.1,d5.2.2.1,(IntKind.i64.wrap (d5.2.2.2.1-(1:Int))),d5.2.2.2.2.1,())).bind (Sum.elim (fun d25 =>
some ((),(d25.1,()))) nof)) nof)
noncomputable def qfk (n:Nat) (length0:Int):Option (Int × Unit) :=
(qe0 n (IntKind.u64.wrap length0)).bind fun r1 =>
bif decide (r1.1<0) then none else
some ((IntKind.u64.wrap ((1:Int)*2 ^ (min (r1.1).toNat IntKind.u64.bits))),())
noncomputable def qfl (n:Nat) (ro0:Int):Option ((Int × Unit) × (Int × Unit)) :=
bif decide ((13:Int)<0) then none else
bif decide ((7:Int)<0) then none else
bif decide ((17:Int)<0) then none else
some (((IntKind.u64.wrap ((BitVec.ofInt IntKind.u64.bits (IntKind.u64.wrap ((BitVec.ofInt IntKind.u64.bits (IntKind.u64.wrap ((BitVec.ofInt IntKind.u64.bits ro0 ^^^ BitVec.ofInt IntKind.u64.bits (IntKind.u64.wrap (ro0*2 ^ (min ((13:Int)).toNat IntKind.u64.bits)))).toNat)) ^^^ BitVec.ofInt IntKind.u64.bits (Int.fdiv (IntKind.u64.wrap ((BitVec.ofInt IntKind.u64.bits ro0 ^^^ BitVec.ofInt IntKind.u64.bits (IntKind.u64.wrap (ro0*2 ^ (min ((13:Int)).toNat IntKind.u64.bits)))).toNat)) (2 ^ (min ((7:Int)).toNat IntKind.u64.bits)))).toNat)) ^^^ BitVec.ofInt IntKind.u64.bits (IntKind.u64.wrap ((IntKind.u64.wrap ((BitVec.ofInt IntKind.u64.bits (IntKind.u64.wrap ((BitVec.ofInt IntKind.u64.bits ro0 ^^^ BitVec.ofInt IntKind.u64.bits (IntKind.u64.wrap (ro0*2 ^ (min ((13:Int)).toNat IntKind.u64.bits)))).toNat)) ^^^ BitVec.ofInt IntKind.u64.bits (Int.fdiv (IntKind.u64.wrap ((BitVec.ofInt IntKind.u64.bits ro0 ^^^ BitVec.ofInt IntKind.u64.bits (IntKind.u64.wrap (ro0*2 ^ (min ((13:Int)).toNat IntKind.u64.bits)))).toNat)) (2 ^ (min ((7:Int)).toNat IntKind.u64.bits)))).toNat))*2 ^ (min ((17:Int)).toNat IntKind.u64.bits)))).toNat)),()),((IntKind.u64.wrap ((BitVec.ofInt IntKind.u64.bits (IntKind.u64.wrap ((BitVec.ofInt IntKind.u64.bits (IntKind.u64.wrap ((BitVec.ofInt IntKind.u64.bits ro0 ^^^ BitVec.ofInt IntKind.u64.bits (IntKind.u64.wrap (ro0*2 ^ (min ((13:Int)).toNat IntKind.u64.bits)))).toNat)) ^^^ BitVec.ofInt IntKind.u64.bits (Int.fdiv (IntKind.u64.wrap ((BitVec.ofInt IntKind.u64.bits ro0 ^^^ BitVec.ofInt IntKind.u64.bits (IntKind.u64.wrap (ro0*2 ^ (min ((13:Int)).toNat IntKind.u64.bits)))).toNat)) (2 ^ (min ((7:Int)).toNat IntKind.u64.bits)))).toNat)) ^^^ BitVec.ofInt IntKind.u64.bits (IntKind.u64.wrap ((IntKind.u64.wrap ((BitVec.ofInt IntKind.u64.bits (IntKind.u64.wrap ((BitVec.ofInt IntKind.u64.bits ro0 ^^^ BitVec.ofInt IntKind.u64.bits (IntKind.u64.wrap (ro0*2 ^ (min ((13:Int)).toNat IntKind.u64.bits)))).toNat)) ^^^ BitVec.ofInt IntKind.u64.bits (Int.fdiv (IntKind.u64.wrap ((BitVec.ofInt IntKind.u64.bits ro0 ^^^ BitVec.ofInt IntKind.u64.bits (IntKind.u64.wrap (ro0*2 ^ (min ((13:Int)).toNat IntKind.u64.bits)))).toNat)) (2 ^ (min ((7:Int)).toNat IntKind.u64.bits)))).toNat))*2 ^ (min ((17:Int)).toNat IntKind.u64.bits)))).toNat)),()))
noncomputable def qfm (n:Nat) (a1:Int) (length8:Int) (modulus10:Int) (idx11:Int) (data0:qT1) (random9:Int):Option ((Int × Int × Int × Int × qT1 × Int × Unit) ⊕ qT11) :=
bif decide ((4:Int)=0) then none else
bif (decide (idx11≤(IntKind.i64.wrap ((IntKind.i64.wrap (a1+(IntKind.i64.wrap ((IntKind.i64.wrap (Int.tdiv length8 (4:Int)))*(2:Int)))))+(1:Int))))) then
((qfl n random9).bind fun r16 =>
(bif (decide (length8≤(IntKind.i64.wrap (IntKind.u64.wrap ((BitVec.ofInt IntKind.u64.bits r16.1.1 &&& BitVec.ofInt IntKind.u64.bits (IntKind.u64.wrap (modulus10-(1:Int)))).toNat))))) then
(some (.inl (a1,length8,modulus10,idx11,(IntKind.i64.wrap ((IntKind.i64.wrap (IntKind.u64.wrap ((BitVec.ofInt IntKind.u64.bits r16.1.1 &&& BitVec.ofInt IntKind.u64.bits (IntKind.u64.wrap (modulus10-(1:Int)))).toNat)))-length8)),data0,r16.2.1,())))
else
(some (.inl (a1,length8,modulus10,idx11,(IntKind.i64.wrap (IntKind.u64.wrap ((BitVec.ofInt IntKind.u64.bits r16.1.1 &&& BitVec.ofInt IntKind.u64.bits (IntKind.u64.wrap (modulus10-(1:Int)))).toNat))),data0,r16.2.1,()))):Option ((Int × Int × Int × Int × Int × qT1 × Int × Unit) ⊕ Empty)).bind (Sum.elim (fun d17 =>
(idx d17.2.2.2.2.2.1 (IntKind.i64.wrap (d17.1+d17.2.2.2.2.1))).bind fun v18 =>
(idx d17.2.2.2.2.2.1 d17.2.2.2.1).bind fun v19 =>
(idx d17.2.2.2.2.2.1 d17.2.2.2.1).bind fun v20 =>
(idx (List.set d17.2.2.2.2.2.1 (d17.2.2.2.1).toNat v18) (IntKind.i64.wrap (d17.1+d17.2.2.2.2.1))).bind fun v21 =>
some (.inl (d17.1,d17.2.1,d17.2.2.1,(IntKind.i64.wrap (d17.2.2.2.1+(1:Int))),(List.set (List.set d17.2.2.2.2.2.1 (d17.2.2.2.1).toNat v18) ((IntKind.i64.wrap (d17.1+d17.2.2.2.2.1))).toNat v19),d17.2.2.2.2.2.2.1,()))) nof))
else
(some (.inr (.inl (data0,()))))
noncomputable def qfn (n:Nat) (d:(Int × Int × Int × Int × qT1 × Int × Unit)):Option ((Int × Int × Int × Int × qT1 × Int × Unit) ⊕ qT11):=qfm n d.1 d.2.1 d.2.2.1 d.2.2.2.1 d.2.2.2.2.1 d.2.2.2.2.2.1
noncomputable def qfo (n:Nat) (a1:Int) (b2:Int) (datao0:qT1):Option qT27 :=
bif (decide ((8:Int)≤(IntKind.i64.wrap (b2-a1)))) then
((qfk n (IntKind.i64.wrap (b2-a1))).bind fun r2 =>
bif decide ((4:Int)=0) then none else
(iterN (qfn n) n (a1,(IntKind.i64.wrap (b2-a1)),r2.1,(IntKind.i64.wrap ((IntKind.i64.wrap (a1+(IntKind.i64.wrap ((IntKind.i64.wrap (Int.tdiv (IntKind.i64.wrap (b2-a1)) (4:Int)))*(2:Int)))))-(1:Int))),datao0,(IntKind.u64.wrap (IntKind.i64.wrap (b2-a1))),())).bind (Sum.elim (fun d22 =>
some ((),(d22.1,()))) nof))
else
(some ((),(datao0,())))
noncomputable def qfp (n:Nat) (data0:qT1) (a1:Int) (b2:Int) (swapso0:Int):Option (qT42 × (Int × Unit)) :=
(idx data0 b2).bind fun v7 =>
(idx data0 a1).bind fun v8 =>
(qe6 n v7 v8).bind fun r9 =>
bif (decide (r9.1<(0:Int))) then
(some ((b2,(a1,())),((IntKind.i64.wrap (swapso0+(1:Int))),())))
else
(some ((a1,(b2,())),(swapso0,())))
noncomputable def qfq (n:Nat) (data0:qT1) (a1:Int) (b2:Int) (c3:Int) (swapso0:Int):Option ((Int × Unit) × (Int × Unit)) :=
(qfp n data0 a1 b2 swapso0).bind fun r2 =>
(qfp n data0 r2.1.2.1 c3 r2.2.1).bind fun r4 =>
(qfp n data0 r2.1.1 r4.1.1 r4.2.1).bind fun r6 =>
some ((r6.1.2.1,()),(r6.2.1,()))
noncomputable def qfr (n:Nat) (data0:qT1) (a1:Int) (swapso0:Int):Option ((Int × Unit) × (Int × Unit)) :=
(qfq n data0 (IntKind.i64.wrap (a1-(1:Int))) a1 (IntKind.i64.wrap (a1+(1:Int))) swapso0).bind fun r1 =>
some ((r1.1.1,()),(r1.2.1,()))
noncomputable def qfs (n:Nat) (data0:qT1) (a1:Int) (b2:Int):Option qT42 :=
bif decide ((4:Int)=0) then none else
bif decide ((4:Int)=0) then none else
bif decide ((4:Int)=0) then none else
(bif (decide ((8:Int)≤(IntKind.i64.wrap (b2-a1)))) then
((bif (decide ((50:Int)≤(IntKind.i64.wrap (b2-a1)))) then
((qfr n data0 (IntKind.i64.wrap (a1+(IntKind.i64.wrap ((IntKind.i64.wrap (Int.tdiv (IntKind.i64.wrap (b2-a1)) (4:Int)))*(1:Int))))) (0:Int)).bind fun r11 =>
(qfr n data0 (IntKind.i64.wrap (a1+(IntKind.i64.wrap ((IntKind.i64.wrap (Int.tdiv (IntKind.i64.wrap (b2-a1)) (4:Int)))*(2:Int))))) r11.2.1).bind fun r12 =>
(qfr n data0 (IntKind.i64.wrap (a1+(IntKind.i64.wrap ((IntKind.i64.wrap (Int.tdiv (IntKind.i64.wrap (b2-a1)) (4:Int)))*(3:Int))))) r12.2.1).bind fun r13 =>
some (.inl (data0,(),r11.1.1,r12.1.1,r13.1.1,r13.2.1,())))
else
(some (.inl (data0,(),(IntKind.i64.wrap (a1+(IntKind.i64.wrap ((IntKind.i64.wrap (Int.tdiv (IntKind.i64.wrap (b2-a1)) (4:Int)))*(1:Int))))),(IntKind.i64.wrap (a1+(IntKind.i64.wrap ((IntKind.i64.wrap (Int.tdiv (IntKind.i64.wrap (b2-a1)) (4:Int)))*(2:Int))))),(IntKind.i64.wrap (a1+(IntKind.i64.wrap ((IntKind.i64.wrap (Int.tdiv (IntKind.i64.wrap (b2-a1)) (4:Int)))*(3:Int))))),(0:Int),()))):Option ((qT1 × Unit × Int × Int × Int × Int × Unit) ⊕ Empty)).bind (Sum.elim (fun d14 =>
(qfq n d14.1 d14.2.2.1 d14.2.2.2.1 d14.2.2.2.2.1 d14.2.2.2.2.2.1).bind fun r15 =>
some (.inl (r15.1.1,r15.2.1,()))) nof))
else
(some (.inl ((IntKind.i64.wrap (a1+(IntKind.i64.wrap ((IntKind.i64.wrap (Int.tdiv (IntKind.i64.wrap (b2-a1)) (4:Int)))*(2:Int))))),(0:Int),()))):Option ((Int × Int × Unit) ⊕ Empty)).bind (Sum.elim (fun d16 =>
bif (decide (d16.2.1=(0:Int))) then
(some (d16.1,((1:Int),())))
else
(bif (decide (d16.2.1=(12:Int))) then
(some (d16.1,((2:Int),())))
else
(some (d16.1,((0:Int),()))))) nof)
noncomputable def qft (n:Nat) (i8:Int) (j9:Int) (data0:qT1):Option (qT75 ⊕ qT11) :=
bif (decide (i8<j9)) then
((idx data0 j9).bind fun v9 =>
(idx data0 i8).bind fun v10 =>
(idx data0 i8).bind fun v11 =>
(idx (List.set data0 (i8).toNat v9) j9).bind fun v12 =>
some (.inl ((IntKind.i64.wrap (i8+(1:Int))),(IntKind.i64.wrap (j9-(1:Int))),(List.set (List.set data0 (i8).toNat v9) (j9).toNat v10),())))
else
(some (.inr (.inl (data0,()))))
noncomputable def qfu (n:Nat) (d:qT75):Option (qT75 ⊕ qT11):=qft n d.1 d.2.1 d.2.2.1
noncomputable def qfv (n:Nat) (a1:Int) (b2:Int) (datao0:qT1):Option qT27 :=
(iterN (qfu n) n (a1,(IntKind.i64.wrap (b2-(1:Int))),datao0,())).bind (Sum.elim (fun d13 =>
some ((),(d13.1,()))) nof)
noncomputable def qfw (n:Nat) (a1:Int) (b2:Int) (cmp3:Unit) (i9:Int) (j10:Int) (j11:Int) (data0:qT1):Option (qT18 ⊕ (qT8 ⊕ Empty)) :=
bif (decide ((1:Int)≤j11)) then
((idx data0 j11).bind fun v46 =>
(idx data0 (IntKind.i64.wrap (j11-(1:Int)))).bind fun v47 =>
(qe6 n v46 v47).bind fun r48 =>
bif (!(decide (r48.1<(0:Int)))) then
(some (.inr (.inl (a1,b2,(),i9,j10,data0,()))))
else
((idx data0 (IntKind.i64.wrap (j11-(1:Int)))).bind fun v49 =>
(idx data0 j11).bind fun v50 =>
(idx data0 j11).bind fun v51 =>
(idx (List.set data0 (j11).toNat v49) (IntKind.i64.wrap (j11-(1:Int)))).bind fun v52 =>
some (.inl (a1,b2,(),i9,j10,(IntKind.i64.wrap (j11-(1:Int))),(List.set (List.set data0 (j11).toNat v49) ((IntKind.i64.wrap (j11-(1:Int)))).toNat v50),()))))
else
(some (.inr (.inl (a1,b2,(),i9,j10,data0,()))))
noncomputable def qfx (n:Nat) (d:qT18):Option (qT18 ⊕ (qT8 ⊕ Empty)):=qfw n d.1 d.2.1 d.2.2.1 d.2.2.2.1 d.2.2.2.2.1 d.2.2.2.2.2.1 d.2.2.2.2.2.2.1
noncomputable def qfy (n:Nat) (a1:Int) (b2:Int) (cmp3:Unit) (i9:Int) (j10:Int) (j12:Int) (data0:qT1):Option (qT18 ⊕ (qT8 ⊕ Empty)) :=
bif (decide (j12<b2)) then
((idx data0 j12).bind fun v76 =>
(idx data0 (IntKind.i64.wrap (j12-(1:Int)))).bind fun v77 =>
(qe6 n v76 v77).bind fun r78 =>
bif (!(decide (r78.1<(0:Int)))) then
(some (.inr (.inl (a1,b2,(),i9,j10,data0,()))))
else
((idx data0 (IntKind.i64.wrap (j12-(1:Int)))).bind fun v79 =>
(idx data0 j12).bind fun v80 =>
(idx data0 j12).bind fun v81 =>
(idx (List.set data0 (j12).toNat v79) (IntKind.i64.wrap (j12-(1:Int)))).bind fun v82 =>
some (.inl (a1,b2,(),i9,j10,(IntKind.i64.wrap (j12+(1:Int))),(List.set (List.set data0 (j12).toNat v79) ((IntKind.i64.wrap (j12-(1:Int)))).toNat v80),()))))
else
(some (.inr (.inl (a1,b2,(),i9,j10,data0,()))))
noncomputable def qfz (n:Nat) (d:qT18):Option (qT18 ⊕ (qT8 ⊕ Empty)):=qfy n d.1 d.2.1 d.2.2.1 d.2.2.2.1 d.2.2.2.2.1 d.2.2.2.2.2.1 d.2.2.2.2.2.2.1
noncomputable def qf0 (n:Nat) (a1:Int) (b2:Int) (cmp3:Unit) (i9:Int) (j10:Int) (data0:qT1):Option (qT8 ⊕ (qT8 ⊕ Empty)) :=
(bif (decide (i9<b2)) then
((idx data0 i9).bind fun v12 =>
(idx data0 (IntKind.i64.wrap (i9-(1:Int)))).bind fun v13 =>
(qe6 n v12 v13).bind fun r14 =>
some (.inl (a1,b2,(),i9,j10,(!(decide (r14.1<(0:Int)))),data0,())))
else
(some (.inl (a1,b2,(),i9,j10,false,data0,()))):Option qT54).bind (Sum.elim (fun d15 =>
bif d15.2.2.2.2.2.1 then
(some (.inl (d15.1,d15.2.1,(),(IntKind.i64.wrap (d15.2.2.2.1+(1:Int))),d15.2.2.2.2.1,d15.2.2.2.2.2.2.1,())))
else
(some (.inr (.inl (d15.1,d15.2.1,(),d15.2.2.2.1,d15.2.2.2.2.1,d15.2.2.2.2.2.2.1,()))))) nof)
noncomputable def qf1 (n:Nat) (d:qT8):Option (qT8 ⊕ (qT8 ⊕ Empty)):=qf0 n d.1 d.2.1 d.2.2.1 d.2.2.2.1 d.2.2.2.2.1 d.2.2.2.2.2.1
noncomputable def qf2 (n:Nat) (a1:Int) (b2:Int) (cmp3:Unit) (i9:Int) (j10:Int) (data0:qT1):Option (qT8 ⊕ ((Bool × qT1 × Unit) ⊕ qT11)) :=
bif (decide (j10<(5:Int))) then
(((iterN (qf1 n) n (a1,b2,(),i9,j10,data0,())).bind (Sum.elim (fun d94 =>
bif (decide (d94.2.2.2.1=d94.2.1)) then
(some (.inl (true,d94.2.2.2.2.2.1,())))
else
(bif (decide ((IntKind.i64.wrap (d94.2.1-d94.1))<(50:Int))) then
(some (.inl (false,d94.2.2.2.2.2.1,())))
else
((idx d94.2.2.2.2.2.1 (IntKind.i64.wrap (d94.2.2.2.1-(1:Int)))).bind fun v95 =>
(idx d94.2.2.2.2.2.1 d94.2.2.2.1).bind fun v96 =>
(idx d94.2.2.2.2.2.1 d94.2.2.2.1).bind fun v97 =>
(idx (List.set d94.2.2.2.2.2.1 (d94.2.2.2.1).toNat v95) (IntKind.i64.wrap (d94.2.2.2.1-(1:Int)))).bind fun v98 =>
(bif (decide ((2:Int)≤(IntKind.i64.wrap (d94.2.2.2.1-d94.1)))) then
((iterN (qfx n) n (d94.1,d94.2.1,(),d94.2.2.2.1,d94.2.2.2.2.1,(IntKind.i64.wrap (d94.2.2.2.1-(1:Int))),(List.set (List.set d94.2.2.2.2.2.1 (d94.2.2.2.1).toNat v95) ((IntKind.i64.wrap (d94.2.2.2.1-(1:Int)))).toNat v96),())).bind (Sum.elim (fun d99 =>
some (.inl (d99.1,d99.2.1,(),d99.2.2.2.1,d99.2.2.2.2.1,d99.2.2.2.2.2.1,()))) nof))
else
(some (.inl (d94.1,d94.2.1,(),d94.2.2.2.1,d94.2.2.2.2.1,(List.set (List.set d94.2.2.2.2.2.1 (d94.2.2.2.1).toNat v95) ((IntKind.i64.wrap (d94.2.2.2.1-(1:Int)))).toNat v96),()))):Option (qT8 ⊕ Empty)).bind (Sum.elim (fun d100 =>
bif (decide ((2:Int)≤(IntKind.i64.wrap (d100.2.1-d100.2.2.2.1)))) then
((iterN (qfz n) n (d100.1,d100.2.1,(),d100.2.2.2.1,d100.2.2.2.2.1,(IntKind.i64.wrap (d100.2.2.2.1+(1:Int))),d100.2.2.2.2.2.1,())).bind (Sum.elim (fun d101 =>
some (.inr (.inl (d101.1,d101.2.1,(),d101.2.2.2.1,d101.2.2.2.2.1,d101.2.2.2.2.2.1,())))) nof))
else
(some (.inr (.inl (d100.1,d100.2.1,(),d100.2.2.2.1,d100.2.2.2.2.1,d100.2.2.2.2.2.1,()))))) nof)))) nof):Option ((Bool × qT1 × Unit) ⊕ (qT8 ⊕ Empty))).bind (Sum.elim (fun d103 =>
some (.inr (.inl (d103.1,d103.2.1,())))) (Sum.elim (fun d102 =>
some (.inl (d102.1,d102.2.1,(),d102.2.2.2.1,(IntKind.i64.wrap (d102.2.2.2.2.1+(1:Int))),d102.2.2.2.2.2.1,()))) nof)))
else
(some (.inr (.inr (.inl (data0,())))))
noncomputable def qf3 (n:Nat) (d:qT8):Option (qT8 ⊕ ((Bool × qT1 × Unit) ⊕ qT11)):=qf2 n d.1 d.2.1 d.2.2.1 d.2.2.2.1 d.2.2.2.2.1 d.2.2.2.2.2.1
noncomputable def qf4 (n:Nat) (a1:Int) (b2:Int) (datao0:qT1):Option ((Bool × Unit) × (qT1 × Unit)) :=
(iterN (qf3 n) n (a1,b2,(),(IntKind.i64.wrap (a1+(1:Int))),(0:Int),datao0,())).bind (Sum.elim (fun d107 =>
some ((d107.1,()),(d107.2.1,()))) (Sum.elim (fun d106 =>
some ((false,()),(d106.1,()))) nof))
noncomputable def qf5 (n:Nat) (a1:Int) (cmp4:Unit) (i11:Int) (j12:Int) (data0:qT1):Option qT23 :=
(bif (decide (i11≤j12)) then
((idx data0 a1).bind fun v37 =>
(idx data0 j12).bind fun v38 =>
(qe6 n v37 v38).bind fun r39 =>
some (.inl (a1,(),i11,j12,(decide (r39.1<(0:Int))),data0,())))
else
(some (.inl (a1,(),i11,j12,false,data0,()))):Option qT16).bind (Sum.elim (fun d40 =>
bif d40.2.2.2.2.1 then
(some (.inl (d40.1,(),d40.2.2.1,(IntKind.i64.wrap (d40.2.2.2.1-(1:Int))),d40.2.2.2.2.2.1,())))
else
(some (.inr (.inl (d40.1,(),d40.2.2.1,d40.2.2.2.1,d40.2.2.2.2.2.1,()))))) nof)
noncomputable def qf6 (n:Nat) (d:qT4):Option qT23:=qf5 n d.1 d.2.1 d.2.2.1 d.2.2.2.1 d.2.2.2.2.1
noncomputable def qf7 (n:Nat) (a1:Int) (cmp4:Unit) (i11:Int) (j12:Int) (data0:qT1):Option qT23 :=
(bif (decide (i11≤j12)) then
((idx data0 a1).bind fun v20 =>
(idx data0 i11).bind fun v21 =>
(qe6 n v20 v21).bind fun r22 =>
some (.inl (a1,(),i11,j12,(!(decide (r22.1<(0:Int)))),data0,())))
else
(some (.inl (a1,(),i11,j12,false,data0,()))):Option qT16).bind (Sum.elim (fun d23 =>
bif d23.2.2.2.2.1 then
(some (.inl (d23.1,(),(IntKind.i64.wrap (d23.2.2.1+(1:Int))),d23.2.2.2.1,d23.2.2.2.2.2.1,())))
else
(some (.inr (.inl (d23.1,(),d23.2.2.1,d23.2.2.2.1,d23.2.2.2.2.2.1,()))))) nof)
noncomputable def qf8 (n:Nat) (d:qT4):Option qT23:=qf7 n d.1 d.2.1 d.2.2.1 d.2.2.2.1 d.2.2.2.2.1
noncomputable def qf9 (n:Nat) (a1:Int) (cmp4:Unit) (i11:Int) (j12:Int) (data0:qT1):Option (qT4 ⊕ ((Int × qT1 × Unit) ⊕ Empty)) :=
(iterN (qf8 n) n (a1,(),i11,j12,data0,())).bind (Sum.elim (fun d51 =>
(iterN (qf6 n) n (d51.1,(),d51.2.2.1,d51.2.2.2.1,d51.2.2.2.2.1,())).bind (Sum.elim (fun d52 =>
bif (decide (d52.2.2.2.1<d52.2.2.1)) then
(some (.inr (.inl (d52.2.2.1,d52.2.2.2.2.1,()))))
else
((idx d52.2.2.2.2.1 d52.2.2.2.1).bind fun v53 =>
(idx d52.2.2.2.2.1 d52.2.2.1).bind fun v54 =>
(idx d52.2.2.2.2.1 d52.2.2.1).bind fun v55 =>
(idx (List.set d52.2.2.2.2.1 (d52.2.2.1).toNat v53) d52.2.2.2.1).bind fun v56 =>
some (.inl (d52.1,(),(IntKind.i64.wrap (d52.2.2.1+(1:Int))),(IntKind.i64.wrap (d52.2.2.2.1-(1:Int))),(List.set (List.set d52.2.2.2.2.1 (d52.2.2.1).toNat v53) (d52.2.2.2.1).toNat v54),())))) nof)) nof)
noncomputable def qga (n:Nat) (d:qT4):Option (qT4 ⊕ ((Int × qT1 × Unit) ⊕ Empty)):=qf9 n d.1 d.2.1 d.2.2.1 d.2.2.2.1 d.2.2.2.2.1
noncomputable def qgb (n:Nat) (a1:Int) (b2:Int) (pivot3:Int) (datao0:qT1):Option ((Int × Unit) × (qT1 × Unit)) :=
(idx datao0 pivot3).bind fun v5 =>
(idx datao0 a1).bind fun v6 =>
(idx datao0 a1).bind fun v7 =>
(idx (List.set datao0 (a1).toNat v5) pivot3).bind fun v8 =>
(iterN (qga n) n (a1,(),(IntKind.i64.wrap (a1+(1:Int))),(IntKind.i64.wrap (b2-(1:Int))),(List.set (List.set datao0 (a1).toNat v5) (pivot3).toNat v6),())).bind (Sum.elim (fun d58 =>
some ((d58.1,()),(d58.2.1,()))) nof)
noncomputable def qgc (n:Nat) (a1:Int) (cmp4:Unit) (i12:Int) (j13:Int) (data0:qT1):Option qT23 :=
(bif (decide (i12≤j13)) then
((idx data0 j13).bind fun v91 =>
(idx data0 a1).bind fun v92 =>
(qe6 n v91 v92).bind fun r93 =>
some (.inl (a1,(),i12,j13,(!(decide (r93.1<(0:Int)))),data0,())))
else
(some (.inl (a1,(),i12,j13,false,data0,()))):Option qT16).bind (Sum.elim (fun d94 =>
bif d94.2.2.2.2.1 then
(some (.inl (d94.1,(),d94.2.2.1,(IntKind.i64.wrap (d94.2.2.2.1-(1:Int))),d94.2.2.2.2.2.1,())))
else
(some (.inr (.inl (d94.1,(),d94.2.2.1,d94.2.2.2.1,d94.2.2.2.2.2.1,()))))) nof)
noncomputable def qgd (n:Nat) (d:qT4):Option qT23:=qgc n d.1 d.2.1 d.2.2.1 d.2.2.2.1 d.2.2.2.2.1
noncomputable def qge (n:Nat) (a1:Int) (cmp4:Unit) (i12:Int) (j13:Int) (data0:qT1):Option qT23 :=
(bif (decide (i12≤j13)) then
((idx data0 i12).bind fun v74 =>
(idx data0 a1).bind fun v75 =>
(qe6 n v74 v75).bind fun r76 =>
some (.inl (a1,(),i12,j13,(decide (r76.1<(0:Int))),data0,())))
else
(some (.inl (a1,(),i12,j13,false,data0,()))):Option qT16).bind (Sum.elim (fun d77 =>
bif d77.2.2.2.2.1 then
(some (.inl (d77.1,(),(IntKind.i64.wrap (d77.2.2.1+(1:Int))),d77.2.2.2.1,d77.2.2.2.2.2.1,())))
else
(some (.inr (.inl (d77.1,(),d77.2.2.1,d77.2.2.2.1,d77.2.2.2.2.2.1,()))))) nof)
noncomputable def qgf (n:Nat) (d:qT4):Option qT23:=qge n d.1 d.2.1 d.2.2.1 d.2.2.2.1 d.2.2.2.2.1
noncomputable def qgg (n:Nat) (a1:Int) (cmp4:Unit) (i12:Int) (j13:Int) (data0:qT1):Option (qT4 ⊕ (qT75 ⊕ Empty)) :=
(iterN (qgf n) n (a1,(),i12,j13,data0,())).bind (Sum.elim (fun d105 =>
(iterN (qgd n) n (d105.1,(),d105.2.2.1,d105.2.2.2.1,d105.2.2.2.2.1,())).bind (Sum.elim (fun d106 =>
bif (decide (d106.2.2.2.1<d106.2.2.1)) then
(some (.inr (.inl (d106.1,d106.2.2.2.1,d106.2.2.2.2.1,()))))
else
((idx d106.2.2.2.2.1 d106.2.2.2.1).bind fun v107 =>
(idx d106.2.2.2.2.1 d106.2.2.1).bind fun v108 =>
(idx d106.2.2.2.2.1 d106.2.2.1).bind fun v109 =>
(idx (List.set d106.2.2.2.2.1 (d106.2.2.1).toNat v107) d106.2.2.2.1).bind fun v110 =>
some (.inl (d106.1,(),(IntKind.i64.wrap (d106.2.2.1+(1:Int))),(IntKind.i64.wrap (d106.2.2.2.1-(1:Int))),(List.set (List.set d106.2.2.2.2.1 (d106.2.2.1).toNat v107) (d106.2.2.2.1).toNat v108),())))) nof)) nof)
noncomputable def qgh (n:Nat) (d:qT4):Option (qT4 ⊕ (qT75 ⊕ Empty)):=qgg n d.1 d.2.1 d.2.2.1 d.2.2.2.1 d.2.2.2.2.1
noncomputable def qgi (n:Nat) (a1:Int) (cmp4:Unit) (i12:Int) (j13:Int) (data0:qT1):Option qT23 :=
(bif (decide (i12≤j13)) then
((idx data0 j13).bind fun v37 =>
(idx data0 a1).bind fun v38 =>
(qe6 n v37 v38).bind fun r39 =>
some (.inl (a1,(),i12,j13,(!(decide (r39.1<(0:Int)))),data0,())))
else
(some (.inl (a1,(),i12,j13,false,data0,()))):Option qT16).bind (Sum.elim (fun d40 =>
bif d40.2.2.2.2.1 then
(some (.inl (d40.1,(),d40.2.2.1,(IntKind.i64.wrap (d40.2.2.2.1-(1:Int))),d40.2.2.2.2.2.1,())))
else
(some (.inr (.inl (d40.1,(),d40.2.2.1,d40.2.2.2.1,d40.2.2.2.2.2.1,()))))) nof)
noncomputable def qgj (n:Nat) (d:qT4):Option qT23:=qgi n d.1 d.2.1 d.2.2.1 d.2.2.2.1 d.2.2.2.2.1
noncomputable def qgk (n:Nat) (a1:Int) (cmp4:Unit) (i12:Int) (j13:Int) (data0:qT1):Option qT23 :=
(bif (decide (i12≤j13)) then
((idx data0 i12).bind fun v20 =>
(idx data0 a1).bind fun v21 =>
(qe6 n v20 v21).bind fun r22 =>
some (.inl (a1,(),i12,j13,(decide (r22.1<(0:Int))),data0,())))
else
(some (.inl (a1,(),i12,j13,false,data0,()))):Option qT16).bind (Sum.elim (fun d23 =>
bif d23.2.2.2.2.1 then
(some (.inl (d23.1,(),(IntKind.i64.wrap (d23.2.2.1+(1:Int))),d23.2.2.2.1,d23.2.2.2.2.2.1,())))
else
(some (.inr (.inl (d23.1,(),d23.2.2.1,d23.2.2.2.1,d23.2.2.2.2.2.1,()))))) nof)
noncomputable def qgl (n:Nat) (d:qT4):Option qT23:=qgk n d.1 d.2.1 d.2.2.1 d.2.2.2.1 d.2.2.2.2.1
noncomputable def qgm (n:Nat) (a1:Int) (b2:Int) (pivot3:Int) (datao0:qT1):Option ((Int × (Bool × Unit)) × (qT1 × Unit)) :=
(idx datao0 pivot3).bind fun v5 =>
(idx datao0 a1).bind fun v6 =>
(idx datao0 a1).bind fun v7 =>
(idx (List.set datao0 (a1).toNat v5) pivot3).bind fun v8 =>
(iterN (qgl n) n (a1,(),(IntKind.i64.wrap (a1+(1:Int))),(IntKind.i64.wrap (b2-(1:Int))),(List.set (List.set datao0 (a1).toNat v5) (pivot3).toNat v6),())).bind (Sum.elim (fun d25 =>
(iterN (qgj n) n (d25.1,(),d25.2.2.1,d25.2.2.2.1,d25.2.2.2.2.1,())).bind (Sum.elim (fun d42 =>
bif (decide (d42.2.2.2.1<d42.2.2.1)) then
((idx d42.2.2.2.2.1 d42.1).bind fun v51 =>
(idx d42.2.2.2.2.1 d42.2.2.2.1).bind fun v52 =>
(idx d42.2.2.2.2.1 d42.2.2.2.1).bind fun v53 =>
(idx (List.set d42.2.2.2.2.1 (d42.2.2.2.1).toNat v51) d42.1).bind fun v54 =>
some ((d42.2.2.2.1,(true,())),((List.set (List.set d42.2.2.2.2.1 (d42.2.2.2.1).toNat v51) (d42.1).toNat v52),())))
else
((idx d42.2.2.2.2.1 d42.2.2.2.1).bind fun v59 =>
(idx d42.2.2.2.2.1 d42.2.2.1).bind fun v60 =>
(idx d42.2.2.2.2.1 d42.2.2.1).bind fun v61 =>
(idx (List.set d42.2.2.2.2.1 (d42.2.2.1).toNat v59) d42.2.2.2.1).bind fun v62 =>
(iterN (qgh n) n (d42.1,(),(IntKind.i64.wrap (d42.2.2.1+(1:Int))),(IntKind.i64.wrap (d42.2.2.2.1-(1:Int))),(List.set (List.set d42.2.2.2.2.1 (d42.2.2.1).toNat v59) (d42.2.2.2.1).toNat v60),())).bind (Sum.elim (fun d112 =>
(idx d112.2.2.1 d112.1).bind fun v117 =>
(idx d112.2.2.1 d112.2.1).bind fun v118 =>
(idx d112.2.2.1 d112.2.1).bind fun v119 =>
(idx (List.set d112.2.2.1 (d112.2.1).toNat v117) d112.1).bind fun v120 =>
some ((d112.2.1,(false,())),((List.set (List.set d112.2.2.1 (d112.2.1).toNat v117) (d112.1).toNat v118),()))) nof))) nof)) nof)
noncomputable def qgn (self_slices_pdqsortCmpFunc_api_Perm__group_sorted_1:Int→Int→Int→qT1→Option qT27) (n:Nat) (a1:Int) (b2:Int) (limit3:Int) (cmp4:Unit) (wasBalanced10:Bool) (wasPartitioned11:Bool) (data0:qT1):Option (qT65 ⊕ qT11) :=
bif (decide ((IntKind.i64.wrap (b2-a1))≤(12:Int))) then
((qfb n a1 b2 data0).bind fun r42 =>
some (.inr (.inl (r42.2.1,()))))
else
(bif (decide (limit3=(0:Int))) then
((qfj n a1 b2 data0).bind fun r43 =>
some (.inr (.inl (r43.2.1,()))))
else
((bif (!wasBalanced10) then
((qfo n a1 b2 data0).bind fun r44 =>
some (.inl (a1,b2,(IntKind.i64.wrap (limit3-(1:Int))),(),wasBalanced10,wasPartitioned11,(IntKind.i64.wrap (b2-a1)),r44.2.1,())))
else
(some (.inl (a1,b2,limit3,(),wasBalanced10,wasPartitioned11,(IntKind.i64.wrap (b2-a1)),data0,()))):Option ((Int × Int × Int × Unit × Bool × Bool × Int × qT1 × Unit) ⊕ Empty)).bind (Sum.elim (fun d45 =>
(qfs n d45.2.2.2.2.2.2.2.1 d45.1 d45.2.1).bind fun r46 =>
(bif (decide (r46.2.1=(2:Int))) then
((qfv n d45.1 d45.2.1 d45.2.2.2.2.2.2.2.1).bind fun r47 =>
some (.inl (d45.1,d45.2.1,d45.2.2.1,(),d45.2.2.2.2.1,d45.2.2.2.2.2.1,d45.2.2.2.2.2.2.1,(IntKind.i64.wrap ((IntKind.i64.wrap (d45.2.1-(1:Int)))-(IntKind.i64.wrap (r46.1-d45.1)))),(1:Int),r47.2.1,())))
else
(some (.inl (d45.1,d45.2.1,d45.2.2.1,(),d45.2.2.2.2.1,d45.2.2.2.2.2.1,d45.2.2.2.2.2.2.1,r46.1,r46.2.1,d45.2.2.2.2.2.2.2.1,()))):Option ((Int × Int × Int × Unit × Bool × Bool × Int × Int × Int × qT1 × Unit) ⊕ Empty)).bind (Sum.elim (fun d48 =>
((bif d48.2.2.2.2.1 then
(bif d48.2.2.2.2.2.1 then
(some (.inl (d48.1,d48.2.1,d48.2.2.1,(),d48.2.2.2.2.1,d48.2.2.2.2.2.1,d48.2.2.2.2.2.2.1,d48.2.2.2.2.2.2.2.1,(decide (d48.2.2.2.2.2.2.2.2.1=(1:Int))),d48.2.2.2.2.2.2.2.2.2.1,())))
else
(some (.inl (d48.1,d48.2.1,d48.2.2.1,(),d48.2.2.2.2.1,d48.2.2.2.2.2.1,d48.2.2.2.2.2.2.1,d48.2.2.2.2.2.2.2.1,false,d48.2.2.2.2.2.2.2.2.2.1,()))))
else
(some (.inl (d48.1,d48.2.1,d48.2.2.1,(),d48.2.2.2.2.1,d48.2.2.2.2.2.1,d48.2.2.2.2.2.2.1,d48.2.2.2.2.2.2.2.1,false,d48.2.2.2.2.2.2.2.2.2.1,()))):Option ((Int × Int × Int × Unit × Bool × Bool × Int × Int × Bool × qT1 × Unit) ⊕ Empty)).bind (Sum.elim (fun d49 =>
bif d49.2.2.2.2.2.2.2.2.1 then
((qf4 n d49.1 d49.2.1 d49.2.2.2.2.2.2.2.2.2.1).bind fun r50 =>
bif r50.1.1 then
(some (.inl (r50.2.1,())))
else
(some (.inr (.inl (d49.1,d49.2.1,d49.2.2.1,(),d49.2.2.2.2.1,d49.2.2.2.2.2.1,d49.2.2.2.2.2.2.1,d49.2.2.2.2.2.2.2.1,r50.2.1,())))))
else
(some (.inr (.inl (d49.1,d49.2.1,d49.2.2.1,(),d49.2.2.2.2.1,d49.2.2.2.2.2.1,d49.2.2.2.2.2.2.1,d49.2.2.2.2.2.2.2.1,d49.2.2.2.2.2.2.2.2.2.1,()))))) nof):Option ((qT1 × Unit) ⊕ ((Int × Int × Int × Unit × Bool × Bool × Int × Int × qT1 × Unit) ⊕ Empty))).bind (Sum.elim (fun d60 =>
some (.inr (.inl (d60.1,())))) (Sum.elim (fun d51 =>
(bif (decide ((0:Int)<d51.1)) then
((idx d51.2.2.2.2.2.2.2.2.1 (IntKind.i64.wrap (d51.1-(1:Int)))).bind fun v52 =>
(idx d51.2.2.2.2.2.2.2.2.1 d51.2.2.2.2.2.2.2.1).bind fun v53 =>
(qe6 n v52 v53).bind fun r54 =>
some (.inl (d51.1,d51.2.1,d51.2.2.1,(),d51.2.2.2.2.1,d51.2.2.2.2.2.1,d51.2.2.2.2.2.2.1,d51.2.2.2.2.2.2.2.1,(!(decide (r54.1<(0:Int)))),d51.2.2.2.2.2.2.2.2.1,())))
else
(some (.inl (d51.1,d51.2.1,d51.2.2.1,(),d51.2.2.2.2.1,d51.2.2.2.2.2.1,d51.2.2.2.2.2.2.1,d51.2.2.2.2.2.2.2.1,false,d51.2.2.2.2.2.2.2.2.1,()))):Option ((Int × Int × Int × Unit × Bool × Bool × Int × Int × Bool × qT1 × Unit) ⊕ Empty)).bind (Sum.elim (fun d55 =>
bif d55.2.2.2.2.2.2.2.2.1 then
((qgb n d55.1 d55.2.1 d55.2.2.2.2.2.2.2.1 d55.2.2.2.2.2.2.2.2.2.1).bind fun r56 =>
some (.inl (r56.1.1,d55.2.1,d55.2.2.1,(),d55.2.2.2.2.1,d55.2.2.2.2.2.1,r56.2.1,())))
else
((qgm n d55.1 d55.2.1 d55.2.2.2.2.2.2.2.1 d55.2.2.2.2.2.2.2.2.2.1).bind fun r57 =>
bif decide ((8:Int)=0) then none else
bif (decide ((IntKind.i64.wrap (r57.1.1-d55.1))<(IntKind.i64.wrap (d55.2.1-r57.1.1)))) then
((self_slices_pdqsortCmpFunc_api_Perm__group_sorted_1 d55.1 r57.1.1 d55.2.2.1 r57.2.1).bind fun r58 =>
some (.inl ((IntKind.i64.wrap (r57.1.1+(1:Int))),d55.2.1,d55.2.2.1,(),(decide ((IntKind.i64.wrap (Int.tdiv d55.2.2.2.2.2.2.1 (8:Int)))≤(IntKind.i64.wrap (r57.1.1-d55.1)))),r57.1.2.1,r58.2.1,())))
else
((self_slices_pdqsortCmpFunc_api_Perm__group_sorted_1 (IntKind.i64.wrap (r57.1.1+(1:Int))) d55.2.1 d55.2.2.1 r57.2.1).bind fun r59 =>
some (.inl (d55.1,r57.1.1,d55.2.2.1,(),(decide ((IntKind.i64.wrap (Int.tdiv d55.2.2.2.2.2.2.1 (8:Int)))≤(IntKind.i64.wrap (d55.2.1-r57.1.1)))),r57.1.2.1,r59.2.1,()))))) nof)) nof))) nof)) nof)))
noncomputable def qgo (self_slices_pdqsortCmpFunc_api_Perm__group_sorted_1:Int→Int→Int→qT1→Option qT27) (n:Nat) (d:qT65):Option (qT65 ⊕ qT11):=qgn self_slices_pdqsortCmpFunc_api_Perm__group_sorted_1 n d.1 d.2.1 d.2.2.1 d.2.2.2.1 d.2.2.2.2.1 d.2.2.2.2.2.1 d.2.2.2.2.2.2.1
noncomputable def qgp (self_slices_pdqsortCmpFunc_api_Perm__group_sorted_1:Int→Int→Int→qT1→Option qT27) (n:Nat) (a1:Int) (b2:Int) (limit3:Int) (datao0:qT1):Option qT27 :=
(iterN (qgo self_slices_pdqsortCmpFunc_api_Perm__group_sorted_1 n) n (a1,b2,limit3,(),true,true,datao0,())).bind (Sum.elim (fun d61 =>
some ((),(d61.1,()))) nof)
noncomputable def qgq:Nat→Int→Int→Int→qT1→Option qT27
  | 0=>fun _ _ _ _=>none
  | n+1=>qgp (qgq n) n
noncomputable def qgr (n:Nat) (xo0:qT1):Option qT27 :=
(qe0 n (IntKind.u64.wrap (xo0.length:Int))).bind fun r1 =>
(qgq n (0:Int) (xo0.length:Int) r1.1 xo0).bind fun r2 =>
some ((),(r2.2.1,()))
noncomputable def qgs (n:Nat) (lo0:qT1):Option (qT1 × Unit) :=
(qgr n lo0).bind fun r2 =>
some (r2.2.1,())
noncomputable def qgt (n:Nat) (gens0:qT1):Option (qT1 × Unit) :=
(idx gens0 (0:Int)).bind fun v1 =>
(qey n (v1.length:Int) (gens0,())).bind fun r2 =>
(qgs n r2.1).bind fun r3 =>
some (r3.1,())
noncomputable def qgu (n:Nat) (nb:Bool) (s0:(List Int)):Option qT15 :=
bif nb then
(some (([]:(List Int)),()))
else
(chk (lenB ((([]:(List Int))).length+(s0).length)) (some ((([]:(List Int))++s0),())))
noncomputable def qgv (n:Nat) (s0:(List Int)):Option qT15:=qgu n false s0
noncomputable def qgw (n:Nat) (t6:qT1) (t7:Int) (t8:Int) (out3:qT1):Option (qT29 ⊕ qT11) :=
bif (decide (t8<t7)) then
((idx t6 t8).bind fun v6 =>
(qgv n v6).bind fun r7 =>
chk (lenB ((out3).length+([r7.1]).length)) (some (.inl (t6,t7,(IntKind.i64.wrap (t8+(1:Int))),(out3++[r7.1]),()))))
else
(some (.inr (.inl (out3,()))))
noncomputable def qgx (n:Nat) (d:qT29):Option (qT29 ⊕ qT11):=qgw n d.1 d.2.1 d.2.2.1 d.2.2.2.1
noncomputable def qgy (n:Nat) (l0:qT1):Option (qT1 × Unit) :=
(iterN (qgx n) n (l0,(l0.length:Int),(0:Int),([]:qT1),())).bind (Sum.elim (fun d9 =>
some (d9.1,())) nof)
noncomputable def qgz (n:Nat) (gens0:qT1):Option (qT1 × (Int × Unit)) :=
(qea n gens0).bind fun r3 =>
bif (!r3.1) then
(some (([]:qT1),((1:Int),())))
else
((qgt n gens0).bind fun r4 =>
(qgy n r4.1).bind fun r5 =>
some (r5.1,((0:Int),())))
noncomputable def qg0 (n:Nat) (q1:(List Int)) (t11:(List Int)) (t12:Int) (t13:Int) (out5:(List Int)):Option (qT13 ⊕ (qT15 ⊕ Empty)) :=
bif (decide (t13<t12)) then
((idx t11 t13).bind fun v8 =>
(idx q1 v8).bind fun v9 =>
(idx out5 t13).bind fun v10 =>
some (.inl (q1,t11,t12,(IntKind.i64.wrap (t13+(1:Int))),(List.set out5 (t13).toNat v9),())))
else
(some (.inr (.inl (out5,()))))
noncomputable def qg1 (n:Nat) (d:qT13):Option (qT13 ⊕ (qT15 ⊕ Empty)):=qg0 n d.1 d.2.1 d.2.2.1 d.2.2.2.1 d.2.2.2.2.1
noncomputable def qg2 (n:Nat) (p0:(List Int)) (q1:(List Int)):Option qT15 :=
chk (decide (0≤(p0.length:Int))) (chk (decide ((p0.length:Int)≤(p0.length:Int))) (chk (lenB ((p0.length:Int)).toNat) ((iterN (qg1 n) n (q1,p0,(p0.length:Int),(0:Int),(List.replicate ((p0.length:Int)).toNat (0:Int)),())).bind (Sum.elim (fun d12 =>
some (d12.1,())) nof))))
noncomputable def qg3 (n:Nat) (a0:(List Int)) (b1:(List Int)):Option (Int × Unit) :=
(qe5 n a0 b1).bind fun r1 =>
some (r1.1,())
noncomputable def qg4 (n:Nat) (x0:qT1) (target1:(List Int)) (cmp2:Unit) (n8:Int) (i9:Int) (j10:Int):Option qT59 :=
bif (decide (i9<j10)) then
(bif decide ((1:Int)<0) then none else
(idx x0 (IntKind.i64.wrap (Int.fdiv (IntKind.u64.wrap (IntKind.i64.wrap (i9+j10))) (2 ^ (min ((1:Int)).toNat IntKind.u64.bits))))).bind fun v5 =>
(qg3 n v5 target1).bind fun r6 =>
bif (decide (r6.1<(0:Int))) then
(some (.inl (x0,target1,(),n8,(IntKind.i64.wrap ((IntKind.i64.wrap (Int.fdiv (IntKind.u64.wrap (IntKind.i64.wrap (i9+j10))) (2 ^ (min ((1:Int)).toNat IntKind.u64.bits))))+(1:Int))),j10,())))
else
(some (.inl (x0,target1,(),n8,i9,(IntKind.i64.wrap (Int.fdiv (IntKind.u64.wrap (IntKind.i64.wrap (i9+j10))) (2 ^ (min ((1:Int)).toNat IntKind.u64.bits)))),()))))
else
(some (.inr (.inl (x0,target1,(),n8,i9,()))))
noncomputable def qg5 (n:Nat) (d:(qT1 × (List Int) × Unit × Int × Int × Int × Unit)):Option qT59:=qg4 n d.1 d.2.1 d.2.2.1 d.2.2.2.1 d.2.2.2.2.1 d.2.2.2.2.2.1
noncomputable def qg6 (n:Nat) (x0:qT1) (target1:(List Int)):Option (Int × (Bool × Unit)) :=
(iterN (qg5 n) n (x0,target1,(),(x0.length:Int),(0:Int),(x0.length:Int),())).bind (Sum.elim (fun d8 =>
bif (decide (d8.2.2.2.2.1<d8.2.2.2.1)) then
((idx d8.1 d8.2.2.2.2.1).bind fun v9 =>
(qg3 n v9 d8.2.1).bind fun r10 =>
some (d8.2.2.2.2.1,((decide (r10.1=(0:Int))),())))
else
(some (d8.2.2.2.2.1,(false,())))) nof)
noncomputable def qg7 (n:Nat) (l0:qT1) (p1:(List Int)):Option (Int × (Bool × Unit)) :=
(qg6 n l0 p1).bind fun r1 =>
some (r1.1,(r1.2.1,()))
noncomputable def qg8 (n:Nat) (l5:qT1) (i8:Int) (p9:(List Int)) (t30:qT1) (t31:Int) (t32:Int) (t37:qT1) (t38:Int) (t39:Int) (m7:qT1):Option (qT36 ⊕ (qT40 ⊕ Empty)) :=
bif (decide (t39<t38)) then
((idx t37 t39).bind fun v18 =>
(qg2 n p9 v18).bind fun r19 =>
(qg7 n l5 r19.1).bind fun r20 =>
(idx m7 i8).bind fun v21 =>
chk (lenB ((v21).length+([r20.1]).length)) ((idx m7 i8).bind fun v22 =>
chk (sameP [.el ((i8).toNat)] [.el ((i8).toNat)]) (some (.inl (l5,i8,p9,t30,t31,t32,t37,t38,(IntKind.i64.wrap (t39+(1:Int))),(List.set m7 (i8).toNat (v21++[r20.1])),())))))
else
(some (.inr (.inl (l5,t30,t31,t32,m7,()))))
noncomputable def qg9 (n:Nat) (d:qT36):Option (qT36 ⊕ (qT40 ⊕ Empty)):=qg8 n d.1 d.2.1 d.2.2.1 d.2.2.2.1 d.2.2.2.2.1 d.2.2.2.2.2.1 d.2.2.2.2.2.2.1 d.2.2.2.2.2.2.2.1 d.2.2.2.2.2.2.2.2.1 d.2.2.2.2.2.2.2.2.2.1
noncomputable def qha (n:Nat) (l5:qT1) (t30:qT1) (t31:Int) (t32:Int) (m7:qT1):Option (qT40 ⊕ ((qT1 × qT1 × Unit) ⊕ Empty)) :=
bif (decide (t32<t31)) then
((idx t30 t32).bind fun v26 =>
(iterN (qg9 n) n (l5,t32,v26,t30,t31,t32,l5,(l5.length:Int),(0:Int),m7,())).bind (Sum.elim (fun d27 =>
some (.inl (d27.1,d27.2.1,d27.2.2.1,(IntKind.i64.wrap (d27.2.2.2.1+(1:Int))),d27.2.2.2.2.1,()))) nof))
else
(some (.inr (.inl (l5,m7,()))))
noncomputable def qhb (n:Nat) (d:qT40):Option (qT40 ⊕ ((qT1 × qT1 × Unit) ⊕ Empty)):=qha n d.1 d.2.1 d.2.2.1 d.2.2.2.1 d.2.2.2.2.1
noncomputable def qhc (n:Nat) (gens0:qT1):Option (qT1 × (qT1 × (Int × Unit))) :=
(qgz n gens0).bind fun r2 =>
bif (!decide (r2.2.1=(0:Int))) then
(some (([]:qT1),(([]:qT1),(r2.2.1,()))))
else
(bif (decide ((120:Int)<(r2.1.length:Int))) then
(some (([]:qT1),(([]:qT1),((5:Int),()))))
else
(chk (decide (0≤(r2.1.length:Int))) (chk (decide ((r2.1.length:Int)≤(r2.1.length:Int))) (chk (lenB ((r2.1.length:Int)).toNat) ((iterN (qhb n) n (r2.1,r2.1,(r2.1.length:Int),(0:Int),(List.replicate ((r2.1.length:Int)).toNat ([]:(List Int))),())).bind (Sum.elim (fun d29 =>
some (d29.2.1,(d29.1,((0:Int),())))) nof))))))
noncomputable def qhd (n:Nat) (p1:qT0) (q10:(List Int)) (key11:ByteArray) (t35:qT3) (t36:Int) (t37:Int) (t45:qT1) (t46:Int) (t47:Int) (t51:(List Int)) (t52:Int) (t53:Int) (t3:qT2) (gens5:qT1) (seen6:qT10):Option qT56 :=
bif (decide (t53<t52)) then
((idx t51 t53).bind fun v11 =>
chk (Nat.ble ((key11).size+((Utf8.encode (IntKind.i32.wrap (IntKind.i64.wrap ((48:Int)+v11))))).size) 1152921504606846976) (some (.inl (p1,q10,(key11++(Utf8.encode (IntKind.i32.wrap (IntKind.i64.wrap ((48:Int)+v11))))),t35,t36,t37,t45,t46,t47,t51,t52,(IntKind.i64.wrap (t53+(1:Int))),t3,gens5,seen6,()))))
else
(some (.inr (.inl (p1,q10,key11,t35,t36,t37,t45,t46,t47,t3,gens5,seen6,()))))
noncomputable def qhe (n:Nat) (d:qT19):Option qT56:=qhd n d.1 d.2.1 d.2.2.1 d.2.2.2.1 d.2.2.2.2.1 d.2.2.2.2.2.1 d.2.2.2.2.2.2.1 d.2.2.2.2.2.2.2.1 d.2.2.2.2.2.2.2.2.1 d.2.2.2.2.2.2.2.2.2.1 d.2.2.2.2.2.2.2.2.2.2.1 d.2.2.2.2.2.2.2.2.2.2.2.1 d.2.2.2.2.2.2.2.2.2.2.2.2.1 d.2.2.2.2.2.2.2.2.2.2.2.2.2.1 d.2.2.2.2.2.2.2.2.2.2.2.2.2.2.1
noncomputable def qhf (n:Nat) (p1:qT0) (t35:qT3) (t36:Int) (t37:Int) (t45:qT1) (t46:Int) (t47:Int) (t3:qT2) (gens5:qT1) (seen6:qT10):Option (qT24 ⊕ (qT25 ⊕ Empty)) :=
bif (decide (t47<t46)) then
(((idx t45 t47).bind fun v20 =>
(iterN (qhe n) n (p1,v20,ByteArray.mk #[],t35,t36,t37,t45,t46,t47,v20,(v20.length:Int),(0:Int),t3,gens5,seen6,())).bind (Sum.elim (fun d21 =>
bif (!(((d21.2.2.2.2.2.2.2.2.2.2.2.1).bind fun l=>mget .str l d21.2.2.1).getD false)) then
((d21.2.2.2.2.2.2.2.2.2.2.2.1).bind fun l22 =>
chk (lenB ((d21.2.2.2.2.2.2.2.2.2.2.1).length+([d21.2.1]).length)) (some (.inl (d21.1,d21.2.2.2.1,d21.2.2.2.2.1,d21.2.2.2.2.2.1,d21.2.2.2.2.2.2.1,d21.2.2.2.2.2.2.2.1,d21.2.2.2.2.2.2.2.2.1,d21.2.2.2.2.2.2.2.2.2.1,(d21.2.2.2.2.2.2.2.2.2.2.1++[d21.2.1]),(some (mput .str l22 d21.2.2.1 true)),()))))
else
(some (.inl (d21.1,d21.2.2.2.1,d21.2.2.2.2.1,d21.2.2.2.2.2.1,d21.2.2.2.2.2.2.1,d21.2.2.2.2.2.2.2.1,d21.2.2.2.2.2.2.2.2.1,d21.2.2.2.2.2.2.2.2.2.1,d21.2.2.2.2.2.2.2.2.2.2.1,d21.2.2.2.2.2.2.2.2.2.2.2.1,())))) nof):Option (qT24 ⊕ Empty)).bind (Sum.elim (fun d23 =>
some (.inl (d23.1,d23.2.1,d23.2.2.1,d23.2.2.2.1,d23.2.2.2.2.1,d23.2.2.2.2.2.1,(IntKind.i64.wrap (d23.2.2.2.2.2.2.1+(1:Int))),d23.2.2.2.2.2.2.2.1,d23.2.2.2.2.2.2.2.2.1,d23.2.2.2.2.2.2.2.2.2.1,()))) nof))
else
(some (.inr (.inl (p1,t35,t36,t37,t3,gens5,seen6,()))))
noncomputable def qhg (n:Nat) (d:qT24):Option (qT24 ⊕ (qT25 ⊕ Empty)):=qhf n d.1 d.2.1 d.2.2.1 d.2.2.2.1 d.2.2.2.2.1 d.2.2.2.2.2.1 d.2.2.2.2.2.2.1 d.2.2.2.2.2.2.2.1 d.2.2.2.2.2.2.2.2.1 d.2.2.2.2.2.2.2.2.2.1
noncomputable def qhh (n:Nat) (m14:qT1) (l15:qT1) (t102:qT3) (t103:Int) (t104:Int) (t3:qT2) (out19:qT2):Option (qT69 ⊕ ((qT1 × qT2 × qT2 × Unit) ⊕ Empty)) :=
bif (decide (t104<t103)) then
((idx t102 t104).bind fun v44 =>
(qg7 n l15 v44.2.1).bind fun r45 =>
(qg7 n l15 v44.2.2.1).bind fun r46 =>
chk (lenB ((out19.2.1).length+([(v44.1,(r45.1,(r46.1,())))]).length)) (chk (sameP [.el (0),.f2,.f1] [.el (0),.f2,.f1]) (some (.inl (m14,l15,t102,t103,(IntKind.i64.wrap (t104+(1:Int))),t3,(out19.1,((out19.2.1++[(v44.1,(r45.1,(r46.1,())))]),out19.2.2)),())))))
else
(some (.inr (.inl (m14,t3,out19,()))))
noncomputable def qhi (n:Nat) (d:qT69):Option (qT69 ⊕ ((qT1 × qT2 × qT2 × Unit) ⊕ Empty)):=qhh n d.1 d.2.1 d.2.2.1 d.2.2.2.1 d.2.2.2.2.1 d.2.2.2.2.2.1 d.2.2.2.2.2.2.1
noncomputable def qhj (n:Nat) (p1:qT0) (t35:qT3) (t36:Int) (t37:Int) (t3:qT2) (gens5:qT1) (seen6:qT10):Option (qT25 ⊕ ((qT0 × qT2 × qT1 × Unit) ⊕ Empty)) :=
bif (decide (t37<t36)) then
((idx t35 t37).bind fun v27 =>
(iterN (qhg n) n (p1,t35,t36,t37,[v27.2.1,v27.2.2.1],(([v27.2.1,v27.2.2.1]).length:Int),(0:Int),t3,gens5,seen6,())).bind (Sum.elim (fun d28 =>
some (.inl (d28.1,d28.2.1,d28.2.2.1,(IntKind.i64.wrap (d28.2.2.2.1+(1:Int))),d28.2.2.2.2.1,d28.2.2.2.2.2.1,d28.2.2.2.2.2.2.1,()))) nof))
else
(some (.inr (.inl (p1,t3,gens5,()))))
noncomputable def qhk (n:Nat) (d:qT25):Option (qT25 ⊕ ((qT0 × qT2 × qT1 × Unit) ⊕ Empty)):=qhj n d.1 d.2.1 d.2.2.1 d.2.2.2.1 d.2.2.2.2.1 d.2.2.2.2.2.1 d.2.2.2.2.2.2.1
noncomputable def qhl (n:Nat) (p0:qT0):Option (qT1 × (qT2 × (Int × Unit))) :=
(qd4 n p0).bind fun r3 =>
bif (!r3.1) then
(some (([]:qT1),(((0:Int),(([]:qT9),(([]:(List Int)),()))),((1:Int),()))))
else
((iterN (qhk n) n (p0,p0.2.2.1,(p0.2.2.1.length:Int),(0:Int),((0:Int),(([]:qT9),(([]:(List Int)),()))),[p0.2.2.2.1],(some []:qT10),())).bind (Sum.elim (fun d30 =>
bif (decide ((121:Int)<(d30.2.2.1.length:Int))) then
(some (([]:qT1),(((0:Int),(([]:qT9),(([]:(List Int)),()))),((5:Int),()))))
else
((qhc n d30.2.2.1).bind fun r32 =>
bif (!decide (r32.2.2.1=(0:Int))) then
(some (([]:qT1),(((0:Int),(([]:qT9),(([]:(List Int)),()))),((5:Int),()))))
else
((qg7 n r32.2.1 d30.1.2.2.2.1).bind fun r34 =>
(iterN (qhi n) n (r32.1,r32.2.1,d30.1.2.2.1,(d30.1.2.2.1.length:Int),(0:Int),d30.2.1,(d30.1.2.1,(([]:qT9),([r34.1],()))),())).bind (Sum.elim (fun d48 =>
some (d48.1,(d48.2.2.1,((0:Int),())))) nof)))) nof))
noncomputable def qhm (n:Nat) (p0:qT2):Option (Bool × Unit) :=
bif (decide (p0.1=(0:Int))) then
(bif (decide ((p0.2.1.length:Int)=(0:Int))) then
(some ((decide ((p0.2.2.1.length:Int)=(0:Int))),()))
else
(some (false,())))
else
(some (false,()))
noncomputable def qhn (n:Nat) (l0:qT1) (i4:Int) (k6:Int) (p7:(List Int)) (at8:Int) (m3:qT1) (row5:(List Int)):Option qT45 :=
(idx l0 at8).bind fun v13 =>
(qcr n v13 p7).bind fun r14 =>
bif (!r14.1) then
(some (.inl (l0,i4,k6,p7,(IntKind.i64.wrap (at8+(1:Int))),m3,row5,())))
else
(some (.inr (.inl (l0,i4,k6,at8,m3,row5,()))))
noncomputable def qho (n:Nat) (d:(qT1 × Int × Int × (List Int) × Int × qT1 × (List Int) × Unit)):Option qT45:=qhn n d.1 d.2.1 d.2.2.1 d.2.2.2.1 d.2.2.2.2.1 d.2.2.2.2.2.1 d.2.2.2.2.2.2.1
noncomputable def qhp (n:Nat) (l0:qT1) (i4:Int) (k6:Int) (m3:qT1) (row5:(List Int)):Option (qT32 ⊕ ((qT1 × Int × qT1 × (List Int) × Unit) ⊕ Empty)) :=
bif (decide (k6<(l0.length:Int))) then
((idx l0 i4).bind fun v21 =>
(idx l0 k6).bind fun v22 =>
(qda n v21 v22).bind fun r23 =>
(iterN (qho n) n (l0,i4,k6,r23.1,(0:Int),m3,row5,())).bind (Sum.elim (fun d24 =>
chk (lenB ((d24.2.2.2.2.2.1).length+([d24.2.2.2.1]).length)) (some (.inl (d24.1,d24.2.1,(IntKind.i64.wrap (d24.2.2.1+(1:Int))),d24.2.2.2.2.1,(d24.2.2.2.2.2.1++[d24.2.2.2.1]),())))) nof))
else
(some (.inr (.inl (l0,i4,m3,row5,()))))
noncomputable def qhq (n:Nat) (d:qT32):Option (qT32 ⊕ ((qT1 × Int × qT1 × (List Int) × Unit) ⊕ Empty)):=qhp n d.1 d.2.1 d.2.2.1 d.2.2.2.1 d.2.2.2.2.1
noncomputable def qhr (n:Nat) (l0:qT1) (i4:Int) (m3:qT1):Option ((qT1 × Int × qT1 × Unit) ⊕ qT11) :=
bif (decide (i4<(l0.length:Int))) then
((iterN (qhq n) n (l0,i4,(0:Int),m3,([]:(List Int)),())).bind (Sum.elim (fun d28 =>
chk (lenB ((d28.2.2.1).length+([d28.2.2.2.1]).length)) (some (.inl (d28.1,(IntKind.i64.wrap (d28.2.1+(1:Int))),(d28.2.2.1++[d28.2.2.2.1]),())))) nof))
else
(some (.inr (.inl (m3,()))))
noncomputable def qhs (n:Nat) (d:(qT1 × Int × qT1 × Unit)):Option ((qT1 × Int × qT1 × Unit) ⊕ qT11):=qhr n d.1 d.2.1 d.2.2.1
noncomputable def qht (n:Nat) (l0:qT1):Option (qT1 × Unit) :=
(iterN (qhs n) n (l0,(0:Int),([]:qT1),())).bind (Sum.elim (fun d30 =>
some (d30.1,())) nof)
noncomputable def qhu (n:Nat) (a0:qT1) (b1:qT1) (i5:Int) (k6:Int):Option ((qT1 × qT1 × Int × Int × Unit) ⊕ ((Bool × Unit) ⊕ (qT35 ⊕ Empty))) :=
(idx a0 i5).bind fun v22 =>
bif (decide (k6<(v22.length:Int))) then
((idx a0 i5).bind fun v23 =>
(idx v23 k6).bind fun v24 =>
(idx b1 i5).bind fun v25 =>
(idx v25 k6).bind fun v26 =>
bif (!decide (v24=v26)) then
(some (.inr (.inl (false,()))))
else
(some (.inl (a0,b1,i5,(IntKind.i64.wrap (k6+(1:Int))),()))))
else
(some (.inr (.inr (.inl (a0,b1,i5,())))))
noncomputable def qhv (n:Nat) (d:(qT1 × qT1 × Int × Int × Unit)):Option ((qT1 × qT1 × Int × Int × Unit) ⊕ ((Bool × Unit) ⊕ (qT35 ⊕ Empty))):=qhu n d.1 d.2.1 d.2.2.1 d.2.2.2.1
noncomputable def qhw (n:Nat) (a0:qT1) (b1:qT1) (i5:Int):Option (qT35 ⊕ qT6) :=
bif (decide (i5<(a0.length:Int))) then
((idx a0 i5).bind fun v33 =>
(idx b1 i5).bind fun v34 =>
bif (!decide ((v33.length:Int)=(v34.length:Int))) then
(some (.inr (.inl (false,()))))
else
((iterN (qhv n) n (a0,b1,i5,(0:Int),())).bind (Sum.elim (fun d36 =>
some (.inr (.inl (d36.1,())))) (Sum.elim (fun d35 =>
some (.inl (d35.1,d35.2.1,(IntKind.i64.wrap (d35.2.2.1+(1:Int))),()))) nof))))
else
(some (.inr (.inr (.inl (())))))
noncomputable def qhx (n:Nat) (d:qT35):Option (qT35 ⊕ qT6):=qhw n d.1 d.2.1 d.2.2.1
noncomputable def qhy (n:Nat) (a0:qT1) (b1:qT1):Option (Bool × Unit) :=
bif (!decide ((a0.length:Int)=(b1.length:Int))) then
(some (false,()))
else
((iterN (qhx n) n (a0,b1,(0:Int),())).bind (Sum.elim (fun d40 =>
some (d40.1,())) (Sum.elim (fun d39 =>
some (true,())) nof)))
noncomputable def qhz (n:Nat) (p3:qT2) (e5:Int) (i8:Int):Option (qT64 ⊕ qT6) :=
bif (decide (i8<(p3.2.2.1.length:Int))) then
(((idx p3.2.2.1 i8).bind fun v27 =>
bif (decide (v27<(0:Int))) then
(some (.inl (p3,e5,i8,true,())))
else
((idx p3.2.2.1 i8).bind fun v28 =>
bif (decide (e5≤v28)) then
(some (.inl (p3,e5,i8,true,())))
else
(bif (decide ((0:Int)<i8)) then
((idx p3.2.2.1 i8).bind fun v29 =>
(idx p3.2.2.1 (IntKind.i64.wrap (i8-(1:Int)))).bind fun v30 =>
some (.inl (p3,e5,i8,(decide (v29≤v30)),())))
else
(some (.inl (p3,e5,i8,false,()))))):Option ((qT2 × Int × Int × Bool × Unit) ⊕ Empty)).bind (Sum.elim (fun d31 =>
bif d31.2.2.2.1 then
(some (.inr (.inl (false,()))))
else
(some (.inl (d31.1,d31.2.1,(IntKind.i64.wrap (d31.2.2.1+(1:Int))),())))) nof))
else
(some (.inr (.inr (.inl (())))))
noncomputable def qh0 (n:Nat) (d:qT64):Option (qT64 ⊕ qT6):=qhz n d.1 d.2.1 d.2.2.1
noncomputable def qh1 (n:Nat) (p3:qT2) (e5:Int) (i6:Int):Option (qT64 ⊕ ((Bool × Unit) ⊕ ((qT2 × Int × Unit) ⊕ Empty))) :=
bif (decide (i6<(p3.2.1.length:Int))) then
((idx p3.2.1 i6).bind fun v8 =>
(bif (decide (v8.1<(0:Int))) then
(some (.inl (p3,e5,i6,true,())))
else
(bif (decide (p3.1≤v8.1)) then
(some (.inl (p3,e5,i6,true,())))
else
(bif (decide (v8.2.1<(0:Int))) then
(some (.inl (p3,e5,i6,true,())))
else
(bif (decide (e5≤v8.2.1)) then
(some (.inl (p3,e5,i6,true,())))
else
(bif (decide (v8.2.2.1<(0:Int))) then
(some (.inl (p3,e5,i6,true,())))
else
(some (.inl (p3,e5,i6,(decide (e5≤v8.2.2.1)),()))))))):Option ((qT2 × Int × Int × Bool × Unit) ⊕ Empty)).bind (Sum.elim (fun d9 =>
bif d9.2.2.2.1 then
(some (.inr (.inl (false,()))))
else
(some (.inl (d9.1,d9.2.1,(IntKind.i64.wrap (d9.2.2.1+(1:Int))),())))) nof))
else
(some (.inr (.inr (.inl (p3,e5,())))))
noncomputable def qh2 (n:Nat) (d:qT64):Option (qT64 ⊕ ((Bool × Unit) ⊕ ((qT2 × Int × Unit) ⊕ Empty))):=qh1 n d.1 d.2.1 d.2.2.1
noncomputable def qh3 (n:Nat) (m0:qT1) (p1:qT2):Option (Bool × Unit) :=
(bif (decide (p1.1<(0:Int))) then
(some (.inl (p1,(m0.length:Int),true,())))
else
(bif (decide ((16:Int)<p1.1)) then
(some (.inl (p1,(m0.length:Int),true,())))
else
(some (.inl (p1,(m0.length:Int),(decide ((200000:Int)<(p1.2.1.length:Int))),())))):Option ((qT2 × Int × Bool × Unit) ⊕ Empty)).bind (Sum.elim (fun d2 =>
bif d2.2.2.1 then
(some (false,()))
else
((iterN (qh2 n) n (d2.1,d2.2.1,(0:Int),())).bind (Sum.elim (fun d36 =>
some (d36.1,())) (Sum.elim (fun d12 =>
(iterN (qh0 n) n (d12.1,d12.2.1,(0:Int),())).bind (Sum.elim (fun d35 =>
some (d35.1,())) (Sum.elim (fun d34 =>
some (true,())) nof))) nof)))) nof)
noncomputable def qh4 (n:Nat) (i0:Int) (n1:Int) (k6:Int) (out5:(List Bool)):Option qT22 :=
bif (decide (k6<n1)) then
(bif decide (k6<0) then none else
(idx out5 k6).bind fun v3 =>
some (.inl (i0,n1,(IntKind.i64.wrap (k6+(1:Int))),(List.set out5 (k6).toNat (decide ((IntKind.i64.wrap ((BitVec.ofInt IntKind.i64.bits (Int.fdiv i0 (2 ^ (min (k6).toNat IntKind.i64.bits))) &&& BitVec.ofInt IntKind.i64.bits (1:Int)).toNat))=(1:Int)))),())))
else
(some (.inr (.inl (out5,()))))
noncomputable def qh5 (n:Nat) (d:(Int × Int × Int × (List Bool) × Unit)):Option qT22:=qh4 n d.1 d.2.1 d.2.2.1 d.2.2.2.1
noncomputable def qh6 (n:Nat) (i0:Int) (n1:Int):Option ((List Bool) × Unit) :=
chk (decide (0≤n1)) (chk (decide (n1≤n1)) (chk (lenB (n1).toNat) ((iterN (qh5 n) n (i0,n1,(0:Int),(List.replicate (n1).toNat false),())).bind (Sum.elim (fun d5 =>
some (d5.1,())) nof))))
noncomputable def qh7 (n:Nat) (m0:qT1) (x2:(List Bool)) (p4:qT2) (out7:Int) (i8:Int):Option (qT46 ⊕ qT41) :=
bif (decide (i8<(p4.2.1.length:Int))) then
(((idx p4.2.1 i8).bind fun v20 =>
(idx x2 v20.1).bind fun v21 =>
bif v21 then
((idx m0 out7).bind fun v22 =>
(idx p4.2.1 i8).bind fun v23 =>
(idx v22 v23.2.2.1).bind fun v24 =>
some (.inl (m0,x2,p4,v24,i8,())))
else
((idx m0 out7).bind fun v25 =>
(idx p4.2.1 i8).bind fun v26 =>
(idx v25 v26.2.1).bind fun v27 =>
some (.inl (m0,x2,p4,v27,i8,()))):Option (qT46 ⊕ Empty)).bind (Sum.elim (fun d28 =>
some (.inl (d28.1,d28.2.1,d28.2.2.1,d28.2.2.2.1,(IntKind.i64.wrap (d28.2.2.2.2.1+(1:Int))),()))) nof))
else
(some (.inr (.inl (out7,()))))
noncomputable def qh8 (n:Nat) (d:qT46):Option (qT46 ⊕ qT41):=qh7 n d.1 d.2.1 d.2.2.1 d.2.2.2.1 d.2.2.2.2.1
noncomputable def qh9 (n:Nat) (m0:qT1) (p1:qT2) (x2:(List Bool)):Option (Int × Unit) :=
(iterN (qh8 n) n (m0,x2,p1,(0:Int),(0:Int),())).bind (Sum.elim (fun d30 =>
some (d30.1,())) nof)
noncomputable def qia (n:Nat) (l0:(List Int)) (n1:Int) (i5:Int):Option (qT20 ⊕ qT6) :=
bif (decide (i5<(l0.length:Int))) then
((idx l0 i5).bind fun v4 =>
bif (decide (v4=n1)) then
(some (.inr (.inl (true,()))))
else
(some (.inl (l0,n1,(IntKind.i64.wrap (i5+(1:Int))),()))))
else
(some (.inr (.inr (.inl (())))))
noncomputable def qib (n:Nat) (d:qT20):Option (qT20 ⊕ qT6):=qia n d.1 d.2.1 d.2.2.1
noncomputable def qic (n:Nat) (l0:(List Int)) (n1:Int):Option (Bool × Unit) :=
(iterN (qib n) n (l0,n1,(0:Int),())).bind (Sum.elim (fun d8 =>
some (d8.1,())) (Sum.elim (fun d7 =>
some (false,())) nof))
noncomputable def qid (n:Nat) (m0:qT1) (p1:qT2) (x2:(List Bool)):Option (Bool × Unit) :=
(qh9 n m0 p1 x2).bind fun r1 =>
(qic n p1.2.2.1 r1.1).bind fun r2 =>
some (r2.1,())
noncomputable def qie (n:Nat) (n0:Int) (i4:Int) (p3:(List Int)):Option qT12 :=
bif (decide (i4<n0)) then
((idx p3 i4).bind fun v3 =>
some (.inl (n0,(IntKind.i64.wrap (i4+(1:Int))),(List.set p3 (i4).toNat i4),())))
else
(some (.inr (.inl (p3,()))))
noncomputable def qif (n:Nat) (d:qT77):Option qT12:=qie n d.1 d.2.1 d.2.2.1
noncomputable def qig (n:Nat) (n0:Int):Option qT15 :=
chk (decide (0≤n0)) (chk (decide (n0≤n0)) (chk (lenB (n0).toNat) ((iterN (qif n) n (n0,(0:Int),(List.replicate (n0).toNat (0:Int)),())).bind (Sum.elim (fun d5 =>
some (d5.1,())) nof))))
noncomputable def qih (n:Nat) (x1:(List Bool)) (p2:qT0) (i6:Int) (q7:(List Int)) (k8:Int) (out5:(List Int)):Option (qT50 ⊕ (qT30 ⊕ Empty)) :=
bif (decide (k8<p2.1)) then
((idx out5 k8).bind fun v20 =>
(idx q7 v20).bind fun v21 =>
(idx out5 k8).bind fun v22 =>
some (.inl (x1,p2,i6,q7,(IntKind.i64.wrap (k8+(1:Int))),(List.set out5 (k8).toNat v21),())))
else
(some (.inr (.inl (x1,p2,i6,out5,()))))
noncomputable def qii (n:Nat) (d:qT50):Option (qT50 ⊕ (qT30 ⊕ Empty)):=qih n d.1 d.2.1 d.2.2.1 d.2.2.2.1 d.2.2.2.2.1 d.2.2.2.2.2.1
noncomputable def qij (n:Nat) (x1:(List Bool)) (p2:qT0) (i6:Int) (out5:(List Int)):Option (qT30 ⊕ (qT15 ⊕ Empty)) :=
bif (decide (i6<(p2.2.2.1.length:Int))) then
((idx p2.2.2.1 i6).bind fun v30 =>
((idx p2.2.2.1 i6).bind fun v31 =>
(idx x1 v31.1).bind fun v32 =>
bif v32 then
((idx p2.2.2.1 i6).bind fun v33 =>
some (.inl (x1,p2,i6,v33.2.2.1,out5,())))
else
(some (.inl (x1,p2,i6,v30.2.1,out5,()))):Option (((List Bool) × qT0 × Int × (List Int) × (List Int) × Unit) ⊕ Empty)).bind (Sum.elim (fun d34 =>
(iterN (qii n) n (d34.1,d34.2.1,d34.2.2.1,d34.2.2.2.1,(0:Int),d34.2.2.2.2.1,())).bind (Sum.elim (fun d35 =>
some (.inl (d35.1,d35.2.1,(IntKind.i64.wrap (d35.2.2.1+(1:Int))),d35.2.2.2.1,()))) nof)) nof))
else
(some (.inr (.inl (out5,()))))
noncomputable def qik (n:Nat) (d:qT30):Option (qT30 ⊕ (qT15 ⊕ Empty)):=qij n d.1 d.2.1 d.2.2.1 d.2.2.2.1
noncomputable def qil (n:Nat) (p0:qT0) (x1:(List Bool)):Option qT15 :=
(qig n p0.1).bind fun r2 =>
(iterN (qik n) n (x1,p0,(0:Int),r2.1,())).bind (Sum.elim (fun d37 =>
some (d37.1,())) nof)
noncomputable def qim (n:Nat) (p0:qT0) (x1:(List Bool)):Option (Int × Unit) :=
(qil n p0 x1).bind fun r2 =>
(qcr n r2.1 p0.2.2.2.1).bind fun r9 =>
bif r9.1 then
(some ((1:Int),()))
else
((qco n p0.1).bind fun r10 =>
(qcr n r2.1 r10.1).bind fun r11 =>
bif r11.1 then
(some ((0:Int),()))
else
(some ((-1:Int),())))
noncomputable def qin (n:Nat) (at1:(List Int)) (p2:qT0) (m9:qT1) (many13:Int) (all14:Bool) (i15:Int) (q10:qT2):Option (qT61 ⊕ qT6) :=
bif (decide (i15<many13)) then
((bif (!all14) then
((idx at1 i15).bind fun v148 =>
some (.inl (at1,p2,m9,many13,all14,i15,v148,q10,())))
else
(some (.inl (at1,p2,m9,many13,all14,i15,i15,q10,()))):Option (((List Int) × qT0 × qT1 × Int × Bool × Int × Int × qT2 × Unit) ⊕ Empty)).bind (Sum.elim (fun d149 =>
(qh6 n d149.2.2.2.2.2.2.1 d149.2.1.2.1).bind fun r150 =>
(qid n d149.2.2.1 d149.2.2.2.2.2.2.2.1 r150.1).bind fun r151 =>
(qim n d149.2.1 r150.1).bind fun r152 =>
bif (!(r151.1 == (decide (r152.1=(1:Int))))) then
(some (.inr (.inl (false,()))))
else
(some (.inl (d149.1,d149.2.1,d149.2.2.1,d149.2.2.2.1,d149.2.2.2.2.1,(IntKind.i64.wrap (d149.2.2.2.2.2.1+(1:Int))),d149.2.2.2.2.2.2.2.1,())))) nof))
else
(some (.inr (.inr (.inl (())))))
noncomputable def qio (n:Nat) (d:qT61):Option (qT61 ⊕ qT6):=qin n d.1 d.2.1 d.2.2.1 d.2.2.2.1 d.2.2.2.2.1 d.2.2.2.2.2.1 d.2.2.2.2.2.2.1
noncomputable def qip (n:Nat) (at1:(List Int)) (p2:qT0) (due5:Int) (i8:Int) (gens7:qT1):Option (qT33 ⊕ ((Bool × Unit) ⊕ (((List Int) × qT0 × Int × qT1 × Unit) ⊕ Empty))) :=
bif (decide (i8<(p2.2.2.1.length:Int))) then
(((idx p2.2.2.1 i8).bind fun v38 =>
(qcx n gens7 v38.2.1).bind fun r39 =>
bif (!r39.1) then
((idx p2.2.2.1 i8).bind fun v40 =>
chk (lenB ((gens7).length+([v40.2.1]).length)) (some (.inl (at1,p2,due5,i8,(gens7++[v40.2.1]),()))))
else
(some (.inl (at1,p2,due5,i8,gens7,()))):Option (qT33 ⊕ Empty)).bind (Sum.elim (fun d41 =>
((idx d41.2.1.2.2.1 d41.2.2.2.1).bind fun v42 =>
(qcx n d41.2.2.2.2.1 v42.2.2.1).bind fun r43 =>
bif (!r43.1) then
((idx d41.2.1.2.2.1 d41.2.2.2.1).bind fun v44 =>
chk (lenB ((d41.2.2.2.2.1).length+([v44.2.2.1]).length)) (some (.inl (d41.1,d41.2.1,d41.2.2.1,d41.2.2.2.1,(d41.2.2.2.2.1++[v44.2.2.1]),()))))
else
(some (.inl (d41.1,d41.2.1,d41.2.2.1,d41.2.2.2.1,d41.2.2.2.2.1,()))):Option (qT33 ⊕ Empty)).bind (Sum.elim (fun d45 =>
bif (decide ((200:Int)<(d45.2.2.2.2.1.length:Int))) then
((qcf n).bind fun r46 =>
some (.inr (.inl (r46.1,()))))
else
(some (.inl (d45.1,d45.2.1,d45.2.2.1,(IntKind.i64.wrap (d45.2.2.2.1+(1:Int))),d45.2.2.2.2.1,())))) nof)) nof))
else
(some (.inr (.inr (.inl (at1,p2,due5,gens7,())))))
noncomputable def qiq (n:Nat) (d:qT33):Option (qT33 ⊕ ((Bool × Unit) ⊕ (((List Int) × qT0 × Int × qT1 × Unit) ⊕ Empty))):=qip n d.1 d.2.1 d.2.2.1 d.2.2.2.1 d.2.2.2.2.1
noncomputable def qir (n:Nat) (at1:(List Int)) (p2:qT0) (l6:qT1) (m9:qT1) (i12:Int) (q10:qT2):Option qT51 :=
bif (decide (i12<(p2.2.2.1.length:Int))) then
(((idx q10.2.1 i12).bind fun v119 =>
(idx p2.2.2.1 i12).bind fun v120 =>
bif (!decide (v119.1=v120.1)) then
(some (.inl (at1,p2,l6,m9,i12,true,q10,())))
else
((idx q10.2.1 i12).bind fun v121 =>
(idx l6 v121.2.1).bind fun v122 =>
(idx p2.2.2.1 i12).bind fun v123 =>
(qcr n v122 v123.2.1).bind fun r124 =>
bif (!r124.1) then
(some (.inl (at1,p2,l6,m9,i12,true,q10,())))
else
((idx q10.2.1 i12).bind fun v125 =>
(idx l6 v125.2.2.1).bind fun v126 =>
(idx p2.2.2.1 i12).bind fun v127 =>
(qcr n v126 v127.2.2.1).bind fun r128 =>
some (.inl (at1,p2,l6,m9,i12,(!r128.1),q10,())))):Option (((List Int) × qT0 × qT1 × qT1 × Int × Bool × qT2 × Unit) ⊕ Empty)).bind (Sum.elim (fun d129 =>
bif d129.2.2.2.2.2.1 then
(some (.inr (.inl (false,()))))
else
(some (.inl (d129.1,d129.2.1,d129.2.2.1,d129.2.2.2.1,(IntKind.i64.wrap (d129.2.2.2.2.1+(1:Int))),d129.2.2.2.2.2.2.1,())))) nof))
else
(some (.inr (.inr (.inl (at1,p2,m9,q10,())))))
noncomputable def qis (n:Nat) (d:((List Int) × qT0 × qT1 × qT1 × Int × qT2 × Unit)):Option qT51:=qir n d.1 d.2.1 d.2.2.1 d.2.2.2.1 d.2.2.2.2.1 d.2.2.2.2.2.1
noncomputable def qit (n:Nat) (p0:qT0) (at1:(List Int)):Option (Bool × Unit) :=
((qac n p0).bind fun r5 =>
bif r5.1 then
(some (.inl (at1,p0,true,())))
else
(bif (decide ((3000:Int)<(p0.2.2.1.length:Int))) then
(some (.inl (at1,p0,true,())))
else
(some (.inl (at1,p0,(decide ((100:Int)<(at1.length:Int))),())))):Option (((List Int) × qT0 × Bool × Unit) ⊕ Empty)).bind (Sum.elim (fun d6 =>
bif d6.2.2.1 then
((qcf n).bind fun r7 =>
some (r7.1,()))
else
(((qcu n d6.2.1).bind fun r53 =>
bif (!r53.1) then
(some (.inl (d6.1,d6.2.1,(1:Int),([]:qT1),())))
else
((iterN (qiq n) n (d6.1,d6.2.1,(0:Int),(0:Int),[d6.2.1.2.2.2.1],())).bind (Sum.elim (fun d56 =>
some (.inr (.inl (d56.1,())))) (Sum.elim (fun d54 =>
(qdl n d54.2.2.2.1).bind fun r55 =>
bif (decide ((120:Int)<(r55.1.length:Int))) then
(some (.inl (d54.1,d54.2.1,(5:Int),r55.1,())))
else
(some (.inl (d54.1,d54.2.1,d54.2.2.1,r55.1,())))) nof))):Option (((List Int) × qT0 × Int × qT1 × Unit) ⊕ ((Bool × Unit) ⊕ Empty))).bind (Sum.elim (fun d58 =>
(qdo n d58.2.1).bind fun r61 =>
(qhl n r61.1).bind fun r62 =>
bif (!decide (d58.2.2.1=(0:Int))) then
(bif (decide (r62.2.2.1=d58.2.2.1)) then
(bif (decide ((r62.1.length:Int)=(0:Int))) then
((qhm n r62.2.1).bind fun r65 =>
bif r65.1 then
((qcf n).bind fun r66 =>
some (r66.1,()))
else
(some (false,())))
else
(some (false,())))
else
(some (false,())))
else
((bif (!decide (r62.2.2.1=(0:Int))) then
(some (.inl (d58.1,d58.2.1,d58.2.2.2.1,r62.1,true,r62.2.1,())))
else
((qht n d58.2.2.2.1).bind fun r80 =>
(qhy n r62.1 r80.1).bind fun r81 =>
bif (!r81.1) then
(some (.inl (d58.1,d58.2.1,d58.2.2.2.1,r62.1,true,r62.2.1,())))
else
((qh3 n r62.1 r62.2.1).bind fun r82 =>
bif (!r82.1) then
(some (.inl (d58.1,d58.2.1,d58.2.2.2.1,r62.1,true,r62.2.1,())))
else
(bif (!decide (r62.2.1.1=d58.2.1.2.1)) then
(some (.inl (d58.1,d58.2.1,d58.2.2.2.1,r62.1,true,r62.2.1,())))
else
(bif (!decide ((r62.2.1.2.1.length:Int)=(d58.2.1.2.2.1.length:Int))) then
(some (.inl (d58.1,d58.2.1,d58.2.2.2.1,r62.1,true,r62.2.1,())))
else
(bif (!decide ((r62.2.1.2.2.1.length:Int)=(1:Int))) then
(some (.inl (d58.1,d58.2.1,d58.2.2.2.1,r62.1,true,r62.2.1,())))
else
((idx r62.2.1.2.2.1 (0:Int)).bind fun v83 =>
(idx d58.2.2.2.1 v83).bind fun v84 =>
(qcr n v84 d58.2.1.2.2.2.1).bind fun r85 =>
some (.inl (d58.1,d58.2.1,d58.2.2.2.1,r62.1,(!r85.1),r62.2.1,())))))))):Option (((List Int) × qT0 × qT1 × qT1 × Bool × qT2 × Unit) ⊕ Empty)).bind (Sum.elim (fun d86 =>
bif d86.2.2.2.2.1 then
(some (false,()))
else
((iterN (qis n) n (d86.1,d86.2.1,d86.2.2.1,d86.2.2.2.1,(0:Int),d86.2.2.2.2.2.1,())).bind (Sum.elim (fun d158 =>
some (d158.1,())) (Sum.elim (fun d132 =>
bif decide (d132.2.1.2.1<0) then none else
(bif (decide ((IntKind.i64.wrap ((IntKind.i64.wrap ((1:Int)*2 ^ (min (d132.2.1.2.1).toNat IntKind.i64.bits)))*(IntKind.i64.wrap ((2:Int)+(IntKind.i64.wrap ((2:Int)*(d132.2.1.2.2.1.length:Int)))))))≤(300000:Int))) then
(bif decide (d132.2.1.2.1<0) then none else
some (.inl (d132.1,d132.2.1,d132.2.2.1,(IntKind.i64.wrap ((1:Int)*2 ^ (min (d132.2.1.2.1).toNat IntKind.i64.bits))),(decide ((IntKind.i64.wrap ((IntKind.i64.wrap ((1:Int)*2 ^ (min (d132.2.1.2.1).toNat IntKind.i64.bits)))*(IntKind.i64.wrap ((2:Int)+(IntKind.i64.wrap ((2:Int)*(d132.2.1.2.2.1.length:Int)))))))≤(300000:Int))),d132.2.2.2.1,())))
else
(some (.inl (d132.1,d132.2.1,d132.2.2.1,(if (8:Int)<(d132.1.length:Int) then (8:Int) else (d132.1.length:Int)),(decide ((IntKind.i64.wrap ((IntKind.i64.wrap ((1:Int)*2 ^ (min (d132.2.1.2.1).toNat IntKind.i64.bits)))*(IntKind.i64.wrap ((2:Int)+(IntKind.i64.wrap ((2:Int)*(d132.2.1.2.2.1.length:Int)))))))≤(300000:Int))),d132.2.2.2.1,()))):Option (((List Int) × qT0 × qT1 × Int × Bool × qT2 × Unit) ⊕ Empty)).bind (Sum.elim (fun d133 =>
(iterN (qio n) n (d133.1,d133.2.1,d133.2.2.1,d133.2.2.2.1,d133.2.2.2.2.1,(0:Int),d133.2.2.2.2.2.1,())).bind (Sum.elim (fun d157 =>
some (d157.1,())) (Sum.elim (fun d155 =>
(qcf n).bind fun r156 =>
some (r156.1,())) nof))) nof)) nof)))) nof))) (Sum.elim (fun d57 =>
some (d57.1,())) nof)))) nof)
end Go.Proofs.YtibphkgcdnconaaGreat.V
