import Derived.Test.YtmidcfjmchpcnaaGreatVc
namespace Go.Proofs.YtmidcfjmchpcnaaGreat.V
open Go
set_option linter.unusedVariables false
set_option linter.all false
abbrev qT0:Type:=((Int × (Int × Unit)) × (Int × (Int × ((List (List (Int × ((List Int) × Unit)))) × ((List (Rose ((Int × (Int × (Int × (Int × (Int × ((List (Bool × (Int × Unit))) × Unit)))))) × Unit))) × Unit)))))
abbrev qT1:Type:=(Rose ((Int × (Int × (Int × (Int × (Int × ((List (Bool × (Int × Unit))) × Unit)))))) × Unit))
abbrev qT2:Type:=(Int × (Int × Unit))
abbrev qT3:Type:=(List (Int × ((List Int) × Unit)))
abbrev qT4:Type:=(Int × (Int × (Int × (Int × (Int × ((List (Bool × (Int × Unit))) × ((List qT1) × Unit)))))))
abbrev qT5:Type:=((Int × (Int × qT2)) × ((List qT3) × ((List Int) × ((List Int) × Unit))))
abbrev qT6:Type:=(Option (qT2 × qT2))
abbrev qT7:Type:=((Bool × Unit) × ((qT0 × qT2) × Unit))
abbrev qT8:Type:=(Int × (Int × qT2))
abbrev qT9:Type:=(List (List Int))
abbrev qT10:Type:=((Int × Unit) ⊕ Empty)
abbrev qT11:Type:=(List (Bool × (Int × Unit)))
abbrev qT12:Type:=((Bool × Unit) ⊕ ((Unit) ⊕ Empty))
abbrev qT13:Type:=(qT6 × (qT0 × ((List (Option (List (ByteArray × Int)))) × qT2)))
abbrev qT14:Type:=(Unit × (Int × Unit))
abbrev qT15:Type:=(qT6 × Int × Int × qT9 × Int × Int × Int × Int × Int × Int × Int × (List Int) × (List Int) × Unit)
abbrev qT16:Type:=(qT6 × Int × Int × qT9 × Int × Int × Int × Int × Int × Int × Int × Int × Int × (List Int) × (List Int) × Unit)
abbrev qT17:Type:=(qT6 × (List Int) × qT0 × (List qT1) × Int × Int × (List Int) × Unit)
abbrev qT18:Type:=(qT6 × (List Int) × qT0 × (List qT1) × Int × Int × qT11 × Int × Int × (List Int) × qT4 × (List Int) × Unit)
abbrev qT19:Type:=((Int × Unit) × ((qT0 × qT2) × Unit))
abbrev qT20:Type:=((qT6 × Int × Int × qT9 × Int × Int × Int × Int × Int × (List Int) × (List Int) × Unit) ⊕ Empty)
abbrev qT21:Type:=((List qT1) × Unit)
abbrev qT22:Type:=((List Int) × Unit)
abbrev qT23:Type:=((qT0 × qT2) × (((qT0 × qT2) × Unit) × (qT4 × Unit)))
abbrev qT24:Type:=(qT6 × (List Int) × Int × Int × qT3 × Int × Int × (List Int) × Int × Int × Unit)
abbrev qT25:Type:=(Int × Int × Unit)
abbrev qT26:Type:=(Option ((Int × Unit) ⊕ qT2))
abbrev qT27:Type:=(qT6 × Int × Int × Int × Unit)
abbrev qT28:Type:=(Int × Int × qT8 × Int × Unit)
abbrev qT29:Type:=((Int × Unit) ⊕ ((Unit) ⊕ Empty))
abbrev qT30:Type:=(qT6 × Int × Int × qT9 × Int × Int × (List Int) × Unit)
abbrev qT31:Type:=(qT6 × qT0 × Int × Int × Int × qT9 × (List Int) × Unit)
abbrev qT32:Type:=(qT6 × Int × Int × qT9 × Int × Int × Int × Int × (List Int) × Unit)
abbrev qT33:Type:=(qT6 × Int × Int × qT9 × Int × Int × Int × Int × Int × Int × (List Int) × (List Int) × Unit)
abbrev qT34:Type:=(qT6 × (List Int) × qT0 × (List qT1) × Int × Int × Int × Int × (List Int) × qT4 × Unit)
abbrev qT35:Type:=(qT6 × qT0 × Int × Int × Int × Int × (List Int) × Int × Int × qT9 × (List Int) × Unit)
abbrev qT36:Type:=((List Int) × (List Int) × Int × Unit)
abbrev qT37:Type:=((Int × Int × Int × Int × Int × (List Int) × Int × Int × qT3 × (List Int) × Unit) ⊕ ((Int × Int × Int × (List Int) × Int × Int × qT3 × (List Int) × Unit) ⊕ Empty))
abbrev qT38:Type:=(qT3 × (List Int) × qT8 × Int × Int × Int × Int × Unit)
abbrev qT39:Type:=((List qT1) × Int × Int × qT5 × qT4 × (List Int) × Unit)
abbrev qT40:Type:=((qT6 × qT0 × Int × Int × Int × Int × Int × Int × qT9 × (List Int) × Unit) ⊕ ((qT6 × qT0 × Int × Int × Int × Int × qT9 × (List Int) × Unit) ⊕ Empty))
abbrev qT41:Type:=(qT0 × Int × Int × Unit)
abbrev qT42:Type:=(Int × Int × (List Int) × Int × Int × qT3 × Unit)
abbrev qT43:Type:=((List Int) × (List qT1) × qT0 × qT8 × Int × Unit)
abbrev qT44:Type:=(Unit × (qT5 × Unit))
abbrev qT45:Type:=((List qT1) × Int × qT5 × Unit)
abbrev qT46:Type:=(qT0 × Int × Int × Int × Int × Unit)
abbrev qT47:Type:=(((List qT3) × Int × Int × qT3 × Int × Int × qT0 × qT0 × qT3 × Unit) ⊕ (((List qT3) × Int × Int × qT0 × qT0 × qT3 × Unit) ⊕ Empty))
abbrev qT48:Type:=((List qT1) × Int × Int × Int × Int × Unit)
abbrev qT49:Type:=(qT0 × Int × Int × Int × Int × Int × Unit)
abbrev qT50:Type:=(((List Int) × (List Int) × (List Int) × Int × Int × Unit) ⊕ ((Int × Unit) ⊕ (((List Int) × (List Int) × Unit) ⊕ Empty)))
abbrev qT51:Type:=(((List qT1) × qT14 × Int × Int × (qT0 × qT2) × Unit) ⊕ ((Int × (qT0 × qT2) × Unit) ⊕ (((qT0 × qT2) × Unit) ⊕ Empty)))
abbrev qT52:Type:=(qT26 × Int × Int × Int × Unit)
abbrev qT53:Type:=(qT0 × Int × Int × Int × Unit)
abbrev qT54:Type:=(qT6 × Int × Int × qT9 × Unit)
abbrev qT55:Type:=(qT3 × qT8 × Int × Int × Unit)
abbrev qT56:Type:=(Int × Int × qT2 × Int × Unit)
abbrev qT57:Type:=((Bool × Unit) × (Int × Unit))
abbrev qT58:Type:=(qT18 ⊕ ((qT6 × (List Int) × qT0 × (List qT1) × Int × Int × (List Int) × qT4 × (List Int) × Unit) ⊕ Empty))
abbrev qT59:Type:=((qT0 × Int × Int × (List qT3) × Int × qT13 × Unit) ⊕ ((qT0 × (List qT3) × Int × qT13 × Unit) ⊕ Empty))
abbrev qT60:Type:=((List qT1) × Int × Int × Int × Unit)
abbrev qT61:Type:=((qT6 × Int × qT0 × Int × Int × Int × qT9 × Unit) ⊕ ((qT6 × Int × qT0 × Int × qT9 × Unit) ⊕ Empty))
abbrev qT62:Type:=((qT0 × Int × qT8 × (List Int) × Unit) ⊕ ((Bool × Unit) ⊕ ((qT0 × qT8 × (List Int) × Unit) ⊕ Empty)))
abbrev qT63:Type:=((qT0 × Int × Int × qT0 × qT0 × qT3 × Unit) ⊕ ((qT0 × Int × qT0 × qT0 × qT3 × Unit) ⊕ Empty))
abbrev qT64:Type:=(((List Int) × Int × qT8 × Int × Unit) ⊕ ((Bool × Unit) ⊕ (((List Int) × Int × Unit) ⊕ Empty)))
abbrev qT65:Type:=(qT6 × (List Int) × Int × qT3 × Int × Int × Unit)
abbrev qT66:Type:=(qT6 × Int × qT9 × Int × Int × (List qT3) × Unit)
abbrev qT67:Type:=((Int × Unit) ⊕ qT10)
abbrev qT68:Type:=((List Int) × (Int × Unit) × Int × Int × Unit)
abbrev qT69:Type:=((qT0 × (List qT3) × Int × Int × Unit) ⊕ ((Bool × Unit) ⊕ ((qT0 × Unit) ⊕ Empty)))
abbrev qT70:Type:=((List qT3) × Int × Int × (List Bool) × Unit)
noncomputable def qaa (self_law13_wide:(List qT1)→Int→Int→Option qT57) (n:Nat) (l0:(List qT1)) (levels1:Int) (i7:Int) (n2:Int):Option (qT60 ⊕ ((Bool × Int × Unit) ⊕ qT10)) :=
bif (decide (i7<(l0.length:Int))) then
((idx l0 i7).bind fun v14 =>
bif decide ((4:Int)=0) then none else
(bif (decide ((3000:Int)<(IntKind.i64.wrap (n2+(IntKind.i64.wrap (Int.tdiv (((Rose.val v14).1.2.2.2.2.2.1).length:Int) (4:Int))))))) then
(some (.inl (l0,levels1,i7,true,(IntKind.i64.wrap (n2+(IntKind.i64.wrap (Int.tdiv (((Rose.val v14).1.2.2.2.2.2.1).length:Int) (4:Int))))),())))
else
((idx l0 i7).bind fun v15 =>
(self_law13_wide (Rose.kids v15) (IntKind.i64.wrap (levels1+(1:Int))) (IntKind.i64.wrap (n2+(IntKind.i64.wrap (Int.tdiv (((Rose.val v14).1.2.2.2.2.2.1).length:Int) (4:Int)))))).bind fun r16 =>
some (.inl (l0,levels1,i7,r16.1.1,r16.2.1,()))):Option (((List qT1) × Int × Int × Bool × Int × Unit) ⊕ Empty)).bind (Sum.elim (fun d17 =>
bif d17.2.2.2.1 then
(some (.inr (.inl (true,d17.2.2.2.2.1,()))))
else
(some (.inl (d17.1,d17.2.1,(IntKind.i64.wrap (d17.2.2.1+(1:Int))),d17.2.2.2.2.1,())))) nof))
else
(some (.inr (.inr (.inl (n2,())))))
noncomputable def qab (self_law13_wide:(List qT1)→Int→Int→Option qT57) (n:Nat) (d:qT60):Option (qT60 ⊕ ((Bool × Int × Unit) ⊕ qT10)):=qaa self_law13_wide n d.1 d.2.1 d.2.2.1 d.2.2.2.1
noncomputable def qac (self_law13_wide:(List qT1)→Int→Int→Option qT57) (n:Nat) (l0:(List qT1)) (levels1:Int) (no0:Int):Option qT57 :=
(bif (decide ((3000:Int)<(IntKind.i64.wrap (no0+(l0.length:Int))))) then
(some (.inl (l0,levels1,true,(IntKind.i64.wrap (no0+(l0.length:Int))),())))
else
(some (.inl (l0,levels1,(decide ((70:Int)<levels1)),(IntKind.i64.wrap (no0+(l0.length:Int))),()))):Option (((List qT1) × Int × Bool × Int × Unit) ⊕ Empty)).bind (Sum.elim (fun d2 =>
bif d2.2.2.1 then
(some ((true,()),(d2.2.2.2.1,())))
else
((iterN (qab self_law13_wide n) n (d2.1,d2.2.1,(0:Int),d2.2.2.2.1,())).bind (Sum.elim (fun d21 =>
some ((d21.1,()),(d21.2.1,()))) (Sum.elim (fun d20 =>
some ((false,()),(d20.1,()))) nof)))) nof)
noncomputable def qad:Nat→(List qT1)→Int→Int→Option qT57
  | 0=>fun _ _ _=>none
  | n+1=>qac (qad n) n
noncomputable def qae (n:Nat) (p1:qT0) (i4:Int) (k5:Int) (n3:Int):Option (qT53 ⊕ (qT41 ⊕ Empty)) :=
((idx p1.2.2.2.1 i4).bind fun v15 =>
bif (decide (k5<(v15.length:Int))) then
(some (.inl (p1,i4,k5,(decide (n3≤(20000:Int))),n3,())))
else
(some (.inl (p1,i4,k5,false,n3,()))):Option ((qT0 × Int × Int × Bool × Int × Unit) ⊕ Empty)).bind (Sum.elim (fun d16 =>
bif d16.2.2.2.1 then
((idx d16.1.2.2.2.1 d16.2.1).bind fun v17 =>
(idx v17 d16.2.2.1).bind fun v18 =>
some (.inl (d16.1,d16.2.1,(IntKind.i64.wrap (d16.2.2.1+(1:Int))),(IntKind.i64.wrap (d16.2.2.2.2.1+(IntKind.i64.wrap ((1:Int)+(v18.2.1.length:Int))))),())))
else
(some (.inr (.inl (d16.1,d16.2.1,d16.2.2.2.2.1,()))))) nof)
noncomputable def qaf (n:Nat) (d:qT53):Option (qT53 ⊕ (qT41 ⊕ Empty)):=qae n d.1 d.2.1 d.2.2.1 d.2.2.2.1
noncomputable def qag (n:Nat) (p1:qT0) (i4:Int) (n3:Int):Option (qT41 ⊕ qT10) :=
bif (decide (i4<(p1.2.2.2.1.length:Int))) then
((iterN (qaf n) n (p1,i4,(0:Int),n3,())).bind (Sum.elim (fun d21 =>
some (.inl (d21.1,(IntKind.i64.wrap (d21.2.1+(1:Int))),d21.2.2.1,()))) nof))
else
(some (.inr (.inl (n3,()))))
noncomputable def qah (n:Nat) (d:qT41):Option (qT41 ⊕ qT10):=qag n d.1 d.2.1 d.2.2.1
noncomputable def qai (n:Nat) (p0:qT0):Option (Bool × Unit) :=
(bif (decide ((1100:Int)<(p0.2.2.2.1.length:Int))) then
(some (.inl (p0,true,(0:Int),())))
else
((qad n p0.2.2.2.2.1 (0:Int) (0:Int)).bind fun r4 =>
some (.inl (p0,r4.1.1,r4.2.1,()))):Option ((qT0 × Bool × Int × Unit) ⊕ Empty)).bind (Sum.elim (fun d5 =>
bif d5.2.1 then
(some (true,()))
else
((iterN (qah n) n (d5.1,(0:Int),(0:Int),())).bind (Sum.elim (fun d23 =>
some ((decide ((20000:Int)<d23.1)),())) nof))) nof)
noncomputable def qaj (n:Nat) (n0:Int):Option ((Bool × (Int × Unit)) × Unit) :=
some ((false,(n0,())),())
noncomputable def qak (n:Nat) (n0:Int):Option ((Bool × (Int × Unit)) × Unit) :=
some ((true,(n0,())),())
noncomputable def qal (n:Nat) :Option (qT0 × Unit) :=
(qaj n (1:Int)).bind fun r3 =>
(qak n (0:Int)).bind fun r4 =>
(qaj n (0:Int)).bind fun r7 =>
(qak n (1:Int)).bind fun r8 =>
some ((((2:Int),((1:Int),())),((3:Int),((2:Int),([[((1:Int),([(1:Int),(1:Int)],()))]],([(Rose.node (((0:Int),((0:Int),((1:Int),((0:Int),((0:Int),([r3.1,r4.1],())))))),()) ([]:(List qT1))),(Rose.node (((0:Int),((2:Int),((1:Int),((0:Int),((0:Int),([r7.1,r8.1],())))))),()) ([]:(List qT1))),(Rose.node (((0:Int),((0:Int),((1:Int),((0:Int),((0:Int),([r3.1,r4.1],())))))),()) ([]:(List qT1))),(Rose.node (((0:Int),((2:Int),((1:Int),((0:Int),((0:Int),([r7.1,r8.1],())))))),()) ([]:(List qT1)))],()))))),())
noncomputable def qam (n:Nat) (n0:Int) (d3:Int):Option (qT25 ⊕ ((Bool × Unit) ⊕ qT10)) :=
bif (decide ((IntKind.i64.wrap (d3*d3))≤n0)) then
(bif decide (d3=0) then none else
bif (decide ((Int.tmod n0 d3)=(0:Int))) then
(some (.inr (.inl (false,()))))
else
(some (.inl (n0,(IntKind.i64.wrap (d3+(1:Int))),()))))
else
(some (.inr (.inr (.inl (n0,())))))
noncomputable def qan (n:Nat) (d:qT25):Option (qT25 ⊕ ((Bool × Unit) ⊕ qT10)):=qam n d.1 d.2.1
noncomputable def qao (n:Nat) (n0:Int):Option (Bool × Unit) :=
(iterN (qan n) n (n0,(2:Int),())).bind (Sum.elim (fun d4 =>
some (d4.1,())) (Sum.elim (fun d3 =>
some ((decide ((1:Int)<d3.1)),())) nof))
noncomputable def qap (n:Nat) (f0:qT2):Option (Bool × Unit) :=
(bif (decide (f0.1<(2:Int))) then
(some (.inl (f0,true,())))
else
(bif (decide ((65536:Int)<f0.1)) then
(some (.inl (f0,true,())))
else
(bif (decide (f0.2.1<(1:Int))) then
(some (.inl (f0,true,())))
else
(bif (decide ((16:Int)<f0.2.1)) then
(some (.inl (f0,true,())))
else
(bif (decide ((1:Int)<f0.2.1)) then
(some (.inl (f0,(!decide (f0.1=(2:Int))),())))
else
(some (.inl (f0,false,()))))))):Option ((qT2 × Bool × Unit) ⊕ Empty)).bind (Sum.elim (fun d2 =>
bif d2.2.1 then
(some (false,()))
else
((qao n d2.1.1).bind fun r3 =>
some (r3.1,()))) nof)
noncomputable def qaq (n:Nat) (p0:qT3):Option (Int × (Bool × Unit)) :=
bif (decide ((p0.length:Int)=(0:Int))) then
(some ((0:Int),(false,())))
else
((idx p0 (0:Int)).bind fun v1 =>
some ((v1.2.1.length:Int),(true,())))
noncomputable def qar (n:Nat) (f0:qT2):Option (Int × Unit) :=
(qap n f0).bind fun r3 =>
bif (!r3.1) then
(some ((0:Int),()))
else
(bif (decide ((1:Int)<f0.2.1)) then
(bif decide (f0.2.1<0) then none else
some ((IntKind.i64.wrap ((1:Int)*2 ^ (min (f0.2.1).toNat IntKind.i64.bits))),()))
else
(some (f0.1,())))
noncomputable def qas (n:Nat) (x0:Int):Option (Bool × Unit) :=
some ((!decide (x0=x0)),())
noncomputable def qat (n:Nat) (x0:Int) (y1:Int):Option (Int × Unit) :=
(qas n x0).bind fun r2 =>
(qas n y1).bind fun r4 =>
bif r2.1 then
(bif r4.1 then
(some ((0:Int),()))
else
(some ((-1:Int),())))
else
(bif r4.1 then
(some ((1:Int),()))
else
(bif (decide (x0<y1)) then
(some ((-1:Int),()))
else
(bif (decide (y1<x0)) then
(some ((1:Int),()))
else
(some ((0:Int),())))))
noncomputable def qau (n:Nat) (s10:(List Int)) (s21:(List Int)) (t9:(List Int)) (t10:Int) (t11:Int):Option qT50 :=
bif (decide (t11<t10)) then
((idx t9 t11).bind fun v10 =>
bif (decide ((s21.length:Int)≤t11)) then
(some (.inr (.inl ((1:Int),()))))
else
((idx s21 t11).bind fun v11 =>
(qat n v10 v11).bind fun r12 =>
bif (!decide (r12.1=(0:Int))) then
(some (.inr (.inl (r12.1,()))))
else
(some (.inl (s10,s21,t9,t10,(IntKind.i64.wrap (t11+(1:Int))),())))))
else
(some (.inr (.inr (.inl (s10,s21,())))))
noncomputable def qav (n:Nat) (d:((List Int) × (List Int) × (List Int) × Int × Int × Unit)):Option qT50:=qau n d.1 d.2.1 d.2.2.1 d.2.2.2.1 d.2.2.2.2.1
noncomputable def qaw (n:Nat) (s10:(List Int)) (s21:(List Int)):Option (Int × Unit) :=
(iterN (qav n) n (s10,s21,s10,(s10.length:Int),(0:Int),())).bind (Sum.elim (fun d16 =>
some (d16.1,())) (Sum.elim (fun d15 =>
bif (decide ((d15.1.length:Int)<(d15.2.1.length:Int))) then
(some ((-1:Int),()))
else
(some ((0:Int),()))) nof))
noncomputable def qax (n:Nat) (a0:(Int × qT22)) (b1:(Int × qT22)):Option (Int × Unit) :=
(qaw n a0.2.1 b1.2.1).bind fun r1 =>
some (r1.1,())
noncomputable def qay (n:Nat) (e0:Int):Option (Bool × Unit) :=
bif (decide (e0<(0:Int))) then
(some (true,()))
else
(some ((decide ((65535:Int)<e0)),()))
noncomputable def qaz (n:Nat) (s0:(List Int)) (f1:Unit) (t7:Int) (t8:Int):Option (((List Int) × Unit × Int × Int × Unit) ⊕ qT29) :=
bif (decide (t8<t7)) then
((idx s0 t8).bind fun v7 =>
(qay n v7).bind fun r8 =>
bif r8.1 then
(some (.inr (.inl (t8,()))))
else
(some (.inl (s0,(),t7,(IntKind.i64.wrap (t8+(1:Int))),()))))
else
(some (.inr (.inr (.inl (())))))
noncomputable def qa0 (n:Nat) (d:((List Int) × Unit × Int × Int × Unit)):Option (((List Int) × Unit × Int × Int × Unit) ⊕ qT29):=qaz n d.1 d.2.1 d.2.2.1 d.2.2.2.1
noncomputable def qa1 (n:Nat) (s0:(List Int)):Option (Int × Unit) :=
(iterN (qa0 n) n (s0,(),(s0.length:Int),(0:Int),())).bind (Sum.elim (fun d12 =>
some (d12.1,())) (Sum.elim (fun d11 =>
some ((-1:Int),())) nof))
noncomputable def qa2 (n:Nat) (s0:(List Int)):Option (Bool × Unit) :=
(qa1 n s0).bind fun r1 =>
some ((decide ((0:Int)≤r1.1)),())
noncomputable def qa3 (n:Nat) (n1:Int) (p2:qT3) (order7:Int) (t27:qT3) (t28:Int) (t29:Int):Option ((Int × qT3 × Int × qT3 × Int × Int × Unit) ⊕ qT12) :=
bif (decide (t29<t28)) then
((idx t27 t29).bind fun v22 =>
(bif (decide (v22.1<(1:Int))) then
(some (.inl (n1,p2,order7,t27,t28,t29,true,v22,())))
else
(bif (decide (order7≤v22.1)) then
(some (.inl (n1,p2,order7,t27,t28,t29,true,v22,())))
else
(bif (!decide ((v22.2.1.length:Int)=n1)) then
(some (.inl (n1,p2,order7,t27,t28,t29,true,v22,())))
else
(bif (decide ((0:Int)<t29)) then
((idx p2 (IntKind.i64.wrap (t29-(1:Int)))).bind fun v23 =>
(qax n v23 v22).bind fun r24 =>
some (.inl (n1,p2,order7,t27,t28,t29,(decide ((0:Int)≤r24.1)),v22,())))
else
(some (.inl (n1,p2,order7,t27,t28,t29,false,v22,())))))):Option ((Int × qT3 × Int × qT3 × Int × Int × Bool × (Int × qT22) × Unit) ⊕ Empty)).bind (Sum.elim (fun d25 =>
bif d25.2.2.2.2.2.2.1 then
(some (.inr (.inl (false,()))))
else
((qa2 n d25.2.2.2.2.2.2.2.1.2.1).bind fun r26 =>
bif r26.1 then
(some (.inr (.inl (false,()))))
else
(some (.inl (d25.1,d25.2.1,d25.2.2.1,d25.2.2.2.1,d25.2.2.2.2.1,(IntKind.i64.wrap (d25.2.2.2.2.2.1+(1:Int))),()))))) nof))
else
(some (.inr (.inr (.inl (())))))
noncomputable def qa4 (n:Nat) (d:(Int × qT3 × Int × qT3 × Int × Int × Unit)):Option ((Int × qT3 × Int × qT3 × Int × Int × Unit) ⊕ qT12):=qa3 n d.1 d.2.1 d.2.2.1 d.2.2.2.1 d.2.2.2.2.1 d.2.2.2.2.2.1
noncomputable def qa5 (n:Nat) (f0:qT2) (n1:Int) (p2:qT3):Option (Bool × Unit) :=
(qar n f0).bind fun r2 =>
(bif (decide (r2.1=(0:Int))) then
(some (.inl (n1,p2,r2.1,true,())))
else
(bif (decide (n1<(0:Int))) then
(some (.inl (n1,p2,r2.1,true,())))
else
(bif (decide ((80:Int)<n1)) then
(some (.inl (n1,p2,r2.1,true,())))
else
(some (.inl (n1,p2,r2.1,(decide ((20000:Int)<(p2.length:Int))),()))))):Option ((Int × qT3 × Int × Bool × Unit) ⊕ Empty)).bind (Sum.elim (fun d4 =>
bif d4.2.2.2.1 then
(some (false,()))
else
((iterN (qa4 n) n (d4.1,d4.2.1,d4.2.2.1,d4.2.1,(d4.2.1.length:Int),(0:Int),())).bind (Sum.elim (fun d30 =>
some (d30.1,())) (Sum.elim (fun d29 =>
some (true,())) nof)))) nof)
noncomputable def qa6 (n:Nat) (i0:Int) (x1:(qT0 × qT2)):Option (Bool × Unit) :=
bif (decide ((0:Int)≤i0)) then
(some ((decide (i0<x1.1.2.1)),()))
else
(some (false,()))
noncomputable def qa7 (n:Nat) (c0:(qT0 × qT2)) (x1:Int):Option (Bool × Unit) :=
bif (decide ((0:Int)≤x1)) then
(some ((decide (x1<c0.2.2.1)),()))
else
(some (false,()))
noncomputable def qa8 (n:Nat) (r0:(Bool × (Int × Unit))) (x1:(qT0 × qT2)) (x2:((qT0 × qT2) × Unit)) (x3:qT4):Option (Bool × Unit) :=
bif r0.1 then
(bif (decide (r0.2.1<(0:Int))) then
(some (true,()))
else
(some ((decide (x1.1.2.2.1≤r0.2.1)),())))
else
((qa6 n r0.2.1 x2.1).bind fun r1 =>
bif (!r1.1) then
(some (true,()))
else
(some ((decide (r0.2.1=x3.2.1)),())))
noncomputable def qa9 (n:Nat) (s0:qT11) (f1:qT23) (t7:Int) (t8:Int):Option ((qT11 × qT23 × Int × Int × Unit) ⊕ qT29) :=
bif (decide (t8<t7)) then
((idx s0 t8).bind fun v7 =>
(qa8 n v7 f1.1 (f1.2.1.1,()) f1.2.2.1).bind fun r8 =>
bif r8.1 then
(some (.inr (.inl (t8,()))))
else
(some (.inl (s0,(f1.1,((f1.2.1.1,()),(f1.2.2.1,()))),t7,(IntKind.i64.wrap (t8+(1:Int))),()))))
else
(some (.inr (.inr (.inl (())))))
noncomputable def qba (n:Nat) (d:(qT11 × qT23 × Int × Int × Unit)):Option ((qT11 × qT23 × Int × Int × Unit) ⊕ qT29):=qa9 n d.1 d.2.1 d.2.2.1 d.2.2.2.1
noncomputable def qbb (n:Nat) (s0:qT11) (f1:qT23):Option (Int × Unit) :=
(iterN (qba n) n (s0,(f1.1,((f1.2.1.1,()),(f1.2.2.1,()))),(s0.length:Int),(0:Int),())).bind (Sum.elim (fun d12 =>
some (d12.1,())) (Sum.elim (fun d11 =>
some ((-1:Int),())) nof))
noncomputable def qbc (n:Nat) (s0:qT11) (f1:qT23):Option (Bool × Unit) :=
(qbb n s0 (f1.1,((f1.2.1.1,()),(f1.2.2.1,())))).bind fun r1 =>
some ((decide ((0:Int)≤r1.1)),())
noncomputable def qbd (self_regs_checker_statement:qT1→Int→(qT0 × qT2)→Option qT7) (self_regs_checker_list_1:qT1→Int→(qT0 × qT2)→Option qT7) (self_slices_IndexFunc_api_Stmt__regs_checker_list_1:(List qT1)→qT14→(qT0 × qT2)→Option qT19) (self_slices_ContainsFunc_api_Stmt__regs_checker_list_1:(List qT1)→qT14→(qT0 × qT2)→Option qT7) (self_regs_checker_list:(List qT1)→Int→(qT0 × qT2)→Option qT7) (n:Nat) (s1:qT1) (depth2:Int) (co0:(qT0 × qT2)):Option qT7 :=
bif (decide ((Rose.val s1).1.1=(0:Int))) then
((bif (!decide ((Rose.val s1).1.2.2.2.2.1=(0:Int))) then
(some (.inl ((),((Rose.val s1).1.1,((Rose.val s1).1.2.1,((Rose.val s1).1.2.2.1,((Rose.val s1).1.2.2.2.1,((Rose.val s1).1.2.2.2.2.1,((Rose.val s1).1.2.2.2.2.2.1,((Rose.kids s1),()))))))),((),()),true,co0,())))
else
(bif (decide ((0:Int)<(((Rose.kids s1)).length:Int))) then
(some (.inl ((),((Rose.val s1).1.1,((Rose.val s1).1.2.1,((Rose.val s1).1.2.2.1,((Rose.val s1).1.2.2.2.1,((Rose.val s1).1.2.2.2.2.1,((Rose.val s1).1.2.2.2.2.2.1,((Rose.kids s1),()))))))),((),()),true,co0,())))
else
((qa6 n (Rose.val s1).1.2.1 co0).bind fun r21 =>
bif (!r21.1) then
(some (.inl ((),((Rose.val s1).1.1,((Rose.val s1).1.2.1,((Rose.val s1).1.2.2.1,((Rose.val s1).1.2.2.2.1,((Rose.val s1).1.2.2.2.2.1,((Rose.val s1).1.2.2.2.2.2.1,((Rose.kids s1),()))))))),((),()),true,co0,())))
else
((qa7 n co0 (Rose.val s1).1.2.2.1).bind fun r22 =>
bif (!r22.1) then
(some (.inl ((),((Rose.val s1).1.1,((Rose.val s1).1.2.1,((Rose.val s1).1.2.2.1,((Rose.val s1).1.2.2.2.1,((Rose.val s1).1.2.2.2.2.1,((Rose.val s1).1.2.2.2.2.2.1,((Rose.kids s1),()))))))),((),()),true,co0,())))
else
(bif (decide ((Rose.val s1).1.2.2.2.1<(0:Int))) then
(some (.inl ((),((Rose.val s1).1.1,((Rose.val s1).1.2.1,((Rose.val s1).1.2.2.1,((Rose.val s1).1.2.2.2.1,((Rose.val s1).1.2.2.2.2.1,((Rose.val s1).1.2.2.2.2.2.1,((Rose.kids s1),()))))))),((),()),true,co0,())))
else
(bif (decide ((co0.1.2.2.2.1.length:Int)≤(Rose.val s1).1.2.2.2.1)) then
(some (.inl ((),((Rose.val s1).1.1,((Rose.val s1).1.2.1,((Rose.val s1).1.2.2.1,((Rose.val s1).1.2.2.2.1,((Rose.val s1).1.2.2.2.2.1,((Rose.val s1).1.2.2.2.2.2.1,((Rose.kids s1),()))))))),((),()),true,co0,())))
else
(some (.inl ((),((Rose.val s1).1.1,((Rose.val s1).1.2.1,((Rose.val s1).1.2.2.1,((Rose.val s1).1.2.2.2.1,((Rose.val s1).1.2.2.2.2.1,((Rose.val s1).1.2.2.2.2.2.1,((Rose.kids s1),()))))))),((),()),(decide ((80:Int)<(((Rose.val s1).1.2.2.2.2.2.1).length:Int))),co0,())))))))):Option ((Unit × qT4 × (Unit × Unit) × Bool × (qT0 × qT2) × Unit) ⊕ Empty)).bind (Sum.elim (fun d23 =>
bif d23.2.2.2.1 then
(some ((false,()),(d23.2.2.2.2.1,())))
else
((idx d23.2.2.2.2.1.1.2.2.2.1 d23.2.1.2.2.2.1).bind fun v24 =>
(qaq n v24).bind fun r25 =>
(bif r25.2.1 then
(some (.inl ((),d23.2.1,((),()),(!decide (r25.1=(d23.2.1.2.2.2.2.2.1.length:Int))),d23.2.2.2.2.1,())))
else
(some (.inl ((),d23.2.1,((),()),false,d23.2.2.2.2.1,()))):Option ((Unit × qT4 × (Unit × Unit) × Bool × (qT0 × qT2) × Unit) ⊕ Empty)).bind (Sum.elim (fun d26 =>
bif d26.2.2.2.1 then
(some ((false,()),(d26.2.2.2.2.1,())))
else
((qbc n d26.2.1.2.2.2.2.2.1 (d26.2.2.2.2.1,((d26.2.2.2.2.1,()),(d26.2.1,())))).bind fun r27 =>
some (((!r27.1),()),(d26.2.2.2.2.1,())))) nof))) nof))
else
(bif (decide ((Rose.val s1).1.1=(1:Int))) then
(bif (decide ((Rose.val s1).1.2.2.2.1=(0:Int))) then
(bif (decide ((Rose.val s1).1.2.2.2.2.1=(0:Int))) then
(bif (decide ((((Rose.val s1).1.2.2.2.2.2.1).length:Int)=(0:Int))) then
(bif (decide ((((Rose.kids s1)).length:Int)=(0:Int))) then
((qa6 n (Rose.val s1).1.2.1 co0).bind fun r28 =>
bif r28.1 then
((qa7 n co0 (Rose.val s1).1.2.2.1).bind fun r29 =>
bif r29.1 then
(some (((!decide ((Rose.val s1).1.2.2.1=(0:Int))),()),(co0,())))
else
(some ((false,()),(co0,()))))
else
(some ((false,()),(co0,()))))
else
(some ((false,()),(co0,()))))
else
(some ((false,()),(co0,()))))
else
(some ((false,()),(co0,()))))
else
(some ((false,()),(co0,()))))
else
(bif (decide ((Rose.val s1).1.1=(2:Int))) then
(bif (decide ((Rose.val s1).1.2.1=(0:Int))) then
(bif (decide ((Rose.val s1).1.2.2.1=(0:Int))) then
(bif (decide ((Rose.val s1).1.2.2.2.1=(0:Int))) then
(bif (decide ((((Rose.val s1).1.2.2.2.2.2.1).length:Int)=(0:Int))) then
(bif (decide ((0:Int)≤(Rose.val s1).1.2.2.2.2.1)) then
(bif (decide ((Rose.val s1).1.2.2.2.2.1≤(2000000:Int))) then
((self_regs_checker_list (Rose.kids s1) (IntKind.i64.wrap (depth2+(1:Int))) co0).bind fun r30 =>
some ((r30.1.1,()),(r30.2.1,())))
else
(some ((false,()),(co0,()))))
else
(some ((false,()),(co0,()))))
else
(some ((false,()),(co0,()))))
else
(some ((false,()),(co0,()))))
else
(some ((false,()),(co0,()))))
else
(some ((false,()),(co0,()))))
else
(some ((false,()),(co0,())))))
noncomputable def qbe (self_regs_checker_statement:qT1→Int→(qT0 × qT2)→Option qT7) (self_regs_checker_list_1:qT1→Int→(qT0 × qT2)→Option qT7) (self_slices_IndexFunc_api_Stmt__regs_checker_list_1:(List qT1)→qT14→(qT0 × qT2)→Option qT19) (self_slices_ContainsFunc_api_Stmt__regs_checker_list_1:(List qT1)→qT14→(qT0 × qT2)→Option qT7) (self_regs_checker_list:(List qT1)→Int→(qT0 × qT2)→Option qT7) (n:Nat) (s0:qT1) (x2:Int) (co0:(qT0 × qT2)):Option qT7 :=
(self_regs_checker_statement (Rose.node (((Rose.val s0).1.1,((Rose.val s0).1.2.1,((Rose.val s0).1.2.2.1,((Rose.val s0).1.2.2.2.1,((Rose.val s0).1.2.2.2.2.1,((Rose.val s0).1.2.2.2.2.2.1,())))))),()) (Rose.kids s0)) x2 co0).bind fun r1 =>
some (((!r1.1.1),()),(r1.2.1,()))
noncomputable def qbf (self_regs_checker_statement:qT1→Int→(qT0 × qT2)→Option qT7) (self_regs_checker_list_1:qT1→Int→(qT0 × qT2)→Option qT7) (self_slices_IndexFunc_api_Stmt__regs_checker_list_1:(List qT1)→qT14→(qT0 × qT2)→Option qT19) (self_slices_ContainsFunc_api_Stmt__regs_checker_list_1:(List qT1)→qT14→(qT0 × qT2)→Option qT7) (self_regs_checker_list:(List qT1)→Int→(qT0 × qT2)→Option qT7) (n:Nat) (s0:(List qT1)) (f1:qT14) (t7:Int) (t8:Int) (c0:(qT0 × qT2)):Option qT51 :=
bif (decide (t8<t7)) then
((idx s0 t8).bind fun v7 =>
(self_regs_checker_list_1 v7 f1.2.1 c0).bind fun r8 =>
bif r8.1.1 then
(some (.inr (.inl (t8,r8.2.1,()))))
else
(some (.inl (s0,((),(f1.2.1,())),t7,(IntKind.i64.wrap (t8+(1:Int))),r8.2.1,()))))
else
(some (.inr (.inr (.inl (c0,())))))
noncomputable def qbg (self_regs_checker_statement:qT1→Int→(qT0 × qT2)→Option qT7) (self_regs_checker_list_1:qT1→Int→(qT0 × qT2)→Option qT7) (self_slices_IndexFunc_api_Stmt__regs_checker_list_1:(List qT1)→qT14→(qT0 × qT2)→Option qT19) (self_slices_ContainsFunc_api_Stmt__regs_checker_list_1:(List qT1)→qT14→(qT0 × qT2)→Option qT7) (self_regs_checker_list:(List qT1)→Int→(qT0 × qT2)→Option qT7) (n:Nat) (d:((List qT1) × qT14 × Int × Int × (qT0 × qT2) × Unit)):Option qT51:=qbf self_regs_checker_statement self_regs_checker_list_1 self_slices_IndexFunc_api_Stmt__regs_checker_list_1 self_slices_ContainsFunc_api_Stmt__regs_checker_list_1 self_regs_checker_list n d.1 d.2.1 d.2.2.1 d.2.2.2.1 d.2.2.2.2.1
noncomputable def qbh (self_regs_checker_statement:qT1→Int→(qT0 × qT2)→Option qT7) (self_regs_checker_list_1:qT1→Int→(qT0 × qT2)→Option qT7) (self_slices_IndexFunc_api_Stmt__regs_checker_list_1:(List qT1)→qT14→(qT0 × qT2)→Option qT19) (self_slices_ContainsFunc_api_Stmt__regs_checker_list_1:(List qT1)→qT14→(qT0 × qT2)→Option qT7) (self_regs_checker_list:(List qT1)→Int→(qT0 × qT2)→Option qT7) (n:Nat) (s0:(List qT1)) (f1:qT14) (co0:(qT0 × qT2)):Option qT19 :=
(iterN (qbg self_regs_checker_statement self_regs_checker_list_1 self_slices_IndexFunc_api_Stmt__regs_checker_list_1 self_slices_ContainsFunc_api_Stmt__regs_checker_list_1 self_regs_checker_list n) n (s0,((),(f1.2.1,())),(s0.length:Int),(0:Int),co0,())).bind (Sum.elim (fun d12 =>
some ((d12.1,()),(d12.2.1,()))) (Sum.elim (fun d11 =>
some (((-1:Int),()),(d11.1,()))) nof))
noncomputable def qbi (self_regs_checker_statement:qT1→Int→(qT0 × qT2)→Option qT7) (self_regs_checker_list_1:qT1→Int→(qT0 × qT2)→Option qT7) (self_slices_IndexFunc_api_Stmt__regs_checker_list_1:(List qT1)→qT14→(qT0 × qT2)→Option qT19) (self_slices_ContainsFunc_api_Stmt__regs_checker_list_1:(List qT1)→qT14→(qT0 × qT2)→Option qT7) (self_regs_checker_list:(List qT1)→Int→(qT0 × qT2)→Option qT7) (n:Nat) (s0:(List qT1)) (f1:qT14) (co0:(qT0 × qT2)):Option qT7 :=
(self_slices_IndexFunc_api_Stmt__regs_checker_list_1 s0 ((),(f1.2.1,())) co0).bind fun r1 =>
some (((decide ((0:Int)≤r1.1.1)),()),(r1.2.1,()))
noncomputable def qbj (self_regs_checker_statement:qT1→Int→(qT0 × qT2)→Option qT7) (self_regs_checker_list_1:qT1→Int→(qT0 × qT2)→Option qT7) (self_slices_IndexFunc_api_Stmt__regs_checker_list_1:(List qT1)→qT14→(qT0 × qT2)→Option qT19) (self_slices_ContainsFunc_api_Stmt__regs_checker_list_1:(List qT1)→qT14→(qT0 × qT2)→Option qT7) (self_regs_checker_list:(List qT1)→Int→(qT0 × qT2)→Option qT7) (n:Nat) (l1:(List qT1)) (depth2:Int) (co0:(qT0 × qT2)):Option qT7 :=
(bif (decide ((co0.1,((IntKind.i64.wrap (co0.2.1-(l1.length:Int))),co0.2.2)).2.1<(0:Int))) then
(some (.inl (l1,(),depth2,true,(co0.1,((IntKind.i64.wrap (co0.2.1-(l1.length:Int))),co0.2.2)),())))
else
(some (.inl (l1,(),depth2,(decide ((60:Int)<depth2)),(co0.1,((IntKind.i64.wrap (co0.2.1-(l1.length:Int))),co0.2.2)),()))):Option (((List qT1) × Unit × Int × Bool × (qT0 × qT2) × Unit) ⊕ Empty)).bind (Sum.elim (fun d2 =>
bif d2.2.2.2.1 then
(some ((false,()),(d2.2.2.2.2.1,())))
else
((self_slices_ContainsFunc_api_Stmt__regs_checker_list_1 d2.1 ((),(d2.2.2.1,())) d2.2.2.2.2.1).bind fun r3 =>
some (((!r3.1.1),()),(r3.2.1,())))) nof)
noncomputable def qbk:Nat→(qT1→Int→(qT0 × qT2)→Option qT7) × (qT1→Int→(qT0 × qT2)→Option qT7) × ((List qT1)→qT14→(qT0 × qT2)→Option qT19) × ((List qT1)→qT14→(qT0 × qT2)→Option qT7) × ((List qT1)→Int→(qT0 × qT2)→Option qT7)
  | 0=>((fun _ _ _=>none),(fun _ _ _=>none),(fun _ _ _=>none),(fun _ _ _=>none),(fun _ _ _=>none))
  | n+1=>(qbd (qbk n).1 (qbk n).2.1 (qbk n).2.2.1 (qbk n).2.2.2.1 (qbk n).2.2.2.2 n,qbe (qbk n).1 (qbk n).2.1 (qbk n).2.2.1 (qbk n).2.2.2.1 (qbk n).2.2.2.2 n,qbh (qbk n).1 (qbk n).2.1 (qbk n).2.2.1 (qbk n).2.2.2.1 (qbk n).2.2.2.2 n,qbi (qbk n).1 (qbk n).2.1 (qbk n).2.2.1 (qbk n).2.2.2.1 (qbk n).2.2.2.2 n,qbj (qbk n).1 (qbk n).2.1 (qbk n).2.2.1 (qbk n).2.2.2.1 (qbk n).2.2.2.2 n)
noncomputable def qbl (n:Nat):qT1→Int→(qT0 × qT2)→Option qT7:=(qbk n).1
noncomputable def qbm (n:Nat):qT1→Int→(qT0 × qT2)→Option qT7:=(qbk n).2.1
noncomputable def qbn (n:Nat):(List qT1)→qT14→(qT0 × qT2)→Option qT19:=(qbk n).2.2.1
noncomputable def qbo (n:Nat):(List qT1)→qT14→(qT0 × qT2)→Option qT7:=(qbk n).2.2.2.1
noncomputable def qbp (n:Nat):(List qT1)→Int→(qT0 × qT2)→Option qT7:=(qbk n).2.2.2.2
noncomputable def qbq (n:Nat) (p1:qT0) (t39:(List qT3)) (t40:Int) (t41:Int):Option qT69 :=
bif (decide (t41<t40)) then
((idx t39 t41).bind fun v15 =>
(qaq n v15).bind fun r16 =>
(qa5 n p1.1 r16.1 v15).bind fun r17 =>
bif (!r17.1) then
(some (.inr (.inl (false,()))))
else
(some (.inl (p1,t39,t40,(IntKind.i64.wrap (t41+(1:Int))),()))))
else
(some (.inr (.inr (.inl (p1,())))))
noncomputable def qbr (n:Nat) (d:(qT0 × (List qT3) × Int × Int × Unit)):Option qT69:=qbq n d.1 d.2.1 d.2.2.1 d.2.2.2.1
noncomputable def qbs (n:Nat) (p0:qT0):Option (Bool × Unit) :=
((qap n p0.1).bind fun r4 =>
bif (!r4.1) then
(some (.inl (p0,true,())))
else
(bif (decide (p0.2.1<(1:Int))) then
(some (.inl (p0,true,())))
else
(bif (decide ((64:Int)<p0.2.1)) then
(some (.inl (p0,true,())))
else
(bif (decide (p0.2.2.1<(0:Int))) then
(some (.inl (p0,true,())))
else
(bif (decide ((64:Int)<p0.2.2.1)) then
(some (.inl (p0,true,())))
else
(some (.inl (p0,(decide ((1000:Int)<(p0.2.2.2.1.length:Int))),()))))))):Option ((qT0 × Bool × Unit) ⊕ Empty)).bind (Sum.elim (fun d5 =>
bif d5.2.1 then
(some (false,()))
else
((iterN (qbr n) n (d5.1,d5.1.2.2.2.1,(d5.1.2.2.2.1.length:Int),(0:Int),())).bind (Sum.elim (fun d24 =>
some (d24.1,())) (Sum.elim (fun d20 =>
(qar n d20.1.1).bind fun r22 =>
(qbp n d20.1.2.2.2.2.1 (0:Int) (d20.1,((200000:Int),(r22.1,())))).bind fun r23 =>
some (r23.1.1,())) nof)))) nof)
noncomputable def qbt (self_regs_steps:(List qT1)→Option (Int × Unit)) (n:Nat) (n3:Int) (t7:(List qT1)) (t8:Int) (t9:Int):Option ((Int × (List qT1) × Int × Int × Unit) ⊕ qT10) :=
bif (decide (t9<t8)) then
((idx t7 t9).bind fun v13 =>
(bif (decide ((Rose.val v13).1.1=(2:Int))) then
((self_regs_steps (Rose.kids v13)).bind fun r14 =>
(bif (decide ((0:Int)<(Rose.val v13).1.2.2.2.2.1)) then
(bif decide ((Rose.val v13).1.2.2.2.2.1=0) then none else
some (.inl (n3,r14.1,t7,t8,t9,(decide ((IntKind.i64.wrap (Int.tdiv (1099511627776:Int) (Rose.val v13).1.2.2.2.2.1))<r14.1)),((Rose.val v13).1.1,((Rose.val v13).1.2.1,((Rose.val v13).1.2.2.1,((Rose.val v13).1.2.2.2.1,((Rose.val v13).1.2.2.2.2.1,((Rose.val v13).1.2.2.2.2.2.1,((Rose.kids v13),()))))))),())))
else
(some (.inl (n3,r14.1,t7,t8,t9,false,((Rose.val v13).1.1,((Rose.val v13).1.2.1,((Rose.val v13).1.2.2.1,((Rose.val v13).1.2.2.2.1,((Rose.val v13).1.2.2.2.2.1,((Rose.val v13).1.2.2.2.2.2.1,((Rose.kids v13),()))))))),()))):Option ((Int × Int × (List qT1) × Int × Int × Bool × qT4 × Unit) ⊕ Empty)).bind (Sum.elim (fun d15 =>
bif d15.2.2.2.2.2.1 then
(some (.inl (d15.1,(1099511627777:Int),d15.2.2.1,d15.2.2.2.1,d15.2.2.2.2.1,())))
else
(some (.inl (d15.1,(IntKind.i64.wrap (d15.2.1*d15.2.2.2.2.2.2.1.2.2.2.2.1)),d15.2.2.1,d15.2.2.2.1,d15.2.2.2.2.1,())))) nof))
else
(some (.inl (n3,(1:Int),t7,t8,t9,()))):Option ((Int × Int × (List qT1) × Int × Int × Unit) ⊕ Empty)).bind (Sum.elim (fun d16 =>
some (.inl ((if (1099511627777:Int)<(IntKind.i64.wrap (d16.1+d16.2.1)) then (1099511627777:Int) else (IntKind.i64.wrap (d16.1+d16.2.1))),d16.2.2.1,d16.2.2.2.1,(IntKind.i64.wrap (d16.2.2.2.2.1+(1:Int))),()))) nof))
else
(some (.inr (.inl (n3,()))))
noncomputable def qbu (self_regs_steps:(List qT1)→Option (Int × Unit)) (n:Nat) (d:(Int × (List qT1) × Int × Int × Unit)):Option ((Int × (List qT1) × Int × Int × Unit) ⊕ qT10):=qbt self_regs_steps n d.1 d.2.1 d.2.2.1 d.2.2.2.1
noncomputable def qbv (self_regs_steps:(List qT1)→Option (Int × Unit)) (n:Nat) (l0:(List qT1)):Option (Int × Unit) :=
(iterN (qbu self_regs_steps n) n ((0:Int),l0,(l0.length:Int),(0:Int),())).bind (Sum.elim (fun d18 =>
some (d18.1,())) nof)
noncomputable def qbw:Nat→(List qT1)→Option (Int × Unit)
  | 0=>fun _=>none
  | n+1=>qbv (qbw n) n
noncomputable def qbx (n:Nat) (p0:qT0):Option qT2 :=
(qbs n p0).bind fun r3 =>
bif (!r3.1) then
(some ((0:Int),((1:Int),())))
else
((qbw n p0.2.2.2.2.1).bind fun r5 =>
bif (decide ((1099511627776:Int)<r5.1)) then
(some ((0:Int),((5:Int),())))
else
(some (r5.1,((0:Int),()))))
noncomputable def qby (n:Nat) (x0:Int) (x1:Int):Option (Bool × Unit) :=
bif (decide (x0<(0:Int))) then
(some (true,()))
else
(some ((decide (x1≤x0)),()))
noncomputable def qbz (n:Nat) (s0:(List Int)) (f1:(Int × Unit)) (t7:Int) (t8:Int):Option (qT68 ⊕ qT29) :=
bif (decide (t8<t7)) then
((idx s0 t8).bind fun v7 =>
(qby n v7 f1.1).bind fun r8 =>
bif r8.1 then
(some (.inr (.inl (t8,()))))
else
(some (.inl (s0,(f1.1,()),t7,(IntKind.i64.wrap (t8+(1:Int))),()))))
else
(some (.inr (.inr (.inl (())))))
noncomputable def qb0 (n:Nat) (d:qT68):Option (qT68 ⊕ qT29):=qbz n d.1 d.2.1 d.2.2.1 d.2.2.2.1
noncomputable def qb1 (n:Nat) (s0:(List Int)) (f1:(Int × Unit)):Option (Int × Unit) :=
(iterN (qb0 n) n (s0,(f1.1,()),(s0.length:Int),(0:Int),())).bind (Sum.elim (fun d12 =>
some (d12.1,())) (Sum.elim (fun d11 =>
some ((-1:Int),())) nof))
noncomputable def qb2 (n:Nat) (s0:(List Int)) (f1:(Int × Unit)):Option (Bool × Unit) :=
(qb1 n s0 (f1.1,())).bind fun r1 =>
some ((decide ((0:Int)≤r1.1)),())
noncomputable def qb3 (n:Nat) (nb:Bool) (s0:(List Int)):Option qT22 :=
bif nb then
(some (([]:(List Int)),()))
else
(chk (lenB ((([]:(List Int))).length+(s0).length)) (some ((([]:(List Int))++s0),())))
noncomputable def qb4 (n:Nat) (s0:(List Int)):Option qT22:=qb3 n false s0
noncomputable def qb5 (n:Nat) (degree0:Int):Option (Int × Unit) :=
(idx [(7:Int),(11:Int),(19:Int),(37:Int),(67:Int),(131:Int),(283:Int),(515:Int),(1033:Int),(2053:Int),(4105:Int),(8219:Int),(16417:Int),(32771:Int),(65579:Int)] (IntKind.i64.wrap (degree0-(2:Int)))).bind fun v1 =>
some (v1,())
noncomputable def qb6 (n:Nat) (f0:qT2):Option qT2 :=
(qap n f0).bind fun r3 =>
bif (!r3.1) then
(some ((0:Int),((1:Int),())))
else
(bif (decide (f0.2.1=(1:Int))) then
(some ((0:Int),((6:Int),())))
else
((qb5 n f0.2.1).bind fun r4 =>
some (r4.1,((0:Int),()))))
noncomputable def qb7 (n:Nat) (f0:qT2):Option (qT6 × Unit) :=
(qb6 n f0).bind fun r2 =>
(qar n f0).bind fun r3 =>
some ((some (f0,(r3.1,(r2.1,())))),())
noncomputable def qb8 (n:Nat) (c0:qT6) (a1:Int) (b2:Int) (n7:Int):Option (qT27 ⊕ qT10) :=
bif (decide ((0:Int)<b2)) then
(((bif (decide ((IntKind.i64.wrap ((BitVec.ofInt IntKind.i64.bits b2 &&& BitVec.ofInt IntKind.i64.bits (1:Int)).toNat))=(1:Int))) then
(some (.inl (c0,a1,b2,(IntKind.i64.wrap ((BitVec.ofInt IntKind.i64.bits n7 ^^^ BitVec.ofInt IntKind.i64.bits a1).toNat)),())))
else
(some (.inl (c0,a1,b2,n7,()))):Option (qT27 ⊕ Empty)).bind (Sum.elim (fun d14 =>
bif decide ((1:Int)<0) then none else
(Option.bind d14.1 fun p15 =>
bif (decide (p15.2.1≤(IntKind.i64.wrap (d14.2.1*2 ^ (min ((1:Int)).toNat IntKind.i64.bits))))) then
((Option.bind d14.1 fun p16 =>
some (.inl (d14.1,(IntKind.i64.wrap ((BitVec.ofInt IntKind.i64.bits (IntKind.i64.wrap (d14.2.1*2 ^ (min ((1:Int)).toNat IntKind.i64.bits))) ^^^ BitVec.ofInt IntKind.i64.bits p16.2.2.1).toNat)),d14.2.2.1,d14.2.2.2.1,()))))
else
(some (.inl (d14.1,(IntKind.i64.wrap (d14.2.1*2 ^ (min ((1:Int)).toNat IntKind.i64.bits))),d14.2.2.1,d14.2.2.2.1,()))))) nof):Option (qT27 ⊕ Empty)).bind (Sum.elim (fun d17 =>
bif decide ((1:Int)<0) then none else
some (.inl (d17.1,d17.2.1,(Int.fdiv d17.2.2.1 (2 ^ (min ((1:Int)).toNat IntKind.i64.bits))),d17.2.2.2.1,()))) nof))
else
(some (.inr (.inl (n7,()))))
noncomputable def qb9 (n:Nat) (d:qT27):Option (qT27 ⊕ qT10):=qb8 n d.1 d.2.1 d.2.2.1 d.2.2.2.1
noncomputable def qca (n:Nat) (c0:qT6) (a1:Int) (b2:Int):Option (Int × Unit) :=
(Option.bind c0 fun p4 =>
bif (decide (p4.1.2.1=(1:Int))) then
((Option.bind c0 fun p5 =>
bif decide (p5.2.1=0) then none else
some ((Int.tmod (IntKind.i64.wrap (a1*b2)) p5.2.1),())))
else
((iterN (qb9 n) n (c0,a1,b2,(0:Int),())).bind (Sum.elim (fun d19 =>
some (d19.1,())) nof)))
noncomputable def qcb (n:Nat) (c0:qT6) (a1:Int) (k2:Int) (n7:Int):Option (qT27 ⊕ qT10) :=
bif (decide ((0:Int)<k2)) then
((bif (decide ((IntKind.i64.wrap ((BitVec.ofInt IntKind.i64.bits k2 &&& BitVec.ofInt IntKind.i64.bits (1:Int)).toNat))=(1:Int))) then
((qca n c0 n7 a1).bind fun r8 =>
some (.inl (c0,a1,k2,r8.1,())))
else
(some (.inl (c0,a1,k2,n7,()))):Option (qT27 ⊕ Empty)).bind (Sum.elim (fun d9 =>
(qca n d9.1 d9.2.1 d9.2.1).bind fun r10 =>
bif decide ((1:Int)<0) then none else
some (.inl (d9.1,r10.1,(Int.fdiv d9.2.2.1 (2 ^ (min ((1:Int)).toNat IntKind.i64.bits))),d9.2.2.2.1,()))) nof))
else
(some (.inr (.inl (n7,()))))
noncomputable def qcc (n:Nat) (d:qT27):Option (qT27 ⊕ qT10):=qcb n d.1 d.2.1 d.2.2.1 d.2.2.2.1
noncomputable def qcd (n:Nat) (c0:qT6) (a1:Int) (k2:Int):Option (Int × Unit) :=
(iterN (qcc n) n (c0,a1,k2,(1:Int),())).bind (Sum.elim (fun d12 =>
some (d12.1,())) nof)
noncomputable def qce (n:Nat) (c0:qT6) (a1:Int) (b2:Int):Option (Int × Unit) :=
(Option.bind c0 fun p3 =>
bif (decide ((1:Int)<p3.1.2.1)) then
(some ((IntKind.i64.wrap ((BitVec.ofInt IntKind.i64.bits a1 ^^^ BitVec.ofInt IntKind.i64.bits b2).toNat)),()))
else
((Option.bind c0 fun p4 =>
bif decide (p4.2.1=0) then none else
some ((Int.tmod (IntKind.i64.wrap (a1+b2)) p4.2.1),()))))
noncomputable def qcf (n:Nat) (c0:qT6) (at2:(List Int)) (n7:Int) (x10:Int) (t13:qT3) (t14:Int) (t15:Int) (t22:(List Int)) (t23:Int) (t24:Int):Option (qT24 ⊕ ((qT6 × (List Int) × Int × Int × qT3 × Int × Int × Unit) ⊕ Empty)) :=
bif (decide (t24<t23)) then
(((idx t22 t24).bind fun v13 =>
bif (decide ((0:Int)<v13)) then
((idx at2 t24).bind fun v14 =>
(qcd n c0 v14 v13).bind fun r15 =>
(qca n c0 x10 r15.1).bind fun r16 =>
some (.inl (c0,at2,n7,r16.1,t13,t14,t15,t22,t23,t24,())))
else
(some (.inl (c0,at2,n7,x10,t13,t14,t15,t22,t23,t24,()))):Option (qT24 ⊕ Empty)).bind (Sum.elim (fun d17 =>
some (.inl (d17.1,d17.2.1,d17.2.2.1,d17.2.2.2.1,d17.2.2.2.2.1,d17.2.2.2.2.2.1,d17.2.2.2.2.2.2.1,d17.2.2.2.2.2.2.2.1,d17.2.2.2.2.2.2.2.2.1,(IntKind.i64.wrap (d17.2.2.2.2.2.2.2.2.2.1+(1:Int))),()))) nof))
else
(some (.inr (.inl (c0,at2,n7,x10,t13,t14,t15,()))))
noncomputable def qcg (n:Nat) (d:qT24):Option (qT24 ⊕ ((qT6 × (List Int) × Int × Int × qT3 × Int × Int × Unit) ⊕ Empty)):=qcf n d.1 d.2.1 d.2.2.1 d.2.2.2.1 d.2.2.2.2.1 d.2.2.2.2.2.1 d.2.2.2.2.2.2.1 d.2.2.2.2.2.2.2.1 d.2.2.2.2.2.2.2.2.1 d.2.2.2.2.2.2.2.2.2.1
noncomputable def qch (n:Nat) (c0:qT6) (at2:(List Int)) (n7:Int) (t13:qT3) (t14:Int) (t15:Int):Option (qT65 ⊕ qT10) :=
bif (decide (t15<t14)) then
((idx t13 t15).bind fun v24 =>
(iterN (qcg n) n (c0,at2,n7,v24.1,t13,t14,t15,v24.2.1,(v24.2.1.length:Int),(0:Int),())).bind (Sum.elim (fun d25 =>
(qce n d25.1 d25.2.2.1 d25.2.2.2.1).bind fun r26 =>
some (.inl (d25.1,d25.2.1,r26.1,d25.2.2.2.2.1,d25.2.2.2.2.2.1,(IntKind.i64.wrap (d25.2.2.2.2.2.2.1+(1:Int))),()))) nof))
else
(some (.inr (.inl (n7,()))))
noncomputable def qci (n:Nat) (d:qT65):Option (qT65 ⊕ qT10):=qch n d.1 d.2.1 d.2.2.1 d.2.2.2.1 d.2.2.2.2.1 d.2.2.2.2.2.1
noncomputable def qcj (n:Nat) (c0:qT6) (p1:qT3) (at2:(List Int)):Option (Int × Unit) :=
(iterN (qci n) n (c0,at2,(0:Int),p1,(p1.length:Int),(0:Int),())).bind (Sum.elim (fun d28 =>
some (d28.1,())) nof)
noncomputable def qck (n:Nat) (s0:qT1):Option (Int × Unit) :=
(qbw n (Rose.kids s0)).bind fun r3 =>
bif (decide (r3.1=(0:Int))) then
(some ((0:Int),()))
else
(some ((Rose.val s0).1.2.2.2.2.1,()))
noncomputable def qcl (self_regs_calc_run:qT6→qT0→(List qT1)→(List Int)→(List Int)→Option (Unit × qT22)) (n:Nat) (c0:qT6) (inputs4:(List Int)) (p6:qT0) (t15:(List qT1)) (t16:Int) (t17:Int) (t42:qT11) (t43:Int) (t44:Int) (regs3:(List Int)) (s11:qT4) (at12:(List Int)):Option qT58 :=
bif (decide (t44<t43)) then
(((idx t42 t44).bind fun v17 =>
(idx regs3 (if (IntKind.i64.wrap ((regs3.length:Int)-(1:Int)))<v17.2.1 then (IntKind.i64.wrap ((regs3.length:Int)-(1:Int))) else v17.2.1)).bind fun v18 =>
(idx at12 t44).bind fun v19 =>
bif v17.1 then
((idx inputs4 v17.2.1).bind fun v20 =>
(idx (List.set at12 (t44).toNat v18) t44).bind fun v21 =>
some (.inl (c0,inputs4,p6,t15,t16,t17,t42,t43,t44,regs3,s11,(List.set (List.set at12 (t44).toNat v18) (t44).toNat v20),())))
else
(some (.inl (c0,inputs4,p6,t15,t16,t17,t42,t43,t44,regs3,s11,(List.set at12 (t44).toNat v18),()))):Option (qT18 ⊕ Empty)).bind (Sum.elim (fun d22 =>
some (.inl (d22.1,d22.2.1,d22.2.2.1,d22.2.2.2.1,d22.2.2.2.2.1,d22.2.2.2.2.2.1,d22.2.2.2.2.2.2.1,d22.2.2.2.2.2.2.2.1,(IntKind.i64.wrap (d22.2.2.2.2.2.2.2.2.1+(1:Int))),d22.2.2.2.2.2.2.2.2.2.1,d22.2.2.2.2.2.2.2.2.2.2.1,d22.2.2.2.2.2.2.2.2.2.2.2.1,()))) nof))
else
(some (.inr (.inl (c0,inputs4,p6,t15,t16,t17,regs3,s11,at12,()))))
noncomputable def qcm (self_regs_calc_run:qT6→qT0→(List qT1)→(List Int)→(List Int)→Option (Unit × qT22)) (n:Nat) (d:qT18):Option qT58:=qcl self_regs_calc_run n d.1 d.2.1 d.2.2.1 d.2.2.2.1 d.2.2.2.2.1 d.2.2.2.2.2.1 d.2.2.2.2.2.2.1 d.2.2.2.2.2.2.2.1 d.2.2.2.2.2.2.2.2.1 d.2.2.2.2.2.2.2.2.2.1 d.2.2.2.2.2.2.2.2.2.2.1 d.2.2.2.2.2.2.2.2.2.2.2.1
noncomputable def qcn (self_regs_calc_run:qT6→qT0→(List qT1)→(List Int)→(List Int)→Option (Unit × qT22)) (n:Nat) (c0:qT6) (inputs4:(List Int)) (p6:qT0) (t15:(List qT1)) (t16:Int) (t17:Int) (t24:Int) (t25:Int) (regs3:(List Int)) (s11:qT4):Option (qT34 ⊕ (qT17 ⊕ Empty)) :=
bif (decide (t25<t24)) then
((self_regs_calc_run c0 p6 s11.2.2.2.2.2.2.1 inputs4 regs3).bind fun r38 =>
some (.inl (c0,inputs4,p6,t15,t16,t17,t24,(IntKind.i64.wrap (t25+(1:Int))),r38.2.1,s11,())))
else
(some (.inr (.inl (c0,inputs4,p6,t15,t16,t17,regs3,()))))
noncomputable def qco (self_regs_calc_run:qT6→qT0→(List qT1)→(List Int)→(List Int)→Option (Unit × qT22)) (n:Nat) (d:qT34):Option (qT34 ⊕ (qT17 ⊕ Empty)):=qcn self_regs_calc_run n d.1 d.2.1 d.2.2.1 d.2.2.2.1 d.2.2.2.2.1 d.2.2.2.2.2.1 d.2.2.2.2.2.2.1 d.2.2.2.2.2.2.2.1 d.2.2.2.2.2.2.2.2.1 d.2.2.2.2.2.2.2.2.2.1
noncomputable def qcp (self_regs_calc_run:qT6→qT0→(List qT1)→(List Int)→(List Int)→Option (Unit × qT22)) (n:Nat) (c0:qT6) (inputs4:(List Int)) (p6:qT0) (t15:(List qT1)) (t16:Int) (t17:Int) (regs3:(List Int)):Option (qT17 ⊕ (qT22 ⊕ Empty)) :=
bif (decide (t17<t16)) then
(((idx t15 t17).bind fun v54 =>
bif (decide ((Rose.val v54).1.1=(0:Int))) then
(chk (decide (0≤(((Rose.val v54).1.2.2.2.2.2.1).length:Int))) (chk (decide ((((Rose.val v54).1.2.2.2.2.2.1).length:Int)≤(((Rose.val v54).1.2.2.2.2.2.1).length:Int))) (chk (lenB ((((Rose.val v54).1.2.2.2.2.2.1).length:Int)).toNat) ((iterN (qcm self_regs_calc_run n) n (c0,inputs4,p6,t15,t16,t17,(Rose.val v54).1.2.2.2.2.2.1,(((Rose.val v54).1.2.2.2.2.2.1).length:Int),(0:Int),regs3,((Rose.val v54).1.1,((Rose.val v54).1.2.1,((Rose.val v54).1.2.2.1,((Rose.val v54).1.2.2.2.1,((Rose.val v54).1.2.2.2.2.1,((Rose.val v54).1.2.2.2.2.2.1,((Rose.kids v54),()))))))),(List.replicate ((((Rose.val v54).1.2.2.2.2.2.1).length:Int)).toNat (0:Int)),())).bind (Sum.elim (fun d55 =>
(idx d55.2.2.2.2.2.2.1 d55.2.2.2.2.2.2.2.1.2.1).bind fun v56 =>
(idx d55.2.2.1.2.2.2.1 d55.2.2.2.2.2.2.2.1.2.2.2.1).bind fun v57 =>
(qcj n d55.1 v57 d55.2.2.2.2.2.2.2.2.1).bind fun r58 =>
(qca n d55.1 d55.2.2.2.2.2.2.2.1.2.2.1 r58.1).bind fun r59 =>
(qce n d55.1 v56 r59.1).bind fun r60 =>
(idx d55.2.2.2.2.2.2.1 d55.2.2.2.2.2.2.2.1.2.1).bind fun v61 =>
some (.inl (d55.1,d55.2.1,d55.2.2.1,d55.2.2.2.1,d55.2.2.2.2.1,d55.2.2.2.2.2.1,(List.set d55.2.2.2.2.2.2.1 (d55.2.2.2.2.2.2.2.1.2.1).toNat r60.1),()))) nof)))))
else
(bif (decide ((Rose.val v54).1.1=(1:Int))) then
((idx regs3 (Rose.val v54).1.2.1).bind fun v62 =>
(qca n c0 v62 (Rose.val v54).1.2.2.1).bind fun r63 =>
(idx regs3 (Rose.val v54).1.2.1).bind fun v64 =>
some (.inl (c0,inputs4,p6,t15,t16,t17,(List.set regs3 ((Rose.val v54).1.2.1).toNat r63.1),())))
else
((qck n (Rose.node (((Rose.val v54).1.1,((Rose.val v54).1.2.1,((Rose.val v54).1.2.2.1,((Rose.val v54).1.2.2.2.1,((Rose.val v54).1.2.2.2.2.1,((Rose.val v54).1.2.2.2.2.2.1,())))))),()) (Rose.kids v54))).bind fun r65 =>
(iterN (qco self_regs_calc_run n) n (c0,inputs4,p6,t15,t16,t17,r65.1,(0:Int),regs3,((Rose.val v54).1.1,((Rose.val v54).1.2.1,((Rose.val v54).1.2.2.1,((Rose.val v54).1.2.2.2.1,((Rose.val v54).1.2.2.2.2.1,((Rose.val v54).1.2.2.2.2.2.1,((Rose.kids v54),()))))))),())).bind (Sum.elim (fun d66 =>
some (.inl (d66.1,d66.2.1,d66.2.2.1,d66.2.2.2.1,d66.2.2.2.2.1,d66.2.2.2.2.2.1,d66.2.2.2.2.2.2.1,()))) nof))):Option (qT17 ⊕ Empty)).bind (Sum.elim (fun d67 =>
some (.inl (d67.1,d67.2.1,d67.2.2.1,d67.2.2.2.1,d67.2.2.2.2.1,(IntKind.i64.wrap (d67.2.2.2.2.2.1+(1:Int))),d67.2.2.2.2.2.2.1,()))) nof))
else
(some (.inr (.inl (regs3,()))))
noncomputable def qcq (self_regs_calc_run:qT6→qT0→(List qT1)→(List Int)→(List Int)→Option (Unit × qT22)) (n:Nat) (d:qT17):Option (qT17 ⊕ (qT22 ⊕ Empty)):=qcp self_regs_calc_run n d.1 d.2.1 d.2.2.1 d.2.2.2.1 d.2.2.2.2.1 d.2.2.2.2.2.1 d.2.2.2.2.2.2.1
noncomputable def qcr (self_regs_calc_run:qT6→qT0→(List qT1)→(List Int)→(List Int)→Option (Unit × qT22)) (n:Nat) (c0:qT6) (p1:qT0) (l2:(List qT1)) (inputs4:(List Int)) (regso0:(List Int)):Option (Unit × qT22) :=
(iterN (qcq self_regs_calc_run n) n (c0,inputs4,p1,l2,(l2.length:Int),(0:Int),regso0,())).bind (Sum.elim (fun d68 =>
some ((),(d68.1,()))) nof)
noncomputable def qcs:Nat→qT6→qT0→(List qT1)→(List Int)→(List Int)→Option (Unit × qT22)
  | 0=>fun _ _ _ _ _=>none
  | n+1=>qcr (qcs n) n
noncomputable def qct (n:Nat) (p0:qT0) (regs1:(List Int)) (inputs2:(List Int)):Option ((List Int) × (Int × Unit)) :=
(qbs n p0).bind fun r3 =>
bif (!r3.1) then
(some (([]:(List Int)),((1:Int),())))
else
((qar n p0.1).bind fun r5 =>
(bif (!decide ((regs1.length:Int)=p0.2.1)) then
(some (.inl (regs1,inputs2,p0,true,())))
else
(bif (!decide ((inputs2.length:Int)=p0.2.2.1)) then
(some (.inl (regs1,inputs2,p0,true,())))
else
((qb2 n regs1 (r5.1,())).bind fun r13 =>
bif r13.1 then
(some (.inl (regs1,inputs2,p0,true,())))
else
((qb2 n inputs2 (r5.1,())).bind fun r14 =>
some (.inl (regs1,inputs2,p0,r14.1,()))))):Option (((List Int) × (List Int) × qT0 × Bool × Unit) ⊕ Empty)).bind (Sum.elim (fun d15 =>
bif d15.2.2.2.1 then
(some (([]:(List Int)),((2:Int),())))
else
((qbw n d15.2.2.1.2.2.2.2.1).bind fun r16 =>
bif (decide ((2000000:Int)<r16.1)) then
(some (([]:(List Int)),((5:Int),())))
else
((qb4 n d15.1).bind fun r18 =>
(qb7 n d15.2.2.1.1).bind fun r21 =>
(qcs n r21.1 d15.2.2.1 d15.2.2.1.2.2.2.2.1 d15.2.1 r18.1).bind fun r22 =>
some (r22.2.1,((0:Int),()))))) nof))
noncomputable def qcu (n:Nat) (a0:Int) (most2:Int) (p7:Int) (t8:Int) (t9:Int):Option ((Int × Int × Int × Int × Int × Unit) ⊕ qT67) :=
bif (decide (t9<t8)) then
((bif (decide ((1:Int)<a0)) then
(bif decide (a0=0) then none else
some (.inl (a0,most2,p7,t8,t9,(decide ((IntKind.i64.wrap (Int.tdiv most2 a0))<p7)),())))
else
(some (.inl (a0,most2,p7,t8,t9,false,()))):Option ((Int × Int × Int × Int × Int × Bool × Unit) ⊕ Empty)).bind (Sum.elim (fun d4 =>
bif d4.2.2.2.2.2.1 then
(some (.inr (.inl ((IntKind.i64.wrap (d4.2.1+(1:Int))),()))))
else
(some (.inl (d4.1,d4.2.1,(IntKind.i64.wrap (d4.2.2.1*d4.1)),d4.2.2.2.1,(IntKind.i64.wrap (d4.2.2.2.2.1+(1:Int))),())))) nof))
else
(some (.inr (.inr (.inl (p7,())))))
noncomputable def qcv (n:Nat) (d:(Int × Int × Int × Int × Int × Unit)):Option ((Int × Int × Int × Int × Int × Unit) ⊕ qT67):=qcu n d.1 d.2.1 d.2.2.1 d.2.2.2.1 d.2.2.2.2.1
noncomputable def qcw (n:Nat) (a0:Int) (k1:Int) (most2:Int):Option (Int × Unit) :=
(iterN (qcv n) n (a0,most2,(1:Int),k1,(0:Int),())).bind (Sum.elim (fun d8 =>
some (d8.1,())) (Sum.elim (fun d7 =>
some (d7.1,())) nof))
noncomputable def qcx (n:Nat) (c0:qT6) (a4:Int) (k5:Int) (t12:Int) (t13:Int) (out3:qT9):Option ((qT6 × Int × Int × Int × Int × qT9 × Unit) ⊕ (qT54 ⊕ Empty)) :=
(Option.bind c0 fun p24 =>
bif (decide (k5<p24.2.1)) then
((idx out3 a4).bind fun v25 =>
(idx out3 a4).bind fun v26 =>
(idx v26 (IntKind.i64.wrap (k5-(1:Int)))).bind fun v27 =>
(qca n c0 v27 a4).bind fun r28 =>
(idx v25 k5).bind fun v29 =>
some (.inl (c0,a4,(IntKind.i64.wrap (k5+(1:Int))),t12,t13,(List.modify out3 (a4).toNat fun y=>(List.set y (k5).toNat r28.1)),())))
else
(some (.inr (.inl (c0,t12,t13,out3,())))))
noncomputable def qcy (n:Nat) (d:(qT6 × Int × Int × Int × Int × qT9 × Unit)):Option ((qT6 × Int × Int × Int × Int × qT9 × Unit) ⊕ (qT54 ⊕ Empty)):=qcx n d.1 d.2.1 d.2.2.1 d.2.2.2.1 d.2.2.2.2.1 d.2.2.2.2.2.1
noncomputable def qcz (n:Nat) (c0:qT6) (t12:Int) (t13:Int) (out3:qT9):Option (qT54 ⊕ ((qT9 × Unit) ⊕ Empty)) :=
bif (decide (t13<t12)) then
((Option.bind c0 fun p36 =>
chk (decide (0≤p36.2.1)) (chk (decide (p36.2.1≤p36.2.1)) (chk (lenB (p36.2.1).toNat) ((idx out3 t13).bind fun v37 =>
(idx (List.set out3 (t13).toNat (List.replicate (p36.2.1).toNat (0:Int))) t13).bind fun v38 =>
(idx v38 (0:Int)).bind fun v39 =>
(iterN (qcy n) n (c0,t13,(1:Int),t12,t13,(List.modify (List.set out3 (t13).toNat (List.replicate (p36.2.1).toNat (0:Int))) (t13).toNat fun y=>(List.set y 0 (1:Int))),())).bind (Sum.elim (fun d40 =>
some (.inl (d40.1,d40.2.1,(IntKind.i64.wrap (d40.2.2.1+(1:Int))),d40.2.2.2.1,()))) nof))))))
else
(some (.inr (.inl (out3,()))))
noncomputable def qc0 (n:Nat) (d:qT54):Option (qT54 ⊕ ((qT9 × Unit) ⊕ Empty)):=qcz n d.1 d.2.1 d.2.2.1 d.2.2.2.1
noncomputable def qc1 (n:Nat) (c0:qT6):Option (qT9 × Unit) :=
(Option.bind c0 fun p2 =>
chk (decide (0≤p2.2.1)) (chk (decide (p2.2.1≤p2.2.1)) (chk (lenB (p2.2.1).toNat) ((iterN (qc0 n) n (c0,(((List.replicate (p2.2.1).toNat ([]:(List Int)))).length:Int),(0:Int),(List.replicate (p2.2.1).toNat ([]:(List Int))),())).bind (Sum.elim (fun d42 =>
some (d42.1,())) nof)))))
noncomputable def qc2 (n:Nat) (c0:qT6) (a1:Int) (b2:Int):Option (Int × Unit) :=
(Option.bind c0 fun p3 =>
bif (decide ((1:Int)<p3.1.2.1)) then
(some ((IntKind.i64.wrap ((BitVec.ofInt IntKind.i64.bits a1 ^^^ BitVec.ofInt IntKind.i64.bits b2).toNat)),()))
else
((Option.bind c0 fun p4 =>
(Option.bind c0 fun p5 =>
bif decide (p5.2.1=0) then none else
some ((Int.tmod (IntKind.i64.wrap ((IntKind.i64.wrap (a1-b2))+p4.2.1)) p5.2.1),())))))
noncomputable def qc3 (n:Nat) (c0:qT6) (v2:Int) (q7:Int) (pow8:qT9) (unit10:Int) (i11:Int) (base12:Int) (k15:Int) (n16:Int) (t41:Int) (t42:Int) (t76:Int) (t77:Int) (l9:(List Int)) (t75:(List Int)):Option (qT16 ⊕ (qT15 ⊕ Empty)) :=
bif (decide (t77<t76)) then
(((idx t75 t77).bind fun v27 =>
bif (!decide (v27=(0:Int))) then
((idx pow8 t77).bind fun v28 =>
(idx v28 (IntKind.i64.wrap ((IntKind.i64.wrap (q7-(1:Int)))-k15))).bind fun v29 =>
(qca n c0 v27 v29).bind fun r30 =>
(qc2 n c0 n16 r30.1).bind fun r31 =>
some (.inl (c0,v2,q7,pow8,unit10,i11,base12,k15,r31.1,t41,t42,t76,t77,l9,t75,())))
else
(some (.inl (c0,v2,q7,pow8,unit10,i11,base12,k15,n16,t41,t42,t76,t77,l9,t75,()))):Option (qT16 ⊕ Empty)).bind (Sum.elim (fun d32 =>
some (.inl (d32.1,d32.2.1,d32.2.2.1,d32.2.2.2.1,d32.2.2.2.2.1,d32.2.2.2.2.2.1,d32.2.2.2.2.2.2.1,d32.2.2.2.2.2.2.2.1,d32.2.2.2.2.2.2.2.2.1,d32.2.2.2.2.2.2.2.2.2.1,d32.2.2.2.2.2.2.2.2.2.2.1,d32.2.2.2.2.2.2.2.2.2.2.2.1,(IntKind.i64.wrap (d32.2.2.2.2.2.2.2.2.2.2.2.2.1+(1:Int))),d32.2.2.2.2.2.2.2.2.2.2.2.2.2.1,d32.2.2.2.2.2.2.2.2.2.2.2.2.2.2.1,()))) nof))
else
(some (.inr (.inl (c0,v2,q7,pow8,unit10,i11,base12,k15,n16,t41,t42,l9,t75,()))))
noncomputable def qc4 (n:Nat) (d:qT16):Option (qT16 ⊕ (qT15 ⊕ Empty)):=qc3 n d.1 d.2.1 d.2.2.1 d.2.2.2.1 d.2.2.2.2.1 d.2.2.2.2.2.1 d.2.2.2.2.2.2.1 d.2.2.2.2.2.2.2.1 d.2.2.2.2.2.2.2.2.1 d.2.2.2.2.2.2.2.2.2.1 d.2.2.2.2.2.2.2.2.2.2.1 d.2.2.2.2.2.2.2.2.2.2.2.1 d.2.2.2.2.2.2.2.2.2.2.2.2.1 d.2.2.2.2.2.2.2.2.2.2.2.2.2.1 d.2.2.2.2.2.2.2.2.2.2.2.2.2.2.1
noncomputable def qc5 (n:Nat) (c0:qT6) (v2:Int) (q7:Int) (pow8:qT9) (unit10:Int) (i11:Int) (base12:Int) (k15:Int) (t41:Int) (t42:Int) (l9:(List Int)) (row13:(List Int)):Option (qT33 ⊕ qT20) :=
bif (decide (k15<q7)) then
((iterN (qc4 n) n (c0,v2,q7,pow8,unit10,i11,base12,k15,(0:Int),t41,t42,(row13.length:Int),(0:Int),l9,row13,())).bind (Sum.elim (fun d38 =>
(idx d38.2.2.2.2.2.2.2.2.2.2.2.1 (IntKind.i64.wrap (d38.2.2.2.2.2.2.1+(IntKind.i64.wrap (d38.2.2.2.2.2.2.2.1*d38.2.2.2.2.1))))).bind fun v39 =>
some (.inl (d38.1,d38.2.1,d38.2.2.1,d38.2.2.2.1,d38.2.2.2.2.1,d38.2.2.2.2.2.1,d38.2.2.2.2.2.2.1,(IntKind.i64.wrap (d38.2.2.2.2.2.2.2.1+(1:Int))),d38.2.2.2.2.2.2.2.2.2.1,d38.2.2.2.2.2.2.2.2.2.2.1,(List.set d38.2.2.2.2.2.2.2.2.2.2.2.1 ((IntKind.i64.wrap (d38.2.2.2.2.2.2.1+(IntKind.i64.wrap (d38.2.2.2.2.2.2.2.1*d38.2.2.2.2.1))))).toNat d38.2.2.2.2.2.2.2.2.1),d38.2.2.2.2.2.2.2.2.2.2.2.2.1,()))) nof))
else
(some (.inr (.inl (c0,v2,q7,pow8,unit10,i11,base12,t41,t42,l9,row13,()))))
noncomputable def qc6 (n:Nat) (d:qT33):Option (qT33 ⊕ qT20):=qc5 n d.1 d.2.1 d.2.2.1 d.2.2.2.1 d.2.2.2.2.1 d.2.2.2.2.2.1 d.2.2.2.2.2.2.1 d.2.2.2.2.2.2.2.1 d.2.2.2.2.2.2.2.2.1 d.2.2.2.2.2.2.2.2.2.1 d.2.2.2.2.2.2.2.2.2.2.1 d.2.2.2.2.2.2.2.2.2.2.2.1
noncomputable def qc7 (n:Nat) (c0:qT6) (v2:Int) (q7:Int) (pow8:qT9) (unit10:Int) (i11:Int) (base12:Int) (t41:Int) (t42:Int) (t54:Int) (t55:Int) (l9:(List Int)) (row13:(List Int)):Option (qT15 ⊕ qT20) :=
bif (decide (t55<t54)) then
((idx l9 (IntKind.i64.wrap (base12+(IntKind.i64.wrap (t55*unit10))))).bind fun v11 =>
(idx row13 t55).bind fun v12 =>
some (.inl (c0,v2,q7,pow8,unit10,i11,base12,t41,t42,t54,(IntKind.i64.wrap (t55+(1:Int))),l9,(List.set row13 (t55).toNat v11),())))
else
(some (.inr (.inl (c0,v2,q7,pow8,unit10,i11,base12,t41,t42,l9,row13,()))))
noncomputable def qc8 (n:Nat) (d:qT15):Option (qT15 ⊕ qT20):=qc7 n d.1 d.2.1 d.2.2.1 d.2.2.2.1 d.2.2.2.2.1 d.2.2.2.2.2.1 d.2.2.2.2.2.2.1 d.2.2.2.2.2.2.2.1 d.2.2.2.2.2.2.2.2.1 d.2.2.2.2.2.2.2.2.2.1 d.2.2.2.2.2.2.2.2.2.2.1 d.2.2.2.2.2.2.2.2.2.2.2.1 d.2.2.2.2.2.2.2.2.2.2.2.2.1
noncomputable def qc9 (n:Nat) (v2:Int) (q7:Int) (k20:Int) (x21:Int) (i23:Int) (t116:(List Int)) (t117:Int) (t118:Int) (out19:qT3) (e22:(List Int)):Option qT37 :=
bif (decide ((0:Int)≤i23)) then
(bif decide (q7=0) then none else
(idx e22 i23).bind fun v64 =>
bif decide (q7=0) then none else
some (.inl (v2,q7,(IntKind.i64.wrap (Int.tdiv k20 q7)),x21,(IntKind.i64.wrap (i23-(1:Int))),t116,t117,t118,out19,(List.set e22 (i23).toNat (Int.tmod k20 q7)),())))
else
(some (.inr (.inl (v2,q7,x21,t116,t117,t118,out19,e22,()))))
noncomputable def qda (n:Nat) (d:(Int × Int × Int × Int × Int × (List Int) × Int × Int × qT3 × (List Int) × Unit)):Option qT37:=qc9 n d.1 d.2.1 d.2.2.1 d.2.2.2.1 d.2.2.2.2.1 d.2.2.2.2.2.1 d.2.2.2.2.2.2.1 d.2.2.2.2.2.2.2.1 d.2.2.2.2.2.2.2.2.1 d.2.2.2.2.2.2.2.2.2.1
noncomputable def qdb (n:Nat) (c0:qT6) (v2:Int) (q7:Int) (pow8:qT9) (unit10:Int) (i11:Int) (t41:Int) (t42:Int) (l9:(List Int)):Option (qT32 ⊕ (qT30 ⊕ Empty)) :=
bif (decide (t42<t41)) then
((bif decide (unit10=0) then none else
bif decide (q7=0) then none else
bif (!decide ((Int.tmod (IntKind.i64.wrap (Int.tdiv t42 unit10)) q7)=(0:Int))) then
(some (.inl (c0,v2,q7,pow8,unit10,i11,t41,t42,l9,())))
else
(chk (decide (0≤q7)) (chk (decide (q7≤q7)) (chk (lenB (q7).toNat) ((iterN (qc8 n) n (c0,v2,q7,pow8,unit10,i11,t42,t41,t42,(((List.replicate (q7).toNat (0:Int))).length:Int),(0:Int),l9,(List.replicate (q7).toNat (0:Int)),())).bind (Sum.elim (fun d49 =>
(iterN (qc6 n) n (d49.1,d49.2.1,d49.2.2.1,d49.2.2.2.1,d49.2.2.2.2.1,d49.2.2.2.2.2.1,d49.2.2.2.2.2.2.1,(1:Int),d49.2.2.2.2.2.2.2.1,d49.2.2.2.2.2.2.2.2.1,d49.2.2.2.2.2.2.2.2.2.1,d49.2.2.2.2.2.2.2.2.2.2.1,())).bind (Sum.elim (fun d50 =>
(idx d50.2.2.2.2.2.2.2.2.2.2.1 (0:Int)).bind fun v51 =>
(idx d50.2.2.2.2.2.2.2.2.2.1 d50.2.2.2.2.2.2.1).bind fun v52 =>
some (.inl (d50.1,d50.2.1,d50.2.2.1,d50.2.2.2.1,d50.2.2.2.2.1,d50.2.2.2.2.2.1,d50.2.2.2.2.2.2.2.1,d50.2.2.2.2.2.2.2.2.1,(List.set d50.2.2.2.2.2.2.2.2.2.1 (d50.2.2.2.2.2.2.1).toNat v51),()))) nof)) nof))))):Option (qT32 ⊕ Empty)).bind (Sum.elim (fun d53 =>
some (.inl (d53.1,d53.2.1,d53.2.2.1,d53.2.2.2.1,d53.2.2.2.2.1,d53.2.2.2.2.2.1,d53.2.2.2.2.2.2.1,(IntKind.i64.wrap (d53.2.2.2.2.2.2.2.1+(1:Int))),d53.2.2.2.2.2.2.2.2.1,()))) nof))
else
(some (.inr (.inl (c0,v2,q7,pow8,unit10,i11,l9,()))))
noncomputable def qdc (n:Nat) (d:qT32):Option (qT32 ⊕ (qT30 ⊕ Empty)):=qdb n d.1 d.2.1 d.2.2.1 d.2.2.2.1 d.2.2.2.2.1 d.2.2.2.2.2.1 d.2.2.2.2.2.2.1 d.2.2.2.2.2.2.2.1 d.2.2.2.2.2.2.2.2.1
noncomputable def qdd (n:Nat) (v2:Int) (q7:Int) (t116:(List Int)) (t117:Int) (t118:Int) (out19:qT3):Option (qT42 ⊕ ((qT3 × Unit) ⊕ Empty)) :=
bif (decide (t118<t117)) then
(((idx t116 t118).bind fun v70 =>
bif (decide (v70=(0:Int))) then
(some (.inl (v2,q7,t116,t117,t118,out19,())))
else
(chk (decide (0≤v2)) (chk (decide (v2≤v2)) (chk (lenB (v2).toNat) ((iterN (qda n) n (v2,q7,t118,v70,(IntKind.i64.wrap (v2-(1:Int))),t116,t117,t118,out19,(List.replicate (v2).toNat (0:Int)),())).bind (Sum.elim (fun d71 =>
chk (lenB ((d71.2.2.2.2.2.2.1).length+([(d71.2.2.1,(d71.2.2.2.2.2.2.2.1,()))]).length)) (some (.inl (d71.1,d71.2.1,d71.2.2.2.1,d71.2.2.2.2.1,d71.2.2.2.2.2.1,(d71.2.2.2.2.2.2.1++[(d71.2.2.1,(d71.2.2.2.2.2.2.2.1,()))]),())))) nof))))):Option (qT42 ⊕ Empty)).bind (Sum.elim (fun d72 =>
some (.inl (d72.1,d72.2.1,d72.2.2.1,d72.2.2.2.1,(IntKind.i64.wrap (d72.2.2.2.2.1+(1:Int))),d72.2.2.2.2.2.1,()))) nof))
else
(some (.inr (.inl (out19,()))))
noncomputable def qde (n:Nat) (d:qT42):Option (qT42 ⊕ ((qT3 × Unit) ⊕ Empty)):=qdd n d.1 d.2.1 d.2.2.1 d.2.2.2.1 d.2.2.2.2.1 d.2.2.2.2.2.1
noncomputable def qdf (n:Nat) (c0:qT6) (v2:Int) (q7:Int) (pow8:qT9) (unit10:Int) (i11:Int) (l9:(List Int)):Option (qT30 ⊕ ((Int × Int × (List Int) × Unit) ⊕ Empty)) :=
bif (decide (i11<v2)) then
((iterN (qdc n) n (c0,v2,q7,pow8,unit10,i11,(l9.length:Int),(0:Int),l9,())).bind (Sum.elim (fun d56 =>
some (.inl (d56.1,d56.2.1,d56.2.2.1,d56.2.2.2.1,(IntKind.i64.wrap (d56.2.2.2.2.1*d56.2.2.1)),(IntKind.i64.wrap (d56.2.2.2.2.2.1+(1:Int))),d56.2.2.2.2.2.2.1,()))) nof))
else
(some (.inr (.inl (v2,q7,l9,()))))
noncomputable def qdg (n:Nat) (d:qT30):Option (qT30 ⊕ ((Int × Int × (List Int) × Unit) ⊕ Empty)):=qdf n d.1 d.2.1 d.2.2.1 d.2.2.2.1 d.2.2.2.2.1 d.2.2.2.2.2.1 d.2.2.2.2.2.2.1
noncomputable def qdh (n:Nat) (c0:qT6) (values1:(List Int)) (v2:Int):Option (qT3 × Unit) :=
(Option.bind c0 fun p2 =>
(qc1 n c0).bind fun r4 =>
(qb4 n values1).bind fun r6 =>
(iterN (qdg n) n (c0,v2,p2.2.1,r4.1,(1:Int),(0:Int),r6.1,())).bind (Sum.elim (fun d58 =>
(iterN (qde n) n (d58.1,d58.2.1,d58.2.2.1,(d58.2.2.1.length:Int),(0:Int),([]:qT3),())).bind (Sum.elim (fun d74 =>
some (d74.1,())) nof)) nof))
noncomputable def qdi (n:Nat) (c0:qT6) (p4:qT0) (v7:Int) (k11:Int) (t41:Int) (t42:Int) (t82:(List Int)) (t83:Int) (t84:Int) (tables8:qT9) (at10:(List Int)):Option (qT35 ⊕ (qT31 ⊕ Empty)) :=
bif (decide (t84<t83)) then
((idx t82 t84).bind fun v27 =>
(idx tables8 t84).bind fun v28 =>
(idx v28 k11).bind fun v29 =>
some (.inl (c0,p4,v7,k11,t41,t42,t82,t83,(IntKind.i64.wrap (t84+(1:Int))),(List.modify tables8 (t84).toNat fun y=>(List.set y (k11).toNat v27)),at10,())))
else
(some (.inr (.inl (c0,p4,v7,t41,t42,tables8,at10,()))))
noncomputable def qdj (n:Nat) (d:qT35):Option (qT35 ⊕ (qT31 ⊕ Empty)):=qdi n d.1 d.2.1 d.2.2.1 d.2.2.2.1 d.2.2.2.2.1 d.2.2.2.2.2.1 d.2.2.2.2.2.2.1 d.2.2.2.2.2.2.2.1 d.2.2.2.2.2.2.2.2.1 d.2.2.2.2.2.2.2.2.2.1 d.2.2.2.2.2.2.2.2.2.2.1
noncomputable def qdk (n:Nat) (c0:qT6) (p4:qT0) (v7:Int) (k11:Int) (i12:Int) (x13:Int) (t41:Int) (t42:Int) (tables8:qT9) (at10:(List Int)):Option qT40 :=
bif (decide ((0:Int)≤i12)) then
((Option.bind c0 fun p11 =>
bif decide (p11.2.1=0) then none else
(idx at10 i12).bind fun v12 =>
(Option.bind c0 fun p13 =>
bif decide (p13.2.1=0) then none else
some (.inl (c0,p4,v7,k11,(IntKind.i64.wrap (i12-(1:Int))),(IntKind.i64.wrap (Int.tdiv x13 p13.2.1)),t41,t42,tables8,(List.set at10 (i12).toNat (Int.tmod x13 p11.2.1)),())))))
else
(some (.inr (.inl (c0,p4,v7,k11,t41,t42,tables8,at10,()))))
noncomputable def qdl (n:Nat) (d:(qT6 × qT0 × Int × Int × Int × Int × Int × Int × qT9 × (List Int) × Unit)):Option qT40:=qdk n d.1 d.2.1 d.2.2.1 d.2.2.2.1 d.2.2.2.2.1 d.2.2.2.2.2.1 d.2.2.2.2.2.2.1 d.2.2.2.2.2.2.2.1 d.2.2.2.2.2.2.2.2.1 d.2.2.2.2.2.2.2.2.2.1
noncomputable def qdm (n:Nat) (c0:qT6) (v7:Int) (t98:qT9) (t99:Int) (t100:Int) (out17:(List qT3)):Option (qT66 ⊕ (((List qT3) × Unit) ⊕ Empty)) :=
bif (decide (t100<t99)) then
((idx t98 t100).bind fun v46 =>
(qdh n c0 v46 v7).bind fun r47 =>
chk (lenB ((out17).length+([r47.1]).length)) (some (.inl (c0,v7,t98,t99,(IntKind.i64.wrap (t100+(1:Int))),(out17++[r47.1]),()))))
else
(some (.inr (.inl (out17,()))))
noncomputable def qdn (n:Nat) (d:qT66):Option (qT66 ⊕ (((List qT3) × Unit) ⊕ Empty)):=qdm n d.1 d.2.1 d.2.2.1 d.2.2.2.1 d.2.2.2.2.1 d.2.2.2.2.2.1
noncomputable def qdo (n:Nat) (c0:qT6) (p4:qT0) (v7:Int) (t41:Int) (t42:Int) (tables8:qT9) (at10:(List Int)):Option (qT31 ⊕ ((qT6 × Int × qT9 × Unit) ⊕ Empty)) :=
bif (decide (t42<t41)) then
((iterN (qdl n) n (c0,p4,v7,t42,(IntKind.i64.wrap (v7-(1:Int))),t42,t41,t42,tables8,at10,())).bind (Sum.elim (fun d35 =>
chk (decide (0≤(0:Int))) (chk (decide ((0:Int)≤d35.2.1.2.1)) (chk (decide (d35.2.1.2.1≤(d35.2.2.2.2.2.2.2.1.length:Int))) ((qb4 n (subs d35.2.2.2.2.2.2.2.1 0 (d35.2.1.2.1).toNat)).bind fun r36 =>
chk (decide (0≤d35.2.1.2.1)) (chk (decide (d35.2.1.2.1≤(d35.2.2.2.2.2.2.2.1.length:Int))) (chk (decide ((d35.2.2.2.2.2.2.2.1.length:Int)≤(d35.2.2.2.2.2.2.2.1.length:Int))) ((qcs n d35.1 d35.2.1 d35.2.1.2.2.2.2.1 (subs d35.2.2.2.2.2.2.2.1 (d35.2.1.2.1).toNat ((d35.2.2.2.2.2.2.2.1.length:Int)).toNat) r36.1).bind fun r37 =>
(iterN (qdj n) n (d35.1,d35.2.1,d35.2.2.1,d35.2.2.2.1,d35.2.2.2.2.1,d35.2.2.2.2.2.1,r37.2.1,(r37.2.1.length:Int),(0:Int),d35.2.2.2.2.2.2.1,d35.2.2.2.2.2.2.2.1,())).bind (Sum.elim (fun d38 =>
some (.inl (d38.1,d38.2.1,d38.2.2.1,d38.2.2.2.1,(IntKind.i64.wrap (d38.2.2.2.2.1+(1:Int))),d38.2.2.2.2.2.1,d38.2.2.2.2.2.2.1,()))) nof)))))))) nof))
else
(some (.inr (.inl (c0,v7,tables8,()))))
noncomputable def qdp (n:Nat) (d:qT31):Option (qT31 ⊕ ((qT6 × Int × qT9 × Unit) ⊕ Empty)):=qdo n d.1 d.2.1 d.2.2.1 d.2.2.2.1 d.2.2.2.2.1 d.2.2.2.2.2.1 d.2.2.2.2.2.2.1
noncomputable def qdq (n:Nat) (c0:qT6) (points2:Int) (p4:qT0) (v7:Int) (t29:Int) (t30:Int) (tables8:qT9):Option qT61 :=
bif (decide (t30<t29)) then
(chk (decide (0≤points2)) (chk (decide (points2≤points2)) (chk (lenB (points2).toNat) ((idx tables8 t30).bind fun v3 =>
some (.inl (c0,points2,p4,v7,t29,(IntKind.i64.wrap (t30+(1:Int))),(List.set tables8 (t30).toNat (List.replicate (points2).toNat (0:Int))),()))))))
else
(some (.inr (.inl (c0,points2,p4,v7,tables8,()))))
noncomputable def qdr (n:Nat) (d:(qT6 × Int × qT0 × Int × Int × Int × qT9 × Unit)):Option qT61:=qdq n d.1 d.2.1 d.2.2.1 d.2.2.2.1 d.2.2.2.2.1 d.2.2.2.2.2.1 d.2.2.2.2.2.2.1
noncomputable def qds (n:Nat) (c0:qT6) (p1:qT0) (points2:Int):Option ((List qT3) × Unit) :=
chk (decide (0≤p1.2.1)) (chk (decide (p1.2.1≤p1.2.1)) (chk (lenB (p1.2.1).toNat) ((iterN (qdr n) n (c0,points2,p1,(IntKind.i64.wrap (p1.2.1+p1.2.2.1)),(((List.replicate (p1.2.1).toNat ([]:(List Int)))).length:Int),(0:Int),(List.replicate (p1.2.1).toNat ([]:(List Int))),())).bind (Sum.elim (fun d5 =>
chk (decide (0≤d5.2.2.2.1)) (chk (decide (d5.2.2.2.1≤d5.2.2.2.1)) (chk (lenB (d5.2.2.2.1).toNat) ((iterN (qdp n) n (d5.1,d5.2.2.1,d5.2.2.2.1,d5.2.1,(0:Int),d5.2.2.2.2.1,(List.replicate (d5.2.2.2.1).toNat (0:Int)),())).bind (Sum.elim (fun d40 =>
(iterN (qdn n) n (d40.1,d40.2.1,d40.2.2.1,(d40.2.2.1.length:Int),(0:Int),([]:(List qT3)),())).bind (Sum.elim (fun d49 =>
some (d49.1,())) nof)) nof))))) nof))))
noncomputable def qdt (n:Nat) (xo0:(List qT3)) (xo1:Int):Option (Unit × ((List qT3) × Int × Unit)) :=
some ((),(([]:(List qT3)),((5:Int),())))
noncomputable def qdu (n:Nat) (xo0:(List qT3)) (xo1:Int):Option (Unit × ((List qT3) × Int × Unit)) :=
some ((),(xo0,(xo1,())))
noncomputable def qdv (n:Nat) (p3:qT0) (t25:Int) (t26:Int) (out4:(List qT3)) (e5:Int) (s6:qT13):Option qT59 :=
bif (decide (t26<t25)) then
(none)
else
(some (.inr (.inl (p3,out4,e5,s6,()))))
noncomputable def qdw (n:Nat) (d:(qT0 × Int × Int × (List qT3) × Int × qT13 × Unit)):Option qT59:=qdv n d.1 d.2.1 d.2.2.1 d.2.2.2.1 d.2.2.2.2.1 d.2.2.2.2.2.1
noncomputable def qdx (n:Nat) (p3:qT0) (out4:(List qT3)) (e5:Int) (s6:qT13):Option ((List qT3) × (Int × Unit)) :=
none
noncomputable def qdy (n:Nat) (d:(qT0 × (List qT3) × Int × qT13 × Unit)):Option ((List qT3) × (Int × Unit)):=qdx n d.1 d.2.1 d.2.2.1 d.2.2.2.1
noncomputable def qdz (n:Nat) (c0:qT6) (p1:qT0):Option ((List qT3) × (Int × Unit)) :=
(iterN (qdw n) n (p1,p1.2.1,(0:Int),([]:(List qT3)),(0:Int),(c0,(p1,(([]:(List (Option (List (ByteArray × Int))))),((IntKind.i64.wrap (p1.2.1+p1.2.2.1)),((0:Int),()))))),())).bind (Sum.elim (fun d3 =>
qdy n (d3.1,d3.2.1,d3.2.2.1,d3.2.2.2.1,())) nof)
noncomputable def qd0 (n:Nat) (p0:qT0):Option ((List qT3) × (Int × Unit)) :=
(qbs n p0).bind fun r3 =>
bif (!r3.1) then
(some (([]:(List qT3)),((1:Int),())))
else
((qbw n p0.2.2.2.2.1).bind fun r5 =>
(bif (decide ((200000:Int)<r5.1)) then
(some (.inl (p0,(IntKind.i64.wrap (p0.2.1+p0.2.2.1)),r5.1,true,())))
else
(some (.inl (p0,(IntKind.i64.wrap (p0.2.1+p0.2.2.1)),r5.1,(decide ((64:Int)<(IntKind.i64.wrap (p0.2.1+p0.2.2.1)))),()))):Option ((qT0 × Int × Int × Bool × Unit) ⊕ Empty)).bind (Sum.elim (fun d7 =>
bif d7.2.2.2.1 then
(some (([]:(List qT3)),((5:Int),())))
else
((qb7 n d7.1.1).bind fun r9 =>
(Option.bind r9.1 fun p16 =>
(qcw n p16.2.1 d7.2.1 (4096:Int)).bind fun r17 =>
(bif (decide (r17.1≤(4096:Int))) then
(some (.inl (d7.1,r9.1,r17.1,(decide (d7.2.2.1≤(4000:Int))),())))
else
(some (.inl (d7.1,r9.1,r17.1,false,()))):Option ((qT0 × qT6 × Int × Bool × Unit) ⊕ Empty)).bind (Sum.elim (fun d18 =>
bif d18.2.2.2.1 then
((qds n d18.2.1 d18.1 d18.2.2.1).bind fun r19 =>
some (r19.1,((0:Int),())))
else
((qdz n d18.2.1 d18.1).bind fun r20 =>
some (r20.1,(r20.2.1,())))) nof)))) nof))
noncomputable def qd1 (n:Nat) (i1:Int) (t20:(List Int)) (t21:Int) (t22:Int):Option ((Int × (List Int) × Int × Int × Unit) ⊕ qT12) :=
bif (decide (t22<t21)) then
((idx t20 t22).bind fun v13 =>
(bif (decide (t22=i1)) then
(bif (!decide (v13=(1:Int))) then
(some (.inl (i1,t20,t21,t22,true,())))
else
(bif (!decide (t22=i1)) then
(some (.inl (i1,t20,t21,t22,(!decide (v13=(0:Int))),())))
else
(some (.inl (i1,t20,t21,t22,false,())))))
else
(bif (!decide (t22=i1)) then
(some (.inl (i1,t20,t21,t22,(!decide (v13=(0:Int))),())))
else
(some (.inl (i1,t20,t21,t22,false,())))):Option ((Int × (List Int) × Int × Int × Bool × Unit) ⊕ Empty)).bind (Sum.elim (fun d14 =>
bif d14.2.2.2.2.1 then
(some (.inr (.inl (false,()))))
else
(some (.inl (d14.1,d14.2.1,d14.2.2.1,(IntKind.i64.wrap (d14.2.2.2.1+(1:Int))),())))) nof))
else
(some (.inr (.inr (.inl (())))))
noncomputable def qd2 (n:Nat) (d:(Int × (List Int) × Int × Int × Unit)):Option ((Int × (List Int) × Int × Int × Unit) ⊕ qT12):=qd1 n d.1 d.2.1 d.2.2.1 d.2.2.2.1
noncomputable def qd3 (n:Nat) (p0:qT3) (i1:Int):Option (Bool × Unit) :=
(bif (!decide ((p0.length:Int)=(1:Int))) then
(some (.inl (p0,i1,true,())))
else
((idx p0 (0:Int)).bind fun v4 =>
some (.inl (p0,i1,(!decide (v4.1=(1:Int))),()))):Option ((qT3 × Int × Bool × Unit) ⊕ Empty)).bind (Sum.elim (fun d5 =>
bif d5.2.2.1 then
(some (false,()))
else
((idx d5.1 (0:Int)).bind fun v17 =>
(iterN (qd2 n) n (d5.2.1,v17.2.1,(v17.2.1.length:Int),(0:Int),())).bind (Sum.elim (fun d19 =>
some (d19.1,())) (Sum.elim (fun d18 =>
some (true,())) nof)))) nof)
noncomputable def qd4 (n:Nat) (t17:(List qT3)) (t18:Int) (t19:Int) (out6:(List Bool)):Option (qT70 ⊕ (((List Bool) × Unit) ⊕ Empty)) :=
bif (decide (t19<t18)) then
((idx t17 t19).bind fun v8 =>
(qd3 n v8 t19).bind fun r9 =>
chk (lenB ((out6).length+([r9.1]).length)) (some (.inl (t17,t18,(IntKind.i64.wrap (t19+(1:Int))),(out6++[r9.1]),()))))
else
(some (.inr (.inl (out6,()))))
noncomputable def qd5 (n:Nat) (d:qT70):Option (qT70 ⊕ (((List Bool) × Unit) ⊕ Empty)):=qd4 n d.1 d.2.1 d.2.2.1 d.2.2.2.1
noncomputable def qd6 (n:Nat) (p0:qT0):Option ((List Bool) × (Int × Unit)) :=
(qd0 n p0).bind fun r2 =>
bif (!decide (r2.2.1=(0:Int))) then
(some (([]:(List Bool)),(r2.2.1,())))
else
((iterN (qd5 n) n (r2.1,(r2.1.length:Int),(0:Int),([]:(List Bool)),())).bind (Sum.elim (fun d11 =>
some (d11.1,((0:Int),()))) nof))
noncomputable def qd7 (n:Nat) (a0:(List Int)) (b1:(List Int)) (i5:Int):Option (qT36 ⊕ qT12) :=
bif (decide (i5<(a0.length:Int))) then
((idx a0 i5).bind fun v7 =>
(idx b1 i5).bind fun v8 =>
bif (!decide (v7=v8)) then
(some (.inr (.inl (false,()))))
else
(some (.inl (a0,b1,(IntKind.i64.wrap (i5+(1:Int))),()))))
else
(some (.inr (.inr (.inl (())))))
noncomputable def qd8 (n:Nat) (d:qT36):Option (qT36 ⊕ qT12):=qd7 n d.1 d.2.1 d.2.2.1
noncomputable def qd9 (n:Nat) (a0:(List Int)) (b1:(List Int)):Option (Bool × Unit) :=
bif (!decide ((a0.length:Int)=(b1.length:Int))) then
(some (false,()))
else
((iterN (qd8 n) n (a0,b1,(0:Int),())).bind (Sum.elim (fun d12 =>
some (d12.1,())) (Sum.elim (fun d11 =>
some (true,())) nof)))
noncomputable def qea (n:Nat) :Option (Bool × Unit) :=
(qal n).bind fun r3 =>
(qbx n r3.1).bind fun r4 =>
(qal n).bind fun r7 =>
(qct n r7.1 ([(1:Int),(1:Int),(0:Int)]) ([(1:Int),(1:Int)])).bind fun r8 =>
(qal n).bind fun r11 =>
(qd6 n r11.1).bind fun r12 =>
(qal n).bind fun r13 =>
(qbs n r13.1).bind fun r14 =>
bif r14.1 then
(bif (decide (r4.2.1=(0:Int))) then
(bif (decide (r4.1=(4:Int))) then
(bif (decide (r8.2.1=(0:Int))) then
((qd9 n r8.1 ([(1:Int),(1:Int),(1:Int)])).bind fun r15 =>
bif r15.1 then
(bif (decide (r12.2.1=(0:Int))) then
(bif (decide ((r12.1.length:Int)=(3:Int))) then
((idx r12.1 (0:Int)).bind fun v16 =>
bif v16 then
((idx r12.1 (1:Int)).bind fun v17 =>
bif v17 then
((idx r12.1 (2:Int)).bind fun v18 =>
some ((!v18),()))
else
(some (false,())))
else
(some (false,())))
else
(some (false,())))
else
(some (false,())))
else
(some (false,())))
else
(some (false,())))
else
(some (false,())))
else
(some (false,())))
else
(some (false,()))
noncomputable def qeb (n:Nat) (n0:Int) (d3:Int):Option (qT25 ⊕ qT12) :=
bif (decide ((IntKind.i64.wrap (d3*d3))≤n0)) then
(bif decide (d3=0) then none else
bif (decide ((Int.tmod n0 d3)=(0:Int))) then
(some (.inr (.inl (false,()))))
else
(some (.inl (n0,(IntKind.i64.wrap (d3+(1:Int))),()))))
else
(some (.inr (.inr (.inl (())))))
noncomputable def qec (n:Nat) (d:qT25):Option (qT25 ⊕ qT12):=qeb n d.1 d.2.1
noncomputable def qed (n:Nat) (n0:Int):Option (Bool × Unit) :=
(bif (decide (n0<(2:Int))) then
(some (.inl (n0,true,())))
else
(some (.inl (n0,(decide ((65536:Int)<n0)),()))):Option ((Int × Bool × Unit) ⊕ Empty)).bind (Sum.elim (fun d2 =>
bif d2.2.1 then
(some (false,()))
else
((iterN (qec n) n (d2.1,(2:Int),())).bind (Sum.elim (fun d6 =>
some (d6.1,())) (Sum.elim (fun d5 =>
some (true,())) nof)))) nof)
noncomputable def qee (n:Nat) (f0:qT2):Option (Bool × Unit) :=
((qed n f0.1).bind fun r4 =>
bif (!r4.1) then
(some (.inl (f0,true,())))
else
(bif (decide (f0.2.1<(1:Int))) then
(some (.inl (f0,true,())))
else
(bif (decide ((16:Int)<f0.2.1)) then
(some (.inl (f0,true,())))
else
(bif (decide ((1:Int)<f0.2.1)) then
(some (.inl (f0,(!decide (f0.1=(2:Int))),())))
else
(some (.inl (f0,false,())))))):Option ((qT2 × Bool × Unit) ⊕ Empty)).bind (Sum.elim (fun d5 =>
bif d5.2.1 then
(some (false,()))
else
(bif (decide (d5.1.2.1=(1:Int))) then
(some (true,()))
else
(bif decide (d5.1.2.1<0) then none else
some ((decide ((IntKind.i64.wrap ((1:Int)*2 ^ (min (d5.1.2.1).toNat IntKind.i64.bits)))≤(65536:Int))),())))) nof)
noncomputable def qef (n:Nat) (a0:Int) (d3:Int):Option (qT25 ⊕ qT10) :=
bif (decide ((0:Int)<a0)) then
(bif decide ((1:Int)<0) then none else
some (.inl ((Int.fdiv a0 (2 ^ (min ((1:Int)).toNat IntKind.i64.bits))),(IntKind.i64.wrap (d3+(1:Int))),())))
else
(some (.inr (.inl (d3,()))))
noncomputable def qeg (n:Nat) (d:qT25):Option (qT25 ⊕ qT10):=qef n d.1 d.2.1
noncomputable def qeh (n:Nat) (a0:Int):Option (Int × Unit) :=
(iterN (qeg n) n (a0,(-1:Int),())).bind (Sum.elim (fun d2 =>
some (d2.1,())) nof)
noncomputable def qei (n:Nat) (a0:Int) (b1:Int):Option (qT25 ⊕ qT10) :=
(qeh n a0).bind fun r9 =>
(qeh n b1).bind fun r10 =>
bif (decide (r10.1≤r9.1)) then
((qeh n a0).bind fun r11 =>
(qeh n b1).bind fun r12 =>
bif decide ((IntKind.i64.wrap (r11.1-r12.1))<0) then none else
some (.inl ((IntKind.i64.wrap ((BitVec.ofInt IntKind.i64.bits a0 ^^^ BitVec.ofInt IntKind.i64.bits (IntKind.i64.wrap (b1*2 ^ (min ((IntKind.i64.wrap (r11.1-r12.1))).toNat IntKind.i64.bits)))).toNat)),b1,())))
else
(some (.inr (.inl (a0,()))))
noncomputable def qej (n:Nat) (d:qT25):Option (qT25 ⊕ qT10):=qei n d.1 d.2.1
noncomputable def qek (n:Nat) (a0:Int) (b1:Int):Option (Int × Unit) :=
(iterN (qej n) n (a0,b1,())).bind (Sum.elim (fun d14 =>
some (d14.1,())) nof)
noncomputable def qel (n:Nat) (a0:Int) (b3:Int):Option (qT25 ⊕ qT12) :=
(qeh n b3).bind fun r10 =>
(qeh n a0).bind fun r11 =>
bif (decide ((IntKind.i64.wrap ((2:Int)*r10.1))≤r11.1)) then
((qek n a0 b3).bind fun r12 =>
bif (decide (r12.1=(0:Int))) then
(some (.inr (.inl (false,()))))
else
(some (.inl (a0,(IntKind.i64.wrap (b3+(2:Int))),()))))
else
(some (.inr (.inr (.inl (())))))
noncomputable def qem (n:Nat) (d:qT25):Option (qT25 ⊕ qT12):=qel n d.1 d.2.1
noncomputable def qen (n:Nat) (a0:Int):Option (Bool × Unit) :=
bif (decide ((IntKind.i64.wrap ((BitVec.ofInt IntKind.i64.bits a0 &&& BitVec.ofInt IntKind.i64.bits (1:Int)).toNat))=(0:Int))) then
(some ((decide (a0=(2:Int))),()))
else
((iterN (qem n) n (a0,(3:Int),())).bind (Sum.elim (fun d16 =>
some (d16.1,())) (Sum.elim (fun d15 =>
some (true,())) nof)))
noncomputable def qeo (n:Nat) (a3:Int):Option qT67 :=
(qen n a3).bind fun r4 =>
bif (!r4.1) then
(some (.inl ((IntKind.i64.wrap (a3+(1:Int))),())))
else
(some (.inr (.inl (a3,()))))
noncomputable def qep (n:Nat) (d:(Int × Unit)):Option qT67:=qeo n d.1
noncomputable def qeq (n:Nat) (m0:Int):Option (Int × Unit) :=
bif decide (m0<0) then none else
(iterN (qep n) n ((IntKind.i64.wrap ((1:Int)*2 ^ (min (m0).toNat IntKind.i64.bits))),())).bind (Sum.elim (fun d6 =>
some (d6.1,())) nof)
noncomputable def qer (n:Nat) (f0:qT2):Option (qT8 × Unit) :=
bif (decide (f0.2.1=(1:Int))) then
(some ((f0.1,((1:Int),(f0.1,((0:Int),())))),()))
else
(bif decide (f0.2.1<0) then none else
(qeq n f0.2.1).bind fun r1 =>
some (((2:Int),(f0.2.1,((IntKind.i64.wrap ((1:Int)*2 ^ (min (f0.2.1).toNat IntKind.i64.bits))),(r1.1,())))),()))
noncomputable def qes (n:Nat) (a0:(List Int)) (b1:(List Int)) (i5:Int):Option (qT36 ⊕ qT12) :=
bif (decide (i5<(a0.length:Int))) then
((idx a0 i5).bind fun v11 =>
(idx b1 i5).bind fun v12 =>
bif (!decide (v11=v12)) then
((idx a0 i5).bind fun v13 =>
(idx b1 i5).bind fun v14 =>
some (.inr (.inl ((decide (v13<v14)),()))))
else
(some (.inl (a0,b1,(IntKind.i64.wrap (i5+(1:Int))),()))))
else
(some (.inr (.inr (.inl (())))))
noncomputable def qet (n:Nat) (d:qT36):Option (qT36 ⊕ qT12):=qes n d.1 d.2.1 d.2.2.1
noncomputable def qeu (n:Nat) (a0:(List Int)) (b1:(List Int)):Option (Bool × Unit) :=
(iterN (qet n) n (a0,b1,(0:Int),())).bind (Sum.elim (fun d18 =>
some (d18.1,())) (Sum.elim (fun d17 =>
some (false,())) nof))
noncomputable def qev (n:Nat) (p1:qT3) (x2:qT8) (n6:Int) (i7:Int) (k8:Int):Option ((qT3 × qT8 × Int × Int × Int × Unit) ⊕ ((Int × Bool × Unit) ⊕ (qT55 ⊕ Empty))) :=
bif (decide (k8<n6)) then
(((idx p1 i7).bind fun v39 =>
(idx v39.2.1 k8).bind fun v40 =>
bif (decide (v40<(0:Int))) then
(some (.inl (p1,x2,n6,i7,k8,true,())))
else
((idx p1 i7).bind fun v41 =>
(idx v41.2.1 k8).bind fun v42 =>
some (.inl (p1,x2,n6,i7,k8,(decide ((65535:Int)<v42)),()))):Option ((qT3 × qT8 × Int × Int × Int × Bool × Unit) ⊕ Empty)).bind (Sum.elim (fun d43 =>
bif d43.2.2.2.2.2.1 then
(some (.inr (.inl ((0:Int),false,()))))
else
(some (.inl (d43.1,d43.2.1,d43.2.2.1,d43.2.2.2.1,(IntKind.i64.wrap (d43.2.2.2.2.1+(1:Int))),())))) nof))
else
(some (.inr (.inr (.inl (p1,x2,n6,i7,())))))
noncomputable def qew (n:Nat) (d:(qT3 × qT8 × Int × Int × Int × Unit)):Option ((qT3 × qT8 × Int × Int × Int × Unit) ⊕ ((Int × Bool × Unit) ⊕ (qT55 ⊕ Empty))):=qev n d.1 d.2.1 d.2.2.1 d.2.2.2.1 d.2.2.2.2.1
noncomputable def qex (n:Nat) (p1:qT3) (x2:qT8) (n6:Int) (i7:Int):Option (qT55 ⊕ ((Int × Bool × Unit) ⊕ qT10)) :=
bif (decide (i7<(p1.length:Int))) then
(((idx p1 i7).bind fun v55 =>
bif (!decide ((v55.2.1.length:Int)=n6)) then
(some (.inl (p1,x2,n6,i7,true,())))
else
((idx p1 i7).bind fun v56 =>
bif (decide (v56.1<(1:Int))) then
(some (.inl (p1,x2,n6,i7,true,())))
else
((idx p1 i7).bind fun v57 =>
bif (decide (x2.2.2.1≤v57.1)) then
(some (.inl (p1,x2,n6,i7,true,())))
else
(bif (decide ((0:Int)<i7)) then
((idx p1 (IntKind.i64.wrap (i7-(1:Int)))).bind fun v58 =>
(idx p1 i7).bind fun v59 =>
(qeu n v58.2.1 v59.2.1).bind fun r60 =>
some (.inl (p1,x2,n6,i7,(!r60.1),())))
else
(some (.inl (p1,x2,n6,i7,false,())))))):Option ((qT3 × qT8 × Int × Int × Bool × Unit) ⊕ Empty)).bind (Sum.elim (fun d61 =>
bif d61.2.2.2.2.1 then
(some (.inr (.inl ((0:Int),false,()))))
else
((iterN (qew n) n (d61.1,d61.2.1,d61.2.2.1,d61.2.2.2.1,(0:Int),())).bind (Sum.elim (fun d63 =>
some (.inr (.inl (d63.1,d63.2.1,())))) (Sum.elim (fun d62 =>
some (.inl (d62.1,d62.2.1,d62.2.2.1,(IntKind.i64.wrap (d62.2.2.2.1+(1:Int))),()))) nof)))) nof))
else
(some (.inr (.inr (.inl (n6,())))))
noncomputable def qey (n:Nat) (d:qT55):Option (qT55 ⊕ ((Int × Bool × Unit) ⊕ qT10)):=qex n d.1 d.2.1 d.2.2.1 d.2.2.2.1
noncomputable def qez (n:Nat) (x0:qT8) (p1:qT3):Option (Int × (Bool × Unit)) :=
bif (decide ((p1.length:Int)=(0:Int))) then
(some ((-1:Int),(true,())))
else
((idx p1 (0:Int)).bind fun v2 =>
(bif (decide ((80:Int)<(v2.2.1.length:Int))) then
(some (.inl (p1,x0,(v2.2.1.length:Int),true,())))
else
(some (.inl (p1,x0,(v2.2.1.length:Int),(decide ((20000:Int)<(p1.length:Int))),()))):Option ((qT3 × qT8 × Int × Bool × Unit) ⊕ Empty)).bind (Sum.elim (fun d4 =>
bif d4.2.2.2.1 then
(some ((0:Int),(false,())))
else
((iterN (qey n) n (d4.1,d4.2.1,d4.2.2.1,(0:Int),())).bind (Sum.elim (fun d67 =>
some (d67.1,(d67.2.1,()))) (Sum.elim (fun d66 =>
some (d66.1,(true,()))) nof)))) nof))
noncomputable def qe0 (self_ref13_count:(List qT1)→Int→Option qT2) (n:Nat) (l0:(List qT1)) (levels1:Int) (n6:Int) (deep7:Int) (i8:Int):Option (qT48 ⊕ (qT25 ⊕ Empty)) :=
(bif (decide (i8<(l0.length:Int))) then
(bif (decide ((0:Int)<levels1)) then
(some (.inl (l0,levels1,n6,deep7,i8,(decide (n6≤(200000:Int))),())))
else
(some (.inl (l0,levels1,n6,deep7,i8,false,()))))
else
(some (.inl (l0,levels1,n6,deep7,i8,false,()))):Option (((List qT1) × Int × Int × Int × Int × Bool × Unit) ⊕ Empty)).bind (Sum.elim (fun d13 =>
bif d13.2.2.2.2.2.1 then
(((idx d13.1 d13.2.2.2.2.1).bind fun v14 =>
bif (decide ((Rose.val v14).1.1=(2:Int))) then
((idx d13.1 d13.2.2.2.2.1).bind fun v15 =>
(self_ref13_count (Rose.kids v15) (IntKind.i64.wrap (d13.2.1-(1:Int)))).bind fun r16 =>
some (.inl (d13.1,d13.2.1,(IntKind.i64.wrap (d13.2.2.1+r16.1)),(if (IntKind.i64.wrap (r16.2.1+(1:Int))) > d13.2.2.2.1 then (IntKind.i64.wrap (r16.2.1+(1:Int))) else d13.2.2.2.1),d13.2.2.2.2.1,())))
else
(some (.inl (d13.1,d13.2.1,d13.2.2.1,d13.2.2.2.1,d13.2.2.2.2.1,()))):Option (qT48 ⊕ Empty)).bind (Sum.elim (fun d17 =>
some (.inl (d17.1,d17.2.1,d17.2.2.1,d17.2.2.2.1,(IntKind.i64.wrap (d17.2.2.2.2.1+(1:Int))),()))) nof))
else
(some (.inr (.inl (d13.2.2.1,d13.2.2.2.1,()))))) nof)
noncomputable def qe1 (self_ref13_count:(List qT1)→Int→Option qT2) (n:Nat) (d:qT48):Option (qT48 ⊕ (qT25 ⊕ Empty)):=qe0 self_ref13_count n d.1 d.2.1 d.2.2.1 d.2.2.2.1 d.2.2.2.2.1
noncomputable def qe2 (self_ref13_count:(List qT1)→Int→Option qT2) (n:Nat) (l0:(List qT1)) (levels1:Int):Option qT2 :=
(iterN (qe1 self_ref13_count n) n (l0,levels1,(l0.length:Int),(0:Int),(0:Int),())).bind (Sum.elim (fun d19 =>
some (d19.1,(d19.2.1,()))) nof)
noncomputable def qe3:Nat→(List qT1)→Int→Option qT2
  | 0=>fun _ _=>none
  | n+1=>qe2 (qe3 n) n
noncomputable def qe4 (n:Nat) (x0:qT8) (a1:Int):Option (Bool × Unit) :=
bif (decide ((0:Int)≤a1)) then
(some ((decide (a1<x0.2.2.1)),()))
else
(some (false,()))
noncomputable def qe5 (n:Nat) (p4:qT0) (s7:qT4) (i9:Int):Option ((qT0 × qT4 × Int × Unit) ⊕ qT12) :=
bif (decide (i9<(s7.2.2.2.2.2.1.length:Int))) then
((idx s7.2.2.2.2.2.1 i9).bind fun v25 =>
(bif (decide (v25.2.1<(0:Int))) then
(some (.inl (p4,s7,i9,true,())))
else
(bif v25.1 then
(bif (decide (p4.2.2.1≤v25.2.1)) then
(some (.inl (p4,s7,i9,true,())))
else
(bif (!v25.1) then
(bif (decide (p4.2.1≤v25.2.1)) then
(some (.inl (p4,s7,i9,true,())))
else
(some (.inl (p4,s7,i9,(decide (v25.2.1=s7.2.1)),()))))
else
(some (.inl (p4,s7,i9,false,())))))
else
(bif (!v25.1) then
(bif (decide (p4.2.1≤v25.2.1)) then
(some (.inl (p4,s7,i9,true,())))
else
(some (.inl (p4,s7,i9,(decide (v25.2.1=s7.2.1)),()))))
else
(some (.inl (p4,s7,i9,false,()))))):Option ((qT0 × qT4 × Int × Bool × Unit) ⊕ Empty)).bind (Sum.elim (fun d26 =>
bif d26.2.2.2.1 then
(some (.inr (.inl (false,()))))
else
(some (.inl (d26.1,d26.2.1,(IntKind.i64.wrap (d26.2.2.1+(1:Int))),())))) nof))
else
(some (.inr (.inr (.inl (())))))
noncomputable def qe6 (n:Nat) (d:(qT0 × qT4 × Int × Unit)):Option ((qT0 × qT4 × Int × Unit) ⊕ qT12):=qe5 n d.1 d.2.1 d.2.2.1
noncomputable def qe7 (n:Nat) (p0:qT0) (x1:qT8) (vars2:(List Int)) (s3:qT1):Option (Bool × Unit) :=
(bif (decide ((Rose.val s3).1.2.1<(0:Int))) then
(some (.inl (vars2,p0,((Rose.val s3).1.1,((Rose.val s3).1.2.1,((Rose.val s3).1.2.2.1,((Rose.val s3).1.2.2.2.1,((Rose.val s3).1.2.2.2.2.1,((Rose.val s3).1.2.2.2.2.2.1,((Rose.kids s3),()))))))),true,())))
else
(bif (decide (p0.2.1≤(Rose.val s3).1.2.1)) then
(some (.inl (vars2,p0,((Rose.val s3).1.1,((Rose.val s3).1.2.1,((Rose.val s3).1.2.2.1,((Rose.val s3).1.2.2.2.1,((Rose.val s3).1.2.2.2.2.1,((Rose.val s3).1.2.2.2.2.2.1,((Rose.kids s3),()))))))),true,())))
else
((qe4 n x1 (Rose.val s3).1.2.2.1).bind fun r4 =>
bif (!r4.1) then
(some (.inl (vars2,p0,((Rose.val s3).1.1,((Rose.val s3).1.2.1,((Rose.val s3).1.2.2.1,((Rose.val s3).1.2.2.2.1,((Rose.val s3).1.2.2.2.2.1,((Rose.val s3).1.2.2.2.2.2.1,((Rose.kids s3),()))))))),true,())))
else
(bif (decide ((Rose.val s3).1.2.2.2.1<(0:Int))) then
(some (.inl (vars2,p0,((Rose.val s3).1.1,((Rose.val s3).1.2.1,((Rose.val s3).1.2.2.1,((Rose.val s3).1.2.2.2.1,((Rose.val s3).1.2.2.2.2.1,((Rose.val s3).1.2.2.2.2.2.1,((Rose.kids s3),()))))))),true,())))
else
(bif (decide ((vars2.length:Int)≤(Rose.val s3).1.2.2.2.1)) then
(some (.inl (vars2,p0,((Rose.val s3).1.1,((Rose.val s3).1.2.1,((Rose.val s3).1.2.2.1,((Rose.val s3).1.2.2.2.1,((Rose.val s3).1.2.2.2.2.1,((Rose.val s3).1.2.2.2.2.2.1,((Rose.kids s3),()))))))),true,())))
else
(bif (!decide ((Rose.val s3).1.2.2.2.2.1=(0:Int))) then
(some (.inl (vars2,p0,((Rose.val s3).1.1,((Rose.val s3).1.2.1,((Rose.val s3).1.2.2.1,((Rose.val s3).1.2.2.2.1,((Rose.val s3).1.2.2.2.2.1,((Rose.val s3).1.2.2.2.2.2.1,((Rose.kids s3),()))))))),true,())))
else
(some (.inl (vars2,p0,((Rose.val s3).1.1,((Rose.val s3).1.2.1,((Rose.val s3).1.2.2.1,((Rose.val s3).1.2.2.2.1,((Rose.val s3).1.2.2.2.2.1,((Rose.val s3).1.2.2.2.2.2.1,((Rose.kids s3),()))))))),(decide ((0:Int)<(((Rose.kids s3)).length:Int))),())))))))):Option (((List Int) × qT0 × qT4 × Bool × Unit) ⊕ Empty)).bind (Sum.elim (fun d5 =>
bif d5.2.2.2.1 then
(some (false,()))
else
(((idx d5.1 d5.2.2.1.2.2.2.1).bind fun v15 =>
bif (decide ((0:Int)≤v15)) then
((idx d5.1 d5.2.2.1.2.2.2.1).bind fun v16 =>
bif (!decide ((d5.2.2.1.2.2.2.2.2.1.length:Int)=v16)) then
(some (.inl (d5.2.1,d5.2.2.1,true,())))
else
((idx d5.1 d5.2.2.1.2.2.2.1).bind fun v17 =>
bif (decide (v17<(0:Int))) then
(some (.inl (d5.2.1,d5.2.2.1,(decide ((80:Int)<(d5.2.2.1.2.2.2.2.2.1.length:Int))),())))
else
(some (.inl (d5.2.1,d5.2.2.1,false,())))))
else
((idx d5.1 d5.2.2.1.2.2.2.1).bind fun v18 =>
bif (decide (v18<(0:Int))) then
(some (.inl (d5.2.1,d5.2.2.1,(decide ((80:Int)<(d5.2.2.1.2.2.2.2.2.1.length:Int))),())))
else
(some (.inl (d5.2.1,d5.2.2.1,false,())))):Option ((qT0 × qT4 × Bool × Unit) ⊕ Empty)).bind (Sum.elim (fun d19 =>
bif d19.2.2.1 then
(some (false,()))
else
((iterN (qe6 n) n (d19.1,d19.2.1,(0:Int),())).bind (Sum.elim (fun d30 =>
some (d30.1,())) (Sum.elim (fun d29 =>
some (true,())) nof)))) nof))) nof)
noncomputable def qe8 (self_ref13_body:qT0→qT8→(List Int)→(List qT1)→Option (Bool × Unit)) (n:Nat) (vars2:(List Int)) (l3:(List qT1)) (p4:qT0) (x5:qT8) (i9:Int):Option (qT43 ⊕ qT12) :=
bif (decide (i9<(l3.length:Int))) then
(((idx l3 i9).bind fun v19 =>
bif (decide ((Rose.val v19).1.1=(0:Int))) then
((qe7 n p4 x5 vars2 (Rose.node (((Rose.val v19).1.1,((Rose.val v19).1.2.1,((Rose.val v19).1.2.2.1,((Rose.val v19).1.2.2.2.1,((Rose.val v19).1.2.2.2.2.1,((Rose.val v19).1.2.2.2.2.2.1,())))))),()) (Rose.kids v19))).bind fun r20 =>
bif (!r20.1) then
(some (.inl (false,())))
else
(some (.inr (.inl (vars2,l3,p4,x5,i9,())))))
else
(bif (decide ((Rose.val v19).1.1=(1:Int))) then
((bif (decide ((Rose.val v19).1.2.1<(0:Int))) then
(some (.inl (vars2,l3,p4,x5,i9,true,())))
else
(bif (decide (p4.2.1≤(Rose.val v19).1.2.1)) then
(some (.inl (vars2,l3,p4,x5,i9,true,())))
else
((qe4 n x5 (Rose.val v19).1.2.2.1).bind fun r21 =>
bif (!r21.1) then
(some (.inl (vars2,l3,p4,x5,i9,true,())))
else
(bif (decide ((Rose.val v19).1.2.2.1=(0:Int))) then
(some (.inl (vars2,l3,p4,x5,i9,true,())))
else
(bif (!decide ((Rose.val v19).1.2.2.2.1=(0:Int))) then
(some (.inl (vars2,l3,p4,x5,i9,true,())))
else
(bif (!decide ((Rose.val v19).1.2.2.2.2.1=(0:Int))) then
(some (.inl (vars2,l3,p4,x5,i9,true,())))
else
(bif (decide ((0:Int)<(((Rose.val v19).1.2.2.2.2.2.1).length:Int))) then
(some (.inl (vars2,l3,p4,x5,i9,true,())))
else
(some (.inl (vars2,l3,p4,x5,i9,(decide ((0:Int)<(((Rose.kids v19)).length:Int))),()))))))))):Option (((List Int) × (List qT1) × qT0 × qT8 × Int × Bool × Unit) ⊕ Empty)).bind (Sum.elim (fun d22 =>
bif d22.2.2.2.2.2.1 then
(some (.inl (false,())))
else
(some (.inr (.inl (d22.1,d22.2.1,d22.2.2.1,d22.2.2.2.1,d22.2.2.2.2.1,()))))) nof))
else
(bif (decide ((Rose.val v19).1.1=(2:Int))) then
((bif (decide ((Rose.val v19).1.2.2.2.2.1<(0:Int))) then
(some (.inl (vars2,l3,p4,x5,i9,true,())))
else
(bif (decide ((2000000:Int)<(Rose.val v19).1.2.2.2.2.1)) then
(some (.inl (vars2,l3,p4,x5,i9,true,())))
else
(bif (!decide ((Rose.val v19).1.2.1=(0:Int))) then
(some (.inl (vars2,l3,p4,x5,i9,true,())))
else
(bif (!decide ((Rose.val v19).1.2.2.1=(0:Int))) then
(some (.inl (vars2,l3,p4,x5,i9,true,())))
else
(bif (!decide ((Rose.val v19).1.2.2.2.1=(0:Int))) then
(some (.inl (vars2,l3,p4,x5,i9,true,())))
else
(bif (decide ((0:Int)<(((Rose.val v19).1.2.2.2.2.2.1).length:Int))) then
(some (.inl (vars2,l3,p4,x5,i9,true,())))
else
((self_ref13_body p4 x5 vars2 (Rose.kids v19)).bind fun r23 =>
some (.inl (vars2,l3,p4,x5,i9,(!r23.1),())))))))):Option (((List Int) × (List qT1) × qT0 × qT8 × Int × Bool × Unit) ⊕ Empty)).bind (Sum.elim (fun d24 =>
bif d24.2.2.2.2.2.1 then
(some (.inl (false,())))
else
(some (.inr (.inl (d24.1,d24.2.1,d24.2.2.1,d24.2.2.2.1,d24.2.2.2.2.1,()))))) nof))
else
(some (.inl (false,()))))):Option ((Bool × Unit) ⊕ (qT43 ⊕ Empty))).bind (Sum.elim (fun d26 =>
some (.inr (.inl (d26.1,())))) (Sum.elim (fun d25 =>
some (.inl (d25.1,d25.2.1,d25.2.2.1,d25.2.2.2.1,(IntKind.i64.wrap (d25.2.2.2.2.1+(1:Int))),()))) nof)))
else
(some (.inr (.inr (.inl (())))))
noncomputable def qe9 (self_ref13_body:qT0→qT8→(List Int)→(List qT1)→Option (Bool × Unit)) (n:Nat) (d:qT43):Option (qT43 ⊕ qT12):=qe8 self_ref13_body n d.1 d.2.1 d.2.2.1 d.2.2.2.1 d.2.2.2.2.1
noncomputable def qfa (self_ref13_body:qT0→qT8→(List Int)→(List qT1)→Option (Bool × Unit)) (n:Nat) (p0:qT0) (x1:qT8) (vars2:(List Int)) (l3:(List qT1)):Option (Bool × Unit) :=
(iterN (qe9 self_ref13_body n) n (vars2,l3,p0,x1,(0:Int),())).bind (Sum.elim (fun d30 =>
some (d30.1,())) (Sum.elim (fun d29 =>
some (true,())) nof))
noncomputable def qfb:Nat→qT0→qT8→(List Int)→(List qT1)→Option (Bool × Unit)
  | 0=>fun _ _ _ _=>none
  | n+1=>qfa (qfb n) n
noncomputable def qfc (n:Nat) (p1:qT0) (i5:Int) (x3:qT8) (vars4:(List Int)):Option qT62 :=
bif (decide (i5<(p1.2.2.2.1.length:Int))) then
((idx p1.2.2.2.1 i5).bind fun v16 =>
(qez n x3 v16).bind fun r17 =>
bif (!r17.2.1) then
(some (.inr (.inl (false,()))))
else
((idx vars4 i5).bind fun v18 =>
some (.inl (p1,(IntKind.i64.wrap (i5+(1:Int))),x3,(List.set vars4 (i5).toNat r17.1),()))))
else
(some (.inr (.inr (.inl (p1,x3,vars4,())))))
noncomputable def qfd (n:Nat) (d:(qT0 × Int × qT8 × (List Int) × Unit)):Option qT62:=qfc n d.1 d.2.1 d.2.2.1 d.2.2.2.1
noncomputable def qfe (n:Nat) (p0:qT0):Option (Bool × Unit) :=
((qee n p0.1).bind fun r4 =>
bif (!r4.1) then
(some (.inl (p0,true,())))
else
(bif (decide (p0.2.1<(1:Int))) then
(some (.inl (p0,true,())))
else
(bif (decide ((64:Int)<p0.2.1)) then
(some (.inl (p0,true,())))
else
(bif (decide (p0.2.2.1<(0:Int))) then
(some (.inl (p0,true,())))
else
(bif (decide ((64:Int)<p0.2.2.1)) then
(some (.inl (p0,true,())))
else
(some (.inl (p0,(decide ((1000:Int)<(p0.2.2.2.1.length:Int))),()))))))):Option ((qT0 × Bool × Unit) ⊕ Empty)).bind (Sum.elim (fun d5 =>
bif d5.2.1 then
(some (false,()))
else
((qer n d5.1.1).bind fun r7 =>
chk (decide (0≤(d5.1.2.2.2.1.length:Int))) (chk (decide ((d5.1.2.2.2.1.length:Int)≤(d5.1.2.2.2.1.length:Int))) (chk (lenB ((d5.1.2.2.2.1.length:Int)).toNat) ((iterN (qfd n) n (d5.1,(0:Int),r7.1,(List.replicate ((d5.1.2.2.2.1.length:Int)).toNat (0:Int)),())).bind (Sum.elim (fun d25 =>
some (d25.1,())) (Sum.elim (fun d21 =>
(qe3 n d21.1.2.2.2.2.1 (61:Int)).bind fun r23 =>
bif (decide (r23.1≤(200000:Int))) then
(bif (decide (r23.2.1≤(60:Int))) then
((qfb n d21.1 d21.2.1 d21.2.2.1 d21.1.2.2.2.2.1).bind fun r24 =>
some (r24.1,()))
else
(some (false,())))
else
(some (false,()))) nof))))))) nof)
noncomputable def qff (self_ref13_steps:(List qT1)→Option (Int × Unit)) (n:Nat) (l0:(List qT1)) (n3:Int) (i4:Int):Option (((List qT1) × Int × Int × Unit) ⊕ qT67) :=
bif (decide (i4<(l0.length:Int))) then
(((idx l0 i4).bind fun v29 =>
bif (decide ((Rose.val v29).1.1=(2:Int))) then
((idx l0 i4).bind fun v30 =>
(self_ref13_steps (Rose.kids v30)).bind fun r31 =>
(bif (decide ((0:Int)<r31.1)) then
((idx l0 i4).bind fun v32 =>
bif decide (r31.1=0) then none else
some (.inl (l0,n3,i4,r31.1,(decide ((IntKind.i64.wrap (Int.tdiv (1099511627777:Int) r31.1))<(Rose.val v32).1.2.2.2.2.1)),())))
else
(some (.inl (l0,n3,i4,r31.1,false,()))):Option (((List qT1) × Int × Int × Int × Bool × Unit) ⊕ Empty)).bind (Sum.elim (fun d33 =>
bif d33.2.2.2.2.1 then
(some (.inl ((1099511627777:Int),())))
else
((idx d33.1 d33.2.2.1).bind fun v34 =>
some (.inr (.inl (d33.1,d33.2.1,d33.2.2.1,(IntKind.i64.wrap (d33.2.2.2.1*(Rose.val v34).1.2.2.2.2.1)),()))))) nof))
else
(some (.inr (.inl (l0,n3,i4,(1:Int),())))):Option ((Int × Unit) ⊕ (qT60 ⊕ Empty))).bind (Sum.elim (fun d36 =>
some (.inr (.inl (d36.1,())))) (Sum.elim (fun d35 =>
some (.inl (d35.1,(if (1099511627777:Int)<(IntKind.i64.wrap (d35.2.1+d35.2.2.2.1)) then (1099511627777:Int) else (IntKind.i64.wrap (d35.2.1+d35.2.2.2.1))),(IntKind.i64.wrap (d35.2.2.1+(1:Int))),()))) nof)))
else
(some (.inr (.inr (.inl (n3,())))))
noncomputable def qfg (self_ref13_steps:(List qT1)→Option (Int × Unit)) (n:Nat) (d:((List qT1) × Int × Int × Unit)):Option (((List qT1) × Int × Int × Unit) ⊕ qT67):=qff self_ref13_steps n d.1 d.2.1 d.2.2.1
noncomputable def qfh (self_ref13_steps:(List qT1)→Option (Int × Unit)) (n:Nat) (l0:(List qT1)):Option (Int × Unit) :=
(iterN (qfg self_ref13_steps n) n (l0,(0:Int),(0:Int),())).bind (Sum.elim (fun d40 =>
some (d40.1,())) (Sum.elim (fun d39 =>
some (d39.1,())) nof))
noncomputable def qfi:Nat→(List qT1)→Option (Int × Unit)
  | 0=>fun _=>none
  | n+1=>qfh (qfi n) n
noncomputable def qfj (n:Nat) (p0:qT0):Option (Int × Unit) :=
(qfi n p0.2.2.2.2.1).bind fun r1 =>
some (r1.1,())
noncomputable def qfk (self_law13_copied:(List qT1)→Option qT21) (n:Nat) (l0:(List qT1)) (i4:Int) (out3:(List qT1)):Option (((List qT1) × Int × (List qT1) × Unit) ⊕ (qT21 ⊕ Empty)) :=
bif (decide (i4<(l0.length:Int))) then
((idx l0 i4).bind fun v7 =>
chk (lenB ((([]:qT11)).length+((Rose.val v7).1.2.2.2.2.2.1).length)) ((self_law13_copied (Rose.kids v7)).bind fun r8 =>
chk (lenB ((out3).length+([(Rose.node (((Rose.val v7).1.1,((Rose.val v7).1.2.1,((Rose.val v7).1.2.2.1,((Rose.val v7).1.2.2.2.1,((Rose.val v7).1.2.2.2.2.1,((([]:qT11)++(Rose.val v7).1.2.2.2.2.2.1),())))))),()) r8.1)]).length)) (some (.inl (l0,(IntKind.i64.wrap (i4+(1:Int))),(out3++[(Rose.node (((Rose.val v7).1.1,((Rose.val v7).1.2.1,((Rose.val v7).1.2.2.1,((Rose.val v7).1.2.2.2.1,((Rose.val v7).1.2.2.2.2.1,((([]:qT11)++(Rose.val v7).1.2.2.2.2.2.1),())))))),()) r8.1)]),())))))
else
(some (.inr (.inl (out3,()))))
noncomputable def qfl (self_law13_copied:(List qT1)→Option qT21) (n:Nat) (d:((List qT1) × Int × (List qT1) × Unit)):Option (((List qT1) × Int × (List qT1) × Unit) ⊕ (qT21 ⊕ Empty)):=qfk self_law13_copied n d.1 d.2.1 d.2.2.1
noncomputable def qfm (self_law13_copied:(List qT1)→Option qT21) (n:Nat) (l0:(List qT1)):Option qT21 :=
(iterN (qfl self_law13_copied n) n (l0,(0:Int),([]:(List qT1)),())).bind (Sum.elim (fun d10 =>
some (d10.1,())) nof)
noncomputable def qfn:Nat→(List qT1)→Option qT21
  | 0=>fun _=>none
  | n+1=>qfm (qfn n) n
noncomputable def qfo (n:Nat) (p1:qT0) (i4:Int) (k6:Int) (t2:qT0) (out3:qT0) (q5:qT3):Option qT63 :=
(idx p1.2.2.2.1 i4).bind fun v14 =>
bif (decide (k6<(v14.length:Int))) then
((idx p1.2.2.2.1 i4).bind fun v15 =>
(idx v15 k6).bind fun v16 =>
(idx p1.2.2.2.1 i4).bind fun v17 =>
(idx v17 k6).bind fun v18 =>
chk (lenB ((([]:(List Int))).length+(v18.2.1).length)) (chk (lenB ((q5).length+([(v16.1,((([]:(List Int))++v18.2.1),()))]).length)) (some (.inl (p1,i4,(IntKind.i64.wrap (k6+(1:Int))),t2,out3,(q5++[(v16.1,((([]:(List Int))++v18.2.1),()))]),())))))
else
(some (.inr (.inl (p1,i4,t2,out3,q5,()))))
noncomputable def qfp (n:Nat) (d:(qT0 × Int × Int × qT0 × qT0 × qT3 × Unit)):Option qT63:=qfo n d.1 d.2.1 d.2.2.1 d.2.2.2.1 d.2.2.2.2.1 d.2.2.2.2.2.1
noncomputable def qfq (n:Nat) (p1:qT0) (i4:Int) (t2:qT0) (out3:qT0):Option ((qT0 × Int × qT0 × qT0 × Unit) ⊕ ((qT0 × qT0 × Unit) ⊕ Empty)) :=
bif (decide (i4<(p1.2.2.2.1.length:Int))) then
((iterN (qfp n) n (p1,i4,(0:Int),t2,out3,([]:qT3),())).bind (Sum.elim (fun d22 =>
chk (lenB ((d22.2.2.2.1.2.2.2.1).length+([d22.2.2.2.2.1]).length)) (chk (sameP [.el (0),.f2,.f2,.f2,.f1] [.el (0),.f2,.f2,.f2,.f1]) (some (.inl (d22.1,(IntKind.i64.wrap (d22.2.1+(1:Int))),d22.2.2.1,(d22.2.2.2.1.1,(d22.2.2.2.1.2.1,(d22.2.2.2.1.2.2.1,((d22.2.2.2.1.2.2.2.1++[d22.2.2.2.2.1]),d22.2.2.2.1.2.2.2.2)))),()))))) nof))
else
(some (.inr (.inl (t2,out3,()))))
noncomputable def qfr (n:Nat) (d:(qT0 × Int × qT0 × qT0 × Unit)):Option ((qT0 × Int × qT0 × qT0 × Unit) ⊕ ((qT0 × qT0 × Unit) ⊕ Empty)):=qfq n d.1 d.2.1 d.2.2.1 d.2.2.2.1
noncomputable def qfs (n:Nat) (p0:qT0):Option (qT0 × Unit) :=
(qfn n p0.2.2.2.2.1).bind fun r2 =>
(iterN (qfr n) n (p0,(0:Int),(((0:Int),((0:Int),())),((0:Int),((0:Int),(([]:(List qT3)),(([]:(List qT1)),()))))),(p0.1,(p0.2.1,(p0.2.2.1,(([]:(List qT3)),(r2.1,()))))),())).bind (Sum.elim (fun d24 =>
some (d24.2.1,())) nof)
noncomputable def qft (n:Nat) (l1:(List Int)) (n2:Int) (x3:qT8) (i7:Int):Option qT64 :=
bif (decide (i7<(l1.length:Int))) then
((idx l1 i7).bind fun v7 =>
(qe4 n x3 v7).bind fun r8 =>
bif (!r8.1) then
(some (.inr (.inl (false,()))))
else
(some (.inl (l1,n2,x3,(IntKind.i64.wrap (i7+(1:Int))),()))))
else
(some (.inr (.inr (.inl (l1,n2,())))))
noncomputable def qfu (n:Nat) (d:((List Int) × Int × qT8 × Int × Unit)):Option qT64:=qft n d.1 d.2.1 d.2.2.1 d.2.2.2.1
noncomputable def qfv (n:Nat) (x0:qT8) (l1:(List Int)) (n2:Int):Option (Bool × Unit) :=
(iterN (qfu n) n (l1,n2,x0,(0:Int),())).bind (Sum.elim (fun d12 =>
some (d12.1,())) (Sum.elim (fun d11 =>
some ((decide ((d11.1.length:Int)=d11.2.1)),())) nof))
noncomputable def qfw (n:Nat) (p0:qT0) (values1:(List Int)) (inputs2:(List Int)):Option (Bool × Unit) :=
(qer n p0.1).bind fun r2 =>
(qfv n r2.1 values1 p0.2.1).bind fun r3 =>
bif r3.1 then
((qfv n r2.1 inputs2 p0.2.2.1).bind fun r4 =>
some (r4.1,()))
else
(some (false,()))
noncomputable def qfx (n:Nat) (p1:qT0) (most3:Int) (i4:Int) (n5:Int) (k6:Int) (j7:Int):Option (qT49 ⊕ (qT46 ⊕ Empty)) :=
(idx p1.2.2.2.1 i4).bind fun v20 =>
(idx v20 k6).bind fun v21 =>
bif (decide (j7<(v21.2.1.length:Int))) then
(((idx p1.2.2.2.1 i4).bind fun v22 =>
(idx v22 k6).bind fun v23 =>
(idx v23.2.1 j7).bind fun v24 =>
bif (decide ((0:Int)<v24)) then
(some (.inl (p1,most3,i4,(IntKind.i64.wrap (n5+(1:Int))),k6,j7,())))
else
(some (.inl (p1,most3,i4,n5,k6,j7,()))):Option (qT49 ⊕ Empty)).bind (Sum.elim (fun d25 =>
some (.inl (d25.1,d25.2.1,d25.2.2.1,d25.2.2.2.1,d25.2.2.2.2.1,(IntKind.i64.wrap (d25.2.2.2.2.2.1+(1:Int))),()))) nof))
else
(some (.inr (.inl (p1,most3,i4,n5,k6,()))))
noncomputable def qfy (n:Nat) (d:qT49):Option (qT49 ⊕ (qT46 ⊕ Empty)):=qfx n d.1 d.2.1 d.2.2.1 d.2.2.2.1 d.2.2.2.2.1 d.2.2.2.2.2.1
noncomputable def qfz (n:Nat) (p1:qT0) (most3:Int) (i4:Int) (n5:Int) (k6:Int):Option (qT46 ⊕ (qT53 ⊕ Empty)) :=
(idx p1.2.2.2.1 i4).bind fun v28 =>
bif (decide (k6<(v28.length:Int))) then
((iterN (qfy n) n (p1,most3,i4,(IntKind.i64.wrap (n5+(1:Int))),k6,(0:Int),())).bind (Sum.elim (fun d29 =>
some (.inl (d29.1,d29.2.1,d29.2.2.1,d29.2.2.2.1,(IntKind.i64.wrap (d29.2.2.2.2.1+(1:Int))),()))) nof))
else
(some (.inr (.inl (p1,most3,i4,n5,()))))
noncomputable def qf0 (n:Nat) (d:qT46):Option (qT46 ⊕ (qT53 ⊕ Empty)):=qfz n d.1 d.2.1 d.2.2.1 d.2.2.2.1 d.2.2.2.2.1
noncomputable def qf1 (n:Nat) (p1:qT0) (most3:Int) (i4:Int):Option (qT41 ⊕ ((qT0 × Int × Unit) ⊕ Empty)) :=
bif (decide (i4<(p1.2.2.2.1.length:Int))) then
((iterN (qf0 n) n (p1,most3,i4,(1:Int),(0:Int),())).bind (Sum.elim (fun d33 =>
some (.inl (d33.1,(if d33.2.2.2.1 > d33.2.1 then d33.2.2.2.1 else d33.2.1),(IntKind.i64.wrap (d33.2.2.1+(1:Int))),()))) nof))
else
(some (.inr (.inl (p1,most3,()))))
noncomputable def qf2 (n:Nat) (d:qT41):Option (qT41 ⊕ ((qT0 × Int × Unit) ⊕ Empty)):=qf1 n d.1 d.2.1 d.2.2.1
noncomputable def qf3 (n:Nat) (p0:qT0):Option (Int × Unit) :=
(iterN (qf2 n) n (p0,(1:Int),(0:Int),())).bind (Sum.elim (fun d35 =>
(qfj n d35.1).bind fun r36 =>
bif decide (d35.2.1=0) then none else
some ((IntKind.i64.wrap ((if (IntKind.i64.wrap ((IntKind.i64.wrap (Int.tdiv (1099511627776:Int) d35.2.1))+(1:Int)))<r36.1 then (IntKind.i64.wrap ((IntKind.i64.wrap (Int.tdiv (1099511627776:Int) d35.2.1))+(1:Int))) else r36.1)*d35.2.1)),())) nof)
noncomputable def qf4 (n:Nat) (p0:qT0):Option (Bool × Unit) :=
(qfj n p0).bind fun r1 =>
bif (decide ((500000:Int)<r1.1)) then
(some (true,()))
else
((qf3 n p0).bind fun r2 =>
some ((decide ((2000000:Int)<r2.1)),()))
noncomputable def qf5 (n:Nat) (a1:Int) (b2:Int) (x3:qT8) (out7:Int):Option (qT28 ⊕ qT10) :=
bif (decide ((0:Int)<b2)) then
(((bif (decide ((IntKind.i64.wrap ((BitVec.ofInt IntKind.i64.bits b2 &&& BitVec.ofInt IntKind.i64.bits (1:Int)).toNat))=(1:Int))) then
(some (.inl (a1,b2,x3,(IntKind.i64.wrap ((BitVec.ofInt IntKind.i64.bits out7 ^^^ BitVec.ofInt IntKind.i64.bits a1).toNat)),())))
else
(some (.inl (a1,b2,x3,out7,()))):Option (qT28 ⊕ Empty)).bind (Sum.elim (fun d4 =>
bif decide ((1:Int)<0) then none else
bif (decide (d4.2.2.1.2.2.1≤(IntKind.i64.wrap (d4.1*2 ^ (min ((1:Int)).toNat IntKind.i64.bits))))) then
(some (.inl ((IntKind.i64.wrap ((BitVec.ofInt IntKind.i64.bits (IntKind.i64.wrap (d4.1*2 ^ (min ((1:Int)).toNat IntKind.i64.bits))) ^^^ BitVec.ofInt IntKind.i64.bits d4.2.2.1.2.2.2.1).toNat)),d4.2.1,d4.2.2.1,d4.2.2.2.1,())))
else
(some (.inl ((IntKind.i64.wrap (d4.1*2 ^ (min ((1:Int)).toNat IntKind.i64.bits))),d4.2.1,d4.2.2.1,d4.2.2.2.1,())))) nof):Option (qT28 ⊕ Empty)).bind (Sum.elim (fun d5 =>
bif decide ((1:Int)<0) then none else
some (.inl (d5.1,(Int.fdiv d5.2.1 (2 ^ (min ((1:Int)).toNat IntKind.i64.bits))),d5.2.2.1,d5.2.2.2.1,()))) nof))
else
(some (.inr (.inl (out7,()))))
noncomputable def qf6 (n:Nat) (d:qT28):Option (qT28 ⊕ qT10):=qf5 n d.1 d.2.1 d.2.2.1 d.2.2.2.1
noncomputable def qf7 (n:Nat) (x0:qT8) (a1:Int) (b2:Int):Option (Int × Unit) :=
bif (decide (x0.2.1=(1:Int))) then
(bif decide (x0.1=0) then none else
some ((Int.tmod (IntKind.i64.wrap (a1*b2)) x0.1),()))
else
((iterN (qf6 n) n (a1,b2,x0,(0:Int),())).bind (Sum.elim (fun d7 =>
some (d7.1,())) nof))
noncomputable def qf8 (n:Nat) (a1:Int) (k2:Int) (x3:qT8) (out7:Int):Option (qT28 ⊕ qT10) :=
bif (decide ((0:Int)<k2)) then
((bif (decide ((IntKind.i64.wrap ((BitVec.ofInt IntKind.i64.bits k2 &&& BitVec.ofInt IntKind.i64.bits (1:Int)).toNat))=(1:Int))) then
((qf7 n x3 out7 a1).bind fun r8 =>
some (.inl (a1,k2,x3,r8.1,())))
else
(some (.inl (a1,k2,x3,out7,()))):Option (qT28 ⊕ Empty)).bind (Sum.elim (fun d9 =>
(qf7 n d9.2.2.1 d9.1 d9.1).bind fun r10 =>
bif decide ((1:Int)<0) then none else
some (.inl (r10.1,(Int.fdiv d9.2.1 (2 ^ (min ((1:Int)).toNat IntKind.i64.bits))),d9.2.2.1,d9.2.2.2.1,()))) nof))
else
(some (.inr (.inl (out7,()))))
noncomputable def qf9 (n:Nat) (d:qT28):Option (qT28 ⊕ qT10):=qf8 n d.1 d.2.1 d.2.2.1 d.2.2.2.1
noncomputable def qga (n:Nat) (x0:qT8) (a1:Int) (k2:Int):Option (Int × Unit) :=
(iterN (qf9 n) n (a1,k2,x0,(1:Int),())).bind (Sum.elim (fun d12 =>
some (d12.1,())) nof)
noncomputable def qgb (n:Nat) (x0:qT8) (a1:Int) (b2:Int):Option (Int × Unit) :=
bif (decide (x0.2.1=(1:Int))) then
(bif decide (x0.1=0) then none else
some ((Int.tmod (IntKind.i64.wrap (a1+b2)) x0.1),()))
else
(some ((IntKind.i64.wrap ((BitVec.ofInt IntKind.i64.bits a1 ^^^ BitVec.ofInt IntKind.i64.bits b2).toNat)),()))
noncomputable def qgc (n:Nat) (p1:qT3) (at2:(List Int)) (x3:qT8) (sum7:Int) (i8:Int) (v9:Int) (k10:Int):Option (qT38 ⊕ ((qT3 × (List Int) × qT8 × Int × Int × Int × Unit) ⊕ Empty)) :=
((idx p1 i8).bind fun v25 =>
bif (decide (k10<(v25.2.1.length:Int))) then
(some (.inl (p1,at2,x3,sum7,i8,v9,k10,(decide ((0:Int)<v9)),())))
else
(some (.inl (p1,at2,x3,sum7,i8,v9,k10,false,()))):Option ((qT3 × (List Int) × qT8 × Int × Int × Int × Int × Bool × Unit) ⊕ Empty)).bind (Sum.elim (fun d26 =>
bif d26.2.2.2.2.2.2.2.1 then
(((idx d26.1 d26.2.2.2.2.1).bind fun v27 =>
(idx v27.2.1 d26.2.2.2.2.2.2.1).bind fun v28 =>
bif (decide ((0:Int)<v28)) then
((idx d26.2.1 d26.2.2.2.2.2.2.1).bind fun v29 =>
(idx d26.1 d26.2.2.2.2.1).bind fun v30 =>
(idx v30.2.1 d26.2.2.2.2.2.2.1).bind fun v31 =>
(qga n d26.2.2.1 v29 v31).bind fun r32 =>
(qf7 n d26.2.2.1 d26.2.2.2.2.2.1 r32.1).bind fun r33 =>
some (.inl (d26.1,d26.2.1,d26.2.2.1,d26.2.2.2.1,d26.2.2.2.2.1,r33.1,d26.2.2.2.2.2.2.1,())))
else
(some (.inl (d26.1,d26.2.1,d26.2.2.1,d26.2.2.2.1,d26.2.2.2.2.1,d26.2.2.2.2.2.1,d26.2.2.2.2.2.2.1,()))):Option (qT38 ⊕ Empty)).bind (Sum.elim (fun d34 =>
some (.inl (d34.1,d34.2.1,d34.2.2.1,d34.2.2.2.1,d34.2.2.2.2.1,d34.2.2.2.2.2.1,(IntKind.i64.wrap (d34.2.2.2.2.2.2.1+(1:Int))),()))) nof))
else
(some (.inr (.inl (d26.1,d26.2.1,d26.2.2.1,d26.2.2.2.1,d26.2.2.2.2.1,d26.2.2.2.2.2.1,()))))) nof)
noncomputable def qgd (n:Nat) (d:qT38):Option (qT38 ⊕ ((qT3 × (List Int) × qT8 × Int × Int × Int × Unit) ⊕ Empty)):=qgc n d.1 d.2.1 d.2.2.1 d.2.2.2.1 d.2.2.2.2.1 d.2.2.2.2.2.1 d.2.2.2.2.2.2.1
noncomputable def qge (n:Nat) (p1:qT3) (at2:(List Int)) (x3:qT8) (sum7:Int) (i8:Int):Option ((qT3 × (List Int) × qT8 × Int × Int × Unit) ⊕ qT10) :=
bif (decide (i8<(p1.length:Int))) then
((idx p1 i8).bind fun v41 =>
(iterN (qgd n) n (p1,at2,x3,sum7,i8,v41.1,(0:Int),())).bind (Sum.elim (fun d42 =>
(qgb n d42.2.2.1 d42.2.2.2.1 d42.2.2.2.2.2.1).bind fun r43 =>
some (.inl (d42.1,d42.2.1,d42.2.2.1,r43.1,(IntKind.i64.wrap (d42.2.2.2.2.1+(1:Int))),()))) nof))
else
(some (.inr (.inl (sum7,()))))
noncomputable def qgf (n:Nat) (d:(qT3 × (List Int) × qT8 × Int × Int × Unit)):Option ((qT3 × (List Int) × qT8 × Int × Int × Unit) ⊕ qT10):=qge n d.1 d.2.1 d.2.2.1 d.2.2.2.1 d.2.2.2.2.1
noncomputable def qgg (n:Nat) (x0:qT8) (p1:qT3) (at2:(List Int)):Option (Int × Unit) :=
(iterN (qgf n) n (p1,at2,x0,(0:Int),(0:Int),())).bind (Sum.elim (fun d45 =>
some (d45.1,())) nof)
noncomputable def qgh (self_ref13_machine_do:(List qT1)→qT5→Option qT44) (n:Nat) (l1:(List qT1)) (i4:Int) (k8:Int) (m0:qT5) (s5:qT4):Option (((List qT1) × Int × Int × qT5 × qT4 × Unit) ⊕ (qT45 ⊕ Empty)) :=
(bif (decide (k8<s5.2.2.2.2.1)) then
((qfi n s5.2.2.2.2.2.2.1).bind fun r45 =>
some (.inl (l1,i4,k8,(decide ((0:Int)<r45.1)),m0,s5,())))
else
(some (.inl (l1,i4,k8,false,m0,s5,()))):Option (((List qT1) × Int × Int × Bool × qT5 × qT4 × Unit) ⊕ Empty)).bind (Sum.elim (fun d46 =>
bif d46.2.2.2.1 then
((self_ref13_machine_do d46.2.2.2.2.2.1.2.2.2.2.2.2.1 d46.2.2.2.2.1).bind fun r47 =>
some (.inl (d46.1,d46.2.1,(IntKind.i64.wrap (d46.2.2.1+(1:Int))),r47.2.1,d46.2.2.2.2.2.1,())))
else
(some (.inr (.inl (d46.1,d46.2.1,d46.2.2.2.2.1,()))))) nof)
noncomputable def qgi (self_ref13_machine_do:(List qT1)→qT5→Option qT44) (n:Nat) (d:((List qT1) × Int × Int × qT5 × qT4 × Unit)):Option (((List qT1) × Int × Int × qT5 × qT4 × Unit) ⊕ (qT45 ⊕ Empty)):=qgh self_ref13_machine_do n d.1 d.2.1 d.2.2.1 d.2.2.2.1 d.2.2.2.2.1
noncomputable def qgj (self_ref13_machine_do:(List qT1)→qT5→Option qT44) (n:Nat) (l1:(List qT1)) (i4:Int) (k7:Int) (m0:qT5) (s5:qT4) (at6:(List Int)):Option (qT39 ⊕ (((List qT1) × Int × qT5 × qT4 × (List Int) × Unit) ⊕ Empty)) :=
bif (decide (k7<(at6.length:Int))) then
(((idx s5.2.2.2.2.2.1 k7).bind fun v19 =>
bif v19.1 then
((idx s5.2.2.2.2.2.1 k7).bind fun v20 =>
(idx m0.2.2.2.1 v20.2.1).bind fun v21 =>
(idx at6 k7).bind fun v22 =>
some (.inl (l1,i4,k7,m0,s5,(List.set at6 (k7).toNat v21),())))
else
((idx s5.2.2.2.2.2.1 k7).bind fun v23 =>
(idx m0.2.2.1 v23.2.1).bind fun v24 =>
(idx at6 k7).bind fun v25 =>
some (.inl (l1,i4,k7,m0,s5,(List.set at6 (k7).toNat v24),()))):Option (qT39 ⊕ Empty)).bind (Sum.elim (fun d26 =>
some (.inl (d26.1,d26.2.1,(IntKind.i64.wrap (d26.2.2.1+(1:Int))),d26.2.2.2.1,d26.2.2.2.2.1,d26.2.2.2.2.2.1,()))) nof))
else
(some (.inr (.inl (l1,i4,m0,s5,at6,()))))
noncomputable def qgk (self_ref13_machine_do:(List qT1)→qT5→Option qT44) (n:Nat) (d:qT39):Option (qT39 ⊕ (((List qT1) × Int × qT5 × qT4 × (List Int) × Unit) ⊕ Empty)):=qgj self_ref13_machine_do n d.1 d.2.1 d.2.2.1 d.2.2.2.1 d.2.2.2.2.1 d.2.2.2.2.2.1
noncomputable def qgl (self_ref13_machine_do:(List qT1)→qT5→Option qT44) (n:Nat) (l1:(List qT1)) (i4:Int) (m0:qT5):Option (qT45 ⊕ ((qT5 × Unit) ⊕ Empty)) :=
bif (decide (i4<(l1.length:Int))) then
(((idx l1 i4).bind fun v62 =>
bif (decide ((Rose.val v62).1.1=(0:Int))) then
(chk (decide (0≤(((Rose.val v62).1.2.2.2.2.2.1).length:Int))) (chk (decide ((((Rose.val v62).1.2.2.2.2.2.1).length:Int)≤(((Rose.val v62).1.2.2.2.2.2.1).length:Int))) (chk (lenB ((((Rose.val v62).1.2.2.2.2.2.1).length:Int)).toNat) ((iterN (qgk self_ref13_machine_do n) n (l1,i4,(0:Int),m0,((Rose.val v62).1.1,((Rose.val v62).1.2.1,((Rose.val v62).1.2.2.1,((Rose.val v62).1.2.2.2.1,((Rose.val v62).1.2.2.2.2.1,((Rose.val v62).1.2.2.2.2.2.1,((Rose.kids v62),()))))))),(List.replicate ((((Rose.val v62).1.2.2.2.2.2.1).length:Int)).toNat (0:Int)),())).bind (Sum.elim (fun d63 =>
(idx d63.2.2.1.2.2.1 d63.2.2.2.1.2.1).bind fun v64 =>
(idx d63.2.2.1.2.1 d63.2.2.2.1.2.2.2.1).bind fun v65 =>
(qgg n d63.2.2.1.1 v65 d63.2.2.2.2.1).bind fun r66 =>
(qf7 n d63.2.2.1.1 d63.2.2.2.1.2.2.1 r66.1).bind fun r67 =>
(qgb n d63.2.2.1.1 v64 r67.1).bind fun r68 =>
(idx d63.2.2.1.2.2.1 d63.2.2.2.1.2.1).bind fun v69 =>
some (.inl (d63.1,d63.2.1,(d63.2.2.1.1,(d63.2.2.1.2.1,((List.set d63.2.2.1.2.2.1 (d63.2.2.2.1.2.1).toNat r68.1),d63.2.2.1.2.2.2))),()))) nof)))))
else
(bif (decide ((Rose.val v62).1.1=(1:Int))) then
((idx m0.2.2.1 (Rose.val v62).1.2.1).bind fun v70 =>
(qf7 n m0.1 v70 (Rose.val v62).1.2.2.1).bind fun r71 =>
(idx m0.2.2.1 (Rose.val v62).1.2.1).bind fun v72 =>
some (.inl (l1,i4,(m0.1,(m0.2.1,((List.set m0.2.2.1 ((Rose.val v62).1.2.1).toNat r71.1),m0.2.2.2))),())))
else
(bif (decide ((Rose.val v62).1.1=(2:Int))) then
((iterN (qgi self_ref13_machine_do n) n (l1,i4,(0:Int),m0,((Rose.val v62).1.1,((Rose.val v62).1.2.1,((Rose.val v62).1.2.2.1,((Rose.val v62).1.2.2.2.1,((Rose.val v62).1.2.2.2.2.1,((Rose.val v62).1.2.2.2.2.2.1,((Rose.kids v62),()))))))),())).bind (Sum.elim (fun d73 =>
some (.inl (d73.1,d73.2.1,d73.2.2.1,()))) nof))
else
(some (.inl (l1,i4,m0,()))))):Option (qT45 ⊕ Empty)).bind (Sum.elim (fun d74 =>
some (.inl (d74.1,(IntKind.i64.wrap (d74.2.1+(1:Int))),d74.2.2.1,()))) nof))
else
(some (.inr (.inl (m0,()))))
noncomputable def qgm (self_ref13_machine_do:(List qT1)→qT5→Option qT44) (n:Nat) (d:qT45):Option (qT45 ⊕ ((qT5 × Unit) ⊕ Empty)):=qgl self_ref13_machine_do n d.1 d.2.1 d.2.2.1
noncomputable def qgn (self_ref13_machine_do:(List qT1)→qT5→Option qT44) (n:Nat) (l1:(List qT1)) (mo0:qT5):Option qT44 :=
(iterN (qgm self_ref13_machine_do n) n (l1,(0:Int),mo0,())).bind (Sum.elim (fun d75 =>
some ((),(d75.1,()))) nof)
noncomputable def qgo:Nat→(List qT1)→qT5→Option qT44
  | 0=>fun _ _=>none
  | n+1=>qgn (qgo n) n
noncomputable def qgp (n:Nat) (p0:qT0) (regs1:(List Int)) (inputs2:(List Int)):Option qT22 :=
(qer n p0.1).bind fun r2 =>
chk (lenB ((([]:(List Int))).length+(regs1).length)) ((qgo n p0.2.2.2.2.1 (r2.1,(p0.2.2.2.1,((([]:(List Int))++regs1),(inputs2,()))))).bind fun r4 =>
some (r4.2.1.2.2.1,()))
noncomputable def qgq (n:Nat) (nb:Bool) (s0:(List Int)):Option qT22 :=
bif nb then
(some (([]:(List Int)),()))
else
(chk (lenB ((([]:(List Int))).length+(s0).length)) (some ((([]:(List Int))++s0),())))
noncomputable def qgr (n:Nat) (s0:(List Int)):Option qT22:=qgq n false s0
noncomputable def qgs (n:Nat) (nb:Bool) (s0:qT11):Option (qT11 × Unit) :=
bif nb then
(some (([]:qT11),()))
else
(chk (lenB ((([]:qT11)).length+(s0).length)) (some ((([]:qT11)++s0),())))
noncomputable def qgt (n:Nat) (s0:qT11):Option (qT11 × Unit):=qgs n false s0
noncomputable def qgu (n:Nat) (p0:qT0):Option (Bool × Unit) :=
bif (decide (p0.1.1=(0:Int)) && (decide (p0.1.2.1=(0:Int)) && true)) then
(bif (decide (p0.2.1=(0:Int))) then
(bif (decide (p0.2.2.1=(0:Int))) then
(bif (decide ((p0.2.2.2.1.length:Int)=(0:Int))) then
(some ((decide ((p0.2.2.2.2.1.length:Int)=(0:Int))),()))
else
(some (false,())))
else
(some (false,())))
else
(some (false,())))
else
(some (false,()))
noncomputable def qgv (n:Nat) (t17:(List qT3)) (t18:Int) (t19:Int) (t23:qT3) (t24:Int) (t25:Int) (t2:qT0) (out3:qT0) (own6:qT3):Option qT47 :=
bif (decide (t25<t24)) then
((idx t23 t25).bind fun v8 =>
(qgr n v8.2.1).bind fun r9 =>
chk (lenB ((own6).length+([(v8.1,(r9.1,()))]).length)) (some (.inl (t17,t18,t19,t23,t24,(IntKind.i64.wrap (t25+(1:Int))),t2,out3,(own6++[(v8.1,(r9.1,()))]),()))))
else
(some (.inr (.inl (t17,t18,t19,t2,out3,own6,()))))
noncomputable def qgw (n:Nat) (d:((List qT3) × Int × Int × qT3 × Int × Int × qT0 × qT0 × qT3 × Unit)):Option qT47:=qgv n d.1 d.2.1 d.2.2.1 d.2.2.2.1 d.2.2.2.2.1 d.2.2.2.2.2.1 d.2.2.2.2.2.2.1 d.2.2.2.2.2.2.2.1 d.2.2.2.2.2.2.2.2.1
noncomputable def qgx (n:Nat) (t17:(List qT3)) (t18:Int) (t19:Int) (t2:qT0) (out3:qT0):Option (((List qT3) × Int × Int × qT0 × qT0 × Unit) ⊕ ((qT0 × qT0 × Unit) ⊕ Empty)) :=
bif (decide (t19<t18)) then
((idx t17 t19).bind fun v14 =>
(iterN (qgw n) n (t17,t18,t19,v14,(v14.length:Int),(0:Int),t2,out3,([]:qT3),())).bind (Sum.elim (fun d15 =>
chk (lenB ((d15.2.2.2.2.1.2.2.2.1).length+([d15.2.2.2.2.2.1]).length)) (chk (sameP [.el (0),.f2,.f2,.f2,.f1] [.el (0),.f2,.f2,.f2,.f1]) (some (.inl (d15.1,d15.2.1,(IntKind.i64.wrap (d15.2.2.1+(1:Int))),d15.2.2.2.1,(d15.2.2.2.2.1.1,(d15.2.2.2.2.1.2.1,(d15.2.2.2.2.1.2.2.1,((d15.2.2.2.2.1.2.2.2.1++[d15.2.2.2.2.2.1]),d15.2.2.2.2.1.2.2.2.2)))),()))))) nof))
else
(some (.inr (.inl (t2,out3,()))))
noncomputable def qgy (n:Nat) (d:((List qT3) × Int × Int × qT0 × qT0 × Unit)):Option (((List qT3) × Int × Int × qT0 × qT0 × Unit) ⊕ ((qT0 × qT0 × Unit) ⊕ Empty)):=qgx n d.1 d.2.1 d.2.2.1 d.2.2.2.1 d.2.2.2.2.1
noncomputable def qgz (n:Nat) (p0:qT0):Option (qT0 × Unit) :=
(iterN (qgy n) n (p0.2.2.2.1,(p0.2.2.2.1.length:Int),(0:Int),(((0:Int),((0:Int),())),((0:Int),((0:Int),(([]:(List qT3)),(([]:(List qT1)),()))))),(p0.1,(p0.2.1,(p0.2.2.1,(([]:(List qT3)),(([]:(List qT1)),()))))),())).bind (Sum.elim (fun d17 =>
some (d17.2.1,())) nof)
noncomputable def qg0 (n:Nat) (s0:(List qT1)):Option ((Option (List qT1)) × Unit) :=
some ((some s0:Option (List qT1)),())
noncomputable def qg1 (n:Nat) (f2:qT2) (t10:(List Int)) (t11:Int) (t12:Int):Option ((qT2 × (List Int) × Int × Int × Unit) ⊕ qT29) :=
bif (decide (t12<t11)) then
((idx t10 t12).bind fun v12 =>
(bif (decide (v12<(0:Int))) then
(some (.inl (f2,t10,t11,t12,true,())))
else
((qar n f2).bind fun r13 =>
some (.inl (f2,t10,t11,t12,(decide (r13.1≤v12)),()))):Option ((qT2 × (List Int) × Int × Int × Bool × Unit) ⊕ Empty)).bind (Sum.elim (fun d14 =>
bif d14.2.2.2.2.1 then
(some (.inr (.inl ((2:Int),()))))
else
(some (.inl (d14.1,d14.2.1,d14.2.2.1,(IntKind.i64.wrap (d14.2.2.2.1+(1:Int))),())))) nof))
else
(some (.inr (.inr (.inl (())))))
noncomputable def qg2 (n:Nat) (d:(qT2 × (List Int) × Int × Int × Unit)):Option ((qT2 × (List Int) × Int × Int × Unit) ⊕ qT29):=qg1 n d.1 d.2.1 d.2.2.1 d.2.2.2.1
noncomputable def qg3 (n:Nat) (f0:qT2) (l1:(List Int)):Option (Int × Unit) :=
(qap n f0).bind fun r3 =>
bif (!r3.1) then
(some ((1:Int),()))
else
((iterN (qg2 n) n (f0,l1,(l1.length:Int),(0:Int),())).bind (Sum.elim (fun d18 =>
some (d18.1,())) (Sum.elim (fun d17 =>
some ((0:Int),())) nof)))
noncomputable def qg4 (n:Nat) (f0:qT2):Option (qT26 × Unit) :=
bif (decide (f0.2.1=(1:Int))) then
(some ((some (.inl (f0.1,())):qT26),()))
else
((qb5 n f0.2.1).bind fun r1 =>
some ((some (.inr (f0.2.1,(r1.1,()))):qT26),()))
noncomputable def qg5 (n:Nat) (f0:(Int × Unit)) (a1:Int) (b2:Int):Option (Int × Unit) :=
bif decide (f0.1=0) then none else
some ((Int.tmod (IntKind.i64.wrap (a1*b2)) f0.1),())
noncomputable def qg6 (n:Nat) (a1:Int) (b2:Int) (f3:qT2) (out7:Int):Option (qT56 ⊕ qT10) :=
bif (decide ((0:Int)<b2)) then
(((bif (decide ((IntKind.i64.wrap ((BitVec.ofInt IntKind.i64.bits b2 &&& BitVec.ofInt IntKind.i64.bits (1:Int)).toNat))=(1:Int))) then
(some (.inl (a1,b2,f3,(IntKind.i64.wrap ((BitVec.ofInt IntKind.i64.bits out7 ^^^ BitVec.ofInt IntKind.i64.bits a1).toNat)),())))
else
(some (.inl (a1,b2,f3,out7,()))):Option (qT56 ⊕ Empty)).bind (Sum.elim (fun d4 =>
bif decide ((1:Int)<0) then none else
bif decide (d4.2.2.1.1<0) then none else
bif (decide ((Int.fdiv (IntKind.i64.wrap (d4.1*2 ^ (min ((1:Int)).toNat IntKind.i64.bits))) (2 ^ (min (d4.2.2.1.1).toNat IntKind.i64.bits)))=(1:Int))) then
(some (.inl ((IntKind.i64.wrap ((BitVec.ofInt IntKind.i64.bits (IntKind.i64.wrap (d4.1*2 ^ (min ((1:Int)).toNat IntKind.i64.bits))) ^^^ BitVec.ofInt IntKind.i64.bits d4.2.2.1.2.1).toNat)),d4.2.1,d4.2.2.1,d4.2.2.2.1,())))
else
(some (.inl ((IntKind.i64.wrap (d4.1*2 ^ (min ((1:Int)).toNat IntKind.i64.bits))),d4.2.1,d4.2.2.1,d4.2.2.2.1,())))) nof):Option (qT56 ⊕ Empty)).bind (Sum.elim (fun d5 =>
bif decide ((1:Int)<0) then none else
some (.inl (d5.1,(Int.fdiv d5.2.1 (2 ^ (min ((1:Int)).toNat IntKind.i64.bits))),d5.2.2.1,d5.2.2.2.1,()))) nof))
else
(some (.inr (.inl (out7,()))))
noncomputable def qg7 (n:Nat) (d:qT56):Option (qT56 ⊕ qT10):=qg6 n d.1 d.2.1 d.2.2.1 d.2.2.2.1
noncomputable def qg8 (n:Nat) (f0:qT2) (a1:Int) (b2:Int):Option (Int × Unit) :=
(iterN (qg7 n) n (a1,b2,f0,(0:Int),())).bind (Sum.elim (fun d7 =>
some (d7.1,())) nof)
noncomputable def qg9 (n:Nat) (x0:qT26) (a1:Int) (k2:Int) (out7:Int):Option (qT52 ⊕ qT10) :=
bif (decide ((0:Int)<k2)) then
(((bif (decide ((IntKind.i64.wrap ((BitVec.ofInt IntKind.i64.bits k2 &&& BitVec.ofInt IntKind.i64.bits (1:Int)).toNat))=(1:Int))) then
((x0).bind (Sum.elim (fun u24 =>
(qg5 n u24 out7 a1).bind fun r26 =>
some (.inl (x0,a1,k2,r26.1,()))) (fun u25 =>
(qg8 n u25 out7 a1).bind fun r27 =>
some (.inl (x0,a1,k2,r27.1,())))))
else
(some (.inl (x0,a1,k2,out7,()))):Option (qT52 ⊕ Empty)).bind (Sum.elim (fun d28 =>
(d28.1).bind (Sum.elim (fun u29 =>
(qg5 n u29 d28.2.1 d28.2.1).bind fun r31 =>
some (.inl (d28.1,r31.1,d28.2.2.1,d28.2.2.2.1,()))) (fun u30 =>
(qg8 n u30 d28.2.1 d28.2.1).bind fun r32 =>
some (.inl (d28.1,r32.1,d28.2.2.1,d28.2.2.2.1,()))))) nof):Option (qT52 ⊕ Empty)).bind (Sum.elim (fun d33 =>
bif decide ((1:Int)<0) then none else
some (.inl (d33.1,d33.2.1,(Int.fdiv d33.2.2.1 (2 ^ (min ((1:Int)).toNat IntKind.i64.bits))),d33.2.2.2.1,()))) nof))
else
(some (.inr (.inl (out7,()))))
noncomputable def qha (n:Nat) (d:qT52):Option (qT52 ⊕ qT10):=qg9 n d.1 d.2.1 d.2.2.1 d.2.2.2.1
noncomputable def qhb (n:Nat) (x0:qT26) (a1:Int) (k2:Int):Option (Int × Unit) :=
(iterN (qha n) n (x0,a1,k2,(1:Int),())).bind (Sum.elim (fun d35 =>
some (d35.1,())) nof)
noncomputable def qhc (n:Nat) (f0:qT2) (a1:Int):Option qT2 :=
(qg3 n f0 [a1]).bind fun r3 =>
bif (!decide (r3.1=(0:Int))) then
(some ((0:Int),(r3.1,())))
else
(bif (decide (a1=(0:Int))) then
(some ((0:Int),((6:Int),())))
else
((qg4 n f0).bind fun r4 =>
(qar n f0).bind fun r5 =>
(qhb n r4.1 a1 (IntKind.i64.wrap (r5.1-(2:Int)))).bind fun r6 =>
some (r6.1,((0:Int),()))))
noncomputable def qhd (self_regs_calc_inverted:qT6→(List qT1)→Option qT21) (n:Nat) (c2:qT6) (e10:Int) (e11:qT1) (out5:(List qT1)):Option (qT21 ⊕ Empty) :=
(qgt n (Rose.val e11).1.2.2.2.2.2.1).bind fun r15 =>
(bif (decide ((Rose.val e11).1.1=(0:Int))) then
((qc2 n c2 (0:Int) (Rose.val e11).1.2.2.1).bind fun r16 =>
some (.inl (out5,((Rose.val e11).1.1,((Rose.val e11).1.2.1,(r16.1,((Rose.val e11).1.2.2.2.1,((Rose.val e11).1.2.2.2.2.1,(r15.1,((Rose.kids e11),()))))))),())))
else
(bif (decide ((Rose.val e11).1.1=(1:Int))) then
((Option.bind c2 fun p17 =>
(qhc n p17.1 (Rose.val e11).1.2.2.1).bind fun r18 =>
some (.inl (out5,((Rose.val e11).1.1,((Rose.val e11).1.2.1,(r18.1,((Rose.val e11).1.2.2.2.1,((Rose.val e11).1.2.2.2.2.1,(r15.1,((Rose.kids e11),()))))))),()))))
else
((self_regs_calc_inverted c2 (Rose.kids e11)).bind fun r19 =>
some (.inl (out5,((Rose.val e11).1.1,((Rose.val e11).1.2.1,((Rose.val e11).1.2.2.1,((Rose.val e11).1.2.2.2.1,((Rose.val e11).1.2.2.2.2.1,(r15.1,(r19.1,()))))))),())))):Option (((List qT1) × qT4 × Unit) ⊕ Empty)).bind (Sum.elim (fun d20 =>
chk (lenB ((d20.1).length+([(Rose.node (((0:Int),((0:Int),((0:Int),((0:Int),((0:Int),(([]:qT11),())))))),()) ([]:(List qT1)))]).length)) (chk (sameP [.el (0)] [.el (0)]) ((idx (d20.1++[(Rose.node (((0:Int),((0:Int),((0:Int),((0:Int),((0:Int),(([]:qT11),())))))),()) ([]:(List qT1)))]) (d20.1.length:Int)).bind fun v21 =>
some (.inl ((List.set (d20.1++[(Rose.node (((0:Int),((0:Int),((0:Int),((0:Int),((0:Int),(([]:qT11),())))))),()) ([]:(List qT1)))]) ((d20.1.length:Int)).toNat (Rose.node ((d20.2.1.1,(d20.2.1.2.1,(d20.2.1.2.2.1,(d20.2.1.2.2.2.1,(d20.2.1.2.2.2.2.1,(d20.2.1.2.2.2.2.2.1,())))))),()) d20.2.1.2.2.2.2.2.2.1)),()))))) nof)
noncomputable def qhe (self_regs_calc_inverted:qT6→(List qT1)→Option qT21) (n:Nat) (c:(qT6 × Unit × Unit)) (x:(Int × qT1)) (d:qT21):Option (qT21 ⊕ Empty):=qhd self_regs_calc_inverted n c.1 x.1 x.2 d.1
noncomputable def qhf (self_regs_calc_inverted:qT6→(List qT1)→Option qT21) (n:Nat) (c2:qT6) (out5:(List qT1)):Option qT21 :=
some (out5,())
noncomputable def qhg (self_regs_calc_inverted:qT6→(List qT1)→Option qT21) (n:Nat) (c:(qT6 × Unit × Unit)) (d:qT21):Option qT21:=qhf self_regs_calc_inverted n c.1 d.1
noncomputable def qhh (self_regs_calc_inverted:qT6→(List qT1)→Option qT21) (n:Nat) (c0:qT6) (l1:(List qT1)):Option qT21 :=
(qg0 n l1).bind fun r22 =>
(itV r22.1).bind fun xs23 =>
(rngL (qhe self_regs_calc_inverted n (c0,(),())) xs23 (([]:(List qT1)),())).bind (Sum.elim (fun d24=>qhg self_regs_calc_inverted n (c0,(),()) d24) nof)
noncomputable def qhi:Nat→qT6→(List qT1)→Option qT21
  | 0=>fun _ _=>none
  | n+1=>qhh (qhi n) n
noncomputable def qhj (n:Nat) (p0:qT0):Option (qT0 × (Int × Unit)) :=
(qbs n p0).bind fun r3 =>
bif (!r3.1) then
(some ((((0:Int),((0:Int),())),((0:Int),((0:Int),(([]:(List qT3)),(([]:(List qT1)),()))))),((1:Int),())))
else
((qgz n p0).bind fun r5 =>
(qb7 n p0.1).bind fun r8 =>
(qhi n r8.1 p0.2.2.2.2.1).bind fun r9 =>
some ((r5.1.1,(r5.1.2.1,(r5.1.2.2.1,(r5.1.2.2.2.1,(r9.1,r5.1.2.2.2.2.2))))),((0:Int),())))
noncomputable def qhk (n:Nat) (p0:qT0):Option (Int × Unit) :=
(qe3 n p0.2.2.2.2.1 (61:Int)).bind fun r2 =>
some (r2.2.1,())
noncomputable def qhl (n:Nat) (p0:qT0) (values1:(List Int)) (inputs2:(List Int)):Option (Bool × Unit) :=
((qai n p0).bind fun r5 =>
bif r5.1 then
(some (.inl (values1,inputs2,p0,true,())))
else
(bif (decide ((100:Int)<(values1.length:Int))) then
(some (.inl (values1,inputs2,p0,true,())))
else
(some (.inl (values1,inputs2,p0,(decide ((100:Int)<(inputs2.length:Int))),())))):Option (((List Int) × (List Int) × qT0 × Bool × Unit) ⊕ Empty)).bind (Sum.elim (fun d6 =>
bif d6.2.2.2.1 then
((qea n).bind fun r7 =>
some (r7.1,()))
else
((qfs n d6.2.2.1).bind fun r10 =>
(qhj n r10.1).bind fun r11 =>
(qfe n d6.2.2.1).bind fun r16 =>
bif (!r16.1) then
(bif (decide (r11.2.1=(1:Int))) then
((qgu n r11.1).bind fun r17 =>
bif r17.1 then
((qea n).bind fun r18 =>
some (r18.1,()))
else
(some (false,())))
else
(some (false,())))
else
((bif (!decide (r11.2.1=(0:Int))) then
(some (.inl (d6.1,d6.2.1,d6.2.2.1,true,r11.1,())))
else
((qfe n r11.1).bind fun r30 =>
bif (!r30.1) then
(some (.inl (d6.1,d6.2.1,d6.2.2.1,true,r11.1,())))
else
(bif (!(decide (r11.1.1.1=d6.2.2.1.1.1) && (decide (r11.1.1.2.1=d6.2.2.1.1.2.1) && true))) then
(some (.inl (d6.1,d6.2.1,d6.2.2.1,true,r11.1,())))
else
(bif (!decide (r11.1.2.1=d6.2.2.1.2.1)) then
(some (.inl (d6.1,d6.2.1,d6.2.2.1,true,r11.1,())))
else
(bif (!decide (r11.1.2.2.1=d6.2.2.1.2.2.1)) then
(some (.inl (d6.1,d6.2.1,d6.2.2.1,true,r11.1,())))
else
((qfj n r11.1).bind fun r31 =>
(qfj n d6.2.2.1).bind fun r32 =>
bif (!decide (r31.1=r32.1)) then
(some (.inl (d6.1,d6.2.1,d6.2.2.1,true,r11.1,())))
else
((qhk n r11.1).bind fun r33 =>
(qhk n d6.2.2.1).bind fun r34 =>
some (.inl (d6.1,d6.2.1,d6.2.2.1,(!decide (r33.1=r34.1)),r11.1,())))))))):Option (((List Int) × (List Int) × qT0 × Bool × qT0 × Unit) ⊕ Empty)).bind (Sum.elim (fun d35 =>
bif d35.2.2.2.1 then
(some (false,()))
else
(((qfw n d35.2.2.1 d35.1 d35.2.1).bind fun r42 =>
bif (!r42.1) then
(some (.inl (d35.1,d35.2.1,d35.2.2.1,true,d35.2.2.2.2.1,())))
else
((qf4 n d35.2.2.1).bind fun r43 =>
some (.inl (d35.1,d35.2.1,d35.2.2.1,r43.1,d35.2.2.2.2.1,()))):Option (((List Int) × (List Int) × qT0 × Bool × qT0 × Unit) ⊕ Empty)).bind (Sum.elim (fun d44 =>
bif d44.2.2.2.1 then
((qea n).bind fun r45 =>
some (r45.1,()))
else
((qgp n d44.2.2.1 d44.1 d44.2.1).bind fun r46 =>
(qgp n d44.2.2.2.2.1 r46.1 d44.2.1).bind fun r47 =>
(qd9 n r47.1 d44.1).bind fun r48 =>
bif r48.1 then
((qgp n d44.2.2.2.2.1 d44.1 d44.2.1).bind fun r49 =>
(qgp n d44.2.2.1 r49.1 d44.2.1).bind fun r50 =>
(qd9 n r50.1 d44.1).bind fun r51 =>
bif r51.1 then
((qea n).bind fun r52 =>
some (r52.1,()))
else
(some (false,())))
else
(some (false,())))) nof))) nof)))) nof)
end Go.Proofs.YtmidcfjmchpcnaaGreat.V
