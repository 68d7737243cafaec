/- Monoids: programs: valid ones, products, truth tables, the program's own and the reference's. -/
import Derived.Test.YtibphkgcdnconaaPB
namespace Go.Proofs.Ytibphkgcdnconaa.PureM
open Go Go.RowKit Go.Proofs.Ytibphkgcdnconaa.QMon Go.Proofs.YtibphkgcdnconaaW.PrintWords Go.Proofs.YtibphkgcdnconaaW.PrintLast Go.Proofs.YtibphkgcdnconaaW.PrintMore Go.Proofs.YtibphkgcdnconaaX
open Classical
set_option linter.unusedVariables false
set_option linter.unusedSimpArgs false

/-! ### shifts -/
theorem shl_nat {A n : Nat} (hA : A ≤ 1000000) (hn : n ≤ 16) : shl .i64 (A : Int) (n : Int) = ((A * 2 ^ n : Nat) : Int) := by
  unfold shl
  have e : min (n : Int).toNat IntKind.i64.bits = n := by
    have : IntKind.i64.bits = 64 := rfl
    rw [this, Int.toNat_natCast]; omega
  have h1 : 2 ^ n ≤ 2 ^ 16 := Nat.pow_le_pow_right (by omega) hn
  have h2 : A * 2 ^ n ≤ 1000000 * 2 ^ 16 := Nat.mul_le_mul hA h1
  rw [e, show ((A : Int) * 2 ^ n) = ((A * 2 ^ n : Nat) : Int) by simp, i64_w, w64 (by omega) (by omega)]

/-! ### valid programs -/
def InsV (e I : Int) (s : S64) : Prop := (0 ≤ s.f0 ∧ s.f0 < I) ∧ (0 ≤ s.f1 ∧ s.f1 < e) ∧ (0 ≤ s.f2 ∧ s.f2 < e)
def YesV (e : Int) (yes : List Int) (i : Nat) : Prop := (0 ≤ rd yes (i : Int) ∧ rd yes (i : Int) < e) ∧ (0 < i → rd yes ((i - 1 : Nat) : Int) < rd yes (i : Int))
def PV (m : List (List Int)) (I : Int) (ins : List S64) (yes : List Int) : Prop :=
  0 ≤ I ∧ I ≤ 16 ∧ ins.length ≤ 200000 ∧ (∀ i, i < ins.length → InsV (m.length : Int) I (rd_T64 ins (i : Int))) ∧ ∀ i, i < yes.length → YesV (m.length : Int) yes i
theorem prev1 {j : Nat} (h : 0 < j) (hj : j < 4611686018427387904) : wrap64 ((j : Int) - 1) = ((j - 1 : Nat) : Int) := by rw [w64 (by omega) (by omega)]; omega

theorem ref_yes_step (e I : Int) (ins : List S64) (yes : List Int) (hy : yes.length ≤ 1000000) {i : Nat} (hi : i < yes.length) (r : Bool)
    (h1 : YesV e yes i → Ev (fun k => commodatumref10_ValidProgram.l1 k e ((i + 1 : Nat) : Int) I ins yes) r) (h2 : ¬ YesV e yes i → r = false) :
    Ev (fun k => commodatumref10_ValidProgram.l1 k e (i : Int) I ins yes) r := by
  have hT : ¬ YesV e yes i → Ev (fun k => commodatumref10_ValidProgram.j4 k e (i : Int) true I ins yes) r := fun h => by
    refine Ev.step (fun k => by rw [commodatumref10_ValidProgram.j4]) ?_
    exact Ev.pos rfl (Ev.ret (h2 h).symm)
  have hF : YesV e yes i → Ev (fun k => commodatumref10_ValidProgram.j4 k e (i : Int) false I ins yes) r := fun h => by
    refine Ev.step (fun k => by rw [commodatumref10_ValidProgram.j4]) ?_
    rw [up1 (by omega)]
    exact Ev.neg (by simp) (h1 h)
  refine Ev.step (fun k => by rw [commodatumref10_ValidProgram.l1]) ?_
  refine Ev.pos (by omega) ?_
  refine Ev.pos (by omega) ?_
  by_cases c1 : rd yes (i : Int) < 0
  · exact Ev.pos c1 (hT (fun z => by have := z.1.1; omega))
  refine Ev.neg c1 ?_
  by_cases c2 : rd yes (i : Int) ≥ e
  · exact Ev.pos c2 (hT (fun z => by have := z.1.2; omega))
  refine Ev.neg c2 ?_
  by_cases c3 : i = 0
  · refine Ev.neg (by omega) ?_
    exact hF ⟨by omega, fun z => by omega⟩
  · refine Ev.pos (by omega) ?_
    rw [prev1 (by omega) (by omega)]
    refine Ev.pos (by omega) ?_
    refine Ev.pos (by omega) ?_
    by_cases c4 : rd yes (i : Int) ≤ rd yes ((i - 1 : Nat) : Int)
    · rw [decide_eq_true c4]
      exact hT (fun z => by have := z.2 (by omega); omega)
    · rw [decide_eq_false c4]
      exact hF ⟨by omega, fun _ => by omega⟩
theorem ref_yes (e I : Int) (ins : List S64) (yes : List Int) (hy : yes.length ≤ 1000000) :
    Ev (fun k => commodatumref10_ValidProgram.l1 k e ((0 : Nat) : Int) I ins yes) (decide (∀ i, i < yes.length → YesV e yes i)) := by
  by_cases h : ∀ i, i < yes.length → YesV e yes i
  · rw [decide_eq_true h]
    refine loop_go (F := fun k i => commodatumref10_ValidProgram.l1 k e ((i : Nat) : Int) I ins yes) yes.length (fun i hi hn => ref_yes_step e I ins yes hy hi _ (fun _ => hn) (fun z => absurd (h i hi) z)) ?_ 0 (by omega)
    refine Ev.step (fun k => by rw [commodatumref10_ValidProgram.l1]) ?_
    exact Ev.neg (by omega) (Ev.ret rfl)
  · rw [decide_eq_false h]
    refine loop_no (F := fun k i => commodatumref10_ValidProgram.l1 k e ((i : Nat) : Int) I ins yes) yes.length h (fun i hi hp hn => ref_yes_step e I ins yes hy hi _ (fun _ => hn) (fun _ => rfl)) (fun i hi _ hp => ref_yes_step e I ins yes hy hi _ (fun z => absurd z hp) (fun _ => rfl))
theorem ref_ins_step (e I : Int) (ins : List S64) (yes : List Int) (hl : ins.length ≤ 1000000) {i : Nat} (hi : i < ins.length) (r : Bool)
    (h1 : InsV e I (rd_T64 ins (i : Int)) → Ev (fun k => commodatumref10_ValidProgram.l0 k e ((i + 1 : Nat) : Int) I ins yes) r) (h2 : ¬ InsV e I (rd_T64 ins (i : Int)) → r = false) :
    Ev (fun k => commodatumref10_ValidProgram.l0 k e (i : Int) I ins yes) r := by
  have hT : ¬ InsV e I (rd_T64 ins (i : Int)) → Ev (fun k => commodatumref10_ValidProgram.j2 k e (i : Int) true I ins yes) r := fun h => by
    refine Ev.step (fun k => by rw [commodatumref10_ValidProgram.j2]) ?_
    exact Ev.pos rfl (Ev.ret (h2 h).symm)
  have hF : InsV e I (rd_T64 ins (i : Int)) → Ev (fun k => commodatumref10_ValidProgram.j2 k e (i : Int) false I ins yes) r := fun h => by
    refine Ev.step (fun k => by rw [commodatumref10_ValidProgram.j2]) ?_
    rw [up1 (by omega)]
    exact Ev.neg (by simp) (h1 h)
  refine Ev.step (fun k => by rw [commodatumref10_ValidProgram.l0]) ?_
  refine Ev.pos (by omega) ?_
  refine Ev.pos (by omega) ?_
  clear h1 h2
  unfold InsV at hT hF
  generalize rd_T64 ins (i : Int) = s at *
  by_cases c1 : s.f0 < 0
  · exact Ev.pos c1 (hT (by omega))
  refine Ev.neg c1 ?_
  by_cases c2 : s.f0 ≥ I
  · exact Ev.pos c2 (hT (by omega))
  refine Ev.neg c2 ?_
  by_cases c3 : s.f1 < 0
  · exact Ev.pos c3 (hT (by omega))
  refine Ev.neg c3 ?_
  by_cases c4 : s.f1 ≥ e
  · exact Ev.pos c4 (hT (by omega))
  refine Ev.neg c4 ?_
  by_cases c5 : s.f2 < 0
  · exact Ev.pos c5 (hT (by omega))
  refine Ev.neg c5 ?_
  by_cases c6 : s.f2 ≥ e
  · rw [decide_eq_true c6]
    exact hT (by omega)
  · rw [decide_eq_false c6]
    exact hF (by omega)
theorem ref_ins (e I : Int) (ins : List S64) (yes : List Int) (hl : ins.length ≤ 1000000) (hy : yes.length ≤ 1000000) :
    Ev (fun k => commodatumref10_ValidProgram.l0 k e ((0 : Nat) : Int) I ins yes) (decide ((∀ i, i < ins.length → InsV e I (rd_T64 ins (i : Int))) ∧ ∀ i, i < yes.length → YesV e yes i)) := by
  by_cases h : ∀ i, i < ins.length → InsV e I (rd_T64 ins (i : Int))
  · have e1 : decide ((∀ i, i < ins.length → InsV e I (rd_T64 ins (i : Int))) ∧ ∀ i, i < yes.length → YesV e yes i) = decide (∀ i, i < yes.length → YesV e yes i) :=
      decide_eq_decide.2 ⟨fun z => z.2, fun z => ⟨h, z⟩⟩
    rw [e1]
    refine loop_go (F := fun k i => commodatumref10_ValidProgram.l0 k e ((i : Nat) : Int) I ins yes) ins.length (fun i hi hn => ref_ins_step e I ins yes hl hi _ (fun _ => hn) (fun z => absurd (h i hi) z)) ?_ 0 (by omega)
    refine Ev.step (fun k => by rw [commodatumref10_ValidProgram.l0]) ?_
    exact Ev.neg (by omega) (ref_yes e I ins yes hy)
  · have e1 : decide ((∀ i, i < ins.length → InsV e I (rd_T64 ins (i : Int))) ∧ ∀ i, i < yes.length → YesV e yes i) = false := decide_eq_false (fun z => h z.1)
    rw [e1]
    refine loop_no (F := fun k i => commodatumref10_ValidProgram.l0 k e ((i : Nat) : Int) I ins yes) ins.length h (fun i hi hp hn => ref_ins_step e I ins yes hl hi _ (fun _ => hn) (fun _ => rfl)) (fun i hi _ hp => ref_ins_step e I ins yes hl hi _ (fun z => absurd z hp) (fun _ => rfl))
theorem pv_bad {m : List (List Int)} {I : Int} {ins : List S64} {yes : List Int} (h : ¬ (0 ≤ I ∧ I ≤ 16 ∧ ins.length ≤ 200000)) : decide (PV m I ins yes) = false :=
  decide_eq_false (fun z => h ⟨z.1, z.2.1, z.2.2.1⟩)
theorem pv_good {m : List (List Int)} {I : Int} {ins : List S64} {yes : List Int} (h : 0 ≤ I ∧ I ≤ 16 ∧ ins.length ≤ 200000) :
    decide (PV m I ins yes) = decide ((∀ i, i < ins.length → InsV (m.length : Int) I (rd_T64 ins (i : Int))) ∧ ∀ i, i < yes.length → YesV (m.length : Int) yes i) :=
  decide_eq_decide.2 ⟨fun z => z.2.2.2, fun z => ⟨h.1, h.2.1, h.2.2, z⟩⟩
theorem refVP_ev (m : List (List Int)) (I : Int) (ins : List S64) (yes : List Int) (hl : ins.length ≤ 1000000) (hy : yes.length ≤ 1000000) :
    Ev (fun k => commodatumref10_ValidProgram.f k m I ins yes) (decide (PV m I ins yes)) := by
  unfold commodatumref10_ValidProgram.f
  by_cases h1 : I < 0
  · rw [pv_bad (by omega)]
    refine Ev.pos h1 ?_
    refine Ev.step (fun k => by rw [commodatumref10_ValidProgram.j0]) ?_
    exact Ev.pos rfl (Ev.ret rfl)
  refine Ev.neg h1 ?_
  by_cases h2 : I > 16
  · rw [pv_bad (by omega)]
    refine Ev.pos h2 ?_
    refine Ev.step (fun k => by rw [commodatumref10_ValidProgram.j0]) ?_
    exact Ev.pos rfl (Ev.ret rfl)
  refine Ev.neg h2 ?_
  refine Ev.step (fun k => by rw [commodatumref10_ValidProgram.j0]) ?_
  by_cases h3 : ins.length > 200000
  · rw [pv_bad (by omega)]
    exact Ev.pos (decide_eq_true (by omega)) (Ev.ret rfl)
  · rw [pv_good (by omega)]
    refine Ev.neg (by simp; omega) ?_
    exact ref_ins _ I ins yes hl hy
theorem el_ev (x : Int) (m : List (List Int)) : monoid_fits_1.f x m = some (decide (0 ≤ x ∧ x < (m.length : Int))) := by
  unfold monoid_fits_1.f
  by_cases h : x ≥ 0
  · rw [if_pos h]
    congr 1
    exact decide_eq_decide.2 ⟨fun z => ⟨h, z⟩, fun z => z.2⟩
  · rw [if_neg h, decide_eq_false (fun z => h z.1)]
theorem bad_ev (a b c I : Int) (ins : List S64) (yes : List Int) (m : List (List Int)) : Ev (fun k => monoid_fits_2.f k a b c I ins yes m) (decide (¬ InsV (m.length : Int) I ⟨a, b, c⟩)) := by
  have hj : ∀ (x : Bool), Ev (fun k => monoid_fits_2.j0 k x) x := fun x => by
    refine Ev.step (fun k => by rw [monoid_fits_2.j0]) ?_
    exact Ev.ret rfl
  unfold monoid_fits_2.f
  rw [el_ev, el_ev]
  by_cases h1 : a < 0
  · rw [decide_eq_true (show ¬ InsV (m.length : Int) I ⟨a, b, c⟩ from fun z => by have := z.1.1; simp at this; omega)]
    exact Ev.pos h1 (hj true)
  refine Ev.neg h1 ?_
  by_cases h2 : a ≥ I
  · rw [decide_eq_true (show ¬ InsV (m.length : Int) I ⟨a, b, c⟩ from fun z => by have := z.1.2; simp at this; omega)]
    exact Ev.pos h2 (hj true)
  refine Ev.neg h2 ?_
  refine Ev.sb ?_
  by_cases h3 : 0 ≤ b ∧ b < (m.length : Int)
  · rw [decide_eq_true h3]
    refine Ev.pos rfl ?_
    refine Ev.sb ?_
    by_cases h4 : 0 ≤ c ∧ c < (m.length : Int)
    · rw [decide_eq_true h4, decide_eq_false (show ¬ ¬ InsV (m.length : Int) I ⟨a, b, c⟩ from fun z => z ⟨by simp; omega, h3, h4⟩)]
      exact hj false
    · rw [decide_eq_false h4, decide_eq_true (show ¬ InsV (m.length : Int) I ⟨a, b, c⟩ from fun z => h4 z.2.2)]
      exact hj true
  · rw [decide_eq_false h3, decide_eq_true (show ¬ InsV (m.length : Int) I ⟨a, b, c⟩ from fun z => h3 z.2.1)]
    exact Ev.neg (by simp) (hj true)
theorem ownIns_ev (m : List (List Int)) (I : Int) (ins : List S64) (yes : List Int) (hl : ins.length ≤ 1000000) :
    Ev (fun k => api_MonIns_at_monoid_fits_2.f k ins I ins yes m) (!decide (∀ i, i < ins.length → InsV (m.length : Int) I (rd_T64 ins (i : Int)))) := by
  unfold api_MonIns_at_monoid_fits_2.f api_MonIns_at_monoid_fits_2_119.f
  refine any_loop (F := fun k i => api_MonIns_at_monoid_fits_2_119.l0 k ins (ins.length : Int) ((i : Nat) : Int) I ins yes m) (P := fun i => ¬ InsV (m.length : Int) I (rd_T64 ins (i : Int))) ins.length (fun i hi hp => ?_) (fun i hi hp r hr => ?_) ?_ _ ?_
  · refine Ev.step (fun k => by rw [api_MonIns_at_monoid_fits_2_119.l0]) ?_
    refine Ev.pos (by omega) ?_
    refine Ev.pos (by omega) ?_
    refine Ev.pos (by omega) ?_
    have hb := bad_ev (rd_T64 ins (i : Int)).f0 (rd_T64 ins (i : Int)).f1 (rd_T64 ins (i : Int)).f2 I ins yes m
    rw [decide_eq_true (show ¬ InsV (m.length : Int) I ⟨(rd_T64 ins (i : Int)).f0, (rd_T64 ins (i : Int)).f1, (rd_T64 ins (i : Int)).f2⟩ from hp)] at hb
    exact Ev.bind hb (Ev.pos rfl (Ev.ret rfl))
  · refine Ev.step (fun k => by rw [api_MonIns_at_monoid_fits_2_119.l0]) ?_
    refine Ev.pos (by omega) ?_
    refine Ev.pos (by omega) ?_
    refine Ev.pos (by omega) ?_
    have hb := bad_ev (rd_T64 ins (i : Int)).f0 (rd_T64 ins (i : Int)).f1 (rd_T64 ins (i : Int)).f2 I ins yes m
    rw [decide_eq_false (show ¬ ¬ InsV (m.length : Int) I ⟨(rd_T64 ins (i : Int)).f0, (rd_T64 ins (i : Int)).f1, (rd_T64 ins (i : Int)).f2⟩ from hp)] at hb
    refine Ev.bind hb ?_
    rw [up1 (by omega)]
    exact Ev.neg (by simp) hr
  · refine Ev.step (fun k => by rw [api_MonIns_at_monoid_fits_2_119.l0]) ?_
    exact Ev.neg (by omega) (Ev.ret rfl)
  · rw [Bool.not_eq_true', decide_eq_false_iff_not]
    constructor
    · intro h
      obtain ⟨i, h1, h2, _⟩ := first_bad h
      exact ⟨i, h1, h2⟩
    · rintro ⟨i, h1, h2⟩ h
      exact h2 (h i h1)
theorem own_yes_step (m : List (List Int)) (I : Int) (ins : List S64) (yes : List Int) (hy : yes.length ≤ 1000000) {i : Nat} (hi : i < yes.length) (r : Bool)
    (h1 : YesV (m.length : Int) yes i → Ev (fun k => monoid_fits.l0 k yes (yes.length : Int) ((i + 1 : Nat) : Int) m I ins yes) r) (h2 : ¬ YesV (m.length : Int) yes i → r = false) :
    Ev (fun k => monoid_fits.l0 k yes (yes.length : Int) (i : Int) m I ins yes) r := by
  refine Ev.step (fun k => by rw [monoid_fits.l0]) ?_
  refine Ev.pos (by omega) ?_
  refine Ev.pos (by omega) ?_
  refine Ev.pos (by omega) ?_
  rw [el_ev, up1 (by omega)]
  by_cases c : 0 ≤ rd yes (i : Int) ∧ rd yes (i : Int) < (m.length : Int)
  · rw [decide_eq_true c]
    refine Ev.sb ?_
    refine Ev.pos rfl ?_
    by_cases c3 : i = 0
    · refine Ev.neg (by omega) ?_
      exact h1 ⟨c, fun z => by omega⟩
    · refine Ev.pos (by omega) ?_
      rw [prev1 (by omega) (by omega)]
      refine Ev.pos (by omega) ?_
      refine Ev.pos (by omega) ?_
      by_cases c4 : rd yes (i : Int) ≤ rd yes ((i - 1 : Nat) : Int)
      · exact Ev.pos c4 (Ev.ret (h2 (fun z => by have := z.2 (by omega); omega)).symm)
      · exact Ev.neg c4 (h1 ⟨c, fun _ => by omega⟩)
  · rw [decide_eq_false c]
    exact Ev.sb (Ev.neg (by simp) (Ev.ret (h2 (fun z => c z.1)).symm))
theorem fits_ev (m : List (List Int)) (I : Int) (ins : List S64) (yes : List Int) (hl : ins.length ≤ 1000000) (hy : yes.length ≤ 1000000) :
    Ev (fun k => monoid_fits.f k m I ins yes) (decide (PV m I ins yes)) := by
  unfold monoid_fits.f
  by_cases h1 : I < 0
  · rw [pv_bad (by omega)]
    refine Ev.pos h1 ?_
    refine Ev.step (fun k => by rw [monoid_fits.j0]) ?_
    exact Ev.pos rfl (Ev.ret rfl)
  refine Ev.neg h1 ?_
  by_cases h2 : I > 16
  · rw [pv_bad (by omega)]
    refine Ev.pos h2 ?_
    refine Ev.step (fun k => by rw [monoid_fits.j0]) ?_
    exact Ev.pos rfl (Ev.ret rfl)
  refine Ev.neg h2 ?_
  refine Ev.step (fun k => by rw [monoid_fits.j0]) ?_
  by_cases h3 : ins.length > 200000
  · rw [pv_bad (by omega)]
    exact Ev.pos (decide_eq_true (by omega)) (Ev.ret rfl)
  · rw [pv_good (by omega)]
    refine Ev.neg (by simp; omega) ?_
    by_cases h : ∀ i, i < yes.length → YesV (m.length : Int) yes i
    · have e1 : decide ((∀ i, i < ins.length → InsV (m.length : Int) I (rd_T64 ins (i : Int))) ∧ ∀ i, i < yes.length → YesV (m.length : Int) yes i) = decide (∀ i, i < ins.length → InsV (m.length : Int) I (rd_T64 ins (i : Int))) :=
        decide_eq_decide.2 ⟨fun z => z.1, fun z => ⟨z, h⟩⟩
      rw [e1]
      refine loop_go (F := fun k i => monoid_fits.l0 k yes (yes.length : Int) ((i : Nat) : Int) m I ins yes) yes.length (fun i hi hn => own_yes_step m I ins yes hy hi _ (fun _ => hn) (fun z => absurd (h i hi) z)) ?_ 0 (by omega)
      refine Ev.step (fun k => by rw [monoid_fits.l0]) ?_
      refine Ev.neg (by omega) ?_
      exact Ev.bind (ownIns_ev m I ins yes hl) (Ev.ret (by simp))
    · have e1 : decide ((∀ i, i < ins.length → InsV (m.length : Int) I (rd_T64 ins (i : Int))) ∧ ∀ i, i < yes.length → YesV (m.length : Int) yes i) = false := decide_eq_false (fun z => h z.2)
      rw [e1]
      refine loop_no (F := fun k i => monoid_fits.l0 k yes (yes.length : Int) ((i : Nat) : Int) m I ins yes) yes.length h (fun i hi hp hn => own_yes_step m I ins yes hy hi _ (fun _ => hn) (fun _ => rfl)) (fun i hi _ hp => own_yes_step m I ins yes hy hi _ (fun z => absurd z hp) (fun _ => rfl))
theorem ownVP_ev (m : List (List Int)) (I : Int) (ins : List S64) (yes : List Int) (hl : ins.length ≤ 1000000) (hy : yes.length ≤ 1000000) :
    Ev (fun k => monoid_ValidProgram.f k m I ins yes) (decide (VM m ∧ PV m I ins yes)) := by
  unfold monoid_ValidProgram.f
  refine Ev.bind (ownValid_ev m) ?_
  by_cases h : VM m
  · rw [decide_eq_true h]
    refine Ev.pos rfl ?_
    refine Ev.bind (fits_ev m I ins yes hl hy) (Ev.ret ?_)
    exact decide_eq_decide.2 ⟨fun z => ⟨h, z⟩, fun z => z.2⟩
  · rw [decide_eq_false h]
    exact Ev.neg (by simp) (Ev.ret (decide_eq_false (fun z => h z.1)).symm)

/-! ### products -/
def pr (m : List (List Int)) (ins : List S64) (x : List Bool) : Nat → Nat
  | 0 => 0
  | i + 1 => mu m (pr m ins x i) (if rdOf false x (rd_T64 ins (i : Int)).f0 = true then (rd_T64 ins (i : Int)).f2.toNat else (rd_T64 ins (i : Int)).f1.toNat)
theorem pr_lt {m : List (List Int)} {I : Int} {ins : List S64} {yes : List Int} (h : VM m) (hp : PV m I ins yes) (x : List Bool) : ∀ i, i ≤ ins.length → pr m ins x i < m.length := by
  intro i
  induction i with
  | zero => intro _; have := h.1.1; unfold pr; omega
  | succ i ih =>
    intro hi
    obtain ⟨_, h1, h2⟩ := hp.2.2.2.1 i (by omega)
    unfold pr
    refine h.1.lt (ih (by omega)) ?_
    split <;> omega
theorem at' {m : List (List Int)} (h : TV m) {a : Nat} {b : Int} (ha : a < m.length) (h0 : 0 ≤ b) (hb : b < (m.length : Int)) : rd (row m a) b = (mu m a b.toNat : Int) := by
  have := h.at ha (b := b.toNat) (by omega)
  rw [Int.toNat_of_nonneg h0] at this
  exact this
theorem ownPr_ev {m : List (List Int)} {I : Int} {ins : List S64} {yes : List Int} (h : VM m) (hp : PV m I ins yes) (x : List Bool) (hx : (x.length : Int) = I) :
    Ev (fun k => monoid_product.f k m I ins yes x) (pr m ins x ins.length : Int) := by
  unfold monoid_product.f
  have hq := loop_go (F := fun k i => monoid_product.l0 k m x (pr m ins x i : Int) ins (ins.length : Int) ((i : Nat) : Int)) (r := (pr m ins x ins.length : Int)) ins.length (fun i hi hn => ?_) ?_ 0 (by omega)
  · exact hq
  · have hl := hp.2.2.1
    obtain ⟨h1, h2, h3⟩ := hp.2.2.2.1 i hi
    have hlt := pr_lt h hp x i (by omega)
    have hs : pr m ins x (i + 1) = mu m (pr m ins x i) (if rdOf false x (rd_T64 ins (i : Int)).f0 = true then (rd_T64 ins (i : Int)).f2.toNat else (rd_T64 ins (i : Int)).f1.toNat) := rfl
    refine Ev.step (fun k => by rw [monoid_product.l0]) ?_
    generalize rd_T64 ins (i : Int) = s at *
    simp only [rd_row, h.1.len hlt, at' h.1 hlt h2.1 h2.2, at' h.1 hlt h3.1 h3.2]
    refine Ev.pos (by omega) ?_
    refine Ev.pos (by omega) ?_
    refine Ev.pos (by omega) ?_
    refine Ev.pos (by omega) ?_
    refine Ev.pos (by omega) ?_
    rw [up1 (by omega)]
    by_cases c : rdOf false x s.f0 = true
    · rw [hs, if_pos c] at hn
      refine Ev.pos c ?_
      refine Ev.pos (by omega) ?_
      refine Ev.pos (by omega) ?_
      refine Ev.pos (by omega) ?_
      refine Ev.pos (by omega) ?_
      exact hn
    · rw [hs, if_neg c] at hn
      refine Ev.neg c ?_
      refine Ev.pos (by omega) ?_
      refine Ev.pos (by omega) ?_
      refine Ev.pos (by omega) ?_
      refine Ev.pos (by omega) ?_
      exact hn
  · refine Ev.step (fun k => by rw [monoid_product.l0]) ?_
    exact Ev.neg (by omega) (Ev.ret rfl)
theorem refPr_ev {m : List (List Int)} {I : Int} {ins : List S64} {yes : List Int} (h : VM m) (hp : PV m I ins yes) (x : List Bool) (hx : (x.length : Int) = I) :
    Ev (fun k => commodatumref10_Product.f k m I ins yes x) (pr m ins x ins.length : Int) := by
  unfold commodatumref10_Product.f
  have hq := loop_go (F := fun k i => commodatumref10_Product.l0 k m x (pr m ins x i : Int) ((i : Nat) : Int) I ins yes) (r := (pr m ins x ins.length : Int)) ins.length (fun i hi hn => ?_) ?_ 0 (by omega)
  · exact hq
  · have hl := hp.2.2.1
    obtain ⟨h1, h2, h3⟩ := hp.2.2.2.1 i hi
    have hlt := pr_lt h hp x i (by omega)
    have hs : pr m ins x (i + 1) = mu m (pr m ins x i) (if rdOf false x (rd_T64 ins (i : Int)).f0 = true then (rd_T64 ins (i : Int)).f2.toNat else (rd_T64 ins (i : Int)).f1.toNat) := rfl
    refine Ev.step (fun k => by rw [commodatumref10_Product.l0]) ?_
    generalize rd_T64 ins (i : Int) = s at *
    simp only [rd_row, h.1.len hlt, at' h.1 hlt h2.1 h2.2, at' h.1 hlt h3.1 h3.2]
    refine Ev.pos (by omega) ?_
    refine Ev.pos (by omega) ?_
    refine Ev.pos (by omega) ?_
    refine Ev.pos (by omega) ?_
    rw [up1 (by omega)]
    by_cases c : rdOf false x s.f0 = true
    · rw [hs, if_pos c] at hn
      refine Ev.pos c ?_
      refine Ev.pos (by omega) ?_
      refine Ev.pos (by omega) ?_
      refine Ev.pos (by omega) ?_
      refine Ev.pos (by omega) ?_
      exact hn
    · rw [hs, if_neg c] at hn
      refine Ev.neg c ?_
      refine Ev.pos (by omega) ?_
      refine Ev.pos (by omega) ?_
      refine Ev.pos (by omega) ?_
      refine Ev.pos (by omega) ?_
      exact hn
  · refine Ev.step (fun k => by rw [commodatumref10_Product.l0]) ?_
    exact Ev.neg (by omega) (Ev.ret rfl)

/-! ### inputs by number; lists that contain -/
def inp (i : Int) (n : Nat) : List Bool := tab n (fun j => (Go.bits .and .i64 (shr .i64 i (j : Int)) 1) == 1)
theorem inp_length (i : Int) (n : Nat) : (inp i n).length = n := by unfold inp; simp
theorem tab_step {n i : Nat} {f : Nat → Bool} : (tab n (fun j => if j < i then f j else false)).set i (f i) = tab n (fun j => if j < i + 1 then f j else false) := by
  rw [tab_set]
  refine tab_congr (fun j hj => ?_)
  by_cases e : j = i
  · subst e; rw [if_pos rfl, if_pos (by omega)]
  · rw [if_neg e]
    by_cases c : j < i
    · rw [if_pos c, if_pos (by omega)]
    · rw [if_neg c, if_neg (by omega)]
theorem tab_start (n : Nat) (f : Nat → Bool) : List.replicate n false = tab n (fun j => if j < 0 then f j else false) := by
  rw [replicate_tab]; exact tab_congr (fun j _ => by rw [if_neg (by omega)])
theorem tab_end (n : Nat) (f : Nat → Bool) : tab n (fun j => if j < n then f j else false) = tab n f := tab_congr (fun j hj => if_pos hj)
theorem ownInp_ev (i : Int) (n : Nat) (hn : n ≤ 16) : Ev (fun k => bits_Input.f k i (n : Int)) (inp i n) := by
  unfold bits_Input.f
  refine Ev.pos (by omega) ?_
  refine Ev.pos (by omega) ?_
  refine Ev.sb ?_
  rw [Int.toNat_natCast, List.length_replicate, tab_start n (fun j => (Go.bits .and .i64 (shr .i64 i (j : Int)) 1) == 1)]
  refine loop_go (F := fun k j => bits_Input.l0 k i (tab n (fun q => if q < j then (Go.bits .and .i64 (shr .i64 i (q : Int)) 1) == 1 else false)) (n : Int) ((j : Nat) : Int)) n (fun j hj hx => ?_) ?_ 0 (by omega)
  · refine Ev.step (fun k => by rw [bits_Input.l0]) ?_
    refine Ev.pos (by omega) ?_
    refine Ev.pos (by omega) ?_
    refine Ev.pos (by rw [tab_length]; omega) ?_
    rw [Int.toNat_natCast, tab_step (f := fun q => (Go.bits .and .i64 (shr .i64 i (q : Int)) 1) == 1), up1 (by omega)]
    exact hx
  · refine Ev.step (fun k => by rw [bits_Input.l0]) ?_
    exact Ev.neg (by omega) (Ev.ret (tab_end n _))
theorem refInp_ev (i : Int) (n : Nat) (hn : n ≤ 16) : Ev (fun k => commodatumref09_Bits.f k i (n : Int)) (inp i n) := by
  unfold commodatumref09_Bits.f
  refine Ev.pos (by omega) ?_
  refine Ev.pos (by omega) ?_
  rw [Int.toNat_natCast, tab_start n (fun j => (Go.bits .and .i64 (shr .i64 i (j : Int)) 1) == 1)]
  refine loop_go (F := fun k j => commodatumref09_Bits.l0 k i (n : Int) (tab n (fun q => if q < j then (Go.bits .and .i64 (shr .i64 i (q : Int)) 1) == 1 else false)) ((j : Nat) : Int)) n (fun j hj hx => ?_) ?_ 0 (by omega)
  · refine Ev.step (fun k => by rw [commodatumref09_Bits.l0]) ?_
    refine Ev.pos (by omega) ?_
    refine Ev.pos (by omega) ?_
    refine Ev.pos (by rw [tab_length]; omega) ?_
    rw [Int.toNat_natCast, tab_step (f := fun q => (Go.bits .and .i64 (shr .i64 i (q : Int)) 1) == 1), up1 (by omega)]
    exact hx
  · refine Ev.step (fun k => by rw [commodatumref09_Bits.l0]) ?_
    exact Ev.neg (by omega) (Ev.ret (tab_end n _))
def has (l : List Int) (v : Int) : Prop := ∃ i, i < l.length ∧ rd l (i : Int) = v
theorem ownHas_ev (l : List Int) (hl : l.length ≤ 1000000) (v : Int) : Ev (fun k => slices_Contains_int_int.f k l v) (decide (has l v)) := by
  unfold slices_Contains_int_int.f slices_Index_int_int.f
  refine any_loop (F := fun k i => slices_Index_int_int.l0 k l v (l.length : Int) ((i : Nat) : Int)) (P := fun i => rd l (i : Int) = v) l.length (fun i hi hp => ?_) (fun i hi hp r hr => ?_) ?_ _ (by rw [decide_eq_true_iff]; rfl)
  · refine Ev.step (fun k => by rw [slices_Index_int_int.l0]) ?_
    refine Ev.pos (by omega) ?_
    refine Ev.pos (by omega) ?_
    refine Ev.pos (by omega) ?_
    exact Ev.pos hp.symm (Ev.ret rfl)
  · refine Ev.step (fun k => by rw [slices_Index_int_int.l0]) ?_
    refine Ev.pos (by omega) ?_
    refine Ev.pos (by omega) ?_
    refine Ev.pos (by omega) ?_
    rw [up1 (by omega)]
    exact Ev.neg (fun z => hp z.symm) hr
  · refine Ev.step (fun k => by rw [slices_Index_int_int.l0]) ?_
    exact Ev.neg (by omega) (Ev.ret rfl)
theorem refHas_ev (l : List Int) (hl : l.length ≤ 1000000) (v : Int) : Ev (fun k => commodatumref10_In.f k l v) (decide (has l v)) := by
  unfold commodatumref10_In.f
  by_cases h : has l v
  · rw [decide_eq_true h]
    obtain ⟨i, h1, h2, h3⟩ := first_bad (n := l.length) (P := fun j => rd l (j : Int) ≠ v) (fun z => by obtain ⟨i, hi, hp⟩ := h; exact z i hi hp)
    refine loop_go (F := fun k i => commodatumref10_In.l0 k l v ((i : Nat) : Int)) i (fun j hj hn => ?_) ?_ 0 (by omega)
    · refine Ev.step (fun k => by rw [commodatumref10_In.l0]) ?_
      refine Ev.pos (by omega) ?_
      refine Ev.pos (by omega) ?_
      rw [up1 (by omega)]
      exact Ev.neg (h3 j hj) hn
    · refine Ev.step (fun k => by rw [commodatumref10_In.l0]) ?_
      refine Ev.pos (by omega) ?_
      refine Ev.pos (by omega) ?_
      exact Ev.pos (Classical.not_not.1 h2) (Ev.ret rfl)
  · rw [decide_eq_false h]
    refine loop_go (F := fun k i => commodatumref10_In.l0 k l v ((i : Nat) : Int)) l.length (fun j hj hn => ?_) ?_ 0 (by omega)
    · refine Ev.step (fun k => by rw [commodatumref10_In.l0]) ?_
      refine Ev.pos (by omega) ?_
      refine Ev.pos (by omega) ?_
      rw [up1 (by omega)]
      exact Ev.neg (fun z => h ⟨j, hj, z⟩) hn
    · refine Ev.step (fun k => by rw [commodatumref10_In.l0]) ?_
      exact Ev.neg (by omega) (Ev.ret rfl)
end Go.Proofs.Ytibphkgcdnconaa.PureM
