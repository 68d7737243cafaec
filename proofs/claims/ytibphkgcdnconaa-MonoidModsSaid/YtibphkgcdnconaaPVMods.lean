/- MonoidMods. -/
import Derived.Test.YtibphkgcdnconaaPVC
namespace Go.Proofs.Ytibphkgcdnconaa.V
open Go
set_option linter.unusedVariables false
set_option linter.all false
set_option maxHeartbeats 2000000
variable {n : Nat}
theorem ins_two {I : Nat} : ∀ i, i < (insOf I 1 0).length → InsV two.length I (insAt (insOf I 1 0) i) := fun i hi => by
  rw [insOf_length] at hi
  exact ⟨i, 1, 0, insOf_at hi, hi, by decide, by decide⟩
theorem ins_cyc {I k : Nat} (h1 : 1 ≤ k) : ∀ i, i < (insOf I 0 (Int.tmod 1 k)).length → InsV (cyc k).length I (insAt (insOf I 0 (Int.tmod 1 k)) i) := fun i hi => by
  rw [insOf_length] at hi
  refine ⟨i, 0, 1 % k, by rw [insOf_at hi, show (1 : Int) = ((1 : Nat) : Int) from rfl, tmod_nat]; rfl, hi, by rw [cyc_length]; omega, by rw [cyc_length]; exact Nat.mod_lt _ (by omega)⟩
theorem acc_two (hn : Fu n) {x : List Bool} {I : Nat} (hx : x.length = I) (hI : I ≤ 16) : ref10_Accepts n [[0, 1], [1, 1]] ((I : Int), insOf I 1 0, [0], ()) x = some (decide (((onesN x I : Nat) : Int) = (I : Int)), ()) := by
  have h := accepts_run hn two_TV (ins := insOf I 1 0) (x := x) (by rw [insOf_length]; omega) (by rw [hx]; exact ins_two) (I : Int) [0] (by decide)
  rw [insOf_length, pr_two x I (Nat.le_refl _)] at h
  unfold two at h
  rw [h]
  congr 2
  have := onesN_le x I
  split <;> simp <;> omega
theorem acc_cyc (hn : Fu n) {x : List Bool} {I k : Nat} (hx : x.length = I) (hI : I ≤ 16) (h1 : 1 ≤ k) (h2 : k ≤ 120) : ref10_Accepts n (cyc k) ((I : Int), insOf I 0 (Int.tmod 1 k), [0], ()) x = some (decide (Int.tmod ((onesN x I : Nat) : Int) k = 0), ()) := by
  have h := accepts_run hn (cyc_TV h1 h2) (ins := insOf I 0 (Int.tmod 1 k)) (x := x) (by rw [insOf_length]; omega) (by rw [hx]; exact ins_cyc h1) (I : Int) [0] (by decide)
  rw [insOf_length, pr_cyc h1 x I (Nat.le_refl _)] at h
  rw [h, tmod_nat]
  congr 2
  simp
theorem ones_run' (hn : Fu n) {x : List Bool} {I : Nat} (hx : x.length = I) (hI : I ≤ 16) : law10_ones n x = some ((onesN x I : Int), ()) := by
  rw [ones_run hn x (by omega), hx]
/-- The rounds. -/
theorem mods_l (hn : Fu n) {I k : Nat} (hI : I ≤ 16) (ks : Int) (m : List (List Int)) (late : Int) (p : Pg) (hg : (late = 0 ∧ ks = (k : Int) ∧ 1 ≤ k ∧ k ≤ 120 ∧ m = cyc k ∧ p = ((I : Int), insOf I 0 (Int.tmod 1 k), [0], ())) ∨ late = 2) (at_ : List Int) (many : Nat) (hm : many ≤ 4096) (ha : 12 < I → many ≤ at_.length) :
    iterN (law10_MonoidMods_l0 n) n ((I : Int), ks, at_, m, late, [[0, 1], [1, 1]], (many : Int), 0, p, ((I : Int), insOf I 1 0, [0], ()), ()) = some (.inr (.inl ())) := by
  refine loop_run hn (fun i => ((I : Int), ks, at_, m, late, [[0, 1], [1, 1]], (many : Int), (i : Int), p, ((I : Int), insOf I 1 0, [0], ()), ())) many (by omega) rfl (fun i hi => ?_) ?_
  · have b1 := bits_run hn (i : Int) I (by omega)
    by_cases c : 12 < I
    · have hi2 : i < at_.length := by have := ha c; omega
      have b2 := bits_run hn (rd at_ (i : Int)) I (by omega)
      have hx := inp_length (rd at_ (i : Int)) I
      have a1 := acc_two hn hx hI
      have a2 := ones_run' hn hx hI
      rcases hg with ⟨rfl, rfl, k1, k2, rfl, rfl⟩ | rfl
      · have a3 := acc_cyc hn hx hI k1 k2
        simp (disch := first | assumption | omega) only [Option.bind_some, Sum.elim_inl, Sum.elim_inr, cond_true, cond_false, Bool.not_true, Bool.not_false, chk_true, lenB_ok_, sameP_refl, decide_true, decide_false, dpos, dneg, beq_self_eq_true, Bool.true_eq_false, Bool.false_eq_true, Int.toNat_natCast, List.length_append, List.length_cons, List.length_nil, law10_MonoidMods_l0, law10_MonoidMods_b0, b1, b2, idx_rd, a1, a2, a3, up1]
      · simp (disch := first | assumption | omega) only [Option.bind_some, Sum.elim_inl, Sum.elim_inr, cond_true, cond_false, Bool.not_true, Bool.not_false, chk_true, lenB_ok_, sameP_refl, decide_true, decide_false, dpos, dneg, beq_self_eq_true, Bool.true_eq_false, Bool.false_eq_true, Int.toNat_natCast, List.length_append, List.length_cons, List.length_nil, law10_MonoidMods_l0, law10_MonoidMods_b0, b1, b2, idx_rd, a1, a2, up1]
    · have hx := inp_length (i : Int) I
      have a1 := acc_two hn hx hI
      have a2 := ones_run' hn hx hI
      rcases hg with ⟨rfl, rfl, k1, k2, rfl, rfl⟩ | rfl
      · have a3 := acc_cyc hn hx hI k1 k2
        simp (disch := first | assumption | omega) only [Option.bind_some, Sum.elim_inl, Sum.elim_inr, cond_true, cond_false, Bool.not_true, Bool.not_false, chk_true, lenB_ok_, sameP_refl, decide_true, decide_false, dpos, dneg, beq_self_eq_true, Bool.true_eq_false, Bool.false_eq_true, Int.toNat_natCast, List.length_append, List.length_cons, List.length_nil, law10_MonoidMods_l0, law10_MonoidMods_b0, b1, a1, a2, a3, up1]
      · simp (disch := first | assumption | omega) only [Option.bind_some, Sum.elim_inl, Sum.elim_inr, cond_true, cond_false, Bool.not_true, Bool.not_false, chk_true, lenB_ok_, sameP_refl, decide_true, decide_false, dpos, dneg, beq_self_eq_true, Bool.true_eq_false, Bool.false_eq_true, Int.toNat_natCast, List.length_append, List.length_cons, List.length_nil, law10_MonoidMods_l0, law10_MonoidMods_b0, b1, a1, a2, up1]
  · simp (disch := first | assumption | omega) only [Option.bind_some, Sum.elim_inl, Sum.elim_inr, cond_true, cond_false, Bool.not_true, Bool.not_false, chk_true, lenB_ok_, sameP_refl, decide_true, decide_false, dpos, dneg, beq_self_eq_true, Bool.true_eq_false, Bool.false_eq_true, Int.toNat_natCast, List.length_append, List.length_cons, List.length_nil, law10_MonoidMods_l0, law10_MonoidMods_b0]
theorem two_same (hn : Fu n) : ref10_Same n [[0, 1], [1, 1]] [[0, 1], [1, 1]] = some (true, ()) := by
  refine same_run hn _ (by decide) (fun u hu => ?_)
  have : u = 0 ∨ u = 1 := by simp at hu; omega
  rcases this with rfl | rfl <;> decide
theorem cyc_same (hn : Fu n) {k : Nat} (h1 : 1 ≤ k) (h2 : k ≤ 120) : ref10_Same n (cyc k) (cyc k) = some (true, ()) :=
  same_run hn _ (by rw [cyc_length]; omega) (fun u hu => by rw [(cyc_TV h1 h2).len hu, cyc_length]; omega)
theorem pow12 {I : Nat} (h : I ≤ 12) : 2 ^ I ≤ 4096 := Nat.pow_le_pow_right (n := 2) (by omega) h
theorem shl1 {I : Nat} (h : I ≤ 12) : IntKind.i64.wrap ((1 : Int) * 2 ^ (min I IntKind.i64.bits)) = ((2 ^ I : Nat) : Int) := by
  have e : min I IntKind.i64.bits = I := Nat.min_eq_left (Nat.le_trans h (by decide))
  have h2 := pow12 h
  rw [e, Int.one_mul]
  have e2 : ((2 ^ I : Nat) : Int) = (2 : Int) ^ I := by simp
  clear e
  rw [← e2]
  generalize 2 ^ I = z at h2 ⊢
  exact wrap_id (by omega) (by omega)
def cap (l : Nat) : Nat := if 20 < l then 20 else l
theorem cap_int (l : Nat) : (if (20 : Int) < (l : Int) then (20 : Int) else (l : Int)) = ((cap l : Nat) : Int) := by unfold cap; split <;> split <;> omega
theorem cap_le (l : Nat) : cap l ≤ 4096 ∧ cap l ≤ l := by unfold cap; split <;> omega
section
variable (hn : Fu n) (at_ : List Int) (hl : ¬ 100 < (at_.length : Int))
include hn hl
theorem mods_gg {I k : Nat} (hI : I ≤ 16) (k1 : 1 ≤ k) (k2 : k ≤ 120) : law10_MonoidMods n (I : Int) (k : Int) at_ = some (true, ()) := by
  have q2 := and_run hn I hI
  have v2 := refVP_run hn (m := two) (ins := insOf I 1 0) (by decide) (by rw [insOf_length]; omega) hI ins_two
  unfold two at v2
  unfold pgOf at q2
  have q1 := mod_run hn I k hI k1 k2
  have v1 := refVP_run hn (m := cyc k) (ins := insOf I 0 (Int.tmod 1 k)) (by rw [cyc_length]; omega) (by rw [insOf_length]; omega) hI (ins_cyc k1)
  unfold pgOf at q1
  have fin := fun many h1 h2 => mods_l hn hI (k : Int) (cyc k) 0 ((I : Int), insOf I 0 (Int.tmod 1 k), [0], ()) (.inl ⟨rfl, rfl, k1, k2, rfl, rfl⟩) at_ many h1 h2
  by_cases c : I ≤ 12
  · have fin := fin (2 ^ I) (pow12 c) (fun h => by omega)
    simp (disch := first | assumption | omega) only [Option.bind_some, Sum.elim_inl, Sum.elim_inr, cond_true, cond_false, Bool.not_true, Bool.not_false, chk_true, lenB_ok_, sameP_refl, decide_true, decide_false, dpos, dneg, beq_self_eq_true, Bool.true_eq_false, Bool.false_eq_true, Int.toNat_natCast, List.length_append, List.length_cons, List.length_nil, law10_MonoidMods, cyc_run hn k k1 k2, q1, q2, refCyc_run hn k k1 k2, cyc_same hn k1 k2, v1, v2, monoid_Two, two_same hn, awake_run hn, insOf_length, shl1, fin]
  · have fin := fin (cap at_.length) (cap_le _).1 (fun _ => (cap_le _).2)
    simp (disch := first | assumption | omega) only [Option.bind_some, Sum.elim_inl, Sum.elim_inr, cond_true, cond_false, Bool.not_true, Bool.not_false, chk_true, lenB_ok_, sameP_refl, decide_true, decide_false, dpos, dneg, beq_self_eq_true, Bool.true_eq_false, Bool.false_eq_true, Int.toNat_natCast, List.length_append, List.length_cons, List.length_nil, law10_MonoidMods, cyc_run hn k k1 k2, q1, q2, refCyc_run hn k k1 k2, cyc_same hn k1 k2, v1, v2, monoid_Two, two_same hn, awake_run hn, insOf_length, cap_int, fin]
theorem mods_gb {I : Nat} {k : Int} (hI : I ≤ 16) (hk : k < 1 ∨ 120 < k) : law10_MonoidMods n (I : Int) k at_ = some (true, ()) := by
  have q2 := and_run hn I hI
  have v2 := refVP_run hn (m := two) (ins := insOf I 1 0) (by decide) (by rw [insOf_length]; omega) hI ins_two
  unfold two at v2
  unfold pgOf at q2
  have q1 := mod_bad (n := n) I k (by omega)
  have q4 := none_run (n := n)
  have fin := fun many h1 h2 => mods_l hn hI k [] 2 noPg (k := 0) (.inr rfl) at_ many h1 h2
  unfold noPg at q1 q4 fin
  by_cases c : I ≤ 12
  · have fin := fin (2 ^ I) (pow12 c) (fun h => by omega)
    by_cases k1 : k < 1 <;> simp (disch := first | assumption | omega) only [Option.bind_some, Sum.elim_inl, Sum.elim_inr, cond_true, cond_false, Bool.not_true, Bool.not_false, chk_true, lenB_ok_, sameP_refl, decide_true, decide_false, dpos, dneg, beq_self_eq_true, Bool.true_eq_false, Bool.false_eq_true, Int.toNat_natCast, List.length_append, List.length_cons, List.length_nil, law10_MonoidMods, cyc_bad (n := n) k hk, q1, q2, q4, v2, monoid_Two, two_same hn, awake_run hn, insOf_length, shl1, fin]
  · have fin := fin (cap at_.length) (cap_le _).1 (fun _ => (cap_le _).2)
    by_cases k1 : k < 1 <;> simp (disch := first | assumption | omega) only [Option.bind_some, Sum.elim_inl, Sum.elim_inr, cond_true, cond_false, Bool.not_true, Bool.not_false, chk_true, lenB_ok_, sameP_refl, decide_true, decide_false, dpos, dneg, beq_self_eq_true, Bool.true_eq_false, Bool.false_eq_true, Int.toNat_natCast, List.length_append, List.length_cons, List.length_nil, law10_MonoidMods, cyc_bad (n := n) k hk, q1, q2, q4, v2, monoid_Two, two_same hn, awake_run hn, insOf_length, cap_int, fin]
theorem mods_bg1 {I : Int} {k : Nat} (i1 : I < 0) (k1 : 1 ≤ k) (k2 : k ≤ 120) : law10_MonoidMods n I (k : Int) at_ = some (true, ()) := by
  have q2 := and_bad (n := n) I (.inl i1)
  have q1 := mod_bad (n := n) I k (by omega)
  have q4 := none_run (n := n)
  unfold noPg at q1 q2 q4
  simp (disch := first | assumption | omega) only [Option.bind_some, Sum.elim_inl, Sum.elim_inr, cond_true, cond_false, Bool.not_true, Bool.not_false, chk_true, lenB_ok_, sameP_refl, decide_true, decide_false, dpos, dneg, beq_self_eq_true, Bool.true_eq_false, Bool.false_eq_true, Int.toNat_natCast, List.length_append, List.length_cons, List.length_nil, law10_MonoidMods, cyc_run hn k k1 k2, q1, q2, refCyc_run hn k k1 k2, cyc_same hn k1 k2, q4, monoid_Two, two_same hn, awake_run hn]
theorem mods_bg2 {I : Int} {k : Nat} (i1 : 16 < I) (k1 : 1 ≤ k) (k2 : k ≤ 120) : law10_MonoidMods n I (k : Int) at_ = some (true, ()) := by
  have q2 := and_bad (n := n) I (.inr i1)
  have q1 := mod_bad (n := n) I k (by omega)
  have q4 := none_run (n := n)
  unfold noPg at q1 q2 q4
  simp (disch := first | assumption | omega) only [Option.bind_some, Sum.elim_inl, Sum.elim_inr, cond_true, cond_false, Bool.not_true, Bool.not_false, chk_true, lenB_ok_, sameP_refl, decide_true, decide_false, dpos, dneg, beq_self_eq_true, Bool.true_eq_false, Bool.false_eq_true, Int.toNat_natCast, List.length_append, List.length_cons, List.length_nil, law10_MonoidMods, cyc_run hn k k1 k2, q1, q2, refCyc_run hn k k1 k2, cyc_same hn k1 k2, q4, monoid_Two, two_same hn, awake_run hn]
theorem mods_bb1 {I k : Int} (i1 : I < 0) (k1 : k < 1) : law10_MonoidMods n I k at_ = some (true, ()) := by
  have q2 := and_bad (n := n) I (.inl i1)
  have q1 := mod_bad (n := n) I k (by omega)
  have q4 := none_run (n := n)
  unfold noPg at q1 q2 q4
  simp (disch := first | assumption | omega) only [Option.bind_some, Sum.elim_inl, Sum.elim_inr, cond_true, cond_false, Bool.not_true, Bool.not_false, chk_true, lenB_ok_, sameP_refl, decide_true, decide_false, dpos, dneg, beq_self_eq_true, Bool.true_eq_false, Bool.false_eq_true, Int.toNat_natCast, List.length_append, List.length_cons, List.length_nil, law10_MonoidMods, cyc_bad (n := n) k (.inl k1), q1, q2, q4, monoid_Two, two_same hn, awake_run hn]
theorem mods_bb2 {I k : Int} (i1 : I < 0) (k1 : 120 < k) : law10_MonoidMods n I k at_ = some (true, ()) := by
  have q2 := and_bad (n := n) I (.inl i1)
  have q1 := mod_bad (n := n) I k (by omega)
  have q4 := none_run (n := n)
  unfold noPg at q1 q2 q4
  simp (disch := first | assumption | omega) only [Option.bind_some, Sum.elim_inl, Sum.elim_inr, cond_true, cond_false, Bool.not_true, Bool.not_false, chk_true, lenB_ok_, sameP_refl, decide_true, decide_false, dpos, dneg, beq_self_eq_true, Bool.true_eq_false, Bool.false_eq_true, Int.toNat_natCast, List.length_append, List.length_cons, List.length_nil, law10_MonoidMods, cyc_bad (n := n) k (.inr k1), q1, q2, q4, monoid_Two, two_same hn, awake_run hn]
theorem mods_bb3 {I k : Int} (i1 : 16 < I) (k1 : k < 1) : law10_MonoidMods n I k at_ = some (true, ()) := by
  have q2 := and_bad (n := n) I (.inr i1)
  have q1 := mod_bad (n := n) I k (by omega)
  have q4 := none_run (n := n)
  unfold noPg at q1 q2 q4
  simp (disch := first | assumption | omega) only [Option.bind_some, Sum.elim_inl, Sum.elim_inr, cond_true, cond_false, Bool.not_true, Bool.not_false, chk_true, lenB_ok_, sameP_refl, decide_true, decide_false, dpos, dneg, beq_self_eq_true, Bool.true_eq_false, Bool.false_eq_true, Int.toNat_natCast, List.length_append, List.length_cons, List.length_nil, law10_MonoidMods, cyc_bad (n := n) k (.inl k1), q1, q2, q4, monoid_Two, two_same hn, awake_run hn]
theorem mods_bb4 {I k : Int} (i1 : 16 < I) (k1 : 120 < k) : law10_MonoidMods n I k at_ = some (true, ()) := by
  have q2 := and_bad (n := n) I (.inr i1)
  have q1 := mod_bad (n := n) I k (by omega)
  have q4 := none_run (n := n)
  unfold noPg at q1 q2 q4
  simp (disch := first | assumption | omega) only [Option.bind_some, Sum.elim_inl, Sum.elim_inr, cond_true, cond_false, Bool.not_true, Bool.not_false, chk_true, lenB_ok_, sameP_refl, decide_true, decide_false, dpos, dneg, beq_self_eq_true, Bool.true_eq_false, Bool.false_eq_true, Int.toNat_natCast, List.length_append, List.length_cons, List.length_nil, law10_MonoidMods, cyc_bad (n := n) k (.inr k1), q1, q2, q4, monoid_Two, two_same hn, awake_run hn]
end
/-- The law, on every argument. -/
theorem mods_run (hn : Fu n) (Iz kz : Int) (at_ : List Int) : law10_MonoidMods n Iz kz at_ = some (true, ()) := by
  by_cases hl : 100 < (at_.length : Int)
  · simp (disch := first | assumption | omega) only [Option.bind_some, Sum.elim_inl, Sum.elim_inr, cond_true, cond_false, Bool.not_true, Bool.not_false, chk_true, lenB_ok_, sameP_refl, decide_true, decide_false, dpos, dneg, beq_self_eq_true, Bool.true_eq_false, Bool.false_eq_true, Int.toNat_natCast, List.length_append, List.length_cons, List.length_nil, law10_MonoidMods, awake_run hn]
  have hk : (∃ k : Nat, kz = (k : Int) ∧ 1 ≤ k ∧ k ≤ 120) ∨ kz < 1 ∨ 120 < kz := by
    by_cases h : kz < 1 ∨ 120 < kz
    · exact .inr h
    · exact .inl ⟨kz.toNat, by omega, by omega, by omega⟩
  have hI : (∃ I : Nat, Iz = (I : Int) ∧ I ≤ 16) ∨ Iz < 0 ∨ 16 < Iz := by
    by_cases h : Iz < 0 ∨ 16 < Iz
    · exact .inr h
    · exact .inl ⟨Iz.toNat, by omega, by omega⟩
  rcases hI with ⟨I, rfl, hI⟩ | hI
  · rcases hk with ⟨k, rfl, k1, k2⟩ | hk
    · exact mods_gg hn at_ hl hI k1 k2
    · exact mods_gb hn at_ hl hI hk
  · rcases hk with ⟨k, rfl, k1, k2⟩ | hk
    · rcases hI with i1 | i1
      · exact mods_bg1 hn at_ hl i1 k1 k2
      · exact mods_bg2 hn at_ hl i1 k1 k2
    · rcases hI with i1 | i1 <;> rcases hk with k1 | k1
      · exact mods_bb1 hn at_ hl i1 k1
      · exact mods_bb2 hn at_ hl i1 k1
      · exact mods_bb3 hn at_ hl i1 k1
      · exact mods_bb4 hn at_ hl i1 k1
theorem mods_holds (I k : Int) (at_ : List Int) : ∃ n, law10_MonoidMods n I k at_ = some (true, ()) := ⟨1180591620717411303424, mods_run (Nat.le_refl _) I k at_⟩
end Go.Proofs.Ytibphkgcdnconaa.V
