/- The law over the models, part 2. -/
import Derived.Test.YtemejeiajekmcaaPClosesa
namespace Go.Proofs.Ytemejeiajekmcaa.V
open Go Classical
set_option linter.unusedVariables false
set_option linter.all false
variable {n : Nat}
noncomputable def cmpL (a b : List Int) : Int := if ltL a b then -1 else if a = b then 0 else 1
theorem ltL_at : ∀ {a b : List Int} (i : Nat), i < a.length → i < b.length → (∀ j, j < i → rd a (j : Int) = rd b (j : Int)) → rd a (i : Int) < rd b (i : Int) → ltL a b
  | x :: a, y :: b, 0, _, _, _, h => .inl h
  | x :: a, y :: b, i + 1, h1, h2, h3, h => by
    have e := h3 0 (by omega)
    refine .inr ⟨e, ltL_at i (by simpa using h1) (by simpa using h2) (fun j hj => ?_) ?_⟩
    · have := h3 (j + 1) (by omega)
      unfold rd at this ⊢
      simpa using this
    · unfold rd at h ⊢
      simpa using h
  | [], _, _, h, _, _, _ => by simp at h
  | _ :: _, [], _, _, h, _, _ => by simp at h
theorem rd_ext {a b : List Int} (h : a.length = b.length) (h2 : ∀ i, i < a.length → rd a (i : Int) = rd b (i : Int)) : a = b := by
  apply List.ext_getElem h
  intro i h3 h4
  have := h2 i h3
  rwa [rd_get h3, rd_get h4] at this
theorem ltL_pre : ∀ {a b : List Int}, a.length < b.length → (∀ j, j < a.length → rd a (j : Int) = rd b (j : Int)) → ltL a b
  | [], [], h, _ => by simp at h
  | [], _ :: _, _, _ => trivial
  | x :: a, [], h, _ => by simp at h
  | x :: a, y :: b, h, h2 => by
    refine .inr ⟨h2 0 (by simp), ltL_pre (by simpa using h) (fun j hj => ?_)⟩
    have := h2 (j + 1) (by simpa using hj)
    unfold rd at this ⊢
    simpa using this
theorem cmpL_lt {a b} (h : ltL a b) : cmpL a b = -1 := if_pos h
theorem cmpL_eq (a) : cmpL a a = 0 := by unfold cmpL; rw [if_neg (ltL_irrefl a), if_pos rfl]
theorem cmpL_gt {a b} (h : ltL b a) : cmpL a b = 1 := by
  unfold cmpL
  rw [if_neg (ltL_asymm h), if_neg (fun e => ltL_irrefl a (by rw [e] at h ⊢; exact h))]
theorem cmpL_neg {a b} : cmpL a b < 0 ↔ ltL a b := by
  unfold cmpL
  by_cases h : ltL a b
  · rw [if_pos h]; exact ⟨fun _ => h, fun _ => by decide⟩
  · rw [if_neg h]
    refine ⟨fun h2 => ?_, fun h2 => absurd h2 h⟩
    by_cases e : a = b
    · rw [if_pos e] at h2; omega
    · rw [if_neg e] at h2; omega
theorem cmpL_swo : Srt.SWO cmpL where
  asym := fun {x y} h h2 => ltL_asymm (cmpL_neg.1 h) (cmpL_neg.1 h2)
  tr := fun {x y z} h1 h2 h3 => by
    rw [cmpL_neg] at h1 h2 h3
    rcases ltL_tri x y with h | h | h
    · exact h2 (ltL_trans h3 h)
    · subst h; exact h2 h3
    · exact h1 h
theorem compare_run (hn : Fu n) (a b : List Int) (ha : a.length ≤ 1000000000) : slices_Compare_int n a b = some (cmpL a b, ()) := by
  have key := loop_place (f := slices_Compare_int_l0 n) hn (fun i => (a, b, a, (a.length : Int), (i : Int), ())) a.length (fun i => i < b.length ∧ rd a (i : Int) = rd b (i : Int)) (d := (a, b, a, (a.length : Int), 0, ())) (r := .inr (.inl (a, b, ()))) (r' := fun i => .inl ((if b.length ≤ i then 1 else if rd a (i : Int) < rd b (i : Int) then -1 else 1), ())) (by omega) rfl (fun i hi _ hp => by
      obtain ⟨h1, h2⟩ := hp
      have e1 : ¬ rd b (i : Int) < rd b (i : Int) := by omega
      simp (disch := first | assumption | omega) only [Option.bind_some, Sum.elim_inl, Sum.elim_inr, cond_true, cond_false, Bool.not_true, Bool.not_false, chk_true, lenB_ok_, sameP_refl, decide_true, decide_false, dpos, dneg, beq_self_eq_true, Bool.true_eq_false, Bool.false_eq_true, Int.toNat_natCast, List.length_append, List.length_cons, List.length_nil, slices_Compare_int_l0, slices_Compare_int_b0, idx_rd, cmp_Compare_int, cmp_isNaN_int, h2, up1]) (fun i hi _ hp => by
      by_cases h1 : b.length ≤ i
      · rw [if_pos h1]
        simp (disch := first | assumption | omega) only [Option.bind_some, Sum.elim_inl, Sum.elim_inr, cond_true, cond_false, Bool.not_true, Bool.not_false, chk_true, lenB_ok_, sameP_refl, decide_true, decide_false, dpos, dneg, beq_self_eq_true, Bool.true_eq_false, Bool.false_eq_true, Int.toNat_natCast, List.length_append, List.length_cons, List.length_nil, slices_Compare_int_l0, slices_Compare_int_b0, idx_rd]
      · rw [if_neg h1]
        have h2 : rd a (i : Int) ≠ rd b (i : Int) := fun e => hp ⟨by omega, e⟩
        by_cases h3 : rd a (i : Int) < rd b (i : Int)
        · rw [if_pos h3]
          simp (disch := first | assumption | omega) only [Option.bind_some, Sum.elim_inl, Sum.elim_inr, cond_true, cond_false, Bool.not_true, Bool.not_false, chk_true, lenB_ok_, sameP_refl, decide_true, decide_false, dpos, dneg, beq_self_eq_true, Bool.true_eq_false, Bool.false_eq_true, Int.toNat_natCast, List.length_append, List.length_cons, List.length_nil, slices_Compare_int_l0, slices_Compare_int_b0, idx_rd, cmp_Compare_int, cmp_isNaN_int]
        · rw [if_neg h3]
          simp (disch := first | assumption | omega) only [Option.bind_some, Sum.elim_inl, Sum.elim_inr, cond_true, cond_false, Bool.not_true, Bool.not_false, chk_true, lenB_ok_, sameP_refl, decide_true, decide_false, dpos, dneg, beq_self_eq_true, Bool.true_eq_false, Bool.false_eq_true, Int.toNat_natCast, List.length_append, List.length_cons, List.length_nil, slices_Compare_int_l0, slices_Compare_int_b0, idx_rd, cmp_Compare_int, cmp_isNaN_int]) (fun _ => by
      simp (disch := first | assumption | omega) only [Option.bind_some, Sum.elim_inl, Sum.elim_inr, cond_true, cond_false, Bool.not_true, Bool.not_false, chk_true, lenB_ok_, sameP_refl, decide_true, decide_false, dpos, dneg, beq_self_eq_true, Bool.true_eq_false, Bool.false_eq_true, Int.toNat_natCast, List.length_append, List.length_cons, List.length_nil, slices_Compare_int_l0, slices_Compare_int_b0])
  rcases key with ⟨h, e⟩ | ⟨i, hi, hb, hp, e⟩
  · by_cases h1 : a.length < b.length
    · rw [cmpL_lt (ltL_pre h1 (fun j hj => (h j hj).2))]
      simp (disch := first | assumption | omega) only [Option.bind_some, Sum.elim_inl, Sum.elim_inr, cond_true, cond_false, Bool.not_true, Bool.not_false, chk_true, lenB_ok_, sameP_refl, decide_true, decide_false, dpos, dneg, beq_self_eq_true, Bool.true_eq_false, Bool.false_eq_true, Int.toNat_natCast, List.length_append, List.length_cons, List.length_nil, slices_Compare_int, e]
    · have hl : a.length = b.length := by
        by_cases h0 : a.length = 0
        · by_cases h2 : b.length = 0
          · omega
          · omega
        · have := (h (a.length - 1) (by omega)).1; omega
      have : a = b := rd_ext hl (fun i hi => (h i hi).2)
      subst this
      rw [cmpL_eq]
      simp (disch := first | assumption | omega) only [Option.bind_some, Sum.elim_inl, Sum.elim_inr, cond_true, cond_false, Bool.not_true, Bool.not_false, chk_true, lenB_ok_, sameP_refl, decide_true, decide_false, dpos, dneg, beq_self_eq_true, Bool.true_eq_false, Bool.false_eq_true, Int.toNat_natCast, List.length_append, List.length_cons, List.length_nil, slices_Compare_int, e]
  · by_cases h1 : b.length ≤ i
    · rw [if_pos h1] at e
      have : ltL b a := ltL_pre (by omega) (fun j hj => ((hb j (by omega)).2).symm)
      rw [cmpL_gt this]
      simp (disch := first | assumption | omega) only [Option.bind_some, Sum.elim_inl, Sum.elim_inr, cond_true, cond_false, Bool.not_true, Bool.not_false, chk_true, lenB_ok_, sameP_refl, decide_true, decide_false, dpos, dneg, beq_self_eq_true, Bool.true_eq_false, Bool.false_eq_true, Int.toNat_natCast, List.length_append, List.length_cons, List.length_nil, slices_Compare_int, e]
    · rw [if_neg h1] at e
      have h2 : rd a (i : Int) ≠ rd b (i : Int) := fun e => hp ⟨by omega, e⟩
      by_cases h3 : rd a (i : Int) < rd b (i : Int)
      · rw [if_pos h3] at e
        rw [cmpL_lt (ltL_at i hi (by omega) (fun j hj => (hb j hj).2) h3)]
        simp (disch := first | assumption | omega) only [Option.bind_some, Sum.elim_inl, Sum.elim_inr, cond_true, cond_false, Bool.not_true, Bool.not_false, chk_true, lenB_ok_, sameP_refl, decide_true, decide_false, dpos, dneg, beq_self_eq_true, Bool.true_eq_false, Bool.false_eq_true, Int.toNat_natCast, List.length_append, List.length_cons, List.length_nil, slices_Compare_int, e]
      · rw [if_neg h3] at e
        rw [cmpL_gt (ltL_at i (by omega) hi (fun j hj => ((hb j hj).2).symm) (by omega))]
        simp (disch := first | assumption | omega) only [Option.bind_some, Sum.elim_inl, Sum.elim_inr, cond_true, cond_false, Bool.not_true, Bool.not_false, chk_true, lenB_ok_, sameP_refl, decide_true, decide_false, dpos, dneg, beq_self_eq_true, Bool.true_eq_false, Bool.false_eq_true, Int.toNat_natCast, List.length_append, List.length_cons, List.length_nil, slices_Compare_int, e]
theorem pdq_eq : ∀ n, slices_pdqsortCmpFunc_api_Perm__group_sorted_1 n = gs_pdqsort group_sorted_1 n
  | 0 => rfl
  | n + 1 => by
    show slices_pdqsortCmpFunc_api_Perm__group_sorted_1_step (slices_pdqsortCmpFunc_api_Perm__group_sorted_1 n) n = gs_pdqsort_step group_sorted_1 (gs_pdqsort group_sorted_1 n) n
    rw [pdq_eq n]
    rfl
theorem sorted_run (hn : Fw n) (l : List (List Int)) (hl : l.length ≤ 1000000000) (h : ∀ p ∈ l, p.length ≤ 1000) (hnd : l.Nodup) :
    ∃ l', group_sorted n l = some (l', ()) ∧ l'.Perm l ∧ Asc l' := by
  obtain ⟨l', e, h1, h2⟩ := Srt.sort_run (cmp := group_sorted_1) (c := cmpL) hn cmpL_swo l [] (by omega) (fun n hn x y hx hy => by
    have hx : x.length ≤ 1000000000 := by
      rcases hx with hx | rfl
      · have := h x hx; omega
      · simp
    simp (disch := first | assumption | omega) only [Option.bind_some, Sum.elim_inl, Sum.elim_inr, cond_true, cond_false, Bool.not_true, Bool.not_false, chk_true, lenB_ok_, sameP_refl, decide_true, decide_false, dpos, dneg, beq_self_eq_true, Bool.true_eq_false, Bool.false_eq_true, Int.toNat_natCast, List.length_append, List.length_cons, List.length_nil, group_sorted_1, compare_run hn x y hx])
  have e2 : slices_SortFunc_api_Perm__group_sorted_1 n l = gs_SortFunc group_sorted_1 n l := by
    unfold slices_SortFunc_api_Perm__group_sorted_1 gs_SortFunc
    rw [pdq_eq]
  refine ⟨l', ?_, h1, ?_⟩
  · simp (disch := first | assumption | omega) only [Option.bind_some, Sum.elim_inl, Sum.elim_inr, cond_true, cond_false, Bool.not_true, Bool.not_false, chk_true, lenB_ok_, sameP_refl, decide_true, decide_false, dpos, dneg, beq_self_eq_true, Bool.true_eq_false, Bool.false_eq_true, Int.toNat_natCast, List.length_append, List.length_cons, List.length_nil, group_sorted, e2, e]
  · have hn' : l'.Nodup := h1.symm.nodup hnd
    rw [Asc, List.pairwise_iff_getElem]
    intro i j q1 q2 q
    have a := List.pairwise_iff_getElem.1 h2 i j q1 q2 q
    have b := List.pairwise_iff_getElem.1 hn' i j q1 q2 q
    have a' : ¬ ltL l'[j] l'[i] := fun h => a (cmpL_neg.2 h)
    rcases ltL_tri l'[i] l'[j] with h | h | h
    · exact h
    · exact absurd h b
    · exact absurd h a'
theorem sorted_canon (hn : Fw n) {k : Nat} (h1 : 1 ≤ k) (h7 : k ≤ 7) {l : List (List Int)} (hnd : l.Nodup) (h : ∀ p ∈ l, PK k p) : group_sorted n l = some (canon k (· ∈ l), ()) := by
  have few := perms_few hnd (fun p hp => (h p hp).1)
  obtain ⟨l', e, e1, e2⟩ := sorted_run hn l (by omega) (fun p hp => by have := (h p hp).2; omega) hnd
  rw [e, e2.ext canon_asc (fun p => by
    rw [canon_mem h1 h7]
    exact ⟨fun hp => ⟨h p (e1.subset hp), e1.subset hp⟩, fun hp => e1.symm.subset hp.2⟩)]
theorem fact_go (m : Nat) : ∀ k : Nat, k ≤ 7 → ref01_Factorial (m + 10) (k : Int) = some ((fact k : Int), ())
  | 0, _ => by kernel_rfl
  | 1, _ => by kernel_rfl
  | 2, _ => by kernel_rfl
  | 3, _ => by kernel_rfl
  | 4, _ => by kernel_rfl
  | 5, _ => by kernel_rfl
  | 6, _ => by kernel_rfl
  | 7, _ => by kernel_rfl
  | k + 8, h => by omega
theorem wrap_nat {i : Nat} (h : i < 4611686018427387904) : IntKind.i64.wrap (i : Int) = (i : Int) := wrap_id (by omega) (by omega)
theorem fact_run (hn : Fu n) {k : Nat} (h : k ≤ 7) : ref01_Factorial n (k : Int) = some ((fact k : Int), ()) := by
  obtain ⟨m, rfl⟩ : ∃ m, n = m + 10 := ⟨n - 10, by have := hn.le (m := 10) (by decide); omega⟩
  exact fact_go m k h
theorem drop_rd {p : List Int} {i : Nat} (h : i < p.length) : p.drop i = rd p (i : Int) :: p.drop (i + 1) := by
  rw [List.drop_eq_getElem_cons h, rd_get h]
theorem rank_drop {p : List Int} {i : Nat} (h : i < p.length) : rank (p.drop i) = cntLt (rd p (i : Int)) (p.drop (i + 1)) * fact (p.length - 1 - i) + rank (p.drop (i + 1)) := by
  rw [drop_rd h]
  show _ * _ + _ = _
  rw [List.length_drop]
  congr 3; omega
theorem cntLt_drop {p : List Int} {x : Int} {k : Nat} (h : k < p.length) : cntLt x (p.drop k) = (if rd p (k : Int) < x then 1 else 0) + cntLt x (p.drop (k + 1)) := by
  rw [drop_rd h]
  unfold cntLt
  by_cases c : rd p (k : Int) < x
  · rw [List.filter_cons_of_pos (by simpa using c), if_pos c, List.length_cons]; omega
  · rw [List.filter_cons_of_neg (by simpa using c), if_neg c]; omega
theorem cntLt_le (x : Int) (l : List Int) : cntLt x l ≤ l.length := List.length_filter_le _ _
theorem fact_mono {a b : Nat} (h : a ≤ b) : fact a ≤ fact b := by
  induction h with
  | refl => exact Nat.le_refl _
  | step _ ih => exact Nat.le_trans ih (Nat.le_mul_of_pos_left _ (Nat.succ_pos _))
theorem rank_run (hn : Fu n) {p : List Int} (hp : p.length ≤ 7) : ref01_Rank n p = some ((rank p : Int), ()) := by
  have inner : ∀ (i : Nat) (x : Int), i < p.length → iterN (ref01_Rank_l0 n) n (p, x, (i : Int), 0, ((i + 1 : Nat) : Int), ()) = some (.inl (p, x, (i : Int), (cntLt (rd p (i : Int)) (p.drop (i + 1)) : Int), ())) := by
    intro i x hi
    obtain ⟨r, e, rfl⟩ := loop_inv (f := ref01_Rank_l0 n) hn
      (fun d => ∃ (k less : Nat), d = (p, x, (i : Int), (less : Int), (k : Int), ()) ∧ i < k ∧ k ≤ p.length ∧ less + cntLt (rd p (i : Int)) (p.drop k) = cntLt (rd p (i : Int)) (p.drop (i + 1)))
      (fun d => ((p.length : Int) - d.2.2.2.2.1).toNat)
      (fun r => r = .inl (p, x, (i : Int), (cntLt (rd p (i : Int)) (p.drop (i + 1)) : Int), ()))
      (d := (p, x, (i : Int), 0, ((i + 1 : Nat) : Int), ()))
      ⟨i + 1, 0, rfl, by omega, by omega, by omega⟩ (by simp only; omega) (by
        rintro d ⟨k, less, rfl, h1, h2, h3⟩
        by_cases c1 : k < p.length
        · have hd := cntLt_drop (x := rd p (i : Int)) c1
          have hle := cntLt_le (rd p (i : Int)) (p.drop (i + 1))
          rw [List.length_drop] at hle
          by_cases c2 : rd p (k : Int) < rd p (i : Int)
          · rw [if_pos c2] at hd
            refine .inl ⟨(p, x, (i : Int), ((less + 1 : Nat) : Int), ((k + 1 : Nat) : Int), ()), ?_, ⟨k + 1, less + 1, rfl, by omega, by omega, by omega⟩, by simp only; omega⟩
            simp (disch := first | assumption | omega) only [Option.bind_some, Sum.elim_inl, Sum.elim_inr, cond_true, cond_false, Bool.not_true, Bool.not_false, chk_true, lenB_ok_, sameP_refl, decide_true, decide_false, dpos, dneg, beq_self_eq_true, Bool.true_eq_false, Bool.false_eq_true, Int.toNat_natCast, List.length_append, List.length_cons, List.length_nil, ref01_Rank_l0, ref01_Rank_b0, idx_rd, up1]
          · rw [if_neg c2] at hd
            refine .inl ⟨(p, x, (i : Int), (less : Int), ((k + 1 : Nat) : Int), ()), ?_, ⟨k + 1, less, rfl, by omega, by omega, by omega⟩, by simp only; omega⟩
            simp (disch := first | assumption | omega) only [Option.bind_some, Sum.elim_inl, Sum.elim_inr, cond_true, cond_false, Bool.not_true, Bool.not_false, chk_true, lenB_ok_, sameP_refl, decide_true, decide_false, dpos, dneg, beq_self_eq_true, Bool.true_eq_false, Bool.false_eq_true, Int.toNat_natCast, List.length_append, List.length_cons, List.length_nil, ref01_Rank_l0, ref01_Rank_b0, idx_rd, up1]
        · obtain rfl : k = p.length := by omega
          have : less = cntLt (rd p (i : Int)) (p.drop (i + 1)) := by
            rw [List.drop_length] at h3; exact h3
          refine .inr ⟨_, ?_, rfl⟩
          simp (disch := first | assumption | omega) only [Option.bind_some, Sum.elim_inl, Sum.elim_inr, cond_true, cond_false, Bool.not_true, Bool.not_false, chk_true, lenB_ok_, sameP_refl, decide_true, decide_false, dpos, dneg, beq_self_eq_true, Bool.true_eq_false, Bool.false_eq_true, Int.toNat_natCast, List.length_append, List.length_cons, List.length_nil, ref01_Rank_l0, ref01_Rank_b0, this])
    exact e
  obtain ⟨r, e, rfl⟩ := loop_inv (f := ref01_Rank_l1 n) hn
    (fun d => ∃ (i x : Nat), d = (p, (x : Int), (i : Int), ()) ∧ i ≤ p.length ∧ x + rank (p.drop i) = rank p ∧ x ≤ i * 40000)
    (fun d => ((p.length : Int) - d.2.2.1).toNat)
    (fun r => r = .inl ((rank p : Int), ()))
    (d := (p, 0, 0, ()))
    ⟨0, 0, rfl, by omega, by simp, by omega⟩ (by simp only; omega) (by
      rintro d ⟨i, x, rfl, h1, h2, h3⟩
      by_cases c1 : i < p.length
      · have hd := rank_drop c1
        have hle := cntLt_le (rd p (i : Int)) (p.drop (i + 1))
        rw [List.length_drop] at hle
        have hf := fact_run hn (k := p.length - 1 - i) (by omega)
        have hfl : fact (p.length - 1 - i) ≤ 5040 := fact_le (by omega)
        have hm : cntLt (rd p (i : Int)) (p.drop (i + 1)) * fact (p.length - 1 - i) ≤ 7 * 5040 := Nat.mul_le_mul (by omega) hfl
        have w1 : IntKind.i64.wrap (IntKind.i64.wrap ((p.length : Int) - 1) - (i : Int)) = ((p.length - 1 - i : Nat) : Int) := by
          rw [Srt.dn1 (by omega) (by omega), Srt.subN (by omega) (by omega)]
        have w2 : IntKind.i64.wrap ((cntLt (rd p (i : Int)) (p.drop (i + 1)) : Int) * (fact (p.length - 1 - i) : Int)) = ((cntLt (rd p (i : Int)) (p.drop (i + 1)) * fact (p.length - 1 - i) : Nat) : Int) := by
          rw [← Int.natCast_mul, wrap_id (by omega) (by omega)]
        have w3 : IntKind.i64.wrap ((x : Int) + ((cntLt (rd p (i : Int)) (p.drop (i + 1)) * fact (p.length - 1 - i) : Nat) : Int)) = ((x + cntLt (rd p (i : Int)) (p.drop (i + 1)) * fact (p.length - 1 - i) : Nat) : Int) := Srt.addN (by omega)
        refine .inl ⟨(p, ((x + cntLt (rd p (i : Int)) (p.drop (i + 1)) * fact (p.length - 1 - i) : Nat) : Int), ((i + 1 : Nat) : Int), ()), ?_, ⟨i + 1, _, rfl, by omega, by omega, by omega⟩, by simp only; omega⟩
        have e := inner i (x : Int) c1
        simp (disch := first | assumption | omega) only [Option.bind_some, Sum.elim_inl, Sum.elim_inr, cond_true, cond_false, Bool.not_true, Bool.not_false, chk_true, lenB_ok_, sameP_refl, decide_true, decide_false, dpos, dneg, beq_self_eq_true, Bool.true_eq_false, Bool.false_eq_true, Int.toNat_natCast, List.length_append, List.length_cons, List.length_nil, ref01_Rank_l1, ref01_Rank_b1, up1, e, w1, hf, w2, w3]
      · obtain rfl : i = p.length := by omega
        rw [List.drop_length] at h2
        have : x = rank p := by simpa [rank] using h2
        refine .inr ⟨_, ?_, rfl⟩
        simp (disch := first | assumption | omega) only [Option.bind_some, Sum.elim_inl, Sum.elim_inr, cond_true, cond_false, Bool.not_true, Bool.not_false, chk_true, lenB_ok_, sameP_refl, decide_true, decide_false, dpos, dneg, beq_self_eq_true, Bool.true_eq_false, Bool.false_eq_true, Int.toNat_natCast, List.length_append, List.length_cons, List.length_nil, ref01_Rank_l1, ref01_Rank_b1, this])
  simp (disch := first | assumption | omega) only [Option.bind_some, Sum.elim_inl, Sum.elim_inr, cond_true, cond_false, Bool.not_true, Bool.not_false, chk_true, lenB_ok_, sameP_refl, decide_true, decide_false, dpos, dneg, beq_self_eq_true, Bool.true_eq_false, Bool.false_eq_true, Int.toNat_natCast, List.length_append, List.length_cons, List.length_nil, ref01_Rank, e]
theorem subs_all {α : Type} (l : List α) (k : Nat) : subs l k l.length = l.drop k := by
  unfold subs; rw [List.take_of_length_le]; rw [List.length_drop]; exact Nat.le_refl _
theorem subs_pre {α : Type} (l : List α) (k : Nat) : subs l 0 k = l.take k := by
  unfold subs; rw [List.drop_zero, Nat.sub_zero]
theorem unrank_run (hn : Fu n) {k r : Nat} (hk : k ≤ 7) (hr : r < fact k) : ref01_Unrank n (k : Int) (r : Int) = some (unr k (idP k) r, ()) := by
  have hid := ref_id_run hn k (by omega)
  obtain ⟨r', e, rfl⟩ := loop_inv (f := ref01_Unrank_l0 n) hn
    (fun d => ∃ (i r1 : Nat) (rest p6 : List Int), d = ((k : Int), (r1 : Int), rest, (i : Int), p6, ()) ∧ i ≤ k ∧ rest.length = k - i ∧ r1 < fact (k - i) ∧ p6.length = i ∧ p6 ++ unr (k - i) rest r1 = unr k (idP k) r)
    (fun d => ((k : Int) - d.2.2.2.1).toNat)
    (fun r' => r' = .inl (unr k (idP k) r, ()))
    (d := ((k : Int), (r : Int), idP k, 0, [], ()))
    ⟨0, r, idP k, [], rfl, by omega, by rw [idP_length]; omega, by simpa using hr, rfl, by simp⟩ (by simp only; omega) (by
      rintro d ⟨i, r1, rest, p6, rfl, h1, h2, h3, h4, h5⟩
      by_cases c1 : i < k
      · obtain ⟨m, hm⟩ : ∃ m, k - i = m + 1 := ⟨k - i - 1, by omega⟩
        rw [hm] at h2 h3 h5
        have hf := fact_run hn (k := m) (by omega)
        have hfl : fact m ≤ 5040 := fact_le (by omega)
        have hf0 := fact_pos m
        have hfl2 : fact (m + 1) ≤ 5040 := fact_le (by omega)
        have hd := div_lt h3
        have w1 : IntKind.i64.wrap (IntKind.i64.wrap ((k : Int) - 1) - (i : Int)) = (m : Int) := by
          rw [Srt.dn1 (by omega) (by omega), Srt.subN (by omega) (by omega)]; congr 1; omega
        have z : ¬ ((fact m : Nat) : Int) = 0 := by omega
        have w2 : IntKind.i64.wrap (Int.tdiv (r1 : Int) (fact m : Int)) = ((r1 / fact m : Nat) : Int) := by
          rw [Int.tdiv_eq_ediv_of_nonneg (by omega), ← Int.natCast_ediv]
          exact wrap_nat (Nat.lt_of_lt_of_le hd (by omega))
        have w3 : Int.tmod (r1 : Int) (fact m : Int) = ((r1 % fact m : Nat) : Int) := by
          rw [Int.tmod_eq_emod_of_nonneg (by omega), ← Int.natCast_emod]
        have hi : idx rest ((r1 / fact m : Nat) : Int) = some (rest.getD (r1 / fact m) 0) := idx_nat 0 (by omega)
        refine .inl ⟨((k : Int), ((r1 % fact m : Nat) : Int), rest.eraseIdx (r1 / fact m), ((i + 1 : Nat) : Int), p6 ++ [rest.getD (r1 / fact m) 0], ()), ?_, ⟨i + 1, _, _, _, rfl, by omega, ?_, ?_, by rw [List.length_append, h4]; rfl, ?_⟩, by simp only; omega⟩
        · have w4 : IntKind.i64.wrap (((r1 / fact m : Nat) : Int) + 1) = ((r1 / fact m + 1 : Nat) : Int) := up1 (by omega)
          have l1 : (rest.take (r1 / fact m)).length = r1 / fact m := by rw [List.length_take]; omega
          have l2 : (rest.drop (r1 / fact m + 1)).length = m - r1 / fact m := by rw [List.length_drop]; omega
          simp (disch := first | assumption | omega) only [Option.bind_some, Sum.elim_inl, Sum.elim_inr, cond_true, cond_false, Bool.not_true, Bool.not_false, chk_true, lenB_ok_, sameP_refl, decide_true, decide_false, dpos, dneg, beq_self_eq_true, Bool.true_eq_false, Bool.false_eq_true, Int.toNat_natCast, List.length_append, List.length_cons, List.length_nil, ref01_Unrank_l0, ref01_Unrank_b0, w1, hf, z, w2, hi, w3, w4, subs_all, subs_pre, List.nil_append, l1, l2, up1]
          rw [List.eraseIdx_eq_take_drop_succ]
        · rw [eraseIdx_len (by omega) h2]; omega
        · rw [show k - (i + 1) = m by omega]; exact Nat.mod_lt _ hf0
        · rw [show k - (i + 1) = m by omega, List.append_assoc]; exact h5
      · obtain rfl : i = k := by omega
        rw [Nat.sub_self] at h5
        refine .inr ⟨_, ?_, rfl⟩
        rw [← h5]
        simp (disch := first | assumption | omega) only [Option.bind_some, Sum.elim_inl, Sum.elim_inr, cond_true, cond_false, Bool.not_true, Bool.not_false, chk_true, lenB_ok_, sameP_refl, decide_true, decide_false, dpos, dneg, beq_self_eq_true, Bool.true_eq_false, Bool.false_eq_true, Int.toNat_natCast, List.length_append, List.length_cons, List.length_nil, ref01_Unrank_l0, ref01_Unrank_b0, unr, List.append_nil])
  simp (disch := first | assumption | omega) only [Option.bind_some, Sum.elim_inl, Sum.elim_inr, cond_true, cond_false, Bool.not_true, Bool.not_false, chk_true, lenB_ok_, sameP_refl, decide_true, decide_false, dpos, dneg, beq_self_eq_true, Bool.true_eq_false, Bool.false_eq_true, Int.toNat_natCast, List.length_append, List.length_cons, List.length_nil, ref01_Unrank, hid, e]
noncomputable def hasT (k : Nat) (S : List Int → Prop) : List Bool := tab (fact k) (fun r => decide (S (unr k (idP k) r)))
noncomputable abbrev setT (k : Nat) (S : List Int → Prop) : Int × (List Bool × Unit) := ((k : Int), (hasT k S, ()))
theorem hasT_length (k : Nat) (S : List Int → Prop) : (hasT k S).length = fact k := by unfold hasT; simp
theorem hasT_idx {k : Nat} {S : List Int → Prop} {p : List Int} (hp : PK k p) : idx (hasT k S) (rank p : Int) = some (decide (S p)) := by
  unfold hasT
  rw [idx_tab hp.rk.1, hp.rk.2]
theorem hasT_set {k : Nat} {S : List Int → Prop} {p : List Int} (hp : PK k p) : (hasT k S).set (rank p) true = hasT k (fun q => S q ∨ q = p) := by
  unfold hasT
  rw [tab_set]
  refine tab_congr (fun r hr => ?_)
  by_cases e : r = rank p
  · rw [if_pos e, e, hp.rk.2]; simp
  · rw [if_neg e]
    have : ¬ unr k (idP k) r = p := fun h => e (by rw [← h]; exact (unr_ok (idP_asc k) (idP_length k) hr).2.symm)
    simp [this]
theorem hasT_congr {k : Nat} (h1 : 1 ≤ k) (h7 : k ≤ 7) {S T : List Int → Prop} (h : ∀ p, PK k p → (S p ↔ T p)) : hasT k S = hasT k T :=
  tab_congr (fun r hr => by
    have := h _ (unr_PK h1 h7 hr).1
    simp [this])
theorem setOf_run (hn : Fu n) {k : Nat} (h1 : 1 ≤ k) (h7 : k ≤ 7) {l : List (List Int)} (hl : l.length ≤ 1000000000) (h : ∀ p ∈ l, PK k p) : ref02_SetOf n (k : Int) l = some (setT k (· ∈ l), ()) := by
  have hf := fact_run hn h7
  have hfl := fact_le h7
  have e0 : List.replicate (fact k) false = hasT k (fun p => ∃ j, j < 0 ∧ row l j = p) := by
    rw [replicate_tab]
    exact tab_congr (fun r hr => by simp)
  have g : iterN (ref02_SetOf_l0 n) n (l, 0, (0, ([], ())), ((k : Int), (List.replicate (fact k) false, ())), ()) = some (.inl ((0, ([], ())), setT k (fun p => ∃ j, j < l.length ∧ row l j = p), ())) := by
    refine loop_run hn (fun i => (l, (i : Int), (0, ([], ())), setT k (fun p => ∃ j, j < i ∧ row l j = p), ())) l.length (by omega) (by rw [e0]; rfl) (fun i hi => ?_) ?_
    · have hp := h _ (row_mem hi)
      have er := rank_run hn (p := row l i) (by have := hp.2; omega)
      have ei := hasT_idx (S := fun p => ∃ j, j < i ∧ row l j = p) hp
      have es : (hasT k (fun p => ∃ j, j < i ∧ row l j = p)).set (rank (row l i)) true = hasT k (fun p => ∃ j, j < i + 1 ∧ row l j = p) := by
        rw [hasT_set hp]
        congr 1
        funext p
        apply propext
        constructor
        · rintro (⟨j, hj, e⟩ | rfl)
          · exact ⟨j, by omega, e⟩
          · exact ⟨i, by omega, rfl⟩
        · rintro ⟨j, hj, e⟩
          by_cases c : j = i
          · subst c; exact .inr e.symm
          · exact .inl ⟨j, by omega, e⟩
      simp (disch := first | assumption | omega) only [Option.bind_some, Sum.elim_inl, Sum.elim_inr, cond_true, cond_false, Bool.not_true, Bool.not_false, chk_true, lenB_ok_, sameP_refl, decide_true, decide_false, dpos, dneg, beq_self_eq_true, Bool.true_eq_false, Bool.false_eq_true, Int.toNat_natCast, List.length_append, List.length_cons, List.length_nil, ref02_SetOf_l0, ref02_SetOf_b0, idx_row, er, ei, es, up1]
    · simp (disch := first | assumption | omega) only [Option.bind_some, Sum.elim_inl, Sum.elim_inr, cond_true, cond_false, Bool.not_true, Bool.not_false, chk_true, lenB_ok_, sameP_refl, decide_true, decide_false, dpos, dneg, beq_self_eq_true, Bool.true_eq_false, Bool.false_eq_true, Int.toNat_natCast, List.length_append, List.length_cons, List.length_nil, ref02_SetOf_l0, ref02_SetOf_b0]
  have e2 : (fun p => ∃ j, j < l.length ∧ row l j = p) = (· ∈ l) := by
    funext p
    apply propext
    constructor
    · rintro ⟨j, hj, rfl⟩; exact row_mem hj
    · intro hp
      obtain ⟨j, hj, e⟩ := List.getElem_of_mem hp
      exact ⟨j, hj, by unfold row; rw [List.getD_eq_getElem?_getD, List.getElem?_eq_getElem hj]; exact e⟩
  rw [e2] at g
  simp (disch := first | assumption | omega) only [Option.bind_some, Sum.elim_inl, Sum.elim_inr, cond_true, cond_false, Bool.not_true, Bool.not_false, chk_true, lenB_ok_, sameP_refl, decide_true, decide_false, dpos, dneg, beq_self_eq_true, Bool.true_eq_false, Bool.false_eq_true, Int.toNat_natCast, List.length_append, List.length_cons, List.length_nil, ref02_SetOf, hf, g]
theorem canonTo_snoc {k : Nat} {S : List Int → Prop} {i : Nat} : ((List.range (i + 1)).map (unr k (idP k))).filter (fun p => decide (S p)) = ((List.range i).map (unr k (idP k))).filter (fun p => decide (S p)) ++ (if S (unr k (idP k) i) then [unr k (idP k) i] else []) := by
  rw [List.range_succ, List.map_append, List.filter_append]
  congr 1
  by_cases c : S (unr k (idP k) i)
  · simp [c]
  · simp [c]
theorem list_run (hn : Fu n) {k : Nat} (h7 : k ≤ 7) {S : List Int → Prop} : ref02_List n (setT k S) = some (canon k S, ()) := by
  have hfl := fact_le h7
  have g : iterN (ref02_List_l0 n) n (setT k S, 0, [], ()) = some (.inl (canon k S, ())) := by
    refine loop_run hn (fun i => (setT k S, (i : Int), ((List.range i).map (unr k (idP k))).filter (fun p => decide (S p)), ())) (fact k) (by omega) rfl (fun i hi => ?_) ?_
    · have ei : idx (hasT k S) (i : Int) = some (decide (S (unr k (idP k) i))) := idx_tab hi
      have eu := unrank_run hn h7 hi
      have hl := hasT_length k S
      have hlen : (((List.range i).map (unr k (idP k))).filter (fun p => decide (S p))).length ≤ 5040 := by
        refine Nat.le_trans (List.length_filter_le _ _) ?_
        rw [List.length_map, List.length_range]; omega
      by_cases c : S (unr k (idP k) i)
      · rw [decide_eq_true c] at ei
        simp (disch := first | assumption | omega) only [Option.bind_some, Sum.elim_inl, Sum.elim_inr, cond_true, cond_false, Bool.not_true, Bool.not_false, chk_true, lenB_ok_, sameP_refl, decide_true, decide_false, dpos, dneg, beq_self_eq_true, Bool.true_eq_false, Bool.false_eq_true, Int.toNat_natCast, List.length_append, List.length_cons, List.length_nil, ref02_List_l0, ref02_List_b0, ei, eu, up1, hl]
        rw [canonTo_snoc, if_pos c]
      · rw [decide_eq_false c] at ei
        simp (disch := first | assumption | omega) only [Option.bind_some, Sum.elim_inl, Sum.elim_inr, cond_true, cond_false, Bool.not_true, Bool.not_false, chk_true, lenB_ok_, sameP_refl, decide_true, decide_false, dpos, dneg, beq_self_eq_true, Bool.true_eq_false, Bool.false_eq_true, Int.toNat_natCast, List.length_append, List.length_cons, List.length_nil, ref02_List_l0, ref02_List_b0, ei, up1, hl]
        rw [canonTo_snoc, if_neg c, List.append_nil]
    · have hl := hasT_length k S
      simp (disch := first | assumption | omega) only [Option.bind_some, Sum.elim_inl, Sum.elim_inr, cond_true, cond_false, Bool.not_true, Bool.not_false, chk_true, lenB_ok_, sameP_refl, decide_true, decide_false, dpos, dneg, beq_self_eq_true, Bool.true_eq_false, Bool.false_eq_true, Int.toNat_natCast, List.length_append, List.length_cons, List.length_nil, ref02_List_l0, ref02_List_b0, hl]; rfl
  simp (disch := first | assumption | omega) only [Option.bind_some, Sum.elim_inl, Sum.elim_inr, cond_true, cond_false, Bool.not_true, Bool.not_false, chk_true, lenB_ok_, sameP_refl, decide_true, decide_false, dpos, dneg, beq_self_eq_true, Bool.true_eq_false, Bool.false_eq_true, Int.toNat_natCast, List.length_append, List.length_cons, List.length_nil, ref02_List, g]
end Go.Proofs.Ytemejeiajekmcaa.V
namespace Go.Proofs.Ytemejeiajekmcaa.V
open Go Classical Grp
set_option linter.unusedVariables false
set_option linter.all false
variable {n : Nat}
theorem iterN_gh {D O G : Type} {f : D → Option (D ⊕ O)} (I : G → D → Prop) (μ : G → Nat) (Q : O → Prop) (hs : ∀ g d, I g d → (∃ d' g', f d = some (.inl d') ∧ I g' d' ∧ μ g' < μ g) ∨ ∃ r, f d = some (.inr r) ∧ Q r) : ∀ (n : Nat) (g : G) (d : D), I g d → μ g < n → ∃ r, iterN f n d = some r ∧ Q r
  | 0, g, d, _, h => by omega
  | n + 1, g, d, hI, h => by
    rcases hs g d hI with ⟨d', g', e, h1, h2⟩ | ⟨r, e, h1⟩
    · obtain ⟨r, q1, q2⟩ := iterN_gh I μ Q hs n g' d' h1 (by omega)
      exact ⟨r, by simp only [iterN, e, Option.bind_some, Sum.elim_inl, q1], q2⟩
    · exact ⟨r, by simp only [iterN, e, Option.bind_some, Sum.elim_inr], h1⟩
theorem loop_gh {D O G : Type} {f : D → Option (D ⊕ O)} {n : Nat} (hn : Fu n) (I : G → D → Prop) (μ : G → Nat) (Q : O → Prop) (g : G) {d : D} (hd : I g d) (hm : μ g < 1180591620717411303424) (hs : ∀ g d, I g d → (∃ d' g', f d = some (.inl d') ∧ I g' d' ∧ μ g' < μ g) ∨ ∃ r, f d = some (.inr r) ∧ Q r) : ∃ r, iterN f n d = some r ∧ Q r :=
  iterN_gh I μ Q hs n g d hd (hn.le hm)
noncomputable def invP (p : List Int) : List Int := tab p.length (fun i => ((p.idxOf (i : Int) : Nat) : Int))
theorem invP_length (p : List Int) : (invP p).length = p.length := by unfold invP; simp
theorem PK.memI {k : Nat} {p : List Int} (hp : PK k p) {i : Nat} (hi : i < k) : (i : Int) ∈ p := hp.perm.symm.subset (idP_mem.2 (by omega))
theorem idxOf_rd {p : List Int} {x : Int} (h : x ∈ p) : p.idxOf x < p.length ∧ rd p ((p.idxOf x : Nat) : Int) = x := by
  have h1 : p.idxOf x < p.length := List.idxOf_lt_length_of_mem h
  exact ⟨h1, by rw [rd_get h1]; exact List.getElem_idxOf h1⟩
theorem rd_inv {p : List Int} {i : Nat} (h : i < p.length) : rd (invP p) (i : Int) = ((p.idxOf (i : Int) : Nat) : Int) := rd_tab h
theorem rd_id {k i : Nat} (h : i < k) : rd (idP k) (i : Int) = (i : Int) := rd_tab h
theorem PK.inv {k : Nat} {p : List Int} (hp : PK k p) : PK k (invP p) := by
  have hl := invP_length p
  have hk := hp.2
  refine ⟨⟨by rw [hl]; exact hp.1.1, by rw [hl]; exact hp.1.2.1, fun i hi => ?_⟩, by rw [hl, hk]⟩
  rw [hl] at hi
  have h1 := idxOf_rd (hp.memI (i := i) (by omega))
  refine ⟨by rw [rd_inv hi]; omega, by rw [rd_inv hi, hl]; omega, fun j hj e => ?_⟩
  have h2 := idxOf_rd (hp.memI (i := j) (by omega))
  rw [rd_inv hi, rd_inv (by omega)] at e
  have : p.idxOf (j : Int) = p.idxOf (i : Int) := by omega
  rw [this] at h2
  rw [h1.2] at h2
  omega
theorem PK.mul {k : Nat} {p q : List Int} (hp : PK k p) (hq : PK k q) : PK k (mulP p q) := ⟨hp.1.mul hq.1 (by rw [hp.2, hq.2]), by rw [mulP_length, hp.2]⟩
theorem PK.at {k : Nat} {p : List Int} (hp : PK k p) {i : Nat} (hi : i < k) : ∃ v : Nat, v < k ∧ rd p (i : Int) = (v : Int) := by
  have := hp.1.at (i := i) (by rw [hp.2]; exact hi)
  rwa [hp.2] at this
theorem mulP_assoc {k : Nat} {p q r : List Int} (hp : PK k p) (hq : PK k q) (hr : PK k r) : mulP (mulP p q) r = mulP p (mulP q r) := by
  refine rd_ext (by rw [mulP_length, mulP_length, mulP_length]) (fun i hi => ?_)
  rw [mulP_length, mulP_length] at hi
  have hk := hp.2
  obtain ⟨v, hv, e⟩ := hp.at (i := i) (by omega)
  rw [rd_mul (by rw [mulP_length]; exact hi), rd_mul hi, rd_mul hi, e, rd_mul (by have := hq.2; omega)]
theorem mulP_one {k : Nat} {p : List Int} (hp : PK k p) : mulP p (idP k) = p := by
  refine rd_ext (by rw [mulP_length]) (fun i hi => ?_)
  rw [mulP_length] at hi
  obtain ⟨v, hv, e⟩ := hp.at (i := i) (by have := hp.2; omega)
  rw [rd_mul hi, e, rd_id hv]
theorem one_mulP {k : Nat} {p : List Int} (hp : PK k p) : mulP (idP k) p = p := by
  refine rd_ext (by rw [mulP_length, idP_length, hp.2]) (fun i hi => ?_)
  rw [mulP_length, idP_length] at hi
  rw [rd_mul (by rw [idP_length]; exact hi), rd_id hi]
theorem inv_mulP {k : Nat} {p : List Int} (hp : PK k p) : mulP (invP p) p = idP k := by
  refine rd_ext (by rw [mulP_length, idP_length, invP_length, hp.2]) (fun i hi => ?_)
  rw [mulP_length, invP_length, hp.2] at hi
  rw [rd_mul (by rw [invP_length, hp.2]; exact hi), rd_inv (by rw [hp.2]; exact hi), (idxOf_rd (hp.memI hi)).2, rd_id hi]
theorem mulP_inv {k : Nat} {p : List Int} (hp : PK k p) : mulP p (invP p) = idP k := by
  refine rd_ext (by rw [mulP_length, idP_length, hp.2]) (fun i hi => ?_)
  rw [mulP_length, hp.2] at hi
  obtain ⟨v, hv, e⟩ := hp.at hi
  have h := idxOf_rd (hp.memI hv)
  rw [rd_mul (by rw [hp.2]; exact hi), e, rd_inv (by rw [hp.2]; exact hv), rd_id hi]
  have := hp.1.inj (a := p.idxOf (v : Int)) (b := i) h.1 (by rw [hp.2]; exact hi) (by rw [h.2, e])
  rw [this]
def Pm (k : Nat) (hk : 1 ≤ k ∧ k ≤ 7) : Type := {p : List Int // PK k p}
variable {k : Nat} {hk : 1 ≤ k ∧ k ≤ 7}
def Pm.mk (p : List Int) (hp : PK k p) : Pm k hk := ⟨p, hp⟩
theorem Pm.ext {x y : Pm k hk} (h : x.1 = y.1) : x = y := Subtype.ext h
noncomputable instance : Grp (Pm k hk) where
  mul x y := ⟨mulP x.1 y.1, x.2.mul y.2⟩
  one := ⟨idP k, VP.id hk.1 hk.2, idP_length k⟩
  inv x := ⟨invP x.1, x.2.inv⟩
  mul_assoc a b c := Pm.ext (mulP_assoc a.2 b.2 c.2)
  one_mul a := Pm.ext (one_mulP a.2)
  mul_one a := Pm.ext (mulP_one a.2)
  inv_mul a := Pm.ext (inv_mulP a.2)
  mul_inv a := Pm.ext (mulP_inv a.2)
  elems := (canon k (fun _ => True)).attachWith (PK k) (fun p hp => ((canon_mem hk.1 hk.2).1 hp).1)
  mem_elems a := (List.mem_attachWith _ _).2 ((canon_mem hk.1 hk.2).2 ⟨a.2, trivial⟩)
theorem Pm.mul_val (x y : Pm k hk) : (x * y).1 = mulP x.1 y.1 := rfl
theorem Pm.one_val : (1 : Pm k hk).1 = idP k := rfl
theorem Pm.inv_val (x : Pm k hk) : (x⁻¹).1 = invP x.1 := rfl
def dn (l : List (List Int)) : Pm k hk → Prop := fun x => x.1 ∈ l
def upS (H : Pm k hk → Prop) : List Int → Prop := fun p => ∃ h : PK k p, H ⟨p, h⟩
noncomputable def can (H : Pm k hk → Prop) : List (List Int) := canon k (upS H)
theorem can_mem {H : Pm k hk → Prop} {p : List Int} : p ∈ can H ↔ ∃ h : PK k p, H ⟨p, h⟩ := by
  unfold can
  rw [canon_mem hk.1 hk.2]
  exact ⟨fun h => h.2, fun h => ⟨h.1, h⟩⟩
theorem can_mem' {H : Pm k hk → Prop} {x : Pm k hk} : x.1 ∈ can H ↔ H x := by
  rw [can_mem]; exact ⟨fun ⟨_, h⟩ => h, fun h => ⟨x.2, h⟩⟩
theorem can_PK {H : Pm k hk → Prop} : ∀ p ∈ can H, PK k p := fun p hp => (can_mem.1 hp).1
theorem can_asc {H : Pm k hk → Prop} : Asc (can H) := canon_asc
theorem can_len {H : Pm k hk → Prop} : (can H).length ≤ 5040 := canon_len hk.2
theorem can_congr {H K : Pm k hk → Prop} (h : ∀ x, H x ↔ K x) : can H = can K := by
  have : H = K := funext fun x => propext (h x)
  rw [this]
theorem can_card (H : Pm k hk → Prop) : (can H).length = (lst H).length := by
  have : (can H).Perm ((lst H).map (·.1)) := nodup_ext can_asc.nodup (nodup_map_inj (fun (_ _ : Pm k hk) => Pm.ext) (lst_ok H).1) (fun p => by
    rw [can_mem, List.mem_map]
    constructor
    · rintro ⟨h, hp⟩; exact ⟨⟨p, h⟩, ((lst_ok H).2 _).2 hp, rfl⟩
    · rintro ⟨x, hx, rfl⟩; exact ⟨x.2, ((lst_ok H).2 _).1 hx⟩)
  rw [this.length_eq, List.length_map]
theorem dn_can {H : Pm k hk → Prop} {x : Pm k hk} : dn (can H) x ↔ H x := can_mem'
theorem PK_few {l : List (List Int)} (hn : l.Nodup) (h : ∀ p ∈ l, PK k p) (hk : 1 ≤ k ∧ k ≤ 7) : l.length ≤ 5040 :=
  Nat.le_trans (nodup_le hn (L := canon k (fun _ => True)) (fun p hp => (canon_mem hk.1 hk.2).2 ⟨h p hp, trivial⟩)) (canon_len hk.2)
theorem own_mul_pm (hn : Fu n) (x y : Pm k hk) : group_mul n x.1 y.1 = some ((x * y).1, ()) :=
  own_mul_run hn (by have := x.2.2; omega) (x.2.1.fits (by rw [x.2.2, y.2.2]))
theorem ref_mul_pm (hn : Fu n) (x y : Pm k hk) : ref01_Mul n x.1 y.1 = some ((x * y).1, ()) :=
  ref_mul_run hn (by have := x.2.2; omega) (x.2.1.fits (by rw [x.2.2, y.2.2]))
theorem hasT_in {S : List Int → Prop} {p : List Int} (hp : PK k p) (h : S p) : idx (hasT k S) (rank p : Int) = some true := by rw [hasT_idx hp, decide_eq_true h]
theorem hasT_out {S : List Int → Prop} {p : List Int} (hp : PK k p) (h : ¬ S p) : idx (hasT k S) (rank p : Int) = some false := by rw [hasT_idx hp, decide_eq_false h]
theorem close_inner (hn : Fu n) {gens : List (List Int)} (hg : ∀ g ∈ gens, PK k g) (hgl : gens.length ≤ 1000000) (x : Pm k hk) {done todo : List (List Int)} (hnd : (done ++ todo).Nodup) (hP : ∀ p ∈ done ++ todo, PK k p) :
    ∃ ext, iterN (ref02_Close_l0 n) n (gens, x.1, 0, setT k (· ∈ done ++ todo), todo, ()) = some (.inl (gens, setT k (· ∈ done ++ (todo ++ ext)), todo ++ ext, ())) ∧ (done ++ (todo ++ ext)).Nodup ∧ (∀ p ∈ ext, ∃ g, g ∈ gens ∧ p = mulP x.1 g) ∧ ∀ g ∈ gens, mulP x.1 g ∈ done ++ (todo ++ ext) := by
  obtain ⟨r, e, ext, rfl, h1, h2, h3⟩ := loop_inv (f := ref02_Close_l0 n) hn
    (fun d => ∃ (i : Nat) (ext : List (List Int)), d = (gens, x.1, (i : Int), setT k (· ∈ done ++ (todo ++ ext)), todo ++ ext, ()) ∧ i ≤ gens.length ∧ (done ++ (todo ++ ext)).Nodup ∧ (∀ p ∈ ext, ∃ g, g ∈ gens ∧ p = mulP x.1 g) ∧ ∀ j, j < i → mulP x.1 (row gens j) ∈ done ++ (todo ++ ext))
    (fun d => ((gens.length : Int) - d.2.2.1).toNat)
    (fun r => ∃ ext, r = .inl (gens, setT k (· ∈ done ++ (todo ++ ext)), todo ++ ext, ()) ∧ (done ++ (todo ++ ext)).Nodup ∧ (∀ p ∈ ext, ∃ g, g ∈ gens ∧ p = mulP x.1 g) ∧ ∀ j, j < gens.length → mulP x.1 (row gens j) ∈ done ++ (todo ++ ext))
    (d := (gens, x.1, 0, setT k (· ∈ done ++ todo), todo, ()))
    ⟨0, [], by simp, Nat.zero_le _, by simpa using hnd, (fun p h => nomatch h), fun j h => by omega⟩ (by simp only; omega) (by
      rintro d ⟨i, ext, rfl, h1, h2, h3, h4⟩
      have hP2 : ∀ p ∈ done ++ (todo ++ ext), PK k p := fun p hp => by
        rw [← List.append_assoc, List.mem_append] at hp
        rcases hp with hp | hp
        · exact hP p hp
        · obtain ⟨g, hgm, rfl⟩ := h3 p hp
          exact x.2.mul (hg g hgm)
      by_cases c1 : i < gens.length
      · have hgi := hg _ (row_mem c1)
        have em := ref_mul_pm hn x (⟨row gens i, hgi⟩ : Pm k hk)
        have hy := x.2.mul hgi
        have er := rank_run hn (p := mulP x.1 (row gens i)) (by have := hy.2; omega)
        have hfew := PK_few h2 hP2 hk
        rw [List.length_append, List.length_append] at hfew
        change ref01_Mul n x.1 (row gens i) = some (mulP x.1 (row gens i), ()) at em
        by_cases c2 : mulP x.1 (row gens i) ∈ done ++ (todo ++ ext)
        · have ei := hasT_in (S := (· ∈ done ++ (todo ++ ext))) hy c2
          refine .inl ⟨(gens, x.1, ((i + 1 : Nat) : Int), setT k (· ∈ done ++ (todo ++ ext)), todo ++ ext, ()), ?_, ⟨i + 1, ext, rfl, c1, h2, h3, fun j hj => ?_⟩, by simp only; omega⟩
          · simp (disch := first | assumption | omega) only [Option.bind_some, Sum.elim_inl, Sum.elim_inr, cond_true, cond_false, Bool.not_true, Bool.not_false, chk_true, lenB_ok_, sameP_refl, decide_true, decide_false, dpos, dneg, beq_self_eq_true, Bool.true_eq_false, Bool.false_eq_true, Int.toNat_natCast, List.length_append, List.length_cons, List.length_nil, ref02_Close_l0, ref02_Close_b0, idx_row, em, er, ei, up1]
          · by_cases e : j = i
            · rw [e]; exact c2
            · exact h4 j (by omega)
        · have ei := hasT_out (S := (· ∈ done ++ (todo ++ ext))) hy c2
          have es : (hasT k (· ∈ done ++ (todo ++ ext))).set (rank (mulP x.1 (row gens i))) true = hasT k (· ∈ done ++ (todo ++ (ext ++ [mulP x.1 (row gens i)]))) := by
            rw [hasT_set hy]
            congr 1
            funext q
            apply propext
            simp only [List.mem_append, List.mem_singleton, or_assoc]
          refine .inl ⟨(gens, x.1, ((i + 1 : Nat) : Int), setT k (· ∈ done ++ (todo ++ (ext ++ [mulP x.1 (row gens i)]))), todo ++ (ext ++ [mulP x.1 (row gens i)]), ()), ?_, ⟨i + 1, _, rfl, c1, ?_, fun p hp => ?_, fun j hj => ?_⟩, by simp only; omega⟩
          · simp (disch := first | assumption | omega) only [Option.bind_some, Sum.elim_inl, Sum.elim_inr, cond_true, cond_false, Bool.not_true, Bool.not_false, chk_true, lenB_ok_, sameP_refl, decide_true, decide_false, dpos, dneg, beq_self_eq_true, Bool.true_eq_false, Bool.false_eq_true, Int.toNat_natCast, List.length_append, List.length_cons, List.length_nil, ref02_Close_l0, ref02_Close_b0, idx_row, em, er, ei, es, up1, List.append_assoc]
          · rw [← List.append_assoc, ← List.append_assoc, List.nodup_append]
            refine ⟨by rw [List.append_assoc]; exact h2, by simp, fun a ha b hb => ?_⟩
            rw [List.mem_singleton] at hb
            subst hb
            intro e
            subst e
            exact c2 (by rw [List.append_assoc] at ha; exact ha)
          · rw [List.mem_append, List.mem_singleton] at hp
            rcases hp with hp | rfl
            · exact h3 p hp
            · exact ⟨_, row_mem c1, rfl⟩
          · by_cases e : j = i
            · rw [e]; simp
            · have := h4 j (by omega)
              rw [← List.append_assoc, ← List.append_assoc, List.mem_append, List.append_assoc]
              exact .inl this
      · obtain rfl : i = gens.length := by omega
        refine .inr ⟨_, ?_, ext, rfl, h2, h3, h4⟩
        simp (disch := first | assumption | omega) only [Option.bind_some, Sum.elim_inl, Sum.elim_inr, cond_true, cond_false, Bool.not_true, Bool.not_false, chk_true, lenB_ok_, sameP_refl, decide_true, decide_false, dpos, dneg, beq_self_eq_true, Bool.true_eq_false, Bool.false_eq_true, Int.toNat_natCast, List.length_append, List.length_cons, List.length_nil, ref02_Close_l0, ref02_Close_b0])
  refine ⟨ext, e, h1, h2, fun g hgm => ?_⟩
  obtain ⟨j, hj, e⟩ := List.getElem_of_mem hgm
  have := h3 j hj
  unfold row at this
  rw [List.getD_eq_getElem?_getD, List.getElem?_eq_getElem hj, Option.getD_some, e] at this
  exact this
theorem setEmpty (k : Nat) : (setT k (· ∈ ([] : List (List Int)))) = ((k : Int), (hasT k (fun _ => False), ())) := by
  have : (fun p : List Int => p ∈ ([] : List (List Int))) = fun _ => False := by funext p; simp
  show ((k : Int), (hasT k (fun p : List Int => p ∈ ([] : List (List Int))), ())) = _
  rw [this]
theorem rank_id {k : Nat} : rank (idP k) = 0 := by
  have h := (unr_ok (r := 0) (idP_asc k) (idP_length k) (fact_pos k))
  have e : ∀ (m : Nat) (l : List Int), l.length = m → unr m l 0 = l := by
    intro m
    induction m with
    | zero => intro l hl; rw [List.length_eq_zero_iff.1 hl]; rfl
    | succ m ih =>
      intro l hl
      show _ :: _ = _
      rw [Nat.zero_div, Nat.zero_mod]
      cases l with
      | nil => simp at hl
      | cons a l => rw [List.getD_cons_zero, List.eraseIdx_zero, List.tail_cons, ih l (by simpa using hl)]
  rw [e k _ (idP_length k)] at h
  exact h.2
theorem ref_close_run (hn : Fu n) {gens : List (List Int)} (hg : ∀ g ∈ gens, PK k g) (h0 : 0 < gens.length) (hgl : gens.length ≤ 1000000) : ref02_Close n gens = some (can (hk := hk) (Cl (dn gens)), ()) := by
  have hr0 := hg _ (row_mem h0)
  have e0 : idx gens 0 = some (row gens 0) := idx_row (u := 0) h0
  have el : (((row gens 0).length : Nat) : Int) = (k : Int) := by rw [hr0.2]
  have es := setOf_run hn hk.1 hk.2 (l := []) (by simp) (fun p h => nomatch h)
  have eid := ref_id_run hn k (by omega)
  have hidP : PK k (idP k) := (1 : Pm k hk).2
  have ei0 : idx (hasT k (· ∈ ([] : List (List Int)))) 0 = some false := by
    have := hasT_out (S := (· ∈ ([] : List (List Int)))) hidP (by simp)
    rwa [rank_id] at this
  have es0 : (hasT k (· ∈ ([] : List (List Int)))).set 0 true = hasT k (· ∈ [] ++ [idP k]) := by
    have := hasT_set (S := (· ∈ ([] : List (List Int)))) hidP
    rw [rank_id] at this
    rw [this]
    congr 1
    funext q; apply propext; simp
  obtain ⟨r, e, rfl⟩ := loop_gh (f := ref02_Close_l1 n) hn
    (fun (done : List (List Int)) d => ∃ todo, d = (gens, setT k (· ∈ done ++ todo), todo, ()) ∧ (done ++ todo).Nodup ∧ (∀ p ∈ done ++ todo, upS (hk := hk) (Cl (dn gens)) p) ∧ idP k ∈ done ++ todo ∧ ∀ p ∈ done, ∀ g ∈ gens, mulP p g ∈ done ++ todo)
    (fun done => 5041 - done.length)
    (fun r => r = .inl (setT k (upS (hk := hk) (Cl (dn gens))), ()))
    [] (d := (gens, setT k (· ∈ [] ++ [idP k]), [idP k], ()))
    ⟨[idP k], rfl, by simp, fun p hp => by
      have : p = idP k := by simpa using hp
      subst this
      exact ⟨hidP, .one⟩, by simp, fun p hp => nomatch hp⟩ (by simp) (by
      rintro done d ⟨todo, rfl, h1, h2, h3, h4⟩
      have hP : ∀ p ∈ done ++ todo, PK k p := fun p hp => (h2 p hp).1
      have hfew := PK_few h1 hP hk
      rw [List.length_append] at hfew
      cases todo with
      | nil =>
        refine .inr ⟨_, ?_, rfl⟩
        have : (fun p => p ∈ done ++ []) = upS (hk := hk) (Cl (dn gens)) := by
          funext p
          apply propext
          refine ⟨h2 p, ?_⟩
          rintro ⟨hp, hc⟩
          generalize hx : (⟨p, hp⟩ : Pm k hk) = x at hc
          have : x.1 ∈ done ++ [] := by
            clear hx
            induction hc with
            | one => exact h3
            | step hc hq ih =>
              rw [List.append_nil] at ih h4 ⊢
              exact h4 _ ih _ hq
          rw [← hx] at this
          exact this
        rw [← this]
        simp (disch := first | assumption | omega) only [Option.bind_some, Sum.elim_inl, Sum.elim_inr, cond_true, cond_false, Bool.not_true, Bool.not_false, chk_true, lenB_ok_, sameP_refl, decide_true, decide_false, dpos, dneg, beq_self_eq_true, Bool.true_eq_false, Bool.false_eq_true, Int.toNat_natCast, List.length_append, List.length_cons, List.length_nil, ref02_Close_l1, ref02_Close_b1]
      | cons p rest =>
        obtain ⟨hp, hpc⟩ := h2 p (by simp)
        have eapp : done ++ p :: rest = (done ++ [p]) ++ rest := by simp
        rw [eapp] at h1 hP h2 h3 h4
        obtain ⟨ext, e, q1, q2, q3⟩ := close_inner (hk := hk) hn hg hgl ⟨p, hp⟩ h1 hP
        refine .inl ⟨(gens, setT k (· ∈ (done ++ [p]) ++ (rest ++ ext)), rest ++ ext, ()), done ++ [p], ?_, ⟨rest ++ ext, rfl, q1, fun q hq => ?_, ?_, fun q hq g hgm => ?_⟩, ?_⟩
        · rw [eapp]
          have hi : idx (p :: rest) 0 = some p := rfl
          have hl : ((p :: rest).length : Int) = ((rest.length + 1 : Nat) : Int) := rfl
          have hs : subs (p :: rest) 1 (rest.length + 1) = rest := subs_all (p :: rest) 1
          have t1 : Int.toNat 1 = 1 := rfl
          change iterN (ref02_Close_l0 n) n (gens, p, 0, setT k (· ∈ (done ++ [p]) ++ rest), rest, ()) = _ at e
          simp (disch := first | assumption | omega) only [Option.bind_some, Sum.elim_inl, Sum.elim_inr, cond_true, cond_false, Bool.not_true, Bool.not_false, chk_true, lenB_ok_, sameP_refl, decide_true, decide_false, dpos, dneg, beq_self_eq_true, Bool.true_eq_false, Bool.false_eq_true, Int.toNat_natCast, List.length_append, List.length_cons, List.length_nil, ref02_Close_l1, ref02_Close_b1, hi, t1, hs, e]
        · rw [← List.append_assoc, List.mem_append] at hq
          rcases hq with hq | hq
          · exact h2 q hq
          · obtain ⟨g, hgm, rfl⟩ := q2 q hq
            exact ⟨hp.mul (hg g hgm), Cl.step (S := dn gens) (q := (⟨g, hg g hgm⟩ : Pm k hk)) hpc (show dn gens (⟨g, hg g hgm⟩ : Pm k hk) from hgm)⟩
        · rw [← List.append_assoc, List.mem_append]; exact .inl h3
        · rw [List.mem_append] at hq
          rcases hq with hq | hq
          · have := h4 q hq g hgm
            rw [← List.append_assoc, List.mem_append]; exact .inl this
          · rw [List.mem_singleton] at hq
            subst hq
            exact q3 g hgm
        · rw [List.length_append]
          simp only [List.length_cons, List.length_nil] at hfew ⊢
          omega)
  have el2 := list_run hn (S := upS (hk := hk) (Cl (dn gens))) hk.2
  simp (disch := first | assumption | omega) only [Option.bind_some, Sum.elim_inl, Sum.elim_inr, cond_true, cond_false, Bool.not_true, Bool.not_false, chk_true, lenB_ok_, sameP_refl, decide_true, decide_false, dpos, dneg, beq_self_eq_true, Bool.true_eq_false, Bool.false_eq_true, Int.toNat_natCast, List.length_append, List.length_cons, List.length_nil, ref02_Close, e0, el, es, eid, ei0, es0, e, el2]
  rfl
end Go.Proofs.Ytemejeiajekmcaa.V
namespace Go.Proofs.Ytemejeiajekmcaa.V
open Go Classical Grp
set_option linter.unusedVariables false
set_option linter.all false
variable {n : Nat} {k : Nat} {hk : 1 ≤ k ∧ k ≤ 7}
structure Gw (hk : 1 ≤ k ∧ k ≤ 7) (S : Pm k hk → Prop) (met : Option KS) (gens all : List (List Int)) : Prop where
  m : InvM k met all
  g : ∀ g ∈ gens, PK k g
  gl : gens.length + 1 ≤ all.length
  eq : ∀ x : Pm k hk, x.1 ∈ all ↔ Cl S x
  gs : ∀ x : Pm k hk, Cl (dn gens) x ↔ Cl S x
theorem InvM.nodup {met : Option KS} {all : List (List Int)} (h : InvM k met all) : all.Nodup ∧ ∀ p ∈ all, PK k p := by
  obtain ⟨m, _, _, _, h3, h4⟩ := h; exact ⟨h3, h4⟩
theorem Gw.few {S : Pm k hk → Prop} {met : Option KS} {gens all : List (List Int)} (h : Gw hk S met gens all) : all.length ≤ 5040 := PK_few h.m.nodup.1 h.m.nodup.2 hk
theorem Cl.add {S : Pm k hk → Prop} {x y : Pm k hk} (hc : Cl S x) : Cl (fun y => S y ∨ y = x) y ↔ Cl S y :=
  ⟨Cl.mono (fun a ha => ha.elim (fun ha => .gen ha) (fun e => by rw [e]; exact hc)), Cl.mono (fun a ha => .gen (.inl ha))⟩
theorem grown1_run (hn : Fu n) {S : Pm k hk → Prop} {met : Option KS} {gens all : List (List Int)} (h : Gw hk S met gens all) (x : Pm k hk) :
    ∃ met' gens' all', group_grown_1 n x.1 met gens all = some ((), (met', (gens', (all', ())))) ∧ Gw hk (fun y => S y ∨ y = x) met' gens' all' := by
  have hx := x.2
  have ek := keyOf_run hn hx.1
  have el := h.m.look hx.1
  have hfew := h.few
  by_cases c : x.1 ∈ all
  · rw [decide_eq_true c] at el
    refine ⟨met, gens, all, ?_, h.m, h.g, h.gl, fun y => ?_, fun y => ?_⟩
    · simp (disch := first | assumption | omega) only [Option.bind_some, Sum.elim_inl, Sum.elim_inr, cond_true, cond_false, Bool.not_true, Bool.not_false, chk_true, lenB_ok_, sameP_refl, decide_true, decide_false, dpos, dneg, beq_self_eq_true, Bool.true_eq_false, Bool.false_eq_true, Int.toNat_natCast, List.length_append, List.length_cons, List.length_nil, group_grown_1, ek, el]
    · rw [Cl.add ((h.eq x).1 c)]; exact h.eq y
    · rw [Cl.add ((h.eq x).1 c)]; exact h.gs y
  · rw [decide_eq_false c] at el
    have hg' : ∀ g ∈ gens ++ [x.1], VP g ∧ g.length = k := fun g hg => by
      rw [List.mem_append, List.mem_singleton] at hg
      rcases hg with hg | rfl
      · exact h.g g hg
      · exact x.2
    have hgl := h.gl
    obtain ⟨met', ext, e, q1, q2, q3⟩ := grown_outer hn (gens := gens ++ [x.1]) hg' (by rw [List.length_append]; simp only [List.length_cons, List.length_nil]; omega) h.m
    have gs' : ∀ y : Pm k hk, Cl (dn (gens ++ [x.1])) y ↔ Cl (fun y => S y ∨ y = x) y := fun y => by
      constructor
      · refine Cl.mono (fun a ha => ?_)
        have ha : a.1 ∈ gens ++ [x.1] := ha
        rw [List.mem_append, List.mem_singleton] at ha
        rcases ha with ha | ha
        · exact ((h.gs a).1 (.gen ha)).mono (fun b hb => .gen (.inl hb))
        · exact .gen (.inr (Pm.ext ha))
      · refine Cl.mono ?_
        rintro a (ha | rfl)
        · exact ((h.gs a).2 (.gen ha)).mono (fun b hb => .gen (List.mem_append_left _ hb))
        · exact .gen (show a.1 ∈ gens ++ [a.1] by simp)
    have hidm : idP k ∈ all := (h.eq 1).2 .one
    refine ⟨met', gens ++ [x.1], all ++ ext, ?_, q1, hg', ?_, fun y => ?_, gs'⟩
    · have hl1 : ([x.1] : List (List Int)).length = 1 := rfl
      simp (disch := first | assumption | omega) only [Option.bind_some, Sum.elim_inl, Sum.elim_inr, cond_true, cond_false, Bool.not_true, Bool.not_false, chk_true, lenB_ok_, sameP_refl, decide_true, decide_false, dpos, dneg, beq_self_eq_true, Bool.true_eq_false, Bool.false_eq_true, Int.toNat_natCast, List.length_append, List.length_cons, List.length_nil, group_grown_1, ek, el, e]
    · -- the new element is new
      have hxm : x.1 ∈ all ++ ext := by
        obtain ⟨i, hi, e⟩ := List.getElem_of_mem (List.mem_append_left ext hidm)
        have := q2 i hi gens.length (by simp)
        have r1 : row (all ++ ext) i = idP k := by unfold row; rw [List.getD_eq_getElem?_getD, List.getElem?_eq_getElem hi]; exact e
        have r2 : row (gens ++ [x.1]) gens.length = x.1 := by unfold row; rw [List.getD_eq_getElem?_getD, List.getElem?_append_right (Nat.le_refl _), Nat.sub_self]; rfl
        rw [r1, r2, one_mulP hx] at this
        exact this
      have : 1 ≤ ext.length := by
        rw [List.mem_append] at hxm
        rcases hxm with hxm | hxm
        · exact absurd hxm c
        · exact List.length_pos_of_mem hxm
      rw [List.length_append, List.length_append]
      simp only [List.length_cons, List.length_nil]; omega
    · constructor
      · intro hy
        have : ∀ p, Reach (gens ++ [x.1]) all p → ∃ hp : PK k p, Cl (fun y => S y ∨ y = x) (⟨p, hp⟩ : Pm k hk) := by
          intro p hp
          induction hp with
          | @base p hb =>
            have hp := h.m.nodup.2 _ hb
            exact ⟨hp, ((h.eq ⟨p, hp⟩).1 hb).mono (fun b hb => .gen (.inl hb))⟩
          | @step p g _ hq ih =>
            obtain ⟨hp, hc⟩ := ih
            have hgp := hg' g hq
            have := Cl.mul (G := Pm k hk) (S := fun y => S y ∨ y = x) (p := Pm.mk p hp) (q := Pm.mk g hgp) hc ((gs' _).1 (.gen hq))
            exact ⟨hp.mul hgp, this⟩
        obtain ⟨hp, hc⟩ := this y.1 (q3 y.1 hy)
        exact hc
      · intro hy
        replace hy := (gs' y).2 hy
        induction hy with
        | one => exact List.mem_append_left _ hidm
        | @step p g hc hq ih =>
          have hq : g.1 ∈ gens ++ [x.1] := hq
          obtain ⟨i, hi, e1⟩ := List.getElem_of_mem ih
          obtain ⟨j, hj, e2⟩ := List.getElem_of_mem hq
          have := q2 i hi j hj
          unfold row at this
          rw [List.getD_eq_getElem?_getD, List.getElem?_eq_getElem hi, List.getD_eq_getElem?_getD, List.getElem?_eq_getElem hj] at this
          simp only [Option.getD_some] at this
          rw [e1, e2] at this
          exact this
theorem setOf_own (hn : Fu n) {l : List (List Int)} (hl : l.length ≤ 1000000000) (h : ∀ p ∈ l, VP p) : ∃ m, group_setOf n l = some (some m, ()) ∧ KOK m ∧ ∀ q, VP q → (keyP q ∈ m.map (·.1) ↔ q ∈ l) := by
  obtain ⟨r, e, m, rfl, h1, h2⟩ := loop_inv (f := group_setOf_l0 n) hn
    (fun d => ∃ (i : Nat) (m : KS), d = (l, (l.length : Int), (i : Int), some m, ()) ∧ i ≤ l.length ∧ KOK m ∧ ∀ q, VP q → (keyP q ∈ m.map (·.1) ↔ q ∈ l.take i))
    (fun d => ((l.length : Int) - d.2.2.1).toNat)
    (fun r => ∃ m, r = .inl (some m, ()) ∧ KOK m ∧ ∀ q, VP q → (keyP q ∈ m.map (·.1) ↔ q ∈ l))
    (d := (l, (l.length : Int), 0, some [], ()))
    ⟨0, [], rfl, Nat.zero_le _, (fun x hx => nomatch hx), fun q _ => by simp⟩ (by simp only; omega) (by
      rintro d ⟨i, m, rfl, h1, h2, h3⟩
      by_cases c : i < l.length
      · have hv := h _ (row_mem c)
        have ek := keyOf_run hn hv
        obtain ⟨g1, g2⟩ := mput_key h2 (keyP_length (row l i))
        refine .inl ⟨(l, (l.length : Int), ((i + 1 : Nat) : Int), some (mput (.arr 7 (.int .i8)) m (keyP (row l i)) true), ()), ?_, ⟨i + 1, _, rfl, c, g1, fun q hq => ?_⟩, by simp only; omega⟩
        · simp (disch := first | assumption | omega) only [Option.bind_some, Sum.elim_inl, Sum.elim_inr, cond_true, cond_false, Bool.not_true, Bool.not_false, chk_true, lenB_ok_, sameP_refl, decide_true, decide_false, dpos, dneg, beq_self_eq_true, Bool.true_eq_false, Bool.false_eq_true, Int.toNat_natCast, List.length_append, List.length_cons, List.length_nil, group_setOf_l0, group_setOf_b0, idx_row, ek, up1]
        · rw [g2, h3 q hq, List.take_add_one, List.mem_append]
          have : l[i]?.toList = [row l i] := by unfold row; rw [List.getD_eq_getElem?_getD, List.getElem?_eq_getElem c]; rfl
          rw [this, List.mem_singleton]
          constructor
          · rintro (e | e)
            · exact .inr (keyTo_inj hq hv e)
            · exact .inl e
          · rintro (e | e)
            · exact .inr e
            · exact .inl (by rw [e])
      · obtain rfl : i = l.length := by omega
        rw [List.take_length] at h3
        refine .inr ⟨.inl (some m, ()), ?_, m, rfl, h2, h3⟩
        simp (disch := first | assumption | omega) only [Option.bind_some, Sum.elim_inl, Sum.elim_inr, cond_true, cond_false, Bool.not_true, Bool.not_false, chk_true, lenB_ok_, sameP_refl, decide_true, decide_false, dpos, dneg, beq_self_eq_true, Bool.true_eq_false, Bool.false_eq_true, Int.toNat_natCast, List.length_append, List.length_cons, List.length_nil, group_setOf_l0, group_setOf_b0])
  refine ⟨m, ?_, h1, h2⟩
  simp (disch := first | assumption | omega) only [Option.bind_some, Sum.elim_inl, Sum.elim_inr, cond_true, cond_false, Bool.not_true, Bool.not_false, chk_true, lenB_ok_, sameP_refl, decide_true, decide_false, dpos, dneg, beq_self_eq_true, Bool.true_eq_false, Bool.false_eq_true, Int.toNat_natCast, List.length_append, List.length_cons, List.length_nil, group_setOf, e]
theorem Gw.start (hn : Fu n) (hk : 1 ≤ k ∧ k ≤ 7) : ∃ met, group_setOf n [idP k] = some (met, ()) ∧ Gw hk (fun _ => False) met [] [idP k] := by
  have hid : PK k (idP k) := (1 : Pm k hk).2
  obtain ⟨m, e, h1, h2⟩ := setOf_own hn (l := [idP k]) (by simp) (fun p hp => by rw [List.mem_singleton] at hp; subst hp; exact hid.1)
  have one : ∀ (S : Pm k hk → Prop), (∀ x, ¬ S x) → ∀ x, Cl S x ↔ x = 1 := fun S hS x => by
    constructor
    · intro h
      cases h with
      | one => rfl
      | step _ hq => exact absurd hq (hS _)
    · rintro rfl; exact .one
  refine ⟨some m, e, ⟨m, rfl, h1, h2, by simp, fun p hp => by rw [List.mem_singleton] at hp; subst hp; exact hid⟩, (fun g hg => nomatch hg), by simp, fun x => ?_, fun x => ?_⟩
  · rw [one _ (fun _ h => h), List.mem_singleton]
    exact ⟨fun h => Pm.ext h, fun h => by rw [h]; rfl⟩
  · rw [one _ (fun _ h => h), one _ (fun _ h => nomatch h)]
theorem closed_loop (hn : Fu n) {G : List (List Int)} (hG : ∀ g ∈ G, PK k g) (hGl : G.length ≤ 1000000000) {met : Option KS} (h : Gw hk (fun _ => False) met [] [idP k]) :
    ∃ met' gens' all', group_closed_1__group_grown_1 n G met [] [idP k] = some ((), (met', (gens', (all', ())))) ∧ Gw hk (dn G) met' gens' all' := by
  obtain ⟨r, e, met', gens', all', rfl, h1⟩ := loop_inv (f := group_closed_1__group_grown_1_l0 n) hn
    (fun d => ∃ (i : Nat) (met : Option KS) (gens all : List (List Int)), d = (((), ((), ((), ()))), G, (G.length : Int), (i : Int), met, gens, all, ()) ∧ i ≤ G.length ∧ Gw hk (dn (G.take i)) met gens all)
    (fun d => ((G.length : Int) - d.2.2.2.1).toNat)
    (fun r => ∃ met' gens' all', r = .inl (met', gens', all', ()) ∧ Gw hk (dn G) met' gens' all')
    (d := (((), ((), ((), ()))), G, (G.length : Int), 0, met, [], [idP k], ()))
    ⟨0, met, [], [idP k], rfl, Nat.zero_le _, by
      have : (dn (G.take 0) : Pm k hk → Prop) = fun _ => False := by funext x; apply propext; simp [dn]
      rw [this]; exact h⟩ (by simp only; omega) (by
      rintro d ⟨i, met, gens, all, rfl, h1, h2⟩
      by_cases c : i < G.length
      · obtain ⟨met', gens', all', e, q⟩ := grown1_run hn h2 ⟨row G i, hG _ (row_mem c)⟩
        change group_grown_1 n (row G i) met gens all = _ at e
        refine .inl ⟨(((), ((), ((), ()))), G, (G.length : Int), ((i + 1 : Nat) : Int), met', gens', all', ()), ?_, ⟨i + 1, met', gens', all', rfl, c, ?_⟩, by simp only; omega⟩
        · simp (disch := first | assumption | omega) only [Option.bind_some, Sum.elim_inl, Sum.elim_inr, cond_true, cond_false, Bool.not_true, Bool.not_false, chk_true, lenB_ok_, sameP_refl, decide_true, decide_false, dpos, dneg, beq_self_eq_true, Bool.true_eq_false, Bool.false_eq_true, Int.toNat_natCast, List.length_append, List.length_cons, List.length_nil, group_closed_1__group_grown_1_l0, group_closed_1__group_grown_1_b0, idx_row, e, up1]
        · have : (dn (G.take (i + 1)) : Pm k hk → Prop) = fun y => dn (G.take i) y ∨ y = ⟨row G i, hG _ (row_mem c)⟩ := by
            funext y
            apply propext
            have e : G[i]?.toList = [row G i] := by unfold row; rw [List.getD_eq_getElem?_getD, List.getElem?_eq_getElem c]; rfl
            show y.1 ∈ G.take (i + 1) ↔ y.1 ∈ G.take i ∨ _
            rw [List.take_add_one, List.mem_append, e, List.mem_singleton]
            exact or_congr Iff.rfl ⟨fun h => Pm.ext h, fun h => by rw [h]⟩
          rw [this]; exact q
      · obtain rfl : i = G.length := by omega
        rw [List.take_length] at h2
        refine .inr ⟨.inl (met, gens, all, ()), ?_, met, gens, all, rfl, h2⟩
        simp (disch := first | assumption | omega) only [Option.bind_some, Sum.elim_inl, Sum.elim_inr, cond_true, cond_false, Bool.not_true, Bool.not_false, chk_true, lenB_ok_, sameP_refl, decide_true, decide_false, dpos, dneg, beq_self_eq_true, Bool.true_eq_false, Bool.false_eq_true, Int.toNat_natCast, List.length_append, List.length_cons, List.length_nil, group_closed_1__group_grown_1_l0, group_closed_1__group_grown_1_b0])
  exact ⟨met', gens', all', by simp (disch := first | assumption | omega) only [Option.bind_some, Sum.elim_inl, Sum.elim_inr, cond_true, cond_false, Bool.not_true, Bool.not_false, chk_true, lenB_ok_, sameP_refl, decide_true, decide_false, dpos, dneg, beq_self_eq_true, Bool.true_eq_false, Bool.false_eq_true, Int.toNat_natCast, List.length_append, List.length_cons, List.length_nil, group_closed_1__group_grown_1, e], h1⟩
theorem Gw.sorted (hn : Fw n) {S : Pm k hk → Prop} {met : Option KS} {gens all : List (List Int)} (h : Gw hk S met gens all) : group_sorted n all = some (can (Cl S), ()) := by
  rw [sorted_canon hn hk.1 hk.2 h.m.nodup.1 h.m.nodup.2]
  congr 2
  unfold can
  refine canon_congr hk.1 hk.2 (fun p hp => ?_)
  rw [h.eq ⟨p, hp⟩]
  exact ⟨fun h => ⟨hp, h⟩, fun ⟨_, h⟩ => h⟩
theorem own_closed_run (hn : Fw n) {G : List (List Int)} (hG : ∀ g ∈ G, PK k g) (h0 : 0 < G.length) (hGl : G.length ≤ 1000000000) : group_closed n G = some (can (hk := hk) (Cl (dn G)), ()) := by
  have hr0 := hG _ (row_mem h0)
  have e0 : idx G 0 = some (row G 0) := idx_row (u := 0) h0
  have eid := own_id_run hn.fu k hk.1 hk.2
  obtain ⟨met, e1, h1⟩ := Gw.start hn.fu hk
  obtain ⟨met', gens', all', e2, h2⟩ := closed_loop hn.fu hG hGl h1
  have e3 := h2.sorted hn
  have el : (((row G 0).length : Nat) : Int) = (k : Int) := by rw [hr0.2]
  simp (disch := first | assumption | omega) only [Option.bind_some, Sum.elim_inl, Sum.elim_inr, cond_true, cond_false, Bool.not_true, Bool.not_false, chk_true, lenB_ok_, sameP_refl, decide_true, decide_false, dpos, dneg, beq_self_eq_true, Bool.true_eq_false, Bool.false_eq_true, Int.toNat_natCast, List.length_append, List.length_cons, List.length_nil, group_closed, e0, el, group_grown__group_closed_1, eid, e1, e2, e3]
theorem can_rows {H : Pm k hk → Prop} : ∀ i, i < (can H).length → (row (can H) i).length ≤ 1000 := fun i hi => by
  have := (can_PK _ (row_mem hi)).2; omega
theorem own_close_run (hn : Fw n) {G : List (List Int)} (hv : GV G) (hG : ∀ g ∈ G, PK k g) : group_Close n G = some (can (hk := hk) (Cl (dn G)), 0, ()) := by
  have e1 := own_gens_run hn.fu G
  have e2 := own_closed_run (hk := hk) hn hG hv.1 (by have := hv.2.1; omega)
  have e3 := copied_run hn.fu (can (hk := hk) (Cl (dn G))) (by have := can_len (H := Cl (dn (hk := hk) G)); omega) can_rows
  rw [decide_eq_true hv] at e1
  simp (disch := first | assumption | omega) only [Option.bind_some, Sum.elim_inl, Sum.elim_inr, cond_true, cond_false, Bool.not_true, Bool.not_false, chk_true, lenB_ok_, sameP_refl, decide_true, decide_false, dpos, dneg, beq_self_eq_true, Bool.true_eq_false, Bool.false_eq_true, Int.toNat_natCast, List.length_append, List.length_cons, List.length_nil, group_Close, e1, e2, e3]
theorem GV.pk {G : List (List Int)} (hv : GV G) : ∃ k, (1 ≤ k ∧ k ≤ 7) ∧ ∀ g ∈ G, PK k g := by
  have h0 := (hv.2.2 0 hv.1)
  refine ⟨(row G 0).length, ⟨h0.1.1, h0.1.2.1⟩, fun g hg => ?_⟩
  obtain ⟨i, hi, e⟩ := List.getElem_of_mem hg
  have := hv.2.2 i hi
  unfold row at this ⊢
  rw [List.getD_eq_getElem?_getD (i := i), List.getElem?_eq_getElem hi] at this
  simp only [Option.getD_some] at this
  rw [e] at this
  exact ⟨this.2.1, this.2.2.symm⟩
theorem can_same (hn : Fu n) (H : Pm k hk → Prop) : ref02_Same n (can H) (can H) = some (true, ()) :=
  same2_run hn _ (by have := can_len (H := H); omega) can_rows
theorem closes_holds (l : List (List Int)) : ∃ n, law02_GroupCloses n l = some (true, ()) := by
  refine ⟨1180591620717411303424 + 1099511627776, ?_⟩
  have hn : Fw (1180591620717411303424 + 1099511627776) := Nat.le_refl _
  generalize 1180591620717411303424 + 1099511627776 = n at hn
  refine closes_run hn.fu l (fun hv => ?_)
  obtain ⟨k, hk, hG⟩ := hv.pk
  exact ⟨_, own_close_run (hk := hk) hn hv hG, ref_close_run hn.fu hG hv.1 (by have := hv.2.1; omega), can_same hn.fu _⟩
end Go.Proofs.Ytemejeiajekmcaa.V
