/- Ch. 10: Cyclic, Two, Mod, And, Same, ones. -/
import Derived.Test.YtibphkgcdnconaaPVA
import Derived.Test.YtibphkgcdnconaaMMods
namespace Go.Proofs.Ytibphkgcdnconaa.V
open Go
set_option linter.unusedVariables false
set_option linter.all false
variable {n : Nat}
/-! ### tables by a function -/
def tab {α : Type} (n : Nat) (f : Nat → α) : List α := (List.range n).map f
@[simp] theorem tab_length {α : Type} (n : Nat) (f : Nat → α) : (tab n f).length = n := by simp [tab]
theorem tab_get {α : Type} {n : Nat} {f : Nat → α} {i : Nat} (h : i < (tab n f).length) : (tab n f)[i] = f i := by simp [tab]
theorem tab_getD {α : Type} {n : Nat} {f : Nat → α} {i : Nat} {d : α} (h : i < n) : (tab n f).getD i d = f i := by
  rw [List.getD_eq_getElem?_getD, List.getElem?_eq_getElem (by simpa using h), tab_get]; rfl
theorem tab_set {α : Type} {n : Nat} {f : Nat → α} {i : Nat} {x : α} : (tab n f).set i x = tab n (fun j => if j = i then x else f j) := by
  apply List.ext_getElem
  · simp
  · intro j h1 h2
    rw [tab_get, List.getElem_set]
    by_cases e : i = j
    · subst e; simp
    · rw [if_neg e, if_neg (fun h => e h.symm), tab_get]
theorem tab_congr {α : Type} {n : Nat} {f g : Nat → α} (h : ∀ i, i < n → f i = g i) : tab n f = tab n g := by
  unfold tab
  exact List.map_congr_left (fun i hi => h i (List.mem_range.1 hi))
theorem replicate_tab {α : Type} (n : Nat) (x : α) : List.replicate n x = tab n (fun _ => x) := by
  apply List.ext_getElem
  · simp
  · intro j h1 h2
    rw [tab_get]; simp
theorem tab_snoc {α : Type} (n : Nat) (f : Nat → α) : tab (n + 1) f = tab n f ++ [f n] := by
  unfold tab
  rw [List.range_succ, List.map_append]; rfl
theorem idx_tab {α : Type} {n : Nat} {f : Nat → α} {i : Nat} (h : i < n) : idx (tab n f) (i : Int) = some (f i) := by
  cases n with
  | zero => omega
  | succ n => rw [idx_nat (f 0) (by simpa using h), tab_getD h]
theorem row_tab {n : Nat} {f : Nat → List Int} {a : Nat} (h : a < n) : row (tab n f) a = f a := tab_getD h
theorem rd_tab {n : Nat} {f : Nat → Int} {a : Nat} (h : a < n) : rd (tab n f) (a : Int) = f a := by
  unfold rd; rw [Int.toNat_natCast]; exact tab_getD h
/-! ### monoids' tables -/
/-- The product of a and b. -/
def mu (m : List (List Int)) (a b : Nat) : Nat := (rd (row m a) (b : Int)).toNat
/-- A table of n rows of n numbers below n. -/
def RowV (m : List (List Int)) (a : Nat) : Prop := (row m a).length = m.length ∧ ∀ b, b < m.length → 0 ≤ rd (row m a) (b : Int) ∧ rd (row m a) (b : Int) < (m.length : Int)
def TV (m : List (List Int)) : Prop := 1 ≤ m.length ∧ m.length ≤ 120 ∧ ∀ a, a < m.length → RowV m a
theorem RowV.mu {m : List (List Int)} {a : Nat} (h : RowV m a) {b : Nat} (hb : b < m.length) : rd (row m a) (b : Int) = (V.mu m a b : Int) := by
  have := h.2 b hb
  unfold V.mu; omega
theorem RowV.lt {m : List (List Int)} {a : Nat} (h : RowV m a) {b : Nat} (hb : b < m.length) : V.mu m a b < m.length := by
  have := h.2 b hb
  unfold V.mu; omega
theorem TV.len {m : List (List Int)} (h : TV m) {a : Nat} (ha : a < m.length) : (row m a).length = m.length := (h.2.2 a ha).1
theorem TV.at {m : List (List Int)} (h : TV m) {a b : Nat} (ha : a < m.length) (hb : b < m.length) : rd (row m a) (b : Int) = (mu m a b : Int) := (h.2.2 a ha).mu hb
theorem TV.lt {m : List (List Int)} (h : TV m) {a b : Nat} (ha : a < m.length) (hb : b < m.length) : mu m a b < m.length := (h.2.2 a ha).lt hb
def tab2 (n : Nat) (f : Nat → Nat → Nat) : List (List Int) := tab n (fun a => tab n (fun b => ((f a b : Nat) : Int)))
theorem tab2_length (n : Nat) (f : Nat → Nat → Nat) : (tab2 n f).length = n := by unfold tab2; simp
theorem row_tab2 {n : Nat} {f : Nat → Nat → Nat} {a : Nat} (h : a < n) : row (tab2 n f) a = tab n (fun b => ((f a b : Nat) : Int)) := row_tab h
theorem tab2_TV {n : Nat} {f : Nat → Nat → Nat} (h1 : 1 ≤ n) (h2 : n ≤ 120) (hf : ∀ a b, a < n → b < n → f a b < n) : TV (tab2 n f) := by
  refine ⟨by rw [tab2_length]; omega, by rw [tab2_length]; omega, fun a ha => ?_⟩
  rw [tab2_length] at ha
  refine ⟨by rw [row_tab2 ha, tab2_length]; simp, fun b hb => ?_⟩
  rw [tab2_length] at hb ⊢
  have := hf a b ha hb
  rw [row_tab2 ha, rd_tab hb]
  omega
theorem tab2_mu {n : Nat} {f : Nat → Nat → Nat} {a b : Nat} (ha : a < n) (hb : b < n) : mu (tab2 n f) a b = f a b := by
  unfold mu
  rw [row_tab2 ha, rd_tab hb]; omega
def cyc (k : Nat) : List (List Int) := tab2 k (fun a b => (a + b) % k)
/-! ### Same, ones -/
theorem same_run (hn : Fu n) (m : List (List Int)) (hm : m.length ≤ 1000000) (hl : ∀ u, u < m.length → (row m u).length ≤ 1000000) : ref10_Same n m m = some (true, ()) := by
  have h : iterN (ref10_Same_l1 n) n (m, m, 0, ()) = some (.inr (.inl ())) := by
    refine loop_run hn (fun i => (m, m, (i : Int), ())) m.length (by omega) rfl (fun i hi => ?_) ?_
    · have h1 := hl i hi
      have h : iterN (ref10_Same_l0 n) n (m, m, (i : Int), 0, ()) = some (.inr (.inl (m, m, (i : Int), ()))) := by
        refine loop_run hn (fun j => (m, m, (i : Int), (j : Int), ())) (row m i).length (by omega) rfl (fun j hj => ?_) ?_
        · simp (disch := first | assumption | omega) only [Option.bind_some, Sum.elim_inl, Sum.elim_inr, cond_true, cond_false, Bool.not_true, Bool.not_false, chk_true, lenB_ok_, sameP_refl, decide_true, decide_false, dpos, dneg, beq_self_eq_true, Bool.true_eq_false, Bool.false_eq_true, Int.toNat_natCast, List.length_append, List.length_cons, List.length_nil, ref10_Same_l0, ref10_Same_b0, idx_row, idx_rd, up1]
        · simp (disch := first | assumption | omega) only [Option.bind_some, Sum.elim_inl, Sum.elim_inr, cond_true, cond_false, Bool.not_true, Bool.not_false, chk_true, lenB_ok_, sameP_refl, decide_true, decide_false, dpos, dneg, beq_self_eq_true, Bool.true_eq_false, Bool.false_eq_true, Int.toNat_natCast, List.length_append, List.length_cons, List.length_nil, ref10_Same_l0, ref10_Same_b0, idx_row, idx_rd, up1]
      simp (disch := first | assumption | omega) only [Option.bind_some, Sum.elim_inl, Sum.elim_inr, cond_true, cond_false, Bool.not_true, Bool.not_false, chk_true, lenB_ok_, sameP_refl, decide_true, decide_false, dpos, dneg, beq_self_eq_true, Bool.true_eq_false, Bool.false_eq_true, Int.toNat_natCast, List.length_append, List.length_cons, List.length_nil, ref10_Same_l1, ref10_Same_b1, idx_row, h, up1]
    · simp (disch := first | assumption | omega) only [Option.bind_some, Sum.elim_inl, Sum.elim_inr, cond_true, cond_false, Bool.not_true, Bool.not_false, chk_true, lenB_ok_, sameP_refl, decide_true, decide_false, dpos, dneg, beq_self_eq_true, Bool.true_eq_false, Bool.false_eq_true, Int.toNat_natCast, List.length_append, List.length_cons, List.length_nil, ref10_Same_l1, ref10_Same_b1]
  simp (disch := first | assumption | omega) only [Option.bind_some, Sum.elim_inl, Sum.elim_inr, cond_true, cond_false, Bool.not_true, Bool.not_false, chk_true, lenB_ok_, sameP_refl, decide_true, decide_false, dpos, dneg, beq_self_eq_true, Bool.true_eq_false, Bool.false_eq_true, Int.toNat_natCast, List.length_append, List.length_cons, List.length_nil, ref10_Same, h]
def bt (x : List Bool) (i : Nat) : Bool := x.getD i false
def onesN (x : List Bool) : Nat → Nat
  | 0 => 0
  | i + 1 => onesN x i + (if bt x i = true then 1 else 0)
theorem onesN_le (x : List Bool) : ∀ i, onesN x i ≤ i := by
  intro i
  induction i with
  | zero => simp [onesN]
  | succ i ih => unfold onesN; split <;> omega
theorem idx_bt {l : List Bool} {i : Nat} (h : i < l.length) : idx l (i : Int) = some (bt l i) := idx_nat false h
theorem ones_run (hn : Fu n) (x : List Bool) (hx : x.length ≤ 1000000) : law10_ones n x = some ((onesN x x.length : Int), ()) := by
  have h : iterN (law10_ones_l0 n) n (x, 0, 0, ()) = some (.inl ((onesN x x.length : Int), ())) := by
    refine loop_run hn (fun i => (x, (onesN x i : Int), (i : Int), ())) x.length (by omega) rfl (fun i hi => ?_) ?_
    · have := onesN_le x i
      cases c : bt x i <;> simp (disch := first | assumption | omega) only [Option.bind_some, Sum.elim_inl, Sum.elim_inr, cond_true, cond_false, Bool.not_true, Bool.not_false, chk_true, lenB_ok_, sameP_refl, decide_true, decide_false, dpos, dneg, beq_self_eq_true, Bool.true_eq_false, Bool.false_eq_true, Int.toNat_natCast, List.length_append, List.length_cons, List.length_nil, law10_ones_l0, law10_ones_b0, idx_bt, up1, c, onesN, Nat.add_zero, if_true, if_false, reduceIte]
    · simp (disch := first | assumption | omega) only [Option.bind_some, Sum.elim_inl, Sum.elim_inr, cond_true, cond_false, Bool.not_true, Bool.not_false, chk_true, lenB_ok_, sameP_refl, decide_true, decide_false, dpos, dneg, beq_self_eq_true, Bool.true_eq_false, Bool.false_eq_true, Int.toNat_natCast, List.length_append, List.length_cons, List.length_nil, law10_ones_l0, law10_ones_b0]
  simp (disch := first | assumption | omega) only [Option.bind_some, Sum.elim_inl, Sum.elim_inr, cond_true, cond_false, Bool.not_true, Bool.not_false, chk_true, lenB_ok_, sameP_refl, decide_true, decide_false, dpos, dneg, beq_self_eq_true, Bool.true_eq_false, Bool.false_eq_true, Int.toNat_natCast, List.length_append, List.length_cons, List.length_nil, law10_ones, h]
/-! ### Mod, And -/
abbrev Ins := Int × Int × Int × Unit
abbrev Pg := Int × List Ins × List Int × Unit
def insOf (n : Nat) (z o : Int) : List Ins := tab n (fun v => ((v : Int), z, o, ()))
theorem insOf_length (n : Nat) (z o : Int) : (insOf n z o).length = n := by unfold insOf; simp
theorem insOf_snoc (n : Nat) (z o : Int) : insOf (n + 1) z o = insOf n z o ++ [((n : Int), z, o, ())] := tab_snoc n _
def pgOf (n : Nat) (z o : Int) : Pg := ((n : Int), insOf n z o, [0], ())
def noPg : Pg := (0, [], [], ())
theorem mod_run (hn : Fu n) (I k : Nat) (hI : I ≤ 16) (h1 : 1 ≤ k) (h2 : k ≤ 120) : monoid_Mod n (I : Int) (k : Int) = some (pgOf I 0 (Int.tmod 1 k), 0, ()) := by
  have h : iterN (monoid_Mod_l0 n) n ((k : Int), (I : Int), 0, noPg, ((I : Int), [], [0], ()), ()) = some (.inl (noPg, pgOf I 0 (Int.tmod 1 k), ())) := by
    refine loop_run hn (fun i => ((k : Int), (I : Int), (i : Int), noPg, ((I : Int), insOf i 0 (Int.tmod 1 k), [0], ()), ())) I (by omega) rfl (fun i hi => ?_) ?_
    · simp (disch := first | assumption | omega) only [Option.bind_some, Sum.elim_inl, Sum.elim_inr, cond_true, cond_false, Bool.not_true, Bool.not_false, chk_true, lenB_ok_, sameP_refl, decide_true, decide_false, dpos, dneg, beq_self_eq_true, Bool.true_eq_false, Bool.false_eq_true, Int.toNat_natCast, List.length_append, List.length_cons, List.length_nil, monoid_Mod_l0, monoid_Mod_b0, insOf_length, up1, insOf_snoc]
    · simp (disch := first | assumption | omega) only [Option.bind_some, Sum.elim_inl, Sum.elim_inr, cond_true, cond_false, Bool.not_true, Bool.not_false, chk_true, lenB_ok_, sameP_refl, decide_true, decide_false, dpos, dneg, beq_self_eq_true, Bool.true_eq_false, Bool.false_eq_true, Int.toNat_natCast, List.length_append, List.length_cons, List.length_nil, monoid_Mod_l0, monoid_Mod_b0, pgOf]
  unfold noPg at h
  simp (disch := first | assumption | omega) only [Option.bind_some, Sum.elim_inl, Sum.elim_inr, cond_true, cond_false, Bool.not_true, Bool.not_false, chk_true, lenB_ok_, sameP_refl, decide_true, decide_false, dpos, dneg, beq_self_eq_true, Bool.true_eq_false, Bool.false_eq_true, Int.toNat_natCast, List.length_append, List.length_cons, List.length_nil, monoid_Mod, h]
theorem mod_bad (I k : Int) (h : k < 1 ∨ 120 < k ∨ I < 0 ∨ 16 < I) : monoid_Mod n I k = some (noPg, 2, ()) := by
  by_cases h1 : k < 1
  · simp (disch := first | assumption | omega) only [Option.bind_some, Sum.elim_inl, Sum.elim_inr, cond_true, cond_false, Bool.not_true, Bool.not_false, chk_true, lenB_ok_, sameP_refl, decide_true, decide_false, dpos, dneg, beq_self_eq_true, Bool.true_eq_false, Bool.false_eq_true, Int.toNat_natCast, List.length_append, List.length_cons, List.length_nil, monoid_Mod, noPg]
  by_cases h2 : 120 < k
  · simp (disch := first | assumption | omega) only [Option.bind_some, Sum.elim_inl, Sum.elim_inr, cond_true, cond_false, Bool.not_true, Bool.not_false, chk_true, lenB_ok_, sameP_refl, decide_true, decide_false, dpos, dneg, beq_self_eq_true, Bool.true_eq_false, Bool.false_eq_true, Int.toNat_natCast, List.length_append, List.length_cons, List.length_nil, monoid_Mod, noPg]
  by_cases h3 : I < 0
  · simp (disch := first | assumption | omega) only [Option.bind_some, Sum.elim_inl, Sum.elim_inr, cond_true, cond_false, Bool.not_true, Bool.not_false, chk_true, lenB_ok_, sameP_refl, decide_true, decide_false, dpos, dneg, beq_self_eq_true, Bool.true_eq_false, Bool.false_eq_true, Int.toNat_natCast, List.length_append, List.length_cons, List.length_nil, monoid_Mod, noPg]
  simp (disch := first | assumption | omega) only [Option.bind_some, Sum.elim_inl, Sum.elim_inr, cond_true, cond_false, Bool.not_true, Bool.not_false, chk_true, lenB_ok_, sameP_refl, decide_true, decide_false, dpos, dneg, beq_self_eq_true, Bool.true_eq_false, Bool.false_eq_true, Int.toNat_natCast, List.length_append, List.length_cons, List.length_nil, monoid_Mod, noPg]
theorem and_run (hn : Fu n) (I : Nat) (hI : I ≤ 16) : monoid_And n (I : Int) = some (pgOf I 1 0, 0, ()) := by
  have h : iterN (monoid_And_l0 n) n ((I : Int), 0, noPg, ((I : Int), [], [0], ()), ()) = some (.inl (noPg, pgOf I 1 0, ())) := by
    refine loop_run hn (fun i => ((I : Int), (i : Int), noPg, ((I : Int), insOf i 1 0, [0], ()), ())) I (by omega) rfl (fun i hi => ?_) ?_
    · simp (disch := first | assumption | omega) only [Option.bind_some, Sum.elim_inl, Sum.elim_inr, cond_true, cond_false, Bool.not_true, Bool.not_false, chk_true, lenB_ok_, sameP_refl, decide_true, decide_false, dpos, dneg, beq_self_eq_true, Bool.true_eq_false, Bool.false_eq_true, Int.toNat_natCast, List.length_append, List.length_cons, List.length_nil, monoid_And_l0, monoid_And_b0, insOf_length, up1, insOf_snoc]
    · simp (disch := first | assumption | omega) only [Option.bind_some, Sum.elim_inl, Sum.elim_inr, cond_true, cond_false, Bool.not_true, Bool.not_false, chk_true, lenB_ok_, sameP_refl, decide_true, decide_false, dpos, dneg, beq_self_eq_true, Bool.true_eq_false, Bool.false_eq_true, Int.toNat_natCast, List.length_append, List.length_cons, List.length_nil, monoid_And_l0, monoid_And_b0, pgOf]
  unfold noPg at h
  simp (disch := first | assumption | omega) only [Option.bind_some, Sum.elim_inl, Sum.elim_inr, cond_true, cond_false, Bool.not_true, Bool.not_false, chk_true, lenB_ok_, sameP_refl, decide_true, decide_false, dpos, dneg, beq_self_eq_true, Bool.true_eq_false, Bool.false_eq_true, Int.toNat_natCast, List.length_append, List.length_cons, List.length_nil, monoid_And, h]
theorem and_bad (I : Int) (h : I < 0 ∨ 16 < I) : monoid_And n I = some (noPg, 2, ()) := by
  by_cases h3 : I < 0
  · simp (disch := first | assumption | omega) only [Option.bind_some, Sum.elim_inl, Sum.elim_inr, cond_true, cond_false, Bool.not_true, Bool.not_false, chk_true, lenB_ok_, sameP_refl, decide_true, decide_false, dpos, dneg, beq_self_eq_true, Bool.true_eq_false, Bool.false_eq_true, Int.toNat_natCast, List.length_append, List.length_cons, List.length_nil, monoid_And, noPg]
  simp (disch := first | assumption | omega) only [Option.bind_some, Sum.elim_inl, Sum.elim_inr, cond_true, cond_false, Bool.not_true, Bool.not_false, chk_true, lenB_ok_, sameP_refl, decide_true, decide_false, dpos, dneg, beq_self_eq_true, Bool.true_eq_false, Bool.false_eq_true, Int.toNat_natCast, List.length_append, List.length_cons, List.length_nil, monoid_And, noPg]
theorem none_run : law10_none n noPg = some (true, ()) := by
  simp (disch := first | assumption | omega) only [Option.bind_some, Sum.elim_inl, Sum.elim_inr, cond_true, cond_false, Bool.not_true, Bool.not_false, chk_true, lenB_ok_, sameP_refl, decide_true, decide_false, dpos, dneg, beq_self_eq_true, Bool.true_eq_false, Bool.false_eq_true, Int.toNat_natCast, List.length_append, List.length_cons, List.length_nil, law10_none, noPg]; rfl
/-! ### Cyclic -/
def fr (n r b : Nat) : List Int := tab b (fun c => (((r + c) % n : Nat) : Int))
theorem fr_length (n r b : Nat) : (fr n r b).length = b := by unfold fr; simp
theorem fr_snoc (n r b : Nat) : fr n r (b + 1) = fr n r b ++ [(((r + b) % n : Nat) : Int)] := tab_snoc b _
theorem tmod_nat (a b : Nat) : Int.tmod (a : Int) (b : Int) = ((a % b : Nat) : Int) := (Int.ofNat_tmod a b).symm
theorem sum_cast (a b : Nat) (h : a ≤ 1000) (h2 : b ≤ 1000) : IntKind.i64.wrap ((a : Int) + (b : Int)) = ((a + b : Nat) : Int) := by
  rw [wrap_id (by omega) (by omega)]; omega
theorem refCyc_run (hn : Fu n) (k : Nat) (h1 : 1 ≤ k) (h2 : k ≤ 120) : ref10_Cyclic n (k : Int) = some (cyc k, ()) := by
  have h : iterN (ref10_Cyclic_l1 n) n ((k : Int), 0, [], ()) = some (.inl (cyc k, ())) := by
    refine loop_run hn (fun a => ((k : Int), (a : Int), tab a (fun a => fr k a k), ())) k (by omega) rfl (fun a ha => ?_) ?_
    · have h : iterN (ref10_Cyclic_l0 n) n ((k : Int), (a : Int), 0, tab a (fun a => fr k a k), [], ()) = some (.inl ((k : Int), (a : Int), tab a (fun a => fr k a k), fr k a k, ())) := by
        refine loop_run hn (fun b => ((k : Int), (a : Int), (b : Int), tab a (fun a => fr k a k), fr k a b, ())) k (by omega) rfl (fun b hb => ?_) ?_
        · simp (disch := first | assumption | omega) only [Option.bind_some, Sum.elim_inl, Sum.elim_inr, cond_true, cond_false, Bool.not_true, Bool.not_false, chk_true, lenB_ok_, sameP_refl, decide_true, decide_false, dpos, dneg, beq_self_eq_true, Bool.true_eq_false, Bool.false_eq_true, Int.toNat_natCast, List.length_append, List.length_cons, List.length_nil, ref10_Cyclic_l0, ref10_Cyclic_b0, fr_length, up1, sum_cast, tmod_nat, fr_snoc]
        · simp (disch := first | assumption | omega) only [Option.bind_some, Sum.elim_inl, Sum.elim_inr, cond_true, cond_false, Bool.not_true, Bool.not_false, chk_true, lenB_ok_, sameP_refl, decide_true, decide_false, dpos, dneg, beq_self_eq_true, Bool.true_eq_false, Bool.false_eq_true, Int.toNat_natCast, List.length_append, List.length_cons, List.length_nil, ref10_Cyclic_l0, ref10_Cyclic_b0]
      simp (disch := first | assumption | omega) only [Option.bind_some, Sum.elim_inl, Sum.elim_inr, cond_true, cond_false, Bool.not_true, Bool.not_false, chk_true, lenB_ok_, sameP_refl, decide_true, decide_false, dpos, dneg, beq_self_eq_true, Bool.true_eq_false, Bool.false_eq_true, Int.toNat_natCast, List.length_append, List.length_cons, List.length_nil, ref10_Cyclic_l1, ref10_Cyclic_b1, h, up1, tab_length, tab_snoc]
    · simp (disch := first | assumption | omega) only [Option.bind_some, Sum.elim_inl, Sum.elim_inr, cond_true, cond_false, Bool.not_true, Bool.not_false, chk_true, lenB_ok_, sameP_refl, decide_true, decide_false, dpos, dneg, beq_self_eq_true, Bool.true_eq_false, Bool.false_eq_true, Int.toNat_natCast, List.length_append, List.length_cons, List.length_nil, ref10_Cyclic_l1, ref10_Cyclic_b1]; rfl
  simp (disch := first | assumption | omega) only [Option.bind_some, Sum.elim_inl, Sum.elim_inr, cond_true, cond_false, Bool.not_true, Bool.not_false, chk_true, lenB_ok_, sameP_refl, decide_true, decide_false, dpos, dneg, beq_self_eq_true, Bool.true_eq_false, Bool.false_eq_true, Int.toNat_natCast, List.length_append, List.length_cons, List.length_nil, ref10_Cyclic, h]
def st (n a b : Nat) : List (List Int) := tab n (fun r => if r < a then fr n r n else if r = a then fr n r b else [])
theorem st_length (n a b : Nat) : (st n a b).length = n := by unfold st; simp
theorem st_row {n a b : Nat} (h : a < n) : row (st n a b) a = fr n a b := by
  unfold st
  rw [row_tab h, if_neg (by omega), if_pos rfl]
theorem st_set {n a b : Nat} (h : a < n) : (st n a b).set a (fr n a b ++ [(((a + b) % n : Nat) : Int)]) = st n a (b + 1) := by
  unfold st
  rw [tab_set]
  refine tab_congr (fun r hr => ?_)
  by_cases e : r = a
  · subst e; rw [if_pos rfl, if_neg (by omega), if_pos rfl, fr_snoc]
  · rw [if_neg e, if_neg e, if_neg e]
theorem st_next {n a : Nat} : st n a n = st n (a + 1) 0 := by
  unfold st
  refine tab_congr (fun r hr => ?_)
  by_cases e : r < a
  · rw [if_pos e, if_pos (by omega)]
  · by_cases e2 : r = a
    · rw [if_neg e, if_pos e2, if_pos (by omega)]
    · rw [if_neg e, if_neg e2, if_neg (by omega)]
      by_cases e3 : r = a + 1
      · rw [if_pos e3]; rfl
      · rw [if_neg e3]
theorem st_zero (k : Nat) : List.replicate k ([] : List Int) = st k 0 0 := by
  rw [replicate_tab]; unfold st
  refine tab_congr (fun r hr => ?_)
  rw [if_neg (by omega)]
  by_cases e : r = 0
  · rw [if_pos e]; rfl
  · rw [if_neg e]
theorem st_end (k : Nat) : st k k 0 = cyc k := by
  unfold st cyc tab2
  exact tab_congr (fun r hr => by rw [if_pos hr]; rfl)
theorem idx_st {n a b : Nat} (h : a < n) : idx (st n a b) (a : Int) = some (fr n a b) := by rw [idx_row (by rw [st_length]; exact h), st_row h]
theorem cyc_run (hn : Fu n) (k : Nat) (h1 : 1 ≤ k) (h2 : k ≤ 120) : monoid_Cyclic n (k : Int) = some (cyc k, 0, ()) := by
  have h : iterN (monoid_Cyclic_l1 n) n ((k : Int), (k : Int), 0, st k 0 0, ()) = some (.inl (cyc k, ())) := by
    refine loop_run hn (fun a => ((k : Int), (k : Int), (a : Int), st k a 0, ())) k (by omega) rfl (fun a ha => ?_) ?_
    · have h : iterN (monoid_Cyclic_l0 n) n ((k : Int), (a : Int), (k : Int), (a : Int), (k : Int), 0, st k a 0, ()) = some (.inl ((k : Int), (k : Int), (a : Int), st k (a + 1) 0, ())) := by
        refine loop_run hn (fun b => ((k : Int), (a : Int), (k : Int), (a : Int), (k : Int), (b : Int), st k a b, ())) k (by omega) rfl (fun b hb => ?_) ?_
        · simp (disch := first | assumption | omega) only [Option.bind_some, Sum.elim_inl, Sum.elim_inr, cond_true, cond_false, Bool.not_true, Bool.not_false, chk_true, lenB_ok_, sameP_refl, decide_true, decide_false, dpos, dneg, beq_self_eq_true, Bool.true_eq_false, Bool.false_eq_true, Int.toNat_natCast, List.length_append, List.length_cons, List.length_nil, monoid_Cyclic_l0, monoid_Cyclic_b0, idx_st, fr_length, up1, sum_cast, tmod_nat, st_set]
        · simp (disch := first | assumption | omega) only [Option.bind_some, Sum.elim_inl, Sum.elim_inr, cond_true, cond_false, Bool.not_true, Bool.not_false, chk_true, lenB_ok_, sameP_refl, decide_true, decide_false, dpos, dneg, beq_self_eq_true, Bool.true_eq_false, Bool.false_eq_true, Int.toNat_natCast, List.length_append, List.length_cons, List.length_nil, monoid_Cyclic_l0, monoid_Cyclic_b0, st_next]
      simp (disch := first | assumption | omega) only [Option.bind_some, Sum.elim_inl, Sum.elim_inr, cond_true, cond_false, Bool.not_true, Bool.not_false, chk_true, lenB_ok_, sameP_refl, decide_true, decide_false, dpos, dneg, beq_self_eq_true, Bool.true_eq_false, Bool.false_eq_true, Int.toNat_natCast, List.length_append, List.length_cons, List.length_nil, monoid_Cyclic_l1, monoid_Cyclic_b1, h, up1]
    · simp (disch := first | assumption | omega) only [Option.bind_some, Sum.elim_inl, Sum.elim_inr, cond_true, cond_false, Bool.not_true, Bool.not_false, chk_true, lenB_ok_, sameP_refl, decide_true, decide_false, dpos, dneg, beq_self_eq_true, Bool.true_eq_false, Bool.false_eq_true, Int.toNat_natCast, List.length_append, List.length_cons, List.length_nil, monoid_Cyclic_l1, monoid_Cyclic_b1, st_end]
  simp (disch := first | assumption | omega) only [Option.bind_some, Sum.elim_inl, Sum.elim_inr, cond_true, cond_false, Bool.not_true, Bool.not_false, chk_true, lenB_ok_, sameP_refl, decide_true, decide_false, dpos, dneg, beq_self_eq_true, Bool.true_eq_false, Bool.false_eq_true, Int.toNat_natCast, List.length_append, List.length_cons, List.length_nil, monoid_Cyclic, List.length_replicate, st_length, st_zero, h]
theorem cyc_bad (k : Int) (h : k < 1 ∨ 120 < k) : monoid_Cyclic n k = some ([], 2, ()) := by
  by_cases h1 : k < 1
  · simp (disch := first | assumption | omega) only [Option.bind_some, Sum.elim_inl, Sum.elim_inr, cond_true, cond_false, Bool.not_true, Bool.not_false, chk_true, lenB_ok_, sameP_refl, decide_true, decide_false, dpos, dneg, beq_self_eq_true, Bool.true_eq_false, Bool.false_eq_true, Int.toNat_natCast, List.length_append, List.length_cons, List.length_nil, monoid_Cyclic]
  · simp (disch := first | assumption | omega) only [Option.bind_some, Sum.elim_inl, Sum.elim_inr, cond_true, cond_false, Bool.not_true, Bool.not_false, chk_true, lenB_ok_, sameP_refl, decide_true, decide_false, dpos, dneg, beq_self_eq_true, Bool.true_eq_false, Bool.false_eq_true, Int.toNat_natCast, List.length_append, List.length_cons, List.length_nil, monoid_Cyclic]
end Go.Proofs.Ytibphkgcdnconaa.V
