/- Ch. 10: programs over monoids. -/
import Derived.Test.YtibphkgcdnconaaPVB
namespace Go.Proofs.Ytibphkgcdnconaa.V
open Go
set_option linter.unusedVariables false
set_option linter.all false
variable {n : Nat}
/-! ### membership -/
theorem in_run (hn : Fu n) (l : List Int) (hl : l.length ≤ 1000000) (v : Int) : ref10_In n l v = some (decide (v ∈ l), ()) := by
  classical
  have h : iterN (ref10_In_l0 n) n (l, v, 0, ()) = some (if (∀ i, i < l.length → rd l (i : Int) ≠ v) then (.inr (.inl ())) else (.inl (true, ()))) := by
    have q := loop_find (f := ref10_In_l0 n) hn (fun i => (l, v, (i : Int), ())) l.length (fun i => rd l (i : Int) ≠ v) (d := (l, v, 0, ())) (r := .inr (.inl ())) (r' := .inl (true, ())) (by omega) rfl (fun i hi _ hp => ?_) (fun i hi _ hp => ?_) (fun _ => ?_)
    · rw [q]; congr
    · simp (disch := first | assumption | omega) only [Option.bind_some, Sum.elim_inl, Sum.elim_inr, cond_true, cond_false, Bool.not_true, Bool.not_false, chk_true, lenB_ok_, sameP_refl, decide_true, decide_false, dpos, dneg, beq_self_eq_true, Bool.true_eq_false, Bool.false_eq_true, Int.toNat_natCast, List.length_append, List.length_cons, List.length_nil, ref10_In_l0, ref10_In_b0, idx_rd, up1]
    · simp (disch := first | assumption | omega) only [Option.bind_some, Sum.elim_inl, Sum.elim_inr, cond_true, cond_false, Bool.not_true, Bool.not_false, chk_true, lenB_ok_, sameP_refl, decide_true, decide_false, dpos, dneg, beq_self_eq_true, Bool.true_eq_false, Bool.false_eq_true, Int.toNat_natCast, List.length_append, List.length_cons, List.length_nil, ref10_In_l0, ref10_In_b0, idx_rd, up1]
    · simp (disch := first | assumption | omega) only [Option.bind_some, Sum.elim_inl, Sum.elim_inr, cond_true, cond_false, Bool.not_true, Bool.not_false, chk_true, lenB_ok_, sameP_refl, decide_true, decide_false, dpos, dneg, beq_self_eq_true, Bool.true_eq_false, Bool.false_eq_true, Int.toNat_natCast, List.length_append, List.length_cons, List.length_nil, ref10_In_l0, ref10_In_b0]
  have e : (∀ i, i < l.length → rd l (i : Int) ≠ v) ↔ v ∉ l := by
    constructor
    · intro g hv
      obtain ⟨i, hi, e⟩ := List.getElem_of_mem hv
      refine g i hi ?_
      unfold rd; rw [Int.toNat_natCast, List.getD_eq_getElem?_getD, List.getElem?_eq_getElem hi]; exact e
    · intro g i hi e
      refine g ?_
      rw [← e]; unfold rd; rw [Int.toNat_natCast, List.getD_eq_getElem?_getD, List.getElem?_eq_getElem hi]; exact List.getElem_mem hi
  by_cases c : v ∈ l
  · rw [if_neg (fun g => (e.1 g) c)] at h
    simp (disch := first | assumption | omega) only [Option.bind_some, Sum.elim_inl, Sum.elim_inr, cond_true, cond_false, Bool.not_true, Bool.not_false, chk_true, lenB_ok_, sameP_refl, decide_true, decide_false, dpos, dneg, beq_self_eq_true, Bool.true_eq_false, Bool.false_eq_true, Int.toNat_natCast, List.length_append, List.length_cons, List.length_nil, ref10_In, h, c]
  · rw [if_pos (e.2 c)] at h
    simp (disch := first | assumption | omega) only [Option.bind_some, Sum.elim_inl, Sum.elim_inr, cond_true, cond_false, Bool.not_true, Bool.not_false, chk_true, lenB_ok_, sameP_refl, decide_true, decide_false, dpos, dneg, beq_self_eq_true, Bool.true_eq_false, Bool.false_eq_true, Int.toNat_natCast, List.length_append, List.length_cons, List.length_nil, ref10_In, h, c]
/-! ### inputs -/
def bitOf (i : Int) (j : Nat) : Bool := decide ((IntKind.i64.wrap ((BitVec.ofInt IntKind.i64.bits (Int.fdiv i (2 ^ (min j IntKind.i64.bits))) &&& BitVec.ofInt IntKind.i64.bits (1 : Int)).toNat)) = (1 : Int))
def inp (i : Int) (n : Nat) : List Bool := tab n (bitOf i)
theorem inp_length (i : Int) (n : Nat) : (inp i n).length = n := by unfold inp; simp
def inpTo (i : Int) (n j : Nat) : List Bool := tab n (fun q => if q < j then bitOf i q else false)
theorem inpTo_length (i : Int) (n j : Nat) : (inpTo i n j).length = n := by unfold inpTo; simp
theorem inpTo_set (i : Int) (n j : Nat) : (inpTo i n j).set j (bitOf i j) = inpTo i n (j + 1) := by
  unfold inpTo
  rw [tab_set]
  refine tab_congr (fun r hr => ?_)
  by_cases e : r = j
  · subst e; rw [if_pos rfl, if_pos (by omega)]
  · by_cases e2 : r < j
    · rw [if_neg e, if_pos e2, if_pos (by omega)]
    · rw [if_neg e, if_neg e2, if_neg (by omega)]
theorem bits_run (hn : Fu n) (i : Int) (N : Nat) (hN : N ≤ 1000) : ref09_Bits n i (N : Int) = some (inp i N, ()) := by
  have h : iterN (ref09_Bits_l0 n) n (i, (N : Int), 0, List.replicate N false, ()) = some (.inl (inp i N, ())) := by
    refine loop_run hn (fun j => (i, (N : Int), (j : Int), inpTo i N j, ())) N (by omega) (by rw [replicate_tab]; rfl) (fun j hj => ?_) ?_
    · have e := idx_bt (l := inpTo i N j) (i := j) (by rw [inpTo_length]; exact hj)
      simp (disch := first | assumption | omega) only [Option.bind_some, Sum.elim_inl, Sum.elim_inr, cond_true, cond_false, Bool.not_true, Bool.not_false, chk_true, lenB_ok_, sameP_refl, decide_true, decide_false, dpos, dneg, beq_self_eq_true, Bool.true_eq_false, Bool.false_eq_true, Int.toNat_natCast, List.length_append, List.length_cons, List.length_nil, ref09_Bits_l0, ref09_Bits_b0, e, up1]
      rw [← inpTo_set]; rfl
    · simp (disch := first | assumption | omega) only [Option.bind_some, Sum.elim_inl, Sum.elim_inr, cond_true, cond_false, Bool.not_true, Bool.not_false, chk_true, lenB_ok_, sameP_refl, decide_true, decide_false, dpos, dneg, beq_self_eq_true, Bool.true_eq_false, Bool.false_eq_true, Int.toNat_natCast, List.length_append, List.length_cons, List.length_nil, ref09_Bits_l0, ref09_Bits_b0]
      unfold inpTo inp
      rw [tab_congr (fun j hj => if_pos hj)]
  simp (disch := first | assumption | omega) only [Option.bind_some, Sum.elim_inl, Sum.elim_inr, cond_true, cond_false, Bool.not_true, Bool.not_false, chk_true, lenB_ok_, sameP_refl, decide_true, decide_false, dpos, dneg, beq_self_eq_true, Bool.true_eq_false, Bool.false_eq_true, Int.toNat_natCast, List.length_append, List.length_cons, List.length_nil, ref09_Bits, h]
/-! ### products -/
def insAt (l : List Ins) (i : Nat) : Ins := l.getD i (0, 0, 0, ())
theorem idx_ins {l : List Ins} {i : Nat} (h : i < l.length) : idx l (i : Int) = some (insAt l i) := idx_nat _ h
def InsV (e I : Nat) (s : Ins) : Prop := ∃ a z o : Nat, s = ((a : Int), (z : Int), (o : Int), ()) ∧ a < I ∧ z < e ∧ o < e
def pr (m : List (List Int)) (ins : List Ins) (x : List Bool) : Nat → Nat
  | 0 => 0
  | i + 1 => mu m (pr m ins x i) (if bt x (insAt ins i).1.toNat = true then (insAt ins i).2.2.1.toNat else (insAt ins i).2.1.toNat)
theorem pr_lt {m : List (List Int)} (h : TV m) {ins : List Ins} {x : List Bool} (hp : ∀ i, i < ins.length → InsV m.length x.length (insAt ins i)) : ∀ i, i ≤ ins.length → pr m ins x i < m.length
  | 0, _ => h.1
  | i + 1, hi => by
    obtain ⟨a, z, o, e, ha, hz, ho⟩ := hp i (by omega)
    unfold pr
    refine h.lt (pr_lt h hp i (by omega)) ?_
    rw [e]
    simp only [Int.toNat_natCast]
    split
    · exact ho
    · exact hz
theorem product_run (hn : Fu n) {m : List (List Int)} (h : TV m) {ins : List Ins} {x : List Bool} (hl : ins.length ≤ 1000000) (hp : ∀ i, i < ins.length → InsV m.length x.length (insAt ins i)) (I : Int) (yes : List Int) : ref10_Product n m (I, ins, yes, ()) x = some ((pr m ins x ins.length : Int), ()) := by
  have g : iterN (ref10_Product_l0 n) n (m, x, (I, ins, yes, ()), 0, 0, ()) = some (.inl ((pr m ins x ins.length : Int), ())) := by
    refine loop_run hn (fun i => (m, x, (I, ins, yes, ()), (pr m ins x i : Int), (i : Int), ())) ins.length (by omega) rfl (fun i hi => ?_) ?_
    · obtain ⟨a, z, o, e, ha, hz, ho⟩ := hp i hi
      have h1 := pr_lt h hp i (by omega)
      have h2 := h.len h1
      cases c : bt x a <;> simp (disch := first | assumption | omega) only [Option.bind_some, Sum.elim_inl, Sum.elim_inr, cond_true, cond_false, Bool.not_true, Bool.not_false, chk_true, lenB_ok_, sameP_refl, decide_true, decide_false, dpos, dneg, beq_self_eq_true, Bool.true_eq_false, Bool.false_eq_true, Int.toNat_natCast, List.length_append, List.length_cons, List.length_nil, ref10_Product_l0, ref10_Product_b0, idx_ins, e, idx_bt, c, idx_row, idx_rd, up1, h.at h1 hz, h.at h1 ho, pr, reduceIte]
    · simp (disch := first | assumption | omega) only [Option.bind_some, Sum.elim_inl, Sum.elim_inr, cond_true, cond_false, Bool.not_true, Bool.not_false, chk_true, lenB_ok_, sameP_refl, decide_true, decide_false, dpos, dneg, beq_self_eq_true, Bool.true_eq_false, Bool.false_eq_true, Int.toNat_natCast, List.length_append, List.length_cons, List.length_nil, ref10_Product_l0, ref10_Product_b0]
  simp (disch := first | assumption | omega) only [Option.bind_some, Sum.elim_inl, Sum.elim_inr, cond_true, cond_false, Bool.not_true, Bool.not_false, chk_true, lenB_ok_, sameP_refl, decide_true, decide_false, dpos, dneg, beq_self_eq_true, Bool.true_eq_false, Bool.false_eq_true, Int.toNat_natCast, List.length_append, List.length_cons, List.length_nil, ref10_Product, g]
theorem accepts_run (hn : Fu n) {m : List (List Int)} (h : TV m) {ins : List Ins} {x : List Bool} (hl : ins.length ≤ 1000000) (hp : ∀ i, i < ins.length → InsV m.length x.length (insAt ins i)) (I : Int) (yes : List Int) (hy : yes.length ≤ 1000000) :
    ref10_Accepts n m (I, ins, yes, ()) x = some (decide ((pr m ins x ins.length : Int) ∈ yes), ()) := by
  simp (disch := first | assumption | omega) only [Option.bind_some, Sum.elim_inl, Sum.elim_inr, cond_true, cond_false, Bool.not_true, Bool.not_false, chk_true, lenB_ok_, sameP_refl, decide_true, decide_false, dpos, dneg, beq_self_eq_true, Bool.true_eq_false, Bool.false_eq_true, Int.toNat_natCast, List.length_append, List.length_cons, List.length_nil, ref10_Accepts, product_run hn h hl hp, in_run hn yes hy]
/-! ### the reference's ValidProgram, where it holds -/
theorem refVP_run (hn : Fu n) {m : List (List Int)} (hm : 1 ≤ m.length) {ins : List Ins} (hl : ins.length ≤ 200000) {I : Nat} (hI : I ≤ 16) (hp : ∀ i, i < ins.length → InsV m.length I (insAt ins i)) : ref10_ValidProgram n m ((I : Int), ins, [0], ()) = some (true, ()) := by
  have g : iterN (ref10_ValidProgram_l0 n) n (((I : Int), ins, [0], ()), (m.length : Int), 0, ()) = some (.inr (.inl (((I : Int), ins, [0], ()), (m.length : Int), ()))) := by
    refine loop_run hn (fun i => (((I : Int), ins, [0], ()), (m.length : Int), (i : Int), ())) ins.length (by omega) rfl (fun i hi => ?_) ?_
    · obtain ⟨a, z, o, e, ha, hz, ho⟩ := hp i hi
      simp (disch := first | assumption | omega) only [Option.bind_some, Sum.elim_inl, Sum.elim_inr, cond_true, cond_false, Bool.not_true, Bool.not_false, chk_true, lenB_ok_, sameP_refl, decide_true, decide_false, dpos, dneg, beq_self_eq_true, Bool.true_eq_false, Bool.false_eq_true, Int.toNat_natCast, List.length_append, List.length_cons, List.length_nil, ref10_ValidProgram_l0, ref10_ValidProgram_b0, idx_ins, e, up1]
    · simp (disch := first | assumption | omega) only [Option.bind_some, Sum.elim_inl, Sum.elim_inr, cond_true, cond_false, Bool.not_true, Bool.not_false, chk_true, lenB_ok_, sameP_refl, decide_true, decide_false, dpos, dneg, beq_self_eq_true, Bool.true_eq_false, Bool.false_eq_true, Int.toNat_natCast, List.length_append, List.length_cons, List.length_nil, ref10_ValidProgram_l0, ref10_ValidProgram_b0]
  have g1 : iterN (ref10_ValidProgram_l1 n) n (((I : Int), ins, [0], ()), (m.length : Int), 0, ()) = some (.inr (.inl ())) := by
    refine loop_run hn (fun i => (((I : Int), ins, [0], ()), (m.length : Int), (i : Int), ())) 1 (by omega) rfl (fun i hi => ?_) ?_
    · obtain rfl : i = 0 := by omega
      have e : idx [(0 : Int)] ((0 : Nat) : Int) = some 0 := rfl
      simp (disch := first | assumption | omega) only [Option.bind_some, Sum.elim_inl, Sum.elim_inr, cond_true, cond_false, Bool.not_true, Bool.not_false, chk_true, lenB_ok_, sameP_refl, decide_true, decide_false, dpos, dneg, beq_self_eq_true, Bool.true_eq_false, Bool.false_eq_true, Int.toNat_natCast, List.length_append, List.length_cons, List.length_nil, ref10_ValidProgram_l1, ref10_ValidProgram_b1, e, up1]
    · simp (disch := first | assumption | omega) only [Option.bind_some, Sum.elim_inl, Sum.elim_inr, cond_true, cond_false, Bool.not_true, Bool.not_false, chk_true, lenB_ok_, sameP_refl, decide_true, decide_false, dpos, dneg, beq_self_eq_true, Bool.true_eq_false, Bool.false_eq_true, Int.toNat_natCast, List.length_append, List.length_cons, List.length_nil, ref10_ValidProgram_l1, ref10_ValidProgram_b1]
  simp (disch := first | assumption | omega) only [Option.bind_some, Sum.elim_inl, Sum.elim_inr, cond_true, cond_false, Bool.not_true, Bool.not_false, chk_true, lenB_ok_, sameP_refl, decide_true, decide_false, dpos, dneg, beq_self_eq_true, Bool.true_eq_false, Bool.false_eq_true, Int.toNat_natCast, List.length_append, List.length_cons, List.length_nil, ref10_ValidProgram, g, g1]
/-! ### the programs' products -/
def two : List (List Int) := [[0, 1], [1, 1]]
theorem two_tab : two = tab2 2 (fun a b => if a + b = 0 then 0 else 1) := by decide
theorem two_TV : TV two := by
  rw [two_tab]
  exact tab2_TV (by omega) (by omega) (fun a b _ _ => by split <;> omega)
theorem cyc_TV {k : Nat} (h1 : 1 ≤ k) (h2 : k ≤ 120) : TV (cyc k) := tab2_TV h1 h2 (fun a b _ _ => Nat.mod_lt _ (by omega))
theorem cyc_length (k : Nat) : (cyc k).length = k := tab2_length _ _
theorem insOf_at {n v : Nat} {z o : Int} (h : v < n) : insAt (insOf n z o) v = ((v : Int), z, o, ()) := tab_getD h
theorem pr_cyc {n k : Nat} (h1 : 1 ≤ k) (x : List Bool) : ∀ i, i ≤ n → pr (cyc k) (insOf n 0 (Int.tmod 1 (k : Int))) x i = onesN x i % k := by
  intro i
  have e1 : (Int.tmod 1 (k : Int)).toNat = 1 % k := by
    rw [show (1 : Int) = ((1 : Nat) : Int) from rfl, tmod_nat, Int.toNat_natCast]
  induction i with
  | zero => intro _; simp [pr, onesN]
  | succ i ih =>
    intro hi
    unfold pr onesN
    rw [ih (by omega), insOf_at (by omega)]
    simp only [Int.toNat_natCast]
    have hlt : onesN x i % k < k := Nat.mod_lt _ (by omega)
    by_cases c : bt x i = true
    · rw [if_pos c, if_pos c, e1]
      unfold cyc
      rw [tab2_mu hlt (Nat.mod_lt _ (by omega)), ← Nat.add_mod]
    · rw [if_neg c, if_neg c, Nat.add_zero]
      unfold cyc
      rw [show (0 : Int).toNat = 0 from rfl, tab2_mu hlt (by omega), Nat.add_zero, Nat.mod_mod]
theorem pr_two {n : Nat} (x : List Bool) : ∀ i, i ≤ n → pr two (insOf n 1 0) x i = if onesN x i = i then 0 else 1 := by
  intro i
  induction i with
  | zero => intro _; simp [pr, onesN]
  | succ i ih =>
    intro hi
    have hle := onesN_le x i
    unfold pr onesN
    rw [ih (by omega), insOf_at (by omega)]
    simp only [Int.toNat_natCast]
    rw [two_tab]
    by_cases c : bt x i = true
    · rw [if_pos c, if_pos c, show (0 : Int).toNat = 0 from rfl, tab2_mu (by split <;> omega) (by omega)]
      by_cases e : onesN x i = i
      · rw [if_pos e, if_pos (by omega), if_pos (by omega)]
      · rw [if_neg e, if_neg (by omega), if_neg (by omega)]
    · rw [if_neg c, if_neg c, show (1 : Int).toNat = 1 from rfl, tab2_mu (by split <;> omega) (by omega), if_neg (by omega), if_neg (by omega)]
/-! ### alive -/
theorem awake_run (hn : Fu n) : law10_Awake n = some (true, ()) := by
  obtain ⟨m, rfl⟩ : ∃ m, n = m + 60 := ⟨n - 60, by have := hn.le (m := 60) (by decide); omega⟩
  kernel_rfl
end Go.Proofs.Ytibphkgcdnconaa.V
