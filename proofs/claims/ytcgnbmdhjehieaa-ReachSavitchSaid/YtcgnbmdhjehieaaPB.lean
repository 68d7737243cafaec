/- Graphs: the number of walks as a power of a matrix; what Count comes to. -/
import Derived.Test.YtcgnbmdhjehieaaPA
namespace Go.Proofs.Ytcgnbmdhjehieaa.PureC
open Go Go.RowKit Go.Proofs.Ytcgnbmdhjehieaa.QReach Go.Proofs.YtcgnbmdhjehieaaW.PrintWords Go.Proofs.YtcgnbmdhjehieaaW.PrintLast Go.Proofs.YtcgnbmdhjehieaaW.PrintMore Go.Proofs.YtcgnbmdhjehieaaX
open Classical
set_option linter.unusedVariables false
set_option linter.unusedSimpArgs false

/-! ### powers of a matrix -/
def M (n : Nat) (A : Nat → Nat → Nat) : Nat → Nat → Nat → Nat
  | 0, u, v => if u = v then 1 else 0
  | k + 1, u, v => sumN n (fun w => A u w * M n A k w v)
theorem M_add (n : Nat) (A : Nat → Nat → Nat) (l : Nat) : ∀ (k u v : Nat), u < n → M n A (k + l) u v = sumN n (fun w => M n A k u w * M n A l w v) := by
  intro k
  induction k with
  | zero =>
    intro u v hu
    rw [sumN_one u hu _ (fun i _ hne => by
      show (if u = i then 1 else 0) * _ = 0
      rw [if_neg (fun h => hne h.symm), Nat.zero_mul])]
    simp [M]
  | succ k ih =>
    intro u v hu
    have e : k + 1 + l = (k + l) + 1 := by omega
    rw [e, M]
    rw [sumN_congr (g := fun x => sumN n (fun w => A u x * M n A k x w * M n A l w v)) (fun x hx => by
      rw [ih x v hx, ← sumN_mul]
      exact sumN_congr (fun w _ => by rw [Nat.mul_assoc]))]
    rw [sumN_swap]
    refine sumN_congr (fun w _ => ?_)
    rw [sumN_mul', M]
theorem M_one (n : Nat) (A : Nat → Nat → Nat) {v : Nat} (hv : v < n) (w : Nat) : M n A 1 w v = A w v := by
  show sumN n (fun x => A w x * (if x = v then 1 else 0)) = A w v
  rw [sumN_one v hv _ (fun i _ hne => by simp [hne])]
  simp
theorem M_last (n : Nat) (A : Nat → Nat → Nat) (k u v : Nat) (hu : u < n) (hv : v < n) : M n A (k + 1) u v = sumN n (fun w => M n A k u w * A w v) := by
  rw [M_add n A 1 k u v hu]
  exact sumN_congr (fun w _ => by rw [M_one n A hv])

/-! ### the matrix of a graph -/
def rowN (g : List (List Int)) (u : Nat) : List Nat := (row g u).map Int.toNat
def Ad (g : List (List Int)) (u v : Nat) : Nat := (rowN g u).count v
theorem sum_count (n : Nat) (f : Nat → Nat) : ∀ (xs : List Nat), (∀ x ∈ xs, x < n) → (xs.map f).sum = sumN n (fun w => xs.count w * f w)
  | [], _ => by simp [sumN_zero]
  | x :: xs, h => by
    have hx := h x (List.mem_cons_self)
    rw [List.map_cons, List.sum_cons, sum_count n f xs (fun y hy => h y (List.mem_cons_of_mem _ hy))]
    have : f x = sumN n (fun w => (if x = w then 1 else 0) * f w) := by
      rw [sumN_one x hx _ (fun i _ hne => by rw [if_neg (fun h => hne h.symm), Nat.zero_mul])]; simp
    rw [this, ← sumN_add]
    refine sumN_congr (fun w _ => ?_)
    rw [List.count_cons, Nat.add_mul, Nat.add_comm]
    by_cases e : x = w <;> simp [e]
def C : Nat := 1099511627777
theorem cap_cap (a b : Nat) : min (min a C + min b C) C = min (a + b) C := by omega
theorem sum_cap : ∀ (xs : List Nat) (f : Nat → Nat), min ((xs.map (fun x => min (f x) C)).sum) C = min ((xs.map f).sum) C
  | [], _ => rfl
  | x :: xs, f => by
    simp only [List.map_cons, List.sum_cons]
    have := sum_cap xs f
    omega
theorem GV.ent {g : List (List Int)} (h : GV g) {u i : Nat} (hu : u < g.length) (hi : i < (row g u).length) : 0 ≤ ent g u i ∧ ent g u i < (g.length : Int) := by
  have := h.2.2 u (Nat.zero_le _) hu i (Nat.zero_le _) hi
  exact ⟨this.1, this.2.1⟩
theorem GV.rowN_lt {g : List (List Int)} (h : GV g) {u : Nat} (hu : u < g.length) : ∀ x ∈ rowN g u, x < g.length := by
  intro x hx
  unfold rowN at hx
  obtain ⟨y, hy, rfl⟩ := List.mem_map.1 hx
  obtain ⟨i, hi, he⟩ := List.mem_iff_getElem.1 hy
  have := h.ent hu hi
  unfold PureC.ent at this
  rw [rd_lt hi, he] at this
  omega
theorem sum_row {g : List (List Int)} (h : GV g) {u : Nat} (hu : u < g.length) (f : Nat → Nat) : ((rowN g u).map f).sum = sumN g.length (fun w => Ad g u w * f w) :=
  sum_count _ _ _ (h.rowN_lt hu)
/-- The walks of k steps. -/
def Wk (g : List (List Int)) (k u v : Nat) : Nat := M g.length (Ad g) k u v
theorem Wk_succ {g : List (List Int)} (h : GV g) {u : Nat} (hu : u < g.length) (k v : Nat) : Wk g (k + 1) u v = ((rowN g u).map (fun w => Wk g k w v)).sum := by
  rw [sum_row h hu]; rfl

/-! ### Count -/
def vec (g : List (List Int)) (k t : Nat) : List Int := tab g.length (fun w => ((min (Wk g k w t) C : Nat) : Int))
/-- The sum over the first j elements of row u. -/
def pre (g : List (List Int)) (k t u j : Nat) : Nat := (((rowN g u).take j).map (fun w => min (Wk g k w t) C)).sum
def stv (g : List (List Int)) (k t u j : Nat) : List Int := tab g.length (fun w => ((if w < u then min (pre g k t w (rowN g w).length) C else if w = u then min (pre g k t u j) C else 0 : Nat) : Int))
theorem rowN_len (g : List (List Int)) (u : Nat) : (rowN g u).length = (row g u).length := by simp [rowN]
theorem stv_next (g : List (List Int)) (k t u : Nat) : stv g k t u (row g u).length = stv g k t (u + 1) 0 := by
  refine tab_congr (fun w _ => ?_)
  rw [← rowN_len]
  by_cases h1 : w < u
  · simp [h1, show w < u + 1 by omega]
  · by_cases h2 : w = u
    · subst h2; simp
    · rw [if_neg h1, if_neg h2, if_neg (by omega)]
      by_cases h3 : w = u + 1
      · simp [h3, pre, C]
      · simp [h3]
theorem stv_zero (g : List (List Int)) (k t : Nat) : stv g k t 0 0 = tab g.length (fun _ => 0) := by
  refine tab_congr (fun w _ => ?_)
  rw [if_neg (by omega)]
  by_cases h3 : w = 0
  · simp [h3, pre, C]
  · simp [h3]
theorem stv_last {g : List (List Int)} (h : GV g) (k t : Nat) : stv g k t g.length 0 = vec g (k + 1) t := by
  refine tab_congr (fun w hw => ?_)
  rw [if_pos hw]
  unfold pre
  rw [List.take_length, sum_cap, Wk_succ h hw]
theorem pre_step {g : List (List Int)} (k t u j : Nat) (hj : j < (row g u).length) : pre g k t u (j + 1) = pre g k t u j + min (Wk g k (ent g u j).toNat t) C := by
  unfold pre
  have hl : j < (rowN g u).length := by rw [rowN_len]; exact hj
  rw [List.take_succ_eq_append_getElem hl, List.map_append, List.sum_append]
  congr 1
  have : (rowN g u)[j]'hl = (ent g u j).toNat := by
    unfold ent
    rw [rd_lt hj]
    exact List.getElem_map _
  rw [this]; simp
theorem count_l2 {g : List (List Int)} (hv : GV g) (s : Int) (k t u : Nat) (hu : u < g.length) (K p r) (hl : (row g u).length ≤ 2000)
    (hc : Ev (fun q => reach_Count.l1 q g s (vec g k t) (stv g k t (u + 1) 0) K p g (g.length : Int) ((u + 1 : Nat) : Int)) r) :
    ∀ (d j : Nat), j + d = (row g u).length → Ev (fun q => reach_Count.l2 q g s (vec g k t) (stv g k t u j) (u : Int) K p g (g.length : Int) (u : Int) (row g u) ((row g u).length : Int) (j : Int)) r := by
  have hn := hv.2.1
  intro d
  induction d with
  | zero =>
    intro j hj
    refine Ev.step (fun k => by rw [reach_Count.l2]) ?_
    refine Ev.neg (by omega) ?_
    have e : j = (row g u).length := by omega
    subst e
    rw [stv_next, up1 (by omega)]
    exact hc
  | succ d ih =>
    intro j hj
    have he := hv.ent hu (show j < (row g u).length by omega)
    have hen : rd (row g u) (j : Int) = (((ent g u j).toNat : Nat) : Int) := by have := he.1; unfold ent at this ⊢; omega
    have hlt : (ent g u j).toNat < g.length := by omega
    refine Ev.step (fun k => by rw [reach_Count.l2]) ?_
    refine Ev.pos (by omega) ?_
    refine Ev.pos (by omega) ?_
    refine Ev.pos (by omega) ?_
    refine Ev.pos (by omega) ?_
    refine Ev.pos (by simp [stv]; omega) ?_
    rw [hen]
    refine Ev.pos (by omega) ?_
    refine Ev.pos (by simp [vec]; omega) ?_
    have e1 : rd (stv g k t u j) (u : Int) = ((min (pre g k t u j) C : Nat) : Int) := by
      unfold stv
      rw [rd_tab hu]; simp
    have e2 : rd (vec g k t) (((ent g u j).toNat : Nat) : Int) = ((min (Wk g k (ent g u j).toNat t) C : Nat) : Int) := by
      unfold vec
      rw [rd_tab hlt]
    have e3 : (stv g k t u j).set (u : Int).toNat (mn (wrap64 (rd (stv g k t u j) (u : Int) + rd (vec g k t) (((ent g u j).toNat : Nat) : Int))) 1099511627777) = stv g k t u (j + 1) := by
      rw [e1, e2, w64 (by unfold C; omega) (by unfold C; omega), mn_eq, Int.toNat_natCast]
      unfold stv
      rw [tab_set]
      refine tab_congr (fun w _ => ?_)
      by_cases h2 : w = u
      · subst h2
        rw [if_pos rfl, if_neg (by omega), if_pos rfl, pre_step k t w j (by omega)]
        unfold C; omega
      · rw [if_neg h2, if_neg h2]
        by_cases h1 : w < u
        · rw [if_pos h1, if_pos h1]
        · rw [if_neg h1, if_neg h1, if_neg h2]
    rw [e3, up1 (by omega)]
    exact ih (j + 1) (by omega)
theorem count_l1 {g : List (List Int)} (hv : GV g) (hs : Slim g) (s : Int) (k t : Nat) (K p r)
    (hc : Ev (fun q => reach_Count.l0 q g s (vec g (k + 1) t) K (wrap64 (p + 1))) r) :
    ∀ (d u : Nat), u + d = g.length → Ev (fun q => reach_Count.l1 q g s (vec g k t) (stv g k t u 0) K p g (g.length : Int) (u : Int)) r := by
  have hn := hv.2.1
  intro d
  induction d with
  | zero =>
    intro u hu
    refine Ev.step (fun k => by rw [reach_Count.l1]) ?_
    refine Ev.neg (by omega) ?_
    have e : u = g.length := by omega
    subst e
    rw [stv_last hv]
    exact hc
  | succ d ih =>
    intro u hu
    refine Ev.step (fun k => by rw [reach_Count.l1]) ?_
    refine Ev.pos (by omega) ?_
    refine Ev.pos (by omega) ?_
    refine Ev.pos (by omega) ?_
    rw [rd_row]
    exact count_l2 hv s k t u (by omega) K p r (hs.row (by omega)) (ih (u + 1) (by omega)) (row g u).length 0 (by omega)
/-- What Count returns for k steps from s to t. -/
def countV (g : List (List Int)) (s t k : Nat) : Int × Int := if Wk g k s t ≥ C then (0, 5) else ((Wk g k s t : Int), 0)
theorem count_l0 {g : List (List Int)} (hv : GV g) (hs : Slim g) (s t : Nat) (hst : s < g.length) (K : Nat) (hK : K ≤ 2000000) :
    ∀ (d p : Nat), p + d = K → Ev (fun q => reach_Count.l0 q g (s : Int) (vec g p t) (K : Int) (p : Int)) (countV g s t K) := by
  have hn := hv.2.1
  intro d
  induction d with
  | zero =>
    intro p hp
    have e : p = K := by omega
    subst e
    refine Ev.step (fun k => by rw [reach_Count.l0]) ?_
    refine Ev.neg (by omega) ?_
    refine Ev.pos (by omega) ?_
    refine Ev.pos (by simp [vec]; omega) ?_
    have e2 : rd (vec g p t) (s : Int) = ((min (Wk g p s t) C : Nat) : Int) := by unfold vec; rw [rd_tab hst]
    rw [e2]
    unfold countV
    by_cases h : Wk g p s t ≥ C
    · rw [if_pos h]
      exact Ev.pos (by unfold C at *; omega) (Ev.now _)
    · rw [if_neg h]
      refine Ev.neg (by unfold C at *; omega) (Ev.ret ?_)
      congr 1
      omega
  | succ d ih =>
    intro p hp
    refine Ev.step (fun k => by rw [reach_Count.l0]) ?_
    refine Ev.pos (by omega) ?_
    refine Ev.pos (by omega) ?_
    refine Ev.pos (by omega) ?_
    rw [Int.toNat_natCast, replicate_tab, ← stv_zero g p t]
    refine count_l1 hv hs s p t K p _ ?_ g.length 0 (by omega)
    rw [up1 (by omega)]
    exact ih (p + 1) (by omega)
theorem vec_zero (g : List (List Int)) (t : Nat) : (tab g.length (fun _ => (0 : Int))).set t 1 = vec g 0 t := by
  rw [tab_set]
  refine tab_congr (fun w _ => ?_)
  unfold Wk
  by_cases h : w = t
  · simp [h, M, C]
  · simp [h, M]
theorem nd_iff {g : List (List Int)} {a : Int} : nd g a = true ↔ 0 ≤ a ∧ a < (g.length : Int) := by
  unfold nd; simp
/-- What Count returns for whatever it is asked. -/
def countR (v : Bool) (g : List (List Int)) (s t K : Int) : Int × Int :=
  if askV v g s t = 0 then (if K < 0 ∨ K > 2000000 then (0, 2) else countV g s.toNat t.toNat K.toNat) else (0, askV v g s t)
theorem askV_zero {g : List (List Int)} {a b : Int} (h : askV (decide (GV g)) g a b = 0) : GV g ∧ (0 ≤ a ∧ a < (g.length : Int)) ∧ (0 ≤ b ∧ b < (g.length : Int)) := by
  unfold askV at h
  by_cases hv : GV g
  · rw [if_pos (decide_eq_true hv)] at h
    by_cases h2 : nd g a = true ∧ nd g b = true
    · exact ⟨hv, nd_iff.1 h2.1, nd_iff.1 h2.2⟩
    · rw [if_neg h2] at h; omega
  · rw [if_neg (by simpa using hv)] at h; omega
theorem count_ev {g : List (List Int)} (hs : Slim g) (s t K : Int) : Ev (fun q => reach_Count.f q g s t K) (countR (decide (GV g)) g s t K) := by
  unfold reach_Count.f countR
  refine Ev.bind (asked_ev g hs s t) ?_
  by_cases h0 : askV (decide (GV g)) g s t = 0
  · obtain ⟨hv, h1, h2⟩ := askV_zero h0
    have hn := hv.2.1
    rw [if_pos h0]
    refine Ev.pos h0 ?_
    by_cases hk : K < 0
    · rw [if_pos (Or.inl hk)]
      refine Ev.pos hk ?_
      refine Ev.step (fun k => by rw [reach_Count.j0]) ?_
      exact Ev.pos rfl (Ev.now _)
    refine Ev.neg hk ?_
    refine Ev.step (fun k => by rw [reach_Count.j0]) ?_
    by_cases hk2 : K > 2000000
    · rw [if_pos (Or.inr hk2)]
      exact Ev.pos (decide_eq_true hk2) (Ev.now _)
    refine Ev.neg (by simpa using hk2) ?_
    rw [if_neg (by omega)]
    refine Ev.pos (by omega) ?_
    refine Ev.pos (by omega) ?_
    refine Ev.sb ?_
    refine Ev.pos (by omega) ?_
    refine Ev.pos (by simp; omega) ?_
    rw [Int.toNat_natCast, replicate_tab, vec_zero]
    have := count_l0 hv hs s.toNat t.toNat (by omega) K.toNat (by omega) K.toNat 0 (by omega)
    rw [show ((s.toNat : Nat) : Int) = s by omega, show ((K.toNat : Nat) : Int) = K by omega] at this
    exact this
  · rw [if_neg h0]
    exact Ev.neg h0 (Ev.now _)
end Go.Proofs.Ytcgnbmdhjehieaa.PureC
