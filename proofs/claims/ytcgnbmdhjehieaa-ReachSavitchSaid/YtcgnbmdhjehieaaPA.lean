/- Graphs: what wide, Valid, asked, node, Copy and Count come to. -/
import Derived.Test.YtcgnbmdhjehieaaXPlain
import Derived.Test.YtcgnbmdhjehieaaQReachx1
import Derived.Test.YtcgnbmdhjehieaaQReachx2
import Derived.Test.YtcgnbmdhjehieaaQReachx3
import Derived.Test.YtcgnbmdhjehieaaQReachx4
import Derived.Test.YtcgnbmdhjehieaaXOpn
namespace Go.Proofs.Ytcgnbmdhjehieaa.PureC
open Go Go.RowKit Go.Proofs.Ytcgnbmdhjehieaa.QReach Go.Proofs.YtcgnbmdhjehieaaW.PrintWords Go.Proofs.YtcgnbmdhjehieaaW.PrintLast Go.Proofs.YtcgnbmdhjehieaaW.PrintMore Go.Proofs.YtcgnbmdhjehieaaX
open Classical
set_option linter.unusedVariables false
set_option linter.unusedSimpArgs false

theorem up1 {i : Nat} (h : i < 4611686018427387904) : wrap64 ((i : Int) + 1) = ((i + 1 : Nat) : Int) := by
  rw [w64 (by omega) (by omega)]; omega
/-- Row u. -/
def row (g : List (List Int)) (u : Nat) : List Int := g.getD u []
theorem rd_row (g : List (List Int)) (u : Nat) : rd_L1 g (u : Int) = row g u := by
  unfold rd_L1 row; rw [Int.toNat_natCast]
theorem rd_row' (g : List (List Int)) (u : Int) : rd_L1 g u = row g u.toNat := rfl
theorem row_mem {g : List (List Int)} {u : Nat} (h : u < g.length) : row g u ∈ g := by
  unfold row; rw [List.getD_eq_getElem?_getD, List.getElem?_eq_getElem h]; exact List.getElem_mem h
/-- Element i of row u. -/
def ent (g : List (List Int)) (u i : Nat) : Int := rd (row g u) (i : Int)
def esum (g : List (List Int)) : Nat := sumN g.length (fun u => (row g u).length)

/-! ### wide -/
theorem wide_loop (g : List (List Int)) (hl : ∀ u, u < g.length → (row g u).length * 8 ≤ 140737488351232) (hg : g.length * 24 ≤ 140737488351232) :
    ∀ (d i : Nat), i + d = g.length → ∃ b, Ev (fun k => commodatumlaw17_wide.l0 k g ((g.length + sumN i (fun u => (row g u).length) : Nat) : Int) (i : Int)) b ∧ (b = false → g.length + esum g ≤ 2000) := by
  intro d
  induction d with
  | zero =>
    intro i hi
    have hi' : i = g.length := by omega
    subst hi'
    refine ⟨decide (((g.length + esum g : Nat) : Int) > 2000), ?_, ?_⟩
    · refine Ev.step (fun k => by rw [commodatumlaw17_wide.l0]) ?_
      refine Ev.neg (by omega) ?_
      exact Ev.ret rfl
    · intro h
      have := of_decide_eq_false h
      omega
  | succ d ih =>
    intro i hi
    have hli := hl i (by omega)
    by_cases hn : g.length + sumN i (fun u => (row g u).length) ≤ 2000
    · obtain ⟨b, hb, h⟩ := ih (i + 1) (by omega)
      refine ⟨b, ?_, h⟩
      refine Ev.step (fun k => by rw [commodatumlaw17_wide.l0]) ?_
      refine Ev.pos (by omega) ?_
      refine Ev.pos (by omega) ?_
      refine Ev.pos (by omega) ?_
      rw [rd_row, up1 (by omega), w64 (by omega) (by omega)]
      have e : ((g.length + sumN i (fun u => (row g u).length) : Nat) : Int) + ((row g i).length : Int) = ((g.length + sumN (i + 1) (fun u => (row g u).length) : Nat) : Int) := by
        rw [sumN]; omega
      rw [e]
      exact hb
    · refine ⟨true, ?_, fun h => by cases h⟩
      refine Ev.step (fun k => by rw [commodatumlaw17_wide.l0]) ?_
      refine Ev.pos (by omega) ?_
      refine Ev.neg (by omega) ?_
      exact Ev.ret (decide_eq_true (by omega))
/-- What is known of a graph that isn't wide. -/
def Slim (g : List (List Int)) : Prop := g.length + esum g ≤ 2000
theorem Slim.len {g : List (List Int)} (h : Slim g) : g.length ≤ 2000 := by unfold Slim at h; omega
theorem Slim.row {g : List (List Int)} (h : Slim g) {u : Nat} (hu : u < g.length) : (row g u).length ≤ 2000 := by
  have := sumN_ge u hu (fun u => (PureC.row g u).length)
  unfold Slim esum at h; omega
theorem wide_ev (g : List (List Int)) (hg : WSl 24 (WSl 8 (WInt .i64)) g) : ∃ b, Ev (fun k => commodatumlaw17_wide.f k g) b ∧ (b = false → Slim g) := by
  obtain ⟨b, hb, h⟩ := wide_loop g (fun u hu => (hg.2 _ (row_mem hu)).1) hg.1 g.length 0 (by omega)
  refine ⟨b, ?_, h⟩
  unfold commodatumlaw17_wide.f
  simpa [sumN] using hb

/-! ### Valid -/
/-- Row u is in order from place j on. -/
def RowFrom (g : List (List Int)) (u j : Nat) : Prop := ∀ i, j ≤ i → i < (row g u).length → 0 ≤ ent g u i ∧ ent g u i < (g.length : Int) ∧ (0 < i → ent g u (i - 1) < ent g u i)
def RowsFrom (g : List (List Int)) (u : Nat) : Prop := ∀ v, u ≤ v → v < g.length → RowFrom g v 0
def GV (g : List (List Int)) : Prop := 1 ≤ g.length ∧ g.length ≤ 21 ∧ RowsFrom g 0
theorem RowFrom.step {g : List (List Int)} {u j : Nat} (h0 : 0 ≤ ent g u j ∧ ent g u j < (g.length : Int) ∧ (0 < j → ent g u (j - 1) < ent g u j)) : RowFrom g u j ↔ RowFrom g u (j + 1) := by
  constructor
  · intro h i hi hl; exact h i (by omega) hl
  · intro h i hi hl
    by_cases e : i = j
    · subst e; exact h0
    · exact h i (by omega) hl
theorem not_RowFrom {g : List (List Int)} {u j : Nat} (hj : j < (row g u).length) (h : ¬ (0 ≤ ent g u j ∧ ent g u j < (g.length : Int) ∧ (0 < j → ent g u (j - 1) < ent g u j))) : ¬ RowFrom g u j :=
  fun hr => h (hr j (Nat.le_refl _) hj)
theorem RowsFrom.step {g : List (List Int)} {u : Nat} (h0 : RowFrom g u 0) : RowsFrom g u ↔ RowsFrom g (u + 1) := by
  constructor
  · intro h v hv hl; exact h v (by omega) hl
  · intro h v hv hl
    by_cases e : v = u
    · subst e; exact h0
    · exact h v (by omega) hl

theorem refValid_l1 (g : List (List Int)) (hg : g.length ≤ 2000) (u : Nat) (hu : u < g.length) (hl : (row g u).length ≤ 2000) (r : Bool) (hr : Ev (fun k => commodatumref17_Valid.l0 k g ((u + 1 : Nat) : Int)) r) :
    ∀ (d j : Nat), j + d = (row g u).length → Ev (fun k => commodatumref17_Valid.l1 k g (u : Int) (j : Int)) (if RowFrom g u j then r else false) := by
  intro d
  induction d with
  | zero =>
    intro j hj
    rw [if_pos (show RowFrom g u j from fun i hi hl' => by omega)]
    refine Ev.step (fun k => by rw [commodatumref17_Valid.l1]) ?_
    refine Ev.pos (by omega) ?_
    refine Ev.pos (by omega) ?_
    refine Ev.neg (by rw [rd_row]; omega) ?_
    rw [up1 (by omega)]
    exact hr
  | succ d ih =>
    intro j hj
    have ih' := ih (j + 1) (by omega)
    refine Ev.step (fun k => by rw [commodatumref17_Valid.l1]) ?_
    refine Ev.pos (by omega) ?_
    refine Ev.pos (by omega) ?_
    refine Ev.pos (by rw [rd_row]; omega) ?_
    refine Ev.pos (by omega) ?_
    simp only [rd_row]
    by_cases h1 : rd (row g u) (j : Int) < 0
    · rw [if_neg (not_RowFrom (by omega) (fun h => by have := h.1; unfold ent at this; omega))]
      exact Ev.pos h1 (Ev.now _)
    refine Ev.neg h1 ?_
    by_cases h2 : rd (row g u) (j : Int) ≥ (g.length : Int)
    · rw [if_neg (not_RowFrom (by omega) (fun h => by have := h.2.1; unfold ent at this; omega))]
      exact Ev.pos h2 (Ev.now _)
    refine Ev.neg h2 ?_
    by_cases h3 : 0 < j
    · refine Ev.pos (by omega) ?_
      have e : wrap64 ((j : Int) - 1) = ((j - 1 : Nat) : Int) := by rw [w64 (by omega) (by omega)]; omega
      rw [e]
      refine Ev.pos (by omega) ?_
      refine Ev.pos (by omega) ?_
      by_cases h4 : rd (row g u) (j : Int) ≤ rd (row g u) ((j - 1 : Nat) : Int)
      · rw [if_neg (not_RowFrom (by omega) (fun h => by have := h.2.2 h3; unfold ent at this; omega))]
        exact Ev.pos h4 (Ev.now _)
      refine Ev.neg h4 ?_
      rw [ite_iff (RowFrom.step ⟨by unfold ent; omega, by unfold ent; omega, fun _ => by unfold ent; omega⟩), up1 (by omega)]
      exact ih'
    · refine Ev.neg (by omega) ?_
      rw [ite_iff (RowFrom.step ⟨by unfold ent; omega, by unfold ent; omega, fun h => absurd h h3⟩), up1 (by omega)]
      exact ih'
theorem refValid_l0 (g : List (List Int)) (hg : g.length ≤ 2000) (hl : ∀ u, u < g.length → (row g u).length ≤ 2000) :
    ∀ (d u : Nat), u + d = g.length → Ev (fun k => commodatumref17_Valid.l0 k g (u : Int)) (decide (RowsFrom g u)) := by
  intro d
  induction d with
  | zero =>
    intro u hu
    rw [show decide (RowsFrom g u) = true from decide_eq_true (fun v hv hl' => by omega)]
    refine Ev.step (fun k => by rw [commodatumref17_Valid.l0]) ?_
    exact Ev.neg (by omega) (Ev.now _)
  | succ d ih =>
    intro u hu
    refine Ev.step (fun k => by rw [commodatumref17_Valid.l0]) ?_
    refine Ev.pos (by omega) ?_
    have h := refValid_l1 g hg u (by omega) (hl u (by omega)) _ (ih (u + 1) (by omega)) (row g u).length 0 (by omega)
    by_cases hr : RowFrom g u 0
    · rw [if_pos hr] at h
      rw [show decide (RowsFrom g u) = decide (RowsFrom g (u + 1)) from decide_eq_decide.2 (RowsFrom.step hr)]
      exact h
    · rw [if_neg hr] at h
      rw [show decide (RowsFrom g u) = false from decide_eq_false (fun hh => hr (hh u (Nat.le_refl _) (by omega)))]
      exact h
theorem refValid_ev (g : List (List Int)) (hs : Slim g) : Ev (fun k => commodatumref17_Valid.f k g) (decide (GV g)) := by
  unfold commodatumref17_Valid.f
  by_cases h1 : g.length < 1
  · rw [show decide (GV g) = false from decide_eq_false (fun h => by have := h.1; omega)]
    refine Ev.pos (by omega) ?_
    refine Ev.step (fun k => by rw [commodatumref17_Valid.j0]) ?_
    exact Ev.pos rfl (Ev.now _)
  refine Ev.neg (by omega) ?_
  refine Ev.step (fun k => by rw [commodatumref17_Valid.j0]) ?_
  by_cases h2 : g.length > 21
  · rw [show decide (GV g) = false from decide_eq_false (fun h => by have := h.2.1; omega)]
    exact Ev.pos (decide_eq_true (by omega)) (Ev.now _)
  refine Ev.neg (by simp; omega) ?_
  have h := refValid_l0 g hs.len (fun u hu => hs.row hu) g.length 0 (by omega)
  have e : decide (GV g) = decide (RowsFrom g 0) := decide_eq_decide.2 ⟨fun h => h.2.2, fun h => ⟨by omega, by omega, h⟩⟩
  rw [e]
  exact h

theorem valid_l1 (g : List (List Int)) (hg : g.length ≤ 2000) (u : Nat) (hu : u < g.length) (hl : (row g u).length ≤ 2000) (r : Bool) (hr : Ev (fun k => reach_Valid.l0 k g g (g.length : Int) ((u + 1 : Nat) : Int)) r) :
    ∀ (d j : Nat), j + d = (row g u).length → Ev (fun k => reach_Valid.l1 k g (row g u) g (g.length : Int) (u : Int) (row g u) ((row g u).length : Int) (j : Int)) (if RowFrom g u j then r else false) := by
  intro d
  induction d with
  | zero =>
    intro j hj
    rw [if_pos (show RowFrom g u j from fun i hi hl' => by omega)]
    refine Ev.step (fun k => by rw [reach_Valid.l1]) ?_
    refine Ev.neg (by omega) ?_
    rw [up1 (by omega)]
    exact hr
  | succ d ih =>
    intro j hj
    have ih' := ih (j + 1) (by omega)
    refine Ev.step (fun k => by rw [reach_Valid.l1]) ?_
    refine Ev.pos (by omega) ?_
    refine Ev.pos (by omega) ?_
    refine Ev.pos (by omega) ?_
    by_cases h1 : rd (row g u) (j : Int) < 0
    · rw [if_neg (not_RowFrom (by omega) (fun h => by have := h.1; unfold ent at this; omega))]
      exact Ev.pos h1 (Ev.now _)
    refine Ev.neg h1 ?_
    by_cases h2 : rd (row g u) (j : Int) ≥ (g.length : Int)
    · rw [if_neg (not_RowFrom (by omega) (fun h => by have := h.2.1; unfold ent at this; omega))]
      exact Ev.pos h2 (Ev.now _)
    refine Ev.neg h2 ?_
    by_cases h3 : 0 < j
    · refine Ev.pos (by omega) ?_
      have e : wrap64 ((j : Int) - 1) = ((j - 1 : Nat) : Int) := by rw [w64 (by omega) (by omega)]; omega
      rw [e]
      refine Ev.pos (by omega) ?_
      refine Ev.pos (by omega) ?_
      by_cases h4 : rd (row g u) (j : Int) ≤ rd (row g u) ((j - 1 : Nat) : Int)
      · rw [if_neg (not_RowFrom (by omega) (fun h => by have := h.2.2 h3; unfold ent at this; omega))]
        exact Ev.pos h4 (Ev.now _)
      refine Ev.neg h4 ?_
      rw [ite_iff (RowFrom.step ⟨by unfold ent; omega, by unfold ent; omega, fun _ => by unfold ent; omega⟩), up1 (by omega)]
      exact ih'
    · refine Ev.neg (by omega) ?_
      rw [ite_iff (RowFrom.step ⟨by unfold ent; omega, by unfold ent; omega, fun h => absurd h h3⟩), up1 (by omega)]
      exact ih'
theorem valid_l0 (g : List (List Int)) (hg : g.length ≤ 2000) (hl : ∀ u, u < g.length → (row g u).length ≤ 2000) :
    ∀ (d u : Nat), u + d = g.length → Ev (fun k => reach_Valid.l0 k g g (g.length : Int) (u : Int)) (decide (RowsFrom g u)) := by
  intro d
  induction d with
  | zero =>
    intro u hu
    rw [show decide (RowsFrom g u) = true from decide_eq_true (fun v hv hl' => by omega)]
    refine Ev.step (fun k => by rw [reach_Valid.l0]) ?_
    exact Ev.neg (by omega) (Ev.now _)
  | succ d ih =>
    intro u hu
    refine Ev.step (fun k => by rw [reach_Valid.l0]) ?_
    refine Ev.pos (by omega) ?_
    refine Ev.pos (by omega) ?_
    refine Ev.pos (by omega) ?_
    simp only [rd_row]
    have h := valid_l1 g hg u (by omega) (hl u (by omega)) _ (ih (u + 1) (by omega)) (row g u).length 0 (by omega)
    by_cases hr : RowFrom g u 0
    · rw [if_pos hr] at h
      rw [show decide (RowsFrom g u) = decide (RowsFrom g (u + 1)) from decide_eq_decide.2 (RowsFrom.step hr)]
      exact h
    · rw [if_neg hr] at h
      rw [show decide (RowsFrom g u) = false from decide_eq_false (fun hh => hr (hh u (Nat.le_refl _) (by omega)))]
      exact h
theorem valid_ev (g : List (List Int)) (hs : Slim g) : Ev (fun k => reach_Valid.f k g) (decide (GV g)) := by
  unfold reach_Valid.f
  by_cases h1 : g.length < 1
  · rw [show decide (GV g) = false from decide_eq_false (fun h => by have := h.1; omega)]
    refine Ev.pos (by omega) ?_
    refine Ev.step (fun k => by rw [reach_Valid.j0]) ?_
    exact Ev.pos rfl (Ev.now _)
  refine Ev.neg (by omega) ?_
  refine Ev.step (fun k => by rw [reach_Valid.j0]) ?_
  by_cases h2 : g.length > 21
  · rw [show decide (GV g) = false from decide_eq_false (fun h => by have := h.2.1; omega)]
    exact Ev.pos (decide_eq_true (by omega)) (Ev.now _)
  refine Ev.neg (by simp; omega) ?_
  have h := valid_l0 g hs.len (fun u hu => hs.row hu) g.length 0 (by omega)
  have e : decide (GV g) = decide (RowsFrom g 0) := decide_eq_decide.2 ⟨fun h => h.2.2, fun h => ⟨by omega, by omega, h⟩⟩
  rw [e]
  exact h

/-! ### node, asked, Copy -/
def nd (g : List (List Int)) (a : Int) : Bool := decide (0 ≤ a) && decide (a < (g.length : Int))
theorem node_ev (g : List (List Int)) (a : Int) : commodatumlaw17_node.f g a = some (nd g a) := by
  unfold commodatumlaw17_node.f nd
  by_cases h : a ≥ 0
  · rw [if_pos h, decide_eq_true (show 0 ≤ a from h)]; simp
  · rw [if_neg h, decide_eq_false (show ¬ 0 ≤ a from h)]; simp
def askV (v : Bool) (g : List (List Int)) (a b : Int) : Int := if v = true then (if nd g a = true ∧ nd g b = true then 0 else 2) else 1
theorem asked_ev (g : List (List Int)) (hs : Slim g) (a b : Int) : Ev (fun k => reach_asked.f k g [a, b]) (askV (decide (GV g)) g a b) := by
  unfold reach_asked.f askV
  refine Ev.bind (valid_ev g hs) ?_
  by_cases hv : GV g
  · refine Ev.pos (decide_eq_true hv) ?_
    rw [if_pos (decide_eq_true hv)]
    have e : anyM (fun v => some (decide (v < 0) || decide (v ≥ (g.length : Int)))) [a, b] = some (!(nd g a && nd g b)) := by
      rw [anyM_some (q := fun v => (decide (v < 0) || decide (v ≥ (g.length : Int)))) [a, b] (fun _ _ => rfl)]
      congr 1
      unfold nd
      simp only [List.any_cons, List.any_nil, Bool.or_false]
      by_cases h1 : a < 0 <;> by_cases h2 : a ≥ (g.length : Int) <;> by_cases h3 : b < 0 <;> by_cases h4 : b ≥ (g.length : Int) <;> simp [h1, h2, h3, h4] <;> omega
    rw [e]
    refine Ev.sb ?_
    by_cases h : nd g a = true ∧ nd g b = true
    · rw [if_pos h]
      exact Ev.neg (by simp [h.1, h.2]) (Ev.now _)
    · rw [if_neg h]
      refine Ev.pos ?_ (Ev.now _)
      cases h1 : nd g a <;> cases h2 : nd g b <;> simp_all
  · refine Ev.neg (by simpa using hv) ?_
    rw [if_neg (by simpa using hv)]
    exact Ev.now _
theorem copy_loop (g : List (List Int)) (hg : g.length ≤ 2000) (hl : ∀ u, u < g.length → (row g u).length ≤ 2000) :
    ∀ (d i : Nat), i + d = g.length → Ev (fun k => commodatumlaw17_Copy.l0 k g (g.take i) (i : Int)) g := by
  intro d
  induction d with
  | zero =>
    intro i hi
    refine Ev.step (fun k => by rw [commodatumlaw17_Copy.l0]) ?_
    refine Ev.neg (by omega) (Ev.ret ?_)
    rw [List.take_of_length_le (by omega)]
  | succ d ih =>
    intro i hi
    have := hl i (by omega)
    refine Ev.step (fun k => by rw [commodatumlaw17_Copy.l0]) ?_
    refine Ev.pos (by omega) ?_
    refine Ev.sb ?_
    refine Ev.pos (by omega) ?_
    refine Ev.pos (by rw [rd_row]; simp; omega) ?_
    refine Ev.pos (by rw [List.length_take]; omega) ?_
    have e : g.take i ++ [[] ++ rd_L1 g (i : Int)] = g.take (i + 1) := by
      rw [rd_row, List.nil_append, List.take_succ_eq_append_getElem (by omega)]
      congr 2
      unfold row
      rw [List.getD_eq_getElem?_getD, List.getElem?_eq_getElem (by omega)]; rfl
    rw [e, up1 (by omega)]
    exact ih (i + 1) (by omega)
theorem copy_ev (g : List (List Int)) (hs : Slim g) : Ev (fun k => commodatumlaw17_Copy.f k g) g := by
  unfold commodatumlaw17_Copy.f
  exact copy_loop g hs.len (fun u hu => hs.row hu) g.length 0 (by omega)
theorem awake_ev : Ev (fun k => commodatumlaw17_Awake.f k) true :=
  Ev.of_rounds (fun k => commodatumlaw17_Awake.mono k) ⟨60, by decide +kernel⟩
end Go.Proofs.Ytcgnbmdhjehieaa.PureC
