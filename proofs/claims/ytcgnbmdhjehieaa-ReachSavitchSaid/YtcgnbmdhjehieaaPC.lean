/- Graphs: what is reached within a number of steps; what Edge and Within come to. -/
import Derived.Test.YtcgnbmdhjehieaaPB
import Derived.Test.YtcgnbmdhjehieaaQReachx6
namespace Go.Proofs.Ytcgnbmdhjehieaa.PureC
open Go Go.RowKit Go.Proofs.Ytcgnbmdhjehieaa.QReach Go.Proofs.YtcgnbmdhjehieaaW.PrintWords Go.Proofs.YtcgnbmdhjehieaaW.PrintLast Go.Proofs.YtcgnbmdhjehieaaW.PrintMore Go.Proofs.YtcgnbmdhjehieaaX
open Classical
set_option linter.unusedVariables false
set_option linter.unusedSimpArgs false

/-- There is an edge from u to v. -/
def E (g : List (List Int)) (u v : Nat) : Prop := ∃ i, i < (row g u).length ∧ ent g u i = (v : Int)
theorem edge_loop (g : List (List Int)) (u v : Nat) (hu : u < g.length) (hg : g.length ≤ 2000) (hl : (row g u).length ≤ 2000) :
    ∀ (d j : Nat), j + d = (row g u).length → Ev (fun k => commodatumref17_Edge.l0 k g (u : Int) (v : Int) (j : Int)) (decide (∃ i, j ≤ i ∧ i < (row g u).length ∧ ent g u i = (v : Int))) := by
  intro d
  induction d with
  | zero =>
    intro j hj
    rw [decide_eq_false (fun ⟨i, h1, h2, _⟩ => by omega)]
    refine Ev.step (fun k => by rw [commodatumref17_Edge.l0]) ?_
    refine Ev.pos (by omega) ?_
    refine Ev.pos (by omega) ?_
    exact Ev.neg (by rw [rd_row]; omega) (Ev.now _)
  | succ d ih =>
    intro j hj
    refine Ev.step (fun k => by rw [commodatumref17_Edge.l0]) ?_
    refine Ev.pos (by omega) ?_
    refine Ev.pos (by omega) ?_
    refine Ev.pos (by rw [rd_row]; omega) ?_
    refine Ev.pos (by omega) ?_
    rw [rd_row]
    by_cases h : rd (row g u) (j : Int) = (v : Int)
    · rw [decide_eq_true ⟨j, Nat.le_refl _, by omega, h⟩]
      exact Ev.pos h (Ev.now _)
    · refine Ev.neg h ?_
      rw [up1 (by omega)]
      have e : decide (∃ i, j ≤ i ∧ i < (row g u).length ∧ ent g u i = (v : Int)) = decide (∃ i, j + 1 ≤ i ∧ i < (row g u).length ∧ ent g u i = (v : Int)) := by
        refine decide_eq_decide.2 ⟨fun ⟨i, h1, h2, h3⟩ => ⟨i, ?_, h2, h3⟩, fun ⟨i, h1, h2, h3⟩ => ⟨i, by omega, h2, h3⟩⟩
        by_cases e : i = j
        · subst e; exact absurd h3 h
        · omega
      rw [e]
      exact ih (j + 1) (by omega)
theorem edge_ev {g : List (List Int)} (hs : Slim g) {u v : Nat} (hu : u < g.length) : Ev (fun k => commodatumref17_Edge.f k g (u : Int) (v : Int)) (decide (E g u v)) := by
  unfold commodatumref17_Edge.f
  have := edge_loop g u v hu hs.len (hs.row hu) (row g u).length 0 (by omega)
  have e : decide (E g u v) = decide (∃ i, 0 ≤ i ∧ i < (row g u).length ∧ ent g u i = (v : Int)) :=
    decide_eq_decide.2 ⟨fun ⟨i, h1, h2⟩ => ⟨i, Nat.zero_le _, h1, h2⟩, fun ⟨i, _, h1, h2⟩ => ⟨i, h1, h2⟩⟩
  rw [e]; exact this
theorem E_lt {g : List (List Int)} (hv : GV g) {u v : Nat} (hu : u < g.length) (h : E g u v) : v < g.length := by
  obtain ⟨i, hi, he⟩ := h
  have := hv.ent hu hi
  omega

/-! ### within a number of steps -/
def R (g : List (List Int)) (s : Nat) : Nat → Nat → Prop
  | 0, v => v = s
  | j + 1, v => R g s j v ∨ ∃ u, u < g.length ∧ R g s j u ∧ E g u v
theorem R_mono {g : List (List Int)} {s j v : Nat} (h : R g s j v) : ∀ i, R g s (j + i) v
  | 0 => h
  | i + 1 => Or.inl (R_mono h i)
theorem R_lt {g : List (List Int)} (hv : GV g) {s : Nat} (hs : s < g.length) : ∀ (j v : Nat), R g s j v → v < g.length
  | 0, v, h => by have : v = s := h; omega
  | j + 1, v, h => by
    rcases h with h | ⟨u, hu, _, he⟩
    · exact R_lt hv hs j v h
    · exact E_lt hv hu he
/-- In the middle of a round: what is marked when row u has been gone through up to v. -/
def RS (g : List (List Int)) (s j u v x : Nat) : Prop := R g s j x ∨ (∃ w, w < u ∧ R g s j w ∧ E g w x) ∨ (x < v ∧ R g s j u ∧ E g u x)
theorem RS_row {g : List (List Int)} {s j u x : Nat} (hx : x < g.length) : RS g s j u g.length x ↔ RS g s j (u + 1) 0 x := by
  unfold RS
  constructor
  · rintro (h | ⟨w, h1, h2, h3⟩ | ⟨_, h2, h3⟩)
    · exact Or.inl h
    · exact Or.inr (Or.inl ⟨w, by omega, h2, h3⟩)
    · exact Or.inr (Or.inl ⟨u, by omega, h2, h3⟩)
  · rintro (h | ⟨w, h1, h2, h3⟩ | ⟨h1, _⟩)
    · exact Or.inl h
    · by_cases e : w = u
      · subst e; exact Or.inr (Or.inr ⟨hx, h2, h3⟩)
      · exact Or.inr (Or.inl ⟨w, by omega, h2, h3⟩)
    · omega
theorem RS_skip {g : List (List Int)} {s j u v x : Nat} (h : ¬ R g s j u) : RS g s j u v x ↔ RS g s j (u + 1) 0 x := by
  unfold RS
  constructor
  · rintro (h1 | ⟨w, h1, h2, h3⟩ | ⟨_, h2, h3⟩)
    · exact Or.inl h1
    · exact Or.inr (Or.inl ⟨w, by omega, h2, h3⟩)
    · exact absurd h2 h
  · rintro (h1 | ⟨w, h1, h2, h3⟩ | ⟨h1, _⟩)
    · exact Or.inl h1
    · by_cases e : w = u
      · subst e; exact absurd h2 h
      · exact Or.inr (Or.inl ⟨w, by omega, h2, h3⟩)
    · omega
theorem RS_first {g : List (List Int)} {s j x : Nat} : RS g s j 0 0 x ↔ R g s j x := by
  unfold RS
  constructor
  · rintro (h | ⟨w, h1, _⟩ | ⟨h1, _⟩)
    · exact h
    · omega
    · omega
  · exact Or.inl
theorem RS_last {g : List (List Int)} {s j x : Nat} : RS g s j g.length 0 x ↔ R g s (j + 1) x := by
  unfold RS
  constructor
  · rintro (h | ⟨w, h1, h2, h3⟩ | ⟨h1, _⟩)
    · exact Or.inl h
    · exact Or.inr ⟨w, h1, h2, h3⟩
    · omega
  · rintro (h | ⟨w, h1, h2, h3⟩)
    · exact Or.inl h
    · exact Or.inr (Or.inl ⟨w, h1, h2, h3⟩)
theorem RS_next {g : List (List Int)} {s j u v x : Nat} (hr : R g s j u) : RS g s j u (v + 1) x ↔ (if x = v then RS g s j u v v ∨ E g u v else RS g s j u v x) := by
  by_cases e : x = v
  · subst e
    rw [if_pos rfl]
    unfold RS
    constructor
    · rintro (h | h | ⟨_, _, h⟩)
      · exact Or.inl (Or.inl h)
      · exact Or.inl (Or.inr (Or.inl h))
      · exact Or.inr h
    · rintro ((h | h | ⟨h, _⟩) | h)
      · exact Or.inl h
      · exact Or.inr (Or.inl h)
      · omega
      · exact Or.inr (Or.inr ⟨by omega, hr, h⟩)
  · rw [if_neg e]
    unfold RS
    constructor
    · rintro (h | h | ⟨h1, h2, h3⟩)
      · exact Or.inl h
      · exact Or.inr (Or.inl h)
      · exact Or.inr (Or.inr ⟨by omega, h2, h3⟩)
    · rintro (h | h | ⟨h1, h2, h3⟩)
      · exact Or.inl h
      · exact Or.inr (Or.inl h)
      · exact Or.inr (Or.inr ⟨by omega, h2, h3⟩)
/-- What a round of Within lists, as Bools. -/
theorem within_l2 {g : List (List Int)} (hv : GV g) (hs : Slim g) (s j u : Nat) (hu : u < g.length) (K : Int) (r : List Bool)
    (hc : Ev (fun k => commodatumref17_Within.l1 k g K (tab g.length (fun x => decide (R g s j x))) (tab g.length (fun x => decide (RS g s j (u + 1) 0 x))) ((u + 1 : Nat) : Int)) r) :
    ∀ (d v : Nat), v + d = g.length → Ev (fun k => commodatumref17_Within.l2 k g K (tab g.length (fun x => decide (R g s j x))) (tab g.length (fun x => decide (RS g s j u v x))) (u : Int) (v : Int)) r := by
  have hn := hv.2.1
  intro d
  induction d with
  | zero =>
    intro v hd
    have e : v = g.length := by omega
    subst e
    refine Ev.step (fun k => by rw [commodatumref17_Within.l2]) ?_
    refine Ev.neg (by omega) ?_
    rw [up1 (by omega), tab_congr (fun x hx => decide_eq_decide.2 (RS_row hx))]
    exact hc
  | succ d ih =>
    intro v hd
    refine Ev.step (fun k => by rw [commodatumref17_Within.l2]) ?_
    refine Ev.pos (by omega) ?_
    refine Ev.pos (by omega) ?_
    refine Ev.pos (by simp; omega) ?_
    rw [rdOf_tab hu]
    by_cases hr : R g s j u
    · refine Ev.pos (decide_eq_true hr) ?_
      refine Ev.pos (by omega) ?_
      refine Ev.pos (by simp; omega) ?_
      rw [rdOf_tab (by omega), Int.toNat_natCast]
      have ih' := ih (v + 1) (by omega)
      by_cases hm : RS g s j u v v
      · refine Ev.pos (decide_eq_true hm) ?_
        rw [tab_set, up1 (by omega)]
        rw [show tab g.length (fun x => if x = v then true else decide (RS g s j u v x)) = tab g.length (fun x => decide (RS g s j u (v + 1) x)) from tab_congr (fun x _ => by
          have hx := RS_next (v := v) (x := x) hr
          by_cases e : x = v
          · rw [if_pos e] at hx ⊢
            exact (decide_eq_true (hx.2 (Or.inl hm))).symm
          · rw [if_neg e] at hx ⊢
            exact decide_eq_decide.2 hx.symm)]
        exact ih'
      · refine Ev.neg (by simpa using hm) ?_
        refine Ev.bind (edge_ev hs hu) ?_
        rw [tab_set, up1 (by omega)]
        rw [show tab g.length (fun x => if x = v then decide (E g u v) else decide (RS g s j u v x)) = tab g.length (fun x => decide (RS g s j u (v + 1) x)) from tab_congr (fun x _ => by
          have hx := RS_next (v := v) (x := x) hr
          by_cases e : x = v
          · rw [if_pos e] at hx ⊢
            exact decide_eq_decide.2 ⟨fun h => hx.2 (Or.inr h), fun h => (hx.1 h).resolve_left hm⟩
          · rw [if_neg e] at hx ⊢
            exact decide_eq_decide.2 hx.symm)]
        exact ih'
    · refine Ev.neg (by simpa using hr) ?_
      rw [up1 (by omega), tab_congr (fun x hx => decide_eq_decide.2 (RS_skip (v := v) (x := x) hr))]
      exact hc
theorem within_l1 {g : List (List Int)} (hv : GV g) (hs : Slim g) (s j : Nat) (K : Int) (r : List Bool)
    (hc : Ev (fun k => commodatumref17_Within.l0 k g (wrap64 (K - 1)) (tab g.length (fun x => decide (R g s (j + 1) x)))) r) :
    ∀ (d u : Nat), u + d = g.length → Ev (fun k => commodatumref17_Within.l1 k g K (tab g.length (fun x => decide (R g s j x))) (tab g.length (fun x => decide (RS g s j u 0 x))) (u : Int)) r := by
  intro d
  induction d with
  | zero =>
    intro u hd
    have e : u = g.length := by omega
    subst e
    refine Ev.step (fun k => by rw [commodatumref17_Within.l1]) ?_
    refine Ev.neg (by omega) ?_
    rw [tab_congr (fun x hx => decide_eq_decide.2 (RS_last (g := g) (s := s) (j := j) (x := x)))]
    exact hc
  | succ d ih =>
    intro u hd
    refine Ev.step (fun k => by rw [commodatumref17_Within.l1]) ?_
    refine Ev.pos (by omega) ?_
    exact within_l2 hv hs s j u (by omega) K r (ih (u + 1) (by omega)) g.length 0 (by omega)
theorem within_l0 {g : List (List Int)} (hv : GV g) (hs : Slim g) (s : Nat) : ∀ (d j : Nat), d ≤ 4611686018427387904 →
    Ev (fun k => commodatumref17_Within.l0 k g (d : Int) (tab g.length (fun x => decide (R g s j x)))) (tab g.length (fun x => decide (R g s (j + d) x))) := by
  have hn := hv.2.1
  intro d
  induction d with
  | zero =>
    intro j _
    refine Ev.step (fun k => by rw [commodatumref17_Within.l0]) ?_
    exact Ev.neg (by omega) (Ev.now _)
  | succ d ih =>
    intro j hd
    refine Ev.step (fun k => by rw [commodatumref17_Within.l0]) ?_
    refine Ev.pos (by omega) ?_
    refine Ev.sb ?_
    refine Ev.pos (by simp; omega) ?_
    rw [List.nil_append, show tab g.length (fun x => decide (R g s j x)) = tab g.length (fun x => decide (RS g s j 0 0 x)) from tab_congr (fun x _ => decide_eq_decide.2 RS_first.symm)]
    have := within_l1 hv hs s j ((d + 1 : Nat) : Int) (tab g.length (fun x => decide (R g s (j + (d + 1)) x))) (by
      rw [w64 (by omega) (by omega), show ((d + 1 : Nat) : Int) - 1 = (d : Int) by omega, show j + (d + 1) = j + 1 + d by omega]
      exact ih (j + 1) (by omega)) g.length 0 (by omega)
    rw [show tab g.length (fun x => decide (R g s j x)) = tab g.length (fun x => decide (RS g s j 0 0 x)) from tab_congr (fun x _ => decide_eq_decide.2 RS_first.symm)] at this
    exact this
theorem within_ev {g : List (List Int)} (hv : GV g) (hs : Slim g) {s : Nat} (hsn : s < g.length) {K : Nat} (hK : K ≤ 4611686018427387904) :
    Ev (fun k => commodatumref17_Within.f k g (s : Int) (K : Int)) (tab g.length (fun x => decide (R g s K x))) := by
  have hn := hv.2.1
  unfold commodatumref17_Within.f
  refine Ev.pos (by omega) ?_
  refine Ev.pos (by omega) ?_
  refine Ev.sb ?_
  refine Ev.pos (by omega) ?_
  refine Ev.pos (by simp; omega) ?_
  rw [Int.toNat_natCast, Int.toNat_natCast, replicate_tab, tab_set]
  have := within_l0 hv hs s K 0 hK
  rw [Nat.zero_add] at this
  rw [show tab g.length (fun j => if j = s then true else false) = tab g.length (fun x => decide (R g s 0 x)) from tab_congr (fun x _ => by
    by_cases e : x = s
    · rw [if_pos e]; exact (decide_eq_true (show R g s 0 x from e)).symm
    · rw [if_neg e]; exact (decide_eq_false (show ¬ R g s 0 x from e)).symm)]
  exact this

/-! ### as many steps as there are nodes are enough -/
theorem sumN_lt {n : Nat} {f g : Nat → Nat} (h : ∀ i, i < n → f i ≤ g i) (k : Nat) (hk : k < n) (hlt : f k < g k) : sumN n f < sumN n g := by
  induction n with
  | zero => omega
  | succ n ih =>
    rw [sumN, sumN]
    by_cases e : k = n
    · subst e
      have := sumN_le (fun i hi => h i (by omega) : ∀ i, i < k → f i ≤ g i)
      omega
    · have := ih (fun i hi => h i (by omega)) (by omega)
      have := h n (by omega)
      omega
def cnt (n : Nat) (p : Nat → Bool) : Nat := sumN n (fun x => if p x = true then 1 else 0)
theorem cnt_le (n : Nat) (p : Nat → Bool) : cnt n p ≤ n := by
  have : cnt n p ≤ sumN n (fun _ => 1) := sumN_le (fun i _ => by split <;> omega)
  have h1 : ∀ m, sumN m (fun _ => 1) = m := by
    intro m
    induction m with
    | zero => rfl
    | succ m ih => rw [sumN, ih]
  rw [h1] at this; exact this
theorem R_stop {g : List (List Int)} {s j : Nat} (h : ∀ x, x < g.length → (R g s (j + 1) x ↔ R g s j x)) (hlt : ∀ i x, R g s i x → x < g.length) : ∀ i x, R g s (j + i) x → R g s j x := by
  intro i
  induction i with
  | zero => exact fun x h => h
  | succ i ih =>
    intro x hx
    rcases hx with hx | ⟨u, hu, hr, he⟩
    · exact ih x hx
    · have hxl : x < g.length := hlt (j + i + 1) x (Or.inr ⟨u, hu, hr, he⟩)
      exact (h x hxl).1 (Or.inr ⟨u, hu, ih u hr, he⟩)
theorem R_enough {g : List (List Int)} (hv : GV g) {s : Nat} (hs : s < g.length) (i x : Nat) (h : R g s i x) : R g s g.length x := by
  have hlt := R_lt hv hs
  have key : ∀ m, (∃ j, j ≤ m ∧ ∀ i x, R g s i x → R g s j x) ∨ m + 1 ≤ cnt g.length (fun x => decide (R g s m x)) := by
    intro m
    induction m with
    | zero =>
      refine Or.inr ?_
      have := sumN_ge s hs (fun x => if decide (R g s 0 x) = true then 1 else 0)
      rw [if_pos (by simp [R])] at this
      exact this
    | succ m ih =>
      rcases ih with ⟨j, hj, h⟩ | h
      · exact Or.inl ⟨j, by omega, h⟩
      · by_cases hst : ∀ x, x < g.length → (R g s (m + 1) x ↔ R g s m x)
        · refine Or.inl ⟨m, by omega, fun i x hx => R_stop hst hlt i x ?_⟩
          have := R_mono hx m
          rwa [Nat.add_comm] at this
        · refine Or.inr ?_
          obtain ⟨x, hx⟩ := not_forall.1 hst
          obtain ⟨hxl, hx⟩ := Classical.not_imp.1 hx
          have h1 : R g s (m + 1) x := by
            refine Classical.byContradiction fun hn => hx ⟨fun h => absurd h hn, fun h => Or.inl h⟩
          have h2 : ¬ R g s m x := fun h => hx ⟨fun _ => h, fun _ => h1⟩
          have : cnt g.length (fun x => decide (R g s m x)) < cnt g.length (fun x => decide (R g s (m + 1) x)) := by
            refine sumN_lt (fun i _ => ?_) x hxl ?_
            · by_cases hi : R g s m i
              · rw [if_pos (decide_eq_true hi), if_pos (decide_eq_true (show R g s (m + 1) i from Or.inl hi))]; omega
              · rw [if_neg (by simpa using hi)]; omega
            · rw [if_neg (by simpa using h2), if_pos (decide_eq_true h1)]; omega
          omega
  rcases key g.length with ⟨j, hj, h'⟩ | h'
  · have := R_mono (h' i x h) (g.length - j)
    rwa [show j + (g.length - j) = g.length by omega] at this
  · have := cnt_le g.length (fun x => decide (R g s g.length x))
    omega
end Go.Proofs.Ytcgnbmdhjehieaa.PureC
