/- Graphs: what Savitch's recursion comes to. -/
import Derived.Test.YtcgnbmdhjehieaaPC
import Derived.Test.YtcgnbmdhjehieaaQReachx10
namespace Go.Proofs.Ytcgnbmdhjehieaa.PureC
open Go Go.RowKit Go.Proofs.Ytcgnbmdhjehieaa.QReach Go.Proofs.YtcgnbmdhjehieaaW.PrintWords Go.Proofs.YtcgnbmdhjehieaaW.PrintLast Go.Proofs.YtcgnbmdhjehieaaW.PrintMore Go.Proofs.YtcgnbmdhjehieaaX
open Classical
set_option linter.unusedVariables false
set_option linter.unusedSimpArgs false

/-- One round of the loop, and on: F asks for u to w and w to v; d nodes are left, w the next. -/
def savL (F : Nat → Nat → Nat → Bool × Nat) (u v : Nat) : Nat → Nat → Nat → Bool × Nat
  | 0, _, c => (false, c)
  | d + 1, w, c =>
    if c ≤ 2000000 then
      if (F u w c).1 = true then
        if (F w v (F u w c).2).1 = true then (true, (F w v (F u w c).2).2) else savL F u v d (w + 1) (F w v (F u w c).2).2
      else savL F u v d (w + 1) (F u w c).2
    else (false, c)
/-- The recursion: is v reached from u within 2^k steps, and the number of calls. -/
def sav (n : Nat) (e : Nat → Nat → Bool) : Nat → Nat → Nat → Nat → Bool × Nat
  | 0, u, v, c => if c + 1 > 2000000 then (false, c + 1) else (decide (u = v) || e u v, c + 1)
  | k + 1, u, v, c => if c + 1 > 2000000 then (false, c + 1) else savL (sav n e k) u v n 0 (c + 1)
def eb (g : List (List Int)) (u v : Nat) : Bool := (row g u).any (fun x => decide (x = (v : Int)))
theorem eb_iff {g : List (List Int)} {u v : Nat} : eb g u v = true ↔ E g u v := by
  unfold eb E
  rw [List.any_eq_true]
  constructor
  · rintro ⟨x, hx, he⟩
    obtain ⟨i, hi, rfl⟩ := List.mem_iff_getElem.1 hx
    refine ⟨i, hi, ?_⟩
    unfold ent
    rw [rd_lt hi]
    exact of_decide_eq_true he
  · rintro ⟨i, hi, he⟩
    unfold ent at he
    rw [rd_lt hi] at he
    exact ⟨_, List.getElem_mem hi, decide_eq_true he⟩

theorem savL_over {F : Nat → Nat → Nat → Bool × Nat} {u v d w c : Nat} (h : ¬ c ≤ 2000000) : savL F u v d w c = (false, c) := by
  cases d with
  | zero => rfl
  | succ d => rw [savL, if_neg h]
/-- What is known of a count of calls: it grows, it stops right above the limit, and 'true' is found within it. -/
def Fair (F : Nat → Nat → Nat → Bool × Nat) : Prop := ∀ a b c, c ≤ 2000000 → c < (F a b c).2 ∧ (F a b c).2 ≤ 2000001 ∧ ((F a b c).1 = true → (F a b c).2 ≤ 2000000)
theorem savL_fair {F : Nat → Nat → Nat → Bool × Nat} (hF : Fair F) (u v : Nat) : ∀ d w c, c ≤ 2000001 → c ≤ (savL F u v d w c).2 ∧ (savL F u v d w c).2 ≤ 2000001 ∧ ((savL F u v d w c).1 = true → (savL F u v d w c).2 ≤ 2000000)
  | 0, _, c, h => ⟨Nat.le_refl _, h, fun h => (by cases h)⟩
  | d + 1, w, c, h => by
    by_cases h1 : c ≤ 2000000
    · obtain ⟨a1, a2, a3⟩ := hF u w c h1
      rw [savL, if_pos h1]
      by_cases h3 : (F u w c).1 = true
      · rw [if_pos h3]
        obtain ⟨b1, b2, b3⟩ := hF w v _ (a3 h3)
        by_cases h7 : (F w v (F u w c).2).1 = true
        · rw [if_pos h7]
          exact ⟨by show c ≤ (F w v (F u w c).2).2; omega, b2, fun _ => b3 h7⟩
        · rw [if_neg h7]
          obtain ⟨c1, c2, c3⟩ := savL_fair hF u v d (w + 1) _ b2
          exact ⟨by omega, c2, c3⟩
      · rw [if_neg h3]
        obtain ⟨c1, c2, c3⟩ := savL_fair hF u v d (w + 1) _ a2
        exact ⟨by omega, c2, c3⟩
    · rw [savL_over h1]
      exact ⟨Nat.le_refl _, h, fun h => (by cases h)⟩
theorem sav_fair (n : Nat) (e : Nat → Nat → Bool) : ∀ k, Fair (sav n e k)
  | 0 => fun a b c h => by
    rw [sav]
    by_cases h1 : c + 1 > 2000000
    · rw [if_pos h1]; exact ⟨by simp, by simp; omega, fun h => (by cases h)⟩
    · rw [if_neg h1]; exact ⟨by simp, by simp; omega, fun _ => by simp; omega⟩
  | k + 1 => fun a b c h => by
    rw [sav]
    by_cases h1 : c + 1 > 2000000
    · rw [if_pos h1]; exact ⟨by simp, by simp; omega, fun h => (by cases h)⟩
    · rw [if_neg h1]
      obtain ⟨c1, c2, c3⟩ := savL_fair (sav_fair n e k) a b n 0 (c + 1) (by omega)
      exact ⟨by omega, c2, c3⟩
/-- Within 2^k steps, by the recursion. -/
def D (n : Nat) (P : Nat → Nat → Prop) : Nat → Nat → Nat → Prop
  | 0, u, v => u = v ∨ P u v
  | k + 1, u, v => ∃ w, w < n ∧ D n P k u w ∧ D n P k w v
theorem savL_true {F : Nat → Nat → Nat → Bool × Nat} {Q : Nat → Nat → Prop} (hF : Fair F) (hQ : ∀ a b c, c ≤ 2000000 → (F a b c).2 ≤ 2000000 → ((F a b c).1 = true ↔ Q a b)) (u v : Nat) :
    ∀ d w c, c ≤ 2000001 → (savL F u v d w c).2 ≤ 2000000 → ((savL F u v d w c).1 = true ↔ ∃ x, w ≤ x ∧ x < w + d ∧ Q u x ∧ Q x v)
  | 0, w, c, _, _ => ⟨fun h => (by cases h), fun ⟨x, h1, h2, _⟩ => (by omega)⟩
  | d + 1, w, c, hc, h => by
    by_cases h1 : c ≤ 2000000
    · obtain ⟨a1, a2, a3⟩ := hF u w c h1
      rw [savL, if_pos h1] at h ⊢
      by_cases h3 : (F u w c).1 = true
      · rw [if_pos h3] at h ⊢
        obtain ⟨b1, b2, b3⟩ := hF w v _ (a3 h3)
        by_cases h7 : (F w v (F u w c).2).1 = true
        · rw [if_pos h7]
          exact ⟨fun _ => ⟨w, Nat.le_refl _, by omega, (hQ u w c h1 (a3 h3)).1 h3, (hQ w v _ (a3 h3) (b3 h7)).1 h7⟩, fun _ => rfl⟩
        · rw [if_neg h7] at h ⊢
          obtain ⟨c1, _, _⟩ := savL_fair hF u v d (w + 1) _ b2
          have hno : ¬ Q w v := fun hq => h7 ((hQ w v _ (a3 h3) (by omega)).2 hq)
          rw [savL_true hF hQ u v d (w + 1) _ b2 h]
          refine ⟨fun ⟨x, h1, h2, h3, h4⟩ => ⟨x, by omega, by omega, h3, h4⟩, fun ⟨x, q1, q2, q3, q4⟩ => ⟨x, ?_, by omega, q3, q4⟩⟩
          by_cases e : x = w
          · subst e; exact absurd q4 hno
          · omega
      · rw [if_neg h3] at h ⊢
        obtain ⟨c1, _, _⟩ := savL_fair hF u v d (w + 1) _ a2
        have hno : ¬ Q u w := fun hq => h3 ((hQ u w c h1 (by omega)).2 hq)
        rw [savL_true hF hQ u v d (w + 1) _ a2 h]
        refine ⟨fun ⟨x, h1, h2, h3, h4⟩ => ⟨x, by omega, by omega, h3, h4⟩, fun ⟨x, q1, q2, q3, q4⟩ => ⟨x, ?_, by omega, q3, q4⟩⟩
        by_cases e : x = w
        · subst e; exact absurd q3 hno
        · omega
    · rw [savL_over h1] at h
      exact absurd h h1
theorem sav_true (n : Nat) (e : Nat → Nat → Bool) : ∀ k a b c, c ≤ 2000000 → (sav n e k a b c).2 ≤ 2000000 → ((sav n e k a b c).1 = true ↔ D n (fun u v => e u v = true) k a b)
  | 0, a, b, c, _, h => by
    rw [sav] at h ⊢
    by_cases h1 : c + 1 > 2000000
    · rw [if_pos h1] at h; simp at h; omega
    · rw [if_neg h1]
      show (decide (a = b) || e a b) = true ↔ (a = b ∨ e a b = true)
      simp
  | k + 1, a, b, c, hc, h => by
    rw [sav] at h ⊢
    by_cases h1 : c + 1 > 2000000
    · rw [if_pos h1] at h; simp at h; omega
    · rw [if_neg h1] at h ⊢
      rw [savL_true (sav_fair n e k) (sav_true n e k) a b n 0 (c + 1) (by omega) h]
      exact ⟨fun ⟨x, _, h2, h3, h4⟩ => ⟨x, by omega, h3, h4⟩, fun ⟨x, h2, h3, h4⟩ => ⟨x, Nat.zero_le _, by omega, h3, h4⟩⟩

/-! ### within 2^k steps -/
theorem R_add {g : List (List Int)} (hv : GV g) {s : Nat} (hs : s < g.length) (i : Nat) : ∀ (j v : Nat), R g s (i + j) v ↔ ∃ w, w < g.length ∧ R g s i w ∧ R g w j v
  | 0, v => ⟨fun h => ⟨v, R_lt hv hs i v h, h, rfl⟩, fun ⟨w, _, h, e⟩ => by have : v = w := e; subst this; exact h⟩
  | j + 1, v => by
    constructor
    · rintro (h | ⟨u, hu, hr, he⟩)
      · obtain ⟨w, h1, h2, h3⟩ := (R_add hv hs i j v).1 h
        exact ⟨w, h1, h2, Or.inl h3⟩
      · obtain ⟨w, h1, h2, h3⟩ := (R_add hv hs i j u).1 hr
        exact ⟨w, h1, h2, Or.inr ⟨u, hu, h3, he⟩⟩
    · rintro ⟨w, h1, h2, h | ⟨u, hu, hr, he⟩⟩
      · exact Or.inl ((R_add hv hs i j v).2 ⟨w, h1, h2, h⟩)
      · exact Or.inr ⟨u, hu, (R_add hv hs i j u).2 ⟨w, h1, h2, hr⟩, he⟩
theorem D_R {g : List (List Int)} (hv : GV g) : ∀ (k u v : Nat), u < g.length → (D g.length (fun u v => eb g u v = true) k u v ↔ R g u (2 ^ k) v)
  | 0, u, v, hu => by
    show (u = v ∨ eb g u v = true) ↔ (v = u ∨ ∃ x, x < g.length ∧ x = u ∧ E g x v)
    rw [eb_iff]
    exact ⟨fun h => h.elim (fun h => Or.inl h.symm) (fun h => Or.inr ⟨u, hu, rfl, h⟩), fun h => h.elim (fun h => Or.inl h.symm) (fun ⟨x, _, e, h⟩ => Or.inr (e ▸ h))⟩
  | k + 1, u, v, hu => by
    rw [show 2 ^ (k + 1) = 2 ^ k + 2 ^ k by rw [Nat.pow_succ]; omega, R_add hv hu]
    constructor
    · rintro ⟨w, h1, h2, h3⟩
      exact ⟨w, h1, (D_R hv k u w hu).1 h2, (D_R hv k w v h1).1 h3⟩
    · rintro ⟨w, h1, h2, h3⟩
      exact ⟨w, h1, (D_R hv k u w hu).2 h2, (D_R hv k w v h1).2 h3⟩

/-! ### what the two programs' recursions come to -/
theorem index_loop (xs : List Int) (v : Int) (hl : xs.length ≤ 2000) : ∀ (d j : Nat), j + d = xs.length →
    ∃ r, Ev (fun k => slices_Index_int_int.l0 k xs v (xs.length : Int) (j : Int)) r ∧ decide (r ≥ 0) = (xs.drop j).any (fun x => decide (x = v)) := by
  intro d
  induction d with
  | zero =>
    intro j hj
    refine ⟨-1, ?_, by rw [List.drop_of_length_le (by omega)]; rfl⟩
    refine Ev.step (fun k => by rw [slices_Index_int_int.l0]) ?_
    exact Ev.neg (by omega) (Ev.now _)
  | succ d ih =>
    intro j hj
    have hd : xs.drop j = xs[j] :: xs.drop (j + 1) := List.drop_eq_getElem_cons (by omega)
    by_cases h : v = rd xs (j : Int)
    · refine ⟨(j : Int), ?_, ?_⟩
      · refine Ev.step (fun k => by rw [slices_Index_int_int.l0]) ?_
        refine Ev.pos (by omega) ?_
        refine Ev.pos (by omega) ?_
        refine Ev.pos (by omega) ?_
        exact Ev.pos h (Ev.now _)
      · rw [hd, List.any_cons]
        rw [rd_lt (by omega)] at h
        rw [decide_eq_true h.symm]; simp
    · obtain ⟨r, hr, he⟩ := ih (j + 1) (by omega)
      refine ⟨r, ?_, ?_⟩
      · refine Ev.step (fun k => by rw [slices_Index_int_int.l0]) ?_
        refine Ev.pos (by omega) ?_
        refine Ev.pos (by omega) ?_
        refine Ev.pos (by omega) ?_
        refine Ev.neg h ?_
        rw [up1 (by omega)]
        exact hr
      · rw [hd, List.any_cons, he]
        rw [rd_lt (by omega)] at h
        rw [decide_eq_false (fun e => h e.symm)]; simp
theorem contains_ev {g : List (List Int)} (hs : Slim g) {u : Nat} (hu : u < g.length) (v : Nat) : Ev (fun k => slices_Contains_int_int.f k (row g u) (v : Int)) (eb g u v) := by
  obtain ⟨r, hr, he⟩ := index_loop (row g u) (v : Int) (hs.row hu) (row g u).length 0 (by omega)
  unfold slices_Contains_int_int.f slices_Index_int_int.f
  refine Ev.bind hr ?_
  refine Ev.ret ?_
  rw [he]; rfl
def pr (x : Bool × Nat) : Bool × Int := (x.1, (x.2 : Int))
theorem call_l0 {g : List (List Int)} (hn : g.length ≤ 21) (u v k : Nat) (hu : u < g.length) (hvl : v < g.length) (hk : k ≤ 60)
    (hF : ∀ a b c : Nat, a < g.length → b < g.length → c ≤ 2000000 → Ev (fun q => reach_savitch_call.f q g (c : Int) (a : Int) (b : Int) (k : Int)) (pr (sav g.length (eb g) k a b c))) :
    ∀ (d w c : Nat), w + d = g.length → c ≤ 2000000 → Ev (fun q => reach_savitch_call.l0 q (u : Int) (v : Int) ((k + 1 : Nat) : Int) (g.length : Int) (w : Int) g (c : Int)) (pr (savL (sav g.length (eb g) k) u v d w c)) := by
  intro d
  have hk1 : wrap64 (((k + 1 : Nat) : Int) - 1) = (k : Int) := by rw [w64 (by omega) (by omega)]; omega
  induction d with
  | zero =>
    intro w c hw hc
    refine Ev.step (fun k => by rw [reach_savitch_call.l0]) ?_
    exact Ev.neg (by omega) (Ev.now _)
  | succ d ih =>
    intro w c hw hc
    obtain ⟨a1, a2, a3⟩ := sav_fair g.length (eb g) k u w c hc
    have go : ∀ c' : Nat, c' ≤ 2000001 → Ev (fun q => reach_savitch_call.j1 q (u : Int) (v : Int) ((k + 1 : Nat) : Int) (g.length : Int) (w : Int) false g (c' : Int)) (pr (savL (sav g.length (eb g) k) u v d (w + 1) c')) := by
      intro c' hc'
      refine Ev.step (fun k => by rw [reach_savitch_call.j1]) ?_
      refine Ev.neg (by decide) ?_
      by_cases h : c' ≤ 2000000
      · refine Ev.neg (by omega) ?_
        rw [up1 (by omega)]
        exact ih (w + 1) c' (by omega) h
      · rw [savL_over h]
        exact Ev.pos (by omega) (Ev.now _)
    rw [savL, if_pos hc]
    refine Ev.step (fun k => by rw [reach_savitch_call.l0]) ?_
    refine Ev.pos (by omega) ?_
    rw [hk1]
    refine Ev.bind (hF u w c hu (by omega) hc) ?_
    by_cases h3 : (sav g.length (eb g) k u w c).1 = true
    · rw [if_pos h3]
      refine Ev.pos h3 ?_
      obtain ⟨b1, b2, b3⟩ := sav_fair g.length (eb g) k w v _ (a3 h3)
      refine Ev.bind (hF w v _ (by omega) hvl (a3 h3)) ?_
      by_cases h7 : (sav g.length (eb g) k w v (sav g.length (eb g) k u w c).2).1 = true
      · rw [if_pos h7]
        refine Ev.step (fun k => by rw [reach_savitch_call.j1]) ?_
        exact Ev.pos h7 (Ev.now _)
      · rw [if_neg h7]
        have h8 : (sav g.length (eb g) k w v (sav g.length (eb g) k u w c).2).1 = false := by simpa using h7
        unfold pr at *
        simp only [h8]
        exact go _ b2
    · rw [if_neg h3]
      refine Ev.neg h3 ?_
      exact go _ a2
theorem call_ev {g : List (List Int)} (hn : g.length ≤ 21) (hs : Slim g) : ∀ (k : Nat), k ≤ 60 → ∀ a b c : Nat, a < g.length → b < g.length → c ≤ 2000000 →
    Ev (fun q => reach_savitch_call.f q g (c : Int) (a : Int) (b : Int) (k : Int)) (pr (sav g.length (eb g) k a b c)) := by
  intro k
  induction k with
  | zero =>
    intro _ a b c ha hb hc
    refine Ev.step (fun k => by rw [reach_savitch_call.f]) ?_
    rw [up1 (by omega), sav]
    by_cases h1 : c + 1 > 2000000
    · rw [if_pos h1]
      exact Ev.pos (by omega) (Ev.now _)
    rw [if_neg h1]
    refine Ev.neg (by omega) ?_
    refine Ev.pos (by omega) ?_
    by_cases h2 : a = b
    · refine Ev.pos (by omega) ?_
      exact Ev.ret (by unfold pr; simp [h2])
    · refine Ev.neg (by omega) ?_
      refine Ev.pos (by omega) ?_
      refine Ev.pos (by omega) ?_
      rw [rd_row]
      refine Ev.bind (contains_ev hs ha b) ?_
      exact Ev.ret (by unfold pr; simp [h2])
  | succ k ih =>
    intro hk a b c ha hb hc
    refine Ev.step (fun k => by rw [reach_savitch_call.f]) ?_
    rw [up1 (by omega), sav]
    by_cases h1 : c + 1 > 2000000
    · rw [if_pos h1]
      exact Ev.pos (by omega) (Ev.now _)
    rw [if_neg h1]
    refine Ev.neg (by omega) ?_
    refine Ev.neg (by omega) ?_
    exact call_l0 hn a b k ha hb (by omega) (ih (by omega)) g.length 0 (c + 1) (by omega) (by omega)
theorem holds_l0 {g : List (List Int)} (hn : g.length ≤ 21) (u v k : Nat) (hu : u < g.length) (hvl : v < g.length) (hk : k ≤ 60)
    (hF : ∀ a b c : Nat, a < g.length → b < g.length → c ≤ 2000000 → Ev (fun q => commodatumref17_savitch_holds.f q g (c : Int) (a : Int) (b : Int) (k : Int)) (pr (sav g.length (eb g) k a b c))) :
    ∀ (d w c : Nat), w + d = g.length → Ev (fun q => commodatumref17_savitch_holds.l0 q (u : Int) (v : Int) ((k + 1 : Nat) : Int) (w : Int) g (c : Int)) (pr (savL (sav g.length (eb g) k) u v d w c)) := by
  intro d
  have hk1 : wrap64 (((k + 1 : Nat) : Int) - 1) = (k : Int) := by rw [w64 (by omega) (by omega)]; omega
  induction d with
  | zero =>
    intro w c hw
    refine Ev.step (fun k => by rw [commodatumref17_savitch_holds.l0]) ?_
    refine Ev.neg (by omega) ?_
    refine Ev.step (fun k => by rw [commodatumref17_savitch_holds.j1]) ?_
    exact Ev.neg (by decide) (Ev.now _)
  | succ d ih =>
    intro w c hw
    refine Ev.step (fun k => by rw [commodatumref17_savitch_holds.l0]) ?_
    refine Ev.pos (by omega) ?_
    refine Ev.step (fun k => by rw [commodatumref17_savitch_holds.j1]) ?_
    by_cases hc : c ≤ 2000000
    · obtain ⟨a1, a2, a3⟩ := sav_fair g.length (eb g) k u w c hc
      rw [savL, if_pos hc]
      refine Ev.pos (decide_eq_true (by omega)) ?_
      rw [hk1, up1 (by omega)]
      refine Ev.bind (hF u w c hu (by omega) hc) ?_
      by_cases h3 : (sav g.length (eb g) k u w c).1 = true
      · rw [if_pos h3]
        refine Ev.pos h3 ?_
        obtain ⟨b1, b2, b3⟩ := sav_fair g.length (eb g) k w v _ (a3 h3)
        refine Ev.bind (hF w v _ (by omega) hvl (a3 h3)) ?_
        by_cases h7 : (sav g.length (eb g) k w v (sav g.length (eb g) k u w c).2).1 = true
        · rw [if_pos h7]
          exact Ev.pos h7 (Ev.now _)
        · rw [if_neg h7]
          refine Ev.neg h7 ?_
          exact ih (w + 1) _ (by omega)
      · rw [if_neg h3]
        refine Ev.neg h3 ?_
        exact ih (w + 1) _ (by omega)
    · rw [savL_over hc]
      exact Ev.neg (by simp; omega) (Ev.now _)
theorem holds_ev {g : List (List Int)} (hn : g.length ≤ 21) (hs : Slim g) : ∀ (k : Nat), k ≤ 60 → ∀ a b c : Nat, a < g.length → b < g.length → c ≤ 2000000 →
    Ev (fun q => commodatumref17_savitch_holds.f q g (c : Int) (a : Int) (b : Int) (k : Int)) (pr (sav g.length (eb g) k a b c)) := by
  intro k
  induction k with
  | zero =>
    intro _ a b c ha hb hc
    refine Ev.step (fun k => by rw [commodatumref17_savitch_holds.f]) ?_
    rw [up1 (by omega), sav]
    by_cases h1 : c + 1 > 2000000
    · rw [if_pos h1]
      exact Ev.pos (by omega) (Ev.now _)
    rw [if_neg h1]
    refine Ev.neg (by omega) ?_
    refine Ev.pos (by omega) ?_
    by_cases h2 : a = b
    · refine Ev.pos (by omega) ?_
      exact Ev.ret (by unfold pr; simp [h2])
    · refine Ev.neg (by omega) ?_
      refine Ev.bind (edge_ev hs ha) ?_
      refine Ev.ret ?_
      have : decide (E g a b) = eb g a b := by
        rw [Bool.eq_iff_iff, decide_eq_true_iff, eb_iff]
      unfold pr; simp [h2, this]
  | succ k ih =>
    intro hk a b c ha hb hc
    refine Ev.step (fun k => by rw [commodatumref17_savitch_holds.f]) ?_
    rw [up1 (by omega), sav]
    by_cases h1 : c + 1 > 2000000
    · rw [if_pos h1]
      exact Ev.pos (by omega) (Ev.now _)
    rw [if_neg h1]
    refine Ev.neg (by omega) ?_
    refine Ev.neg (by omega) ?_
    exact holds_l0 hn a b k ha hb (by omega) (ih (by omega)) g.length 0 (c + 1) (by omega)
theorem bits_same (k : Nat) : ∀ (a b : Int), bits_Least.l0 k a b = commodatumref17_Bits.l0 k a b := by
  induction k with
  | zero => intro a b; rfl
  | succ k ih =>
    intro a b
    rw [bits_Least.l0, commodatumref17_Bits.l0, ih]
theorem bits_all : ∀ a : Fin 65, (commodatumref17_Bits.f 12 ((a.val : Nat) : Int)).isSome = true := by decide +kernel
theorem bits_ev (a : Nat) (ha : a ≤ 64) : ∃ r, Ev (fun k => bits_Least.f k (a : Int)) r ∧ Ev (fun k => commodatumref17_Bits.f k (a : Int)) r := by
  obtain ⟨r, hr⟩ := Option.isSome_iff_exists.1 (bits_all ⟨a, by omega⟩)
  have h := Ev.of (fun k => commodatumref17_Bits.mono (a : Int) k) hr
  refine ⟨r, Ev.congr (fun k => ?_) h, h⟩
  unfold bits_Least.f commodatumref17_Bits.f
  exact bits_same k _ _
end Go.Proofs.Ytcgnbmdhjehieaa.PureC
