/- Graphs: what Reaches (a search through a queue) comes to. -/
import Derived.Test.YtcgnbmdhjehieaaPC
import Derived.Test.YtcgnbmdhjehieaaQReachx8
namespace Go.Proofs.Ytcgnbmdhjehieaa.PureC
open Go Go.RowKit Go.Proofs.Ytcgnbmdhjehieaa.QReach Go.Proofs.YtcgnbmdhjehieaaW.PrintWords Go.Proofs.YtcgnbmdhjehieaaW.PrintLast Go.Proofs.YtcgnbmdhjehieaaW.PrintMore Go.Proofs.YtcgnbmdhjehieaaX
open Classical
set_option linter.unusedVariables false
set_option linter.unusedSimpArgs false

def btab (n : Nat) (p : Nat → Bool) : List Bool := tab n p
def unseen (n : Nat) (p : Nat → Bool) : Nat := sumN n (fun x => if p x = true then 0 else 1)
theorem unseen_le (n : Nat) (p : Nat → Bool) : unseen n p ≤ n := by
  unfold unseen
  induction n with
  | zero => exact Nat.le_refl _
  | succ n ih => rw [sumN]; split <;> omega
def mark (p : Nat → Bool) (v : Nat) : Nat → Bool := fun x => if x = v then true else p x
theorem unseen_mark {n : Nat} {p : Nat → Bool} {v : Nat} (hv : v < n) (hp : p v = false) : unseen n (mark p v) + 1 = unseen n p := by
  unfold unseen
  induction n with
  | zero => omega
  | succ n ih =>
    rw [sumN, sumN]
    by_cases e : v = n
    · subst e
      rw [sumN_congr (f := fun x => if mark p v x = true then 0 else 1) (g := fun x => if p x = true then 0 else 1) (fun i hi => by
        unfold mark; rw [if_neg (show ¬ i = v by omega)])]
      simp [mark, hp]
    · have := ih (by omega)
      have e2 : mark p v n = p n := by unfold mark; rw [if_neg (fun h => e h.symm)]
      rw [e2]; omega
/-- What holds while the queue qs is gone through; u (if any) is the node whose row is being gone through, up to place i. -/
structure Inv (g : List (List Int)) (s : Nat) (p : Nat → Bool) (qs : List Nat) (cur : Option (Nat × Nat)) : Prop where
  start : p s = true
  sound : ∀ x, p x = true → ∃ j, R g s j x
  lt : ∀ x, p x = true → x < g.length
  inq : ∀ x ∈ qs, p x = true
  shut : ∀ x, p x = true → x ∈ qs ∨ (∃ i, cur = some (x, i) ∧ ∀ i', i' < i → p (ent g x i').toNat = true) ∨ (∀ v, E g x v → p v = true)
  curp : ∀ x i, cur = some (x, i) → p x = true
def cast_ (qs : List Nat) : List Int := qs.map (fun x : Nat => (x : Int))
theorem reaches_l1 {g : List (List Int)} (hv : GV g) (s u : Nat) (hu : u < g.length) (hl : (row g u).length ≤ 2000) (t : Int) (T : Nat) (hT : T ≤ 21) (r)
    (hc : ∀ p qs, Inv g s p qs none → unseen g.length p + qs.length = T → Ev (fun k => reach_Reaches.l0 k g t (tab g.length p) (cast_ qs)) r) :
    ∀ (d i : Nat), i + d = (row g u).length → ∀ p qs, Inv g s p qs (some (u, i)) → unseen g.length p + qs.length = T →
      Ev (fun k => reach_Reaches.l1 k g t (tab g.length p) (cast_ qs) (row g u) ((row g u).length : Int) (i : Int)) r := by
  have hn := hv.2.1
  intro d
  induction d with
  | zero =>
    intro i hi p qs hI hU
    refine Ev.step (fun k => by rw [reach_Reaches.l1]) ?_
    refine Ev.neg (by omega) ?_
    refine hc p qs ⟨hI.start, hI.sound, hI.lt, hI.inq, fun x hx => ?_, fun _ _ h => by cases h⟩ hU
    rcases hI.shut x hx with h | ⟨i', h1, h2⟩ | h
    · exact Or.inl h
    · simp only [Option.some.injEq, Prod.mk.injEq] at h1
      obtain ⟨rfl, rfl⟩ := h1
      refine Or.inr (Or.inr fun v ⟨i', hi', he⟩ => ?_)
      have := h2 i' (by omega)
      rwa [show (ent g u i').toNat = v by omega] at this
    · exact Or.inr (Or.inr h)
  | succ d ih =>
    intro i hi p qs hI hU
    have hilt : i < (row g u).length := by omega
    have he := hv.ent hu hilt
    have hen : rd (row g u) (i : Int) = (((ent g u i).toNat : Nat) : Int) := by have := he.1; unfold ent at this ⊢; omega
    have hlt : (ent g u i).toNat < g.length := by omega
    refine Ev.step (fun k => by rw [reach_Reaches.l1]) ?_
    refine Ev.pos (by omega) ?_
    refine Ev.pos (by omega) ?_
    refine Ev.pos (by omega) ?_
    rw [hen]
    refine Ev.pos (by omega) ?_
    refine Ev.pos (by simp; omega) ?_
    rw [rdOf_tab hlt, up1 (by omega)]
    by_cases hp : p (ent g u i).toNat = true
    · refine Ev.pos hp ?_
      refine ih (i + 1) (by omega) p qs ⟨hI.start, hI.sound, hI.lt, hI.inq, fun x hx => ?_, fun x j h => ?_⟩ hU
      · rcases hI.shut x hx with h | ⟨i', h1, h2⟩ | h
        · exact Or.inl h
        · simp only [Option.some.injEq, Prod.mk.injEq] at h1
          obtain ⟨rfl, rfl⟩ := h1
          refine Or.inr (Or.inl ⟨i + 1, rfl, fun i' hi' => ?_⟩)
          by_cases e : i' = i
          · subst e; exact hp
          · exact h2 i' (by omega)
        · exact Or.inr (Or.inr h)
      · simp only [Option.some.injEq, Prod.mk.injEq] at h
        obtain ⟨rfl, rfl⟩ := h
        exact hI.curp u i rfl
    · have hpf : p (ent g u i).toNat = false := by simpa using hp
      have hq : qs.length ≤ 21 := by omega
      refine Ev.neg hp ?_
      refine Ev.pos (by simp [cast_]; omega) ?_
      rw [Int.toNat_natCast, tab_set]
      have e1 : cast_ qs ++ [(((ent g u i).toNat : Nat) : Int)] = cast_ (qs ++ [(ent g u i).toNat]) := by simp [cast_]
      rw [e1]
      have mk1 : ∀ x, p x = true → mark p (ent g u i).toNat x = true := fun x hx => by unfold mark; split <;> simp_all
      have mk2 : mark p (ent g u i).toNat (ent g u i).toNat = true := by unfold mark; simp
      have mk3 : ∀ x, mark p (ent g u i).toNat x = true → x = (ent g u i).toNat ∨ p x = true := fun x hx => by
        unfold mark at hx
        by_cases e : x = (ent g u i).toNat
        · exact Or.inl e
        · rw [if_neg e] at hx; exact Or.inr hx
      obtain ⟨ju, hju⟩ := hI.sound u (hI.curp u i rfl)
      refine ih (i + 1) (by omega) (mark p (ent g u i).toNat) (qs ++ [(ent g u i).toNat]) ⟨mk1 _ hI.start, fun x hx => ?_, fun x hx => ?_, fun x hx => ?_, fun x hx => ?_, fun x j h => ?_⟩ ?_
      · rcases mk3 x hx with rfl | h
        · exact ⟨ju + 1, Or.inr ⟨u, hu, hju, ⟨i, hilt, by omega⟩⟩⟩
        · exact hI.sound x h
      · rcases mk3 x hx with rfl | h
        · exact hlt
        · exact hI.lt x h
      · rcases List.mem_append.1 hx with h | h
        · exact mk1 x (hI.inq x h)
        · rw [List.mem_singleton.1 h]; exact mk2
      · rcases mk3 x hx with rfl | h
        · exact Or.inl (List.mem_append_right _ (List.mem_singleton.2 rfl))
        · rcases hI.shut x h with h | ⟨i', h1, h2⟩ | h
          · exact Or.inl (List.mem_append_left _ h)
          · simp only [Option.some.injEq, Prod.mk.injEq] at h1
            obtain ⟨rfl, rfl⟩ := h1
            refine Or.inr (Or.inl ⟨i + 1, rfl, fun i' hi' => ?_⟩)
            by_cases e : i' = i
            · subst e; exact mk2
            · exact mk1 _ (h2 i' (by omega))
          · exact Or.inr (Or.inr fun v hv' => mk1 _ (h v hv'))
      · simp only [Option.some.injEq, Prod.mk.injEq] at h
        obtain ⟨rfl, rfl⟩ := h
        exact mk1 _ (hI.curp u i rfl)
      · have := unseen_mark hlt hpf
        rw [List.length_append, List.length_singleton]; omega
theorem reaches_l0 {g : List (List Int)} (hv : GV g) (hs : Slim g) (s t : Nat) (ht : t < g.length) :
    ∀ (T : Nat), T ≤ 21 → ∀ p qs, Inv g s p qs none → unseen g.length p + qs.length = T →
      Ev (fun k => reach_Reaches.l0 k g (t : Int) (tab g.length p) (cast_ qs)) (decide (∃ j, R g s j t), (0 : Int)) := by
  have hn := hv.2.1
  intro T
  induction T with
  | zero =>
    intro _ p qs hI hU
    have e : qs = [] := List.eq_nil_of_length_eq_zero (by omega)
    subst e
    refine Ev.step (fun k => by rw [reach_Reaches.l0]) ?_
    refine Ev.neg (by simp [cast_]) ?_
    refine Ev.pos (by omega) ?_
    refine Ev.pos (by simp; omega) ?_
    rw [rdOf_tab ht]
    refine Ev.ret ?_
    have all : ∀ j x, R g s j x → p x = true := by
      intro j
      induction j with
      | zero => intro x hx; have : x = s := hx; subst this; exact hI.start
      | succ j ih =>
        intro x hx
        rcases hx with hx | ⟨u, hu, hr, he⟩
        · exact ih x hx
        · rcases hI.shut u (ih u hr) with h | ⟨_, h, _⟩ | h
          · cases h
          · cases h
          · exact h x he
    congr 1
    by_cases hp : p t = true
    · rw [hp]; exact (decide_eq_true (hI.sound t hp)).symm
    · rw [show p t = false by simpa using hp]
      exact (decide_eq_false (fun ⟨j, hj⟩ => hp (all j t hj))).symm
  | succ T ih =>
    intro hT p qs hI hU
    cases qs with
    | nil =>
      refine Ev.step (fun k => by rw [reach_Reaches.l0]) ?_
      refine Ev.neg (by simp [cast_]) ?_
      refine Ev.pos (by omega) ?_
      refine Ev.pos (by simp; omega) ?_
      rw [rdOf_tab ht]
      refine Ev.ret ?_
      have all : ∀ j x, R g s j x → p x = true := by
        intro j
        induction j with
        | zero => intro x hx; have : x = s := hx; subst this; exact hI.start
        | succ j ih =>
          intro x hx
          rcases hx with hx | ⟨u, hu, hr, he⟩
          · exact ih x hx
          · rcases hI.shut u (ih u hr) with h | ⟨_, h, _⟩ | h
            · cases h
            · cases h
            · exact h x he
      congr 1
      by_cases hp : p t = true
      · rw [hp]; exact (decide_eq_true (hI.sound t hp)).symm
      · rw [show p t = false by simpa using hp]
        exact (decide_eq_false (fun ⟨j, hj⟩ => hp (all j t hj))).symm
    | cons u qs =>
      have hup : p u = true := hI.inq u (List.mem_cons_self)
      have hu := hI.lt u hup
      have e0 : rd (cast_ (u :: qs)) 0 = (u : Int) := rfl
      have e1 : (cast_ (u :: qs)).drop (1 : Int).toNat = cast_ qs := rfl
      refine Ev.step (fun k => by rw [reach_Reaches.l0]) ?_
      have hlen : ((cast_ (u :: qs)).length : Int) ≥ 1 := by simp [cast_]; omega
      refine Ev.pos (by omega) ?_
      refine Ev.pos (by omega) ?_
      refine Ev.pos (by omega) ?_
      rw [e0, e1]
      refine Ev.pos (by omega) ?_
      refine Ev.pos (by omega) ?_
      rw [rd_row]
      refine reaches_l1 hv s u hu (hs.row hu) (t : Int) T (by omega) _ (fun p qs hI' hU' => ih (by omega) p qs hI' hU') (row g u).length 0 (by omega) p qs ⟨hI.start, hI.sound, hI.lt, fun x hx => hI.inq x (List.mem_cons_of_mem _ hx), fun x hx => ?_, fun x i h => ?_⟩ (by rw [List.length_cons] at hU; omega)
      · rcases hI.shut x hx with h | ⟨_, h, _⟩ | h
        · rcases List.mem_cons.1 h with rfl | h
          · exact Or.inr (Or.inl ⟨0, rfl, fun i' hi' => by omega⟩)
          · exact Or.inl h
        · cases h
        · exact Or.inr (Or.inr h)
      · simp only [Option.some.injEq, Prod.mk.injEq] at h
        obtain ⟨rfl, rfl⟩ := h
        exact hup
/-- What Reaches returns. -/
def reachR (v : Bool) (g : List (List Int)) (s t : Int) (b : Bool) : Bool × Int := if askV v g s t = 0 then (b, 0) else (false, askV v g s t)
theorem reaches_ev {g : List (List Int)} (hs : Slim g) (s t : Int) : Ev (fun k => reach_Reaches.f k g s t) (reachR (decide (GV g)) g s t (decide (∃ j, R g s.toNat j t.toNat))) := by
  unfold reach_Reaches.f reachR
  refine Ev.bind (asked_ev g hs s t) ?_
  by_cases h0 : askV (decide (GV g)) g s t = 0
  · obtain ⟨hv, h1, h2⟩ := askV_zero h0
    have hn := hv.2.1
    obtain ⟨s', rfl⟩ := Int.eq_ofNat_of_zero_le h1.1
    obtain ⟨t', rfl⟩ := Int.eq_ofNat_of_zero_le h2.1
    rw [if_pos h0]
    refine Ev.pos h0 ?_
    refine Ev.pos (by omega) ?_
    refine Ev.pos (by omega) ?_
    refine Ev.sb ?_
    refine Ev.pos (by omega) ?_
    refine Ev.pos (by simp; omega) ?_
    rw [Int.toNat_natCast, Int.toNat_natCast, Int.toNat_natCast, replicate_tab, tab_set]
    have hsl : s' < g.length := by omega
    have hu := unseen_le g.length (fun j => if j = s' then true else false)
    have hu2 : unseen g.length (fun j => if j = s' then true else false) + 1 = g.length := by
      have h := unseen_mark (p := fun _ => false) hsl rfl
      have e : unseen g.length (fun _ => false) = g.length := by
        unfold unseen
        have : ∀ m, sumN m (fun x => if (fun (_ : Nat) => false) x = true then 0 else 1) = m := by
          intro m
          induction m with
          | zero => rfl
          | succ m ih => rw [sumN, ih]; simp
        exact this _
      rw [e] at h
      exact h
    refine reaches_l0 hv hs s' t' (by omega) g.length hn (fun j => if j = s' then true else false) [s'] ⟨by simp, fun x hx => ?_, fun x hx => ?_, fun x hx => ?_, fun x hx => ?_, fun _ _ h => by cases h⟩ (by simpa using hu2)
    · have : x = s' := by simpa using hx
      exact ⟨0, this⟩
    · have : x = s' := by simpa using hx
      omega
    · rw [List.mem_singleton.1 hx]; simp
    · have : x = s' := by simpa using hx
      exact Or.inl (List.mem_singleton.2 this)
  · rw [if_neg h0]
    exact Ev.neg h0 (Ev.now _)
end Go.Proofs.Ytcgnbmdhjehieaa.PureC
