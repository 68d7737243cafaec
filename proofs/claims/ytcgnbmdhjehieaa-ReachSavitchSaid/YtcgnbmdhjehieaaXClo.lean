/- Functions handed over as values: what is asked of one, and what a search by one comes to. -/
import Derived.Test.YtcgnbmdhjehieaaWWords
import Derived.Test.YtcgnbmdhjehieaaWLast
import Derived.Test.YtcgnbmdhjehieaaWMore
import Derived.Shelf.Abstract
namespace Go.Proofs.YtcgnbmdhjehieaaX
open Go Go.RowKit Go.Proofs.YtcgnbmdhjehieaaW.PrintWords Go.Proofs.YtcgnbmdhjehieaaW.PrintLast
set_option linter.unusedVariables false
set_option linter.unusedSimpArgs false

/-- The place, from i on, of the first element that p takes; -1 where there is none. -/
def idxM {α : Type} (p : α → Option Bool) : List α → Int → Option Int
  | [], _ => some (-1)
  | x :: xs, i => (p x).bind fun b => if b = true then some i else idxM p xs (i + 1)
/-- Does p take an element? (It is asked in order, up to the first.) -/
def anyM {α : Type} (p : α → Option Bool) : List α → Option Bool
  | [] => some false
  | x :: xs => (p x).bind fun b => if b = true then some true else anyM p xs

theorem idxM_le {α : Type} {p q : α → Option Bool} (h : ∀ x, LeO (p x) (q x)) : ∀ (xs : List α) (i : Int), LeO (idxM p xs i) (idxM q xs i)
  | [], _ => LeO.refl _
  | _ :: xs, i => LeO.bind (h _) fun b => LeO.ite (LeO.refl _) (idxM_le h xs (i + 1))
theorem anyM_le {α : Type} {p q : α → Option Bool} (h : ∀ x, LeO (p x) (q x)) : ∀ (xs : List α), LeO (anyM p xs) (anyM q xs)
  | [] => LeO.refl _
  | _ :: xs => LeO.bind (h _) fun b => LeO.ite (LeO.refl _) (anyM_le h xs)
theorem idxM_any {α : Type} {p : α → Option Bool} : ∀ (xs : List α) (i : Int), 0 ≤ i → ∀ r, anyM p xs = some r → ∃ j, idxM p xs i = some j ∧ decide (j ≥ 0) = r
  | [], i, _, r, h => ⟨-1, rfl, by simp only [anyM, Option.some.injEq] at h; subst h; rfl⟩
  | x :: xs, i, hi, r, h => by
    simp only [anyM] at h
    obtain ⟨b, hb, h⟩ := Option.bind_eq_some_iff.1 h
    cases b with
    | true =>
      simp only [if_true, Option.some.injEq] at h
      subst h
      exact ⟨i, by simp [idxM, hb], by simpa using hi⟩
    | false =>
      simp only [Bool.false_eq_true, if_false] at h
      obtain ⟨j, hj, hd⟩ := idxM_any xs (i + 1) (by omega) r h
      exact ⟨j, by simp [idxM, hb, hj], hd⟩
theorem anyM_some {α : Type} {p : α → Option Bool} {q : α → Bool} : ∀ (xs : List α), (∀ x ∈ xs, p x = some (q x)) → anyM p xs = some (xs.any q)
  | [], _ => rfl
  | x :: xs, h => by
    simp only [anyM, h x (List.mem_cons_self), Option.bind_some, List.any_cons]
    rw [anyM_some xs (fun y hy => h y (List.mem_cons_of_mem _ hy))]
    cases q x <;> simp

/-- A region that draws: more is known from here on. -/
theorem more_ {P : Program} {md : Region.Mode} {ops : Array Oper} {Q : Exit → Act → World → Prop} {S : World → Prop} (S2 : World → Prop) (hi : ∀ w, S2 w → S w) {fuel : Nat} {l : Array Bool} {a : Act} {w : World} (hS : S2 w)
    (h : S2 w → wpAnyLast P md ops Q S2 [] fuel l a w) : wpAnyLast P md ops Q S [] fuel l a w := by
  have key : ∀ (fuel : Nat) (l : Array Bool) (a : Act) (w : World), S2 w → wpAnyLast P md ops Q S2 [] fuel l a w → wpAnyLast P md ops Q S [] fuel l a w := by
    intro fuel
    induction fuel with
    | zero => intro l a w _ h; exact h
    | succ n ih =>
      intro l a w hS h
      exact ⟨h.1, fun i hi' => wpOp_mono (fun a' w' h' => ⟨fun _ _ => hi _ (h'.1 (by simp) hS), ih _ _ _ (h'.1 (by simp) hS) h'.2⟩) (h.2 i hi')⟩
  exact key _ _ _ _ hS (h hS)

/-- What is asked of a function value g with what it captured (lb): at every element that p answers, in every world in which w's blocks lie as they lay, it answers so and leaves them. -/
def PredM {α : Type} (P : Program) (g : Nat) (lb : Array Value) (enc : α → Value) (p : α → Option Bool) (w : World) : Prop :=
  ∀ (W : World) (x : α) (r : Bool), Below w.heap.size w W → p x = some r → Calls P g (#[enc x] ++ lb) W fun e w' => e = .returned (.bool r) ∧ Below w.heap.size w w'

theorem below_go {w W W' : World} (h : Below w.heap.size w W) (k : Below W.heap.size W W') : Below w.heap.size w W' := below_then h h.size k
end Go.Proofs.YtcgnbmdhjehieaaX
