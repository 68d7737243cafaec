import Derived.Test.YtibphkgcdnconaaWWords
import Derived.Test.YtibphkgcdnconaaWLast
import Derived.Test.YtibphkgcdnconaaWMore
import Derived.Shelf.Abstract
namespace Go.Proofs.YtibphkgcdnconaaX
open Go Go.RowKit Go.Proofs.YtibphkgcdnconaaW.PrintWords Go.Proofs.YtibphkgcdnconaaW.PrintLast
set_option linter.unusedVariables false
set_option linter.unusedSimpArgs false
def idxM {α : Type} (p : α → Option Bool) : List α → Int → Option Int
  | [], _ => some (-1)
  | x :: xs, i => (p x).bind fun b => if b = true then some i else idxM p xs (i + 1)
def anyM {α : Type} (p : α → Option Bool) : List α → Option Bool
  | [] => some false
  | x :: xs => (p x).bind fun b => if b = true then some true else anyM p xs
theorem idxM_any {α : Type} {p : α → Option Bool} : ∀ (xs : List α) (i : Int), 0 ≤ i → ∀ r, anyM p xs = some r → ∃ j, idxM p xs i = some j ∧ decide (j ≥ 0) = r
  | [], i, _, r, h => ⟨-1, rfl, by simp only [anyM, Option.some.injEq] at h; subst h; rfl⟩
  | x :: xs, i, hi, r, h => by
    simp only [anyM] at h
    obtain ⟨b, hb, h⟩ := Option.bind_eq_some_iff.1 h
    cases b with
    | true =>
      simp only [if_true, Option.some.injEq] at h
      subst h
      exact ⟨i, by simp [idxM, hb], by simpa using hi⟩
    | false =>
      simp only [Bool.false_eq_true, if_false] at h
      obtain ⟨j, hj, hd⟩ := idxM_any xs (i + 1) (by omega) r h
      exact ⟨j, by simp [idxM, hb, hj], hd⟩
def PredM {α : Type} (P : Program) (g : Nat) (lb : Array Value) (enc : α → Value) (p : α → Option Bool) (w : World) : Prop :=
  ∀ (W : World) (x : α) (r : Bool), Below w.heap.size w W → p x = some r → Calls P g (#[enc x] ++ lb) W fun e w' => e = .returned (.bool r) ∧ Below w.heap.size w w'
@[go_sem] theorem store_func {P : Program} {w : World} (a : Addr) (m : Mode) (fn : Fn) (first captured : Array Value) : (store a (.func fn first captured) m).run P w = stored P w a (.func fn first captured) m := run_store P w a _ m rfl
@[go_sem] theorem store_nilFunc {P : Program} {w : World} (a : Addr) (m : Mode) : (store a .nilFunc m).run P w = stored P w a .nilFunc m := run_store P w a _ m rfl
theorem odt {p : Prop} [Decidable p] (h : decide p = true := by first | with_reducible assumption | assumption) : p := of_decide_eq_true h
end Go.Proofs.YtibphkgcdnconaaX
