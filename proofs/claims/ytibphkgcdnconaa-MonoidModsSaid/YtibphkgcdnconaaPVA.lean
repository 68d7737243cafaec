/- Models, run to their values: loops, reads, words. -/
import Derived.Test.YtibphkgcdnconaaWA
namespace Go.Proofs.Ytibphkgcdnconaa.V
open Go
set_option linter.unusedVariables false
set_option linter.all false
/-- Fuel enough for every loop. -/
def Fu (n : Nat) : Prop := 1180591620717411303424 ≤ n
theorem Fu.le {n m : Nat} (h : Fu n) (hm : m < 1180591620717411303424) : m < n := Nat.lt_of_lt_of_le hm h
theorem iterN_go {D O : Type} {f : D → Option (D ⊕ O)} (inv : Nat → D) {r : O} : ∀ (k i n : Nat), (∀ j, i ≤ j → j < i + k → f (inv j) = some (.inl (inv (j + 1)))) → f (inv (i + k)) = some (.inr r) → k < n → iterN f n (inv i) = some r
  | 0, i, n + 1, _, he, _ => by
    rw [Nat.add_zero] at he
    simp [iterN, he]
  | k + 1, i, n + 1, hs, he, hn => by
    simp only [iterN, hs i (Nat.le_refl _) (by omega), Option.bind_some, Sum.elim_inl]
    exact iterN_go inv k (i + 1) n (fun j h1 h2 => hs j (by omega) (by omega)) (by rw [show i + 1 + k = i + (k + 1) by omega]; exact he) (by omega)
/-- m rounds, then the end. -/
theorem loop_run {D O : Type} {f : D → Option (D ⊕ O)} {n : Nat} (hn : Fu n) (inv : Nat → D) (m : Nat) {d : D} {r : O} (hm : m < 1180591620717411303424) (hd : d = inv 0) (hs : ∀ i, i < m → f (inv i) = some (.inl (inv (i + 1)))) (he : f (inv m) = some (.inr r)) : iterN f n d = some r := by
  subst hd
  exact iterN_go inv m 0 n (fun j _ h => hs j (by omega)) (by rw [Nat.zero_add]; exact he) (hn.le hm)
/-- A search: the first place that isn't right ends it. -/
theorem loop_find {D O : Type} {f : D → Option (D ⊕ O)} {n : Nat} (hn : Fu n) (inv : Nat → D) (m : Nat) (P : Nat → Prop) {d : D} {r r' : O} (hm : m < 1180591620717411303424) (hd : d = inv 0) (hs : ∀ i, i < m → (∀ j, j < i → P j) → P i → f (inv i) = some (.inl (inv (i + 1))))
    (hb : ∀ i, i < m → (∀ j, j < i → P j) → ¬ P i → f (inv i) = some (.inr r')) (he : (∀ i, i < m → P i) → f (inv m) = some (.inr r)) : iterN f n d = some (@ite _ (∀ i, i < m → P i) (Classical.propDecidable _) r r') := by
  classical
  subst hd
  by_cases h : ∀ i, i < m → P i
  · rw [if_pos h]
    exact loop_run hn inv m hm rfl (fun i hi => hs i hi (fun j hj => h j (by omega)) (h i hi)) (he h)
  · rw [if_neg h]
    have hex : ∃ k, k < m ∧ (∀ j, j < k → P j) ∧ ¬ P k := by
      refine Classical.byContradiction fun hc => h ?_
      intro i
      induction i using Nat.strongRecOn with
      | ind i ih =>
        intro hi
        refine Classical.byContradiction fun hp => hc ⟨i, hi, fun j hj => ih j hj (by omega), hp⟩
    obtain ⟨k, hk, h1, h2⟩ := hex
    exact loop_run hn inv k (by omega) rfl (fun i hi => hs i (by omega) (fun j hj => h1 j (by omega)) (h1 i hi)) (hb k hk h1 h2)
theorem idx_at {α : Type} {xs : List α} {i : Int} (d : α) (h0 : 0 ≤ i) (h1 : i < (xs.length : Int)) : idx xs i = some (xs.getD i.toNat d) := by
  unfold idx
  rw [if_pos h0, List.getD_eq_getElem?_getD, List.getElem?_eq_getElem (by omega)]; rfl
theorem idx_nat {α : Type} {xs : List α} {k : Nat} (d : α) (h : k < xs.length) : idx xs (k : Int) = some (xs.getD k d) := by
  rw [idx_at d (by omega) (by omega), Int.toNat_natCast]
theorem wrap_id {x : Int} (h0 : -9223372036854775808 ≤ x) (h1 : x < 9223372036854775808) : IntKind.i64.wrap x = x := by
  have e : (2 : Int) ^ IntKind.i64.bits = 18446744073709551616 := by decide
  have e3 : (2 : Int) ^ (IntKind.i64.bits - 1) = 9223372036854775808 := by decide
  have e4 : IntKind.i64.signed = true := rfl
  simp only [IntKind.wrap, e, e3, e4, Bool.true_and, decide_eq_true_eq]
  by_cases h : 0 ≤ x
  · rw [Int.emod_eq_of_lt (by omega) (by omega)]; rw [if_neg (by omega)]
  · have : x % 18446744073709551616 = x + 18446744073709551616 := by omega
    rw [this, if_pos (by omega)]; omega
theorem up1 {i : Nat} (h : i < 4611686018427387904) : IntKind.i64.wrap ((i : Int) + 1) = ((i + 1 : Nat) : Int) := by
  rw [wrap_id (by omega) (by omega)]; omega
theorem lenB_ok_ {n : Nat} (h : n ≤ 68719476736) : lenB n = true := by simp [lenB, h]
theorem sameP_refl : ∀ p : Path, sameP p p = true
  | [] => rfl
  | .f1 :: p => sameP_refl p
  | .f2 :: p => sameP_refl p
  | .el i :: p => by simp [sameP, sameP_refl p]
/-! Straight code, from the outside inwards. -/
@[congr] theorem bind_cg {α β : Type} {x y : Option α} {f : α → Option β} (h : x = y) : Option.bind x f = Option.bind y f := by rw [h]
@[congr] theorem cond_cg {α : Type} {c d : Bool} {a b : α} (h : c = d) : cond c a b = cond d a b := by rw [h]
@[congr] theorem elim_cg {α β γ : Type} {f : α → γ} {g : β → γ} {x y : α ⊕ β} (h : x = y) : Sum.elim f g x = Sum.elim f g y := by rw [h]
@[congr] theorem chk_cg {R : Type} {b c : Bool} {k : Option R} (h : b = c) : chk b k = chk c k := by rw [h]
theorem chk_true {R : Type} {k : Option R} : chk true k = k := rfl
theorem dpos {p : Prop} [Decidable p] (h : p) : decide p = true := decide_eq_true h
theorem dneg {p : Prop} [Decidable p] (h : ¬ p) : decide p = false := decide_eq_false h
/-! ### rows and tables -/
def row (g : List (List Int)) (u : Nat) : List Int := g.getD u []
def rd (l : List Int) (i : Int) : Int := l.getD i.toNat 0
theorem row_mem {g : List (List Int)} {u : Nat} (h : u < g.length) : row g u ∈ g := by
  unfold row; rw [List.getD_eq_getElem?_getD, List.getElem?_eq_getElem h]; exact List.getElem_mem h
theorem idx_row {g : List (List Int)} {u : Nat} (h : u < g.length) : idx g (u : Int) = some (row g u) := idx_nat [] h
theorem idx_rd {l : List Int} {i : Int} (h0 : 0 ≤ i) (h : i < (l.length : Int)) : idx l i = some (rd l i) := idx_at 0 h0 h
end Go.Proofs.Ytibphkgcdnconaa.V
