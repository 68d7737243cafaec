/- Places inside of a value: what lies there, where it lies in memory, and what the whole becomes when it is written. -/
import Derived.Test.YtibphkgcdnconaaVA
namespace Go.Proofs.Ytibphkgcdnconaa.V
open Go
set_option linter.unusedVariables false
set_option linter.all false
inductive Step where
  | el (i : Nat) | f1 | f2
  deriving DecidableEq
abbrev Path := List Step
abbrev Dyn := (t : Ty) × t.den
def getP : (t : Ty) → t.den → Path → Option Dyn
  | t, x, [] => some ⟨t, x⟩
  | .sl t, xs, .el i :: p => match xs[i]? with
    | some x => getP t x p
    | none => none
  | .arr _ t, xs, .el i :: p => match xs[i]? with
    | some x => getP t x p
    | none => none
  | .pair a _, x, .f1 :: p => getP a x.1 p
  | .pair _ b, x, .f2 :: p => getP b x.2 p
  | _, _, _ => none
def tyP : Ty → Path → Option Ty
  | t, [] => some t
  | .sl t, .el _ :: p => tyP t p
  | .arr _ t, .el _ :: p => tyP t p
  | .pair a _, .f1 :: p => tyP a p
  | .pair _ b, .f2 :: p => tyP b p
  | _, _ => none
/-- The mark at a place; none where the way there leads through shared memory. -/
def mkP : Ty → Mk → Path → Option Mk
  | _, m, [] => some m
  | .sl t, .ow m, .el _ :: p => mkP t m p
  | .arr _ t, m, .el _ :: p => mkP t m p
  | .pair a _, m, .f1 :: p => mkP a m.l p
  | .pair _ b, m, .f2 :: p => mkP b m.r p
  | _, _, _ => none
def Dyn.as (d : Dyn) (t : Ty) (x : t.den) : t.den := if h : d.1 = t then h ▸ d.2 else x
def setP : (t : Ty) → t.den → Path → Dyn → t.den
  | t, x, [], d => d.as t x
  | .sl t, xs, [.el i], d => xs.set i (d.as t t.zero)
  | .sl t, xs, .el i :: p, d => xs.modify i fun x => setP t x p d
  | .arr _ t, xs, [.el i], d => xs.set i (d.as t t.zero)
  | .arr _ t, xs, .el i :: p, d => xs.modify i fun x => setP t x p d
  | .pair a _, x, .f1 :: p, d => (setP a x.1 p d, x.2)
  | .pair _ b, x, .f2 :: p, d => (x.1, setP b x.2 p d)
  | _, x, _, _ => x

theorem Dyn.as_ty {d : Dyn} {t : Ty} (h : d.1 = t) (x y : t.den) : d.as t x = d.as t y := by
  unfold Dyn.as; rw [dif_pos h, dif_pos h]
theorem getP_ty : ∀ {p : Path} {t : Ty} {x : t.den} {d : Dyn}, getP t x p = some d → tyP t p = some d.1
  | [], t, x, d, h => by cases t <;> (simp only [getP, Option.some.injEq] at h; subst h; rfl)
  | .el i :: p, .sl t, xs, d, h => by
    simp only [getP] at h; split at h
    · exact getP_ty (p := p) h
    · cases h
  | .el i :: p, .arr n t, xs, d, h => by
    simp only [getP] at h; split at h
    · exact getP_ty (p := p) h
    · cases h
  | .f1 :: p, .pair a b, x, d, h => getP_ty (p := p) (t := a) h
  | .f2 :: p, .pair a b, x, d, h => getP_ty (p := p) (t := b) h
  | .f1 :: p, .bool, _, _, h | .f1 :: p, .int _, _, _, h | .f1 :: p, .str, _, _, h | .f1 :: p, .unit, _, _, h | .f1 :: p, .arr _ _, _, _, h | .f1 :: p, .sl _, _, _, h | .f1 :: p, .mp _ _, _, _, h | .f1 :: p, .ex _ _ _, _, _, h => by cases h
  | .f2 :: p, .bool, _, _, h | .f2 :: p, .int _, _, _, h | .f2 :: p, .str, _, _, h | .f2 :: p, .unit, _, _, h | .f2 :: p, .arr _ _, _, _, h | .f2 :: p, .sl _, _, _, h | .f2 :: p, .mp _ _, _, _, h | .f2 :: p, .ex _ _ _, _, _, h => by cases h
  | .el _ :: p, .bool, _, _, h | .el _ :: p, .int _, _, _, h | .el _ :: p, .str, _, _, h | .el _ :: p, .unit, _, _, h | .el _ :: p, .pair _ _, _, _, h | .el _ :: p, .mp _ _, _, _, h | .el _ :: p, .ex _ _ _, _, _, h => by cases h
theorem getElem?_modify_ {α : Type} (l : List α) (i j : Nat) (f : α → α) : (l.modify i f)[j]? = if i = j then (l[j]?).map f else l[j]? := by
  rw [List.getElem?_modify]; split <;> simp_all
theorem setP_sl {t : Ty} (xs : List t.den) (i : Nat) (p : Path) (d : Dyn) (h : tyP t p = some d.1) (j : Nat) :
    (setP (.sl t) xs (.el i :: p) d)[j]? = if i = j then (xs[j]?).map (fun x => setP t x p d) else xs[j]? := by
  cases p with
  | nil =>
    have h1 : d.1 = t := by cases t <;> exact (Option.some.inj h).symm
    have e : ∀ x, setP t x [] d = d.as t x := fun x => by cases t <;> rfl
    simp only [setP, e, List.getElem?_set]
    split
    · rename_i hij
      subst hij
      split
      · rename_i hl
        rw [List.getElem?_eq_getElem hl, Option.map_some, d.as_ty h1]
      · rename_i hl
        rw [List.getElem?_eq_none (by omega)]; rfl
    · rfl
  | cons s p => simp only [setP]; exact getElem?_modify_ _ _ _ _
theorem setP_sl_len {t : Ty} (xs : List t.den) (i : Nat) (p : Path) (d : Dyn) : (setP (.sl t) xs (.el i :: p) d : List t.den).length = xs.length := by
  cases p <;> simp [setP]
theorem setP_arr {n : Nat} {t : Ty} (xs : List t.den) (i : Nat) (p : Path) (d : Dyn) : setP (.arr n t) xs (.el i :: p) d = setP (.sl t) xs (.el i :: p) d := by
  cases p <;> rfl

/-! ### where it lies -/
def addrOf (w : World) : Ty → List Value → Option (Nat × Nat) → Path → Option (Nat × Nat)
  | _, _, here, [] => here
  | .sl t, cs, _, .el i :: p => match cs with
    | [.slice (some a) _ _] => addrOf w t ((List.range t.size).map fun j => (w.cell? ⟨a.block, a.off + i * t.size + j, none⟩).getD (.tuple #[])) (some (a.block, a.off + i * t.size)) p
    | _ => none
  | .arr _ t, cs, here, .el i :: p => addrOf w t ((cs.drop (i * t.size)).take t.size) (here.map fun h => (h.1, h.2 + i * t.size)) p
  | .pair a _, cs, here, .f1 :: p => addrOf w a (cs.take a.size) here p
  | .pair a b, cs, here, .f2 :: p => addrOf w b (cs.drop a.size) (here.map fun h => (h.1, h.2 + a.size)) p
  | _, _, _, _ => none
def subc (w : World) : Ty → List Value → Path → Option (List Value)
  | _, cs, [] => some cs
  | .sl t, cs, .el i :: p => match cs with
    | [.slice (some a) _ _] => subc w t ((List.range t.size).map fun j => (w.cell? ⟨a.block, a.off + i * t.size + j, none⟩).getD (.tuple #[])) p
    | _ => none
  | .arr _ t, cs, .el i :: p => subc w t ((cs.drop (i * t.size)).take t.size) p
  | .pair a _, cs, .f1 :: p => subc w a (cs.take a.size) p
  | .pair a b, cs, .f2 :: p => subc w b (cs.drop a.size) p
  | _, _, _ => none
/-- The cells cs lie from cell o of block b on. -/
abbrev At (w : World) (b o : Nat) (cs : List Value) : Prop := At_ w b o cs
theorem At.app {w : World} {b o : Nat} {c1 c2 : List Value} : At w b o (c1 ++ c2) ↔ At w b o c1 ∧ At w b (o + c1.length) c2 := by
  constructor
  · intro h
    refine ⟨fun j hj => ?_, fun j hj => ?_⟩
    · rw [h j (by simp; omega), List.getElem?_append_left hj]
    · rw [show o + c1.length + j = o + (c1.length + j) by omega, h (c1.length + j) (by simp; omega), List.getElem?_append_right (by omega)]; congr 1; omega
  · rintro ⟨h1, h2⟩ j hj
    by_cases hl : j < c1.length
    · rw [h1 j hl, List.getElem?_append_left hl]
    · rw [show o + j = o + c1.length + (j - c1.length) by omega, h2 (j - c1.length) (by simp at hj; omega), List.getElem?_append_right (by omega)]
/-- w' is w but for n cells from o on of block b. -/
structure Out (w w' : World) (b o n : Nat) : Prop where
  cell : ∀ j, (j < o ∨ o + n ≤ j) → w'.cell? ⟨b, j, none⟩ = w.cell? ⟨b, j, none⟩
  row : ∀ c e, w.heap[b]? = some (.cells c e (0, 0)) → ∃ c', w'.heap[b]? = some (.cells c' e (0, 0)) ∧ c'.size = c.size
theorem At.out {w w' : World} {b o n b' o' : Nat} {cs : List Value} (h : At w b' o' cs) (hb : b' ≠ b → w'.heap[b']? = w.heap[b']?) (ho : Out w w' b o n) (hd : b' = b → o' + cs.length ≤ o ∨ o + n ≤ o') : At w' b' o' cs := by
  intro j hj
  by_cases e : b' = b
  · subst e; rw [ho.cell _ (by rcases hd rfl with h | h <;> omega)]; exact h j hj
  · rw [← h j hj]; exact World.cell?_of_block (a := ⟨b', _, none⟩) (hb e)
/-- A row of cells, no part of which is frozen. -/
def Own (w : World) (b : Nat) : Prop := ∃ c e, w.heap[b]? = some (.cells c e (0, 0))
/-- What may be said of a place (b, o) inside of a value that lies in block b0. -/
structure Focus (Z : Bs) (w : World) (t : Ty) (m : Mk) (x : t.den) (fp : Bs) (b0 o0 : Nat) (p : Path) (t' : Ty) (m' : Mk) (x' : t'.den) (b o : Nat) (cs' : List Value) (fp' : Bs) : Prop where
  rep : Rep Z w t' m' x' fp' cs'
  at_ : At w b o cs'
  sub : ∀ k, fp' k → fp k
  not : ¬ fp' b
  blk : Own w b
  here : (b = b0 ∧ o0 ≤ o ∧ o + t'.size ≤ o0 + t.size) ∨ fp b
  put : ∀ (w' : World) (y : t'.den) (cs'' : List Value) (fp'' : Bs), (∀ k, Z k → w'.heap[k]? = w.heap[k]?) → (∀ k, (fp k ∧ ¬ fp' k ∨ k = b0) → k ≠ b → w'.heap[k]? = w.heap[k]?) → Out w w' b o t'.size →
    Rep Z w' t' m' y fp'' cs'' → At w' b o cs'' → (∀ k, fp'' k → fp k → fp' k) → ¬ fp'' b → ¬ fp'' b0 →
    ∃ cs1, Rep Z w' t m (setP t x p ⟨t', y⟩) (fun k => (fp k ∧ ¬ fp' k) ∨ fp'' k) cs1 ∧ At w' b0 o0 cs1 ∧ subc w' t cs1 p = some cs''
end Go.Proofs.Ytibphkgcdnconaa.V
