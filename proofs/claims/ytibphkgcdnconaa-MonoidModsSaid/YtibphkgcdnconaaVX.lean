/- Regions and code of the small machine. -/
import Derived.Test.YtibphkgcdnconaaVW
namespace Go.Proofs.Ytibphkgcdnconaa.V
open Go
set_option linter.unusedVariables false
set_option linter.all false
section
variable {R : Type} {E : Env} {look : Nat → Option Slot} {h : OH} (K : MV → Ups → Option R)
abbrev S2 : MV → Ups → Option (MV × Ups) := fun m u => some (m, u)
abbrev B2 {R : Type} (x : Option (MV × Ups)) (K : MV → Ups → Option R) : Option R := x.bind fun p => K p.1 p.2
theorem chk_bind {A : Type} (b : Bool) (k : Option A) (f : A → Option R) : (chk b k).bind f = chk b (k.bind f) := by cases b <;> rfl
theorem cond_bind {A : Type} (b : Bool) (k l : Option A) (f : A → Option R) : (bif b then k else l).bind f = bif b then k.bind f else l.bind f := by cases b <;> rfl
theorem bind_bind {A B : Type} (x : Option A) (g : A → Option B) (f : B → Option R) : (x.bind g).bind f = x.bind fun y => (g y).bind f := by cases x <;> rfl
theorem binK_bind (xt : TypeId) (op : BinOp) (a b : MV) : binK E xt op a b K = B2 (binK E xt op a b S2) K := by
  unfold binK
  split
  · split <;> simp only [B2, S2, cond_bind, Option.bind_none, Option.bind_some]
    · split <;> simp only [cond_bind, Option.bind_none, Option.bind_some]
    · split <;> simp only [cond_bind, Option.bind_none, Option.bind_some]
    · split
      · split <;> rfl
      · rfl
  · simp only [B2, S2, cond_bind, Option.bind_none]
    split <;> rfl
  · split <;> simp only [B2, S2, chk_bind, Option.bind_none, Option.bind_some]
  · rfl
theorem eqK_bind (xt : TypeId) (op : BinOp) (a b : MV) : eqK E xt op a b K = B2 (eqK E xt op a b S2) K := by
  unfold eqK
  split
  · simp only [B2, S2, cond_bind, Option.bind_none]
    congr 1
    split
    · split <;> rfl
    · rfl
  · simp only [B2, S2, cond_bind, Option.bind_none]
    congr 1
    split
    · split <;> rfl
    · rfl
  · exact binK_bind K _ _ _ _
theorem nilK_bind (xt : TypeId) (op : BinOp) (a : MV) : nilK E xt op a K = B2 (nilK E xt op a S2) K := by
  unfold nilK
  split
  · simp only [B2, S2, cond_bind, Option.bind_none]
    congr 1
    split <;> rfl
  · rfl
theorem newSlot_bind (c : SlotC) (us : Ups) (mk : Nat → Nat → MV) : newSlot look h c us mk K = B2 (newSlot look h c us mk S2) K := by
  unfold newSlot
  split
  · split
    · simp only [B2, S2, cond_bind, Option.bind_none, Option.bind_some]
    · rfl
  · rfl
theorem storeK_bind (ad v : MV) : storeK look ad v K = B2 (storeK look ad v S2) K := by
  unfold storeK
  split
  · split
    · split
      · split
        · simp only [B2, S2, cond_bind, chk_bind, Option.bind_none, Option.bind_some]
        · split
          · simp only [B2, S2, cond_bind, Option.bind_none, Option.bind_some]
          · rfl
      · rfl
    · rfl
  · rfl
theorem callK_bind (f : FuncId) (args caps : MV) : callK E look h f args caps K = B2 (callK E look h f args caps S2) K := by
  unfold callK
  simp only [B2, cond_bind, Option.bind_none]
  congr 1
  split
  · split
    · simp only [cond_bind, Option.bind_none]
      congr 1
      split
      · split
        · rw [bind_bind]
          congr 1
          funext r
          split
          · split <;> rfl
          · rfl
        · rfl
      · rfl
    · rfl
  · rfl
theorem appendK_bind (tid : TypeId) (base src : MV) : appendK E look h tid base src K = B2 (appendK E look h tid base src S2) K := by
  unfold appendK
  split
  · split
    · split
      · split
        · split
          · simp only [B2, S2, cond_bind, chk_bind, Option.bind_none, Option.bind_some]
          · rfl
        · rfl
      · rfl
    · split
      · split
        · split
          · simp only [B2, S2, cond_bind, chk_bind, Option.bind_none, Option.bind_some]
          · rfl
        · rfl
      · rfl
    · split
      · simp only
        split
        · split
          · split
            · simp only [B2, S2, cond_bind, chk_bind, Option.bind_none, Option.bind_some]
            · rfl
          · rfl
        · rfl
      · rfl
    · rfl
  · rfl
theorem opCore_bind (ρ : Operand → MV) (o : Oper) : opCore E ρ look o h K = B2 (opCore E ρ look o h S2) K := by
  unfold opCore
  split
  · rfl
  · split
    · split
      · exact newSlot_bind K _ _ _
      · rfl
    · rfl
  · split
    · split
      · rfl
      · simp only [B2, S2, cond_bind, Option.bind_some]
    · rfl
  · simp only [B2, cond_bind]
    congr 1
    · exact nilK_bind K _ _ _
    · exact eqK_bind K _ _ _ _
  · split <;> rfl
  · split <;> rfl
  · split
    · split <;> rfl
    · split <;> rfl
    · rfl
  · split
    · simp only [B2, S2, cond_bind, Option.bind_none, Option.bind_some]
    · rfl
    · simp only [B2, S2, bind_bind, Option.bind_some]
    · rfl
  · split
    · exact newSlot_bind K _ _ _
    · rfl
  · split
    · split
      · exact newSlot_bind K _ _ _
      · rfl
    · rfl
  · split
    · split
      · simp only [B2, S2, cond_bind, Option.bind_none, Option.bind_some]
      · rfl
    · rfl
  · split
    · split
      · simp only [B2, chk_bind]; congr 1; exact newSlot_bind K _ _ _
      · rfl
    · rfl
  · split
    · split
      · simp only [B2, chk_bind]; congr 3; exact newSlot_bind K _ _ _
      · rfl
    · rfl
  · split
    · simp only [B2, cond_bind, Option.bind_none]; congr 1; split <;> rfl
    · simp only [B2, S2, cond_bind, Option.bind_none, Option.bind_some]
    · simp only [B2, S2, cond_bind, Option.bind_none, Option.bind_some]
    · rfl
  · split
    · simp only [B2, cond_bind, Option.bind_none]; congr 1; exact storeK_bind K _ _
    · rfl
  · split
    · simp only [B2, cond_bind, Option.bind_none]; congr 1; split
      · simp only [S2, cond_bind, Option.bind_none, Option.bind_some]
      · rfl
    · simp only [B2, cond_bind, Option.bind_none]; congr 1; split
      · simp only [S2, cond_bind, Option.bind_none, Option.bind_some]
      · rfl
    · rfl
  · split
    · simp only [B2, cond_bind, Option.bind_none]; congr 1; split <;> rfl
    · rfl
  · split
    · split
      · simp only [B2, cond_bind, Option.bind_none, bind_bind]; rfl
      · rfl
    · rfl
  · split
    · simp only [B2, S2, cond_bind, Option.bind_none, Option.bind_some]
    · rfl
  · split
    · split
      · exact callK_bind K _ _ _
      · rfl
    · split
      · split
        · split <;> rfl
        · simp only [B2, S2, cond_bind, Option.bind_none, Option.bind_some]
        · split
          · simp only [B2, S2, cond_bind, Option.bind_none, Option.bind_some]
          · rfl
      · rfl
    · split
      · simp only [B2, cond_bind, Option.bind_none]; congr 1; exact appendK_bind K _ _ _
      · rfl
    · split
      · split <;> rfl
      · rfl
    · split
      · split <;> rfl
      · rfl
    · rfl
  · rfl
end
end Go.Proofs.Ytibphkgcdnconaa.V
