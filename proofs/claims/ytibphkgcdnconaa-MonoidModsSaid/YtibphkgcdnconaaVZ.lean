/- All operations. -/
import Derived.Test.YtibphkgcdnconaaVY3
namespace Go.Proofs.Ytibphkgcdnconaa.V
open Go
set_option linter.unusedVariables false
set_option linter.all false
def isM (o : Oper) : Bool :=
  match o.op with
  | .makeMap .. => true
  | .lookup .. => true
  | .mapUpdate .. => true
  | .build .. => true
  | .index .. => true
  | .indexAddr .. => true
  | .call _ => true
  | _ => false
def opW {R : Type} (E : Env) (ρ : Operand → MV) (look : Nat → Option Slot) (o : Oper) (h : OH) (K : MV → Ups → Option R) : Option R :=
  bif isM o && Nat.beq h.fl 4 then opM E ρ look o h K else opX E ρ look o h K
section
variable {E : Env} {R : Type} {o : Oper} {a : Act} {w : World} {Z : Bs} {sl : Nat → Option Slot} {hdr : Nat → Value} {fp : Nat → Bs} {mv : MV} {ρ : Operand → MV}
theorem opW_bind {h : OH} {K : MV → Ups → Option R} : opW E ρ sl o h K = B2 (opW E ρ sl o h S2) K := by
  unfold opW
  cases (isM o && Nat.beq h.fl 4) with
  | true => exact opM_bind ..
  | false => exact opX_bind ..
theorem opW_ok (hT : TTok E) (hE : EnvOK E) (H : HR Z w sl hdr fp) (hr0 : ∃ r0, sl r0 = none) {h : OH} {us : Ups} (hρ : ∀ x, RelV Z w sl hdr fp (ρ x) (a.eval x)) (hh : opW E ρ sl o h (fun m u => some (m, u)) = some (mv, us)) : OpOK E o a w Z sl hdr fp mv (us.look sl) := by
  unfold opW at hh
  cases hc : (isM o && Nat.beq h.fl 4) with
  | true => rw [hc] at hh; exact opM_ok hT H hρ hh
  | false => rw [hc] at hh; exact opX_ok hT hE H hr0 hρ hh
end
end Go.Proofs.Ytibphkgcdnconaa.V
