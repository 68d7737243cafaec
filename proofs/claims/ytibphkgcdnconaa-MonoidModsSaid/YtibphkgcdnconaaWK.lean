/- A law's call, from what is told of it. -/
import Derived.Below
import Derived.KernelRfl
import Derived.Carry
import Derived.Test.YtibphkgcdnconaaWJ
namespace Go.Proofs.Ytibphkgcdnconaa.V
open Go Go.RowKit
set_option linter.unusedVariables false
set_option linter.all false
theorem law_calls {P : Program} {f : FuncId} {as : List MS} {M : denT (denIO []) (shp as 0) → Option (outD (Ty.den (.pair .bool .unit)) [])} (ok : (FS.mk f as [] [] (.pair .bool .unit) .im M).OK P) {arg : Arg} {d : denT (denIO []) (shp as 0)} (ha : raL (S := denIO []) () as 0 arg = some d)
    (hM : M d = some ((true, ()) : Ty.den (.pair .bool .unit))) {W : World} {vs : List Value} (hA : RepA (Old W) W 0 (fun _ => undef) arg vs) : Calls P f vs.toArray W fun e W' => e = .returned (.bool true) ∧ Below W.heap.size W W' := by
  obtain ⟨_, h⟩ := ok arg [] ⟨outD (Ty.den (.pair .bool .unit)) [], M d, .pair .bool .unit, .im, out1 [], fun r => wrIO [] 0 (out2 [] r) ++ List.replicate 0 none⟩ (by
    have e : ∀ o : Option (denT (denIO []) (shp as 0)), o = some d → (match o with
      | some d => some (CallRes.mk (outD (Ty.den (.pair .bool .unit)) []) (M d) (.pair .bool .unit) .im (out1 []) (fun r => wrIO [] 0 (out2 [] r) ++ List.replicate 0 none))
      | none => none) = some ⟨outD (Ty.den (.pair .bool .unit)) [], M d, .pair .bool .unit, .im, out1 [], fun r => wrIO [] 0 (out2 [] r) ++ List.replicate 0 none⟩ := fun o ho => by rw [ho]
    exact Eq.trans (by kernel_rfl) (e _ ha))
  refine (h ((true, ()) : Ty.den (.pair .bool .unit)) hM (Old W) W (fun _ => undef) (fun _ => none_) vs ⟨fun k hv cv c h => by simp [ioSl] at h, fun k hv cv c h => by simp [ioSl] at h, fun k k' b h => h.elim, fun k b h => h.elim, fun _ h => h, fun k b h => h.elim⟩ (fun k b h => h.elim) hA).mono fun e W' ⟨Z', fp', F, us, Q⟩ => ⟨?_, Q.os, Q.tape, Q.output, Q.size, fun b hb => Q.old b hb (fun k h => h)⟩
  obtain ⟨v, vs', cs, f1, f2, e1, r1, e2, r2, _⟩ := Q.rep
  rw [Q.ret, e1, show vs' = [] from r2, e2, show cs = [.bool true] from r1]
  rfl
/-- An argument read as data, ready to be handed over. -/
theorem arg_agg {P : Program} {t : Ty} {tid : TypeId} (ho : OpnV P t tid) {H : Type} {enc : TypeId × Value → H} {w : World} {sp : Nat → Bool} {hd : Bool} {fuel : Nat} {v : Value} {x : DataW H × List MemPlace}
    (h : DataW.trod enc P w 0 sp hd fuel tid v.cells.toList = some x) (hw : ∀ n ∈ DataW.weights P tid x.1, n ≤ reachBytes) (hv : v = t.val v.cells.toList) : ∃ a : t.den, RepA (Old w) w 0 (fun _ => undef) (.dyn t a) [v] ∧ Wf t a := by
  obtain ⟨a, h1, h2⟩ := ho h hw
  exact ⟨a, ⟨_, h1, by rw [← hv]⟩, h2⟩
theorem repA_cons {Z : Bs} {w : World} {n : Nat} {hd : Nat → Value} {x y : Arg} {v : Value} {vs : List Value} (h1 : RepA Z w n hd x [v]) (h2 : RepA Z w n hd y vs) : RepA Z w n hd (.tc x y) (v :: vs) := ⟨v, vs, rfl, h1, h2⟩
theorem repA_nil {Z : Bs} {w : World} {n : Nat} {hd : Nat → Value} : RepA Z w n hd .tn [] := rfl
theorem tab_mem {tid : TypeId} {t : Ty} {n : Nat} : ∀ {l : Tab}, Tab.tt l tid = some (t, n) → (tid, t, n) ∈ l
  | [], h => by cases h
  | c :: l, h => by
    simp only [Tab.tt] at h
    cases hb : Nat.beq tid c.1 with
    | true =>
      rw [hb] at h
      have e := Nat.eq_of_beq_eq_true hb
      obtain ⟨a, b⟩ := c
      obtain rfl := Option.some.inj h
      subst e
      exact List.mem_cons_self
    | false =>
      rw [hb] at h
      exact List.mem_cons_of_mem _ (tab_mem h)
theorem tab_pos {T : Tab} (h : T.all (fun e => Nat.blt 0 e.2.2) = true) : ∀ tid t n, Tab.tt T tid = some (t, n) → 0 < t.size → 0 < n := fun tid t n he _ =>
  Nat.lt_of_succ_le (Nat.le_of_ble_eq_true (List.all_eq_true.1 h _ (tab_mem he)))
theorem tab_opn {P : Program} {T : Tab} (h : T.all (entB P T) = true) (hp : ∀ tid t n, Tab.tt T tid = some (t, n) → 0 < t.size → 0 < n) {t : Ty} {tid : TypeId} {nb : Nat} (hl : t.plain = true) (he : Tab.tt T tid = some (t, nb)) : OpnV P t tid :=
  (opn_ty (E := ⟨P, T.tt, fun _ _ _ => none, 0⟩) (ttOK h _ _) hp t hl).1 (ttOK h _ _ _ _ _ he)
end Go.Proofs.Ytibphkgcdnconaa.V
