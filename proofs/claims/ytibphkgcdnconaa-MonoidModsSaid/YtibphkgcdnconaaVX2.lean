/- Cells: a pointer to the one element of a slot, that stays good while the slot is written. -/
import Derived.Below
import Derived.Carry
import Derived.Test.YtibphkgcdnconaaVX
namespace Go.Proofs.Ytibphkgcdnconaa.V
open Go
set_option linter.unusedVariables false
set_option linter.all false
/-- The address of a new cell, to be kept. -/
def toPtr (look : Nat → Option Slot) : MV → MV
  | .adr s hv cv p t x => match p with
    | some [.el 0] => match lookC look s hv cv with
      | some c => if h : c.t = .sl t then (match headT t (h ▸ c.x) with
        | some _ => bif c.m.isOw then .ptr s hv t else .dead
        | none => .dead) else .dead
      | none => .dead
    | _ => .dead
  | m => m
def keeps (o : Oper) : Bool :=
  match o.op with
  | .load _ _ | .store _ _ _ | .fieldAddr _ _ _ | .nilCheck _ => true
  | _ => false
def makes (o : Oper) : Bool :=
  match o.op with
  | .alloc _ | .box _ _ => true
  | _ => false
/-- Values of one cell that may be put into a cell which is never changed. -/
def oneC : MV → Bool
  | .ptr _ _ _ | .root _ _ | .fn _ _ => true
  | _ => false
def boxI {R : Type} (E : Env) (ρ : Operand → MV) (o : Oper) (K : MV → Ups → Option R) : Option R :=
  match o.op with
  | .box e x => bif oneC (ρ x) && clB E.P e then K (.icl (ρ x)) [] else none
  | _ => none
def opX {R : Type} (E : Env) (ρ : Operand → MV) (look : Nat → Option Slot) (o : Oper) (h : OH) (K : MV → Ups → Option R) : Option R :=
  bif keeps o then opCore E (fun x => deref look (ρ x)) look o h K
  else bif makes o && Nat.beq h.fl 2 then boxI E ρ o K
  else bif makes o && Nat.beq h.fl 1 then opCore E ρ look o h fun mv us => K (toPtr (us.look look) mv) us
  else opCore E ρ look o h K
section
variable {E : Env} {R : Type} {o : Oper} {a : Act} {w : World} {Z : Bs} {sl : Nat → Option Slot} {hdr : Nat → Value} {fp : Nat → Bs} {mv : MV} {ρ : Operand → MV}
theorem opX_bind {h : OH} {K : MV → Ups → Option R} : opX E ρ sl o h K = B2 (opX E ρ sl o h S2) K := by
  unfold opX
  cases keeps o with
  | true => exact opCore_bind ..
  | false =>
    simp only [cond_false]
    cases (makes o && Nat.beq h.fl 2) with
    | true =>
      simp only [cond_true]
      unfold boxI
      split
      · simp only [B2, S2, cond_bind, Option.bind_none, Option.bind_some]
      · rfl
    | false =>
    simp only [cond_false]
    cases (makes o && Nat.beq h.fl 1) with
    | true =>
      simp only [cond_true]
      rw [opCore_bind (K := fun mv us => K (toPtr (us.look sl) mv) us), opCore_bind (K := fun mv us => S2 (toPtr (us.look sl) mv) us)]
      simp only [B2, bind_bind, Option.bind_some]
    | false => exact opCore_bind ..
theorem deref_ok (H : HR Z w sl hdr fp) : ∀ {u : MV} {cs : List Value}, RelC Z w sl hdr fp u cs → deref sl u = .dead ∨ RelC Z w sl hdr fp (deref sl u) cs ∧ (deref sl u).out cs = u.out cs := by
  intro u
  cases u with
  | ptr s hv t =>
    rintro cs ⟨hlen, S, h1, h2, h3⟩
    simp only [deref]
    split
    · rename_i cv c hl
      have e2 := lookH_some hl
      rw [e2] at h1; obtain rfl := Option.some.inj h1
      split
      · rename_i et
        obtain ⟨ct, cm, cx⟩ := c
        simp only at et
        subst et
        split
        · rename_i v hx
          refine .inr ⟨?_, rfl⟩
          have hrep := H.rep s _ _ _ e2
          simp only at hrep
          have g0 := headT_some hx
          obtain ⟨b, o', cap, ks, m1, f1, hcs, hat, hr, hf, hb, hz, _⟩ := rep_el hrep g0
          obtain ⟨b2, o2, l2, cap2, e3, e4⟩ := h3 rfl _ rfl
          rw [e3] at hcs
          simp only [List.cons.injEq, Value.slice.injEq, Option.some.injEq, Addr.mk.injEq, and_true] at hcs
          obtain ⟨⟨rfl, rfl⟩, rfl, rfl⟩ := hcs
          have q := subc_el (l := List.length (α := t.den) cx) (cap := cap2) hat hr.len none
          refine ⟨hlen, _, e2, Nat.le_refl _, fun _ => ⟨Nat.le_refl _, fun _ c' hc' => ?_⟩⟩
          obtain rfl := Option.some.inj hc'
          have hmk : cm.isOw = true → ∃ m, mkP (.sl t) cm [.el 0] = some m := fun h => by
            cases cm with
            | ow m => exact ⟨m, by cases t <;> rfl⟩
            | _ => cases h
          refine ⟨b2, _, ks, by rw [e4, Nat.zero_mul, Nat.add_zero], hat, hb, fun h => (hz h).1, ⟨m1, f1, hr, hf, fun h => (hz h).2⟩, fun p hp => ?_⟩
          obtain rfl := Option.some.inj hp
          refine ⟨⟨getP_el g0, fun ho => ⟨?_, hmk ho⟩⟩, fun ho => ?_⟩
          · rw [e3]; exact q.1
          · rw [e3]; exact q.2
        · exact .inl rfl
      · exact .inl rfl
    · exact .inl rfl
  | _ => intro cs h; exact .inr ⟨h, rfl⟩
theorem deref_okV (H : HR Z w sl hdr fp) {u : MV} {v : Value} (h : RelV Z w sl hdr fp u v) : RelV Z w sl hdr fp (deref sl u) v := by
  rcases h with rfl | ⟨cs, h1, h2⟩
  · exact .inl rfl
  · rcases deref_ok H h1 with h0 | ⟨q1, q2⟩
    · exact .inl h0
    · exact .inr ⟨cs, q1, h2.trans q2.symm⟩
theorem toPtr_ok (H : HR Z w sl hdr fp) {u : MV} {v : Value} (h : RelV Z w sl hdr fp u v) : RelV Z w sl hdr fp (toPtr sl u) v := by
  cases u with
  | adr s hv cv p t x =>
    rcases h with h | ⟨cs, ⟨hlen, S, h1, h2, h3⟩, h4⟩
    · cases h
    simp only [toPtr]
    split
    · split
      · rename_i c hl
        have e2 := lookC_some hl
        rw [e2] at h1; obtain rfl := Option.some.inj h1
        split
        · rename_i et
          obtain ⟨ct, cm, cx⟩ := c
          simp only at et
          subst et
          split
          · rename_i v0 hx
            cases ho : cm.isOw with
            | false => exact .inl rfl
            | true =>
              have hrep := H.rep s _ _ _ e2
              simp only at hrep
              have g0 := headT_some hx
              obtain ⟨b, o', cap, ks, m1, f1, hcs, hat, hr, _⟩ := rep_el hrep g0
              simp only [List.cons.injEq, and_true] at hcs
              obtain ⟨b2, o2, ks2, e4, _, _, _, _, g5⟩ := (h3 rfl).2 rfl _ rfl
              have q := (subc_el (l := List.length (α := t.den) cx) (cap := cap) hat hr.len none).2
              have g6 := (g5 _ rfl).2 ho
              simp only at g6
              rw [hcs] at g6
              rw [q] at g6
              simp only [Option.some.injEq, Prod.mk.injEq] at g6
              obtain ⟨rfl, rfl⟩ := g6
              refine .inr ⟨cs, ⟨hlen, _, e2, Nat.le_refl _, fun _ c' hc' => ⟨b, o', _, _, hcs, by rw [e4, Nat.zero_mul, Nat.add_zero]⟩⟩, h4⟩
          · exact .inl rfl
        · exact .inl rfl
      · exact .inl rfl
    · exact .inl rfl
  | _ => exact h
theorem boxI_ok (H : HR Z w sl hdr fp) (hr0 : ∃ r0, sl r0 = none) {us : Ups} (hρ : ∀ x, RelV Z w sl hdr fp (ρ x) (a.eval x)) (hh : boxI E ρ o (fun m u => some (m, u)) = some (mv, us)) : OpOK E o a w Z sl hdr fp mv (us.look sl) := by
  obtain ⟨r0, hr0⟩ := hr0
  unfold boxI at hh
  split at hh
  · rename_i e x ho
    obtain ⟨hb, hh⟩ := cond_some hh
    simp only [Option.some.injEq, Prod.mk.injEq] at hh
    obtain ⟨rfl, rfl⟩ := hh
    simp only [Bool.and_eq_true] at hb
    have hx := hρ x
    have one : ∃ cs v, RelC Z w sl hdr fp (ρ x) cs ∧ a.eval x = v ∧ (ρ x).out cs = v ∧ v.oneCell' = true := by
      rcases hx with h0 | ⟨cs, h1, h2⟩
      · rw [h0] at hb; cases hb.1
      · refine ⟨cs, _, h1, rfl, h2.symm, ?_⟩
        rw [h2]
        cases hm : ρ x with
        | ptr s hv t =>
          rw [hm] at h1
          obtain ⟨⟨hl, hc⟩, _⟩ := h1
          obtain ⟨v, rfl⟩ := List.length_eq_one_iff.1 hl
          exact hc v (by simp)
        | root s hv =>
          rw [hm] at h1
          obtain ⟨⟨hl, hc⟩, _⟩ := h1
          obtain ⟨v, rfl⟩ := List.length_eq_one_iff.1 hl
          exact hc v (by simp)
        | fn f c =>
          rw [hm] at h1
          obtain ⟨ks, rfl, _⟩ := h1
          rfl
        | _ => rw [hm] at hb; cases hb.1
    obtain ⟨cs, v, h1, h2, h3, h4⟩ := one
    have hzz : (a.eval x).cells = ([v]).toArray := by rw [h2]; exact Array.toList_inj.1 (by simpa using cells_single h4)
    have hrun : (execOp a.eval o).run E.P w = .ok (.value (.pointer (some ⟨w.heap.size, 0, none⟩))) (w.alloc (.cells ([v]).toArray e)) := by
      unfold execOp; rw [ho]
      simp only [Instr.box, Sem.run_bind, Result.andThen_ok, newVar, newRow, run_newObj, Sem.run_pure, hzz]; rfl
    have hsize : (w.alloc (.cells ([v]).toArray e)).heap.size = w.heap.size + 1 := by simp
    obtain ⟨H', T', _⟩ := step_call H (w' := w.alloc (.cells ([v]).toArray e)) (Zn := fun b => Z b ∨ b = w.heap.size) (F := none_) (r0 := r0) (mu := []) (ios := []) (us := []) (fpc := fun _ => none_) hr0 rfl rfl (fun k S hk => by simp at hk) (fun b hb => .inl hb)
      (fun b hb => ⟨hb.elim (fun h => by have := H.zlt b h; omega) (fun h => by omega), hb.imp id (fun h => .inr (by omega))⟩) (fun b hb _ => Go.RowKit.Below.heap_alloc w _ b hb) (by omega) rfl rfl rfl (fun b hb => hb.elim) (fun k b hk => hk.elim)
      ⟨fun k hv cv c h => by simp [ioSlO] at h, fun k hv cv c h => by simp [ioSlO] at h, fun k k' b h => h.elim, fun k b h => h.elim, fun b hb => hb.elim (fun h => by have := H.zlt b h; omega) (fun h => by omega), fun k b h => h.elim⟩
    rw [look_nil]
    rw [look_nil] at H' T'
    refine .val hrun H' T' (.inr ⟨_, ⟨w.heap.size, 0, cs, rfl, ?_, .inr rfl, h1.trans H H' T'⟩, rfl⟩)
    rw [h3]
    exact at_alloc w [v] e
  · cases hh
theorem opX_ok (hT : TTok E) (hE : EnvOK E) (H : HR Z w sl hdr fp) (hr0 : ∃ r0, sl r0 = none) {h : OH} {us : Ups} (hρ : ∀ x, RelV Z w sl hdr fp (ρ x) (a.eval x)) (hh : opX E ρ sl o h (fun m u => some (m, u)) = some (mv, us)) : OpOK E o a w Z sl hdr fp mv (us.look sl) := by
  unfold opX at hh
  cases hk : keeps o with
  | true =>
    rw [hk] at hh
    exact op_ok hT hE H hr0 (fun x => deref_okV H (hρ x)) hh
  | false =>
    rw [hk] at hh
    simp only [cond_false] at hh
    cases hf2 : (makes o && Nat.beq h.fl 2) with
    | true => rw [hf2] at hh; exact boxI_ok H hr0 hρ hh
    | false =>
    rw [hf2] at hh
    simp only [cond_false] at hh
    cases hm : (makes o && Nat.beq h.fl 1) with
    | true =>
      rw [hm] at hh
      simp only [cond_true] at hh
      rw [opCore_bind] at hh
      obtain ⟨⟨mv0, us0⟩, h1, h2⟩ := bind_some_ hh
      simp only [Option.some.injEq, Prod.mk.injEq] at h2
      obtain ⟨rfl, rfl⟩ := h2
      have := op_ok hT hE H hr0 hρ h1
      intro next Q hnext
      exact this next Q (fun v w' Z' hdr' fp' H' T' R' => hnext v w' Z' hdr' fp' H' T' (toPtr_ok H' R'))
    | false =>
      rw [hm] at hh
      exact op_ok hT hE H hr0 hρ hh
theorem take_agg_ {sl : Nat → Option Slot} {t : Ty} {m : Mk} {u : MV} {x : t.den} {us : Ups} (h : take sl t m u = some (x, us)) : u.agg = t.agg ∧ u.isL = false := by
  cases u with
  | val t' y =>
    have h' : (if hh : t' = t then bif t.shared m || t.flat then some ((hh ▸ y : t.den), ([] : Ups)) else none else none) = some (x, us) := by cases t <;> exact h
    split at h'
    · rename_i e; subst e; exact ⟨rfl, rfl⟩
    · cases h'
  | view s hv cv p t' y =>
    rw [take_view] at h
    split at h
    · split at h
      · split at h
        · rename_i e; subst e; exact ⟨rfl, rfl⟩
        · cases h
      · cases h
    · cases h
  | nil => cases t <;> first | (cases h; done) | exact ⟨rfl, rfl⟩
  | root s hv => cases t <;> first | (cases h; done) | exact ⟨rfl, rfl⟩
  | pr a b => cases t <;> first | (cases h; done) | exact ⟨rfl, rfl⟩
  | _ => cases t <;> cases h
end
end Go.Proofs.Ytibphkgcdnconaa.V
