/- Calls. -/
import Derived.Test.YtibphkgcdnconaaVT
namespace Go.Proofs.Ytibphkgcdnconaa.V
open Go
set_option linter.unusedVariables false
set_option linter.all false
theorem headT_some {t : Ty} {x : (Ty.sl t).den} {v : t.den} (h : headT t x = some v) : (show List t.den from x)[0]? = some v := by
  have h : (match (show List t.den from x) with
    | v :: _ => some v
    | [] => none) = some v := h
  split at h
  · rename_i e; obtain rfl := Option.some.inj h; show (show List t.den from x)[0]? = _; rw [e]; rfl
  · cases h
def RepA (Z : Bs) (w : World) (n : Nat) (hd : Nat → Value) : Arg → List Value → Prop
  | .dyn t x, vs => ∃ cs, Rep Z w t .im x none_ cs ∧ vs = [t.val cs]
  | .nil, vs => ∃ A, vs = [.slice A 0 0]
  | .iad t x, vs => ∃ b o ks, vs = [.pointer (some ⟨b, o, none⟩)] ∧ At w b o ks ∧ Z b ∧ Rep Z w t .im x none_ ks
  | .fn f caps, vs => ∃ ks, vs = [.func (.func f) #[] ks.toArray] ∧ RepA Z w n hd caps ks
  | .icl a, vs => ∃ b o v, vs = [.pointer (some ⟨b, o, none⟩)] ∧ At w b o [v] ∧ Z b ∧ RepA Z w n hd a [v]
  | .tc a b, vs => ∃ v vs', vs = v :: vs' ∧ RepA Z w n hd a [v] ∧ RepA Z w n hd b vs'
  | .tn, vs => vs = []
  | .mr k, vs => k < n ∧ vs = [hd k] ∧ Cells 1 vs
  | .mp k t, vs => k < n ∧ ∃ b o l cap, hd k = .slice (some ⟨b, o, none⟩) l cap ∧ vs = [.pointer (some ⟨b, o, none⟩)]
def RepR (Z : Bs) (w : World) : (t : Ty) → Mk → t.den → Bs → List Value → Prop
  | .pair a b, m, x, F, vs => ∃ v vs' cs f1 f2, vs = v :: vs' ∧ Rep Z w a m.l x.1 f1 cs ∧ v = a.val cs ∧ RepR Z w b m.r x.2 f2 vs' ∧ (∀ k, f1 k → F k) ∧ (∀ k, f2 k → F k) ∧ ∀ k, f1 k → ¬ f2 k
  | .unit, _, _, _, vs => vs = []
  | _, _, _, _, _ => False
def retVal : List Value → Value
  | [v] => v
  | vs => .tuple vs.toArray
/-- The slots of the one that is called: what is handed over to be changed. -/
def ioSl (ios : List SlotC) : Nat → Option Slot := fun k => (ios[k]?).map fun c => ⟨0, 0, some c⟩
def ioSlO (ios : List (Option SlotC)) : Nat → Option Slot := fun k => ((ios[k]?).bind id).map fun c => ⟨0, 0, some c⟩
structure CallPost (Z : Bs) (w : World) (hd : Nat → Value) (fp : Nat → Bs) (ios : List SlotC) (t : Ty) (m : Mk) (x : t.den) (ios' : List (Option SlotC)) (e : Ending) (w' : World) (Z' : Bs) (fp' : Nat → Bs) (F : Bs) (vs : List Value) : Prop where
  ret : e = .returned (retVal vs)
  old : ∀ b, b < w.heap.size → (∀ k, ¬ fp k b) → w'.heap[b]? = w.heap[b]?
  size : w.heap.size ≤ w'.heap.size
  os : w'.os = w.os
  tape : w'.tape = w.tape
  output : w'.output = w.output
  z : ∀ b, Z b → Z' b
  zn : ∀ b, Z' b → b < w'.heap.size ∧ (Z b ∨ (∃ k, fp k b) ∨ ¬ b < w.heap.size)
  f : ∀ b, F b → ((∃ k, fp k b) ∨ ¬ b < w.heap.size) ∧ b < w'.heap.size ∧ ¬ Z' b ∧ ∀ k, ¬ fp' k b
  iof : ∀ k b, fp' k b → k < ios.length ∧ ((∃ j, fp j b) ∨ ¬ b < w.heap.size)
  len : ios'.length = ios.length
  io : HR Z' w' (ioSlO ios') hd fp'
  rep : RepR Z' w' t m x F vs
def CallOK (P : Program) (f : FuncId) (arg : Arg) (ios : List SlotC) (c : CallRes) : Prop :=
  (∃ fn, P.funcs[f]? = some fn ∧ fn.body.isSome = true ∧ (fn.name == "runtime.NumGoroutine") = false) ∧ ∀ r, c.run = some r → ∀ (Z : Bs) (w : World) (hd : Nat → Value) (fp : Nat → Bs) (vs : List Value), HR Z w (ioSl ios) hd fp → (∀ k b, fp k b → k < ios.length) → RepA Z w ios.length hd arg vs →
    Calls P f vs.toArray w fun e w' => ∃ Z' fp' F us, CallPost Z w hd fp ios c.t c.m (c.out r) (c.io r) e w' Z' fp' F us
def EnvOK (E : Env) : Prop := ∀ f arg ios c, E.Γ f arg ios = some c → CallOK E.P f arg ios c
section
variable {E : Env} {o : Oper} {a : Act} {w : World} {Z : Bs} {sl : Nat → Option Slot} {hdr : Nat → Value} {fp : Nat → Bs} {mv : MV}
theorem RepA.more {Z Z' : Bs} {n : Nat} {hd : Nat → Value} (hZ : ∀ b, Z b → Z' b) : ∀ {a : Arg} {vs : List Value}, RepA Z w n hd a vs → RepA Z' w n hd a vs
  | .dyn t x, _, ⟨cs, h, e⟩ => ⟨cs, h.more hZ, e⟩
  | .nil, _, h => h
  | .iad t x, _, ⟨b, o, ks, e, h1, h2, h3⟩ => ⟨b, o, ks, e, h1, hZ b h2, h3.more hZ⟩
  | .fn f caps, _, ⟨ks, e, h⟩ => ⟨ks, e, h.more hZ⟩
  | .icl a, _, ⟨b, o, ks, e, h1, h2, h⟩ => ⟨b, o, ks, e, h1, hZ b h2, h.more hZ⟩
  | .tc a b, _, ⟨v, vs, e, h1, h2⟩ => ⟨v, vs, e, h1.more hZ, h2.more hZ⟩
  | .tn, _, h => h
  | .mr _, _, h => h
  | .mp _ _, _, h => h
theorem posN_some : ∀ {mu : List Nat} {s k : Nat}, posN mu s = some k → k < mu.length ∧ mu.getD k 0 = s
  | [], _, _, h => by cases h
  | a :: l, s, k, h => by
    simp only [posN] at h
    cases hb : Nat.beq a s with
    | true =>
      rw [hb] at h
      obtain rfl := Option.some.inj h
      exact ⟨by simp, Nat.eq_of_beq_eq_true hb⟩
    | false =>
      rw [hb] at h
      simp only [cond_false] at h
      split at h
      · rename_i k' e
        obtain rfl := Option.some.inj h
        obtain ⟨h1, h2⟩ := posN_some e
        exact ⟨by simp; omega, by simpa using h2⟩
      · cases h
abbrev hdM (mu : List Nat) (hdr : Nat → Value) : Nat → Value := fun k => hdr (mu.getD k 0)
/-- The blocks that are lent. -/
def Lent (Z : Bs) (fp : Nat → Bs) (ss : List Nat) : Bs := fun b => Z b ∨ ∃ s ∈ ss, fp s b
theorem Lent.app1 {fp : Nat → Bs} {ss ss' : List Nat} : ∀ b, Lent Z fp ss b → Lent Z fp (ss ++ ss') b := fun b hb => hb.imp id (fun ⟨s, hs, h⟩ => ⟨s, by simp [hs], h⟩)
theorem Lent.app2 {fp : Nat → Bs} {ss ss' : List Nat} : ∀ b, Lent Z fp ss' b → Lent Z fp (ss ++ ss') b := fun b hb => hb.imp id (fun ⟨s, hs, h⟩ => ⟨s, by simp [hs], h⟩)
theorem argOf_dyn (H : HR Z w sl hdr fp) {mu : List Nat} : ∀ {u : MV} {t : Ty} {x : t.den} {ss : List Nat} {cs : List Value}, argOf sl mu u = some (.dyn t x, ss) → RelC Z w sl hdr fp u cs → Rep (Lent Z fp ss) w t .im x none_ cs ∧ u.agg = t.agg ∧ u.isL = false := by
  intro u
  induction u with
  | val t x =>
    intro t' x' ss cs h hr
    simp only [argOf, Option.some.injEq, Prod.mk.injEq, Arg.dyn.injEq] at h
    obtain ⟨⟨rfl, h⟩, rfl⟩ := h
    obtain rfl := eq_of_heq h
    exact ⟨Rep.more (fun b hb => .inl hb) hr, rfl, rfl⟩
  | root s hv =>
    intro t' x' ss cs h hr
    simp only [argOf] at h
    split at h
    · split at h <;> cases h
    split at h
    · rename_i cv c hl
      simp only [Option.some.injEq, Prod.mk.injEq, Arg.dyn.injEq] at h
      obtain ⟨⟨rfl, h⟩, rfl⟩ := h
      obtain rfl := eq_of_heq h
      have e2 := lookH_some hl
      obtain ⟨_, S, h1, _, h3⟩ := hr
      rw [e2] at h1; obtain rfl := Option.some.inj h1
      obtain rfl := h3 rfl c rfl
      refine ⟨(H.rep s _ _ _ e2).freeze (Z' := Lent Z fp [s]) (fun b hb => hb.imp id (fun h => ⟨s, by simp, h⟩)), ?_, rfl⟩
      rcases H.shape s _ _ _ e2 with ⟨t0, e⟩ | ⟨k0, v0, e⟩ <;> (simp only [e]; rfl)
    · cases h
  | view s hv cv p t x =>
    intro t' x' ss cs h hr
    simp only [argOf] at h
    split at h
    · rename_i c hl
      simp only [Option.some.injEq, Prod.mk.injEq, Arg.dyn.injEq] at h
      obtain ⟨⟨rfl, h⟩, rfl⟩ := h
      obtain rfl := eq_of_heq h
      have e2 := lookC_some hl
      obtain ⟨_, S, h1, _, h3⟩ := hr
      rw [e2] at h1; obtain rfl := Option.some.inj h1
      obtain ⟨⟨m, f, h4, h5, _⟩, _⟩ := (h3 rfl).2 rfl c rfl
      exact ⟨h4.freeze (Z' := Lent Z fp [s]) (fun b hb => hb.imp id (fun h => ⟨s, by simp, h5 b h⟩)), rfl, rfl⟩
    · cases h
  | pr x y ih1 ih2 =>
    intro t' x' ss cs h hr
    simp only [argOf] at h
    split at h
    · rename_i ta xa sa ea
      split at h
      · rename_i tb xb sb eb
        simp only [Option.some.injEq, Prod.mk.injEq, Arg.dyn.injEq] at h
        obtain ⟨⟨rfl, h⟩, rfl⟩ := h
        obtain rfl := eq_of_heq h
        obtain ⟨c1, c2, rfl, h1, h2⟩ := hr
        exact ⟨⟨c1, c2, none_, none_, rfl, (ih1 ea h1).1.more Lent.app1, (ih2 eb h2).1.more Lent.app2, fun _ h => h.elim, fun _ h => h.elim, fun _ h => h.elim⟩, rfl, rfl⟩
      · cases h
    · cases h
  | un =>
    intro t' x' ss cs h hr
    simp only [argOf, Option.some.injEq, Prod.mk.injEq, Arg.dyn.injEq] at h
    obtain ⟨⟨rfl, h⟩, rfl⟩ := h
    obtain rfl := eq_of_heq h
    exact ⟨hr, rfl, rfl⟩
  | nv t x b0 =>
    intro t' x' ss cs h hr
    simp only [argOf, Option.some.injEq, Prod.mk.injEq, Arg.dyn.injEq] at h
    obtain ⟨⟨rfl, h⟩, rfl⟩ := h
    obtain rfl := eq_of_heq h
    exact ⟨Rep.more (fun b hb => .inl hb) hr.1, rfl, rfl⟩
  | nil => intro t' x' ss cs h; cases h
  | iadr => intro t' x' ss cs h; cases h
  | ptr s hv t =>
    intro t' x' ss cs h
    simp only [argOf] at h
    split at h
    · split at h <;> cases h
    · split at h
      · split at h
        · split at h <;> cases h
        · cases h
      · cases h
  | adr => intro t' x' ss cs h; simp only [argOf] at h; split at h <;> cases h
  | fn f caps =>
    intro t' x' ss cs h
    simp only [argOf] at h
    cases hc : caps.isL with
    | false => rw [hc] at h; cases h
    | true => rw [hc] at h; simp only [cond_true] at h; split at h <;> cases h
  | icl m =>
    intro t' x' ss cs h
    simp only [argOf] at h
    cases hc : m.isL with
    | true => rw [hc] at h; cases h
    | false => rw [hc] at h; simp only [cond_false] at h; split at h <;> cases h
  | tc x y =>
    intro t' x' ss cs h
    simp only [argOf] at h
    cases hc : (!x.isL && y.isL) with
    | false => rw [hc] at h; cases h
    | true => rw [hc] at h; simp only [cond_true] at h; split at h <;> (try split at h) <;> cases h
  | tn => intro t' x' ss cs h; cases h
  | dead => intro t' x' ss cs h; cases h
  | pend => intro t' x' ss cs h; cases h
theorem out_val {u : MV} {t : Ty} {cs : List Value} (h1 : u.agg = t.agg) (h2 : u.isL = false) : u.out cs = t.val cs := by
  cases u <;> first | (cases h2; done) | (simp only [MV.out, Ty.val, h1])
theorem argOf_ok (H : HR Z w sl hdr fp) {mu : List Nat} : ∀ {u : MV} {ar : Arg} {ss : List Nat} {cs : List Value}, argOf sl mu u = some (ar, ss) → RelC Z w sl hdr fp u cs → RepA (Lent Z fp ss) w mu.length (hdM mu hdr) ar (bif u.isL then cs else [u.out cs]) := by
  intro u
  have dyn : ∀ {u : MV} {ar : Arg} {ss : List Nat} {cs : List Value}, argOf sl mu u = some (ar, ss) → RelC Z w sl hdr fp u cs → (∃ t x, ar = .dyn t x) → RepA (Lent Z fp ss) w mu.length (hdM mu hdr) ar (bif u.isL then cs else [u.out cs]) := by
    rintro u ar ss cs h hr ⟨t, x, rfl⟩
    obtain ⟨g1, g2, g3⟩ := argOf_dyn H h hr
    rw [g3]
    exact ⟨cs, g1, by simp only [cond_false]; rw [out_val g2 g3]⟩
  induction u with
  | val t x => intro ar ss cs h hr; exact dyn h hr (by simp only [argOf, Option.some.injEq, Prod.mk.injEq] at h; exact ⟨_, _, h.1.symm⟩)
  | root s hv =>
    intro ar ss cs h hr
    have h0 := h
    simp only [argOf] at h
    split at h
    · rename_i k hk
      obtain ⟨k1, k2⟩ := posN_some hk
      split at h
      · rename_i p hl
        obtain ⟨cv, c⟩ := p
        simp only [Option.some.injEq, Prod.mk.injEq] at h
        obtain ⟨rfl, rfl⟩ := h
        have e2 := lookH_some hl
        obtain ⟨hc, S, h1, _, h3⟩ := hr
        rw [e2] at h1; obtain rfl := Option.some.inj h1
        obtain rfl := h3 rfl c rfl
        refine ⟨k1, ?_, ?_⟩
        · simp only [hdM, k2]; rfl
        · exact hc
      · cases h
    · refine dyn h0 hr ?_
      split at h
      · simp only [Option.some.injEq, Prod.mk.injEq] at h; exact ⟨_, _, h.1.symm⟩
      · cases h
  | view s hv cv p t x =>
    intro ar ss cs h hr
    refine dyn h hr ?_
    simp only [argOf] at h
    split at h
    · simp only [Option.some.injEq, Prod.mk.injEq] at h; exact ⟨_, _, h.1.symm⟩
    · cases h
  | pr x y _ _ =>
    intro ar ss cs h hr
    refine dyn h hr ?_
    simp only [argOf] at h
    split at h
    · split at h
      · simp only [Option.some.injEq, Prod.mk.injEq] at h; exact ⟨_, _, h.1.symm⟩
      · cases h
    · cases h
  | nv t x b0 => intro ar ss cs h hr; exact dyn h hr (by simp only [argOf, Option.some.injEq, Prod.mk.injEq] at h; exact ⟨_, _, h.1.symm⟩)
  | un => intro ar ss cs h hr; exact dyn h hr (by simp only [argOf, Option.some.injEq, Prod.mk.injEq] at h; exact ⟨_, _, h.1.symm⟩)
  | ptr s hv t =>
    intro ar ss cs h hr
    simp only [argOf] at h
    split at h
    · rename_i k hk
      obtain ⟨k1, k2⟩ := posN_some hk
      split at h
      · rename_i p hl
        obtain ⟨cv, c⟩ := p
        simp only [Option.some.injEq, Prod.mk.injEq] at h
        obtain ⟨rfl, rfl⟩ := h
        have e2 := lookH_some hl
        obtain ⟨_, S, h1, _, h3⟩ := hr
        rw [e2] at h1; obtain rfl := Option.some.inj h1
        obtain ⟨b, o, l, cap, q1, rfl⟩ := h3 rfl c rfl
        exact ⟨k1, b, o, l, cap, by simp only [hdM, k2]; exact q1, rfl⟩
      · cases h
    · split at h
      · rename_i cv c hl
        split at h
        · rename_i et
          split at h
          · rename_i v hx
            simp only [Option.some.injEq, Prod.mk.injEq] at h
            obtain ⟨rfl, rfl⟩ := h
            have e2 := lookH_some hl
            obtain ⟨_, S, h1, _, h3⟩ := hr
            rw [e2] at h1; obtain rfl := Option.some.inj h1
            obtain ⟨ct, cm, cx⟩ := c
            simp only at et
            subst et
            have hrep := H.rep s _ _ _ e2
            simp only at hrep
            have g0 := headT_some hx
            obtain ⟨b, o', cap, ks, m1, f1, hcs, hat, hr, hf, hb, hz, _⟩ := rep_el hrep g0
            obtain ⟨b2, o2, l2, cap2, e3, rfl⟩ := h3 rfl _ rfl
            rw [e3] at hcs
            simp only [List.cons.injEq, Value.slice.injEq, Option.some.injEq, Addr.mk.injEq, and_true] at hcs
            obtain ⟨⟨rfl, rfl⟩, rfl, rfl⟩ := hcs
            exact ⟨b2, _, ks, by rw [Nat.zero_mul, Nat.add_zero]; rfl, hat, hb.elim (fun h => .inr ⟨s, by simp, h⟩) .inl, hr.freeze (Z' := Lent Z fp [s]) (fun b hb => hb.imp id (fun h => ⟨s, by simp, hf b h⟩))⟩
          · cases h
        · cases h
      · cases h
  | nil =>
    intro ar ss cs h hr
    simp only [argOf, Option.some.injEq, Prod.mk.injEq] at h
    obtain ⟨rfl, rfl⟩ := h
    obtain ⟨A, rfl⟩ := hr
    exact ⟨A, rfl⟩
  | iadr t x =>
    intro ar ss cs h hr
    simp only [argOf, Option.some.injEq, Prod.mk.injEq] at h
    obtain ⟨rfl, rfl⟩ := h
    obtain ⟨b, o, ks, rfl, h1, h2, h3⟩ := hr
    exact ⟨b, o, ks, rfl, h1, .inl h2, h3.more (fun b hb => .inl hb)⟩
  | adr s hv cv p t x =>
    intro ar ss cs h hr
    simp only [argOf] at h
    split at h
    · rename_i c hl
      simp only [Option.some.injEq, Prod.mk.injEq] at h
      obtain ⟨rfl, rfl⟩ := h
      have e2 := lookC_some hl
      obtain ⟨_, S, h1, _, h3⟩ := hr
      rw [e2] at h1; obtain rfl := Option.some.inj h1
      obtain ⟨b, o, ks, rfl, h4, h5, _, ⟨m, f, h6, h7, _⟩, _⟩ := (h3 rfl).2 rfl c rfl
      exact ⟨b, o, ks, rfl, h4, h5.elim (fun h => .inr ⟨s, by simp, h⟩) .inl, h6.freeze (Z' := Lent Z fp [s]) (fun b hb => hb.imp id (fun h => ⟨s, by simp, h7 b h⟩))⟩
    · cases h
  | fn f caps ih =>
    intro ar ss cs h hr
    simp only [argOf] at h
    cases hc : caps.isL with
    | false => rw [hc] at h; cases h
    | true =>
      rw [hc] at h
      simp only [cond_true] at h
      split at h
      · rename_i x ss' e
        simp only [Option.some.injEq, Prod.mk.injEq] at h
        obtain ⟨rfl, rfl⟩ := h
        obtain ⟨ks, rfl, hk⟩ := hr
        have := ih e hk
        rw [hc] at this
        exact ⟨ks, rfl, this⟩
      · cases h
  | icl m ih =>
    intro ar ss cs h hr
    simp only [argOf] at h
    cases hc : m.isL with
    | true => rw [hc] at h; cases h
    | false =>
      rw [hc] at h
      simp only [cond_false] at h
      split at h
      · rename_i x ss' e
        simp only [Option.some.injEq, Prod.mk.injEq] at h
        obtain ⟨rfl, rfl⟩ := h
        obtain ⟨b, o, ks, rfl, h1, h2, hk⟩ := hr
        have := ih e hk
        rw [hc] at this
        exact ⟨b, o, _, rfl, h1, .inl h2, this⟩
      · cases h
  | tc x y ih1 ih2 =>
    intro ar ss cs h hr
    simp only [argOf] at h
    cases hc : (!x.isL && y.isL) with
    | false => rw [hc] at h; cases h
    | true =>
      rw [hc] at h
      simp only [cond_true] at h
      simp only [Bool.and_eq_true, Bool.not_eq_true'] at hc
      split at h
      · rename_i ax sx ex
        split at h
        · rename_i ay sy ey
          simp only [Option.some.injEq, Prod.mk.injEq] at h
          obtain ⟨rfl, rfl⟩ := h
          obtain ⟨c1, v, vs, rfl, h1, h2⟩ := hr
          rcases h1 with rfl | ⟨h1, rfl⟩
          · cases ex
          have g1 := (ih1 ex h1).more (Z' := Lent Z fp (sx ++ sy)) Lent.app1
          have g2 := (ih2 ey h2).more (Z' := Lent Z fp (sx ++ sy)) Lent.app2
          rw [hc.1] at g1
          rw [hc.2] at g2
          exact ⟨_, vs, rfl, g1, g2⟩
        · cases h
      · cases h
  | tn =>
    intro ar ss cs h hr
    simp only [argOf, Option.some.injEq, Prod.mk.injEq] at h
    obtain ⟨rfl, rfl⟩ := h
    exact hr
  | dead => intro ar ss cs h; cases h
  | pend => intro ar ss cs h; cases h
def Arg.chain : Arg → Bool
  | .tn => true
  | .tc _ b => b.chain
  | _ => false
theorem argOf_chain {mu : List Nat} : ∀ {u : MV} {ar : Arg} {ss : List Nat}, argOf sl mu u = some (ar, ss) → u.isL = true → ar.chain = true := by
  intro u
  induction u with
  | tn =>
    intro ar ss h _
    simp only [argOf, Option.some.injEq, Prod.mk.injEq] at h
    obtain ⟨rfl, rfl⟩ := h
    rfl
  | tc x y ih1 ih2 =>
    intro ar ss h _
    simp only [argOf] at h
    cases hc : (!x.isL && y.isL) with
    | false => rw [hc] at h; cases h
    | true =>
      rw [hc] at h
      simp only [cond_true] at h
      simp only [Bool.and_eq_true, Bool.not_eq_true'] at hc
      split at h
      · split at h
        · rename_i ay sy ey
          simp only [Option.some.injEq, Prod.mk.injEq] at h
          obtain ⟨rfl, rfl⟩ := h
          have := ih2 ey hc.2; exact this
        · cases h
      · cases h
  | _ => intro ar ss _ h; cases h
theorem RepA.app {n : Nat} {hd : Nat → Value} : ∀ {x y : Arg} {vs ws : List Value}, x.chain = true → RepA Z w n hd x vs → RepA Z w n hd y ws → RepA Z w n hd (x.app y) (vs ++ ws)
  | .tn, y, vs, ws, _, h1, h2 => by rw [show vs = [] from h1]; exact h2
  | .tc a b, y, vs, ws, hc, ⟨v, vs', e, h1, h3⟩, h2 => by
    rw [e]
    exact ⟨v, vs' ++ ws, rfl, h1, RepA.app hc h3 h2⟩
  | .dyn _ _, _, _, _, h, _, _ | .nil, _, _, _, h, _, _ | .iad _ _, _, _, _, h, _, _ | .fn _ _, _, _, _, h, _, _ | .icl _, _, _, _, h, _, _ | .mr _, _, _, _, h, _, _ | .mp _ _, _, _, _, h, _, _ => by cases h
theorem relC_tups : ∀ (l : List MV) (vs : List Value), l.length = vs.length → (∀ (i : Nat) (u : MV) (v : Value), l[i]? = some u → vs[i]? = some v → RelV Z w sl hdr fp u v) → RelC Z w sl hdr fp (tups l) vs
  | [], [], _, _ => rfl
  | [], _ :: _, h, _ => by simp at h
  | _ :: _, [], h, _ => by simp at h
  | u :: l, v :: vs, h, hr => by
    have h0 := hr 0 u v rfl rfl
    have ih := relC_tups l vs (by simpa using h) (fun i u v h1 h2 => hr (i + 1) u v (by simpa using h1) (by simpa using h2))
    rcases h0 with rfl | ⟨cs, h1, h2⟩
    · exact ⟨[], v, vs, rfl, .inl rfl, ih⟩
    · exact ⟨cs, v, vs, rfl, .inr ⟨h1, h2⟩, ih⟩
theorem tups_isL (l : List MV) : (tups l).isL = true := by cases l <;> rfl
theorem argOf_some {mu : List Nat} : ∀ {u : MV} {ar : Arg} {ss : List Nat}, argOf sl mu u = some (ar, ss) → ∀ s ∈ ss, ∃ S, sl s = some S := by
  intro u
  have two : ∀ {sx sy : List Nat}, (∀ s ∈ sx, ∃ S, sl s = some S) → (∀ s ∈ sy, ∃ S, sl s = some S) → ∀ s ∈ sx ++ sy, ∃ S, sl s = some S := fun h1 h2 s hs => (List.mem_append.1 hs).elim (h1 s) (h2 s)
  induction u with
  | val t x => intro ar ss h; simp only [argOf, Option.some.injEq, Prod.mk.injEq] at h; obtain ⟨_, rfl⟩ := h; intro s hs; cases hs
  | ptr s hv t =>
    intro ar ss h
    simp only [argOf] at h
    split at h
    · split at h
      · simp only [Option.some.injEq, Prod.mk.injEq] at h; obtain ⟨_, rfl⟩ := h; intro s hs; cases hs
      · cases h
    · split at h
      · rename_i cv c hl
        split at h
        · split at h
          · simp only [Option.some.injEq, Prod.mk.injEq] at h
            obtain ⟨_, rfl⟩ := h
            intro s' hs
            obtain rfl := List.mem_singleton.1 hs
            exact ⟨_, lookH_some hl⟩
          · cases h
        · cases h
      · cases h
  | nil => intro ar ss h; simp only [argOf, Option.some.injEq, Prod.mk.injEq] at h; obtain ⟨_, rfl⟩ := h; intro s hs; cases hs
  | iadr t x => intro ar ss h; simp only [argOf, Option.some.injEq, Prod.mk.injEq] at h; obtain ⟨_, rfl⟩ := h; intro s hs; cases hs
  | nv t x b0 => intro ar ss h; simp only [argOf, Option.some.injEq, Prod.mk.injEq] at h; obtain ⟨_, rfl⟩ := h; intro s hs; cases hs
  | un => intro ar ss h; simp only [argOf, Option.some.injEq, Prod.mk.injEq] at h; obtain ⟨_, rfl⟩ := h; intro s hs; cases hs
  | tn => intro ar ss h; simp only [argOf, Option.some.injEq, Prod.mk.injEq] at h; obtain ⟨_, rfl⟩ := h; intro s hs; cases hs
  | root s hv =>
    intro ar ss h
    simp only [argOf] at h
    split at h
    · split at h
      · simp only [Option.some.injEq, Prod.mk.injEq] at h; obtain ⟨_, rfl⟩ := h; intro s hs; cases hs
      · cases h
    split at h
    · rename_i cv c hl
      simp only [Option.some.injEq, Prod.mk.injEq] at h
      obtain ⟨_, rfl⟩ := h
      intro s' hs
      obtain rfl := List.mem_singleton.1 hs
      exact ⟨_, lookH_some hl⟩
    · cases h
  | view s hv cv p t x =>
    intro ar ss h
    simp only [argOf] at h
    split at h
    · rename_i c hl
      simp only [Option.some.injEq, Prod.mk.injEq] at h
      obtain ⟨_, rfl⟩ := h
      intro s' hs
      obtain rfl := List.mem_singleton.1 hs
      exact ⟨_, lookC_some hl⟩
    · cases h
  | adr s hv cv p t x =>
    intro ar ss h
    simp only [argOf] at h
    split at h
    · rename_i c hl
      simp only [Option.some.injEq, Prod.mk.injEq] at h
      obtain ⟨_, rfl⟩ := h
      intro s' hs
      obtain rfl := List.mem_singleton.1 hs
      exact ⟨_, lookC_some hl⟩
    · cases h
  | pr x y ih1 ih2 =>
    intro ar ss h
    simp only [argOf] at h
    split at h
    · rename_i ea
      split at h
      · rename_i eb
        simp only [Option.some.injEq, Prod.mk.injEq] at h
        obtain ⟨_, rfl⟩ := h
        exact two (ih1 ea) (ih2 eb)
      · cases h
    · cases h
  | fn f caps ih =>
    intro ar ss h
    simp only [argOf] at h
    cases hc : caps.isL with
    | false => rw [hc] at h; cases h
    | true =>
      rw [hc] at h
      simp only [cond_true] at h
      split at h
      · rename_i e
        simp only [Option.some.injEq, Prod.mk.injEq] at h
        obtain ⟨_, rfl⟩ := h
        exact ih e
      · cases h
  | icl m ih =>
    intro ar ss h
    simp only [argOf] at h
    cases hc : m.isL with
    | true => rw [hc] at h; cases h
    | false =>
      rw [hc] at h
      simp only [cond_false] at h
      split at h
      · rename_i e
        simp only [Option.some.injEq, Prod.mk.injEq] at h
        obtain ⟨_, rfl⟩ := h
        exact ih e
      · cases h
  | tc x y ih1 ih2 =>
    intro ar ss h
    simp only [argOf] at h
    cases hc : (!x.isL && y.isL) with
    | false => rw [hc] at h; cases h
    | true =>
      rw [hc] at h
      simp only [cond_true] at h
      split at h
      · rename_i ex
        split at h
        · rename_i ey
          simp only [Option.some.injEq, Prod.mk.injEq] at h
          obtain ⟨_, rfl⟩ := h
          exact two (ih1 ex) (ih2 ey)
        · cases h
      · cases h
  | dead => intro ar ss h; cases h
  | pend => intro ar ss h; cases h
/-- Slots that are lent become shared. -/
theorem freezeAll_ok (H : HR Z w sl hdr fp) : ∀ (ss : List Nat), (∀ s ∈ ss, ∃ S, sl s = some S) → ∃ fp', HR (Lent Z fp ss) w ((freezeAll sl ss).look sl) hdr fp' ∧ Trans Z w sl hdr fp (Lent Z fp ss) w ((freezeAll sl ss).look sl) hdr fp' ∧
    (∀ s S, sl s = some S → (freezeAll sl ss).look sl s = some S ∨ (freezeAll sl ss).look sl s = some (frozen_ S)) ∧ (∀ s, sl s = none → (freezeAll sl ss).look sl s = none) ∧ (∀ s b, fp' s b → fp s b) ∧ (∀ s b, fp s b → fp' s b ∨ Lent Z fp ss b)
  | [], _ => by
    have e : Lent Z fp [] = Z := by funext b; exact propext ⟨fun h => h.elim id (fun ⟨s, h, _⟩ => by cases h), .inl⟩
    rw [e]
    exact ⟨fp, H, Trans.refl _ _ _ _ _, fun s S h => .inl h, fun s h => h, fun s b h => h, fun s b h => .inl h⟩
  | s :: ss, hss => by
    obtain ⟨fp1, H1, T1, h1, h2, h3, h4⟩ := freezeAll_ok H ss (fun r hr => hss r (by simp [hr]))
    obtain ⟨S, hS⟩ := hss s (by simp)
    simp only [freezeAll, hS]
    rw [look_cons]
    have ff : frozen_ (frozen_ S) = frozen_ S := by obtain ⟨a, b, c⟩ := S; cases c <;> rfl
    obtain ⟨cur, hcur, hfz⟩ : ∃ cur, (freezeAll sl ss).look sl s = some cur ∧ frozen_ cur = frozen_ S := by
      rcases h1 s S hS with h | h
      · exact ⟨S, h, rfl⟩
      · exact ⟨_, h, ff⟩
    obtain ⟨q1, q2⟩ := step_freeze H1 hcur
    rw [hfz] at q1 q2
    have e : (fun b => Lent Z fp ss b ∨ fp1 s b) = Lent Z fp (s :: ss) := by
      funext b
      refine propext ⟨fun h => ?_, fun h => ?_⟩
      · rcases h with h | h
        · exact h.imp id (fun ⟨r, hr, h⟩ => ⟨r, by simp [hr], h⟩)
        · exact .inr ⟨s, by simp, h3 s b h⟩
      · rcases h with h | ⟨r, hr, h⟩
        · exact .inl (.inl h)
        · rcases List.mem_cons.1 hr with rfl | hr
          · exact (h4 _ b h).symm
          · exact .inl (.inr ⟨r, hr, h⟩)
    rw [e] at q1 q2
    refine ⟨_, q1, T1.comp q2, fun r R hr => ?_, fun r hr => ?_, fun r b h => ?_, fun r b h => ?_⟩
    · by_cases er : r = s
      · subst er; rw [hS] at hr; obtain rfl := Option.some.inj hr; exact .inr (by simp [put])
      · simp only [put, if_neg er]; exact h1 r R hr
    · by_cases er : r = s
      · subst er; rw [hS] at hr; cases hr
      · simp only [put, if_neg er]; exact h2 r hr
    · by_cases er : r = s
      · simp [er, none_] at h
      · simp only [if_neg er] at h; exact h3 r b h
    · by_cases er : r = s
      · subst er; exact .inr (.inr ⟨_, by simp, h⟩)
      · rcases h4 r b h with h | h
        · exact .inl (by simp [er, h])
        · exact .inr (h.imp id (fun ⟨r', hr, h⟩ => ⟨r', by simp [hr], h⟩))
end
end Go.Proofs.Ytibphkgcdnconaa.V
