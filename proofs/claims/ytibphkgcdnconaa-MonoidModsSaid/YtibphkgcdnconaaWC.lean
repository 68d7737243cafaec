/- What is read off at a join. -/
import Derived.Test.YtibphkgcdnconaaWB
namespace Go.Proofs.Ytibphkgcdnconaa.V
open Go
set_option linter.unusedVariables false
set_option linter.all false
section
variable {E : Env} {Z0 : Ctx E.io} {w0 : World} {ns nt : Nat} {R : Type} {r : R} {w : World} {hdr : Nat → Value}
theorem take_agg {sl : Nat → Option Slot} {t : Ty} {m : Mk} {u : MV} {x : t.den} {us : Ups} (h : take sl t m u = some (x, us)) : u.agg = t.agg ∧ u.isL = false := by
  cases u with
  | val t' y =>
    have h' : (if hh : t' = t then bif t.shared m || t.flat then some ((hh ▸ y : t.den), ([] : Ups)) else none else none) = some (x, us) := by cases t <;> exact h
    split at h'
    · rename_i e; subst e; exact ⟨rfl, rfl⟩
    · cases h'
  | view s hv cv p t' y =>
    rw [take_view] at h
    split at h
    · split at h
      · split at h
        · rename_i e; subst e; exact ⟨rfl, rfl⟩
        · cases h
      · cases h
    · cases h
  | nil => cases t <;> first | (cases h; done) | exact ⟨rfl, rfl⟩
  | root s hv => cases t <;> first | (cases h; done) | exact ⟨rfl, rfl⟩
  | pr a b => cases t <;> first | (cases h; done) | exact ⟨rfl, rfl⟩
  | _ => cases t <;> cases h
theorem take_outv {sl : Nat → Option Slot} {t : Ty} {m : Mk} {u : MV} {x : t.den} {us : Ups} (h : take sl t m u = some (x, us)) (cs : List Value) : u.out cs = (MV.val t x).out cs := by
  obtain ⟨h1, h2⟩ := take_agg h
  rw [out_val h1 h2]
  rfl
theorem unMV_agg (u : MV) : (unMV u).agg = u.agg ∧ (unMV u).isL = u.isL := by
  unfold unMV
  split
  · rename_i a b x
    cases hc : isChain a with
    | false => exact ⟨rfl, rfl⟩
    | true => exact ⟨(un_cells (b := b) hc).2.2, rfl⟩
  · rename_i a b x
    cases hc : isChain a <;> exact ⟨rfl, rfl⟩
  · rename_i s hv cv p a b x
    cases hc : isChain a <;> exact ⟨rfl, rfl⟩
  · exact ⟨rfl, rfl⟩
  · exact ⟨rfl, rfl⟩
theorem takeX_agg {sl : Nat → Option Slot} {t : Ty} {m : Mk} {u : MV} {x : t.den} {us : Ups} (h : takeX sl t m u = some (x, us)) : u.agg = t.agg ∧ u.isL = false := by
  rcases takeX_cases h with (h1 | h1) | ⟨a, b, rfl, y, hc, h1, rfl⟩
  · exact take_agg h1
  · obtain ⟨g1, g2⟩ := take_agg h1
    exact ⟨(unMV_agg u).1.symm.trans g1, (unMV_agg u).2.symm.trans g2⟩
  · obtain ⟨g1, g2⟩ := take_agg h1
    exact ⟨g1.trans (un_cells hc).2.2, g2⟩
theorem takeX_outv {sl : Nat → Option Slot} {t : Ty} {m : Mk} {u : MV} {x : t.den} {us : Ups} (h : takeX sl t m u = some (x, us)) (cs : List Value) : u.out cs = (MV.val t x).out cs := by
  obtain ⟨h1, h2⟩ := takeX_agg h
  rw [out_val h1 h2]
  rfl
theorem RelC.tr {Z Z' : Bs} {w' : World} {sl sl' : Nat → Option Slot} {hdr' : Nat → Value} {fp fp' : Nat → Bs} (H : HR Z w sl hdr fp) (H' : HR Z' w' sl' hdr' fp') (T : Trans Z w sl hdr fp Z' w' sl' hdr' fp') {mv : MV} {cs : List Value} (h : RelC Z w sl hdr fp mv cs) : RelC Z' w' sl' hdr' fp' mv cs := h.trans H H' T
/-- What is told of a temporary at a join, whatever the slots hold. -/
def RelM (Z : Bs) (w : World) (hdr : Nat → Value) : (a : MS) → a.den → List Value → Prop
  | .val t, x, cs => Rep Z w t .im x none_ cs
  | .iadr t, x, cs => ∃ b o ks, cs = [.pointer (some ⟨b, o, none⟩)] ∧ At w b o ks ∧ Z b ∧ Rep Z w t .im x none_ ks
  | .nil, _, cs => ∃ A, cs = [.slice A 0 0]
  | .root s, _, cs => Cells 1 cs ∧ cs = [hdr s]
  | .ptr s t, _, cs => ∃ b o l cap, hdr s = .slice (some ⟨b, o, none⟩) l cap ∧ cs = [.pointer (some ⟨b, o, none⟩)]
  | .fn f c, x, cs => ∃ ks, cs = [.func (.func f) #[] ks.toArray] ∧ RelM Z w hdr c x ks
  | .icl c, x, cs => ∃ b o ks, cs = [.pointer (some ⟨b, o, none⟩)] ∧ At w b o [(c.mk x).out ks] ∧ Z b ∧ RelM Z w hdr c x ks
  | .tc a b, x, cs => ∃ c1 v vs, cs = v :: vs ∧ RelM Z w hdr a x.1 c1 ∧ v = (a.mk x.1).out c1 ∧ RelM Z w hdr b x.2 vs
  | .tn, _, cs => cs = []
def MS.slots : MS → List Nat
  | .root s | .ptr s _ => [s]
  | .fn _ c | .icl c => c.slots
  | .tc a b => a.slots ++ b.slots
  | _ => []
theorem RelM.more {Z Z' : Bs} (hZ : ∀ b, Z b → Z' b) : ∀ {a : MS} {x : a.den} {cs : List Value}, RelM Z w hdr a x cs → RelM Z' w hdr a x cs
  | .val t, _, _, h => Rep.more hZ h
  | .iadr t, _, _, ⟨b, o, ks, e, h1, h2, h3⟩ => ⟨b, o, ks, e, h1, hZ b h2, h3.more hZ⟩
  | .nil, _, _, h => h
  | .root _, _, _, h => h
  | .ptr _ _, _, _, h => h
  | .fn f c, _, _, ⟨ks, e, h⟩ => ⟨ks, e, RelM.more (a := c) hZ h⟩
  | .icl c, _, _, ⟨b, o, ks, e, h1, h2, h⟩ => ⟨b, o, ks, e, h1, hZ b h2, RelM.more (a := c) hZ h⟩
  | .tc a b, _, _, ⟨c1, v, vs, e, h1, h2, h3⟩ => ⟨c1, v, vs, e, RelM.more (a := a) hZ h1, h2, RelM.more (a := b) hZ h3⟩
  | .tn, _, _, h => h
theorem RelM.relC {Z : Bs} {sl : Nat → Option Slot} {fp : Nat → Bs} : ∀ {a : MS} {x : a.den} {cs : List Value}, RelM Z w hdr a x cs → (∀ s ∈ a.slots, ∃ S, sl s = some S) → RelC Z w sl hdr fp (a.mk x) cs
  | .val t, _, _, h, _ => h
  | .iadr t, _, _, h, _ => h
  | .nil, _, _, h, _ => h
  | .root s, _, _, h, hs => by
    obtain ⟨S, hS⟩ := hs s (by simp [MS.slots])
    exact ⟨h.1, S, hS, Nat.zero_le _, fun _ c _ => h.2⟩
  | .ptr s t, _, cs, h, hs => by
    obtain ⟨S, hS⟩ := hs s (by simp [MS.slots])
    obtain ⟨b, o, l, cap, h1, rfl⟩ := h
    exact ⟨⟨rfl, fun v hv => by obtain rfl := List.mem_singleton.1 hv; rfl⟩, S, hS, Nat.zero_le _, fun _ c _ => ⟨b, o, l, cap, h1, rfl⟩⟩
  | .fn f c, _, _, ⟨ks, e, h⟩, hs => ⟨ks, e, RelM.relC (a := c) h hs⟩
  | .icl c, _, _, ⟨b, o, ks, e, h1, h2, h⟩, hs => ⟨b, o, ks, e, h1, h2, RelM.relC (a := c) h hs⟩
  | .tc a b, _, _, ⟨c1, v, vs, e, h1, h2, h3⟩, hs => ⟨c1, v, vs, e, .inr ⟨RelM.relC (a := a) h1 (fun s h => hs s (by simp [MS.slots, h])), h2⟩, RelM.relC (a := b) h3 (fun s h => hs s (by simp [MS.slots, h]))⟩
  | .tn, _, _, h, _ => h
theorem rd_ms : ∀ (a : MS) {Z : Bs} {sl : Nat → Option Slot} {fp : Nat → Bs} {mv : MV} {x : a.den} {us : Ups} {cs : List Value}, a.rd sl mv = some (x, us) → HR Z w sl hdr fp → RelC Z w sl hdr fp mv cs →
    ∃ Z' fp', HR Z' w (us.look sl) hdr fp' ∧ Trans Z w sl hdr fp Z' w (us.look sl) hdr fp' ∧ RelM Z' w hdr a x cs ∧ mv.out cs = (a.mk x).out cs ∧ ∀ s ∈ a.slots, ∃ S, us.look sl s = some S
  | .val t, Z, sl, fp, mv, x, us, cs, h, H, hr => by
    obtain ⟨Z', fp', F, K⟩ := takeX_sound h H hr
    exact ⟨Z', fp', K.hr, K.tr, K.rep.share (shared_im t), takeX_outv h cs, fun s h => by cases h⟩
  | .iadr t, Z, sl, fp, mv, x, us, cs, h, H, hr => by
    have h : (match deref sl mv with
      | .iadr t' x => if h : t' = t then some ((h ▸ x : t.den), ([] : Ups)) else none
      | .adr s hv cv p t' x => match sl s with
        | some S => match lookC sl s hv cv with
          | some _ => if h : t' = t then some ((h ▸ x : t.den), [(s, frozen_ S)]) else none
          | none => none
        | none => none
      | _ => none) = some (x, us) := h
    have hd := deref_ok H hr
    split at h
    · rename_i t' y hy
      rw [hy] at hd
      rcases hd with h0 | ⟨q1, q2⟩
      · cases h0
      split at h
      · rename_i e; subst e
        simp only [Option.some.injEq, Prod.mk.injEq] at h
        obtain ⟨rfl, rfl⟩ := h
        exact ⟨Z, fp, H, Trans.refl _ _ _ _ _, q1, q2.symm, fun s h => by cases h⟩
      · cases h
    · rename_i s hv cv p t' y hy
      rw [hy] at hd
      rcases hd with h0 | ⟨q1, q2⟩
      · cases h0
      split at h
      · rename_i S hS
        split at h
        · rename_i c hl
          split at h
          · rename_i e; subst e
            simp only [Option.some.injEq, Prod.mk.injEq] at h
            obtain ⟨rfl, rfl⟩ := h
            have e2 := lookC_some hl
            obtain ⟨_, S1, h1, _, h3⟩ := q1
            rw [e2] at h1; obtain rfl := Option.some.inj h1
            obtain ⟨b, o, ks, hcs, h4, h5, _, ⟨m, f, h6, h7, _⟩, _⟩ := (h3 rfl).2 rfl c rfl
            obtain ⟨f1, f2⟩ := step_freeze H hS
            refine ⟨_, _, by rw [look_cons]; exact f1, by rw [look_cons]; exact f2, ⟨b, o, ks, hcs, h4, h5.elim .inr .inl, h6.freeze (fun b hb => hb.imp id (h7 b))⟩, q2.symm, fun s h => by cases h⟩
          · cases h
        · cases h
      · cases h
    · cases h
  | .nil, Z, sl, fp, mv, x, us, cs, h, H, hr => by
    cases mv with
    | nil =>
      have h : some ((), ([] : Ups)) = some (x, us) := h
      cases h
      exact ⟨Z, fp, H, Trans.refl _ _ _ _ _, hr, rfl, fun s h => by cases h⟩
    | _ => cases h
  | .tn, Z, sl, fp, mv, x, us, cs, h, H, hr => by
    cases mv with
    | tn =>
      have h : some ((), ([] : Ups)) = some (x, us) := h
      cases h
      exact ⟨Z, fp, H, Trans.refl _ _ _ _ _, hr, rfl, fun s h => by cases h⟩
    | _ => cases h
  | .root s0, Z, sl, fp, mv, x, us, cs, h, H, hr => by
    cases mv with
    | root s hv =>
      have h : (bif Nat.beq s0 s && (lookH sl s hv).isSome then some ((), ([] : Ups)) else none) = some (x, us) := h
      obtain ⟨hb, h3⟩ := cond_some h
      simp only [Bool.and_eq_true] at hb
      obtain rfl := Nat.eq_of_beq_eq_true hb.1
      cases hl : lookH sl s0 hv with
      | none => rw [hl] at hb; cases hb.2
      | some p =>
        obtain ⟨cv, c⟩ := p
        have e2 := lookH_some hl
        cases h3
        obtain ⟨q1, S, q2, _, q3⟩ := hr
        rw [e2] at q2; obtain rfl := Option.some.inj q2
        exact ⟨Z, fp, H, Trans.refl _ _ _ _ _, ⟨q1, q3 rfl c rfl⟩, rfl, fun s h => by obtain rfl := List.mem_singleton.1 h; exact ⟨_, e2⟩⟩
    | _ => cases h
  | .ptr s0 t0, Z, sl, fp, mv, x, us, cs, h, H, hr => by
    cases mv with
    | ptr s hv t =>
      have h : (bif Nat.beq s0 s && decide (t = t0) && (lookH sl s hv).isSome then some ((), ([] : Ups)) else none) = some (x, us) := h
      obtain ⟨hb, h3⟩ := cond_some h
      simp only [Bool.and_eq_true] at hb
      obtain rfl := Nat.eq_of_beq_eq_true hb.1.1
      cases hl : lookH sl s0 hv with
      | none => rw [hl] at hb; cases hb.2
      | some p =>
        obtain ⟨cv, c⟩ := p
        have e2 := lookH_some hl
        cases h3
        obtain ⟨q1, S, q2, _, q3⟩ := hr
        rw [e2] at q2; obtain rfl := Option.some.inj q2
        exact ⟨Z, fp, H, Trans.refl _ _ _ _ _, q3 rfl c rfl, rfl, fun s h => by obtain rfl := List.mem_singleton.1 h; exact ⟨_, e2⟩⟩
    | _ => cases h
  | .fn f c, Z, sl, fp, mv, x, us, cs, h, H, hr => by
    cases mv with
    | fn g k =>
      have h : (bif Nat.beq f g then c.rd sl k else none) = some (x, us) := h
      obtain ⟨hb, h3⟩ := cond_some h
      obtain rfl := Nat.eq_of_beq_eq_true hb
      clear h
      obtain ⟨ks, e, h2⟩ := hr
      obtain ⟨Z', fp', H', T', R', _, sx⟩ := rd_ms c h3 H h2
      exact ⟨Z', fp', H', T', ⟨ks, e, R'⟩, rfl, sx⟩
    | _ => cases h
  | .icl c, Z, sl, fp, mv, x, us, cs, h, H, hr => by
    cases mv with
    | icl k =>
      have h : c.rd sl k = some (x, us) := h
      obtain ⟨b0, o0, ks, e, p1, p2, h2⟩ := hr
      obtain ⟨Z', fp', H', T', R', o1, sx⟩ := rd_ms c h H h2
      rw [o1] at p1
      exact ⟨Z', fp', H', T', ⟨b0, o0, ks, e, p1, (T'.z b0 p2).1, R'⟩, rfl, sx⟩
    | _ => cases h
  | .tc a b, Z, sl, fp, mv, x, us, cs, h, H, hr => by
    cases mv with
    | tc u v =>
      have h : (match a.rd sl u with
        | some (x, us) => match b.rd (us.look sl) v with
          | some (y, vs) => some ((x, y), vs ++ us)
          | none => none
        | none => none) = some (x, us) := h
      split at h
      · rename_i xa ua ea
        split at h
        · rename_i xb ub eb
          simp only [Option.some.injEq, Prod.mk.injEq] at h
          obtain ⟨rfl, rfl⟩ := h
          obtain ⟨c1, v0, vs, rfl, h1, h2⟩ := hr
          rcases h1 with h1 | ⟨h1, h1'⟩
          · subst h1
            exact absurd ea (by cases a <;> first | (intro h; cases h; done) | (intro h; exact takeX_dead h))
          · obtain ⟨Z1, fp1, H1, T1, R1, o1, s1⟩ := rd_ms a ea H h1
            obtain ⟨Z2, fp2, H2, T2, R2, o2, s2⟩ := rd_ms b eb H1 (h2.tr H H1 T1)
            refine ⟨Z2, fp2, by rw [look_app]; exact H2, by rw [look_app]; exact T1.comp T2, ⟨c1, v0, vs, rfl, R1.more (fun b hb => (T2.z b hb).1), h1'.trans o1, R2⟩, rfl, fun s hs => ?_⟩
            rcases List.mem_append.1 hs with hs | hs
            · obtain ⟨S, hS⟩ := s1 s hs
              obtain ⟨S', hS', _⟩ := T2.slot s S hS
              rw [look_app]
              exact ⟨S', hS'⟩
            · rw [look_app]; exact s2 s hs
        · cases h
      · cases h
    | _ => cases h
theorem beq_self_ (i : Nat) : Nat.beq i i = true := Nat.beq_refl i
theorem beq_ne_ {i j : Nat} (h : i ≠ j) : Nat.beq i j = false := by
  cases hb : Nat.beq i j with
  | false => rfl
  | true => exact absurd (Nat.eq_of_beq_eq_true hb) h
theorem sameHv_ok {us : Ups} {sl : Nat → Option Slot} (h : us.all (sameHv sl) = true) {s : Nat} {S : Slot} (hs : sl s = some S) : ∃ S', us.look sl s = some S' ∧ S'.hv = S.hv := by
  simp only [Ups.look]
  cases hl : us.lookup s with
  | none => exact ⟨S, hs, rfl⟩
  | some S1 =>
    refine ⟨S1, rfl, ?_⟩
    have hm : (s, S1) ∈ us := by
      clear h
      induction us with
      | nil => cases hl
      | cons u us ih =>
        obtain ⟨a, b⟩ := u
        simp only [List.lookup_cons] at hl
        cases hb : s == a with
        | true =>
          rw [hb] at hl
          obtain rfl := Option.some.inj hl
          have := eq_of_beq hb
          subst this
          simp
        | false => rw [hb] at hl; exact List.mem_cons_of_mem _ (ih hl)
    have := (List.all_eq_true.1 h) _ hm
    simp only [sameHv, hs] at this
    exact (Nat.eq_of_beq_eq_true this).symm
theorem rdT_ok {S : Type} {ns : Nat} {tm : Nat → MV} {val : Nat → Value} {k : (Nat → Option Slot) → Option S} : ∀ (l : List (Nat × MS)) {Z : Bs} {sl : Nat → Option Slot} {fp : Nat → Bs} {d : denT S l}, rdT ns tm k l sl = some d → HR Z w sl hdr fp → (∀ s, ¬ s < ns → sl s = none) → (∀ i, RelV Z w sl hdr fp (tm i) (val i)) →
    ∃ Z' fp' sl', HR Z' w sl' hdr fp' ∧ Trans Z w sl hdr fp Z' w sl' hdr fp' ∧ k sl' = some (restT l d) ∧ (∀ s, ¬ s < ns → sl' s = none) ∧ (∀ i, RelV Z' w sl' hdr fp' (tm i) (val i)) ∧ (∀ s S, sl s = some S → ∃ S', sl' s = some S' ∧ S'.hv = S.hv) ∧
      ∀ (sl2 : Nat → Option Slot) (i : Nat) (rest : Nat → MV), (∀ s, s < ns → ∃ S, sl2 s = some S) → RelV Z' w sl2 hdr fp' (rest i) (val i) → RelV Z' w sl2 hdr fp' (mkT l d (fun _ => rest) i) (val i)
  | [], Z, sl, fp, d, h, H, hn, hv => ⟨Z, fp, sl, H, Trans.refl _ _ _ _ _, h, hn, hv, fun s S h => ⟨S, h, rfl⟩, fun _ _ _ _ h => h⟩
  | (i0, a) :: l, Z, sl, fp, d, h, H, hn, hv => by
    simp only [rdT] at h
    split at h
    · rename_i x us ea
      obtain ⟨hb, h⟩ := cond_some h
      obtain ⟨hb, hsm⟩ := all_and hb
      split at h
      · rename_i d' ed
        obtain rfl := Option.some.inj h
        have step : ∃ Z' fp', HR Z' w (us.look sl) hdr fp' ∧ Trans Z w sl hdr fp Z' w (us.look sl) hdr fp' ∧ (∀ s ∈ a.slots, ∃ S, us.look sl s = some S) ∧ ∃ cs, RelM Z' w hdr a x cs ∧ val i0 = (a.mk x).out cs := by
          rcases hv i0 with h0 | ⟨cs, h1, h2⟩
          · rw [h0] at ea
            exact absurd ea (by cases a <;> first | (intro h; cases h; done) | (intro h; exact takeX_dead h))
          · obtain ⟨Z', fp', H', T', R', o, sx⟩ := rd_ms a ea H h1
            exact ⟨Z', fp', H', T', sx, cs, R', h2.trans o⟩
        obtain ⟨Z1, fp1, H1, T1, sx, cs, R1, o1⟩ := step
        have hn1 := ups_none hb hn
        obtain ⟨Z2, fp2, sl2, H2, T2, hk, hn2, hv2, hh2, hm⟩ := rdT_ok l ed H1 hn1 (fun i => (hv i).trans H H1 T1)
        refine ⟨Z2, fp2, sl2, H2, T1.comp T2, hk, hn2, hv2, fun s S hS => ?_, fun sl3 i rest h3 hr => ?_⟩
        · obtain ⟨S1, g1, g2⟩ := sameHv_ok hsm hS
          obtain ⟨S2, g3, g4⟩ := hh2 s S1 g1
          exact ⟨S2, g3, g4.trans g2⟩
        simp only [mkT]
        by_cases e : i = i0
        · subst e
          rw [beq_self_]
          exact .inr ⟨cs, (R1.more (fun b hb => (T2.z b hb).1)).relC (fun s hs => h3 s (Decidable.byContradiction fun hc => by
            obtain ⟨S, hS⟩ := sx s hs
            rw [hn1 s hc] at hS; cases hS)), o1⟩
        · rw [beq_ne_ e]
          exact hm sl3 i rest h3 hr
      · cases h
    · cases h
theorem oneT_some {t : Ty} {x : (Ty.sl t).den} {v : t.den} (h : oneT t x = some v) : x = (show (Ty.sl t).den from [v]) := by
  have h : (match (show List t.den from x) with
    | [v] => some v
    | _ => none) = some v := h
  split at h
  · rename_i e; obtain rfl := Option.some.inj h; exact e
  · cases h
theorem rdC_ok {b : Bool} {t : Ty} {m : Mk} {k : SlotC} {x : t.den} (h : rdC b t m k = some x) : mkC b t m x = k := by
  obtain ⟨kt, km, kx⟩ := k
  cases b with
  | true =>
    simp only [rdC] at h
    split at h
    · rename_i e
      obtain ⟨hb, h3⟩ := cond_some h
      have em := of_decide_eq_true hb
      clear h
      subst e; subst em
      have e2 := oneT_some (show oneT t kx = some x from h3)
      subst e2
      rfl
    · cases h
  | false =>
    simp only [rdC] at h
    split at h
    · rename_i e
      obtain ⟨hb, h3⟩ := cond_some h
      have em := of_decide_eq_true hb
      clear h
      subst e; subst em
      have e2 : kx = x := Option.some.inj h3
      subst e2
      rfl
    · cases h
theorem rdS_ok {sl : Nat → Option Slot} {ns : Nat} : ∀ (l : List (Nat × Bool × Ty × Mk)) {d : denS l}, rdS sl l = some d → ∀ {s hv cv : Nat} {c : SlotC}, mkS ns l d s = some ⟨hv, cv, some c⟩ → ∃ hv0 cv0, sl s = some ⟨hv0, cv0, some c⟩
  | [], d, h, s, hv, cv, c, hm => by
    simp only [mkS] at hm
    cases hb : Nat.blt s ns <;> rw [hb] at hm <;> cases hm
  | (s0, b, t, m) :: l, d, h, s, hv, cv, c, hm => by
    simp only [rdS] at h
    split at h
    · rename_i hv1 cv1 k hk
      split at h
      · rename_i x ex
        split at h
        · rename_i d' ed
          obtain rfl := Option.some.inj h
          simp only [mkS] at hm
          cases hs : (Nat.beq s s0 && Nat.blt s ns) with
          | true =>
            rw [hs] at hm
            simp only [Bool.and_eq_true] at hs
            obtain rfl := Nat.eq_of_beq_eq_true hs.1
            simp only [cond_true, Option.some.injEq, Slot.mk.injEq] at hm
            obtain ⟨rfl, rfl, rfl⟩ := hm
            exact ⟨hv1, cv1, by rw [rdC_ok ex]; exact hk⟩
          | false => rw [hs] at hm; exact rdS_ok l ed hm
        · cases h
      · cases h
    · cases h
theorem mkS_ns {ns : Nat} : ∀ (l : List (Nat × Bool × Ty × Mk)) {d : denS l} {s : Nat}, (¬ s < ns → mkS ns l d s = none) ∧ (s < ns → ∃ S, mkS ns l d s = some S)
  | [], d, s => by
    simp only [mkS]
    refine ⟨fun h => ?_, fun h => ?_⟩
    · have hb : Nat.blt s ns = false := by
        cases hb : Nat.blt s ns with
        | false => rfl
        | true => exact absurd (Nat.le_of_ble_eq_true hb) h
      rw [hb]; rfl
    · have hb : Nat.blt s ns = true := Nat.ble_eq_true_of_le h
      rw [hb]; exact ⟨_, rfl⟩
  | c :: l, d, s => by
    simp only [mkS]
    refine ⟨fun h => ?_, fun h => ?_⟩
    · have hb : Nat.blt s ns = false := by
        cases hb : Nat.blt s ns with
        | false => rfl
        | true => exact absurd (Nat.le_of_ble_eq_true hb) h
      rw [hb, Bool.and_false]; exact (mkS_ns l).1 h
    · cases hb : (Nat.beq s c.1 && Nat.blt s ns) with
      | true => exact ⟨_, rfl⟩
      | false => exact (mkS_ns l).2 h
theorem mkS_hv {ns : Nat} : ∀ (l : List (Nat × Bool × Ty × Mk)) {d : denS l} {s : Nat} {S : Slot}, mkS ns l d s = some S → S.hv = 0
  | [], d, s, S, h => by
    simp only [mkS] at h
    cases hb : Nat.blt s ns with
    | true => rw [hb] at h; obtain rfl := Option.some.inj h; rfl
    | false => rw [hb] at h; cases h
  | c :: l, d, s, S, h => by
    simp only [mkS] at h
    cases hb : (Nat.beq s c.1 && Nat.blt s ns) with
    | true => rw [hb] at h; obtain rfl := Option.some.inj h; rfl
    | false => rw [hb] at h; exact mkS_hv l h
theorem rdR_ok {sl sl2 : Nat → Option Slot} {tm : Nat → MV} {val : Nat → Value} {Z : Bs} {fp : Nat → Bs} (h2 : ∀ s, (∃ S, sl s = some S) → ∃ S, sl2 s = some S) : ∀ (l : List (Nat × Nat × Option Ty)), rdR sl tm l = true → ∀ i, RelV Z w sl hdr fp (tm i) (val i) → RelV Z w sl2 hdr fp (mkR l i) (val i)
  | [], _, _, _ => .inl rfl
  | (i0, s0, ot) :: l, h, i, hv => by
    simp only [rdR, Bool.and_eq_true] at h
    simp only [mkR]
    by_cases e : i = i0
    · subst e
      rw [beq_self_]
      obtain ⟨h, _⟩ := h
      split at h
      · rename_i s hv1 ht
        simp only [Bool.and_eq_true] at h
        obtain ⟨ha, hb⟩ := h
        obtain rfl := Nat.eq_of_beq_eq_true ha
        cases hl : lookH sl s hv1 with
        | none => rw [hl] at hb; cases hb
        | some p =>
          obtain ⟨cv, c⟩ := p
          have e1 := lookH_some hl
          rw [ht] at hv
          rcases hv with h0 | ⟨cs, ⟨q1, S, q2, _, q3⟩, q4⟩
          · cases h0
          · rw [e1] at q2; obtain rfl := Option.some.inj q2
            obtain ⟨S2, hS2⟩ := h2 s ⟨_, e1⟩
            exact .inr ⟨cs, ⟨q1, S2, hS2, Nat.zero_le _, fun _ _ _ => q3 rfl c rfl⟩, q4⟩
      · rename_i s hv1 t t' ht
        simp only [Bool.and_eq_true] at h
        obtain ⟨⟨ha, _⟩, hb⟩ := h
        obtain rfl := Nat.eq_of_beq_eq_true ha
        cases hl : lookH sl s hv1 with
        | none => rw [hl] at hb; cases hb
        | some p =>
          obtain ⟨cv, c⟩ := p
          have e1 := lookH_some hl
          rw [ht] at hv
          rcases hv with h0 | ⟨cs, ⟨q1, S, q2, _, q3⟩, q4⟩
          · cases h0
          · rw [e1] at q2; obtain rfl := Option.some.inj q2
            obtain ⟨S2, hS2⟩ := h2 s ⟨_, e1⟩
            exact .inr ⟨cs, ⟨q1, S2, hS2, Nat.zero_le _, fun _ _ _ => q3 rfl c rfl⟩, q4⟩
      · cases h
    · rw [beq_ne_ e]
      exact rdR_ok h2 l h.2 i hv
theorem rd_rel {sh : Shape} {st : Sm} {d : sh.den} {a : Act} (h : sh.rd st = some d) (hr : Rel Z0 w0 ns nt st a w) : Rel Z0 w0 ns nt (sh.mk_ st.ns st.nt d) a w := by
  obtain ⟨Z, hdr, fp, H, F, hn, ht, hs, hdf⟩ := hr
  obtain ⟨Z', fp', sl', H', T', hk, hn', hv', hh', hm⟩ := rdT_ok (val := fun i => a.eval (.tmp i)) sh.tm h H hn.1 ht
  obtain ⟨hb, hk⟩ := cond_some hk
  have h2 : ∀ s, (∃ S, sl' s = some S) → ∃ S, mkS st.ns sh.sl (restT sh.tm d) s = some S := fun s ⟨S, hS⟩ => (mkS_ns sh.sl).2 (Decidable.byContradiction fun hc => by rw [hn' s hc] at hS; cases hS)
  have hp' : Pin Z0 sl' hdr := hn.2.trans T' (fun s S S' _ h1 h2 => by
    obtain ⟨S2, g1, g2⟩ := hh' s S h1
    rw [h2] at g1; obtain rfl := Option.some.inj g1; exact g2)
  refine ⟨Z', hdr, fp', ⟨fun s hv cv c hc => ?_, fun s hv cv c hc => ?_, H'.disj, H'.lt, H'.zlt, H'.dz⟩, F.trans H' T', ⟨fun s hs => (mkS_ns sh.sl).1 hs, fun s hs => ?_⟩, fun i => hm _ i _ (fun s hs => (mkS_ns sh.sl).2 hs) (rdR_ok (val := fun i => a.eval (.tmp i)) h2 sh.rt hb i (hv' i)), hs, hdf⟩
  · obtain ⟨_, _, e⟩ := rdS_ok sh.sl hk hc; exact H'.rep _ _ _ _ e
  · obtain ⟨_, _, e⟩ := rdS_ok sh.sl hk hc; exact H'.shape _ _ _ _ e
  · obtain ⟨S, g1, g2, g3⟩ := hp' s hs
    obtain ⟨S2, g4⟩ := h2 s ⟨S, g1⟩
    refine ⟨S2, g4, mkS_hv sh.sl g4, fun c hc => ?_⟩
    obtain ⟨hv2, cv2, c2⟩ := S2
    simp only at hc
    subst hc
    obtain ⟨hv0, cv0, e⟩ := rdS_ok sh.sl hk g4
    rw [e] at g1; obtain rfl := Option.some.inj g1
    exact g3 c rfl
theorem finO_rel {a : Act} {st : Sm} {e : Exit} : ∀ (l : Outs) {d : DenO l}, finO l e st = some d → Rel Z0 w0 ns nt st a w → ∀ {S : Type} (K : Exit → Sm → S), ∃ st', elO st.ns st.nt K l d = K e st' ∧ Rel Z0 w0 ns nt st' a w ∧ (∀ {S' : Type} (K' : Exit → Sm → S'), elO st.ns st.nt K' l d = K' e st')
  | [], d, h, hr, S, K => by cases d
  | c :: l, d, h, hr, S, K => by
    simp only [finO] at h
    cases hb : c.1.is e with
    | true =>
      rw [hb] at h
      simp only [cond_true] at h
      have he : c.1.to = e := by
        cases hc : c.1 <;> rw [hc] at hb <;> cases e <;> first | (cases hb; done) | rfl | (simp only [Xk.is] at hb; rw [Nat.eq_of_beq_eq_true hb]; rfl)
      split at h
      · rename_i d' ed
        obtain rfl := Option.some.inj h
        exact ⟨_, by simp only [elO, Sum.elim_inl, he], rd_rel ed hr, fun K' => by simp only [elO, Sum.elim_inl, he]⟩
      · cases h
    | false =>
      rw [hb] at h
      simp only [cond_false] at h
      split at h
      · rename_i d' ed
        obtain rfl := Option.some.inj h
        obtain ⟨st', h1, h2, h3⟩ := finO_rel l ed hr K
        exact ⟨st', by simp only [elO, Sum.elim_inr]; exact h1, h2, fun K' => by simp only [elO, Sum.elim_inr]; exact h3 K'⟩
      · cases h
end
end Go.Proofs.Ytibphkgcdnconaa.V
