/- Taking a value out of a temporary; writing a value at a place. -/
import Derived.Test.YtibphkgcdnconaaVF
import Derived.Laws.CopyRow
namespace Go.Proofs.Ytibphkgcdnconaa.V
open Go
set_option linter.unusedVariables false
set_option linter.all false
/-- At hand: in slots that hold nothing. -/
def Hand (sl : Nat → Option Slot) (fp : Nat → Bs) (F : Bs) : Prop := ∀ b, F b → ∃ s, fp s b ∧ noC sl s
structure Took (Z : Bs) (w : World) (sl : Nat → Option Slot) (hdr : Nat → Value) (fp : Nat → Bs) (us : Ups) (Z' : Bs) (fp' : Nat → Bs) (t : Ty) (m : Mk) (x : t.den) (F : Bs) (cs : List Value) : Prop where
  hr : HR Z' w (us.look sl) hdr fp'
  tr : Trans Z w sl hdr fp Z' w (us.look sl) hdr fp'
  rep : Rep Z' w t m x F cs
  hand : ∀ b, F b → ∃ s, fp s b ∧ ¬ noC sl s ∧ fp' s b ∧ noC (us.look sl) s
  kept : ∀ s b, noC sl s → fp s b → fp' s b ∧ noC (us.look sl) s
  back : ∀ s, ¬ noC (us.look sl) s → ¬ noC sl s ∧ ∀ b, fp' s b → fp s b
theorem noC_gone {sl : Nat → Option Slot} {s : Nat} {S : Slot} : noC (put sl s (gone S)) s := by intro hv cv c h; simp [put, gone] at h
theorem noC_put {sl : Nat → Option Slot} {s r : Nat} {S : Slot} (h : r ≠ s) : noC (put sl s S) r ↔ noC sl r := by simp [noC, put, h]
theorem noC_not {sl : Nat → Option Slot} {s : Nat} {hv cv : Nat} {c : SlotC} (h : sl s = some ⟨hv, cv, some c⟩) : ¬ noC sl s := fun hn => hn _ _ _ h
theorem take_view (sl : Nat → Option Slot) (t : Ty) (m : Mk) (s hv cv : Nat) (p : Option Path) (t' : Ty) (y : t'.den) : take sl t m (.view s hv cv p t' y) = (match sl s with
      | some S => match lookC sl s hv cv with
        | some c =>
          if hh : t' = t then
            bif t.shared m then some ((hh ▸ y : t.den), [(s, frozen_ S)])
            else match p with
              | some [.el 0] => if c.t = .sl t ∧ c.m = .ow m then some ((hh ▸ y : t.den), [(s, gone S)]) else none
              | _ => none
          else none
        | none => none
      | none => none) := by cases t <;> rfl
section
variable {w : World} {hdr : Nat → Value}
theorem took_none {Z : Bs} {sl : Nat → Option Slot} {fp : Nat → Bs} (H : HR Z w sl hdr fp) {t : Ty} {m : Mk} {x : t.den} {cs : List Value} (hr : Rep Z w t m x none_ cs) : Took Z w sl hdr fp [] Z fp t m x none_ cs :=
  ⟨H, Trans.refl _ _ _ _ _, hr, fun _ h => h.elim, fun s b h1 h2 => ⟨h2, h1⟩, fun s h => ⟨h, fun _ h => h⟩⟩
theorem took_gone {Z : Bs} {sl : Nat → Option Slot} {fp : Nat → Bs} (H : HR Z w sl hdr fp) {s : Nat} {S : Slot} {c : SlotC} (hs : sl s = some S) (hc : S.c = some c) {t : Ty} {m : Mk} {x : t.den} {F : Bs} {cs : List Value} (hF : ∀ b, F b → fp s b) (hr : Rep Z w t m x F cs) :
    Took Z w sl hdr fp [(s, gone S)] Z fp t m x F cs := by
  obtain ⟨h1, h2⟩ := step_gone H hs
  have hs' : sl s = some ⟨S.hv, S.cv, some c⟩ := by rw [hs]; cases S; simp only at hc; subst hc; rfl
  refine ⟨by rw [look_cons]; exact h1, by rw [look_cons]; exact h2, hr, fun b hb => ⟨s, hF b hb, noC_not hs', hF b hb, by rw [look_cons]; exact noC_gone⟩, fun r b h3 h4 => ⟨h4, ?_⟩, fun r h => ⟨fun h' => h ?_, fun _ h => h⟩⟩
  all_goals
    rw [look_cons]
    by_cases e : r = s
    · subst e; exact noC_gone
    · rw [look_nil, noC_put e]; assumption
theorem took_freeze {Z : Bs} {sl : Nat → Option Slot} {fp : Nat → Bs} (H : HR Z w sl hdr fp) {s : Nat} {S : Slot} {c : SlotC} (hs : sl s = some S) (hc : S.c = some c) {t : Ty} {m : Mk} {x : t.den} {F : Bs} {cs : List Value} (hF : ∀ b, F b → fp s b) {m0 : Mk} (hr : Rep Z w t m0 x F cs) (hm : t.shared m = true) :
    Took Z w sl hdr fp [(s, frozen_ S)] (fun b => Z b ∨ fp s b) (fun r => if r = s then none_ else fp r) t m x none_ cs := by
  obtain ⟨h1, h2⟩ := step_freeze H hs
  have hs' : sl s = some ⟨S.hv, S.cv, some c⟩ := by rw [hs]; cases S; simp only at hc; subst hc; rfl
  refine ⟨by rw [look_cons]; exact h1, by rw [look_cons]; exact h2, (hr.freeze (fun b hb => hb.imp id (hF b))).unshare hm, fun b hb => hb.elim, fun r b h3 h4 => ?_, fun r h => ?_⟩
  · have e : r ≠ s := fun e => noC_not hs' (e ▸ h3)
    refine ⟨by simp [e, h4], ?_⟩
    rw [look_cons, look_nil, noC_put e]; exact h3
  · by_cases e : r = s
    · subst e; exact ⟨noC_not hs', fun b hb => by simp [none_] at hb⟩
    · rw [look_cons, look_nil, noC_put e] at h
      exact ⟨h, fun b hb => by simpa [e] using hb⟩
theorem take_sound : ∀ (mv : MV) {t : Ty} {m : Mk} {Z : Bs} {sl : Nat → Option Slot} {fp : Nat → Bs} {x : t.den} {us : Ups} {cs : List Value}, take sl t m mv = some (x, us) → HR Z w sl hdr fp → RelC Z w sl hdr fp mv cs →
    ∃ Z' fp' F, Took Z w sl hdr fp us Z' fp' t m x F cs
  | .val t' y, t, m, Z, sl, fp, x, us, cs, h, H, hr => by
    have h' : (if hh : t' = t then bif t.shared m || t.flat then some ((hh ▸ y : t.den), ([] : Ups)) else none else none) = some (x, us) := by cases t <;> exact h
    split at h'
    · rename_i e; subst e
      cases hb : (t'.shared m || t'.flat) with
      | false => rw [hb] at h'; cases h'
      | true =>
        rw [hb] at h'
        simp only [cond_true, Option.some.injEq, Prod.mk.injEq] at h'
        obtain ⟨rfl, rfl⟩ := h'
        refine ⟨Z, fp, none_, took_none H ?_⟩
        simp only [Bool.or_eq_true] at hb
        rcases hb with hb | hb
        · exact Rep.unshare hb hr
        · exact Rep.flat hb hr
    · cases h'
  | .nil, .sl t, m, Z, sl, fp, x, us, cs, h, H, ⟨A, hr⟩ => by
    simp only [take, Option.some.injEq, Prod.mk.injEq] at h
    obtain ⟨rfl, rfl⟩ := h
    refine ⟨Z, fp, none_, took_none H ?_⟩
    subst hr
    cases m with
    | ow m => exact ⟨A, 0, rfl, .inl ⟨rfl, rfl⟩⟩
    | im => exact ⟨A, 0, rfl, Nat.le_refl _, .inl rfl⟩
    | pr a b => exact ⟨A, 0, rfl, Nat.le_refl _, .inl rfl⟩
  | .root s hv, .sl t, m, Z, sl, fp, x, us, cs, h, H, ⟨_, S0, e0, _, hr⟩ => by
    simp only [take] at h
    split at h
    · rename_i S e1
      split at h
      · rename_i cv c e2
        have e3 := lookH_some e2
        rw [e1] at e3; obtain rfl := Option.some.inj e3
        rw [e1] at e0; obtain rfl := Option.some.inj e0
        obtain rfl := hr rfl c rfl
        split at h
        · rename_i e
          have hrep := H.rep s _ _ _ e1
          obtain ⟨ct, cm, cx⟩ := c
          simp only at e hrep; subst e
          cases hm : m.isOw with
          | true =>
            rw [hm] at h
            simp only [cond_true] at h
            split at h
            · rename_i em; subst em
              simp only [Option.some.injEq, Prod.mk.injEq] at h
              obtain ⟨rfl, rfl⟩ := h
              exact ⟨Z, fp, fp s, took_gone H e1 rfl (fun _ h => h) hrep⟩
            · cases h
          | false =>
            rw [hm] at h
            simp only [cond_false, Option.some.injEq, Prod.mk.injEq] at h
            obtain ⟨rfl, rfl⟩ := h
            have hsh : (Ty.sl t).shared m = true ∨ ∃ a b, m = .pr a b := by
              cases m with
              | im => exact .inl rfl
              | ow m => cases hm
              | pr a b => exact .inr ⟨a, b, rfl⟩
            rcases hsh with hsh | ⟨a, b, rfl⟩
            · exact ⟨_, _, none_, took_freeze H e1 rfl (fun _ h => h) hrep hsh⟩
            · obtain ⟨q1, q2, q3, q4, q5, q6⟩ := took_freeze (m := .im) H e1 rfl (fun _ h => h) hrep rfl
              exact ⟨_, _, none_, ⟨q1, q2, q3, q4, q5, q6⟩⟩
        · cases h
      · cases h
    · cases h
  | .view s hv cv p t' y, t, m, Z, sl, fp, x, us, cs, h, H, ⟨_, S0, e0, _, hr⟩ => by
    have h' := h
    rw [take_view] at h'
    split at h'
    · rename_i S e1
      split at h'
      · rename_i c e2
        have e3 := lookC_some e2
        rw [e1] at e3; obtain rfl := Option.some.inj e3
        rw [e1] at e0; obtain rfl := Option.some.inj e0
        obtain ⟨⟨m0, f, hrep, hf, _⟩, hp⟩ := (hr rfl).2 rfl c rfl
        split at h'
        · rename_i e; subst e
          cases hm : t'.shared m with
          | true =>
            rw [hm] at h'
            simp only [cond_true, Option.some.injEq, Prod.mk.injEq] at h'
            obtain ⟨rfl, rfl⟩ := h'
            exact ⟨_, _, none_, took_freeze H e1 rfl hf hrep hm⟩
          | false =>
            rw [hm] at h'
            simp only [cond_false] at h'
            split at h'
            · split at h'
              · rename_i ec
                obtain ⟨ec1, ec2⟩ := ec
                simp only [Option.some.injEq, Prod.mk.injEq] at h'
                obtain ⟨rfl, rfl⟩ := h'
                obtain ⟨g1, g2⟩ := hp _ rfl
                have hro := H.rep s _ _ _ e1
                obtain ⟨ct, cm, cx⟩ := c
                simp only at ec1 ec2 hro g1 g2
                subst ec1; subst ec2
                obtain ⟨b, o, cs', fp', hadr, _, F⟩ := focus_root none hro g1 (m' := m) (by simp [mkP])
                obtain ⟨g3, _⟩ := g2 rfl
                have hcs : cs' = cs := by
                  obtain ⟨A, cap, eh, _⟩ := hro
                  simp only [List.cons.injEq, and_true] at eh
                  rw [eh] at hadr g3
                  cases A with
                  | none => simp [addrOf] at hadr
                  | some A =>
                    simp only [addrOf, subc, Nat.zero_mul, Nat.add_zero] at hadr g3
                    have e1 : A.block = b ∧ A.off = o := by cases t' <;> (simp only [addrOf, Option.some.injEq, Prod.mk.injEq] at hadr; exact hadr)
                    have e2 := range_at F.at_
                    rw [F.rep.len] at e2
                    rw [e1.1, e1.2, e2] at g3
                    cases t' <;> (simp only [subc, Option.some.injEq] at g3; exact g3)
                subst hcs
                exact ⟨Z, fp, fp', took_gone H e1 rfl F.sub F.rep⟩
              · cases h'
            · cases h'
        · cases h'
      · cases h'
    · cases h'
  | .pr u v, .pair a b, m, Z, sl, fp, x, us, cs, h, H, ⟨c1, c2, ec, r1, r2⟩ => by
    simp only [take] at h
    split at h
    · rename_i x1 us1 e1
      split at h
      · rename_i y1 vs1 e2
        simp only [Option.some.injEq, Prod.mk.injEq] at h
        obtain ⟨rfl, rfl⟩ := h
        obtain ⟨Z1, fp1, F1, T1⟩ := take_sound u e1 H r1
        obtain ⟨Z2, fp2, F2, T2⟩ := take_sound v e2 T1.hr (r2.trans H T1.hr T1.tr)
        refine ⟨Z2, fp2, fun k => F1 k ∨ F2 k, by rw [look_app]; exact T2.hr, by rw [look_app]; exact T1.tr.comp T2.tr, ⟨c1, c2, F1, F2, ec, T1.rep.keep (fun b hb => ⟨(T2.tr.z b hb).1, rfl⟩) (fun _ _ => rfl), T2.rep, fun k h => .inl h, fun k h => .inr h, fun k h h' => ?_⟩, fun k hk => ?_, fun s k h1 h2 => ?_, fun s h => ?_⟩
        · obtain ⟨s1, _, _, q1, q2⟩ := T1.hand k h
          obtain ⟨s2, q3, q4, _, _⟩ := T2.hand k h'
          exact q4 (T1.hr.disj _ _ _ q1 q3 ▸ q2)
        · rw [look_app]
          rcases hk with hk | hk
          · obtain ⟨s1, q0, q0', q1, q2⟩ := T1.hand k hk
            obtain ⟨q3, q4⟩ := T2.kept s1 k q2 q1
            exact ⟨s1, q0, q0', q3, q4⟩
          · obtain ⟨s2, q3, q4, q5, q6⟩ := T2.hand k hk
            obtain ⟨q7, q8⟩ := T1.back s2 q4
            exact ⟨s2, q8 k q3, q7, q5, q6⟩
        · rw [look_app]
          obtain ⟨q1, q2⟩ := T1.kept s k h1 h2
          exact T2.kept s k q2 q1
        · rw [look_app] at h
          obtain ⟨q1, q2⟩ := T2.back s h
          obtain ⟨q3, q4⟩ := T1.back s q1
          exact ⟨q3, fun b hb => q4 b (q2 b hb)⟩
      · cases h
    · cases h
  | .dead, t, _, _, _, _, _, _, _, h, _, _ => by cases t <;> cases h
  | .nil, .bool, _, _, _, _, _, _, _, h, _, _ => by cases h
  | .nil, .int _, _, _, _, _, _, _, _, h, _, _ => by cases h
  | .nil, .str, _, _, _, _, _, _, _, h, _, _ => by cases h
  | .nil, .unit, _, _, _, _, _, _, _, h, _, _ => by cases h
  | .nil, .pair _ _, _, _, _, _, _, _, _, h, _, _ => by cases h
  | .nil, .arr _ _, _, _, _, _, _, _, _, h, _, _ => by cases h
  | .nil, .mp _ _, _, _, _, _, _, _, _, h, _, _ => by cases h
  | .nil, .ex _ _ _, _, _, _, _, _, _, _, h, _, _ => by cases h
  | .root _ _, .bool, _, _, _, _, _, _, _, h, _, _ => by cases h
  | .root _ _, .int _, _, _, _, _, _, _, _, h, _, _ => by cases h
  | .root _ _, .str, _, _, _, _, _, _, _, h, _, _ => by cases h
  | .root _ _, .unit, _, _, _, _, _, _, _, h, _, _ => by cases h
  | .root _ _, .pair _ _, _, _, _, _, _, _, _, h, _, _ => by cases h
  | .root _ _, .arr _ _, _, _, _, _, _, _, _, h, _, _ => by cases h
  | .root _ _, .mp _ _, _, _, _, _, _, _, _, h, _, _ => by cases h
  | .root _ _, .ex _ _ _, _, _, _, _, _, _, _, h, _, _ => by cases h
  | .pr _ _, .bool, _, _, _, _, _, _, _, h, _, _ => by cases h
  | .pr _ _, .int _, _, _, _, _, _, _, _, h, _, _ => by cases h
  | .pr _ _, .str, _, _, _, _, _, _, _, h, _, _ => by cases h
  | .pr _ _, .unit, _, _, _, _, _, _, _, h, _, _ => by cases h
  | .pr _ _, .arr _ _, _, _, _, _, _, _, _, h, _, _ => by cases h
  | .pr _ _, .sl _, _, _, _, _, _, _, _, h, _, _ => by cases h
  | .pr _ _, .mp _ _, _, _, _, _, _, _, _, h, _, _ => by cases h
  | .pr _ _, .ex _ _ _, _, _, _, _, _, _, _, h, _, _ => by cases h
  | .adr _ _ _ _ _ _, t, _, _, _, _, _, _, _, h, _, _ => by cases t <;> cases h
  | .iadr _ _, t, _, _, _, _, _, _, _, h, _, _ => by cases t <;> cases h
  | .ptr _ _ _, t, _, _, _, _, _, _, _, h, _, _ => by cases t <;> cases h
  | .icl _, t, _, _, _, _, _, _, _, h, _, _ => by cases t <;> cases h
  | .nv _ _ _, t, _, _, _, _, _, _, _, h, _, _ => by cases t <;> cases h
  | .pend _ _ _ _ _ _, t, _, _, _, _, _, _, _, h, _, _ => by cases t <;> cases h
  | .un, t, _, _, _, _, _, _, _, h, _, _ => by cases t <;> cases h
  | .tc _ _, t, _, _, _, _, _, _, _, h, _, _ => by cases t <;> cases h
  | .tn, t, _, _, _, _, _, _, _, h, _, _ => by cases t <;> cases h
  | .fn _ _, t, _, _, _, _, _, _, _, h, _, _ => by cases t <;> cases h
theorem Inline.all {α : Type} {R : α → Bs → List Value → Prop} {q : Value → Prop} (h : ∀ x f c, R x f c → ∀ v ∈ c, q v) : ∀ {xs : List α} {fp : Bs} {cs : List Value}, Inline R xs fp cs → ∀ v ∈ cs, q v
  | [], _, _, h0, v, hv => by rw [show _ = [] from h0] at hv; cases hv
  | _ :: xs, _, _, ⟨c1, c2, f1, f2, e, r, i, _, _, _⟩, v, hv => by
    rw [e] at hv
    rcases List.mem_append.1 hv with hv | hv
    · exact h _ _ _ r v hv
    · exact Inline.all h i v hv
theorem RepX.one {A B : Type} {Ra : A → List Value → Prop} {Rb : B → List Value → Prop} {va vb : List Value → Value} {Z : Bs} {w : World} {sz : Nat} (ha : ∀ x c, Ra x c → ∀ v ∈ c, v.oneCell' = true) (hb : ∀ x c, Rb x c → ∀ v ∈ c, v.oneCell' = true) :
    ∀ {k : XK} {x : k.den A B} {cs : List Value}, RepX Ra Rb va vb Z w sz k x cs → ∀ v ∈ cs, v.oneCell' = true
  | .tree, _, _, ⟨0, h⟩, _, _ => h.elim
  | .tree, _, _, ⟨n + 1, c1, S, c3, cap, e, h1, h2, _⟩, v, hv => by
    rw [e] at hv
    rcases List.mem_append.1 hv with hv | hv
    · exact ha _ _ h1 v hv
    · rcases List.mem_cons.1 hv with hv | hv
      · rw [hv]; rfl
      · exact hb _ _ h2 v hv
  | .ptr, _, _, h, v, hv => by rcases h with ⟨_, e⟩ | ⟨_, _, _, _, _, e, _⟩ <;> (rw [e] at hv; obtain rfl := List.mem_singleton.1 hv; rfl)
  | .ifc _ _, _, _, h, v, hv => by rcases h with ⟨_, e⟩ | ⟨_, _, _, e, _⟩ | ⟨_, _, _, e, _⟩ <;> (rw [e] at hv; obtain rfl := List.mem_singleton.1 hv; rfl)
theorem Rep.one {Z : Bs} {w : World} : ∀ {t : Ty} {m : Mk} {x : t.den} {fp : Bs} {cs : List Value}, Rep Z w t m x fp cs → ∀ v ∈ cs, v.oneCell' = true
  | .bool, _, _, _, _, h, v, hv | .int _, _, _, _, _, h, v, hv | .str, _, _, _, _, h, v, hv => by rw [show _ = _ from h] at hv; obtain rfl := List.mem_singleton.1 hv; rfl
  | .unit, _, _, _, _, h, v, hv => by rw [show _ = _ from h] at hv; cases hv
  | .pair _ _, _, _, _, _, ⟨c1, c2, f1, f2, e, r, i, _⟩, v, hv => by
    rw [e] at hv
    rcases List.mem_append.1 hv with hv | hv
    · exact r.one v hv
    · exact i.one v hv
  | .arr _ t, _, _, _, _, ⟨h, i⟩, v, hv => Inline.all (fun x f c hr => Rep.one (t := t) hr) i v hv
  | .sl _, .ow _, _, _, _, ⟨A, cap, e, h⟩, v, hv => by rw [e] at hv; obtain rfl := List.mem_singleton.1 hv; rfl
  | .sl _, .im, _, _, _, ⟨A, cap, e, h⟩, v, hv | .sl _, .pr _ _, _, _, _, ⟨A, cap, e, h⟩, v, hv => by rw [e] at hv; obtain rfl := List.mem_singleton.1 hv; rfl
  | .mp _ _, .ow _, _, _, _, h, v, hv => by rcases h with ⟨_, e⟩ | ⟨b, es, n, l, hl, e, _⟩ <;> (rw [e] at hv; obtain rfl := List.mem_singleton.1 hv; rfl)
  | .mp _ _, .im, _, _, _, h, v, hv | .mp _ _, .pr _ _, _, _, _, h, v, hv => by rcases h with ⟨_, e⟩ | ⟨b, es, n, l, hl, e, _⟩ <;> (rw [e] at hv; obtain rfl := List.mem_singleton.1 hv; rfl)
  | .ex _ a b, _, _, _, _, h, v, hv => RepX.one (fun x c h => Rep.one (t := a) h) (fun x c h => Rep.one (t := b) h) h v hv
/-- The cells cs are written from cell o of block b on. -/
structure Wrote (w w' : World) (b o : Nat) (cs : List Value) : Prop where
  rest : ∀ k, k ≠ b → w'.heap[k]? = w.heap[k]?
  out : ∀ n, n = cs.length → Out w w' b o n
  at_ : At w' b o cs
  size : w'.heap.size = w.heap.size
  os : w'.os = w.os
  tape : w'.tape = w.tape
  output : w'.output = w.output
theorem wrote {P : Program} {w : World} {b o : Nat} {cs ks : List Value} (hb : Own w b) (ha : At w b o ks) (hl : cs.length = ks.length) (h1 : ∀ v ∈ cs, v.oneCell' = true) :
    ∃ w', (storeCells ⟨b, o, none⟩ cs).run P w = .ok () w' ∧ Wrote w w' b o cs := by
  obtain ⟨c, e, hc⟩ := hb
  by_cases h0 : cs = []
  · subst h0
    exact ⟨w, rfl, fun _ _ => rfl, fun n hn => ⟨fun _ _ => rfl, fun c e h => ⟨c, h, rfl⟩⟩, fun j hj => by simp at hj, rfl, rfl, rfl, rfl⟩
  have hlen : 0 < cs.length := List.length_pos_iff.2 h0
  have hfit : o + cs.length ≤ c.size := by
    have := ha (ks.length - 1) (by omega)
    have hk : ks[ks.length - 1]? = some (ks[ks.length - 1]'(by omega)) := List.getElem?_eq_getElem _
    rw [hk] at this
    simp only [World.cell?, hc, Option.isSome_none, Bool.false_eq_true, if_false] at this
    have hh : o + (ks.length - 1) < c.size := by
      rcases Nat.lt_or_ge (o + (ks.length - 1)) c.size with h | h
      · exact h
      · rw [Array.getElem?_eq_none h] at this; cases this
    omega
  have hrun := run_storeCells_at P b o e cs 0 c w hc (by omega) h1
  simp only [Nat.add_zero] at hrun
  refine ⟨_, hrun, fun k hk => setRow_other w b k _ hk, fun n hn => ⟨fun j hj => ?_, fun c0 e0 h0 => ?_⟩, fun j hj => ?_, by simp [World.setRow], rfl, rfl, rfl⟩
  · simp only [World.cell?, setRow_heap w b c _ e _ hc, hc, Option.isSome_none, Bool.false_eq_true, if_false]
    rw [List.getElem?_toArray, ← Array.getElem?_toList]
    rcases hj with hj | hj
    · rw [List.getElem?_append_left (by simp; omega), List.getElem?_append_left (by simp; omega), List.getElem?_take]
      simp [hj]
    · rw [List.getElem?_append_right (by simp; omega), List.getElem?_drop]
      congr 1
      simp
      omega
  · rw [hc] at h0
    obtain ⟨rfl, rfl⟩ : c = c0 ∧ e = e0 := by simpa using h0
    exact ⟨_, setRow_heap w b c _ e _ hc, by simp; omega⟩
  · simp only [World.cell?, setRow_heap w b c _ e _ hc, Option.isSome_none, Bool.false_eq_true, if_false]
    rw [List.getElem?_toArray, List.getElem?_append_left (by simp; omega), List.getElem?_append_right (by simp; omega)]
    congr 1
    simp
    omega
theorem store_place {P : Program} {Z : Bs} {sl : Nat → Option Slot} {fp : Nat → Bs} (H : HR Z w sl hdr fp) {s hv cv : Nat} {c : SlotC} (hs : sl s = some ⟨hv, cv, some c⟩) {p : Path} {t : Ty} {x y : t.den} {m : Mk} {b o : Nat} {fp0 F : Bs} {cs : List Value}
    (hro : Rep Z w c.t c.m c.x fp0 [hdr s]) (h0 : ∀ k, fp0 k → fp s k)
    (hg : getP c.t c.x p = some ⟨t, x⟩) (hm : mkP c.t c.m p = some m) (ho : c.m.isOw = true) (hadr : addrOf w c.t [hdr s] none p = some (b, o)) (hr : Rep Z w t m y F cs)
    (hF : ∀ k, F k → (∃ r, fp r k ∧ noC sl r) ∨ fp s k ∧ (¬ fp0 k ∨ ∀ fpl ks, Rep Z w t m x fpl ks → At w b o ks → fpl k)) :
    ∃ w' fp', (storeCells ⟨b, o, none⟩ cs).run P w = .ok () w' ∧ HR Z w' (put sl s ⟨hv, cv + 1, some ⟨c.t, c.m, setP c.t c.x p ⟨t, y⟩⟩⟩) hdr fp' ∧
      Trans Z w sl hdr fp Z w' (put sl s ⟨hv, cv + 1, some ⟨c.t, c.m, setP c.t c.x p ⟨t, y⟩⟩⟩) hdr fp' := by
  have hsh := H.shape s _ _ _ hs
  obtain ⟨ct, cm, cx⟩ := c
  simp only at hg hm ho hadr hro hsh ⊢
  obtain ⟨m0, rfl⟩ : ∃ m0, cm = .ow m0 := by cases cm <;> first | exact ⟨_, rfl⟩ | cases ho
  rcases hsh with ⟨t0, rfl⟩ | ⟨k0, v0, rfl⟩
  rotate_left 1
  · cases p with
    | nil => simp [addrOf] at hadr
    | cons st p => cases st <;> simp [getP] at hg
  cases p with
  | nil => simp [addrOf] at hadr
  | cons st p =>
  cases st with
  | f1 => simp [getP] at hg
  | f2 => simp [getP] at hg
  | el i =>
  obtain ⟨b', o', ks, fpl, hadr', _, FR⟩ := focus_root none hro hg hm
  rw [hadr] at hadr'
  simp only [Option.some.injEq, Prod.mk.injEq] at hadr'
  obtain ⟨rfl, rfl⟩ := hadr'
  obtain ⟨w', hrun, W⟩ := wrote (P := P) FR.blk FR.at_ (hr.len.trans FR.rep.len.symm) hr.one
  have hbs : fp s b := h0 b FR.own
  have hcont : ∀ r k, r ≠ s → fp r k → F k → noC sl r := fun r k hne h hk => by
    rcases hF k hk with ⟨r', h1, h2⟩ | ⟨h1, _⟩
    · obtain rfl := H.disj _ _ _ h h1
      exact h2
    · exact absurd (H.disj _ _ _ h h1) hne
  have hFk : ∀ k, F k → fp0 k → fpl k := fun k hk h => by
    rcases hF k hk with ⟨r, h1, h2⟩ | ⟨h1, h2 | h2⟩
    · obtain rfl := H.disj _ _ _ (h0 k h) h1
      exact absurd hs (h2 _ _ _)
    · exact absurd h h2
    · exact h2 fpl ks FR.rep FR.at_
  have hbF : ¬ F b := fun h => FR.not (hFk b h FR.own)
  have hFo : ∀ k, F k → ∃ r, fp r k := fun k hk => (hF k hk).elim (fun ⟨r, h, _⟩ => ⟨r, h⟩) (fun h => ⟨s, h.1⟩)
  have hr' : Rep Z w' t m y F cs := hr.keep (fun k hk => ⟨hk, W.rest k (fun e => H.dz _ _ hbs (e ▸ hk))⟩) (fun k hk => W.rest k (fun e => hbF (e ▸ hk)))
  have hnew := FR.put w' y cs F (fun k hk => W.rest k (fun e => H.dz _ _ hbs (e ▸ hk))) (fun k _ _ hk => W.rest k hk) (W.out _ hr.len.symm) hr' W.at_ hFk hbF
  refine ⟨w', fun r k => if r = s then fp s k ∨ F k else fp r k ∧ ¬ F k, hrun, ⟨fun r hv' cv' c' h => ?_, fun r hv' cv' c' h => ?_, fun r r' k h h' => ?_, fun r k h => ?_, fun k h => by rw [W.size]; exact H.zlt k h, fun r k h hz => ?_⟩,
    fun k hk => ⟨hk, W.rest k (fun e => H.dz _ _ hbs (e ▸ hk))⟩, fun r S h => ?_, fun k h1 h2 h3 => ⟨W.rest k (fun e => h2 s (e ▸ hbs)), fun r h => ?_, h3⟩, by rw [W.size]; exact Nat.le_refl _, W.os, W.tape, W.output⟩
  · unfold put at h; split at h
    · rename_i e; subst e
      simp only [Option.some.injEq, Slot.mk.injEq] at h
      obtain ⟨rfl, rfl, rfl⟩ := h
      simp only [if_true]
      exact hnew.1.mono (fun k hk => hk.imp (fun h => h0 k h.1) id)
    · rename_i e
      simp only [if_neg e]
      exact ((H.rep r hv' cv' c' h).keep (fun k hk => ⟨hk, W.rest k (fun e => H.dz _ _ hbs (e ▸ hk))⟩) (fun k hk => W.rest k (fun e' => e (H.disj _ _ _ hk (e' ▸ hbs))))).mono (fun k hk => ⟨hk, fun hf => hcont r k e hk hf _ _ _ h⟩)
  · unfold put at h; split at h
    · simp only [Option.some.injEq, Slot.mk.injEq] at h
      obtain ⟨rfl, rfl, rfl⟩ := h
      exact .inl ⟨t0, rfl⟩
    · exact H.shape r hv' cv' c' h
  · by_cases e : r = s <;> by_cases e' : r' = s
    · exact e.trans e'.symm
    · simp only [if_pos e, if_neg e'] at h h'
      rcases h with h | h
      · exact absurd (H.disj _ _ _ h'.1 h) e'
      · exact absurd h h'.2
    · simp only [if_neg e, if_pos e'] at h h'
      rcases h' with h' | h'
      · exact absurd (H.disj _ _ _ h.1 h') e
      · exact absurd h' h.2
    · simp only [if_neg e, if_neg e'] at h h'; exact H.disj _ _ _ h.1 h'.1
  · rw [W.size]
    by_cases e : r = s
    · simp only [if_pos e] at h
      rcases h with h | h
      · exact H.lt _ _ h
      · obtain ⟨r', h1⟩ := hFo k h; exact H.lt _ _ h1
    · simp only [if_neg e] at h; exact H.lt _ _ h.1
  · by_cases e : r = s
    · simp only [if_pos e] at h
      rcases h with h | h
      · exact H.dz _ _ h hz
      · obtain ⟨r', h1⟩ := hFo k h; exact H.dz _ _ h1 hz
    · simp only [if_neg e] at h; exact H.dz _ _ h.1 hz
  · by_cases e : r = s
    · subst e
      rw [hs] at h; obtain rfl := Option.some.inj h
      exact ⟨⟨hv, cv + 1, some ⟨.sl t0, .ow m0, setP (.sl t0) cx (.el i :: p) ⟨t, y⟩⟩⟩, by simp only [put, if_true], .inr (.inl ⟨rfl, Nat.lt_succ_self _, fun c' _ => ⟨⟨_, rfl⟩, rfl⟩⟩)⟩
    · refine ⟨S, by simp [put, e, h], .inr (.inr ⟨rfl, rfl, fun c' hc => ⟨c', hc, rfl, fun k hk => W.rest k (fun e' => e (H.disj _ _ _ hk (e' ▸ hbs))), .inl ⟨rfl, fun k hk => ?_⟩⟩⟩)⟩
      simp only [if_neg e]
      obtain ⟨a1, a2, a3⟩ := S
      simp only at hc; subst hc
      exact ⟨hk, fun hf => hcont r k e hk hf _ _ _ h⟩
  · by_cases e : r = s
    · simp only [if_pos e] at h
      rcases h with h | h
      · exact h2 s h
      · obtain ⟨r', h4⟩ := hFo k h; exact h2 r' h4
    · simp only [if_neg e] at h; exact h2 r h.1
end
end Go.Proofs.Ytibphkgcdnconaa.V
