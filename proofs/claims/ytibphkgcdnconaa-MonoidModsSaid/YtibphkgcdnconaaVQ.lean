/- Append. -/
import Derived.Test.YtibphkgcdnconaaVP2
import Derived.Laws.Append
import Derived.Laws.AppendOwn
namespace Go.Proofs.Ytibphkgcdnconaa.V
open Go
set_option linter.unusedVariables false
set_option linter.all false
section
variable {E : Env} {o : Oper} {a : Act} {w : World} {Z : Bs} {sl : Nat → Option Slot} {hdr : Nat → Value} {fp : Nat → Bs} {mv : MV}
theorem getP_nil (t : Ty) (x : t.den) : getP t x [] = some ⟨t, x⟩ := by cases t <;> rfl
/-- One block of slot s has been written, its slice may have a new header. -/
theorem step_write (H : HR Z w sl hdr fp) {s hv cv : Nat} {c : SlotC} (hs : sl s = some ⟨hv, cv, some c⟩) {b : Nat} (hb : fp s b) {w' : World} (hrest : ∀ k, k ≠ b → w'.heap[k]? = w.heap[k]?) (hsz : w'.heap.size = w.heap.size) (hos : w'.os = w.os) (htp : w'.tape = w.tape) (hout : w'.output = w.output)
    (hv' cv' : Nat) (c' : SlotC) (hd : Value) (F : Bs) (hr : Rep Z w' c'.t c'.m c'.x F [hd]) (hsh : (∃ t, c'.t = .sl t) ∨ ∃ k v, c'.t = .mp k v) (hF : ∀ k, F k → fp s k ∨ ∃ r, fp r k ∧ noC sl r) (hver : hv < hv' ∨ hv = hv' ∧ cv < cv' ∧ hd = hdr s) :
    ∃ fp', (∀ k, F k → fp' s k) ∧ (∀ k, fp s k → fp' s k) ∧ HR Z w' (put sl s ⟨hv', cv', some c'⟩) (fun r => if r = s then hd else hdr r) fp' ∧ Trans Z w sl hdr fp Z w' (put sl s ⟨hv', cv', some c'⟩) (fun r => if r = s then hd else hdr r) fp' := by
  have hcont : ∀ r k, r ≠ s → fp r k → F k → noC sl r := fun r k hne h hk => by
    rcases hF k hk with h1 | ⟨r', h1, h2⟩
    · exact absurd (H.disj _ _ _ h h1) hne
    · obtain rfl := H.disj _ _ _ h h1
      exact h2
  have hFo : ∀ k, F k → ∃ r, fp r k := fun k hk => (hF k hk).elim (fun h => ⟨s, h⟩) (fun ⟨r, h, _⟩ => ⟨r, h⟩)
  have hZ : ∀ k, Z k → w'.heap[k]? = w.heap[k]? := fun k hk => hrest k (fun e => H.dz _ _ hb (e ▸ hk))
  refine ⟨fun r k => if r = s then fp s k ∨ F k else fp r k ∧ ¬ F k, fun k hk => by simp [hk], fun k hk => by simp [hk], ⟨fun r hv0 cv0 c0 h => ?_, fun r hv0 cv0 c0 h => ?_, fun r r' k h h' => ?_, fun r k h => ?_, fun k h => by rw [hsz]; exact H.zlt k h, fun r k h hz => ?_⟩,
    fun k hk => ⟨hk, hZ k hk⟩, fun r S h => ?_, fun k h1 h2 h3 => ⟨hrest k (fun e => h2 s (e ▸ hb)), fun r h => ?_, h3⟩, by rw [hsz]; exact Nat.le_refl _, hos, htp, hout⟩
  · unfold put at h; split at h
    · rename_i e; subst e
      simp only [Option.some.injEq, Slot.mk.injEq] at h
      obtain ⟨rfl, rfl, rfl⟩ := h
      simp only [if_true]
      exact hr.mono (fun k hk => .inr hk)
    · rename_i e
      simp only [if_neg e]
      exact ((H.rep r hv0 cv0 c0 h).keep (fun k hk => ⟨hk, hZ k hk⟩) (fun k hk => hrest k (fun e' => e (H.disj _ _ _ hk (e' ▸ hb))))).mono (fun k hk => ⟨hk, fun hf => hcont r k e hk hf _ _ _ h⟩)
  · unfold put at h; split at h
    · simp only [Option.some.injEq, Slot.mk.injEq] at h
      obtain ⟨rfl, rfl, rfl⟩ := h
      exact hsh
    · exact H.shape r hv0 cv0 c0 h
  · by_cases e : r = s <;> by_cases e' : r' = s
    · exact e.trans e'.symm
    · simp only [if_pos e, if_neg e'] at h h'
      rcases h with h | h
      · exact absurd (H.disj _ _ _ h'.1 h) e'
      · exact absurd h h'.2
    · simp only [if_neg e, if_pos e'] at h h'
      rcases h' with h' | h'
      · exact absurd (H.disj _ _ _ h.1 h') e
      · exact absurd h' h.2
    · simp only [if_neg e, if_neg e'] at h h'; exact H.disj _ _ _ h.1 h'.1
  · rw [hsz]
    by_cases e : r = s
    · simp only [if_pos e] at h
      rcases h with h | h
      · exact H.lt _ _ h
      · obtain ⟨r', h1⟩ := hFo k h; exact H.lt _ _ h1
    · simp only [if_neg e] at h; exact H.lt _ _ h.1
  · by_cases e : r = s
    · simp only [if_pos e] at h
      rcases h with h | h
      · exact H.dz _ _ h hz
      · obtain ⟨r', h1⟩ := hFo k h; exact H.dz _ _ h1 hz
    · simp only [if_neg e] at h; exact H.dz _ _ h.1 hz
  · by_cases e : r = s
    · subst e
      rw [hs] at h; obtain rfl := Option.some.inj h
      refine ⟨⟨hv', cv', some c'⟩, by simp only [put, if_true], ?_⟩
      rcases hver with h | ⟨h1, h2, h3⟩
      · exact .inl h
      · exact .inr (.inl ⟨h1, h2, fun c0 _ => ⟨⟨_, rfl⟩, by simp [h3]⟩⟩)
    · refine ⟨S, by simp [put, e, h], .inr (.inr ⟨rfl, rfl, fun c0 hc => ⟨c0, hc, by simp [e], fun k hk => hrest k (fun e' => e (H.disj _ _ _ hk (e' ▸ hb))), .inl ⟨rfl, fun k hk => ?_⟩⟩⟩)⟩
      simp only [if_neg e]
      obtain ⟨a1, a2, a3⟩ := S
      simp only at hc; subst hc
      exact ⟨hk, fun hf => hcont r k e hk hf _ _ _ h⟩
  · by_cases e : r = s
    · simp only [if_pos e] at h
      rcases h with h | h
      · exact h2 s h
      · obtain ⟨r', h4⟩ := hFo k h; exact h2 r' h4
    · simp only [if_neg e] at h; exact h2 r h.1
/-- What an append is handed: the elements, one behind the other. -/
structure Src (Z : Bs) (w : World) (sl : Nat → Option Slot) (hdr : Nat → Value) (fp : Nat → Bs) (us : Ups) (Z' : Bs) (fp' : Nat → Bs) (t : Ty) (m : Mk) (ys : List t.den) (F : Bs) (cs : List Value) (v : Value) : Prop where
  hr : HR Z' w (us.look sl) hdr fp'
  tr : Trans Z w sl hdr fp Z' w (us.look sl) hdr fp'
  inl : Inline (fun x f c => Rep Z' w t m x f c) ys F cs
  hand : ∀ b, F b → ∃ s, fp' s b ∧ noC (us.look sl) s
  val : ∃ A cap, v = .slice A ys.length cap ∧ (ys = [] ∨ ∃ b o, A = some ⟨b, o, none⟩ ∧ At w b o cs)
theorem Inline.flat_ {Z : Bs} {w : World} {t : Ty} {m m' : Mk} (hf : t.flat = true) : ∀ {xs : List t.den} {f f' : Bs} {cs : List Value}, Inline (fun x f c => Rep Z w t m x f c) xs f cs → Inline (fun x f c => Rep Z w t m' x f c) xs f' cs
  | [], _, _, _, h => h
  | _ :: _, _, _, _, ⟨c1, c2, f1, f2, e, r, i, _⟩ => ⟨c1, c2, none_, none_, e, r.flat hf, Inline.flat_ hf i, fun _ h => h.elim, fun _ h => h.elim, fun _ h => h.elim⟩
theorem Inline.unshare_ {Z : Bs} {w : World} {t : Ty} {m : Mk} (hs : t.shared m = true) : ∀ {xs : List t.den} {f f' : Bs} {cs : List Value}, (∀ k, ¬ f k) → Inline (fun x f c => Rep Z w t .im x f c) xs f cs → Inline (fun x f c => Rep Z w t m x f c) xs f' cs
  | [], _, _, _, _, h => h
  | _ :: _, _, _, _, hn, ⟨c1, c2, f1, f2, e, r, i, s1, s2, _⟩ => ⟨c1, c2, none_, none_, e, Rep.unshare hs (r.none (fun k hk => hn k (s1 k hk))), Inline.unshare_ hs (fun k hk => hn k (s2 k hk)) i, fun _ h => h.elim, fun _ h => h.elim, fun _ h => h.elim⟩
/-- A slice's elements as one list of cells. -/
theorem rep_row {t : Ty} {m : Mk} {xs : List t.den} {f : Bs} {cs : List Value} (h : Rep Z w (.sl t) m xs f cs) :
    ∃ A cap ks m1 f1, cs = [.slice A xs.length cap] ∧ Inline (fun x f c => Rep Z w t m1 x f c) xs f1 ks ∧ (xs = [] ∨ ∃ b o, A = some ⟨b, o, none⟩ ∧ At w b o ks) ∧ (∀ k, f1 k → f k) ∧ (m.isOw = false → m1 = .im ∧ ∀ k, ¬ f1 k) ∧ ∀ m', m = .ow m' → m1 = m' := by
  cases m with
  | ow m =>
    obtain ⟨A, cap, e, h⟩ := h
    rcases h with ⟨rfl, _⟩ | ⟨b, o, c, el, rfl, h1, h2, h3, h4, h5⟩
    · exact ⟨A, cap, [], m, none_, e, rfl, .inl rfl, fun _ h => h.elim, (fun h => by cases h), fun m' e => by cases e; rfl⟩
    · obtain ⟨ks, q1, q2, q3⟩ := inline_of_elems h5
      exact ⟨_, cap, ks, m, _, e, q1, .inr ⟨b, o, rfl, q2⟩, fun k h => h.1, (fun h => by cases h), fun m' e => by cases e; rfl⟩
  | im =>
    obtain ⟨A, cap, e, hc, h⟩ := h
    rcases h with rfl | ⟨b, o, rfl, h1, h5⟩
    · exact ⟨A, cap, [], .im, none_, e, rfl, .inl rfl, fun _ h => h.elim, fun _ => ⟨rfl, fun _ h => h⟩, fun m' e => by cases e⟩
    · obtain ⟨ks, q1, q2, q3⟩ := inline_of_elems h5
      exact ⟨_, cap, ks, .im, _, e, q1, .inr ⟨b, o, rfl, q2⟩, fun k h => h.1.elim, fun _ => ⟨rfl, fun k h => h.1⟩, fun m' e => by cases e⟩
  | pr a b =>
    obtain ⟨A, cap, e, hc, h⟩ := h
    rcases h with rfl | ⟨b, o, rfl, h1, h5⟩
    · exact ⟨A, cap, [], .im, none_, e, rfl, .inl rfl, fun _ h => h.elim, fun _ => ⟨rfl, fun _ h => h⟩, fun m' e => by cases e⟩
    · obtain ⟨ks, q1, q2, q3⟩ := inline_of_elems h5
      exact ⟨_, cap, ks, .im, _, e, q1, .inr ⟨b, o, rfl, q2⟩, fun k h => h.1.elim, fun _ => ⟨rfl, fun k h => h.1⟩, fun m' e => by cases e⟩
theorem srcOf_ok (H : HR Z w sl hdr fp) {t : Ty} {m : Mk} {u : MV} {v : Value} {ys : List t.den} {us : Ups} (h : srcOf sl t m u = some (ys, us)) (hu : RelV Z w sl hdr fp u v) : ∃ Z' fp' F cs, Src Z w sl hdr fp us Z' fp' t m ys F cs v := by
  have hnil : u = .nil ∨ (match cont sl u with
    | some ⟨.sl t', x, ac⟩ =>
      if h : t' = t then
        bif t.flat then some ((h ▸ x : List t.den), ([] : Ups))
        else match ac with
          | .im => bif t.shared m then some ((h ▸ x : List t.den), []) else none
          | .own s hv cv [] => match sl s with
            | some S => match S.c with
              | some c => if c.m = .ow m then some ((h ▸ x : List t.den), [(s, gone S)]) else none
              | none => none
            | none => none
          | _ => none
      else none
    | _ => none) = some (ys, us) := by
    cases u <;> first | exact .inl rfl | exact .inr h
  rcases hnil with rfl | h
  · simp only [srcOf, Option.some.injEq, Prod.mk.injEq] at h
    obtain ⟨rfl, rfl⟩ := h
    rcases hu with h0 | ⟨cs, ⟨A, hA⟩, he⟩
    · cases h0
    exact ⟨Z, fp, none_, [], H, Trans.refl _ _ _ _ _, rfl, fun _ h => h.elim, A, 0, by rw [he, hA]; rfl, .inl rfl⟩
  · split at h
    · rename_i t' x ac hc
      split at h
      · rename_i e; subst e
        rcases hu with rfl | ⟨cs, hr, he⟩
        · cases hc
        obtain ⟨hA, hout⟩ := cont_ok H hc hr
        have hv : ∀ A cap, cs = [.slice A x.length cap] → v = .slice A x.length cap := fun A cap e => by rw [he, hout, e]; rfl
        have main : ∀ {m0 : Mk} {f : Bs}, Rep Z w (.sl t') m0 x f cs → t'.flat = true → ∃ Z' fp' F cs, Src Z w sl hdr fp [] Z' fp' t' m x F cs v := fun h0 hf => by
          obtain ⟨A, cap, ks, m1, f1, e1, e2, e3, e4, _⟩ := rep_row h0
          exact ⟨Z, fp, none_, ks, H, Trans.refl _ _ _ _ _, Inline.flat_ hf e2, fun _ h => h.elim, A, cap, hv A cap e1, e3⟩
        cases hf : t'.flat with
        | true =>
          rw [hf] at h
          simp only [cond_true, Option.some.injEq, Prod.mk.injEq] at h
          obtain ⟨rfl, rfl⟩ := h
          cases ac with
          | im => exact main (m0 := .im) (f := none_) hA hf
          | own s hv cv p => obtain ⟨c, _, _, ⟨m0, f, h3, _⟩, _⟩ := hA; exact main h3 hf
          | ro s hv cv => obtain ⟨c, _, _, m0, f, h3, _⟩ := hA; exact main h3 hf
        | false =>
          rw [hf] at h
          simp only [cond_false] at h
          split at h
          · obtain ⟨hs, h⟩ := cond_some h
            simp only [Option.some.injEq, Prod.mk.injEq] at h
            obtain ⟨rfl, rfl⟩ := h
            obtain ⟨A, cap, ks, m1, f1, e1, e2, e3, e4, e5, _⟩ := rep_row (m := .im) (f := none_) hA
            obtain ⟨rfl, hn⟩ := e5 rfl
            exact ⟨Z, fp, none_, ks, H, Trans.refl _ _ _ _ _, Inline.unshare_ hs hn e2, fun _ h => h.elim, A, cap, hv A cap e1, e3⟩
          · rename_i s hv0 cv
            split at h
            · rename_i S hS
              split at h
              · rename_i c hcc
                split at h
                · rename_i hm
                  simp only [Option.some.injEq, Prod.mk.injEq] at h
                  obtain ⟨rfl, rfl⟩ := h
                  obtain ⟨c', h1, h2, ⟨m0, f, h3, h4⟩, g1, g2⟩ := hA
                  rw [hS] at h1
                  obtain rfl := Option.some.inj h1
                  simp only [Option.some.injEq] at hcc
                  subst hcc
                  obtain ⟨g3, _⟩ := g2 h2
                  have hroot : cs = [hdr s] := by
                    have : subc w c'.t [hdr s] [] = some [hdr s] := by cases c'.t <;> rfl
                    rw [this] at g3; exact (Option.some.inj g3).symm
                  have hct : getP c'.t c'.x [] = some ⟨c'.t, c'.x⟩ := getP_nil _ _
                  rw [hct] at g1
                  obtain ⟨ct, cm, cx⟩ := c'
                  simp only [Option.some.injEq, Sigma.mk.injEq] at g1 hm
                  obtain ⟨rfl, hx⟩ := g1
                  obtain rfl := eq_of_heq hx
                  subst hm
                  have hrep := H.rep s _ _ _ hS
                  obtain ⟨A, cap, ks, m1, f1, e1, e2, e3, e4, _, e6⟩ := rep_row hrep
                  obtain rfl := e6 _ rfl
                  obtain ⟨q1, q2⟩ := step_gone H hS
                  refine ⟨Z, fp, f1, ks, by rw [look_cons]; exact q1, by rw [look_cons]; exact q2, e2, fun b hb => ⟨s, e4 b hb, by rw [look_cons]; exact noC_gone⟩, A, cap, hv A cap (by rw [hroot]; exact e1), e3⟩
                · cases h
              · cases h
            · cases h
          · cases h
      · cases h
    · cases h
end
end Go.Proofs.Ytibphkgcdnconaa.V
