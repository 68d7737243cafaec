/- How the small machine's state stands to the memory, and how this relation is kept. -/
import Derived.Test.YtibphkgcdnconaaVD
import Derived.Laws.Sem
namespace Go.Proofs.Ytibphkgcdnconaa.V
open Go
set_option linter.unusedVariables false
set_option linter.all false

/-! ### marks -/
theorem Rep.more {Z Z' : Bs} {w : World} {t : Ty} {m : Mk} {x : t.den} {fp : Bs} {cs : List Value} (hZ : ∀ b, Z b → Z' b) (h : Rep Z w t m x fp cs) : Rep Z' w t m x fp cs :=
  h.keep (fun b hb => ⟨hZ b hb, rfl⟩) fun _ _ => rfl
theorem Rep.flat {Z Z' : Bs} {w : World} : ∀ {t : Ty} {m m' : Mk} {x : t.den} {fp fp' : Bs} {cs : List Value}, t.flat = true → Rep Z w t m x fp cs → Rep Z' w t m' x fp' cs
  | .bool, _, _, _, _, _, _, _, h | .int _, _, _, _, _, _, _, _, h | .str, _, _, _, _, _, _, _, h | .unit, _, _, _, _, _, _, _, h => h
  | .pair a b, _, _, _, _, _, _, hf, ⟨c1, c2, f1, f2, e, r, i, _⟩ => by
    simp only [Ty.flat, Bool.and_eq_true] at hf
    exact ⟨c1, c2, none_, none_, e, Rep.flat hf.1 r, Rep.flat hf.2 i, fun _ h => h.elim, fun _ h => h.elim, fun _ h => h.elim⟩
  | .arr n t, m, m', xs, fp, fp', cs, hf, ⟨hl, hi⟩ => by
    refine ⟨hl, ?_⟩
    clear hl
    have gen : ∀ (xs : List t.den) (fp fp' : Bs) (cs : List Value), Inline (fun x f c => Rep Z w t m x f c) xs fp cs → Inline (fun x f c => Rep Z' w t m' x f c) xs fp' cs := by
      intro xs
      induction xs with
      | nil => intro _ _ _ h; exact h
      | cons x xs ih =>
        rintro fp fp' cs ⟨c1, c2, f1, f2, e, r, i, _⟩
        exact ⟨c1, c2, none_, none_, e, Rep.flat (t := t) hf r, ih _ _ _ i, fun _ h => h.elim, fun _ h => h.elim, fun _ h => h.elim⟩
    exact gen _ _ _ _ hi
  | .sl _, _, _, _, _, _, _, hf, _ => by cases hf
  | .mp _ _, _, _, _, _, _, _, hf, _ => by cases hf
  | .ex _ _ _, _, _, _, _, _, _, hf, _ => by cases hf
theorem Entries.map_ {α β : Type} {Rk Rk' : α → List Value → Prop} {Rv Rv' : β → Bs → List Value → Prop} {kv vv : List Value → Value} {g : Bs → Bs} (hk : ∀ x c, Rk x c → Rk' x c) (hv : ∀ x f c, Rv x f c → Rv' x none_ c) :
    ∀ {xs : List (α × β)} {es : List MapEntry} {fp : Bs}, Entries Rk Rv kv vv xs es fp → Entries Rk' Rv' kv vv xs es none_
  | [], _, _, h => h
  | _ :: xs, _, _, ⟨e, es', ck, cv, f1, f2, he, h1, h2, h3, h4, h5, a, b, d⟩ => ⟨e, es', ck, cv, none_, none_, he, h1, h2, hk _ _ h3, hv _ _ _ h4, Entries.map_ (g := g) hk hv h5, fun _ h => h.elim, fun _ h => h.elim, fun _ h => h.elim⟩
/-- What is owned may be shared from now on. -/
theorem Rep.freeze {Z : Bs} {w : World} : ∀ {t : Ty} {m : Mk} {x : t.den} {fp : Bs} {cs : List Value}, Rep Z w t m x fp cs → ∀ {Z' : Bs}, (∀ b, Z b ∨ fp b → Z' b) → Rep Z' w t .im x none_ cs
  | .bool, _, _, _, _, h, _, _ | .int _, _, _, _, _, h, _, _ | .str, _, _, _, _, h, _, _ | .unit, _, _, _, _, h, _, _ => h
  | .pair a b, _, _, _, _, ⟨c1, c2, f1, f2, e, r, i, s1, s2, _⟩, Z', hZ =>
    ⟨c1, c2, none_, none_, e, r.freeze (fun b h => hZ b (h.imp id (s1 b))), i.freeze (fun b h => hZ b (h.imp id (s2 b))), fun _ h => h.elim, fun _ h => h.elim, fun _ h => h.elim⟩
  | .arr n t, m, xs, fp, cs, ⟨hl, hi⟩, Z', hZ => by
    refine ⟨hl, ?_⟩
    clear hl
    have gen : ∀ (xs : List t.den) (fp : Bs) (cs : List Value), (∀ b, Z b ∨ fp b → Z' b) → Inline (fun x f c => Rep Z w t m x f c) xs fp cs → Inline (fun x f c => Rep Z' w t .im x f c) xs none_ cs := by
      intro xs
      induction xs with
      | nil => intro _ _ _ h; exact h
      | cons x xs ih =>
        rintro fp cs hZ ⟨c1, c2, f1, f2, e, r, i, s1, s2, _⟩
        exact ⟨c1, c2, none_, none_, e, Rep.freeze (t := t) r (fun b h => hZ b (h.imp id (s1 b))), ih _ _ (fun b h => hZ b (h.imp id (s2 b))) i, fun _ h => h.elim, fun _ h => h.elim, fun _ h => h.elim⟩
    exact gen _ _ _ hZ hi
  | .sl t, .ow m, xs, fp, cs, ⟨A, cap, e, h⟩, Z', hZ => by
    rcases h with ⟨h1, h2⟩ | ⟨b, o, c, e', h1, h2, h3, h4, h5, fps, css, h6, h7⟩
    · exact ⟨A, cap, e, by rw [h1]; exact Nat.zero_le _, .inl h1⟩
    · refine ⟨A, cap, e, h5, .inr ⟨b, o, h1, hZ b (.inr h2), fun _ => none_, css, fun i x hx => ?_, fun _ _ _ h => h.elim⟩⟩
      obtain ⟨q1, q2, q3, q4⟩ := h6 i x hx
      exact ⟨Rep.freeze (t := t) q1 (fun b h => hZ b (h.imp id fun h => (q4 b h).1)), q2, q3, fun _ h => h.elim⟩
  | .sl t, .im, xs, fp, cs, h, Z', hZ | .sl t, .pr _ _, xs, fp, cs, h, Z', hZ => by
    have h' : Rep Z w (.sl t) .im xs fp cs := h
    exact (h'.more (Z' := Z') fun b hb => hZ b (.inl hb))
  | .mp k v, .ow m, xs, fp, cs, h, Z', hZ => by
    rcases h with h | ⟨b, es, n, l, hl, h1, h2, h3, f, h4, h5⟩
    · exact .inl h
    · exact .inr ⟨b, es, n, l, hl, h1, hZ b (.inr h2), h3, Entries.map_ (g := id) (fun x c h => Rep.more (t := k) (fun b hb => hZ b (.inl hb)) h) (fun x f c h => h) (Entries.keep (fun x c h => h) (fun x f' c hf h => Rep.freeze (t := v) h (fun b hb => hZ b (hb.imp id fun hb => (h4 b (hf b hb)).1))) (Entries.keep (Rv' := fun x f' c => (∀ b, f' b → f b) ∧ Rep Z w v m x f' c) (fun x c h => h) (fun x f' c hf h => ⟨hf, h⟩) h5 |> Entries.keep (fun x c h => h) (fun x f' c hf h => h.2)) |> fun h => h)⟩
  | .mp k v, .im, xs, fp, cs, h, Z', hZ | .mp k v, .pr _ _, xs, fp, cs, h, Z', hZ => by
    have h' : Rep Z w (.mp k v) .im xs fp cs := h
    exact (h'.more (Z' := Z') fun b hb => hZ b (.inl hb))
  | .ex k a b, m, xs, fp, cs, h, Z', hZ => by
    have h' : Rep Z w (.ex k a b) .im xs fp cs := h
    exact (h'.more (Z' := Z') fun b hb => hZ b (.inl hb))

theorem Rep.share {Z : Bs} {w : World} : ∀ {t : Ty} {m : Mk} {x : t.den} {fp : Bs} {cs : List Value}, t.shared m = true → Rep Z w t m x fp cs → Rep Z w t .im x none_ cs
  | .bool, _, _, _, _, _, h | .int _, _, _, _, _, _, h | .str, _, _, _, _, _, h | .unit, _, _, _, _, _, h => h
  | .pair a b, _, _, _, _, hf, ⟨c1, c2, f1, f2, e, r, i, _⟩ => by
    simp only [Ty.shared, Bool.and_eq_true] at hf
    exact ⟨c1, c2, none_, none_, e, Rep.share hf.1 r, Rep.share hf.2 i, fun _ h => h.elim, fun _ h => h.elim, fun _ h => h.elim⟩
  | .arr n t, m, xs, fp, cs, hf, ⟨hl, hi⟩ => by
    refine ⟨hl, ?_⟩
    clear hl
    have gen : ∀ (xs : List t.den) (fp : Bs) (cs : List Value), Inline (fun x f c => Rep Z w t m x f c) xs fp cs → Inline (fun x f c => Rep Z w t .im x f c) xs none_ cs := by
      intro xs
      induction xs with
      | nil => intro _ _ h; exact h
      | cons x xs ih =>
        rintro fp cs ⟨c1, c2, f1, f2, e, r, i, _⟩
        exact ⟨c1, c2, none_, none_, e, Rep.share (t := t) hf r, ih _ _ i, fun _ h => h.elim, fun _ h => h.elim, fun _ h => h.elim⟩
    exact gen _ _ _ hi
  | .sl _, .im, _, _, _, _, h => h
  | .sl _, .ow _, _, _, _, hf, _ => by cases hf
  | .sl _, .pr _ _, _, _, _, hf, _ => by cases hf
  | .mp _ _, .im, _, _, _, _, h => h
  | .mp _ _, .ow _, _, _, _, hf, _ => by cases hf
  | .mp _ _, .pr _ _, _, _, _, hf, _ => by cases hf
  | .ex _ _ _, _, _, _, _, _, h => h
/-- What is shared may be put wherever shared things lie. -/
theorem Rep.unshare {Z : Bs} {w : World} : ∀ {t : Ty} {m : Mk} {x : t.den} {fp : Bs} {cs : List Value}, t.shared m = true → Rep Z w t .im x none_ cs → Rep Z w t m x fp cs
  | .bool, _, _, _, _, _, h | .int _, _, _, _, _, _, h | .str, _, _, _, _, _, h | .unit, _, _, _, _, _, h => h
  | .pair a b, _, _, _, _, hf, ⟨c1, c2, f1, f2, e, r, i, a1, a2, _⟩ => by
    simp only [Ty.shared, Bool.and_eq_true] at hf
    exact ⟨c1, c2, none_, none_, e, Rep.unshare hf.1 (r.mono a1), Rep.unshare hf.2 (i.mono a2), fun _ h => h.elim, fun _ h => h.elim, fun _ h => h.elim⟩
  | .arr n t, m, xs, fp, cs, hf, ⟨hl, hi⟩ => by
    refine ⟨hl, ?_⟩
    clear hl
    have gen : ∀ (xs : List t.den) (fp : Bs) (cs : List Value), Inline (fun x f c => Rep Z w t .im x f c) xs none_ cs → Inline (fun x f c => Rep Z w t m x f c) xs fp cs := by
      intro xs
      induction xs with
      | nil => intro _ _ h; exact h
      | cons x xs ih =>
        rintro fp cs ⟨c1, c2, f1, f2, e, r, i, a1, a2, _⟩
        exact ⟨c1, c2, none_, none_, e, Rep.unshare (t := t) hf (r.mono a1), ih _ _ (Inline.mono (fun _ _ _ h => h) a2 i), fun _ h => h.elim, fun _ h => h.elim, fun _ h => h.elim⟩
    exact gen _ _ _ hi
  | .sl _, .im, _, _, _, _, h => h
  | .sl _, .ow _, _, _, _, hf, _ => by cases hf
  | .sl _, .pr _ _, _, _, _, hf, _ => by cases hf
  | .mp _ _, .im, _, _, _, _, h => h
  | .mp _ _, .ow _, _, _, _, hf, _ => by cases hf
  | .mp _ _, .pr _ _, _, _, _, hf, _ => by cases hf
  | .ex _ _ _, _, _, _, _, _, h => h
/-- What leans on nothing shared. -/
theorem Rep.free {Z Z' : Bs} {w : World} : ∀ {t : Ty} {m : Mk} {x : t.den} {fp : Bs} {cs : List Value}, t.free m = true → Rep Z w t m x fp cs → Rep Z' w t m x fp cs
  | .bool, _, _, _, _, _, h | .int _, _, _, _, _, _, h | .str, _, _, _, _, _, h | .unit, _, _, _, _, _, h => h
  | .pair a b, _, _, _, _, hf, ⟨c1, c2, f1, f2, e, r, i, h⟩ => by
    simp only [Ty.free, Bool.and_eq_true] at hf
    exact ⟨c1, c2, f1, f2, e, Rep.free hf.1 r, Rep.free hf.2 i, h⟩
  | .arr n t, m, xs, fp, cs, hf, ⟨hl, hi⟩ => ⟨hl, Inline.mono (fun x f c h => Rep.free (t := t) hf h) (fun _ h => h) hi⟩
  | .sl t, .ow m, xs, fp, cs, hf, ⟨A, cap, e, h⟩ => ⟨A, cap, e, h.imp id fun ⟨b, o, c, e, h1, h2, h3, h4, h5, h6⟩ => ⟨b, o, c, e, h1, h2, h3, h4, h5, Elems.keep rfl (fun x f c _ h => Rep.free (t := t) hf h) h6⟩⟩
  | .sl _, .im, _, _, _, hf, _ => by cases hf
  | .sl _, .pr _ _, _, _, _, hf, _ => by cases hf
  | .mp k v, .ow m, _, _, _, hf, h => by
    simp only [Ty.free, Bool.and_eq_true] at hf
    exact h.imp id fun ⟨b, es, n, l, hl, h1, h2, h3, f, h4, h5⟩ => ⟨b, es, n, l, hl, h1, h2, h3, f, h4, Entries.keep (fun x c h => Rep.free (t := k) hf.1 h) (fun x f c _ h => Rep.free (t := v) hf.2 h) h5⟩
  | .mp _ _, .im, _, _, _, hf, _ => by cases hf
  | .mp _ _, .pr _ _, _, _, _, hf, _ => by cases hf
  | .ex _ _ _, _, _, _, _, hf, _ => by cases hf
theorem Rep.zero (Z : Bs) (w : World) : ∀ (t : Ty) (m : Mk) (fp : Bs), Rep Z w t m t.zero fp t.zcells
  | .bool, _, _ | .int _, _, _ | .str, _, _ | .unit, _, _ => rfl
  | .pair a b, m, fp => ⟨a.zcells, b.zcells, none_, none_, rfl, Rep.zero Z w a m.l none_, Rep.zero Z w b m.r none_, fun _ h => h.elim, fun _ h => h.elim, fun _ h => h.elim⟩
  | .arr n t, m, fp => by
    refine ⟨by simp [Ty.zero], ?_⟩
    have h0 := fun fp => Rep.zero Z w t m fp
    simp only [Ty.zero, Ty.zcells]
    have gen : ∀ (n : Nat) (fp : Bs), Inline (fun x f c => Rep Z w t m x f c) (List.replicate n t.zero) fp (List.replicate n t.zcells).flatten := by
      intro n
      induction n with
      | zero => intro fp; exact rfl
      | succ n ih => intro fp; exact ⟨t.zcells, _, none_, none_, rfl, h0 _, ih none_, fun _ h => h.elim, fun _ h => h.elim, fun _ h => h.elim⟩
    exact gen n fp
  | .sl _, .ow _, _ => ⟨none, 0, rfl, .inl ⟨rfl, rfl⟩⟩
  | .sl _, .im, _ | .sl _, .pr _ _, _ => ⟨none, 0, rfl, Nat.le_refl _, .inl rfl⟩
  | .mp _ _, .ow _, _ | .mp _ _, .im, _ | .mp _ _, .pr _ _, _ => .inl ⟨rfl, rfl⟩
  | .ex .tree a b, _, _ => ⟨1, a.zcells, none, b.zcells, 0, rfl, Rep.zero Z w a .im none_, Rep.zero Z w b .im none_, Nat.le_refl _, .inl rfl⟩
  | .ex .ptr _ _, _, _ => .inl ⟨rfl, rfl⟩
  | .ex (.ifc _ _) _ _, _, _ => .inl ⟨rfl, rfl⟩

theorem shared_im : ∀ t : Ty, t.shared .im = true
  | .bool | .int _ | .str | .unit | .sl _ | .mp _ _ | .ex _ _ _ => rfl
  | .pair a b => by
    show (a.shared .im && b.shared .im) = true
    rw [shared_im a, shared_im b]; rfl
  | .arr _ t => shared_im t

/-! ### the relation -/
def MV.out : MV → List Value → Value
  | .tc _ _, cs | .tn, cs => .tuple cs.toArray
  | m, cs => bif m.agg then .agg cs.toArray else cs.headD (.tuple #[])
def Cells (n : Nat) (cs : List Value) : Prop := cs.length = n ∧ ∀ v ∈ cs, v.oneCell' = true
def PathOK (w : World) (c : SlotC) (hd : Value) (p : Path) (t : Ty) (x : t.den) (cs : List Value) : Prop :=
  getP c.t c.x p = some ⟨t, x⟩ ∧ (c.m.isOw = true → subc w c.t [hd] p = some cs ∧ ∃ m, mkP c.t c.m p = some m)
def RelC (Z : Bs) (w : World) (sl : Nat → Option Slot) (hdr : Nat → Value) (fp : Nat → Bs) : MV → List Value → Prop
  | .dead, _ => True
  | .val t x, cs => Rep Z w t .im x none_ cs
  | .nil, cs => ∃ A, cs = [.slice A 0 0]
  | .root s hv, cs => Cells 1 cs ∧ ∃ S, sl s = some S ∧ hv ≤ S.hv ∧ (hv = S.hv → ∀ c, S.c = some c → cs = [hdr s])
  | .view s hv cv po t x, cs => Cells t.size cs ∧ ∃ S, sl s = some S ∧ hv ≤ S.hv ∧ (hv = S.hv → cv ≤ S.cv ∧ (cv = S.cv → ∀ c, S.c = some c →
      (∃ m f, Rep Z w t m x f cs ∧ (∀ k, f k → fp s k) ∧ (c.m.isOw = false → ∀ k, ¬ f k)) ∧ ∀ p, po = some p → PathOK w c (hdr s) p t x cs))
  | .adr s hv cv po t x, cs => Cells 1 cs ∧ ∃ S, sl s = some S ∧ hv ≤ S.hv ∧ (hv = S.hv → cv ≤ S.cv ∧ (cv = S.cv → ∀ c, S.c = some c →
      ∃ b o ks, cs = [.pointer (some ⟨b, o, none⟩)] ∧ At w b o ks ∧ (fp s b ∨ Z b) ∧ (c.m.isOw = false → Z b) ∧ (∃ m f, Rep Z w t m x f ks ∧ (∀ k, f k → fp s k) ∧ (c.m.isOw = false → ∀ k, ¬ f k)) ∧
        ∀ p, po = some p → PathOK w c (hdr s) p t x ks ∧ (c.m.isOw = true → addrOf w c.t [hdr s] none p = some (b, o))))
  | .iadr t x, cs => ∃ b o ks, cs = [.pointer (some ⟨b, o, none⟩)] ∧ At w b o ks ∧ Z b ∧ Rep Z w t .im x none_ ks
  | .pend s hv cv p t x, cs => Cells 1 cs ∧ ∃ S, sl s = some S ∧ hv ≤ S.hv ∧ (hv = S.hv → cv ≤ S.cv ∧ (cv = S.cv → ∀ c, S.c = some c → c.m.isOw = true → ∃ m x0,
      mkP c.t c.m p = some (.ow m) ∧ getP c.t c.x p = some ⟨.sl t, x0⟩ ∧ (Rep Z w (.sl t) (.ow m) x none_ cs ∨ ∃ b0, Rep Z w (.sl t) (.ow m) x (fun k => k = b0) cs ∧ fp s b0 ∧
      (Rep Z w c.t c.m c.x (fun k => fp s k ∧ k ≠ b0) [hdr s] ∨ ∃ o l cap, subc w c.t [hdr s] p = some [.slice (some ⟨b0, o, none⟩) l cap] ∧ 0 < cap))))
  | .pr a b, cs => ∃ c1 c2, cs = c1 ++ c2 ∧ RelC Z w sl hdr fp a c1 ∧ RelC Z w sl hdr fp b c2
  | .un, cs => cs = []
  | .tc a b, cs => ∃ c1 v vs, cs = v :: vs ∧ (a = .dead ∨ RelC Z w sl hdr fp a c1 ∧ v = a.out c1) ∧ RelC Z w sl hdr fp b vs
  | .tn, cs => cs = []
  | .fn f caps, cs => ∃ ks, cs = [.func (.func f) #[] ks.toArray] ∧ RelC Z w sl hdr fp caps ks
  | .nv t x b, cs => Rep Z w (.sl t) .im x none_ cs ∧ ∀ A l c, cs = [.slice A l c] → A.isNone = b
  | .icl m, cs => ∃ b o ks, cs = [.pointer (some ⟨b, o, none⟩)] ∧ At w b o [m.out ks] ∧ Z b ∧ RelC Z w sl hdr fp m ks
  | .ptr s hv t, cs => Cells 1 cs ∧ ∃ S, sl s = some S ∧ hv ≤ S.hv ∧ (hv = S.hv → ∀ c, S.c = some c → ∃ b o l cap, hdr s = .slice (some ⟨b, o, none⟩) l cap ∧ cs = [.pointer (some ⟨b, o, none⟩)])
def RelV (Z : Bs) (w : World) (sl : Nat → Option Slot) (hdr : Nat → Value) (fp : Nat → Bs) (a : MV) (v : Value) : Prop :=
  a = .dead ∨ ∃ cs, RelC Z w sl hdr fp a cs ∧ v = a.out cs
structure HR (Z : Bs) (w : World) (sl : Nat → Option Slot) (hdr : Nat → Value) (fp : Nat → Bs) : Prop where
  rep : ∀ s hv cv c, sl s = some ⟨hv, cv, some c⟩ → Rep Z w c.t c.m c.x (fp s) [hdr s]
  shape : ∀ s hv cv c, sl s = some ⟨hv, cv, some c⟩ → (∃ t, c.t = .sl t) ∨ ∃ k v, c.t = .mp k v
  disj : ∀ s s' b, fp s b → fp s' b → s = s'
  lt : ∀ s b, fp s b → b < w.heap.size
  zlt : ∀ b, Z b → b < w.heap.size
  dz : ∀ s b, fp s b → ¬ Z b
structure Trans (Z : Bs) (w : World) (sl : Nat → Option Slot) (hdr : Nat → Value) (fp : Nat → Bs) (Z' : Bs) (w' : World) (sl' : Nat → Option Slot) (hdr' : Nat → Value) (fp' : Nat → Bs) : Prop where
  z : ∀ b, Z b → Z' b ∧ w'.heap[b]? = w.heap[b]?
  slot : ∀ s S, sl s = some S → ∃ S', sl' s = some S' ∧ (S.hv < S'.hv ∨ S.hv = S'.hv ∧ S.cv < S'.cv ∧ (∀ c', S'.c = some c' → (∃ c, S.c = some c) ∧ hdr' s = hdr s) ∨
    S.hv = S'.hv ∧ S.cv = S'.cv ∧ ∀ c', S'.c = some c' → ∃ c, S.c = some c ∧ hdr' s = hdr s ∧ (∀ b, fp s b → w'.heap[b]? = w.heap[b]?) ∧ ((c' = c ∧ ∀ b, fp s b → fp' s b) ∨ (c' = ⟨c.t, .im, c.x⟩ ∧ ∀ b, fp s b → Z' b)))
  old : ∀ b, b < w.heap.size → (∀ s, ¬ fp s b) → ¬ Z b → w'.heap[b]? = w.heap[b]? ∧ (∀ s, ¬ fp' s b) ∧ ¬ Z' b
  size : w.heap.size ≤ w'.heap.size
  os : w'.os = w.os
  tape : w'.tape = w.tape
  output : w'.output = w.output

section
variable {Z Z' Z2 : Bs} {w w' w2 : World} {sl sl' sl2 : Nat → Option Slot} {hdr hdr' hdr2 : Nat → Value} {fp fp' fp2 : Nat → Bs}
theorem subc_keep {Z : Bs} {w w' : World} : ∀ (p : Path) {t : Ty} {m : Mk} {x : t.den} {fp : Bs} {cs : List Value} {m' : Mk} {d : Dyn}, Rep Z w t m x fp cs → mkP t m p = some m' → getP t x p = some d →
    (∀ b, fp b → w'.heap[b]? = w.heap[b]?) → subc w' t cs p = subc w t cs p ∧ ∀ here, addrOf w' t cs here p = addrOf w t cs here p
  | [], t, _, _, _, _, _, _, _, _, _, _ => by cases t <;> exact ⟨rfl, fun _ => rfl⟩
  | .f1 :: p, .pair a b, m, x, fp, cs, m', d, ⟨c1, c2, f1, f2, e, r1, r2, s1, s2, _⟩, hm, hg, hk => by
    subst e
    have := subc_keep p (w' := w') r1 hm hg (fun b h => hk b (s1 b h))
    simp only [subc, addrOf]
    rw [← r1.len, List.take_left]
    exact ⟨this.1, fun _ => this.2 _⟩
  | .f2 :: p, .pair a b, m, x, fp, cs, m', d, ⟨c1, c2, f1, f2, e, r1, r2, s1, s2, _⟩, hm, hg, hk => by
    subst e
    have := subc_keep p (w' := w') r2 hm hg (fun b h => hk b (s2 b h))
    simp only [subc, addrOf]
    rw [← r1.len, List.drop_left]
    exact ⟨this.1, fun _ => this.2 _⟩
  | .el i :: p, .arr n t, m, xs, fp, cs, m', d, ⟨hl, hin⟩, hm, hg, hk => by
    simp only [getP] at hg
    split at hg
    · rename_i x hx
      obtain ⟨fi, ci, pre, post, e, hpl, hri, hsi, _⟩ := Inline.at_ (fun x f c h => Rep.len h) hin hx
      subst e
      have := subc_keep p (w' := w') hri hm hg (fun b h => hk b (hsi b h))
      simp only [subc, addrOf]
      rw [← hpl, List.drop_left, ← hri.len, List.take_left]
      exact ⟨this.1, fun _ => this.2 _⟩
    · cases hg
  | .el i :: p, .sl t, .ow m, xs, fp, cs, m', d, ⟨A, cap, e, h⟩, hm, hg, hk => by
    subst e
    simp only [getP] at hg
    split at hg
    · rename_i x hx
      rcases h with ⟨rfl, rfl⟩ | ⟨b1, o1, c, el, rfl, hfb, hrow, hcap, hlc, fps, css, hel, hdis⟩
      · simp at hx
      · obtain ⟨hri, hcl, hcell, hsub⟩ := hel i x hx
        have hai : At w b1 (o1 + i * t.size) (css i) := fun j hj => hcell j (by omega)
        have hai' : At w' b1 (o1 + i * t.size) (css i) := fun j hj => by rw [← hai j hj]; exact World.cell?_of_block (a := ⟨b1, _, none⟩) (hk b1 hfb)
        have := subc_keep p (w' := w') hri hm hg (fun b h => hk b (hsub b h).1)
        have e1 := range_at hai
        have e2 := range_at hai'
        rw [hcl] at e1 e2
        simp only [subc, addrOf]
        rw [e1, e2]
        exact ⟨this.1, fun _ => this.2 _⟩
    · cases hg
theorem RelC.trans (H : HR Z w sl hdr fp) (H' : HR Z' w' sl' hdr' fp') (T : Trans Z w sl hdr fp Z' w' sl' hdr' fp') : ∀ {mv : MV} {cs : List Value}, RelC Z w sl hdr fp mv cs → RelC Z' w' sl' hdr' fp' mv cs
  | .dead, _, _ => trivial
  | .val t x, cs, h => Rep.keep T.z (fun _ h => h.elim) h
  | .nil, _, h => h
  | .root s hv, cs, ⟨hlen, S, h1, h2, h3⟩ => by
    obtain ⟨S', e, h⟩ := T.slot s S h1
    refine ⟨hlen, S', e, by rcases h with h | h | h <;> omega, fun hh c' hc' => ?_⟩
    rcases h with h | ⟨h, h5, h6⟩ | ⟨h, h5, h6⟩
    · omega
    · obtain ⟨⟨c, hc⟩, hd⟩ := h6 c' hc'
      rw [hd]; exact h3 (by omega) c hc
    · obtain ⟨c, hc, hd, _⟩ := h6 c' hc'
      rw [hd]; exact h3 (by omega) c hc
  | .view s hv cv po t x, cs, ⟨hlen, S, h1, h2, h3⟩ => by
    obtain ⟨S', e, h⟩ := T.slot s S h1
    refine ⟨hlen, S', e, by rcases h with h | h | h <;> omega, fun hh => ?_⟩
    have hS : hv = S.hv ∧ S.hv = S'.hv := by rcases h with h | h | h <;> omega
    obtain ⟨h4, h5⟩ := h3 hS.1
    refine ⟨by rcases h with h | h | h <;> omega, fun hc c' hc' => ?_⟩
    rcases h with h | ⟨h, h6, _⟩ | ⟨h, h6, h7⟩
    · omega
    · omega
    · obtain ⟨c, hc0, hd, hb, hcc⟩ := h7 c' hc'
      obtain ⟨⟨m, f, hr, hf, hfz⟩, hp⟩ := h5 (by omega) c hc0
      have hr' : Rep Z' w' t m x f cs := hr.keep T.z (fun k hk => hb k (hf k hk))
      have hS1 : sl s = some ⟨S.hv, S.cv, some c⟩ := by rw [h1]; cases S; simp only at hc0; subst hc0; rfl
      rcases hcc with ⟨rfl, hff⟩ | ⟨rfl, hff⟩
      · refine ⟨⟨m, f, hr', fun k hk => hff k (hf k hk), hfz⟩, fun p hpo => ?_⟩
        obtain ⟨g1, g2⟩ := hp p hpo
        refine ⟨g1, fun ho => ?_⟩
        obtain ⟨g3, m', g4⟩ := g2 ho
        refine ⟨?_, m', g4⟩
        rw [hd, (subc_keep p (H.rep s _ _ _ hS1) g4 g1 hb).1]; exact g3
      · refine ⟨⟨.im, none_, hr'.freeze (fun b h => h.elim id (fun h => hff b (hf b h))), fun _ h => h.elim, fun _ _ h => h⟩, fun p hpo => ⟨(hp p hpo).1, fun h => by cases h⟩⟩
  | .adr s hv cv po t x, cs, ⟨hlen, S, h1, h2, h3⟩ => by
    obtain ⟨S', e, h⟩ := T.slot s S h1
    refine ⟨hlen, S', e, by rcases h with h | h | h <;> omega, fun hh => ?_⟩
    have hS : hv = S.hv ∧ S.hv = S'.hv := by rcases h with h | h | h <;> omega
    obtain ⟨h4, h5⟩ := h3 hS.1
    refine ⟨by rcases h with h | h | h <;> omega, fun hc c' hc' => ?_⟩
    rcases h with h | ⟨h, h6, _⟩ | ⟨h, h6, h7⟩
    · omega
    · omega
    · obtain ⟨c, hc0, hd, hb, hcc⟩ := h7 c' hc'
      obtain ⟨b, o, ks, hcs, hat, hbz, hbz2, ⟨m, f, hr, hf, hfz⟩, hp⟩ := h5 (by omega) c hc0
      have hr' : Rep Z' w' t m x f ks := hr.keep T.z (fun k hk => hb k (hf k hk))
      have hbb : w'.heap[b]? = w.heap[b]? := hbz.elim (hb b) (fun h => (T.z b h).2)
      have hat' : At w' b o ks := fun j hj => by rw [← hat j hj]; exact World.cell?_of_block (a := ⟨b, _, none⟩) hbb
      have hS1 : sl s = some ⟨S.hv, S.cv, some c⟩ := by rw [h1]; cases S; simp only at hc0; subst hc0; rfl
      rcases hcc with ⟨rfl, hff⟩ | ⟨rfl, hff⟩
      · refine ⟨b, o, ks, hcs, hat', hbz.imp (hff b) (fun h => (T.z b h).1), fun h => (T.z b (hbz2 h)).1, ⟨m, f, hr', fun k hk => hff k (hf k hk), hfz⟩, fun p hpo => ?_⟩
        obtain ⟨⟨g1, g2⟩, g5⟩ := hp p hpo
        refine ⟨⟨g1, fun ho => ?_⟩, fun ho => ?_⟩
        · obtain ⟨g3, m', g4⟩ := g2 ho
          refine ⟨?_, m', g4⟩
          rw [hd, (subc_keep p (H.rep s _ _ _ hS1) g4 g1 hb).1]; exact g3
        · obtain ⟨g3, m', g4⟩ := g2 ho
          rw [hd, (subc_keep p (H.rep s _ _ _ hS1) g4 g1 hb).2]; exact g5 ho
      · exact ⟨b, o, ks, hcs, hat', .inr (hbz.elim (hff b) (fun h => (T.z b h).1)), fun _ => hbz.elim (hff b) (fun h => (T.z b h).1), ⟨.im, none_, hr'.freeze (fun b h => h.elim id (fun h => hff b (hf b h))), fun _ h => h.elim, fun _ _ h => h⟩, fun p hpo => ⟨⟨(hp p hpo).1.1, fun h => by cases h⟩, fun h => by cases h⟩⟩
  | .iadr t x, cs, ⟨b, o, ks, h1, h2, h3, h4⟩ => ⟨b, o, ks, h1, fun j hj => by rw [← h2 j hj]; exact World.cell?_of_block (a := ⟨b, _, none⟩) (T.z b h3).2, (T.z b h3).1, h4.keep T.z (fun _ h => h.elim)⟩
  | .pend s hv cv p t x, cs, ⟨hlen, S, h1, h2, h3⟩ => by
    obtain ⟨S', e, h⟩ := T.slot s S h1
    refine ⟨hlen, S', e, by rcases h with h | h | h <;> omega, fun hh => ?_⟩
    have hS : hv = S.hv ∧ S.hv = S'.hv := by rcases h with h | h | h <;> omega
    obtain ⟨h4, h5⟩ := h3 hS.1
    refine ⟨by rcases h with h | h | h <;> omega, fun hc c' hc' ho => ?_⟩
    rcases h with h | ⟨h, h6, _⟩ | ⟨h, h6, h7⟩
    · omega
    · omega
    · obtain ⟨c, hc0, hd, hb, hcc⟩ := h7 c' hc'
      rcases hcc with ⟨rfl, hff⟩ | ⟨rfl, hff⟩
      · obtain ⟨m, x0, g1, g2, g3⟩ := h5 (by omega) _ hc0 ho
        have hS1 : sl s = some ⟨S.hv, S.cv, some c'⟩ := by rw [h1]; cases S; simp only at hc0; subst hc0; rfl
        have hsub := subc_keep p (H.rep s _ _ _ hS1) g1 g2 hb
        refine ⟨m, x0, g1, g2, g3.imp (fun g => g.keep T.z (fun b h => h.elim)) (fun ⟨b0, g4, q1, q2⟩ => ⟨b0, g4.keep T.z (fun b hb0 => by subst hb0; exact hb b q1), hff b0 q1, q2.imp (fun q => ?_) (fun ⟨o, l, cap, q5, q6⟩ => ⟨o, l, cap, by rw [hd, hsub.1]; exact q5, q6⟩)⟩)⟩
        rw [hd]
        exact (q.keep T.z (fun k hk => hb k hk.1)).mono (fun k hk => ⟨hff k hk.1, hk.2⟩)
      · cases ho
  | .pr a b, cs, ⟨c1, c2, e, h1, h2⟩ => ⟨c1, c2, e, RelC.trans H H' T h1, RelC.trans H H' T h2⟩
  | .un, _, h => h
  | .tc a b, cs, ⟨c1, v, vs, e, h1, h2⟩ => ⟨c1, v, vs, e, h1.imp id (fun h => ⟨RelC.trans H H' T h.1, h.2⟩), RelC.trans H H' T h2⟩
  | .tn, _, h => h
  | .fn f caps, cs, ⟨ks, e, h⟩ => ⟨ks, e, RelC.trans H H' T h⟩
  | .nv t x b, cs, ⟨h, h2⟩ => ⟨Rep.keep T.z (fun _ h => h.elim) h, h2⟩
  | .icl m, cs, ⟨b, o, ks, h1, h2, h3, h4⟩ => ⟨b, o, ks, h1, fun j hj => by rw [← h2 j hj]; exact World.cell?_of_block (a := ⟨b, _, none⟩) (T.z b h3).2, (T.z b h3).1, RelC.trans H H' T h4⟩
  | .ptr s hv t, cs, ⟨hlen, S, h1, h2, h3⟩ => by
    obtain ⟨S', e, h⟩ := T.slot s S h1
    refine ⟨hlen, S', e, by rcases h with h | h | h <;> omega, fun hh c' hc' => ?_⟩
    rcases h with h | ⟨h, h5, h6⟩ | ⟨h, h5, h6⟩
    · omega
    · obtain ⟨⟨c, hc⟩, hd⟩ := h6 c' hc'
      rw [hd]; exact h3 (by omega) c hc
    · obtain ⟨c, hc, hd, _⟩ := h6 c' hc'
      rw [hd]; exact h3 (by omega) c hc
theorem RelV.trans (H : HR Z w sl hdr fp) (H' : HR Z' w' sl' hdr' fp') (T : Trans Z w sl hdr fp Z' w' sl' hdr' fp') {mv : MV} {v : Value} (h : RelV Z w sl hdr fp mv v) : RelV Z' w' sl' hdr' fp' mv v :=
  h.imp id fun ⟨cs, h1, h2⟩ => ⟨cs, h1.trans H H' T, h2⟩
theorem Trans.refl (Z : Bs) (w : World) (sl : Nat → Option Slot) (hdr : Nat → Value) (fp : Nat → Bs) : Trans Z w sl hdr fp Z w sl hdr fp :=
  ⟨fun b h => ⟨h, rfl⟩, fun s S h => ⟨S, h, .inr (.inr ⟨rfl, rfl, fun c hc => ⟨c, hc, rfl, fun _ _ => rfl, .inl ⟨rfl, fun _ h => h⟩⟩⟩)⟩, fun b _ h1 h2 => ⟨rfl, h1, h2⟩, Nat.le_refl _, rfl, rfl, rfl⟩
theorem Trans.comp (T : Trans Z w sl hdr fp Z' w' sl' hdr' fp') (U : Trans Z' w' sl' hdr' fp' Z2 w2 sl2 hdr2 fp2) : Trans Z w sl hdr fp Z2 w2 sl2 hdr2 fp2 where
  z := fun b h => ⟨(U.z b (T.z b h).1).1, (U.z b (T.z b h).1).2.trans (T.z b h).2⟩
  slot := fun s S h => by
    obtain ⟨S1, e1, h1⟩ := T.slot s S h
    obtain ⟨S2, e2, h2⟩ := U.slot s S1 e1
    refine ⟨S2, e2, ?_⟩
    rcases h1 with h1 | ⟨h1, h1b, h1c⟩ | ⟨h1, h1b, h1c⟩
    · left; rcases h2 with h2 | h2 | h2 <;> omega
    · rcases h2 with h2 | ⟨h2, h2b, h2c⟩ | ⟨h2, h2b, h2c⟩
      · left; omega
      · refine .inr (.inl ⟨by omega, by omega, fun c' hc' => ?_⟩)
        obtain ⟨⟨c, hc⟩, hd⟩ := h2c c' hc'
        obtain ⟨hc1, hd1⟩ := h1c c hc
        exact ⟨hc1, hd.trans hd1⟩
      · refine .inr (.inl ⟨by omega, by omega, fun c' hc' => ?_⟩)
        obtain ⟨c, hc, hd, _⟩ := h2c c' hc'
        obtain ⟨hc1, hd1⟩ := h1c c hc
        exact ⟨hc1, hd.trans hd1⟩
    · rcases h2 with h2 | ⟨h2, h2b, h2c⟩ | ⟨h2, h2b, h2c⟩
      · left; omega
      · refine .inr (.inl ⟨by omega, by omega, fun c' hc' => ?_⟩)
        obtain ⟨⟨c, hc⟩, hd⟩ := h2c c' hc'
        obtain ⟨c1, hc1, hd1, _⟩ := h1c c hc
        exact ⟨⟨c1, hc1⟩, hd.trans hd1⟩
      · refine .inr (.inr ⟨by omega, by omega, fun c' hc' => ?_⟩)
        obtain ⟨c, hc, hd, hb, hcc⟩ := h2c c' hc'
        obtain ⟨c1, hc1, hd1, hb1, hcc1⟩ := h1c c hc
        have hbb : ∀ b, fp s b → w2.heap[b]? = w.heap[b]? := by
          intro b hb0
          rcases hcc1 with ⟨_, hf⟩ | ⟨_, hf⟩
          · exact (hb b (hf b hb0)).trans (hb1 b hb0)
          · exact (U.z b (hf b hb0)).2.trans (hb1 b hb0)
        refine ⟨c1, hc1, hd.trans hd1, hbb, ?_⟩
        rcases hcc1 with ⟨rfl, hf⟩ | ⟨rfl, hf⟩
        · rcases hcc with ⟨rfl, hf2⟩ | ⟨rfl, hf2⟩
          · exact .inl ⟨rfl, fun b h => hf2 b (hf b h)⟩
          · exact .inr ⟨rfl, fun b h => hf2 b (hf b h)⟩
        · rcases hcc with ⟨rfl, hf2⟩ | ⟨rfl, hf2⟩
          · exact .inr ⟨rfl, fun b h => (U.z b (hf b h)).1⟩
          · exact .inr ⟨rfl, fun b h => (U.z b (hf b h)).1⟩
  old := fun b h1 h2 h3 => by
    obtain ⟨a1, a2, a3⟩ := T.old b h1 h2 h3
    obtain ⟨b1, b2, b3⟩ := U.old b (Nat.lt_of_lt_of_le h1 T.size) a2 a3
    exact ⟨b1.trans a1, b2, b3⟩
  size := Nat.le_trans T.size U.size
  os := U.os.trans T.os
  tape := U.tape.trans T.tape
  output := U.output.trans T.output
end
end Go.Proofs.Ytibphkgcdnconaa.V
