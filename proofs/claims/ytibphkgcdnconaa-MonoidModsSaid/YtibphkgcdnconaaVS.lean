/- Append, continued. -/
import Derived.Test.YtibphkgcdnconaaVR
namespace Go.Proofs.Ytibphkgcdnconaa.V
open Go
set_option linter.unusedVariables false
set_option linter.all false
section
variable {E : Env} {o : Oper} {a : Act} {w : World} {Z : Bs} {sl : Nat → Option Slot} {hdr : Nat → Value} {fp : Nat → Bs} {mv : MV}
theorem Inline.one {Z : Bs} {t : Ty} {m : Mk} {xs : List t.den} {f : Bs} {cs : List Value} (h : Inline (fun x f c => Rep Z w t m x f c) xs f cs) : ∀ v ∈ cs, v.oneCell' = true := Inline.all (fun x f c h => Rep.one h) h
theorem keep_inline {Z : Bs} {w w' : World} {t : Ty} {m : Mk} {xs : List t.den} {f : Bs} {cs : List Value} (hZ : ∀ b, Z b → w'.heap[b]? = w.heap[b]?) (hf : ∀ b, f b → w'.heap[b]? = w.heap[b]?) (h : Inline (fun x f c => Rep Z w t m x f c) xs f cs) :
    Inline (fun x f c => Rep Z w' t m x f c) xs f cs := Inline.keep (fun x f' c hs hr => hr.keep (fun b hb => ⟨hb, hZ b hb⟩) (fun b hb => hf b (hs b hb))) h
/-- New elements put into the room behind a row. -/
theorem fill_room {P : Program} {Z : Bs} {w : World} {t : Ty} {m : Mk} {xs ys : List t.den} {f F : Bs} {cs : List Value} {b o' cap : Nat} {c : Array Value} {e : TypeId} (hZb : ¬ Z b) (hFb : ¬ F b) (hFf : ∀ k, F k → ¬ f k) (hfb : f b) (hrow : w.heap[b]? = some (.cells c e (0, 0))) (hcap : o' + cap * t.size ≤ c.size)
    (hel : Elems (fun x f c => Rep Z w t m x f c) t.size w b o' xs f) (hin : Inline (fun x f c => Rep Z w t m x f c) ys F cs) (hroom : xs.length + ys.length ≤ cap) :
    ∃ w', (storeCells ⟨b, o' + xs.length * t.size, none⟩ cs).run P w = .ok () w' ∧ (∀ k, k ≠ b → w'.heap[k]? = w.heap[k]?) ∧ w'.heap.size = w.heap.size ∧ w'.os = w.os ∧ w'.tape = w.tape ∧ w'.output = w.output ∧
      Rep Z w' (.sl t) (.ow m) xs f [.slice (some ⟨b, o', none⟩) xs.length cap] ∧
      Rep Z w' (.sl t) (.ow m) (xs ++ ys) (fun k => f k ∨ F k) [.slice (some ⟨b, o', none⟩) (xs.length + ys.length) cap] := by
  have hl := Inline.len (fun x f c h => Rep.len h) hin
  obtain ⟨ks, hi, hat, hkl⟩ := inline_of_elems hel
  have hmul : (xs.length + ys.length) * t.size ≤ cap * t.size := Nat.mul_le_mul_right _ hroom
  rw [Nat.add_mul] at hmul
  have hfit : o' + xs.length * t.size + cs.length ≤ c.size := by omega
  -- the cells that lie there
  have hks : ∃ kz : List Value, kz.length = cs.length ∧ At w b (o' + xs.length * t.size) kz := by
    refine ⟨(c.toList.drop (o' + xs.length * t.size)).take cs.length, by simp; omega, fun j hj => ?_⟩
    have hj' : j < cs.length := by simp at hj; omega
    simp only [World.cell?, hrow, Option.isSome_none, Bool.false_eq_true, if_false]
    rw [List.getElem?_take_of_lt hj', List.getElem?_drop, Array.getElem?_toList]
  obtain ⟨kz, hkz1, hkz2⟩ := hks
  obtain ⟨w', hrun, W⟩ := wrote (P := P) ⟨c, e, hrow⟩ hkz2 hkz1.symm hin.one
  obtain ⟨c', hrow', hsz'⟩ := (W.out _ rfl).row c e hrow
  have hat1 : At w' b o' ks := hat.out (fun e => absurd rfl e) (W.out _ rfl) (fun _ => .inl (by omega))
  have hZ' : ∀ k, Z k → w'.heap[k]? = w.heap[k]? := fun k hk => W.rest k (fun e => hZb (e ▸ hk))
  have hi' := keep_inline hZ' (fun k hk => W.rest k hk.2) hi
  have hin' := keep_inline hZ' (fun k hk => W.rest k (fun e => hFb (e ▸ hk))) hin
  have hl0 : ∀ x f c, Rep Z w' t m x f c → c.length = t.size := fun x f c h => Rep.len h
  have mk : ∀ (zs : List t.den) (g g' : Bs) (cz : List Value), Inline (fun x f c => Rep Z w' t m x f c) zs g cz → At w' b o' cz → ¬ g b → (∀ k, g k → g' k) → g' b → zs.length ≤ cap → Rep Z w' (.sl t) (.ow m) zs g' [.slice (some ⟨b, o', none⟩) zs.length cap] := by
    intro zs g g' cz h1 h2 h3 h4 h5 h6
    obtain ⟨fps, css, q1, q2⟩ := elems_of_inline (sz := t.size) hl0 h1 h2 h3
    exact ⟨_, cap, rfl, .inr ⟨b, o', c', e, rfl, h5, hrow', by rw [hsz']; exact hcap, h6, fps, css, fun i x hx => let ⟨a1, a2, a3, a4⟩ := q1 i x hx; ⟨a1, a2, a3, fun k hk => ⟨h4 k (a4 k hk).1, (a4 k hk).2⟩⟩, q2⟩⟩
  refine ⟨w', hrun, W.rest, W.size, W.os, W.tape, W.output, mk xs _ f ks hi' hat1 (fun h => h.2 rfl) (fun k h => h.1) hfb (by omega), ?_⟩
  have happ := Inline.app (fp := fun k => (f k ∧ k ≠ b) ∨ F k) hi' hin' (fun k h h' => hFf k h' h.1) (fun k h => .inl h) (fun k h => .inr h)
  have := mk (xs ++ ys) _ (fun k => f k ∨ F k) _ happ (At.app.2 ⟨hat1, by rw [hkl]; exact W.at_⟩) (fun h => h.elim (fun h => h.2 rfl) hFb) (fun k h => h.imp (fun h => h.1) id) (.inl hfb) (by rw [List.length_append]; exact hroom)
  rwa [List.length_append] at this
theorem app_root {tid e ty : TypeId} {t : Ty} {nb : Nat} {m : Mk} {xs ys : List t.den} {us : Ups} {Z' : Bs} {fp' : Nat → Bs} {F : Bs} {cs : List Value} {v : Value} (S : Src Z w sl hdr fp us Z' fp' t m ys F cs v) (hu : E.P.underlying tid = some (.slice e)) (hT : TyOK E e t nb) (hb : (xs.length + ys.length) * nb ≤ 70368744177664)
    (hlen : xs.length + ys.length ≤ 70368744177664) {s hv cv : Nat} (hs : us.look sl s = some ⟨hv, cv, some ⟨.sl t, .ow m, xs⟩⟩) :
    ∃ v' w' hdr' fp2, (Builtin.append_ #[tid, tid] ty #[hdr s, v]).run E.P w = .ok v' w' ∧ HR Z' w' (put (us.look sl) s ⟨hv + 1, 0, some ⟨.sl t, .ow m, xs ++ ys⟩⟩) hdr' fp2 ∧
      Trans Z' w (us.look sl) hdr fp' Z' w' (put (us.look sl) s ⟨hv + 1, 0, some ⟨.sl t, .ow m, xs ++ ys⟩⟩) hdr' fp2 ∧ hdr' s = v' ∧ v'.oneCell' = true := by
  have hro := S.hr.rep s _ _ _ hs
  obtain ⟨A, cap, ehd, hrow⟩ := hro
  simp only [List.cons.injEq, and_true] at ehd
  have hnofp : ∀ k, F k → ¬ fp' s k := fun k hk h => by
    obtain ⟨r, h1, h2⟩ := S.hand k hk
    obtain rfl := S.hr.disj _ _ _ h h1
    exact h2 _ _ _ hs
  rcases hrow with ⟨hx, hc⟩ | ⟨b, o', c, el, rfl, h1, h2, h3, h4, h5⟩
  · simp only at hx
    subst hx; subst hc
    obtain ⟨v', w', hdr', fp2, g1, g2, g3, g4, g5⟩ := app_new (E := E) (ty := ty) (A := A) S hu hT (by simpa using hb) (by simpa using hlen) hs
    rw [ehd]
    exact ⟨v', w', hdr', fp2, g1, g2, g3, g4, g5⟩
  · simp only at h3 h4 h5 ehd
    have hS := S
    obtain ⟨B, c2, rfl, hB⟩ := S.val
    have hl := Inline.len (fun x f c h => Rep.len h) S.inl
    have hhas := has_row S.inl hB
    rw [ehd]
    by_cases hroom : xs.length + ys.length ≤ cap
    · obtain ⟨w', hrun, g1, g2, g3, g4, g5, g6, g7⟩ := fill_room (P := E.P) (fun hz => S.hr.dz _ _ h1 hz) (fun h => hnofp _ h h1) hnofp h1 h2 h3 h5 S.inl hroom
      have hrun' := run_app_fit (E := E) (w := w) (ty := ty) (A := some ⟨b, o', none⟩) (B := B) (sLen := xs.length) (n := ys.length) (sCap := cap) (c := c2) (news := cs) hu hT hl hhas hroom (.inr ⟨b, o', rfl, hrun⟩)
      obtain ⟨fp2, _, _, H2, T2⟩ := step_write S.hr hs h1 g1 g2 g3 g4 g5 (hv + 1) 0 ⟨.sl t, .ow m, xs ++ ys⟩ (.slice (some ⟨b, o', none⟩) (xs.length + ys.length) cap) (fun k => fp' s k ∨ F k) g7 (.inl ⟨t, rfl⟩)
        (fun k hk => hk.imp id (fun h => S.hand k h)) (.inl (Nat.lt_succ_self _))
      exact ⟨_, w', _, fp2, hrun', H2, T2, by simp, rfl⟩
    · obtain ⟨ks, hi, hat, hkl⟩ := inline_of_elems h5
      obtain ⟨z, hz, hrun⟩ := run_app_grow (E := E) (w := w) (ty := ty) (A := some ⟨b, o', none⟩) (B := B) (sLen := xs.length) (n := ys.length) (sCap := cap) (c := c2) (olds := ks) (news := cs) hu hT hkl (.inr ⟨b, o', rfl, hat⟩) hl hhas (by omega) (by omega) (by omega)
      have hdw := step_drew S.hr
      have hge := grownCap_ge w (xs.length + ys.length) cap e
      have kd : ∀ {zs : List t.den} {g : Bs} {cz : List Value}, Inline (fun x f c => Rep Z' w t m x f c) zs g cz → Inline (fun x f c => Rep Z' w.drew t m x f c) zs g cz := fun h => keep_inline (w := w) (w' := w.drew) (fun _ _ => rfl) (fun _ _ => rfl) h
      have happ := Inline.app (fp := fun k => (fp' s k ∧ k ≠ b) ∨ F k) (kd hi) (kd S.inl) (fun k h h' => hnofp k h' h.1) (fun k h => .inl h) (fun k h => .inr h)
      obtain ⟨fp2, H2, T2⟩ := new_row hdw.1 hs t m (xs ++ ys) _ (ks ++ cs) z e (grownCap w (xs.length + ys.length) cap e) happ (fun k hk => by
        rcases hk with hk | hk
        · exact ⟨s, hk.1, .inl rfl⟩
        · obtain ⟨r, q1, q2⟩ := S.hand k hk
          exact ⟨r, q1, .inr q2⟩) (by rw [List.length_append]; omega) (by
        rw [List.length_append, List.length_append, hkl, hl, hz, ← Nat.add_mul, ← Nat.add_mul]; exact Nat.mul_le_mul_right _ (by omega))
      refine ⟨_, _, _, fp2, hrun, ?_, hdw.2.comp T2, by simp, rfl⟩
      simpa using H2
theorem setP_same : ∀ (p : Path) {t : Ty} {x : t.den} {t' : Ty} {y : t'.den}, getP t x p = some ⟨t', y⟩ → setP t x p ⟨t', y⟩ = x
  | [], t, x, t', y, h => by
    rw [getP_nil] at h
    simp only [Option.some.injEq, Sigma.mk.injEq] at h
    obtain ⟨rfl, h⟩ := h
    obtain rfl := eq_of_heq h
    cases t <;> simp [setP, Dyn.as]
  | .f1 :: p, .pair a b, x, t', y, h => by
    simp only [setP, setP_same p (t := a) h]
  | .f2 :: p, .pair a b, x, t', y, h => by
    simp only [setP, setP_same p (t := b) h]
  | .el i :: p, .sl t, xs, t', y, h => by
    simp only [getP] at h
    split at h
    · rename_i x hx
      rw [setP_set (d := ⟨t', y⟩) (show tyP t p = some t' from getP_ty h) hx, setP_same p h]
      apply List.ext_getElem?
      intro j
      rw [List.getElem?_set]
      split
      · rename_i e; subst e; rw [hx]
        have : i < xs.length := by
          rcases Nat.lt_or_ge i xs.length with h' | h'
          · exact h'
          · rw [List.getElem?_eq_none h'] at hx; cases hx
        simp [this]
      · rfl
    · cases h
  | .el i :: p, .arr n t, xs, t', y, h => by
    simp only [getP] at h
    split at h
    · rename_i x hx
      rw [setP_arr, setP_set (d := ⟨t', y⟩) (show tyP t p = some t' from getP_ty h) hx, setP_same p h]
      apply List.ext_getElem?
      intro j
      rw [List.getElem?_set]
      split
      · rename_i e; subst e; rw [hx]
        have : i < xs.length := by
          rcases Nat.lt_or_ge i xs.length with h' | h'
          · exact h'
          · rw [List.getElem?_eq_none h'] at hx; cases hx
        simp [this]
      · rfl
    · cases h
  | .f1 :: p, .bool, _, _, _, h | .f1 :: p, .int _, _, _, _, h | .f1 :: p, .str, _, _, _, h | .f1 :: p, .unit, _, _, _, h | .f1 :: p, .arr _ _, _, _, _, h | .f1 :: p, .sl _, _, _, _, h | .f1 :: p, .mp _ _, _, _, _, h | .f1 :: p, .ex _ _ _, _, _, _, h => by cases h
  | .f2 :: p, .bool, _, _, _, h | .f2 :: p, .int _, _, _, _, h | .f2 :: p, .str, _, _, _, h | .f2 :: p, .unit, _, _, _, h | .f2 :: p, .arr _ _, _, _, _, h | .f2 :: p, .sl _, _, _, _, h | .f2 :: p, .mp _ _, _, _, _, h | .f2 :: p, .ex _ _ _, _, _, _, h => by cases h
  | .el _ :: p, .bool, _, _, _, h | .el _ :: p, .int _, _, _, _, h | .el _ :: p, .str, _, _, _, h | .el _ :: p, .unit, _, _, _, h | .el _ :: p, .pair _ _, _, _, _, h | .el _ :: p, .mp _ _, _, _, _, h | .el _ :: p, .ex _ _ _, _, _, _, h => by cases h
/-- Append onto a slice that lies inside of a slot's slice: its header is put there by the store that follows. -/
theorem app_view {tid e ty : TypeId} {t : Ty} {nb : Nat} {m : Mk} {xs ys : List t.den} {us : Ups} {Z' : Bs} {fp' : Nat → Bs} {F : Bs} {cs cv0 : List Value} {v : Value} (S : Src Z w sl hdr fp us Z' fp' t m ys F cs v) (hu : E.P.underlying tid = some (.slice e)) (hT : TyOK E e t nb) (hb : (xs.length + ys.length) * nb ≤ 70368744177664)
    (hlen : xs.length + ys.length ≤ 70368744177664) (hfl : (t.flat || t.shared m) = true) {s hv cv : Nat} {c : SlotC} (hs : us.look sl s = some ⟨hv, cv, some c⟩) {st : Step} {p : Path} (how : c.m.isOw = true) (hg : getP c.t c.x (st :: p) = some ⟨.sl t, xs⟩) (hm : mkP c.t c.m (st :: p) = some (.ow m))
    (hsub : subc w c.t [hdr s] (st :: p) = some cv0) :
    ∃ hd v' w' hdr' fp2, cv0 = [hd] ∧ (Builtin.append_ #[tid, tid] ty #[hd, v]).run E.P w = .ok v' w' ∧ HR Z' w' (put (us.look sl) s ⟨hv, cv + 1, some c⟩) hdr' fp2 ∧
      Trans Z' w (us.look sl) hdr fp' Z' w' (put (us.look sl) s ⟨hv, cv + 1, some c⟩) hdr' fp2 ∧ RelV Z' w' (put (us.look sl) s ⟨hv, cv + 1, some c⟩) hdr' fp2 (.pend s hv (cv + 1) (st :: p) t (xs ++ ys)) v' := by
  have hro := S.hr.rep s _ _ _ hs
  have hsh := S.hr.shape s _ _ _ hs
  obtain ⟨ct, cm, cx⟩ := c
  simp only at hg hm how hro hsh hsub
  obtain ⟨m0, rfl⟩ : ∃ m0, cm = .ow m0 := by cases cm <;> first | exact ⟨_, rfl⟩ | cases how
  rcases hsh with ⟨t0, rfl⟩ | ⟨k0, v0, rfl⟩
  rotate_left 1
  · cases st <;> simp [getP] at hg
  cases st with
  | f1 => simp [getP] at hg
  | f2 => simp [getP] at hg
  | el i =>
  obtain ⟨ba, oa, ks, fpl, hadr, hsc, FR⟩ := focus_root none hro hg hm
  rw [hsub] at hsc
  obtain rfl := Option.some.inj hsc
  obtain ⟨A, cap, ehd, hrow⟩ := FR.rep
  have hnofp : ∀ k, F k → ¬ fp' s k := fun k hk h => by
    obtain ⟨r, h1, h2⟩ := S.hand k hk
    obtain rfl := S.hr.disj _ _ _ h h1
    exact h2 _ _ _ hs
  obtain ⟨B, c2, rfl, hB⟩ := S.val
  have hl := Inline.len (fun x f c h => Rep.len h) S.inl
  have hhas := has_row S.inl hB
  -- the elements own nothing
  have bare : ∀ {w : World} {zs : List t.den} {f f' : Bs} {cz : List Value}, Inline (fun x f c => Rep Z' w t m x f c) zs f cz → Inline (fun x f c => Rep Z' w t m x f c) zs f' cz := by
    intro w zs
    induction zs with
    | nil => intro _ _ _ h; exact h
    | cons z zs ih =>
      rintro f f' cz ⟨c1, c3, f1, f2, e1, r, i1, _⟩
      refine ⟨c1, c3, none_, none_, e1, ?_, ih i1, fun _ h => h.elim, fun _ h => h.elim, fun _ h => h.elim⟩
      simp only [Bool.or_eq_true] at hfl
      rcases hfl with hfl | hfl
      · exact r.flat hfl
      · exact Rep.unshare hfl (r.share hfl)
  -- the slot's slice without the new block
  have fin : ∀ (v' : Value) (w' : World) (fp2 : Nat → Bs) (hd' : Nat → Value), (Builtin.append_ #[tid, tid] ty #[.slice A xs.length cap, .slice B ys.length c2]).run E.P w = .ok v' w' → HR Z' w' (put (us.look sl) s ⟨hv, cv + 1, some ⟨.sl t0, .ow m0, cx⟩⟩) hd' fp2 →
      Trans Z' w (us.look sl) hdr fp' Z' w' (put (us.look sl) s ⟨hv, cv + 1, some ⟨.sl t0, .ow m0, cx⟩⟩) hd' fp2 → hd' s = hdr s →
      (Rep Z' w' (.sl t) (.ow m) (xs ++ ys) none_ [v'] ∨ ∃ b0, Rep Z' w' (.sl t) (.ow m) (xs ++ ys) (fun k => k = b0) [v'] ∧ fp2 s b0 ∧
        (Rep Z' w' (.sl t0) (.ow m0) cx (fun k => fp2 s k ∧ k ≠ b0) [hdr s] ∨ ∃ o l cap, subc w' (.sl t0) [hdr s] (.el i :: p) = some [.slice (some ⟨b0, o, none⟩) l cap] ∧ 0 < cap)) → v'.oneCell' = true →
      ∃ hd v' w' hdr' fp2, cv0 = [hd] ∧ (Builtin.append_ #[tid, tid] ty #[hd, .slice B ys.length c2]).run E.P w = .ok v' w' ∧ HR Z' w' (put (us.look sl) s ⟨hv, cv + 1, some ⟨.sl t0, .ow m0, cx⟩⟩) hdr' fp2 ∧
      Trans Z' w (us.look sl) hdr fp' Z' w' (put (us.look sl) s ⟨hv, cv + 1, some ⟨.sl t0, .ow m0, cx⟩⟩) hdr' fp2 ∧ RelV Z' w' (put (us.look sl) s ⟨hv, cv + 1, some ⟨.sl t0, .ow m0, cx⟩⟩) hdr' fp2 (.pend s hv (cv + 1) (.el i :: p) t (xs ++ ys)) v' := by
    intro v' w' fp2 hd' hrun H2 T2 hh hp h1
    refine ⟨_, v', w', hd', fp2, ehd, hrun, H2, T2, .inr ⟨[v'], ⟨one_cells h1, ⟨hv, cv + 1, some ⟨.sl t0, .ow m0, cx⟩⟩, by simp [put], Nat.le_refl _, fun _ => ⟨Nat.le_refl _, fun _ c' hc' _ => ?_⟩⟩, rfl⟩⟩
    obtain rfl := Option.some.inj hc'
    refine ⟨m, xs, hm, hg, ?_⟩
    rw [hh]
    exact hp
  have samehdr : ∀ (r : Nat), (if r = s then hdr s else hdr r) = hdr r := fun r => by split <;> simp_all
  have grow : ∀ (olds : List Value), Inline (fun x f c => Rep Z' w t m x f c) xs none_ olds → Has w A xs.length olds → cap < xs.length + ys.length → ∃ hd v' w' hdr' fp2, cv0 = [hd] ∧ (Builtin.append_ #[tid, tid] ty #[hd, .slice B ys.length c2]).run E.P w = .ok v' w' ∧ HR Z' w' (put (us.look sl) s ⟨hv, cv + 1, some ⟨.sl t0, .ow m0, cx⟩⟩) hdr' fp2 ∧
      Trans Z' w (us.look sl) hdr fp' Z' w' (put (us.look sl) s ⟨hv, cv + 1, some ⟨.sl t0, .ow m0, cx⟩⟩) hdr' fp2 ∧ RelV Z' w' (put (us.look sl) s ⟨hv, cv + 1, some ⟨.sl t0, .ow m0, cx⟩⟩) hdr' fp2 (.pend s hv (cv + 1) (.el i :: p) t (xs ++ ys)) v' := by
    intro olds hi hh hlt
    have hkl := Inline.len (fun x f c h => Rep.len h) hi
    obtain ⟨z, hz, hrun⟩ := run_app_grow (E := E) (w := w) (ty := ty) (A := A) (B := B) (sLen := xs.length) (n := ys.length) (sCap := cap) (c := c2) (olds := olds) (news := cs) hu hT hkl hh hl hhas hlt (by omega) (by omega)
    have hge := grownCap_ge w (xs.length + ys.length) cap e
    have hdw := step_drew S.hr
    have hal := step_alloc hdw.1 s (.cells ((olds ++ cs) ++ z).toArray e)
    have hroot1 : Rep Z' (w.drew.alloc (.cells ((olds ++ cs) ++ z).toArray e)) (.sl t0) (.ow m0) cx (fp' s) [hdr s] :=
      Rep.keep (w := w) (fun b hb => ⟨hb, Go.RowKit.Below.heap_alloc w.drew _ b (S.hr.zlt b hb)⟩) (fun b hb => Go.RowKit.Below.heap_alloc w.drew _ b (S.hr.lt s b hb)) hro
    obtain ⟨fp2, q1, q2, H2, T2⟩ := step_write hal.1 hs (b := ba) (.inl FR.own) (w' := w.drew.alloc (.cells ((olds ++ cs) ++ z).toArray e)) (fun _ _ => rfl) rfl rfl rfl rfl hv (cv + 1) ⟨.sl t0, .ow m0, cx⟩ (hdr s) (fp' s) hroot1 (.inl ⟨t0, rfl⟩) (fun k h => .inl (.inl h)) (.inr ⟨rfl, Nat.lt_succ_self _, rfl⟩)
    have hnew : Rep Z' (w.drew.alloc (.cells ((olds ++ cs) ++ z).toArray e)) (.sl t) (.ow m) (xs ++ ys) (fun k => k = w.heap.size) [.slice (some ⟨w.heap.size, 0, none⟩) (xs.length + ys.length) (grownCap w (xs.length + ys.length) cap e)] := by
      have hla : (xs ++ ys).length = xs.length + ys.length := List.length_append
      have happ := Inline.app (fp := none_) (bare hi : Inline (fun x f c => Rep Z' w t m x f c) xs none_ olds) (bare S.inl : Inline (fun x f c => Rep Z' w t m x f c) ys none_ cs) (fun _ h => h.elim) (fun _ h => h) (fun _ h => h)
      have happ' : Inline (fun x f c => Rep Z' (w.drew.alloc (.cells ((olds ++ cs) ++ z).toArray e)) t m x f c) (xs ++ ys) none_ (olds ++ cs) :=
        keep_inline (w := w) (fun b hb => Go.RowKit.Below.heap_alloc w.drew _ b (S.hr.zlt b hb)) (fun b hb => hb.elim) happ
      obtain ⟨fps, css, r1, r2⟩ := elems_of_inline (sz := t.size) (b := w.heap.size) (o := 0) (fun x f c h => Rep.len h) happ' (At.app.1 (at_alloc w.drew ((olds ++ cs) ++ z) e)).1 (fun h => h)
      refine ⟨some ⟨w.heap.size, 0, none⟩, _, by rw [hla], .inr ⟨w.heap.size, 0, ((olds ++ cs) ++ z).toArray, e, rfl, rfl, ?_, ?_, by rw [hla]; exact hge, fps, css, fun j x hx => let ⟨a1, a2, a3, a4⟩ := r1 j x hx; ⟨a1, a2, a3, fun k hk => (a4 k hk).1.elim⟩, r2⟩⟩
      · show (w.heap.push _)[w.heap.size]? = _
        simp
      · rw [List.size_toArray, List.length_append, List.length_append, hkl, hl, hz, ← Nat.add_mul, ← Nat.add_mul, Nat.zero_add]; exact Nat.mul_le_mul_right _ (by omega)
    refine fin _ _ fp2 _ hrun H2 ((hdw.2.comp hal.2).comp T2) (by simp) (.inr ⟨w.heap.size, hnew, q2 _ (.inr ⟨rfl, rfl⟩), .inl (hroot1.mono (fun k hk => ⟨q1 k hk, fun e => ?_⟩))⟩) rfl
    have := S.hr.lt s k hk
    omega
  rcases hrow with ⟨hx, hc⟩ | ⟨b, o', c, el, rfl, h1, h2, h3, h4, h5⟩
  · by_cases h0 : ys.length = 0
    · have hy : ys = [] := List.eq_nil_of_length_eq_zero h0
      subst hx; subst hc; subst hy
      have hrun := run_app_fit (E := E) (w := w) (ty := ty) (w' := w) (A := A) (B := B) (sLen := 0) (n := 0) (sCap := 0) (c := c2) (news := []) hu hT (by simp) (.inl ⟨rfl, rfl⟩) (by omega) (.inl ⟨rfl, rfl⟩)
      obtain ⟨fp2, q1, q2, H2, T2⟩ := step_write S.hr hs (b := ba) FR.own (w' := w) (fun _ _ => rfl) rfl rfl rfl rfl hv (cv + 1) ⟨.sl t0, .ow m0, cx⟩ (hdr s) (fp' s) hro (.inl ⟨t0, rfl⟩) (fun k h => .inl h) (.inr ⟨rfl, Nat.lt_succ_self _, rfl⟩)
      exact fin _ w fp2 _ hrun H2 T2 (by simp) (.inl ⟨A, 0, rfl, .inl ⟨rfl, rfl⟩⟩) rfl
    · refine grow [] (by rw [hx]; exact rfl) (.inl ⟨by rw [hx]; rfl, rfl⟩) (by rw [hc, hx]; simp; omega)
  · obtain ⟨ks, hi, hat, hkl⟩ := inline_of_elems h5
    by_cases hroom : xs.length + ys.length ≤ cap
    · have hbb : ba ≠ b := fun e => FR.not (e ▸ h1)
      have hsb : fp' s b := FR.sub _ h1
      obtain ⟨fps, css, r1, r2⟩ := elems_of_inline (sz := t.size) (fun x f c h => Rep.len h) (bare hi : Inline (fun x f c => Rep Z' w t m x f c) xs none_ ks) hat (fun h => h)
      have hel : Elems (fun x f c => Rep Z' w t m x f c) t.size w b o' xs (fun k => k = b) := ⟨fps, css, fun j x hx => let ⟨a1, a2, a3, a4⟩ := r1 j x hx; ⟨a1, a2, a3, fun k hk => (a4 k hk).1.elim⟩, r2⟩
      obtain ⟨w', hrun, g1, g2, g3, g4, g5, g6, g7⟩ := fill_room (P := E.P) (f := fun k => k = b) (F := none_) (fun hz => S.hr.dz _ _ hsb hz) (fun h => h) (fun _ h => h.elim) rfl h2 h3 hel (bare S.inl) hroom
      have hrun' := run_app_fit (E := E) (w := w) (ty := ty) (A := some ⟨b, o', none⟩) (B := B) (sLen := xs.length) (n := ys.length) (sCap := cap) (c := c2) (news := cs) hu hT hl hhas hroom (.inr ⟨b, o', rfl, hrun⟩)
      have hroot := FR.put w' xs [.slice (some ⟨b, o', none⟩) xs.length cap] (fun k => k = b) (fun k hk => g1 k (fun e => S.hr.dz _ _ hsb (e ▸ hk))) (fun k hk hn _ => g1 k (fun e => hn (e ▸ h1))) ⟨fun j _ => World.cell?_of_block (a := ⟨ba, j, none⟩) (g1 ba hbb), fun c0 e0 h => ⟨c0, by rw [g1 ba hbb]; exact h, rfl⟩⟩
        g6 (by rw [← ehd]; intro j hj; rw [← FR.at_ j hj]; exact World.cell?_of_block (a := ⟨ba, _, none⟩) (g1 ba hbb)) (fun k hk _ => by rw [show k = b from hk]; exact h1) (fun h => hbb h)
      obtain ⟨hroot, hsub'⟩ := hroot
      rw [setP_same (.el i :: p) hg] at hroot
      obtain ⟨fp2, q1, q2, H2, T2⟩ := step_write S.hr hs hsb g1 g2 g3 g4 g5 hv (cv + 1) ⟨.sl t0, .ow m0, cx⟩ (hdr s) (fp' s) (hroot.mono (fun k hk => hk.elim (fun h => h.1) (fun h => by rw [show k = b from h]; exact hsb))) (.inl ⟨t0, rfl⟩) (fun k h => .inl h) (.inr ⟨rfl, Nat.lt_succ_self _, rfl⟩)
      have hcap0 : 0 < cap ∨ (xs ++ ys = [] ∧ cap = 0) := by
        by_cases h : cap = 0
        · right; exact ⟨List.eq_nil_of_length_eq_zero (by rw [List.length_append]; omega), h⟩
        · left; omega
      rcases hcap0 with hcap0 | ⟨he, hcap0⟩
      · refine fin _ w' fp2 _ hrun' H2 T2 (by simp) (.inr ⟨b, g7.mono (fun k hk => hk.elim id (fun h => h.elim)), q1 _ hsb, .inr ⟨o', xs.length, cap, ?_, hcap0⟩⟩) rfl
        exact hsub'
      · refine fin _ w' fp2 _ hrun' H2 T2 (by simp) (.inl ⟨some ⟨b, o', none⟩, cap, ?_, .inl ⟨he, hcap0⟩⟩) rfl
        rw [List.length_append]
    · exact grow ks (bare hi) (.inr ⟨b, o', rfl, hat⟩) (by omega)
end
end Go.Proofs.Ytibphkgcdnconaa.V
