/- The operations on memory, continued: literals of slices and structs. -/
import Derived.Test.YtibphkgcdnconaaVK
namespace Go.Proofs.Ytibphkgcdnconaa.V
open Go
set_option linter.unusedVariables false
set_option linter.all false
def TM (Z : Bs) (w : World) (t : Ty) (m : Mk) : List (Nat × t.den) → List (Nat × List Value) → Bs → Prop
  | [], cps, _ => cps = []
  | (i, x) :: l, cps, F => ∃ c cps' F1 F2, cps = (i, c) :: cps' ∧ Rep Z w t m x F1 c ∧ TM Z w t m l cps' F2 ∧ (∀ k, F1 k → F k) ∧ (∀ k, F2 k → F k) ∧ ∀ k, F1 k → ¬ F2 k
theorem TM.inline {Z : Bs} {w : World} {t : Ty} {m : Mk} : ∀ {l : List (Nat × t.den)} {cps : List (Nat × List Value)} {F fp : Bs} {xs : List t.den} {css : List (List Value)}, TM Z w t m l cps F → InlineL (fun x f c => Rep Z w t m x f c) xs fp css →
    (∀ p ∈ l, p.1 < xs.length) → (∀ k, F k → ¬ fp k) → InlineL (fun x f c => Rep Z w t m x f c) (setMany xs l) (fun k => fp k ∨ F k) (setMany css cps)
  | [], cps, F, fp, xs, css, h, hi, _, _ => by
    rw [show cps = [] from h]
    have gen : ∀ {xs : List t.den} {fp fp' : Bs} {css : List (List Value)}, (∀ k, fp k → fp' k) → InlineL (fun x f c => Rep Z w t m x f c) xs fp css → InlineL (fun x f c => Rep Z w t m x f c) xs fp' css := by
      intro xs
      induction xs with
      | nil => intro _ _ _ _ h; exact h
      | cons x xs ih => rintro fp fp' css hf ⟨c, css', f1, f2, e, r, i, a, b, d⟩; exact ⟨c, css', f1, f2, e, r, i, fun k h => hf k (a k h), fun k h => hf k (b k h), d⟩
    exact gen (fun k h => .inl h) hi
  | (i, x) :: l, cps, F, fp, xs, css, ⟨c, cps', F1, F2, e, r, h, s1, s2, hd⟩, hi, hl, hF => by
    rw [e]
    have h1 := hi.set (hl (i, x) (by simp)) r (fun k h => hF k (s1 k h))
    have h2 := TM.inline h h1 (fun p hp => by rw [List.length_set]; exact hl p (by simp [hp])) (fun k h h' => h'.elim (hF k (s2 k h)) (fun h' => hd k h' h))
    have gen : ∀ {xs : List t.den} {fp fp' : Bs} {css : List (List Value)}, (∀ k, fp k → fp' k) → InlineL (fun x f c => Rep Z w t m x f c) xs fp css → InlineL (fun x f c => Rep Z w t m x f c) xs fp' css := by
      intro xs
      induction xs with
      | nil => intro _ _ _ _ h; exact h
      | cons x xs ih => rintro fp fp' css hf ⟨c, css', f1, f2, e, r, i, a, b, d⟩; exact ⟨c, css', f1, f2, e, r, i, fun k h => hf k (a k h), fun k h => hf k (b k h), d⟩
    exact gen (fun k h => h.elim (fun h => h.elim .inl (fun h => .inr (s1 k h))) (fun h => .inr (s2 k h))) h2
theorem TM.keep {Z Z' : Bs} {w : World} {t : Ty} {m : Mk} (hZ : ∀ b, Z b → Z' b) : ∀ {l : List (Nat × t.den)} {cps : List (Nat × List Value)} {F : Bs}, TM Z w t m l cps F → TM Z' w t m l cps F
  | [], _, _, h => h
  | _ :: _, _, _, ⟨c, cps', F1, F2, e, r, h, s⟩ => ⟨c, cps', F1, F2, e, r.more hZ, h.keep hZ, s⟩
section
variable {E : Env} {o : Oper} {a : Act} {w : World} {hdr : Nat → Value} {mv : MV}
structure TookM (Z : Bs) (w : World) (sl : Nat → Option Slot) (hdr : Nat → Value) (fp : Nat → Bs) (us : Ups) (Z' : Bs) (fp' : Nat → Bs) : Prop where
  hr : HR Z' w (us.look sl) hdr fp'
  tr : Trans Z w sl hdr fp Z' w (us.look sl) hdr fp'
  kept : ∀ s b, noC sl s → fp s b → fp' s b ∧ noC (us.look sl) s
  back : ∀ s, ¬ noC (us.look sl) s → ¬ noC sl s ∧ ∀ b, fp' s b → fp s b
theorem takeMany_sound {t : Ty} {m : Mk} : ∀ (ps : List (Nat × MV)) (vs : List (Nat × Value)) {Z : Bs} {sl : Nat → Option Slot} {fp : Nat → Bs} {l : List (Nat × t.den)} {us : Ups}, takeMany t m sl ps = some (l, us) → HR Z w sl hdr fp →
    ps.map (·.1) = vs.map (·.1) → (∀ (k : Nat) (p : Nat × MV) (v : Nat × Value), ps[k]? = some p → vs[k]? = some v → RelV Z w sl hdr fp p.2 v.2) →
    ∃ Z' fp' F cps, TookM Z w sl hdr fp us Z' fp' ∧ TM Z' w t m l cps F ∧ (∀ b, F b → ∃ s, fp s b ∧ ¬ noC sl s ∧ fp' s b ∧ noC (us.look sl) s) ∧ vs.map (·.1) = cps.map (·.1) ∧ l.map (·.1) = ps.map (·.1) ∧
      (∀ (k : Nat) (v : Nat × Value) (q : Nat × List Value), vs[k]? = some v → cps[k]? = some q → v.2.cells.toList = q.2 ∧ q.2.length = t.size)
  | [], [], Z, sl, fp, l, us, h, H, _, _ => by
    simp only [takeMany, Option.some.injEq, Prod.mk.injEq] at h
    obtain ⟨rfl, rfl⟩ := h
    exact ⟨Z, fp, none_, [], ⟨H, Trans.refl _ _ _ _ _, fun s b h1 h2 => ⟨h2, h1⟩, fun s h => ⟨h, fun _ h => h⟩⟩, rfl, fun _ h => h.elim, rfl, rfl, fun k v q h => by simp at h⟩
  | [], _ :: _, _, _, _, _, _, _, _, h, _ => by simp at h
  | _ :: _, [], _, _, _, _, _, _, _, h, _ => by simp at h
  | (i, u) :: ps, (i', v) :: vs, Z, sl, fp, l, us, h, H, hm, hv => by
    simp only [List.map_cons, List.cons.injEq] at hm
    obtain ⟨rfl, hm⟩ := hm
    simp only [takeMany] at h
    split at h
    · rename_i x us1 e1
      split at h
      · rename_i l2 vs2 e2
        simp only [Option.some.injEq, Prod.mk.injEq] at h
        obtain ⟨rfl, rfl⟩ := h
        rcases hv 0 (i, u) (i, v) rfl rfl with h0 | ⟨cs, hr, he⟩
        · simp only at h0; subst h0; exact (takeX_dead e1).elim
        obtain ⟨Z1, fp1, F1, T1⟩ := takeX_sound e1 H hr
        obtain ⟨hc, hl⟩ := takeX_out e1 hr T1.rep
        obtain ⟨Z2, fp2, F2, cps, T2, hTM, hand, hn, hn2, hcs⟩ := takeMany_sound ps vs e2 T1.hr hm (fun k p v hp hvv => (hv (k + 1) p v (by simpa using hp) (by simpa using hvv)).trans H T1.hr T1.tr)
        refine ⟨Z2, fp2, fun k => F1 k ∨ F2 k, (i, cs) :: cps, ⟨by rw [look_app]; exact T2.hr, by rw [look_app]; exact T1.tr.comp T2.tr, fun s b h1 h2 => ?_, fun s h => ?_⟩, ⟨cs, cps, F1, F2, rfl, T1.rep.more (fun b hb => (T2.tr.z b hb).1), hTM, fun k h => .inl h, fun k h => .inr h, fun k h h' => ?_⟩, fun k hk => ?_, by simp [hn], by simp [hn2], fun k v' q hk hq => ?_⟩
        · rw [look_app]
          obtain ⟨q1, q2⟩ := T1.kept s b h1 h2
          exact T2.kept s b q2 q1
        · rw [look_app] at h
          obtain ⟨q1, q2⟩ := T2.back s h
          obtain ⟨q3, q4⟩ := T1.back s q1
          exact ⟨q3, fun b hb => q4 b (q2 b hb)⟩
        · obtain ⟨s1, _, _, q1, q2⟩ := T1.hand k h
          obtain ⟨s2, q3, q4, _, _⟩ := hand k h'
          exact q4 (T1.hr.disj _ _ _ q1 q3 ▸ q2)
        · rw [look_app]
          rcases hk with hk | hk
          · obtain ⟨s1, q0, q0', q1, q2⟩ := T1.hand k hk
            obtain ⟨q3, q4⟩ := T2.kept s1 k q2 q1
            exact ⟨s1, q0, q0', q3, q4⟩
          · obtain ⟨s2, q3, q4, q5, q6⟩ := hand k hk
            obtain ⟨q7, q8⟩ := T1.back s2 q4
            exact ⟨s2, q8 k q3, q7, q5, q6⟩
        · cases k with
          | zero =>
            simp only [List.getElem?_cons_zero, Option.some.injEq] at hk hq
            subst hk; subst hq
            exact ⟨by simp only; simp only at he; rw [he]; exact hc, hl⟩
          | succ k => exact hcs k v' q (by simpa using hk) (by simpa using hq)
      · cases h
    · cases h
theorem setMany_map {α β : Type} (f : α → β) : ∀ (ps : List (Nat × α)) (l : List α), (setMany l ps).map f = setMany (l.map f) (ps.map fun p => (p.1, f p.2))
  | [], _ => rfl
  | (i, x) :: ps, l => by simp [setMany, setMany_map f ps, List.map_set]
theorem buildSlice_ok (hE : TTok E) {Z : Bs} {sl : Nat → Option Slot} {fp : Nat → Bs} {e : TypeId} {t : Ty} {nb : Nat} {h : OH} {us us' : Ups} {n : Nat} {parts : Array (Nat × Operand)} {ρ : Operand → MV} {l : List (Nat × t.den)} (H : HR Z w sl hdr fp) (ho : o.op = .buildSlice e n parts) (ht : E.tt e = some (.sl t, nb))
    (hρ : ∀ x, RelV Z w sl hdr fp (ρ x) (a.eval x)) (htk : takeMany t h.m sl (parts.toList.map fun p => (p.1, ρ p.2)) = some (l, us)) (hn : n * t.size ≤ 16777216) (hb : ∀ p ∈ l, p.1 < n)
    (hh : newSlot sl h ⟨.sl t, .ow h.m, setMany (List.replicate n t.zero) l⟩ us .root (fun m u => some (m, u)) = some (mv, us')) : OpOK E o a w Z sl hdr fp mv (us'.look sl) := by
  obtain ⟨s, S, hS, rfl, rfl, hns⟩ := new_ok (R := Unit) hh
  have hT := hE _ _ _ ht
  obtain ⟨el, nl, hu, hel⟩ := hT.desc
  have hTe := hE _ _ _ hel
  obtain ⟨z, hz, hzc⟩ := hTe.zero w
  have hzz : z.cells = t.zcells.toArray := Array.toList_inj.1 (by simpa using hzc)
  obtain ⟨Z1, fp1, F, cps, T1, hTM, hand, hnm, hnm2, hcs⟩ := takeMany_sound (parts.toList.map fun p => (p.1, ρ p.2)) (parts.toList.map fun p => (p.1, a.eval p.2)) htk H (by simp) (fun k p v hp hv => by
    rw [List.getElem?_map] at hp hv
    cases hk : parts.toList[k]? with
    | none => rw [hk] at hp; cases hp
    | some q =>
      rw [hk] at hp hv
      simp only [Option.map_some, Option.some.injEq] at hp hv
      subst hp; subst hv
      exact hρ _)
  have hi := TM.inline hTM (InlineL.replicate (R := fun x f c => Rep Z1 w t h.m x f c) (fun f => Rep.zero Z1 w t h.m f) n none_) (fun p hp => by rw [List.length_replicate]; exact hb p hp) (fun _ _ h => h)
  have hlen : (setMany (List.replicate n t.zcells) cps).flatten.length = n * t.size := by
    rw [Inline.len (fun x f c h => Rep.len h) hi.inline, setMany_len, List.length_replicate]
  obtain ⟨fp', H', T'⟩ := new_row T1.hr ((look_other hns).trans hS) t h.m (setMany (List.replicate n t.zero) l) F (setMany (List.replicate n t.zcells) cps).flatten [] el n
    (Inline.mono (fun _ _ _ h => h) (fun k hk => hk.elim (fun h => h.elim) id) hi.inline) (fun b hb => by obtain ⟨s, _, _, h3, h4⟩ := hand b hb; exact ⟨s, h3, .inr h4⟩) (by rw [setMany_len]; simp) (by rw [List.append_nil, hlen]; exact Nat.le_refl _)
  rw [look_cons]
  have hfill : Instr.fill (fun i => some (i * t.size, t.size)) (List.replicate n t.zcells).flatten.toArray (parts.toList.map fun p => (p.1, a.eval p.2)) = some (setMany (List.replicate n t.zcells) cps).flatten.toArray := by
    refine fill_all _ cps _ (fun i c hc => ?_) hnm (fun k p q hp hq => ?_)
    · have hi : i < n := by
        rcases Nat.lt_or_ge i n with h | h
        · exact h
        · rw [List.getElem?_eq_none (by simpa using h)] at hc; cases hc
      rw [List.getElem?_replicate, if_pos hi] at hc
      obtain rfl := Option.some.inj hc
      simp [startOf, List.take_replicate, Nat.min_eq_left (Nat.le_of_lt hi), t.zcells_len]
    · obtain ⟨q1, q2⟩ := hcs k p q hp hq
      refine ⟨q1, t.zcells, ?_, by rw [q2, t.zcells_len]⟩
      rw [List.getElem?_replicate, if_pos]
      have : p.1 ∈ l.map (·.1) := by
        rw [hnm2, List.map_map]
        rw [List.getElem?_map] at hp
        cases hk : parts.toList[k]? with
        | none => rw [hk] at hp; cases hp
        | some r =>
          rw [hk] at hp
          simp only [Option.map_some, Option.some.injEq] at hp
          subst hp
          exact List.mem_map.2 ⟨r, List.mem_of_getElem? hk, rfl⟩
      obtain ⟨r, hr, he⟩ := List.mem_map.1 this
      rw [← he]; exact hb r hr
  have hrun : (execOp a.eval o).run E.P w = .ok (.value (.slice (some ⟨w.heap.size, 0, none⟩) n n)) (w.alloc (.cells ((setMany (List.replicate n t.zcells) cps).flatten ++ []).toArray el)) := by
    have hmap : ((parts.map fun p => (p.1, a.eval p.2)) : Array (Nat × Value)).toList = parts.toList.map fun p => (p.1, a.eval p.2) := by simp
    have hz0 : (if n * t.size = 0 then (pure #[] : Sem (Array Value)) else do pure (← zeroValue el).cells).run E.P w = .ok (if n * t.size = 0 then #[] else t.zcells.toArray) w := by
      split
      · rfl
      · simp [hz, hzz]
    have hcells : (Array.range (n * t.size)).map ((if n * t.size = 0 then (#[] : Array Value) else t.zcells.toArray)[· % (if n * t.size = 0 then (#[] : Array Value) else t.zcells.toArray).size]!) = (List.replicate n t.zcells).flatten.toArray := by
      by_cases h0 : n * t.size = 0
      · have : (List.replicate n t.zcells).flatten = [] := by
          apply List.eq_nil_of_length_eq_zero
          simp [t.zcells_len]
          simpa using h0
        rw [this, h0]; simp
      · simp only [if_neg h0]
        have := madeCells_replicate t.zcells n
        rw [t.zcells_len] at this
        exact this
    unfold execOp; rw [ho]
    simp only [Instr.buildSlice, Sem.run_bind, run_underlying hu, Result.andThen_ok, hTe.size, hz0]
    rw [if_neg (by omega)]
    by_cases h0 : n * t.size = 0
    · simp only [if_pos h0] at hcells ⊢
      simp only [Sem.run_bind, Sem.run_pure, Result.andThen_ok, hcells, hmap, hfill, newRow, run_newObj, List.append_nil]
      rfl
    · simp only [if_neg h0] at hcells ⊢
      simp only [Sem.run_bind, Sem.run_pure, Result.andThen_ok, hz, hzz, hcells, hmap, hfill, newRow, run_newObj, List.append_nil]
      rfl
  refine .val hrun H' (T1.tr.comp T') ?_
  have hl : (setMany (List.replicate n t.zero) l).length = n := by rw [setMany_len]; simp
  have := relV_root (Z := Z1) (w := w.alloc (.cells ((setMany (List.replicate n t.zcells) cps).flatten ++ []).toArray el)) (sl := put (us.look sl) s ⟨S.hv + 1, 0, some ⟨.sl t, .ow h.m, setMany (List.replicate n t.zero) l⟩⟩) (hdr := fun r => if r = s then Value.slice (some ⟨w.heap.size, 0, none⟩) (setMany (List.replicate n t.zero) l).length n else hdr r) (fp := fp') (n := s) (S := S) (c := ⟨.sl t, .ow h.m, setMany (List.replicate n t.zero) l⟩) (by simp [Value.oneCell']) (by simp [put])
  simpa [hl] using this
end
end Go.Proofs.Ytibphkgcdnconaa.V
