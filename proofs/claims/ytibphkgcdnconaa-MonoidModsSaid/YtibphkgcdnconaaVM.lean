/- The operations on memory, continued: structs written out; places; reading; writing. -/
import Derived.Test.YtibphkgcdnconaaVL
namespace Go.Proofs.Ytibphkgcdnconaa.V
open Go
set_option linter.unusedVariables false
set_option linter.all false
section
variable {E : Env} {o : Oper} {a : Act} {w : World} {Z : Bs} {sl : Nat → Option Slot} {hdr : Nat → Value} {fp : Nat → Bs} {mv : MV}
theorem out_cells : ∀ {u : MV} {cs : List Value} {n : Nat}, RelC Z w sl hdr fp u cs → u.sz = some n → cs.length = n ∧ (u.out cs).cells.toList = cs := by
  intro u cs n h hn
  have single : (cs.length = 1 ∧ ∀ v ∈ cs, v.oneCell' = true) → (cs.headD (.tuple #[])).cells.toList = cs := fun ⟨hl, hone⟩ => by
    obtain ⟨v, rfl⟩ := List.length_eq_one_iff.1 hl
    exact cells_single (hone v (by simp))
  induction u generalizing cs n with
  | val t x =>
    simp only [MV.sz, Option.some.injEq] at hn
    refine ⟨(Rep.len (t := t) h).trans hn, ?_⟩
    simp only [MV.out, MV.agg]
    cases ha : t.agg with
    | true => simp only [cond_true]; exact cells_agg cs
    | false => simp only [cond_false]; exact single ⟨(Rep.len (t := t) h).trans (Ty.size_one ha), Rep.one (t := t) h⟩
  | view s hv cv p t x =>
    simp only [MV.sz, Option.some.injEq] at hn
    refine ⟨h.1.1.trans hn, ?_⟩
    simp only [MV.out, MV.agg]
    cases ha : t.agg with
    | true => simp only [cond_true]; exact cells_agg cs
    | false => simp only [cond_false]; exact single ⟨h.1.1.trans (Ty.size_one ha), h.1.2⟩
  | nil => simp only [MV.sz, Option.some.injEq] at hn; obtain ⟨A, rfl⟩ := h; exact ⟨hn, rfl⟩
  | root s hv => simp only [MV.sz, Option.some.injEq] at hn; exact ⟨h.1.1.trans hn, by simp only [MV.out, MV.agg, cond_false]; exact single h.1⟩
  | adr s hv cv p t x => simp only [MV.sz, Option.some.injEq] at hn; exact ⟨h.1.1.trans hn, by simp only [MV.out, MV.agg, cond_false]; exact single h.1⟩
  | pend s hv cv p t x => simp only [MV.sz, Option.some.injEq] at hn; exact ⟨h.1.1.trans hn, by simp only [MV.out, MV.agg, cond_false]; exact single h.1⟩
  | iadr t x => simp only [MV.sz, Option.some.injEq] at hn; obtain ⟨b, o, ks, rfl, _⟩ := h; exact ⟨hn, rfl⟩
  | ptr s hv t => simp only [MV.sz, reduceCtorEq] at hn
  | icl c => simp only [MV.sz, reduceCtorEq] at hn
  | nv => simp only [MV.sz, reduceCtorEq] at hn
  | fn f c => simp only [MV.sz, Option.some.injEq] at hn; obtain ⟨ks, rfl, _⟩ := h; exact ⟨hn, rfl⟩
  | un => simp only [MV.sz, Option.some.injEq] at hn; rw [show cs = [] from h]; exact ⟨hn, rfl⟩
  | pr x y ih1 ih2 =>
    obtain ⟨c1, c2, rfl, h1, h2⟩ := h
    simp only [MV.sz] at hn
    split at hn
    · rename_i n1 n2 e1 e2
      simp only [Option.some.injEq] at hn
      refine ⟨?_, by simp only [MV.out, MV.agg, cond_true]; exact cells_agg _⟩
      have s1 : (c1.length = 1 ∧ ∀ v ∈ c1, v.oneCell' = true) → (c1.headD (.tuple #[])).cells.toList = c1 := fun ⟨hl, hone⟩ => by
        obtain ⟨v, rfl⟩ := List.length_eq_one_iff.1 hl
        exact cells_single (hone v (by simp))
      have s2 : (c2.length = 1 ∧ ∀ v ∈ c2, v.oneCell' = true) → (c2.headD (.tuple #[])).cells.toList = c2 := fun ⟨hl, hone⟩ => by
        obtain ⟨v, rfl⟩ := List.length_eq_one_iff.1 hl
        exact cells_single (hone v (by simp))
      rw [List.length_append, (ih1 h1 e1 s1).1, (ih2 h2 e2 s2).1, hn]
    · cases hn
  | dead => cases hn
  | tc x y _ _ => cases hn
  | tn => cases hn
theorem relC_mkpr {x y : MV} {c1 c2 : List Value} (h1 : RelC Z w sl hdr fp x c1) (h2 : RelC Z w sl hdr fp y c2) : RelC Z w sl hdr fp (x.mkpr y) (c1 ++ c2) := by
  unfold MV.mkpr
  split
  · exact ⟨c1, c2, none_, none_, rfl, h1, h2, fun _ h => h.elim, fun _ h => h.elim, fun _ h => h.elim⟩
  · exact ⟨c1, c2, rfl, h1, h2⟩
theorem relC_zero : ∀ (t : Ty), RelC Z w sl hdr fp (zeroMV t) t.zcells
  | .pair a b => relC_mkpr (relC_zero a) (relC_zero b)
  | .sl _ => ⟨none, rfl⟩
  | .mp _ _ => trivial
  | .unit => rfl
  | .bool => rfl
  | .int _ => rfl
  | .str => rfl
  | .arr n t => Rep.zero Z w (.arr n t) .im none_
  | .ex k a b => Rep.zero Z w (.ex k a b) .im none_
def RelL (Z : Bs) (w : World) (sl : Nat → Option Slot) (hdr : Nat → Value) (fp : Nat → Bs) : List MV → List (List Value) → Prop
  | [], css => css = []
  | u :: l, css => ∃ c css', css = c :: css' ∧ RelC Z w sl hdr fp u c ∧ RelL Z w sl hdr fp l css'
theorem RelL.set {v : MV} {c : List Value} (hv : RelC Z w sl hdr fp v c) : ∀ {l : List MV} {css : List (List Value)} (i : Nat), RelL Z w sl hdr fp l css → RelL Z w sl hdr fp (l.set i v) (css.set i c)
  | [], css, i, h => by rw [show css = [] from h]; rfl
  | _ :: _, _, 0, ⟨c0, css', e, _, h⟩ => by rw [e]; exact ⟨c, css', rfl, hv, h⟩
  | _ :: _, _, i + 1, ⟨c0, css', e, h1, h⟩ => by rw [e]; exact ⟨c0, css'.set i c, rfl, h1, h.set hv i⟩
theorem RelL.many : ∀ {ps : List (Nat × MV)} {cps : List (Nat × List Value)} {l : List MV} {css : List (List Value)}, RelL Z w sl hdr fp l css → ps.map (·.1) = cps.map (·.1) →
    (∀ (k : Nat) (p : Nat × MV) (q : Nat × List Value), ps[k]? = some p → cps[k]? = some q → RelC Z w sl hdr fp p.2 q.2) → RelL Z w sl hdr fp (setMany l ps) (setMany css cps)
  | [], [], _, _, h, _, _ => h
  | [], _ :: _, _, _, _, h, _ => by simp at h
  | _ :: _, [], _, _, _, h, _ => by simp at h
  | (i, u) :: ps, (i', c) :: cps, l, css, h, hm, hr => by
    simp only [List.map_cons, List.cons.injEq] at hm
    obtain ⟨rfl, hm⟩ := hm
    exact RelL.many (l := l.set i u) (css := css.set i c) (ps := ps) (cps := cps) (h.set (hr 0 (i, u) (i, c) rfl rfl) i) hm (fun k p q hp hq => hr (k + 1) p q (by simpa using hp) (by simpa using hq))
theorem relC_tupP : ∀ {l : List MV} {css : List (List Value)}, RelL Z w sl hdr fp l css → RelC Z w sl hdr fp (tupP l) css.flatten
  | [], css, h => by rw [show css = [] from h]; rfl
  | _ :: _, _, ⟨c, css', e, h1, h2⟩ => by rw [e]; exact relC_mkpr h1 (relC_tupP h2)
theorem relL_zero : ∀ (ts : List Ty), RelL Z w sl hdr fp (ts.map zeroMV) (ts.map Ty.zcells)
  | [] => rfl
  | t :: ts => ⟨_, _, rfl, relC_zero t, relL_zero ts⟩
def plc : Ty → Nat → List (Nat × Nat)
  | .pair a b, off => (off, a.size) :: plc b (off + a.size)
  | _, _ => []
theorem places_ok (hE : TTok E) : ∀ {fs : List Field} {t : Ty} {off : Nat}, Fields E.tt fs t off → fs.mapM (fun f => (E.P.info? f.type).map fun i => (f.offset, i.size)) = some (plc t off)
  | [], .unit, _, _ => rfl
  | f :: fs, .pair a b, off, ⟨h1, ⟨n, h2⟩, h3⟩ => by
    obtain ⟨i, z, i1, i2, _⟩ := (hE _ _ _ h2).info
    have ih := places_ok hE h3
    simp [List.mapM_cons, i1, ih, h1, i2, plc]
  | [], .bool, _, h | [], .int _, _, h | [], .str, _, h | [], .pair _ _, _, h | [], .arr _ _, _, h | [], .sl _, _, h | [], .mp _ _, _, h | [], .ex _ _ _, _, h => h.elim
  | _ :: _, .unit, _, h | _ :: _, .bool, _, h | _ :: _, .int _, _, h | _ :: _, .str, _, h | _ :: _, .arr _ _, _, h | _ :: _, .sl _, _, h | _ :: _, .mp _ _, _, h | _ :: _, .ex _ _ _, _, h => h.elim
theorem plc_at : ∀ (t : Ty) (off i : Nat) (s : Ty), (flds t)[i]? = some s → (plc t off)[i]? = some (off + startOf ((flds t).map Ty.zcells) i, s.zcells.length)
  | .pair a b, off, 0, s, h => by
    simp only [flds, List.getElem?_cons_zero, Option.some.injEq] at h
    subst h
    simp [plc, startOf, Ty.zcells_len]
  | .pair a b, off, i + 1, s, h => by
    have := plc_at b (off + a.size) i s (by simpa [flds] using h)
    simp only [plc, flds, List.map_cons, List.getElem?_cons_succ]
    rw [this]
    simp [startOf, Ty.zcells_len, Nat.add_assoc]
  | .bool, _, _, _, h | .int _, _, _, _, h | .str, _, _, _, h | .unit, _, _, _, h | .arr _ _, _, _, _, h | .sl _, _, _, _, h | .mp _ _, _, _, _, h | .ex _ _ _, _, _, _, h => by simp [flds] at h
theorem zcells_chain : ∀ {t : Ty}, isChain t = true → t.zcells = ((flds t).map Ty.zcells).flatten
  | .pair a b, h => by simp [Ty.zcells, flds, zcells_chain (t := b) h]
  | .unit, _ => rfl
  | .bool, h | .int _, h | .str, h | .arr _ _, h | .sl _, h | .mp _ _, h | .ex _ _ _, h => by cases h
theorem foMV_ok {t : Ty} {u : MV} {cs : List Value} (h : RelC Z w sl hdr fp u cs) : RelC Z w sl hdr fp (foMV t u) cs := by
  unfold foMV
  split
  · rename_i a b t' x
    split
    · rename_i e
      subst e
      cases hc : isChain a with
      | true => exact fo_rep hc h
      | false => exact h
    · exact h
  · exact h
theorem build_ok (hE : TTok E) {e : TypeId} {ta tb : Ty} {nb : Nat} {parts : Array (Nat × Operand)} {ρ : Operand → MV} (H : HR Z w sl hdr fp) (ho : o.op = .build e parts) (hT : TyOK E e (.pair ta tb) nb)
    (hρ : ∀ x, RelV Z w sl hdr fp (ρ x) (a.eval x)) (hc : isChain tb = true)
    (hb : (parts.toList.all fun p => match (ta :: flds tb)[p.1]?, (ρ p.2).sz with
        | some t, some n => Nat.beq n t.size
        | _, _ => false) = true) :
    OpOK E o a w Z sl hdr fp (tupP (setMany ((ta :: flds tb).map zeroMV) (parts.toList.map fun p => (p.1, foMV ((ta :: flds tb).getD p.1 .unit) (ρ p.2))))) (Ups.look [] sl) := by
  obtain ⟨fs, hu, hf⟩ := hT.desc
  obtain ⟨i, z, i1, i2, i3, i4, i5⟩ := hT.info
  have hb' : ∀ p ∈ parts.toList, ∃ t cs, (ta :: flds tb)[p.1]? = some t ∧ RelC Z w sl hdr fp (ρ p.2) cs ∧ (a.eval p.2).cells.toList = cs ∧ cs.length = t.size := by
    intro p hp
    have := List.all_eq_true.1 hb p hp
    split at this
    · rename_i t n e1 e2
      rcases hρ p.2 with h0 | ⟨cs, h1, h2⟩
      · rw [h0] at e2; cases e2
      · obtain ⟨h3, h4⟩ := out_cells h1 e2
        exact ⟨t, cs, e1, h1, by rw [h2]; exact h4, h3.trans (Nat.eq_of_beq_eq_true this)⟩
    · cases this
  have key : ∀ ps : List (Nat × Operand), (∀ p ∈ ps, ∃ t cs, (ta :: flds tb)[p.1]? = some t ∧ RelC Z w sl hdr fp (ρ p.2) cs ∧ (a.eval p.2).cells.toList = cs ∧ cs.length = t.size) →
      ∃ cps : List (Nat × List Value), ps.map (·.1) = cps.map (·.1) ∧ ∀ (k : Nat) (p : Nat × Operand) (q : Nat × List Value), ps[k]? = some p → cps[k]? = some q → RelC Z w sl hdr fp (ρ p.2) q.2 ∧ (a.eval p.2).cells.toList = q.2 ∧ ∃ t, (ta :: flds tb)[p.1]? = some t ∧ q.2.length = t.size := by
    intro ps
    induction ps with
    | nil => intro _; exact ⟨[], rfl, fun k p q h => by simp at h⟩
    | cons p ps ih =>
      intro h
      obtain ⟨cps, h1, h2⟩ := ih (fun q hq => h q (by simp [hq]))
      obtain ⟨t, cs, g1, g2, g3, g4⟩ := h p (by simp)
      refine ⟨(p.1, cs) :: cps, by simp [h1], fun k p' q hp hq => ?_⟩
      cases k with
      | zero =>
        simp only [List.getElem?_cons_zero, Option.some.injEq] at hp hq
        subst hp; subst hq
        exact ⟨g2, g3, t, g1, g4⟩
      | succ k => exact h2 k p' q (by simpa using hp) (by simpa using hq)
  obtain ⟨cps, hm, hk⟩ := key _ hb'
  have hz : z.cells = (((flds (.pair ta tb)).map Ty.zcells).flatten).toArray := by
    apply Array.toList_inj.1
    rw [i5]
    simp only [zcells_chain (t := .pair ta tb) hc]
  have hfill : Instr.fill ((plc (.pair ta tb) 0).toArray[·]?) z.cells (parts.map fun p => (p.1, a.eval p.2)).toList = some (setMany ((flds (.pair ta tb)).map Ty.zcells) cps).flatten.toArray := by
    rw [hz]
    refine fill_all _ cps _ (fun j c hc => ?_) (by rw [Array.toList_map, List.map_map]; exact hm) (fun k p q hp hq => ?_)
    · rw [List.getElem?_map] at hc
      cases hj : (flds (.pair ta tb))[j]? with
      | none => rw [hj] at hc; cases hc
      | some s =>
        rw [hj] at hc
        obtain rfl := Option.some.inj hc
        have := plc_at (.pair ta tb) 0 j s hj
        rw [Nat.zero_add] at this
        simpa using this
    · have hp' : ∃ p', parts.toList[k]? = some p' ∧ p = (p'.1, a.eval p'.2) := by
        have e : (parts.map fun p => (p.1, a.eval p.2)).toList = parts.toList.map fun p => (p.1, a.eval p.2) := by simp
        rw [e, List.getElem?_map] at hp
        cases hkk : parts.toList[k]? with
        | none => rw [hkk] at hp; cases hp
        | some r => rw [hkk] at hp; exact ⟨r, rfl, (Option.some.inj hp).symm⟩
      obtain ⟨p', h1, rfl⟩ := hp'
      obtain ⟨g1, g2, t, g3, g4⟩ := hk k p' q h1 hq
      refine ⟨g2, t.zcells, ?_, by rw [g4, t.zcells_len]⟩
      rw [List.getElem?_map]
      show Option.map _ ((ta :: flds tb)[p'.1]?) = _
      rw [g3]; rfl
  have hbuilt : E.P.built e (parts.map fun p => (p.1, a.eval p.2)).toList = some (setMany ((flds (.pair ta tb)).map Ty.zcells) cps).flatten.toArray := by
    unfold Program.built
    simp only [i1, hu, i4, places_ok hE hf]
    exact hfill
  have hrun : (execOp a.eval o).run E.P w = .ok (.value (.agg (setMany ((flds (.pair ta tb)).map Ty.zcells) cps).flatten.toArray)) w := by
    have := run_build w e (parts.map fun p => (p.1, a.eval p.2)) _ hbuilt
    unfold execOp; rw [ho]
    simp only [Sem.run_bind, this, Result.andThen_ok, Sem.run_pure]
  have hrel := relC_tupP (RelL.many (ps := parts.toList.map fun p => (p.1, foMV ((ta :: flds tb).getD p.1 .unit) (ρ p.2))) (cps := cps) (relL_zero (Z := Z) (w := w) (sl := sl) (hdr := hdr) (fp := fp) (ta :: flds tb)) (by rw [List.map_map]; exact hm) (fun k p q hp hq => by
    rw [List.getElem?_map] at hp
    cases hkk : parts.toList[k]? with
    | none => rw [hkk] at hp; cases hp
    | some r =>
      rw [hkk] at hp
      obtain rfl := Option.some.inj hp
      exact foMV_ok (hk k r q hkk hq).1))
  refine .same H hrun (.inr ⟨_, hrel, ?_⟩)
  have hagg : ∀ (l : List MV), (tupP l).agg = true := by
    intro l
    cases l with
    | nil => rfl
    | cons x l => simp only [tupP, MV.mkpr]; split <;> rfl
  have : ∀ (u : MV) (cs : List Value), u.agg = true → u.out cs = .agg cs.toArray := by
    intro u cs h
    cases u <;> simp only [MV.agg, Bool.false_eq_true] at h <;> simp only [MV.out, MV.agg, h, cond_true]
  rw [this _ _ (hagg _)]
  rfl
end
end Go.Proofs.Ytibphkgcdnconaa.V
