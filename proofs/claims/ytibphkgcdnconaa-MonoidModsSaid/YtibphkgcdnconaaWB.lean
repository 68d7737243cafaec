/- What the small machine says of code holds of the machine. -/
import Derived.Test.YtibphkgcdnconaaWA
namespace Go.Proofs.Ytibphkgcdnconaa.V
open Go
set_option linter.unusedVariables false
set_option linter.all false
/-- What was handed over: shared blocks, blocks that may be changed, and where these lie. -/
structure Ctx (n : Nat) where
  z : Bs
  f0 : Bs
  hd0 : Nat → Value
/-- What has become of the memory since the call began. -/
structure Fr {n : Nat} (Z0 : Ctx n) (w0 : World) (Z : Bs) (w : World) (fp : Nat → Bs) : Prop where
  z : ∀ b, Z0.z b → Z b
  old : ∀ b, b < w0.heap.size → ¬ Z0.f0 b → w.heap[b]? = w0.heap[b]? ∧ (∀ s, ¬ fp s b) ∧ (Z b → Z0.z b)
  size : w0.heap.size ≤ w.heap.size
  os : w.os = w0.os
  tape : w.tape = w0.tape
  output : w.output = w0.output
/-- What was handed over to be changed lies where it lay. -/
def Pin {n : Nat} (Z0 : Ctx n) (sl : Nat → Option Slot) (hdr : Nat → Value) : Prop := ∀ s, s < n → ∃ S, sl s = some S ∧ S.hv = 0 ∧ ∀ c, S.c = some c → hdr s = Z0.hd0 s
def Rel {n : Nat} (Z0 : Ctx n) (w0 : World) (ns nt : Nat) (st : Sm) (a : Act) (w : World) : Prop :=
  ∃ Z hdr fp, HR Z w st.look hdr fp ∧ Fr Z0 w0 Z w fp ∧ ((∀ s, ¬ s < st.ns → st.look s = none) ∧ Pin Z0 st.look hdr) ∧ (∀ i : Nat, RelV Z w st.look hdr fp (st.tm i) (a.eval (.tmp i))) ∧ a.tmps.size = st.nt ∧ a.defers = [] ∧ st.ns = ns ∧ st.nt = nt
section
variable {E : Env} {Z0 : Ctx E.io} {w0 : World} {ns nt : Nat} {R : Type} {Q : Exit → Act → World → Prop} {r : R}
theorem Fr.trans {Z Z' : Bs} {w w' : World} {sl sl' : Nat → Option Slot} {hdr hdr' : Nat → Value} {fp fp' : Nat → Bs} (F : Fr Z0 w0 Z w fp) (H' : HR Z' w' sl' hdr' fp') (T : Trans Z w sl hdr fp Z' w' sl' hdr' fp') : Fr Z0 w0 Z' w' fp' := by
  refine ⟨fun b h => (T.z b (F.z b h)).1, fun b hb hf => ?_, Nat.le_trans F.size T.size, T.os.trans F.os, T.tape.trans F.tape, T.output.trans F.output⟩
  obtain ⟨h1, h2, h3⟩ := F.old b hb hf
  by_cases hz : Z b
  · obtain ⟨q1, q2⟩ := T.z b hz
    exact ⟨q2.trans h1, fun s hs => H'.dz s b hs q1, fun _ => h3 hz⟩
  · obtain ⟨q1, q2, q3⟩ := T.old b (Nat.lt_of_lt_of_le hb F.size) h2 hz
    exact ⟨q1.trans h1, q2, fun h => absurd h q3⟩
theorem Pin.trans {Z Z' : Bs} {w w' : World} {sl sl' : Nat → Option Slot} {hdr hdr' : Nat → Value} {fp fp' : Nat → Bs} (h : Pin Z0 sl hdr) (T : Trans Z w sl hdr fp Z' w' sl' hdr' fp') (hu : ∀ s S S', s < E.io → sl s = some S → sl' s = some S' → S'.hv = S.hv) : Pin Z0 sl' hdr' := by
  intro s hs
  obtain ⟨S, h1, h2, h3⟩ := h s hs
  obtain ⟨S', q1, q2⟩ := T.slot s S h1
  have h4 := hu s S S' hs h1 q1
  refine ⟨S', q1, h4.trans h2, fun c' hc' => ?_⟩
  rcases q2 with q | ⟨_, _, q⟩ | ⟨_, _, q⟩
  · omega
  · obtain ⟨⟨c, hc⟩, hd⟩ := q c' hc'
    exact hd.trans (h3 c hc)
  · obtain ⟨c, hc, hd, _⟩ := q c' hc'
    exact hd.trans (h3 c hc)
theorem Pin.ups {Z Z' : Bs} {w w' : World} {sl : Nat → Option Slot} {hdr hdr' : Nat → Value} {fp fp' : Nat → Bs} {us : Ups} (h : Pin Z0 sl hdr) (T : Trans Z w sl hdr fp Z' w' (us.look sl) hdr' fp') (hu : us.all (okU E) = true) : Pin Z0 (us.look sl) hdr' := by
  refine h.trans T (fun s S S' hs h1 h2 => ?_)
  obtain ⟨S0, g1, g2, _⟩ := h s hs
  rw [h1] at g1; obtain rfl := Option.some.inj g1
  simp only [Ups.look] at h2
  cases hl : us.lookup s with
  | none => rw [hl] at h2; simp only at h2; rw [h1] at h2; obtain rfl := Option.some.inj h2; rfl
  | some S1 =>
    rw [hl] at h2
    obtain rfl := Option.some.inj h2
    have hm : (s, S1) ∈ us := by
      clear h T hu h2
      induction us with
      | nil => cases hl
      | cons u us ih =>
        obtain ⟨a, b⟩ := u
        simp only [List.lookup_cons] at hl
        cases hb : s == a with
        | true =>
          rw [hb] at hl
          obtain rfl := Option.some.inj hl
          have := eq_of_beq hb
          subst this
          simp
        | false => rw [hb] at hl; exact List.mem_cons_of_mem _ (ih hl)
    have := (List.all_eq_true.1 hu) _ hm
    simp only [okU, Bool.or_eq_true] at this
    rcases this with h5 | h5
    · exact absurd (Nat.le_of_ble_eq_true h5) (by omega)
    · rw [g2]; exact Nat.eq_of_beq_eq_true h5
theorem eval_rel {st : Sm} {a : Act} {w : World} {Z : Bs} {hdr : Nat → Value} {fp : Nat → Bs} (ht : ∀ i : Nat, RelV Z w st.look hdr fp (st.tm i) (a.eval (.tmp i))) (x : Operand) : RelV Z w st.look hdr fp (st.ev x) (a.eval x) := by
  cases x with
  | tmp t => exact ht t
  | const v =>
    simp only [Sm.ev, Act.eval]
    unfold constMV
    split
    · exact relV_bool _
    · exact relV_int _ _
    · exact relV_str _
    · exact .inr ⟨[.slice none 0 0], ⟨none, rfl⟩, rfl⟩
    · exact .inr ⟨[.pointer none], .inl ⟨rfl, rfl⟩, rfl⟩
    · exact .inl rfl
  | func f => exact .inr ⟨[.func (.func f) #[] #[]], ⟨[], rfl, rfl⟩, rfl⟩
  | global g => exact .inl rfl
theorem put_tm {st : Sm} {d i : Tmp} {mv : MV} : (st.put (some d) mv).tm i = if i = d then (if d < st.nt then mv else .dead) else st.tm i := by
  simp only [Sm.put]
  by_cases h : i = d
  · subst h
    rw [if_pos rfl]
    by_cases h2 : i < st.nt
    · have hb : Nat.blt i st.nt = true := Nat.ble_eq_true_of_le h2
      simp [hb, h2]
    · have hb : Nat.blt i st.nt = false := by
        cases hb : Nat.blt i st.nt with
        | false => rfl
        | true => exact absurd (Nat.le_of_ble_eq_true hb) h2
      simp [hb, h2]
  · rw [if_neg h]
    cases hb : Nat.beq i d with
    | true => exact absurd (Nat.eq_of_beq_eq_true hb) h
    | false => rfl
theorem eval_put_ {a : Act} {d i : Tmp} {v : Value} (h : d < a.tmps.size) : (a.put (some d) v).eval (.tmp i) = if i = d then v else a.eval (.tmp i) := by
  simp only [Act.eval, Act.put, Array.getD_eq_getD_getElem?, Array.getElem?_setIfInBounds]
  by_cases e : i = d
  · subst e; rw [if_pos rfl, if_pos rfl]; try rw [if_pos h]
    rfl
  · rw [if_neg e, if_neg (fun h => e h.symm)]
theorem put_rel {st : Sm} {a : Act} {w : World} {d : Option Tmp} {mv : MV} {v : Value} {Z : Bs} {hdr : Nat → Value} {fp : Nat → Bs} (H : HR Z w st.look hdr fp) (F : Fr Z0 w0 Z w fp) (hn : (∀ s, ¬ s < st.ns → st.look s = none) ∧ Pin Z0 st.look hdr) (ht : ∀ i : Nat, RelV Z w st.look hdr fp (st.tm i) (a.eval (.tmp i))) (hs : a.tmps.size = st.nt) (hd : a.defers = [] ∧ st.ns = ns ∧ st.nt = nt)
    (hv : RelV Z w st.look hdr fp mv v) : Rel Z0 w0 ns nt (st.put d mv) (a.put d v) w := by
  cases d with
  | none => exact ⟨Z, hdr, fp, H, F, hn, ht, hs, hd⟩
  | some d =>
    refine ⟨Z, hdr, fp, H, F, hn, fun i => ?_, by simp [Sm.put, Act.put, hs], hd⟩
    rw [put_tm]
    by_cases e : i = d
    · subst e
      rw [if_pos rfl]
      by_cases h2 : i < st.nt
      · rw [if_pos h2, eval_put_ (by rw [hs]; exact h2), if_pos rfl]; exact hv
      · rw [if_neg h2]; exact .inl rfl
    · rw [if_neg e]
      by_cases h2 : d < a.tmps.size
      · rw [eval_put_ h2, if_neg e]; exact ht i
      · have : a.put (some d) v = a := by
          simp only [Act.put]
          rw [Array.setIfInBounds_eq_of_size_le (Nat.le_of_not_lt h2)]
        rw [this]; exact ht i
theorem all_and {us : Ups} {p q : Nat × Slot → Bool} (h : us.all (fun u => p u && q u) = true) : us.all p = true ∧ us.all q = true :=
  ⟨List.all_eq_true.2 fun u hu => by have := (List.all_eq_true.1 h) u hu; simp only [Bool.and_eq_true] at this; exact this.1, List.all_eq_true.2 fun u hu => by have := (List.all_eq_true.1 h) u hu; simp only [Bool.and_eq_true] at this; exact this.2⟩
theorem ups_none {us : Ups} {ns : Nat} {sl : Nat → Option Slot} (hb : us.all (fun u => Nat.blt u.1 ns) = true) (hn : ∀ s, ¬ s < ns → sl s = none) : ∀ s, ¬ s < ns → us.look sl s = none := by
  intro s hs
  have : us.lookup s = none := by
    rw [List.lookup_eq_none_iff]
    intro p hp
    have := (List.all_eq_true.1 hb) p hp
    have h3 : p.1 < ns := Nat.lt_of_succ_le (Nat.le_of_ble_eq_true this)
    simp only [beq_eq_false_iff_ne, ne_eq, bne_iff_ne]
    intro e
    exact hs (by rw [e]; exact h3)
  simp only [Ups.look, this]
  exact hn s hs
theorem evRun_ok (hT : TTok E) (hE : EnvOK E) {o : Oper} {h : OH} {st : Sm} {K : Sm → Option R} {a : Act} {w : World} {next : Act → World → Prop} (hr : Rel Z0 w0 ns nt st a w) (hh : evRun E o h st K = some r) (hK : ∀ st' a' w', K st' = some r → Rel Z0 w0 ns nt st' a' w' → next a' w') : o.wp E.P a w next Q := by
  obtain ⟨Z, hdr, fp, H, F, hn, ht, hs, hd⟩ := hr
  unfold evRun at hh
  rw [opW_bind] at hh
  obtain ⟨⟨mv, us⟩, h1, h2⟩ := bind_some_ hh
  obtain ⟨hb, h2⟩ := cond_some h2
  obtain ⟨hb, hp⟩ := all_and hb
  have hop := opW_ok hT hE H ⟨st.ns, hn.1 _ (Nat.lt_irrefl _)⟩ (fun x => eval_rel ht x) h1
  refine hop next Q (fun v w' Z' hdr' fp' H' T' R' => ?_)
  exact hK _ _ _ h2 (put_rel (st := ⟨st.tm, us.look st.look, st.ns, st.nt⟩) H' (F.trans H' T') ⟨ups_none hb hn.1, hn.2.ups T' hp⟩ (fun i => (ht i).trans H H' T') hs hd R')
theorem rel_put_bool {st : Sm} {a : Act} {w : World} {d : Tmp} {v : Bool} (hr : Rel Z0 w0 ns nt st a w) (hd : st.tm d = .val .bool v) : a.eval (.tmp d) = .bool v ∧ a.tmps[d]? = some (.bool v) ∧ Rel Z0 w0 ns nt (st.put (some d) (.val .bool v)) a w := by
  obtain ⟨Z, hdr, fp, H, F, hn, ht, hs, hdf⟩ := hr
  have h0 := ht d
  rw [hd] at h0
  have hb := h0.bool
  refine ⟨hb, ?_, Z, hdr, fp, H, F, hn, fun i => ?_, hs, hdf⟩
  · simp only [Act.eval, Array.getD_eq_getD_getElem?] at hb
    cases h : a.tmps[d]? with
    | none => rw [h] at hb; cases hb
    | some x => rw [h] at hb; rw [← hb]; rfl
  · rw [put_tm]
    by_cases e : i = d
    · subst e
      rw [if_pos rfl]
      split
      · exact h0
      · exact .inl rfl
    · rw [if_neg e]; exact ht i
theorem relV_tn {w : World} {Z : Bs} {sl : Nat → Option Slot} {hdr : Nat → Value} {fp : Nat → Bs} : RelV Z w sl hdr fp .tn undef := .inr ⟨[], rfl, rfl⟩
theorem tn_undef {w : World} {Z : Bs} {sl : Nat → Option Slot} {hdr : Nat → Value} {fp : Nat → Bs} {v : Value} (h : RelV Z w sl hdr fp .tn v) : v = undef := by
  rcases h with h | ⟨cs, h1, h2⟩
  · cases h
  · rw [h2, show cs = [] from h1]; rfl
theorem yielded_tn {ops : Array Oper} {a : Act} {j : Nat} {d : Tmp} (hd : (ops[j]?).bind (·.dst) = some d) (h : a.eval (.tmp d) = undef) : yielded ops a.tmps j = none := by
  simp only [yielded, hd, Option.bind_some]
  simp only [Act.eval, Array.getD_eq_getD_getElem?] at h
  cases e : a.tmps[d]? with
  | none => rfl
  | some x => rw [e] at h; simp only [Option.getD_some] at h; rw [h]; rfl
theorem evOp_ok (hT : TTok E) (hE : EnvOK E) {ops : Array Oper} {o : Oper} {h : OH} {st : Sm} {K : Sm → Option R} {a : Act} {w : World} {next : Act → World → Prop} (hr : Rel Z0 w0 ns nt st a w) (hh : evOp E ops o h st K = some r) (hK : ∀ st' a' w', K st' = some r → Rel Z0 w0 ns nt st' a' w' → next a' w') :
    if Region.wanted o (yielded ops a.tmps) then o.wp E.P a w next Q else next (a.put o.dst undef) w := by
  unfold evOp at hh
  split at hh
  · rename_i hg
    simp only [Region.wanted, hg, if_true]
    exact evRun_ok hT hE hr hh hK
  · rename_i j want hg
    split at hh
    · rename_i d hd
      have skip : ∀ {st2 : Sm}, Rel Z0 w0 ns nt st2 a w → K (st2.put o.dst .tn) = some r → next (a.put o.dst undef) w := fun h2 h3 => by
        obtain ⟨Z, hdr, fp, H, F, hn, ht, hs, hdf⟩ := h2
        exact hK _ _ _ h3 (put_rel H F hn ht hs hdf relV_tn)
      split at hh
      · rename_i v hv
        obtain ⟨_, hb, hr'⟩ := rel_put_bool hr hv
        have hy : yielded ops a.tmps j = some v := by simp only [yielded, hd, Option.bind_some, hb]
        simp only [Region.wanted, hg, hy]
        cases v <;> cases want <;> simp only [cond_true, cond_false] at hh <;> simp only [beq_self_eq_true, if_true, if_false, Option.some_beq_some, Bool.false_eq_true, beq_iff_eq, reduceCtorEq] <;>
          first
          | exact evRun_ok hT hE hr' hh hK
          | exact skip hr' hh
      · rename_i hv
        have h0 := hr
        obtain ⟨_, _, _, _, _, _, ht, _⟩ := h0
        have h1 := ht d
        rw [hv] at h1
        have hy := yielded_tn hd (tn_undef h1)
        simp only [Region.wanted, hg, hy]
        exact skip hr hh
      · cases hh
    · cases hh
theorem run_storeF {P : Program} {e : TypeId} {b o' : Nat} {v : Value} {w w' : World} (hsz : (sizeOf e).run P w = .ok 1 w) (hv : v.cells.toList = [v]) (hs : (storeCells ⟨b, o', none⟩ [v]).run P w = .ok () w') :
    (Instr.storeAt e (.pointer (some ⟨b, o', none⟩)) v).run P w = .ok () w' := by
  have h1 : v.cells.size = 1 := by rw [← Array.length_toList, hv]; rfl
  simp only [Instr.storeAt, Instr.sureAddr, storeVar, pure_bind, Sem.run_bind, hsz, Result.andThen_ok, h1, ne_eq, not_true, if_false, hv, hs, Sem.run_ite]
theorem beq_self_' {i : Nat} : Nat.beq i i = true := Nat.beq_refl i
theorem fnCell_ok {o o2 : Oper} {st : Sm} {d : Tmp} {mv : MV} {a : Act} {w : World} (hr : Rel Z0 w0 ns nt st a w) (hh : fnCell E o o2 st = some (d, mv)) : o.guard = none ∧ o2.guard = none ∧
    ∃ v w1, (execOp a.eval o).run E.P w = .ok (.value v) w1 ∧ ∃ w2, (execOp (a.put o.dst v).eval o2).run E.P w1 = .ok .skip w2 ∧ Rel Z0 w0 ns nt (st.put (some d) mv) ((a.put o.dst v).put o2.dst undef) w2 := by
  unfold fnCell at hh
  split at hh
  · rename_i d0 g1 g2 g3 g4
    split at hh
    · rename_i e e2 ta tx h1 h2
      obtain ⟨hb, h3⟩ := cond_some hh
      clear hh
      simp only [Bool.and_eq_true, Bool.not_eq_true'] at hb
      obtain ⟨⟨⟨⟨⟨b1, b2⟩, b3⟩, b4⟩, b5⟩, b6⟩ := hb
      obtain rfl := Nat.eq_of_beq_eq_true b1
      obtain rfl := Nat.eq_of_beq_eq_true b2
      have hne : tx ≠ ta := fun e => by rw [e, beq_self_'] at b3; cases b3
      have hlt : ta < st.nt := Nat.lt_of_succ_le (Nat.le_of_ble_eq_true b4)
      split at h3
      · rename_i f c hf
        simp only [Option.some.injEq, Prod.mk.injEq] at h3
        obtain ⟨rfl, rfl⟩ := h3
        obtain ⟨Z, hdr, fp, H, F, hn, ht, hs, hd⟩ := hr
        have hx := ht tx
        rw [hf] at hx
        rcases hx with h0 | ⟨cs, ⟨ks, rfl, hk⟩, hv⟩
        · cases h0
        have hv : a.eval (.tmp tx) = .func (.func f) #[] ks.toArray := hv
        unfold fnInfo at b6
        split at b6
        · rename_i i hi
          simp only [Bool.and_eq_true] at b6
          obtain ⟨c1, c2⟩ := b6
          split at c2
          · rename_i z hz
            have hz1 : z.cells.size = 1 := Nat.eq_of_beq_eq_true c2
            have hi1 : i.size = 1 := Nat.eq_of_beq_eq_true c1
            refine ⟨g1, g2, .pointer (some ⟨w.heap.size, 0, none⟩), w.alloc (.cells z.cells e), ?_, ?_⟩
            · unfold execOp; rw [h1]
              simp only [Instr.alloc, Sem.run_bind, zeroValue, typeInfo, run_program, Result.andThen_ok, hi, hz, Sem.run_pure, newVar, newRow, run_newObj]; rfl
            · have hown : Own (w.alloc (.cells z.cells e)) w.heap.size := ⟨z.cells, e, by show (w.heap.push _)[w.heap.size]? = _; simp⟩
              have hat0 : At (w.alloc (.cells z.cells e)) w.heap.size 0 z.cells.toList := by
                have := at_alloc w z.cells.toList e
                rw [Array.toArray_toList] at this; exact this
              obtain ⟨w2, hst, W⟩ := wrote (P := E.P) (cs := [.func (.func f) #[] ks.toArray]) hown hat0 (by simp [hz1]) (fun v hv => by obtain rfl := List.mem_singleton.1 hv; rfl)
              have hev1 : (a.put o.dst (.pointer (some ⟨w.heap.size, 0, none⟩))).eval (.tmp ta) = .pointer (some ⟨w.heap.size, 0, none⟩) := by
                rw [g3, eval_put_ (by rw [hs]; exact hlt), if_pos rfl]
              have hev2 : (a.put o.dst (.pointer (some ⟨w.heap.size, 0, none⟩))).eval (.tmp tx) = .func (.func f) #[] ks.toArray := by
                rw [g3, eval_put_ (by rw [hs]; exact hlt), if_neg hne, hv]
              have hsz : (sizeOf e).run E.P (w.alloc (.cells z.cells e)) = .ok 1 (w.alloc (.cells z.cells e)) := by
                simp only [sizeOf, typeInfo, Sem.run_bind, run_program, Result.andThen_ok, hi, Sem.run_pure, hi1]
              have hrs := run_storeF (P := E.P) (e := e) (b := w.heap.size) (o' := 0) (v := .func (.func f) #[] ks.toArray) (w := w.alloc (.cells z.cells e)) (w' := w2) hsz rfl hst
              have hold : ∀ k, k < w.heap.size → w2.heap[k]? = w.heap[k]? := fun k hk => (W.rest k (Nat.ne_of_lt hk)).trans (Go.RowKit.Below.heap_alloc w _ k hk)
              have hsize : w2.heap.size = w.heap.size + 1 := W.size.trans (by simp)
              obtain ⟨H', T', _⟩ := step_call H (w' := w2) (Zn := fun b => Z b ∨ b = w.heap.size) (F := none_) (r0 := st.ns) (mu := []) (ios := []) (us := []) (fpc := fun _ => none_) (hn.1 _ (Nat.lt_irrefl _)) rfl rfl (fun k S hk => by simp at hk) (fun b hb => .inl hb)
                (fun b hb => ⟨hb.elim (fun h => by have := H.zlt b h; omega) (fun h => by omega), hb.imp id (fun h => .inr (by omega))⟩) (fun b hb _ => hold b hb) (by omega) (W.os.trans rfl) (W.tape.trans rfl) (W.output.trans rfl) (fun b hb => hb.elim) (fun k b hk => hk.elim)
                ⟨fun k hv cv c h => by simp [ioSlO] at h, fun k hv cv c h => by simp [ioSlO] at h, fun k k' b h => h.elim, fun k b h => h.elim, fun b hb => hb.elim (fun h => by have := H.zlt b h; omega) (fun h => by omega), fun k b h => h.elim⟩
              refine ⟨w2, ?_, ?_⟩
              · unfold execOp; rw [h2]
                simp only [Sem.run_bind, hev1, hev2, hrs, Result.andThen_ok, Sem.run_pure]
              · rw [g4]
                have := put_rel (d := some ta) (mv := .icl (.fn f c)) (v := .pointer (some ⟨w.heap.size, 0, none⟩)) H' (F.trans H' T') ⟨hn.1, hn.2.trans T' (fun s S S' _ h1 h2 => by rw [h1] at h2; obtain rfl := Option.some.inj h2; rfl)⟩ (fun i => (ht i).trans H H' T') hs hd
                  (.inr ⟨_, ⟨w.heap.size, 0, [.func (.func f) #[] ks.toArray], rfl, W.at_, .inr rfl, ks, rfl, hk.trans H H' T'⟩, rfl⟩)
                rw [g3]
                exact this
          · cases c2
        · cases b6
      · cases h3
    · cases hh
  · cases hh
theorem evOps_ok (hT : TTok E) (hE : EnvOK E) {ops : Array Oper} {K : Sm → Option R} (hK : ∀ st' a' w', K st' = some r → Rel Z0 w0 ns nt st' a' w' → Q .normal a' w') : ∀ {is : List Nat} {hs : List OH} {st : Sm} {a : Act} {w : World}, Rel Z0 w0 ns nt st a w → evOps E ops is hs st K = some r → wpOps E.P ops Q is a w
  | [], hs, st, a, w, hr, hh => hK _ _ _ hh hr
  | i :: is, hs, st, a, w, hr, hh => by
    unfold evOps at hh
    cases hfl : Nat.beq (hs.headD {}).fl 3 with
    | true =>
      rw [hfl] at hh
      simp only [cond_true] at hh
      split at hh
      · rename_i j is'
        split at hh
        · rename_i o o2 ho ho2
          split at hh
          · rename_i d mv hc
            obtain ⟨g1, g2, v, w1, r1, w2, r2, hr'⟩ := fnCell_ok hr hc
            rw [wpOps_cons]
            unfold wpOp
            rw [ho]
            simp only [Region.wanted, g1, if_true]
            refine .inl ?_
            unfold Oper.wp
            rw [r1, Oper.upon_value, wpOps_cons]
            unfold wpOp
            rw [ho2]
            simp only [Region.wanted, g2, if_true]
            refine .inl ?_
            unfold Oper.wp
            rw [r2, Oper.upon_skip]
            exact evOps_ok hT hE hK hr' hh
          · cases hh
        · cases hh
      · cases hh
    | false =>
    rw [hfl] at hh
    simp only [cond_false] at hh
    rw [wpOps_cons]
    unfold wpOp
    split at hh
    · rename_i o ho
      rw [ho]
      have := evOp_ok (Q := Q) hT hE (next := wpOps E.P ops Q is) hr hh (fun st' a' w' h1 h2 => evOps_ok hT hE hK h2 h1)
      simp only []
      split
      · rename_i hw; rw [if_pos hw] at this; exact .inl this
      · rename_i hw; rw [if_neg hw] at this; exact this
    · cases hh
end
end Go.Proofs.Ytibphkgcdnconaa.V
