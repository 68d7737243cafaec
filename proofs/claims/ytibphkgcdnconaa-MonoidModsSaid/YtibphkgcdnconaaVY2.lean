/- Maps and arrays, continued. -/
import Derived.Test.YtibphkgcdnconaaVY
namespace Go.Proofs.Ytibphkgcdnconaa.V
open Go
set_option linter.unusedVariables false
set_option linter.all false
section
variable {E : Env} {o : Oper} {a : Act} {w : World} {Z : Bs} {sl : Nat → Option Slot} {hdr : Nat → Value} {fp : Nat → Bs} {mv : MV} {ρ : Operand → MV}
theorem makeMap_ok (hE : TTok E) {e : TypeId} {k v : Ty} {nb : Nat} {h : OH} {us : Ups} (H : HR Z w sl hdr fp) (ho : o.op = .makeMap e none) (ht : E.tt e = some (.mp k v, nb))
    (hh : newSlot sl h ⟨.mp k v, .ow h.m, some []⟩ [] .root (fun m u => some (m, u)) = some (mv, us)) : OpOK E o a w Z sl hdr fp mv (us.look sl) := by
  obtain ⟨n, S, hS, rfl, rfl, _⟩ := new_ok (R := Unit) hh
  rw [look_cons, look_nil]
  have hrun : (execOp a.eval o).run E.P w = .ok (.value (.map (some w.heap.size))) (w.alloc (.map #[] 0)) := by
    unfold execOp; rw [ho]
    have hmk : (Instr.makeMap e none).run E.P w = .ok (.map (some w.heap.size)) (w.alloc (.map #[] 0)) := rfl
    simp only [Option.map_none, Sem.run_bind, hmk, Result.andThen_ok, Sem.run_pure]
  obtain ⟨H1, T1⟩ := step_alloc H n (.map #[] 0)
  have hnew : (w.alloc (.map #[] 0)).heap[w.heap.size]? = some (.map #[] 0) := by
    show (w.heap.push _)[w.heap.size]? = _; simp
  obtain ⟨fp2, _, _, H2, T2⟩ := step_set H1 hS ⟨.mp k v, .ow h.m, (some [] : Option (List (k.den × v.den)))⟩ (.map (some w.heap.size)) (fun b => b = w.heap.size)
    (.inr ⟨w.heap.size, #[], 0, [], rfl, rfl, rfl, hnew, none_, fun _ h => h.elim, rfl⟩) (.inr ⟨k, v, rfl⟩) (fun b hb => ⟨n, .inr ⟨rfl, hb⟩, .inl rfl⟩) 0
  refine .val hrun H2 (T1.comp T2) ?_
  have := relV_root (Z := Z) (w := w.alloc (.map #[] 0)) (sl := put sl n ⟨S.hv + 1, 0, some ⟨.mp k v, .ow h.m, (some [] : Option (List (k.den × v.den)))⟩⟩) (hdr := fun r => if r = n then Value.map (some w.heap.size) else hdr r) (fp := fp2) (n := n) (S := S) (c := ⟨.mp k v, .ow h.m, (some [] : Option (List (k.den × v.den)))⟩) (by simp [Value.oneCell']) (by simp [put])
  simpa using this
theorem sameBits_key (hE : TTok E) : ∀ (n : Nat) {e : TypeId} {t : Ty} {nb : Nat} (d : Nat), E.tt e = some (t, nb) → keyT E n e = true → t.size ≤ 100000000 → n ≤ d → ∀ (Z : Bs) (w : World) (m : Mk) (x : t.den) (f : Bs) (c : List Value), Rep Z w t m x f c → Instr.sameBits d (t.val c) (t.val c) = true ∧ (∀ v ∈ c, ∀ d, Instr.sameBits d v v = true)
  | 0, _, _, _, _, _, h, _, _ => by cases h
  | n + 1, e, t, nb, 0, _, _, _, h => absurd h (Nat.not_succ_le_zero _)
  | n + 1, e, t, nb, d + 1, ht, hk, hs, hd => by
    have hdesc := (hE _ _ _ ht).desc
    intro Z w m x f c r
    unfold keyT at hk
    rw [ht] at hk
    have leaf : ∀ v : Value, (∃ k x, v = .int k x ∨ (∃ b, v = .bool b) ∨ ∃ s, v = .string s) → ∀ d, Instr.sameBits d v v = true := by
      intro v hv d
      obtain ⟨k, x, rfl | ⟨b, rfl⟩ | ⟨s, rfl⟩⟩ := hv
      · cases d <;> simp [Instr.sameBits]
      · cases d <;> simp [Instr.sameBits]
      · cases d <;> simp only [Instr.sameBits, beq_toListBytes, BEq.rfl]
    have single : ∀ v : Value, c = [v] → t.agg = false → (∃ k x, v = .int k x ∨ (∃ b, v = .bool b) ∨ ∃ s, v = .string s) → Instr.sameBits (d + 1) (t.val c) (t.val c) = true ∧ (∀ v ∈ c, ∀ d, Instr.sameBits d v v = true) := by
      intro v hc ha hv
      subst hc
      simp only [Ty.val, ha, cond_false, List.headD_cons]
      exact ⟨leaf v hv _, fun u hu => by obtain rfl := List.mem_singleton.1 hu; exact leaf _ hv⟩
    cases t with
    | bool => exact single _ r rfl ⟨.i64, 0, .inr (.inl ⟨x, rfl⟩)⟩
    | int k => exact single _ r rfl ⟨k, x, .inl rfl⟩
    | str => exact single _ r rfl ⟨.i64, 0, .inr (.inr ⟨x, rfl⟩)⟩
    | arr l t =>
      obtain ⟨el, n2, hu, hel⟩ := hdesc
      simp only [hu] at hk
      obtain ⟨hl, i⟩ := r
      have all : ∀ (xs : List t.den) (f : Bs) (c : List Value), xs.length ≤ l → Inline (fun x f c => Rep Z w t m x f c) xs f c → ∀ v ∈ c, ∀ d, Instr.sameBits d v v = true := by
        intro xs
        induction xs with
        | nil => intro f c _ i v hv; rw [show c = [] from i] at hv; cases hv
        | cons x xs ihx =>
          rintro f c hlx ⟨ca, cb, f1, f2, rfl, ra, rb, _⟩ v hv
          rcases List.mem_append.1 hv with hv | hv
          · have hsz : t.size ≤ 100000000 := by
              have : 1 * t.size ≤ l * t.size := Nat.mul_le_mul_right _ (by simp at hlx; omega)
              have h2 : l * t.size ≤ 100000000 := hs
              omega
            exact (sameBits_key hE n n hel hk hsz (Nat.le_refl _) _ _ _ _ _ _ ra).2 v hv
          · exact ihx f2 cb (by simp at hlx; omega) rb v hv
      have hall := all x f c (by omega) i
      refine ⟨?_, hall⟩
      simp only [Ty.val, Ty.agg, cond_true, Instr.sameBits, BEq.rfl, Bool.true_and]
      rw [List.all_eq_true]
      intro p hp
      have : p.1 = p.2 ∧ p.1 ∈ c := by
        have : ∀ (c : List Value), p ∈ c.zip c → p.1 = p.2 ∧ p.1 ∈ c := by
          intro c
          induction c with
          | nil => intro h; cases h
          | cons v c ih =>
            intro h
            simp only [List.zip_cons_cons, List.mem_cons] at h
            rcases h with rfl | h
            · exact ⟨rfl, by simp⟩
            · obtain ⟨h1, h2⟩ := ih h; exact ⟨h1, by simp [h2]⟩
        exact this c hp
      rw [← this.1]
      exact hall _ this.2 d
    | _ => cases hk
theorem mapUpdate_ok (hE : TTok E) (H : HR Z w sl hdr fp) {e : TypeId} {m i x : Operand} {s hv cv : Nat} {k v : Ty} {q : Mk} {l : List (k.den × v.den)} {y : k.den} {z : v.den} {u : MV} {us : Ups} (ho : o.op = .mapUpdate e m i x) (hm : RelV Z w sl hdr fp (.root s hv) (a.eval m)) (hi : RelV Z w sl hdr fp (.val k y) (a.eval i)) (hx : RelV Z w sl hdr fp u (a.eval x))
    (hs : lookH sl s hv = some (cv, ⟨.mp k v, .ow q, (some l : Option (List (k.den × v.den)))⟩)) (hb : mapB E e k v = true) (hq : v.shared q = true) (htk : takeX sl v .im u = some (z, us)) (hus : us.any (fun u => Nat.beq u.1 s) = false) (hsz : k.size ≤ 100000000) :
    OpOK E o a w Z sl hdr fp .dead (Ups.look ((s, ⟨hv, cv + 1, some ⟨.mp k v, .ow q, (some (mput k l y z) : Option (List (k.den × v.den)))⟩⟩) :: us) sl) := by
  simp only [mapB, Bool.and_eq_true] at hb
  obtain ⟨hb1, hb2⟩ := hb
  obtain ⟨nb, hT⟩ := tyB_ok hE hb1
  obtain ⟨kt, vt, n1, n2, hun, hk, hv'⟩ := hT.desc
  rw [hun] at hb2
  simp only at hb2
  rcases hm with hm | ⟨cm, hm, em⟩
  · cases hm
  rcases hi with hi | ⟨ci, hi, ei⟩
  · cases hi
  have ei : a.eval i = k.val ci := ei
  rcases hx with rfl | ⟨cx, hx, ex⟩
  · exact (takeX_dead htk).elim
  obtain ⟨Z1, fp1, F, K⟩ := takeX_sound htk H hx
  have hxv : a.eval x = v.val cx := by
    rw [ex]
    have : u.out cx = (MV.val v z).out cx := by
      rcases takeX_cases htk with (h1 | h1) | ⟨a0, b0, rfl, y0, hc, h1, rfl⟩
      · obtain ⟨g1, g2⟩ := take_agg_ h1; rw [out_val g1 g2]; rfl
      · rw [← (unMV_okC hx).2]; obtain ⟨g1, g2⟩ := take_agg_ h1; rw [out_val g1 g2]; rfl
      · obtain ⟨g1, g2⟩ := take_agg_ h1; rw [out_val (t := .ex .tree a0 b0) (g1.trans (un_cells (b := b0) hc).2.2) g2]; rfl
    rw [this]; rfl
  have e2 := lookH_some hs
  have e3 : us.look sl s = some ⟨hv, cv, some ⟨.mp k v, .ow q, (some l : Option (List (k.den × v.den)))⟩⟩ := (look_other hus).trans e2
  have hrep := K.hr.rep s _ _ _ e3
  obtain ⟨hl1, S, h1, _, h3⟩ := hm
  rw [e2] at h1; obtain rfl := Option.some.inj h1
  obtain rfl := h3 rfl _ rfl
  have hm : a.eval m = hdr s := em
  rcases hrep with ⟨h0, _⟩ | ⟨b, es, n, l', h0, h4, hfb, hheap, f, h5, h6⟩
  · cases h0
  obtain rfl := Option.some.inj h0
  have hhd : hdr s = .map (some b) := by simpa using h4
  have hZ1 : ∀ b, Z b → Z1 b := fun b hb => (K.tr.z b hb).1
  have hi1 := Rep.more hZ1 hi
  obtain ⟨r, g1, g2⟩ := findKey_ok hE hk hb2 (by decide) hi1 h6
  have hg := Go.MapKept.run_getObj_map (P := E.P) hheap
  have hck := checkKey_ok hE false 50 10000 hk hb2 (by decide) _ _ _ _ _ _ hi
  have hne : ∀ o, (∀ r', r' ≠ b → (w.heap.setIfInBounds b o)[r']? = w.heap[r']?) ∧ (w.heap.setIfInBounds b o)[b]? = some o := fun o => ⟨(Go.MapKept.heap_set hheap).2, (Go.MapKept.heap_set hheap).1⟩
  have hkq : Rep Z1 w v q z none_ cx := (K.rep.share (shared_im _)).unshare hq
  -- what is written
  have fin : ∀ (es' : Array MapEntry) (n' : Nat), Entries (fun x c => Rep Z1 w k .im x none_ c) (fun x f c => Rep Z1 w v q x f c) k.val v.val (mput k l y z) es'.toList f →
      (Instr.mapUpdate e (a.eval m) (a.eval i) (a.eval x)).run E.P w = .ok () { w with heap := w.heap.setIfInBounds b (.map es' n') } → OpOK E o a w Z sl hdr fp .dead (Ups.look ((s, ⟨hv, cv + 1, some ⟨.mp k v, .ow q, (some (mput k l y z) : Option (List (k.den × v.den)))⟩⟩) :: us) sl) := by
    intro es' n' hent hrun
    have hZk : ∀ b', Z1 b' → Z1 b' ∧ ({ w with heap := w.heap.setIfInBounds b (.map es' n') } : World).heap[b']? = w.heap[b']? := fun b' hb' => ⟨hb', (hne _).1 b' (fun e => K.hr.dz _ _ hfb (e ▸ hb'))⟩
    have hent' : Entries (fun x c => Rep Z1 { w with heap := w.heap.setIfInBounds b (.map es' n') } k .im x none_ c) (fun x f c => Rep Z1 { w with heap := w.heap.setIfInBounds b (.map es' n') } v q x f c) k.val v.val (mput k l y z) es'.toList f :=
      Entries.keep (fun x c h => Rep.keep hZk (fun b hb => hb.elim) h) (fun x f' c hf h => Rep.keep hZk (fun b' hb' => (hne _).1 b' (h5 b' (hf b' hb')).2) h) hent
    obtain ⟨fp', _, _, H', T'⟩ := step_write K.hr e3 (w' := { w with heap := w.heap.setIfInBounds b (.map es' n') }) hfb (hne _).1 (by simp) rfl rfl rfl hv (cv + 1) ⟨.mp k v, .ow q, (some (mput k l y z) : Option (List (k.den × v.den)))⟩ (hdr s) (fp1 s)
      (.inr ⟨b, es', n', mput k l y z, rfl, by rw [hhd], hfb, (hne _).2, f, h5, hent'⟩) (.inr ⟨k, v, rfl⟩) (fun k hk => .inl hk) (.inr ⟨rfl, Nat.lt_succ_self _, rfl⟩)
    rw [look_cons]
    refine .skip ?_ H' (K.tr.comp T')
    unfold execOp; rw [ho]
    simp only [Sem.run_bind, hrun, Result.andThen_ok, Sem.run_pure]
  rcases g2 with ⟨g2, rfl⟩ | ⟨i0, x0, e0, g2, rfl, g3, g4, g5, g6⟩
  · refine fin (es.push { key := k.val ci, val := v.val cx, born := n }) (n + 1) ?_ ?_
    · rw [mput_none g2, Array.toList_push]
      exact entries_push (Rk := fun x c => Rep Z1 w k .im x none_ c) (Rv := fun x f c => Rep Z1 w v q x f c) (kv := k.val) (vv := v.val) rfl rfl hi1 hkq h6
    · rw [hm, hhd, ei, hxv]
      simp only [Instr.mapUpdate, Sem.run_bind, run_underlying hun, Result.andThen_ok, hg, hck, g1, Go.MapKept.run_setObj_map _ hheap]
  · have hin : i0 < es.size := by
      have := (List.getElem?_eq_some_iff.1 g4).1
      simpa using this
    obtain ⟨ck, cv0, f', q1, q2, q3, q4, q5⟩ := (entries_get h6).2 i0 x0 e0 g3 g4
    obtain ⟨hyx, hcc⟩ := eqV_eq hE hk hb2 hi1 q3 g5
    have hsame : Instr.sameBits 10000 (((es[i0]?).map (·.key)).getD (k.val ci)) (k.val ci) = true := by
      have : es[i0]? = some e0 := by rw [← Array.getElem?_toList]; exact g4
      rw [this]
      simp only [Option.map_some, Option.getD_some]
      rw [q1, ← hcc]
      exact (sameBits_key hE 50 10000 hk hb2 hsz (by decide) _ _ _ _ _ _ hi).1
    refine fin (es.modify i0 fun e => { e with key := k.val ci, val := v.val cx }) n ?_ ?_
    · rw [g6 z]
      have : (es.modify i0 fun e => { e with key := k.val ci, val := v.val cx }).toList = es.toList.set i0 { e0 with key := k.val ci, val := v.val cx } := by
        apply List.ext_getElem?
        intro j
        rw [Array.getElem?_toList, Array.getElem?_modify, List.getElem?_set]
        by_cases hj : i0 = j
        · subst hj
          rw [if_pos rfl, if_pos rfl, if_pos (by simpa using hin), ← Array.getElem?_toList, g4]; rfl
        · rw [if_neg hj, if_neg hj, Array.getElem?_toList]
      rw [this]
      exact entries_set (Rk := fun x c => Rep Z1 w k .im x none_ c) (Rv := fun x f c => Rep Z1 w v q x f c) (kv := k.val) (vv := v.val) rfl rfl hi1 hkq i0 h6
    · rw [hm, hhd, ei, hxv]
      have hst : ∀ old, Instr.sameBits 10000 old (k.val ci) = true → (Instr.keyThatStays old (k.val ci)).run E.P w = .ok (k.val ci) w := fun old h => by simp [Instr.keyThatStays, h]
      simp only [Instr.mapUpdate, Sem.run_bind, run_underlying hun, Result.andThen_ok, hg, hck, g1, Nat.zero_add, hst _ hsame, Go.MapKept.run_setObj_map _ hheap]
end
end Go.Proofs.Ytibphkgcdnconaa.V
