/- Calls, continued. -/
import Derived.Test.YtibphkgcdnconaaVU
namespace Go.Proofs.Ytibphkgcdnconaa.V
open Go
set_option linter.unusedVariables false
set_option linter.all false
section
variable {E : Env} {o : Oper} {a : Act} {w : World} {Z : Bs} {sl : Nat → Option Slot} {hdr : Nat → Value} {fp : Nat → Bs} {mv : MV}
def fpM (mu : List Nat) (fp : Nat → Bs) : Nat → Bs := fun k b => k < mu.length ∧ fp (mu.getD k 0) b
theorem nodup_inj : ∀ {mu : List Nat}, nodupB mu = true → ∀ {i j : Nat}, i < mu.length → j < mu.length → mu.getD i 0 = mu.getD j 0 → i = j
  | [], _, _, _, h, _, _ => by simp at h
  | a :: l, hn, i, j, hi, hj, he => by
    simp only [nodupB, Bool.and_eq_true, Bool.not_eq_true'] at hn
    have no : ∀ k, k < l.length → l.getD k 0 ≠ a := fun k hk e => by
      have : l.elem a = true := List.elem_iff.2 (by
        rw [← e, List.getD_eq_getElem?_getD, List.getElem?_eq_getElem hk]; exact List.getElem_mem hk)
      rw [this] at hn; cases hn.1
    cases i with
    | zero =>
      cases j with
      | zero => rfl
      | succ j => exact absurd he.symm (by simpa using no j (by simpa using hj))
    | succ i =>
      cases j with
      | zero => exact absurd he (by simpa using no i (by simpa using hi))
      | succ j =>
        have e : i = j := nodup_inj (mu := l) hn.2 (by simpa using hi) (by simpa using hj) (by simpa using he)
        rw [e]
theorem ioOf_some : ∀ {mu : List Nat} {l : List SlotC}, ioOf sl mu = some l → l.length = mu.length ∧ ∀ k c, l[k]? = some c → ∃ hv cv, sl (mu.getD k 0) = some ⟨hv, cv, some c⟩
  | [], l, h => by obtain rfl := Option.some.inj h; exact ⟨rfl, fun k c h => by simp at h⟩
  | s :: ss, l, h => by
    simp only [ioOf] at h
    split at h
    · rename_i hv cv c hs
      split at h
      · rename_i l' e
        obtain rfl := Option.some.inj h
        obtain ⟨h1, h2⟩ := ioOf_some e
        refine ⟨by simp [h1], fun k c' hk => ?_⟩
        cases k with
        | zero =>
          simp only [List.getElem?_cons_zero, Option.some.injEq] at hk
          subst hk
          exact ⟨hv, cv, hs⟩
        | succ k => exact h2 k c' (by simpa using hk)
      · cases h
    · cases h
theorem ioUps_some : ∀ {mu : List Nat} {l : List (Option SlotC)} {us : Ups}, nodupB mu = true → ioUps sl mu l = some us → l.length = mu.length ∧ (∀ s, s ∉ mu → us.look sl s = sl s) ∧ (∀ k, k < mu.length → ∃ S, sl (mu.getD k 0) = some S ∧ us.look sl (mu.getD k 0) = some (ioNew S ((l[k]?).bind id)))
  | [], [], us, _, h => by obtain rfl := Option.some.inj h; exact ⟨rfl, fun s _ => rfl, fun k h => by simp at h⟩
  | s :: ss, c :: l, us, hn, h => by
    simp only [ioUps] at h
    simp only [nodupB, Bool.and_eq_true, Bool.not_eq_true'] at hn
    split at h
    · rename_i S hS
      split at h
      · rename_i u e
        obtain rfl := Option.some.inj h
        obtain ⟨h1, h2, h3⟩ := ioUps_some hn.2 e
        have hs : s ∉ ss := fun hm => by rw [List.elem_iff.2 hm] at hn; cases hn.1
        refine ⟨by simp [h1], fun r hr => ?_, fun k hk => ?_⟩
        · simp only [List.mem_cons, not_or] at hr
          rw [look_cons]; simp only [put, if_neg hr.1]; exact h2 r hr.2
        · cases k with
          | zero => exact ⟨S, hS, by rw [look_cons]; simp [put]⟩
          | succ k =>
            obtain ⟨S', g1, g2⟩ := h3 k (by simpa using hk)
            refine ⟨S', by simpa using g1, ?_⟩
            rw [look_cons]
            have : ss.getD k 0 ≠ s := fun e => hs (by
              have hk' : k < ss.length := by simpa using hk
              rw [← e, List.getD_eq_getElem?_getD, List.getElem?_eq_getElem hk']; exact List.getElem_mem hk')
            simp only [put, List.getD_cons_succ, if_neg this, List.getElem?_cons_succ]
            exact g2
      · cases h
    · cases h
  | [], _ :: _, us, _, h => by cases h
  | _ :: _, [], us, _, h => by cases h
theorem step_call (H : HR Z w sl hdr fp) {w' : World} {Zn F : Bs} {r0 : Nat} {mu : List Nat} {ios : List (Option SlotC)} {us : Ups} {fpc : Nat → Bs} (hr0 : sl r0 = none) (hnd : nodupB mu = true) (hio : ioUps sl mu ios = some us) (hiw : ∀ k S, k < mu.length → sl (mu.getD k 0) = some S → ∃ c, S.c = some c) (hz : ∀ b, Z b → Zn b)
    (hzn : ∀ b, Zn b → b < w'.heap.size ∧ (Z b ∨ (∃ k, fpM mu fp k b) ∨ ¬ b < w.heap.size)) (hold : ∀ b, b < w.heap.size → (∀ k, ¬ fpM mu fp k b) → w'.heap[b]? = w.heap[b]?) (hsz : w.heap.size ≤ w'.heap.size)
    (hos : w'.os = w.os) (htp : w'.tape = w.tape) (hout : w'.output = w.output) (hF : ∀ b, F b → ((∃ k, fpM mu fp k b) ∨ ¬ b < w.heap.size) ∧ b < w'.heap.size ∧ ¬ Zn b ∧ ∀ k, ¬ fpc k b)
    (hiof : ∀ k b, fpc k b → k < mu.length ∧ ((∃ j, fpM mu fp j b) ∨ ¬ b < w.heap.size)) (HC : HR Zn w' (ioSlO ios) (hdM mu hdr) fpc) :
    HR Zn w' (us.look sl) hdr (fun r b => (r ∉ mu ∧ fp r b) ∨ (∃ k, k < mu.length ∧ mu.getD k 0 = r ∧ fpc k b) ∨ r = r0 ∧ F b) ∧ Trans Z w sl hdr fp Zn w' (us.look sl) hdr (fun r b => (r ∉ mu ∧ fp r b) ∨ (∃ k, k < mu.length ∧ mu.getD k 0 = r ∧ fpc k b) ∨ r = r0 ∧ F b) ∧ us.look sl r0 = none := by
  obtain ⟨hlen, hout_, hin⟩ := ioUps_some hnd hio
  have mem : ∀ {k}, k < mu.length → mu.getD k 0 ∈ mu := fun hk => by rw [List.getD_eq_getElem?_getD, List.getElem?_eq_getElem hk]; exact List.getElem_mem hk
  have idx : ∀ {r}, r ∈ mu → ∃ k, k < mu.length ∧ mu.getD k 0 = r := fun hr => by
    obtain ⟨k, hk, e⟩ := List.mem_iff_getElem.1 hr
    exact ⟨k, hk, by rw [List.getD_eq_getElem?_getD, List.getElem?_eq_getElem hk]; exact e⟩
  have off : ∀ {r b}, r ∉ mu → fp r b → ∀ k, ¬ fpM mu fp k b := fun hr hb k hk => hr (by rw [H.disj _ _ _ hb hk.2]; exact mem hk.1)
  have zoff : ∀ {b}, Z b → ∀ k, ¬ fpM mu fp k b := fun hb k hk => H.dz _ _ hk.2 hb
  have r0mu : r0 ∉ mu := fun hm => by
    obtain ⟨k, hk, e⟩ := idx hm
    obtain ⟨S, h1, _⟩ := hin k hk
    rw [e, hr0] at h1; cases h1
  refine ⟨⟨fun r hv cv c h => ?_, fun r hv cv c h => ?_, fun r r' b h h' => ?_, fun r b h => ?_, fun b h => (hzn b h).1, fun r b h hz' => ?_⟩,
    ⟨fun b h => ⟨hz b h, hold b (H.zlt b h) (zoff h)⟩, fun r S h => ?_, fun b hb h1 h2 => ⟨hold b hb (fun k hk => h1 _ hk.2), fun r h => ?_, fun h => ?_⟩, hsz, hos, htp, hout⟩, (hout_ r0 r0mu).trans hr0⟩
  · by_cases hm : r ∈ mu
    · obtain ⟨k, hk, rfl⟩ := idx hm
      obtain ⟨S, _, h1⟩ := hin k hk
      rw [h1] at h
      cases hc : (ios[k]?).bind id with
      | none => rw [hc] at h; simp [ioNew] at h
      | some c0 =>
      rw [hc] at h
      simp only [ioNew, Option.some.injEq, Slot.mk.injEq] at h
      obtain ⟨_, _, rfl⟩ := h
      have := HC.rep k 0 0 c0 (by simp [ioSlO, hc])
      exact this.mono (fun b hb => .inr (.inl ⟨k, hk, rfl, hb⟩))
    · rw [hout_ r hm] at h
      exact ((H.rep r hv cv c h).keep (fun b hb => ⟨hz b hb, hold b (H.zlt b hb) (zoff hb)⟩) (fun b hb => hold b (H.lt r b hb) (off hm hb))).mono (fun b hb => .inl ⟨hm, hb⟩)
  · by_cases hm : r ∈ mu
    · obtain ⟨k, hk, rfl⟩ := idx hm
      obtain ⟨S, _, h1⟩ := hin k hk
      rw [h1] at h
      cases hc : (ios[k]?).bind id with
      | none => rw [hc] at h; simp [ioNew] at h
      | some c0 =>
      rw [hc] at h
      simp only [ioNew, Option.some.injEq, Slot.mk.injEq] at h
      obtain ⟨_, _, rfl⟩ := h
      exact HC.shape k 0 0 c0 (by simp [ioSlO, hc])
    · rw [hout_ r hm] at h; exact H.shape r hv cv c h
  · have old_new : ∀ {r b}, r ∉ mu → fp r b → ((∃ k, fpM mu fp k b) ∨ ¬ b < w.heap.size) → False := fun hm hb h => h.elim (fun ⟨k, hk⟩ => off hm hb k hk) (fun h => h (H.lt _ _ hb))
    rcases h with ⟨hm, h⟩ | ⟨k, hk, e, h⟩ | ⟨e, h⟩ <;> rcases h' with ⟨hm', h'⟩ | ⟨k', hk', e', h'⟩ | ⟨e', h'⟩
    · exact H.disj _ _ _ h h'
    · exact (old_new hm h (hiof _ _ h').2).elim
    · exact (old_new hm h (hF _ h').1).elim
    · exact (old_new hm' h' (hiof _ _ h).2).elim
    · obtain rfl := HC.disj _ _ _ h h'; exact e.symm.trans e'
    · exact ((hF _ h').2.2.2 _ h).elim
    · exact (old_new hm' h' (hF _ h).1).elim
    · exact ((hF _ h).2.2.2 _ h').elim
    · exact e.trans e'.symm
  · rcases h with ⟨_, h⟩ | ⟨k, _, _, h⟩ | ⟨_, h⟩
    · exact Nat.lt_of_lt_of_le (H.lt _ _ h) hsz
    · exact HC.lt _ _ h
    · exact (hF b h).2.1
  · rcases h with ⟨hm, h⟩ | ⟨k, _, _, h⟩ | ⟨_, h⟩
    · rcases (hzn b hz').2 with h2 | ⟨k, h2⟩ | h2
      · exact H.dz _ _ h h2
      · exact off hm h k h2
      · exact h2 (H.lt _ _ h)
    · exact HC.dz _ _ h hz'
    · exact (hF b h).2.2.1 hz'
  · by_cases hm : r ∈ mu
    · obtain ⟨k, hk, rfl⟩ := idx hm
      obtain ⟨S', h0, h1⟩ := hin k hk
      rw [h0] at h; obtain rfl := Option.some.inj h
      refine ⟨_, h1, ?_⟩
      cases hc : (ios[k]?).bind id with
      | none => exact .inl (Nat.lt_succ_self _)
      | some c0 => exact .inr (.inl ⟨rfl, Nat.lt_succ_self _, fun c' hc' => ⟨hiw k _ hk h0, rfl⟩⟩)
    · refine ⟨S, by rw [hout_ r hm]; exact h, .inr (.inr ⟨rfl, rfl, fun c hc => ⟨c, hc, rfl, fun b hb => hold b (H.lt r b hb) (off hm hb), .inl ⟨rfl, fun b hb => .inl ⟨hm, hb⟩⟩⟩⟩)⟩
  · rcases h with ⟨hm, h⟩ | ⟨k, _, _, h⟩ | ⟨_, h⟩
    · exact h1 r h
    · exact (hiof _ _ h).2.elim (fun ⟨j, hj⟩ => h1 _ hj.2) (fun h => h hb)
    · exact (hF b h).1.elim (fun ⟨j, hj⟩ => h1 _ hj.2) (fun h => h hb)
  · rcases (hzn b h).2 with h | ⟨k, h⟩ | h
    · exact h2 h
    · exact h1 _ h.2
    · exact h hb
/-- The parts of a value that a call hands back, in slots. -/
theorem resMV_ok {r0 : Nat} : ∀ {t : Ty} {m : Mk} {x : t.den} {ss : List Nat} {sl : Nat → Option Slot} {hdr : Nat → Value} {fp : Nat → Bs} {F : Bs} {cs : List Value} {us : Ups} {ss' : List Nat} {mv : MV}, resMV sl t m x ss = some (mv, us, ss') → HR Z w sl hdr fp → sl r0 = none → Rep Z w t m x F cs → (∀ b, F b → fp r0 b) →
    ∃ hdr' fp', HR Z w (us.look sl) hdr' fp' ∧ Trans Z w sl hdr fp Z w (us.look sl) hdr' fp' ∧ us.look sl r0 = none ∧ RelC Z w (us.look sl) hdr' fp' mv cs ∧ (∀ b, fp r0 b → ¬ F b → fp' r0 b) ∧ mv.agg = t.agg ∧ mv.isL = false := by
  intro t
  have leaf : ∀ {t : Ty} {m : Mk} {x : t.den} {ss : List Nat} {sl : Nat → Option Slot} {hdr : Nat → Value} {fp : Nat → Bs} {F : Bs} {cs : List Value} {us : Ups} {ss' : List Nat} {mv : MV}, (bif t.shared m || t.flat then some (MV.val t x, ([] : Ups), ss) else none) = some (mv, us, ss') → HR Z w sl hdr fp → sl r0 = none → Rep Z w t m x F cs →
      ∃ hdr' fp', HR Z w (us.look sl) hdr' fp' ∧ Trans Z w sl hdr fp Z w (us.look sl) hdr' fp' ∧ us.look sl r0 = none ∧ RelC Z w (us.look sl) hdr' fp' mv cs ∧ (∀ b, fp r0 b → ¬ F b → fp' r0 b) ∧ mv.agg = t.agg ∧ mv.isL = false := by
    intro t m x ss sl hdr fp F cs us ss' mv h H h0 hr
    obtain ⟨hb, h⟩ := cond_some h
    simp only [Option.some.injEq, Prod.mk.injEq] at h
    obtain ⟨rfl, rfl, rfl⟩ := h
    simp only [Bool.or_eq_true] at hb
    exact ⟨hdr, fp, H, Trans.refl _ _ _ _ _, h0, hb.elim (fun h => hr.share h) (fun h => hr.flat h), fun b h _ => h, rfl, rfl⟩
  have own : ∀ {t : Ty} {m : Mk} {x : t.den} {n : Nat} {ss : List Nat} {sl : Nat → Option Slot} {hdr : Nat → Value} {fp : Nat → Bs} {F : Bs} {cs : List Value} {us : Ups} {ss' : List Nat} {mv : MV}, t.size = 1 → t.agg = false → ((∃ t', t = .sl t') ∨ ∃ k v, t = .mp k v) →
      (match sl n with
        | some S => some (MV.root n (S.hv + 1), [(n, (⟨S.hv + 1, 0, some ⟨t, m, x⟩⟩ : Slot))], ss)
        | none => none) = some (mv, us, ss') → HR Z w sl hdr fp → sl r0 = none → Rep Z w t m x F cs → (∀ b, F b → fp r0 b) →
      ∃ hdr' fp', HR Z w (us.look sl) hdr' fp' ∧ Trans Z w sl hdr fp Z w (us.look sl) hdr' fp' ∧ us.look sl r0 = none ∧ RelC Z w (us.look sl) hdr' fp' mv cs ∧ (∀ b, fp r0 b → ¬ F b → fp' r0 b) ∧ mv.agg = t.agg ∧ mv.isL = false := by
    intro t m x n ss sl hdr fp F cs us ss' mv ht1 hta hsh h H h0 hr hF
    split at h
    · rename_i S hS
      simp only [Option.some.injEq, Prod.mk.injEq] at h
      obtain ⟨rfl, rfl, rfl⟩ := h
      obtain ⟨hd, rfl⟩ := List.length_eq_one_iff.1 (hr.len.trans ht1)
      have hne : r0 ≠ n := fun e => by rw [e, hS] at h0; cases h0
      obtain ⟨fp', q1, q2, q3, q4⟩ := step_set H hS ⟨t, m, x⟩ hd F hr hsh (fun b hb => ⟨r0, hF b hb, .inr (fun hv cv c h => by rw [h0] at h; cases h)⟩) 0
      rw [look_cons, look_nil]
      refine ⟨_, fp', q3, q4, by simp [put, hne, h0], ⟨one_cells (hr.one hd (by simp)), ⟨S.hv + 1, 0, some ⟨t, m, x⟩⟩, by simp [put], Nat.le_refl _, fun _ c' hc' => by simp⟩, fun b h1 h2 => (q2 r0 b hne).2 ⟨h1, h2⟩, hta.symm, rfl⟩
    · cases h
  induction t with
  | bool => intro m x ss sl hdr fp F cs us ss' mv h H h0 hr hF; exact leaf (t := .bool) (m := m) (by cases m <;> exact h) H h0 hr
  | int k => intro m x ss sl hdr fp F cs us ss' mv h H h0 hr hF; exact leaf (t := .int k) (m := m) (by cases m <;> exact h) H h0 hr
  | str => intro m x ss sl hdr fp F cs us ss' mv h H h0 hr hF; exact leaf (t := .str) (m := m) (by cases m <;> exact h) H h0 hr
  | unit => intro m x ss sl hdr fp F cs us ss' mv h H h0 hr hF; exact leaf (t := .unit) (m := m) (by cases m <;> exact h) H h0 hr
  | arr n t _ => intro m x ss sl hdr fp F cs us ss' mv h H h0 hr hF; exact leaf (t := .arr n t) (m := m) (by cases m <;> exact h) H h0 hr
  | ex k a b _ _ => intro m x ss sl hdr fp F cs us ss' mv h H h0 hr hF; exact leaf (t := .ex k a b) (m := m) (by cases m <;> exact h) H h0 hr
  | sl t _ =>
    intro m x ss sl hdr fp F cs us ss' mv h H h0 hr hF
    cases m with
    | im => exact leaf (t := .sl t) (m := .im) (ss := ss) (by cases ss <;> exact h) H h0 hr
    | pr a b => exact leaf (t := .sl t) (m := .pr a b) (ss := ss) (by cases ss <;> exact h) H h0 hr
    | ow m =>
      cases ss with
      | nil => exact leaf (t := .sl t) (m := .ow m) h H h0 hr
      | cons n ss => exact own (t := .sl t) (m := .ow m) rfl rfl (.inl ⟨t, rfl⟩) h H h0 hr hF
  | mp k v _ _ =>
    intro m x ss sl hdr fp F cs us ss' mv h H h0 hr hF
    cases m with
    | im => exact leaf (t := .mp k v) (m := .im) (ss := ss) (by cases ss <;> exact h) H h0 hr
    | pr a b => exact leaf (t := .mp k v) (m := .pr a b) (ss := ss) (by cases ss <;> exact h) H h0 hr
    | ow m =>
      cases ss with
      | nil => exact leaf (t := .mp k v) (m := .ow m) h H h0 hr
      | cons n ss => exact own (t := .mp k v) (m := .ow m) rfl rfl (.inr ⟨k, v, rfl⟩) h H h0 hr hF
  | pair ta tb ih1 ih2 =>
    intro m x ss sl hdr fp F cs us ss' mv h H h0 hr hF
    simp only [resMV] at h
    cases hb : ((Ty.pair ta tb).shared m || (Ty.pair ta tb).flat) with
    | true =>
      rw [hb] at h
      exact leaf (t := .pair ta tb) (m := m) (ss := ss) (by rw [hb]; exact h) H h0 hr
    | false =>
      rw [hb] at h
      simp only [cond_false] at h
      split at h
      · rename_i u us1 ss1 e1
        split at h
        · rename_i v vs ss2 e2
          simp only [Option.some.injEq, Prod.mk.injEq] at h
          obtain ⟨rfl, rfl, rfl⟩ := h
          obtain ⟨c1, c2, f1, f2, rfl, r1, r2, s1, s2, hd⟩ := hr
          obtain ⟨hdr1, fp1, H1, T1, z1, R1, k1, a1, l1⟩ := ih1 e1 H h0 r1 (fun b hb => hF b (s1 b hb))
          obtain ⟨hdr2, fp2, H2, T2, z2, R2, k2, a2, l2⟩ := ih2 e2 H1 z1 r2 (fun b hb => k1 b (hF b (s2 b hb)) (fun h => hd b h hb))
          refine ⟨hdr2, fp2, by rw [look_app]; exact H2, by rw [look_app]; exact T1.comp T2, by rw [look_app]; exact z2, by rw [look_app]; exact relC_mkpr (R1.trans H1 H2 T2) R2, fun b h1 h2 => k2 b (k1 b h1 (fun h => h2 (s1 b h))) (fun h => h2 (s2 b h)), ?_, ?_⟩
          · unfold MV.mkpr; split <;> rfl
          · unfold MV.mkpr; split <;> rfl
        · cases h
      · cases h
theorem resTup_ok {r0 : Nat} : ∀ {t : Ty} {m : Mk} {x : t.den} {ss : List Nat} {sl : Nat → Option Slot} {hdr : Nat → Value} {fp : Nat → Bs} {F : Bs} {vs : List Value} {us : Ups} {mv : MV}, resTup sl t m x ss = some (mv, us) → HR Z w sl hdr fp → sl r0 = none → RepR Z w t m x F vs → (∀ b, F b → fp r0 b) →
    ∃ hdr' fp', HR Z w (us.look sl) hdr' fp' ∧ Trans Z w sl hdr fp Z w (us.look sl) hdr' fp' ∧ RelC Z w (us.look sl) hdr' fp' mv vs ∧ us.look sl r0 = none := by
  intro t
  induction t with
  | pair ta tb _ ih2 =>
    intro m x ss sl hdr fp F vs us mv h H h0 hr hF
    simp only [resTup] at h
    split at h
    · rename_i u us1 ss1 e1
      split at h
      · rename_i v vs2 e2
        simp only [Option.some.injEq, Prod.mk.injEq] at h
        obtain ⟨rfl, rfl⟩ := h
        obtain ⟨v0, vs', cs, f1, f2, rfl, r1, rfl, r2, s1, s2, hd⟩ := hr
        obtain ⟨hdr1, fp1, H1, T1, z1, R1, k1, a1, l1⟩ := resMV_ok e1 H h0 r1 (fun b hb => hF b (s1 b hb))
        obtain ⟨hdr2, fp2, H2, T2, R2, z2⟩ := ih2 e2 H1 z1 r2 (fun b hb => k1 b (hF b (s2 b hb)) (fun h => hd b h hb))
        refine ⟨hdr2, fp2, by rw [look_app]; exact H2, by rw [look_app]; exact T1.comp T2, ?_, by rw [look_app]; exact z2⟩
        rw [look_app]
        exact ⟨cs, _, vs', rfl, .inr ⟨R1.trans H1 H2 T2, (out_val a1 l1).symm⟩, R2⟩
      · cases h
    · cases h
  | unit =>
    intro m x ss sl hdr fp F vs us mv h H h0 hr hF
    simp only [resTup, Option.some.injEq, Prod.mk.injEq] at h
    obtain ⟨rfl, rfl⟩ := h
    exact ⟨hdr, fp, H, Trans.refl _ _ _ _ _, hr, h0⟩
  | _ => intro m x ss sl hdr fp F vs us mv h; cases h
theorem RepR.free {Z Z' : Bs} : ∀ {t : Ty} {m : Mk} {x : t.den} {F : Bs} {vs : List Value}, t.free m = true → RepR Z w t m x F vs → RepR Z' w t m x F vs := by
  intro t
  induction t with
  | pair ta tb _ ih =>
    rintro m x F vs hf ⟨v, vs', cs, f1, f2, e, r, e2, r2, s⟩
    simp only [Ty.free, Bool.and_eq_true] at hf
    exact ⟨v, vs', cs, f1, f2, e, r.free hf.1, e2, ih hf.2 r2, s⟩
  | unit => intro m x F vs _ h; exact h
  | _ => intro m x F vs _ h; exact h.elim
def MV.chain : MV → Bool
  | .tn => true
  | .tc _ b => b.chain
  | _ => false
theorem resTup_chain : ∀ {t : Ty} {m : Mk} {x : t.den} {ss : List Nat} {sl : Nat → Option Slot} {us : Ups} {mv : MV}, resTup sl t m x ss = some (mv, us) → mv.chain = true := by
  intro t
  induction t with
  | pair ta tb _ ih2 =>
    intro m x ss sl us mv h
    simp only [resTup] at h
    split at h
    · split at h
      · rename_i e2
        simp only [Option.some.injEq, Prod.mk.injEq] at h
        obtain ⟨rfl, rfl⟩ := h
        have := ih2 e2
        exact this
      · cases h
    · cases h
  | unit => intro m x ss sl us mv h; simp only [resTup, Option.some.injEq, Prod.mk.injEq] at h; obtain ⟨rfl, rfl⟩ := h; rfl
  | _ => intro m x ss sl us mv h; cases h
theorem run_call_ {c : Call} {x : Operand} {f : FuncId} {ks : List Value} {fn : Func} (ho : o.op = .call c) (hc : c.callee = .value x) (hx : a.eval x = .func (.func f) #[] ks.toArray) (h1 : E.P.funcs[f]? = some fn) (h2 : fn.body.isSome = true) (h3 : (fn.name == "runtime.NumGoroutine") = false) :
    (execOp a.eval o).run E.P w = .ok (.enter f (c.args.map a.eval ++ ks.toArray)) w := by
  have h2' : fn.body.isNone = false := by cases hb : fn.body <;> simp_all
  have h3' : ¬ fn.name = "runtime.NumGoroutine" := by simpa using h3
  unfold execOp; rw [ho]
  simp only [resolve, hc, hx, Deferred.ofValue, pure_bind, invoke, callFunc, Sem.run_bind, run_program, Result.andThen_ok, h1, h2', h3, Bool.false_eq_true, if_false, Sem.run_pure]
  simp
theorem call_ok (hE : EnvOK E) (H : HR Z w sl hdr fp) {c : Call} {x : Operand} {f : FuncId} {h : OH} {args : List MV} {caps : MV} {us : Ups} (ho : o.op = .call c) (hc : c.callee = .value x) (hx : RelV Z w sl hdr fp (.fn f caps) (a.eval x)) (hr0 : ∃ r0, sl r0 = none)
    (hargs : args.length = c.args.toList.length) (harg : ∀ (i : Nat) (u : MV) (y : Operand), args[i]? = some u → c.args.toList[i]? = some y → RelV Z w sl hdr fp u (a.eval y))
    (hh : callK E sl h f (tups args) caps (fun m u => some (m, u)) = some (mv, us)) : OpOK E o a w Z sl hdr fp mv (us.look sl) := by
  obtain ⟨r0, hr0⟩ := hr0
  rcases hx with h0 | ⟨cx, ⟨ks, rfl, hcaps⟩, he⟩
  · cases h0
  have hev : a.eval x = .func (.func f) #[] ks.toArray := by rw [he]; rfl
  unfold callK at hh
  cases hcl : caps.isL with
  | false => rw [hcl] at hh; cases hh
  | true =>
  cases hnd : nodupB h.mu with
  | false => rw [hcl, hnd] at hh; cases hh
  | true =>
  rw [hcl, hnd] at hh
  simp only [Bool.not_true, Bool.or_self, cond_false] at hh
  split at hh
  · rename_i ar ss1 e1
    split at hh
    · rename_i br ss2 e2
      cases hany : (ss1 ++ ss2).any (fun s => h.mu.elem s) with
      | true => rw [hany] at hh; cases hh
      | false =>
      rw [hany] at hh
      simp only [cond_false] at hh
      split at hh
      · rename_i ios eio
        split at hh
        · rename_i cr e3
          obtain ⟨r, hrun, hh⟩ := bind_some_ hh
          have hrel := relC_tups (Z := Z) (w := w) (sl := sl) (hdr := hdr) (fp := fp) args (c.args.toList.map a.eval) (by simpa using hargs) (fun i u v h1 h2 => by
            rw [List.getElem?_map] at h2
            cases hk : c.args.toList[i]? with
            | none => rw [hk] at h2; cases h2
            | some y => rw [hk] at h2; obtain rfl := Option.some.inj h2; exact harg i u y h1 hk)
          have hA1 := (argOf_ok H e1 hrel).more (Z' := Lent Z fp (ss1 ++ ss2)) Lent.app1
          have hA2 := (argOf_ok H e2 hcaps).more (Z' := Lent Z fp (ss1 ++ ss2)) Lent.app2
          rw [tups_isL] at hA1
          rw [hcl] at hA2
          obtain ⟨hio1, hio2⟩ := ioOf_some eio
          have hAll := RepA.app (argOf_chain e1 (tups_isL _)) hA1 hA2
          rw [← hio1] at hAll
          obtain ⟨⟨fn, hf1, hf2, hf3⟩, hcall⟩ := hE f _ _ cr e3
          have hsome : ∀ s ∈ ss1 ++ ss2, ∃ S, sl s = some S := fun s hs => (List.mem_append.1 hs).elim (argOf_some e1 s) (argOf_some e2 s)
          have hlt : ∀ b, Lent Z fp (ss1 ++ ss2) b → b < w.heap.size := fun b hb => hb.elim (H.zlt b) (fun ⟨s, _, h⟩ => H.lt s b h)
          have hmem : ∀ k, k < h.mu.length → h.mu.getD k 0 ∈ h.mu := fun k hk => by rw [List.getD_eq_getElem?_getD, List.getElem?_eq_getElem hk]; exact List.getElem_mem hk
          have hapart : ∀ k b, fpM h.mu fp k b → ¬ Lent Z fp (ss1 ++ ss2) b := fun k b hk hl => by
            rcases hl with hl | ⟨s, hs, hl⟩
            · exact H.dz _ _ hk.2 hl
            · obtain rfl := H.disj _ _ _ hl hk.2
              have := List.any_eq_false.1 hany _ hs
              exact this (List.elem_iff.2 (hmem k hk.1))
          have HRc : HR (Lent Z fp (ss1 ++ ss2)) w (ioSl ios) (hdM h.mu hdr) (fpM h.mu fp) := by
            refine ⟨fun k hv cv c h => ?_, fun k hv cv c h => ?_, fun k k' b h h' => ?_, fun k b h => H.lt _ _ h.2, hlt, fun k b h => hapart k b h⟩
            · simp only [ioSl, Option.map_eq_some_iff] at h
              obtain ⟨c', h1, h2⟩ := h
              simp only [Slot.mk.injEq, Option.some.injEq] at h2
              obtain ⟨_, _, rfl⟩ := h2
              obtain ⟨hv', cv', h3⟩ := hio2 k _ h1
              have hk := (List.getElem?_eq_some_iff.1 h1).1
              rw [hio1] at hk
              exact ((H.rep _ _ _ _ h3).more (fun b hb => .inl hb)).mono (fun b hb => ⟨hk, hb⟩)
            · simp only [ioSl, Option.map_eq_some_iff] at h
              obtain ⟨c', h1, h2⟩ := h
              simp only [Slot.mk.injEq, Option.some.injEq] at h2
              obtain ⟨_, _, rfl⟩ := h2
              obtain ⟨hv', cv', h3⟩ := hio2 k _ h1
              exact H.shape _ _ _ _ h3
            · exact nodup_inj hnd h.1 h'.1 (H.disj _ _ _ h.2 h'.2)
          have hcalls := hcall r hrun (Lent Z fp (ss1 ++ ss2)) w (hdM h.mu hdr) (fpM h.mu fp) _ HRc (fun k b h => by rw [hio1]; exact h.1) hAll
          have hvals : c.args.map a.eval ++ ks.toArray = (c.args.toList.map a.eval ++ ks).toArray := by
            apply Array.ext'; simp
          intro next Q hnext
          unfold Oper.wp
          rw [run_call_ ho hc hev hf1 hf2 hf3, Oper.upon_enter, hvals]
          refine hcalls.mono fun e w' hpost => ?_
          obtain ⟨Z', fpc, F, vs, P⟩ := hpost
          rw [P.ret]
          show next (a.put o.dst (retVal vs)) w'
          -- the state in which the results are taken over
          have main : ∀ (Zn : Bs) (us0 : Ups) (fp0 : Nat → Bs), HR Zn w (us0.look sl) hdr fp0 → Trans Z w sl hdr fp Zn w (us0.look sl) hdr fp0 → us0.look sl r0 = none → (∀ s S, sl s = some S → us0.look sl s = some S ∨ us0.look sl s = some (frozen_ S)) → (∀ s b, fp0 s b → fp s b) → (∀ s b, fp s b → fp0 s b ∨ Lent Z fp (ss1 ++ ss2) b) →
              ∀ Zm, (∀ b, Zn b → Zm b) → (∀ b, Zm b → b < w'.heap.size ∧ (Zn b ∨ (∃ k, fpM h.mu fp k b) ∨ ¬ b < w.heap.size)) → (∀ b, F b → ¬ Zm b) → HR Zm w' (ioSlO (cr.io r)) (hdM h.mu hdr) fpc → RepR Zm w' cr.t cr.m (cr.out r) F vs →
              (match ioUps (us0.look sl) h.mu (cr.io r) with
                | some ws => match resTup (ws.look (us0.look sl)) cr.t cr.m (cr.out r) h.sl with
                  | some (.tc v .tn, us) => some (v, us ++ (ws ++ us0))
                  | some (mv, us) => some (mv, us ++ (ws ++ us0))
                  | none => none
                | none => none) = some (mv, us) → next (a.put o.dst (retVal vs)) w' := by
            intro Zn us0 fp0 H0 T0 h0 hfz hs1 hs2 Zm hz hzm hFz hioc hrep hh
            have hfp : ∀ k b, fpM h.mu fp k b ↔ fpM h.mu fp0 k b := fun k b => ⟨fun hk => ⟨hk.1, (hs2 _ b hk.2).elim id (fun hl => (hapart k b hk hl).elim)⟩, fun hk => ⟨hk.1, hs1 _ b hk.2⟩⟩
            have hfpe : ∀ b, (∃ k, fpM h.mu fp k b) ↔ ∃ k, fpM h.mu fp0 k b := fun b => exists_congr (fun k => hfp k b)
            split at hh
            · rename_i ws ews
              obtain ⟨H1, T1, h1⟩ := step_call H0 (r0 := r0) (F := F) (Zn := Zm) h0 hnd ews (fun k S hk hS => by
                  obtain ⟨c0, hc0⟩ : ∃ c0, ios[k]? = some c0 := ⟨_, List.getElem?_eq_getElem (by rw [hio1]; exact hk)⟩
                  obtain ⟨hv', cv', h3⟩ := hio2 k c0 hc0
                  rcases hfz _ _ h3 with h4 | h4
                  · rw [h4] at hS; obtain rfl := Option.some.inj hS; exact ⟨_, rfl⟩
                  · rw [h4] at hS; obtain rfl := Option.some.inj hS; exact ⟨_, rfl⟩) hz (fun b hb => ⟨(hzm b hb).1, by rw [← hfpe]; exact (hzm b hb).2⟩)
                (fun b hb hk => P.old b hb (fun k h => hk k ((hfp k b).1 h))) P.size P.os P.tape P.output (fun b hb => ⟨by rw [← hfpe]; exact (P.f b hb).1, (P.f b hb).2.1, hFz b hb, (P.f b hb).2.2.2⟩)
                (fun k b hk => ⟨by rw [← hio1]; exact (P.iof k b hk).1, by rw [← hfpe]; exact (P.iof k b hk).2⟩) hioc
              have fin : ∀ {mv0 : MV} {us1 : Ups}, resTup (ws.look (us0.look sl)) cr.t cr.m (cr.out r) h.sl = some (mv0, us1) → us = us1 ++ (ws ++ us0) → (∀ {hdr2 fp2}, HR Zm w' (us1.look (ws.look (us0.look sl))) hdr2 fp2 → RelC Zm w' (us1.look (ws.look (us0.look sl))) hdr2 fp2 mv0 vs → RelV Zm w' (us1.look (ws.look (us0.look sl))) hdr2 fp2 mv (retVal vs)) → next (a.put o.dst (retVal vs)) w' := by
                intro mv0 us1 hres hus hrv
                obtain ⟨hdr2, fp2, H2, T2, R2, _⟩ := resTup_ok hres H1 h1 hrep (fun b hb => .inr (.inr ⟨rfl, hb⟩))
                subst hus
                exact hnext _ w' Zm hdr2 fp2 (by rw [look_app, look_app]; exact H2) (by rw [look_app, look_app]; exact (T0.comp T1).comp T2) (by rw [look_app, look_app]; exact hrv H2 R2)
              split at hh
              · rename_i v us1 hres
                simp only [Option.some.injEq, Prod.mk.injEq] at hh
                obtain ⟨rfl, rfl⟩ := hh
                refine fin hres rfl (fun H2 R2 => ?_)
                obtain ⟨c1, v1, vs1, rfl, h1, h2⟩ := R2
                rw [show vs1 = [] from h2]
                exact h1.imp id (fun h => ⟨c1, h.1, h.2⟩)
              · rename_i mv1 us1 hne hres
                simp only [Option.some.injEq, Prod.mk.injEq] at hh
                obtain ⟨rfl, rfl⟩ := hh
                refine fin hres rfl (fun H2 R2 => .inr ⟨vs, R2, ?_⟩)
                have hch := resTup_chain hres
                cases mv1 with
                | tn => rw [show vs = [] from R2]; rfl
                | tc x y =>
                  obtain ⟨c1, v1, vs1, rfl, h1, h2⟩ := R2
                  cases vs1 with
                  | cons _ _ => rfl
                  | nil =>
                    cases y with
                    | tn => exact absurd rfl (hne x)
                    | tc _ _ => obtain ⟨_, _, _, h, _⟩ := h2; cases h
                    | _ => cases hch
                | _ => cases hch
              · cases hh
            · cases hh
          cases hfree : (cr.t.free cr.m && ioFree (cr.io r)) with
          | true =>
            rw [hfree] at hh
            simp only [cond_true] at hh
            simp only [Bool.and_eq_true] at hfree
            have hzz : ∀ b, Z b → Z' b := fun b hb => P.z b (.inl hb)
            refine main Z [] fp H (Trans.refl _ _ _ _ _) hr0 (fun s S h => .inl h) (fun s b h => h) (fun s b h => .inl h) Z (fun _ h => h) (fun b hb => ⟨Nat.lt_of_lt_of_le (H.zlt b hb) P.size, .inl hb⟩) (fun b hb hz => (P.f b hb).2.2.1 (hzz b hz)) ?_ (P.rep.free hfree.1) hh
            refine ⟨fun k hv cv c h => ?_, P.io.shape, P.io.disj, P.io.lt, fun b hb => Nat.lt_of_lt_of_le (H.zlt b hb) P.size, fun k b h hz => P.io.dz k b h (hzz b hz)⟩
            have h0 := h
            simp only [ioSlO, Option.map_eq_some_iff] at h0
            obtain ⟨c', h1, h2⟩ := h0
            simp only [Slot.mk.injEq, Option.some.injEq] at h2
            obtain ⟨_, _, rfl⟩ := h2
            obtain ⟨oc, h3, h4⟩ := Option.bind_eq_some_iff.1 h1
            have h4 : oc = some c' := h4
            subst h4
            exact (P.io.rep k _ _ _ h).free (List.all_eq_true.1 hfree.2 _ (List.mem_of_getElem? h3))
          | false =>
            rw [hfree] at hh
            simp only [cond_false] at hh
            obtain ⟨fp0, H0, T0, g1, g2, g3, g4⟩ := freezeAll_ok H (ss1 ++ ss2) hsome
            exact main (Lent Z fp (ss1 ++ ss2)) _ fp0 H0 T0 (g2 _ hr0) g1 g3 g4 Z' P.z P.zn (fun b hb => (P.f b hb).2.2.1) P.io P.rep hh
        · cases hh
      · cases hh
    · cases hh
  · cases hh
end
end Go.Proofs.Ytibphkgcdnconaa.V
