/- The steps out of which the operations are made: a slot is emptied, shared, filled, written. -/
import Derived.Test.YtibphkgcdnconaaVE
namespace Go.Proofs.Ytibphkgcdnconaa.V
open Go
set_option linter.unusedVariables false
set_option linter.all false
def put (sl : Nat → Option Slot) (s : Nat) (S : Slot) : Nat → Option Slot := fun r => if r = s then some S else sl r
theorem look_nil (sl : Nat → Option Slot) : Ups.look [] sl = sl := rfl
theorem look_cons (s : Nat) (S : Slot) (u : Ups) (sl : Nat → Option Slot) : Ups.look ((s, S) :: u) sl = put (Ups.look u sl) s S := by
  funext r
  simp only [Ups.look, put, List.lookup_cons]
  by_cases h : r = s
  · subst h; simp
  · have : (r == s) = false := by simpa using h
    simp [this, h]
theorem look_app (u v : Ups) (sl : Nat → Option Slot) : Ups.look (u ++ v) sl = Ups.look u (Ups.look v sl) := by
  induction u with
  | nil => rfl
  | cons a u ih => obtain ⟨s, S⟩ := a; rw [List.cons_append, look_cons, look_cons, ih]
theorem lookH_some {sl : Nat → Option Slot} {s hv cv : Nat} {c : SlotC} (h : lookH sl s hv = some (cv, c)) : sl s = some ⟨hv, cv, some c⟩ := by
  unfold lookH at h
  split at h
  · rename_i h' cv' c' e
    cases hb : Nat.beq h' hv with
    | false => rw [hb] at h; cases h
    | true =>
      rw [hb] at h
      simp only [cond_true, Option.some.injEq, Prod.mk.injEq] at h
      obtain ⟨rfl, rfl⟩ := h
      rw [e, Nat.eq_of_beq_eq_true hb]
  · cases h
theorem lookC_some {sl : Nat → Option Slot} {s hv cv : Nat} {c : SlotC} (h : lookC sl s hv cv = some c) : sl s = some ⟨hv, cv, some c⟩ := by
  unfold lookC at h
  split at h
  · rename_i v c' e
    cases hb : Nat.beq v cv with
    | false => rw [hb] at h; cases h
    | true =>
      rw [hb] at h
      simp only [cond_true, Option.some.injEq] at h
      subst h
      rw [lookH_some e, Nat.eq_of_beq_eq_true hb]
  · cases h
def noC (sl : Nat → Option Slot) (s : Nat) : Prop := ∀ hv cv c, sl s ≠ some ⟨hv, cv, some c⟩
section
variable {Z : Bs} {w : World} {sl : Nat → Option Slot} {hdr : Nat → Value} {fp : Nat → Bs}
theorem step_gone (H : HR Z w sl hdr fp) {s : Nat} {S : Slot} (hs : sl s = some S) : HR Z w (put sl s (gone S)) hdr fp ∧ Trans Z w sl hdr fp Z w (put sl s (gone S)) hdr fp := by
  refine ⟨⟨fun r hv cv c h => ?_, fun r hv cv c h => ?_, H.disj, H.lt, H.zlt, H.dz⟩, fun b h => ⟨h, rfl⟩, fun r S' h => ?_, fun b _ h1 h2 => ⟨rfl, h1, h2⟩, Nat.le_refl _, rfl, rfl, rfl⟩
  · unfold put at h; split at h
    · simp [gone] at h
    · exact H.rep r hv cv c h
  · unfold put at h; split at h
    · simp [gone] at h
    · exact H.shape r hv cv c h
  · by_cases e : r = s
    · subst e
      refine ⟨gone S, by simp [put], .inl ?_⟩
      rw [hs] at h; obtain rfl := Option.some.inj h; simp [gone]
    · exact ⟨S', by simp [put, e, h], .inr (.inr ⟨rfl, rfl, fun c hc => ⟨c, hc, rfl, fun _ _ => rfl, .inl ⟨rfl, fun _ h => h⟩⟩⟩)⟩
theorem step_freeze (H : HR Z w sl hdr fp) {s : Nat} {S : Slot} (hs : sl s = some S) :
    HR (fun b => Z b ∨ fp s b) w (put sl s (frozen_ S)) hdr (fun r => if r = s then none_ else fp r) ∧ Trans Z w sl hdr fp (fun b => Z b ∨ fp s b) w (put sl s (frozen_ S)) hdr (fun r => if r = s then none_ else fp r) := by
  refine ⟨⟨fun r hv cv c h => ?_, fun r hv cv c h => ?_, fun r r' b h h' => ?_, fun r b h => ?_, fun b h => h.elim (H.zlt b) (H.lt s b), fun r b h hz => ?_⟩, fun b h => ⟨.inl h, rfl⟩, fun r S' h => ?_, fun b _ h1 h2 => ⟨rfl, fun r h => ?_, fun h => h.elim h2 (h1 s)⟩, Nat.le_refl _, rfl, rfl, rfl⟩
  · unfold put at h; split at h
    · rename_i e; subst e
      simp only [if_true]
      obtain ⟨hv0, cv0, c0⟩ := S
      cases c0 with
      | none => simp [frozen_] at h
      | some c0 =>
        simp only [frozen_, Option.map_some, Option.some.injEq, Slot.mk.injEq] at h
        obtain ⟨rfl, rfl, rfl⟩ := h
        exact (H.rep _ _ _ _ hs).freeze (fun _ h => h)
    · rename_i e; simp only [if_neg e]; exact (H.rep r hv cv c h).more (fun _ h => .inl h)
  · unfold put at h; split at h
    · rename_i e; subst e
      obtain ⟨hv0, cv0, c0⟩ := S
      cases c0 with
      | none => simp [frozen_] at h
      | some c0 =>
        simp only [frozen_, Option.map_some, Option.some.injEq, Slot.mk.injEq] at h
        obtain ⟨rfl, rfl, rfl⟩ := h
        exact (H.shape _ _ _ _ hs : (∃ t, c0.t = .sl t) ∨ ∃ k v, c0.t = .mp k v)
    · exact H.shape r hv cv c h
  · by_cases e : r = s
    · simp [e, none_] at h
    · by_cases e' : r' = s
      · simp [e', none_] at h'
      · simp only [if_neg e, if_neg e'] at h h'; exact H.disj _ _ _ h h'
  · by_cases e : r = s
    · simp [e, none_] at h
    · simp only [if_neg e] at h; exact H.lt _ _ h
  · by_cases e : r = s
    · simp [e, none_] at h
    · simp only [if_neg e] at h
      rcases hz with hz | hz
      · exact H.dz _ _ h hz
      · exact e (H.disj _ _ _ h hz)
  · by_cases e : r = s
    · subst e
      rw [hs] at h; obtain rfl := Option.some.inj h
      refine ⟨frozen_ S, by simp [put], .inr (.inr ⟨rfl, rfl, fun c' hc' => ?_⟩)⟩
      obtain ⟨hv0, cv0, c0⟩ := S
      cases c0 with
      | none => simp [frozen_] at hc'
      | some c0 =>
        simp only [frozen_, Option.map_some, Option.some.injEq] at hc'
        subst hc'
        exact ⟨c0, rfl, rfl, fun _ _ => rfl, .inr ⟨rfl, fun b h => .inr h⟩⟩
    · exact ⟨S', by simp [put, e, h], .inr (.inr ⟨rfl, rfl, fun c hc => ⟨c, hc, rfl, fun _ _ => rfl, .inl ⟨rfl, fun b h => by simp [e, h]⟩⟩⟩)⟩
  · by_cases e : r = s
    · simp [e, none_] at h
    · simp only [if_neg e] at h; exact h1 r h
/-- A slot is filled with what is at hand. -/
theorem step_set (H : HR Z w sl hdr fp) {n : Nat} {S : Slot} (hs : sl n = some S) (c : SlotC) (hd : Value) (F : Bs) (hr : Rep Z w c.t c.m c.x F [hd]) (hsh : (∃ t, c.t = .sl t) ∨ ∃ k v, c.t = .mp k v)
    (hF : ∀ b, F b → ∃ r, fp r b ∧ (r = n ∨ noC sl r)) (cv : Nat) :
    ∃ fp', (∀ b, F b → fp' n b) ∧ (∀ r b, r ≠ n → (fp' r b ↔ fp r b ∧ ¬ F b)) ∧ HR Z w (put sl n ⟨S.hv + 1, cv, some c⟩) (fun r => if r = n then hd else hdr r) fp' ∧
      Trans Z w sl hdr fp Z w (put sl n ⟨S.hv + 1, cv, some c⟩) (fun r => if r = n then hd else hdr r) fp' := by
  refine ⟨fun r b => if r = n then F b else fp r b ∧ ¬ F b, fun b h => by simpa using h, fun r b h => by simp [h], ⟨fun r hv cv' c' h => ?_, fun r hv cv' c' h => ?_, fun r r' b h h' => ?_, fun r b h => ?_, H.zlt, fun r b h hz => ?_⟩, fun b h => ⟨h, rfl⟩, fun r S' h => ?_, fun b _ h1 h2 => ⟨rfl, fun r h => ?_, h2⟩, Nat.le_refl _, rfl, rfl, rfl⟩
  · unfold put at h; split at h
    · rename_i e; subst e
      simp only [Option.some.injEq, Slot.mk.injEq] at h
      obtain ⟨rfl, rfl, rfl⟩ := h
      simpa using hr
    · rename_i e
      simp only [if_neg e]
      refine (H.rep r hv cv' c' h).mono (fun b hb => ⟨hb, fun hf => ?_⟩)
      obtain ⟨r', h1, h2⟩ := hF b hf
      obtain rfl := H.disj _ _ _ hb h1
      rcases h2 with h2 | h2
      · exact e h2
      · exact h2 _ _ _ h
  · unfold put at h; split at h
    · simp only [Option.some.injEq, Slot.mk.injEq] at h
      obtain ⟨rfl, rfl, rfl⟩ := h
      exact hsh
    · exact H.shape r hv cv' c' h
  · by_cases e : r = n <;> by_cases e' : r' = n
    · exact e.trans e'.symm
    · simp only [if_pos e, if_neg e'] at h h'; exact absurd h h'.2
    · simp only [if_neg e, if_pos e'] at h h'; exact absurd h' h.2
    · simp only [if_neg e, if_neg e'] at h h'; exact H.disj _ _ _ h.1 h'.1
  · by_cases e : r = n
    · simp only [if_pos e] at h; obtain ⟨r', h1, _⟩ := hF b h; exact H.lt _ _ h1
    · simp only [if_neg e] at h; exact H.lt _ _ h.1
  · by_cases e : r = n
    · simp only [if_pos e] at h; obtain ⟨r', h1, _⟩ := hF b h; exact H.dz _ _ h1 hz
    · simp only [if_neg e] at h; exact H.dz _ _ h.1 hz
  · by_cases e : r = n
    · subst e
      rw [hs] at h; obtain rfl := Option.some.inj h
      exact ⟨⟨S.hv + 1, cv, some c⟩, by simp [put], .inl (Nat.lt_succ_self _)⟩
    · refine ⟨S', by simp [put, e, h], .inr (.inr ⟨rfl, rfl, fun c' hc => ⟨c', hc, by simp [e], fun _ _ => rfl, .inl ⟨rfl, fun b hb => ?_⟩⟩⟩)⟩
      simp only [if_neg e]
      refine ⟨hb, fun hf => ?_⟩
      obtain ⟨r', h1, h2⟩ := hF b hf
      obtain rfl := H.disj _ _ _ hb h1
      rcases h2 with h2 | h2
      · exact e h2
      · obtain ⟨a, b', c0⟩ := S'; simp only at hc; subst hc; exact h2 _ _ _ h
  · by_cases e : r = n
    · simp only [if_pos e] at h; obtain ⟨r', h3, _⟩ := hF b h; exact h1 r' h3
    · simp only [if_neg e] at h; exact h1 r h.1
/-- A new block, at hand of slot n. -/
theorem step_alloc (H : HR Z w sl hdr fp) (n : Nat) (o : Obj) :
    HR Z (w.alloc o) sl hdr (fun r b => fp r b ∨ r = n ∧ b = w.heap.size) ∧ Trans Z w sl hdr fp Z (w.alloc o) sl hdr (fun r b => fp r b ∨ r = n ∧ b = w.heap.size) := by
  have hk : ∀ k, k < w.heap.size → (w.alloc o).heap[k]? = w.heap[k]? := fun k h => Go.RowKit.Below.heap_alloc w o k h
  refine ⟨⟨fun r hv cv c h => ((H.rep r hv cv c h).keep (fun b hb => ⟨hb, hk b (H.zlt b hb)⟩) (fun b hb => hk b (H.lt r b hb))).mono (fun b hb => .inl hb), H.shape, fun r r' b h h' => ?_, fun r b h => ?_, fun b h => ?_, fun r b h hz => ?_⟩,
    fun b h => ⟨h, hk b (H.zlt b h)⟩, fun r S h => ⟨S, h, .inr (.inr ⟨rfl, rfl, fun c hc => ⟨c, hc, rfl, fun b hb => hk b (H.lt r b hb), .inl ⟨rfl, fun b hb => .inl hb⟩⟩⟩)⟩, fun b hb h1 h2 => ⟨hk b hb, fun r h => ?_, h2⟩, by simp, rfl, rfl, rfl⟩
  · rcases h with h | ⟨h, e⟩ <;> rcases h' with h' | ⟨h', e'⟩
    · exact H.disj _ _ _ h h'
    · exact absurd (H.lt _ _ h) (by omega)
    · exact absurd (H.lt _ _ h') (by omega)
    · exact h.trans h'.symm
  · rw [World.size_alloc]
    rcases h with h | ⟨h, e⟩
    · have := H.lt _ _ h; omega
    · omega
  · rw [World.size_alloc]; have := H.zlt _ h; omega
  · rcases h with h | ⟨h, e⟩
    · exact H.dz _ _ h hz
    · have := H.zlt _ hz; omega
  · rcases h with h | ⟨h, e⟩
    · exact h1 r h
    · omega
theorem step_drew (H : HR Z w sl hdr fp) : HR Z w.drew sl hdr fp ∧ Trans Z w sl hdr fp Z w.drew sl hdr fp :=
  ⟨⟨fun r hv cv c h => Rep.keep (w := w) (w' := w.drew) (fun b hb => ⟨hb, rfl⟩) (fun b hb => rfl) (H.rep r hv cv c h), H.shape, H.disj, H.lt, H.zlt, H.dz⟩,
    fun b h => ⟨h, rfl⟩, fun r S h => ⟨S, h, .inr (.inr ⟨rfl, rfl, fun c hc => ⟨c, hc, rfl, fun b hb => rfl, .inl ⟨rfl, fun b hb => hb⟩⟩⟩)⟩, fun b hb h1 h2 => ⟨rfl, h1, h2⟩, Nat.le_refl _, rfl, rfl, rfl⟩
end
end Go.Proofs.Ytibphkgcdnconaa.V
