/- The operations on memory, continued: places; reading; writing. -/
import Derived.Test.YtibphkgcdnconaaVM
namespace Go.Proofs.Ytibphkgcdnconaa.V
open Go
set_option linter.unusedVariables false
set_option linter.all false
def AccOK (Z : Bs) (w : World) (sl : Nat → Option Slot) (hdr : Nat → Value) (fp : Nat → Bs) (a : Acc) (t : Ty) (x : t.den) (cs : List Value) : Prop :=
  match a with
  | .im => Rep Z w t .im x none_ cs
  | .own s hv cv p => ∃ c, sl s = some ⟨hv, cv, some c⟩ ∧ c.m.isOw = true ∧ (∃ m f, Rep Z w t m x f cs ∧ ∀ k, f k → fp s k) ∧ PathOK w c (hdr s) p t x cs
  | .ro s hv cv => ∃ c, sl s = some ⟨hv, cv, some c⟩ ∧ c.m.isOw = true ∧ ∃ m f, Rep Z w t m x f cs ∧ ∀ k, f k → fp s k
section
variable {E : Env} {o : Oper} {a : Act} {w : World} {Z : Bs} {sl : Nat → Option Slot} {hdr : Nat → Value} {fp : Nat → Bs} {mv : MV}
theorem Rep.none {t : Ty} {m : Mk} {x : t.den} {f : Bs} {cs : List Value} (hf : ∀ k, ¬ f k) (h : Rep Z w t m x f cs) : Rep Z w t .im x none_ cs := h.freeze (fun b hb => hb.elim id (fun h => (hf b h).elim))
theorem cont_ok (H : HR Z w sl hdr fp) {u : MV} {t : Ty} {x : t.den} {ac : Acc} {cs : List Value} (h : cont sl u = some ⟨t, x, ac⟩) (hr : RelC Z w sl hdr fp u cs) : AccOK Z w sl hdr fp ac t x cs ∧ u.out cs = t.val cs := by
  cases u with
  | val t' y =>
    simp only [cont, Option.some.injEq, Cont.mk.injEq] at h
    obtain ⟨rfl, h2, rfl⟩ := h
    obtain rfl := eq_of_heq h2
    refine ⟨hr, ?_⟩
    rfl
  | root s hv =>
    simp only [cont] at h
    split at h
    · rename_i cv c e
      have e2 := lookH_some e
      obtain ⟨hl, S, h1, _, h3⟩ := hr
      rw [e2] at h1; obtain rfl := Option.some.inj h1
      obtain rfl := h3 rfl c rfl
      simp only [Option.some.injEq, Cont.mk.injEq] at h
      obtain ⟨h4, h5, rfl⟩ := h
      obtain ⟨ct, cm, cx⟩ := c
      simp only at h4; subst h4
      obtain rfl := eq_of_heq h5
      have hrep := H.rep s _ _ _ e2
      have hsh := H.shape s _ _ _ e2
      simp only at hrep hsh
      refine ⟨?_, ?_⟩
      · cases hm : cm.isOw with
        | true =>
          simp only [cond_true, AccOK]
          refine ⟨_, e2, hm, ⟨cm, fp s, hrep, fun _ h => h⟩, by cases ct <;> rfl, fun _ => ⟨by cases ct <;> rfl, cm, by cases ct <;> rfl⟩⟩
        | false =>
          simp only [cond_false, AccOK]
          rcases hsh with ⟨t0, rfl⟩ | ⟨k0, v0, rfl⟩ <;> cases cm <;> first | exact hrep | cases hm
      · rcases hsh with ⟨t0, rfl⟩ | ⟨k0, v0, rfl⟩ <;> rfl
    · cases h
  | view s hv cv p t' y =>
    simp only [cont] at h
    split at h
    · rename_i c e
      have e2 := lookC_some e
      obtain ⟨hl, S, h1, _, h3⟩ := hr
      rw [e2] at h1; obtain rfl := Option.some.inj h1
      obtain ⟨⟨m, f, h4, h5, h6⟩, h7⟩ := (h3 rfl).2 rfl c rfl
      simp only [Option.some.injEq, Cont.mk.injEq] at h
      obtain ⟨rfl, h8, rfl⟩ := h
      obtain rfl := eq_of_heq h8
      refine ⟨?_, ?_⟩
      · cases hm : c.m.isOw with
        | true =>
          cases p with
          | none => exact ⟨c, e2, hm, m, f, h4, h5⟩
          | some p => exact ⟨c, e2, hm, ⟨m, f, h4, h5⟩, h7 p rfl⟩
        | false => exact h4.none (h6 hm)
      · rfl
    · cases h
  | nil => cases h
  | dead => cases h
  | adr => cases h
  | iadr => cases h
  | ptr => cases h
  | icl => cases h
  | nv => cases h
  | pend => cases h
  | pr => cases h
  | un => cases h
  | tc => cases h
  | tn => cases h
  | fn => cases h
theorem getP_app : ∀ (p q : Path) {t : Ty} {x : t.den} {d : Dyn}, getP t x p = some d → getP t x (p ++ q) = getP d.1 d.2 q
  | [], q, t, x, d, h => by cases t <;> (simp only [getP, Option.some.injEq] at h; subst h; rfl)
  | .el i :: p, q, .sl t, xs, d, h => by
    simp only [getP] at h
    split at h
    · rename_i x hx; simp only [List.cons_append, getP, hx]; exact getP_app p q h
    · cases h
  | .el i :: p, q, .arr n t, xs, d, h => by
    simp only [getP] at h
    split at h
    · rename_i x hx; simp only [List.cons_append, getP, hx]; exact getP_app p q h
    · cases h
  | .f1 :: p, q, .pair a b, x, d, h => getP_app p q (t := a) h
  | .f2 :: p, q, .pair a b, x, d, h => getP_app p q (t := b) h
  | .f1 :: p, _, .bool, _, _, h | .f1 :: p, _, .int _, _, _, h | .f1 :: p, _, .str, _, _, h | .f1 :: p, _, .unit, _, _, h | .f1 :: p, _, .arr _ _, _, _, h | .f1 :: p, _, .sl _, _, _, h | .f1 :: p, _, .mp _ _, _, _, h | .f1 :: p, _, .ex _ _ _, _, _, h => by cases h
  | .f2 :: p, _, .bool, _, _, h | .f2 :: p, _, .int _, _, _, h | .f2 :: p, _, .str, _, _, h | .f2 :: p, _, .unit, _, _, h | .f2 :: p, _, .arr _ _, _, _, h | .f2 :: p, _, .sl _, _, _, h | .f2 :: p, _, .mp _ _, _, _, h | .f2 :: p, _, .ex _ _ _, _, _, h => by cases h
  | .el _ :: p, _, .bool, _, _, h | .el _ :: p, _, .int _, _, _, h | .el _ :: p, _, .str, _, _, h | .el _ :: p, _, .unit, _, _, h | .el _ :: p, _, .pair _ _, _, _, h | .el _ :: p, _, .mp _ _, _, _, h | .el _ :: p, _, .ex _ _ _, _, _, h => by cases h
theorem mkP_app : ∀ (p q : Path) {t : Ty} {m m' : Mk} {t' : Ty}, mkP t m p = some m' → tyP t p = some t' → mkP t m (p ++ q) = mkP t' m' q
  | [], q, t, m, m', t', h, ht => by cases t <;> (simp only [mkP, tyP, Option.some.injEq] at h ht; subst h; subst ht; rfl)
  | .el i :: p, q, .sl t, .ow m, m', t', h, ht => mkP_app p q (t := t) h ht
  | .el i :: p, q, .arr n t, m, m', t', h, ht => mkP_app p q (t := t) h ht
  | .f1 :: p, q, .pair a b, m, m', t', h, ht => mkP_app p q (t := a) h ht
  | .f2 :: p, q, .pair a b, m, m', t', h, ht => mkP_app p q (t := b) h ht
  | .el i :: p, _, .sl t, .im, _, _, h, _ | .el i :: p, _, .sl t, .pr _ _, _, _, h, _ => by cases h
  | .f1 :: p, _, .bool, _, _, _, h, _ | .f1 :: p, _, .int _, _, _, _, h, _ | .f1 :: p, _, .str, _, _, _, h, _ | .f1 :: p, _, .unit, _, _, _, h, _ | .f1 :: p, _, .arr _ _, _, _, _, h, _ | .f1 :: p, _, .sl _, _, _, _, h, _ | .f1 :: p, _, .mp _ _, _, _, _, h, _ | .f1 :: p, _, .ex _ _ _, _, _, _, h, _ => by cases h
  | .f2 :: p, _, .bool, _, _, _, h, _ | .f2 :: p, _, .int _, _, _, _, h, _ | .f2 :: p, _, .str, _, _, _, h, _ | .f2 :: p, _, .unit, _, _, _, h, _ | .f2 :: p, _, .arr _ _, _, _, _, h, _ | .f2 :: p, _, .sl _, _, _, _, h, _ | .f2 :: p, _, .mp _ _, _, _, _, h, _ | .f2 :: p, _, .ex _ _ _, _, _, _, h, _ => by cases h
  | .el _ :: p, _, .bool, _, _, _, h, _ | .el _ :: p, _, .int _, _, _, _, h, _ | .el _ :: p, _, .str, _, _, _, h, _ | .el _ :: p, _, .unit, _, _, _, h, _ | .el _ :: p, _, .pair _ _, _, _, _, h, _ | .el _ :: p, _, .mp _ _, _, _, _, h, _ | .el _ :: p, _, .ex _ _ _, _, _, _, h, _ => by cases h
theorem subc_app : ∀ (p q : Path) {t : Ty} {cs cs' : List Value} {t' : Ty}, subc w t cs p = some cs' → tyP t p = some t' → subc w t cs (p ++ q) = subc w t' cs' q ∧ ∀ here, addrOf w t cs here (p ++ q) = addrOf w t' cs' (addrOf w t cs here p) q
  | [], q, t, cs, cs', t', h, ht => by cases t <;> (simp only [subc, tyP, Option.some.injEq] at h ht; subst h; subst ht; exact ⟨rfl, fun _ => rfl⟩)
  | .el i :: p, q, .sl t, cs, cs', t', h, ht => by
    simp only [subc] at h
    split at h
    · simp only [List.cons_append, subc, addrOf]
      have := subc_app p q h ht
      exact ⟨this.1, fun _ => this.2 _⟩
    · cases h
  | .el i :: p, q, .arr n t, cs, cs', t', h, ht => by
    have := subc_app p q (t := t) h ht
    exact ⟨this.1, fun _ => this.2 _⟩
  | .f1 :: p, q, .pair a b, cs, cs', t', h, ht => by
    have := subc_app p q (t := a) h ht
    exact ⟨this.1, fun _ => this.2 _⟩
  | .f2 :: p, q, .pair a b, cs, cs', t', h, ht => by
    have := subc_app p q (t := b) h ht
    exact ⟨this.1, fun _ => this.2 _⟩
  | .f1 :: p, _, .bool, _, _, _, h, _ | .f1 :: p, _, .int _, _, _, _, h, _ | .f1 :: p, _, .str, _, _, _, h, _ | .f1 :: p, _, .unit, _, _, _, h, _ | .f1 :: p, _, .arr _ _, _, _, _, h, _ | .f1 :: p, _, .sl _, _, _, _, h, _ | .f1 :: p, _, .mp _ _, _, _, _, h, _ | .f1 :: p, _, .ex _ _ _, _, _, _, h, _ => by cases h
  | .f2 :: p, _, .bool, _, _, _, h, _ | .f2 :: p, _, .int _, _, _, _, h, _ | .f2 :: p, _, .str, _, _, _, h, _ | .f2 :: p, _, .unit, _, _, _, h, _ | .f2 :: p, _, .arr _ _, _, _, _, h, _ | .f2 :: p, _, .sl _, _, _, _, h, _ | .f2 :: p, _, .mp _ _, _, _, _, h, _ | .f2 :: p, _, .ex _ _ _, _, _, _, h, _ => by cases h
  | .el _ :: p, _, .bool, _, _, _, h, _ | .el _ :: p, _, .int _, _, _, _, h, _ | .el _ :: p, _, .str, _, _, _, h, _ | .el _ :: p, _, .unit, _, _, _, h, _ | .el _ :: p, _, .pair _ _, _, _, _, h, _ | .el _ :: p, _, .mp _ _, _, _, _, h, _ | .el _ :: p, _, .ex _ _ _, _, _, _, h, _ => by cases h
theorem idx_some {α : Type} {xs : List α} {i : Int} {x : α} (h : idx xs i = some x) : 0 ≤ i ∧ i < xs.length ∧ xs[i.toNat]? = some x := by
  unfold idx at h
  split at h
  · rename_i h0
    have hl : i.toNat < xs.length := by
      rcases Nat.lt_or_ge i.toNat xs.length with h' | h'
      · exact h'
      · rw [List.getElem?_eq_none h'] at h; cases h
    exact ⟨h0, by omega, h⟩
  · cases h
theorem bind_some_ {α R : Type} {x : Option α} {f : α → Option R} {r : R} (h : x.bind f = some r) : ∃ y, x = some y ∧ f y = some r := by
  cases x with
  | none => cases h
  | some y => exact ⟨y, rfl, h⟩
end
end Go.Proofs.Ytibphkgcdnconaa.V
