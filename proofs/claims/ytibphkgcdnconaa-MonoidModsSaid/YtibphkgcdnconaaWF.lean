/- Regions whose order is drawn: what an operation may look at. -/
import Derived.Test.YtibphkgcdnconaaWC
namespace Go.Proofs.Ytibphkgcdnconaa.V
open Go
set_option linter.unusedVariables false
set_option linter.all false
section
variable {E : Env} {Z0 : Ctx E.io} {w0 : World} {ns nt : Nat} {R : Type} {r : R} {Q : Exit → Act → World → Prop}
theorem relC_more {Z : Bs} {w : World} {sl sl2 : Nat → Option Slot} {hdr hdr2 : Nat → Value} {fp fp2 : Nat → Bs} {P : Nat → Bool} (h1 : ∀ s S, P s = true → sl s = some S → sl2 s = some S ∧ hdr2 s = hdr s) (h2 : ∀ s b, P s = true → fp s b → fp2 s b) : ∀ {mv : MV} {cs : List Value}, mv.sees P = true → RelC Z w sl hdr fp mv cs → RelC Z w sl2 hdr2 fp2 mv cs := by
  intro mv
  induction mv with
  | root s hv =>
    rintro cs hp ⟨q1, S, q2, q3, q4⟩
    have hp : P s = true := hp
    obtain ⟨e1, e2⟩ := h1 s S hp q2
    exact ⟨q1, S, e1, q3, fun e c hc => by rw [e2]; exact q4 e c hc⟩
  | ptr s hv t =>
    rintro cs hp ⟨q1, S, q2, q3, q4⟩
    have hp : P s = true := hp
    obtain ⟨e1, e2⟩ := h1 s S hp q2
    exact ⟨q1, S, e1, q3, fun e c hc => by rw [e2]; exact q4 e c hc⟩
  | view s hv cv p t x =>
    rintro cs hp ⟨q1, S, q2, q3, q4⟩
    have hp : P s = true := hp
    obtain ⟨e1, e2⟩ := h1 s S hp q2
    refine ⟨q1, S, e1, q3, fun e => ⟨(q4 e).1, fun e' c hc => ?_⟩⟩
    obtain ⟨⟨m, f, g1, g2, g3⟩, g4⟩ := (q4 e).2 e' c hc
    exact ⟨⟨m, f, g1, fun k hk => h2 s k hp (g2 k hk), g3⟩, by rw [e2]; exact g4⟩
  | adr s hv cv p t x =>
    rintro cs hp ⟨q1, S, q2, q3, q4⟩
    have hp : P s = true := hp
    obtain ⟨e1, e2⟩ := h1 s S hp q2
    refine ⟨q1, S, e1, q3, fun e => ⟨(q4 e).1, fun e' c hc => ?_⟩⟩
    obtain ⟨b, o, ks, g1, g2, g3, g4, ⟨m, f, g5, g6, g7⟩, g8⟩ := (q4 e).2 e' c hc
    exact ⟨b, o, ks, g1, g2, g3.imp (h2 s b hp) id, g4, ⟨m, f, g5, fun k hk => h2 s k hp (g6 k hk), g7⟩, by rw [e2]; exact g8⟩
  | pend s hv cv p t x =>
    rintro cs hp ⟨q1, S, q2, q3, q4⟩
    have hp : P s = true := hp
    obtain ⟨e1, e2⟩ := h1 s S hp q2
    refine ⟨q1, S, e1, q3, fun e => ⟨(q4 e).1, fun e' c hc ho => ?_⟩⟩
    obtain ⟨m, x0, g1, g2, g3⟩ := (q4 e).2 e' c hc ho
    refine ⟨m, x0, g1, g2, g3.imp id (fun ⟨b0, g4, g5, g6⟩ => ⟨b0, g4, h2 s b0 hp g5, ?_⟩)⟩
    rw [e2]
    exact g6.imp (fun h => h.mono (fun b hb => ⟨h2 s b hp hb.1, hb.2⟩)) id
  | pr a b ih1 ih2 =>
    rintro cs hp ⟨c1, c2, e, g1, g2⟩
    simp only [MV.sees, Bool.and_eq_true] at hp
    exact ⟨c1, c2, e, ih1 hp.1 g1, ih2 hp.2 g2⟩
  | tc a b ih1 ih2 =>
    rintro cs hp ⟨c1, v, vs, e, g1, g2⟩
    simp only [MV.sees, Bool.and_eq_true] at hp
    exact ⟨c1, v, vs, e, g1.imp id (fun g => ⟨ih1 hp.1 g.1, g.2⟩), ih2 hp.2 g2⟩
  | fn f c ih => rintro cs hp ⟨ks, e, g⟩; exact ⟨ks, e, ih hp g⟩
  | icl c ih => rintro cs hp ⟨b, o, ks, e, g1, g2, g⟩; exact ⟨b, o, ks, e, g1, g2, ih hp g⟩
  | _ => intro cs _ h; exact h
theorem sees_all : ∀ mv : MV, mv.sees (fun _ => true) = true := by
  intro mv
  induction mv with
  | pr a b ih1 ih2 => simp only [MV.sees, ih1, ih2, Bool.and_self]
  | tc a b ih1 ih2 => simp only [MV.sees, ih1, ih2, Bool.and_self]
  | fn f c ih => exact ih
  | icl c ih => exact ih
  | _ => rfl
theorem relV_more {Z : Bs} {w : World} {sl sl2 : Nat → Option Slot} {hdr hdr2 : Nat → Value} {fp fp2 : Nat → Bs} (h1 : ∀ s S, sl s = some S → sl2 s = some S ∧ hdr2 s = hdr s) (h2 : ∀ s b, fp s b → fp2 s b) {mv : MV} {v : Value} (h : RelV Z w sl hdr fp mv v) : RelV Z w sl2 hdr2 fp2 mv v :=
  h.imp id (fun ⟨cs, a, b⟩ => ⟨cs, relC_more (P := fun _ => true) (fun s S _ h => h1 s S h) (fun s b _ h => h2 s b h) (sees_all mv) a, b⟩)
def fpR (rd : List Nat) (fp : Nat → Bs) : Nat → Bs := fun s b => rd.elem s = true ∧ fp s b
theorem restr_some {rd : List Nat} {sl : Nat → Option Slot} {s : Nat} {S : Slot} (h : restr rd sl s = some S) : rd.elem s = true ∧ sl s = some S := by
  unfold restr at h
  cases hb : rd.elem s with
  | true => rw [hb] at h; exact ⟨rfl, h⟩
  | false => rw [hb] at h; cases h
theorem restr_hr {Z : Bs} {w : World} {sl : Nat → Option Slot} {hdr : Nat → Value} {fp : Nat → Bs} (H : HR Z w sl hdr fp) (rd : List Nat) : HR Z w (restr rd sl) hdr (fpR rd fp) := by
  refine ⟨fun s hv cv c h => ?_, fun s hv cv c h => H.shape s hv cv c (restr_some h).2, fun s s' b h h' => H.disj s s' b h.2 h'.2, fun s b h => H.lt s b h.2, H.zlt, fun s b h => H.dz s b h.2⟩
  obtain ⟨h1, h2⟩ := restr_some h
  exact (H.rep s hv cv c h2).mono (fun b hb => ⟨h1, hb⟩)
theorem look_vis {rd : List Nat} {us : Ups} {sl : Nat → Option Slot} {s : Nat} (h : rd.elem s = true) : us.look (restr rd sl) s = us.look sl s := by
  simp only [Ups.look]
  split
  · rfl
  · simp only [restr, h, cond_true]
theorem look_hid {rd : List Nat} {us : Ups} (hus : ∀ u ∈ us, rd.elem u.1 = true) {sl : Nat → Option Slot} {s : Nat} (h : rd.elem s = false) : us.look (restr rd sl) s = none ∧ us.look sl s = sl s := by
  have : us.lookup s = none := by
    rw [List.lookup_eq_none_iff]
    intro p hp
    have := hus p hp
    simp only [beq_eq_false_iff_ne, ne_eq, bne_iff_ne]
    intro e
    rw [← e, h] at this; cases this
  simp only [Ups.look, this, restr, h, cond_false, and_self]
theorem unrestr {Z : Bs} {w : World} {sl : Nat → Option Slot} {hdr : Nat → Value} {fp : Nat → Bs} (H : HR Z w sl hdr fp) {rd : List Nat} {us : Ups} (hus : ∀ u ∈ us, rd.elem u.1 = true) {Z' : Bs} {w' : World} {hdr' : Nat → Value} {fp' : Nat → Bs} (H' : HR Z' w' (us.look (restr rd sl)) hdr' fp')
    (T : Trans Z w (restr rd sl) hdr (fpR rd fp) Z' w' (us.look (restr rd sl)) hdr' fp') :
    ∃ hdr2 fp2, HR Z' w' (us.look sl) hdr2 fp2 ∧ Trans Z w sl hdr fp Z' w' (us.look sl) hdr2 fp2 ∧ (∀ s S, us.look (restr rd sl) s = some S → us.look sl s = some S ∧ hdr2 s = hdr' s) ∧ ∀ s b, fp' s b → fp2 s b := by
  have hid : ∀ s b, rd.elem s = false → fp s b → w'.heap[b]? = w.heap[b]? ∧ (∀ q, ¬ fp' q b) ∧ ¬ Z' b := fun s b hs hb =>
    T.old b (H.lt s b hb) (fun q hq => by
      obtain rfl := H.disj _ _ _ hq.2 hb
      have := hq.1
      rw [hs] at this; cases this) (H.dz s b hb)
  refine ⟨fun s => bif rd.elem s then hdr' s else hdr s, fun s b => fp' s b ∨ rd.elem s = false ∧ fp s b, ⟨fun s hv cv c h => ?_, fun s hv cv c h => ?_, fun s s' b h h' => ?_, fun s b h => ?_, H'.zlt, fun s b h hz => ?_⟩,
    ⟨T.z, fun s S h => ?_, fun b hb h1 h2 => ?_, T.size, T.os, T.tape, T.output⟩, fun s S h => ?_, fun s b h => .inl h⟩
  · cases hs : rd.elem s with
    | true =>
      rw [← look_vis hs] at h
      simp only [cond_true]
      exact (H'.rep s hv cv c h).mono (fun b hb => .inl hb)
    | false =>
      rw [(look_hid hus hs).2] at h
      simp only [cond_false]
      exact ((H.rep s hv cv c h).keep T.z (fun b hb => (hid s b hs hb).1)).mono (fun b hb => .inr ⟨by first | exact hs | trivial | rfl, hb⟩)
  · cases hs : rd.elem s with
    | true => rw [← look_vis hs] at h; exact H'.shape s hv cv c h
    | false => rw [(look_hid hus hs).2] at h; exact H.shape s hv cv c h
  · rcases h with h | ⟨e, h⟩ <;> rcases h' with h' | ⟨e', h'⟩
    · exact H'.disj _ _ _ h h'
    · exact absurd h ((hid _ _ e' h').2.1 _)
    · exact absurd h' ((hid _ _ e h).2.1 _)
    · exact H.disj _ _ _ h h'
  · rcases h with h | ⟨e, h⟩
    · exact H'.lt _ _ h
    · exact Nat.lt_of_lt_of_le (H.lt _ _ h) T.size
  · rcases h with h | ⟨e, h⟩
    · exact H'.dz _ _ h hz
    · exact (hid _ _ e h).2.2 hz
  · cases hs : rd.elem s with
    | true =>
      have h0 : restr rd sl s = some S := by simp only [restr, hs, cond_true, h]
      obtain ⟨S', g1, g2⟩ := T.slot s S h0
      rw [look_vis hs] at g1
      refine ⟨S', g1, ?_⟩
      simp only [cond_true]
      rcases g2 with g | ⟨g3, g4, g5⟩ | ⟨g3, g4, g5⟩
      · exact .inl g
      · exact .inr (.inl ⟨g3, g4, g5⟩)
      · refine .inr (.inr ⟨g3, g4, fun c' hc' => ?_⟩)
        obtain ⟨c, k1, k2, k3, k4⟩ := g5 c' hc'
        refine ⟨c, k1, k2, fun b hb => k3 b ⟨hs, hb⟩, k4.imp (fun k => ⟨k.1, fun b hb => .inl (k.2 b ⟨hs, hb⟩)⟩) (fun k => ⟨k.1, fun b hb => k.2 b ⟨hs, hb⟩⟩)⟩
    | false =>
      refine ⟨S, by rw [(look_hid hus hs).2]; exact h, .inr (.inr ⟨rfl, rfl, fun c hc => ⟨c, hc, rfl, fun b hb => (hid s b hs hb).1, .inl ⟨rfl, fun b hb => .inr ⟨by first | exact hs | trivial | rfl, hb⟩⟩⟩⟩)⟩
  · obtain ⟨g1, g2, g3⟩ := T.old b hb (fun s hs => h1 s hs.2) h2
    exact ⟨g1, fun s hs => hs.elim (g2 s) (fun h => h1 s h.2), g3⟩
  · cases hs : rd.elem s with
    | true => rw [look_vis hs] at h; exact ⟨h, by simp only [hs, cond_true]⟩
    | false => rw [(look_hid hus hs).1] at h; cases h
theorem opW_mv {o : Oper} {h : OH} {ρ : Operand → MV} {K : MV → Ups → Option R} (hm : mvOnly o h = true) (look : Nat → Option Slot) : opW E ρ look o h K = opCore E ρ look o h K := by
  unfold mvOnly at hm
  unfold opW isM opX keeps makes
  split at hm
  · rename_i e; rw [e]; rfl
  · rename_i e e2; rw [e]; rfl
  · rename_i e; rw [e]; rfl
  · rename_i e; rw [e]; rfl
  · cases hm
theorem opD_bind {ops : Array Oper} {o : Oper} {h : OH} {st : Sm} {K : MV → Ups → Option R} : opD E ops o h st K = B2 (opD E ops o h st S2) K := by
  unfold opD
  cases mvOnly o h with
  | true => exact opW_bind ..
  | false => exact opW_bind ..
theorem opCore_mv {o : Oper} {h : OH} {ρ : Operand → MV} {K : MV → Ups → Option R} (hm : mvOnly o h = true) (look look2 : Nat → Option Slot) : opCore E ρ look o h K = opCore E ρ look2 o h K := by
  unfold mvOnly at hm
  unfold opCore
  split at hm
  · rename_i e; rw [e]
  · rename_i e e2; rw [e, e2]
  · rename_i e; rw [e]
  · rename_i e; rw [e]
  · cases hm
theorem evRunD_ok (hT : TTok E) (hE : EnvOK E) {ops : Array Oper} {o : Oper} {h : OH} (hwr : h.wr.all (fun x => h.rd.elem x) = true) {st : Sm} {K : Sm → Option R} {a : Act} {w : World} {next : Act → World → Prop} (hr : Rel Z0 w0 ns nt st a w) (hh : evRunD E ops o h st K = some r) (hK : ∀ st' a' w', K st' = some r → Rel Z0 w0 ns nt st' a' w' → next a' w') : o.wp E.P a w next Q := by
  obtain ⟨Z, hdr, fp, H, F, hn, ht, hs, hd⟩ := hr
  unfold evRunD at hh
  rw [opD_bind] at hh
  obtain ⟨⟨mv, us⟩, h1, h2⟩ := bind_some_ hh
  obtain ⟨hb, h2⟩ := cond_some h2
  have hus : ∀ u ∈ us, h.rd.elem u.1 = true := fun u hu => by
    have h3 := (List.all_eq_true.1 hb) u hu
    simp only [Bool.and_eq_true] at h3
    exact (List.all_eq_true.1 hwr) u.1 (List.elem_iff.1 h3.1)
  have hns0 : us.all (fun u => Nat.blt u.1 st.ns && okU E u) = true := List.all_eq_true.2 (fun u hu => by
    have h3 := (List.all_eq_true.1 hb) u hu
    simp only [Bool.and_eq_true] at h3 ⊢
    exact h3.2)
  obtain ⟨hns, hpk⟩ := all_and hns0
  unfold opD at h1
  cases hm : mvOnly o h with
  | true =>
    rw [hm] at h1
    simp only [cond_true] at h1
    rw [opW_mv hm, opCore_mv hm _ st.look] at h1
    have hv : ∀ x, RelV Z w st.look hdr fp (restrT (o.looksAt ops) st x) (a.eval x) := by
      intro x
      have hx := eval_rel ht x
      cases x with
      | tmp t =>
        simp only [restrT]
        cases hb : (o.looksAt ops).elem t with
        | false => exact .inl rfl
        | true => exact hx
      | const v => exact hx
      | func f => exact hx
      | global g => exact hx
    refine op_ok hT hE H ⟨st.ns, hn.1 _ (Nat.lt_irrefl _)⟩ hv h1 next Q (fun v w' Z' hdr' fp' H' T' R' => ?_)
    exact hK _ _ _ h2 (put_rel (st := ⟨st.tm, us.look st.look, st.ns, st.nt⟩) H' (F.trans H' T') ⟨ups_none hns hn.1, hn.2.ups T' hpk⟩ (fun i => (ht i).trans H H' T') hs hd R')
  | false =>
  rw [hm] at h1
  simp only [cond_false] at h1
  have HR' := restr_hr H h.rd
  have hv : ∀ x, RelV Z w (restr h.rd st.look) hdr (fpR h.rd fp) (restrE (o.looksAt ops) h.rd st x) (a.eval x) := by
    intro x
    have hx := eval_rel ht x
    cases x with
    | tmp t =>
      simp only [restrE]
      cases hb : ((o.looksAt ops).elem t && (st.tm t).sees h.rd.elem) with
      | false => exact .inl rfl
      | true =>
        simp only [Bool.and_eq_true] at hb
        refine hx.imp id (fun ⟨cs, h1, h2⟩ => ⟨cs, relC_more (P := h.rd.elem) (fun s S hp h => ⟨by simp only [restr]; rw [hp]; exact h, rfl⟩) (fun s b hp h => ⟨hp, h⟩) hb.2 h1, h2⟩)
    | const v =>
      simp only [Sm.ev] at hx
      simp only [restrE]
      refine hx.imp id (fun ⟨cs, h1, h2⟩ => ⟨cs, relC_more (P := fun _ => false) (fun _ _ h => by cases h) (fun _ _ h => by cases h) ?_ h1, h2⟩)
      unfold constMV; split <;> rfl
    | func f => exact .inr ⟨[.func (.func f) #[] #[]], ⟨[], rfl, rfl⟩, rfl⟩
    | global g => exact .inl rfl
  have hop := opW_ok hT hE HR' ⟨st.ns, by simp only [restr]; cases h.rd.elem st.ns <;> simp [hn.1 _ (Nat.lt_irrefl _)]⟩ hv h1
  refine hop next Q (fun v w' Z' hdr' fp' H' T' R' => ?_)
  obtain ⟨hdr2, fp2, H2, T2, g1, g2⟩ := unrestr H hus H' T'
  exact hK _ _ _ h2 (put_rel (st := ⟨st.tm, us.look st.look, st.ns, st.nt⟩) H2 (F.trans H2 T2) ⟨ups_none hns hn.1, hn.2.ups T2 hpk⟩ (fun i => (ht i).trans H H2 T2) hs hd (relV_more g1 g2 R'))
end
end Go.Proofs.Ytibphkgcdnconaa.V
