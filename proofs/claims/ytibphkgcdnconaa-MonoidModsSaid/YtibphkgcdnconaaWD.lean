/- What the small machine says of code holds of the machine, continued: code and loops. -/
import Derived.Test.YtibphkgcdnconaaWH
namespace Go.Proofs.Ytibphkgcdnconaa.V
open Go
set_option linter.unusedVariables false
set_option linter.all false
section
variable {E : Env} {Z0 : Ctx E.io} {w0 : World} {ns nt : Nat}
/-- A loop that may be begun again. -/
def Again (P : Program) (c : Code) (Q : Exit → Act → World → Prop) (a : Act) (w : World) : Prop :=
  ∀ (b : Frame) (k : List Item) (cs : List Frame), ∃ e a' w', Q e a' w' ∧ Arrives P (lone (b.at a (.code c :: .inLoop c :: k)) cs w) b k cs e a' w'
theorem again_loop {P : Program} {c : Code} {Q : Exit → Act → World → Prop} {a : Act} {w : World} (h : Again P c Q a w) : (Code.loop c).wp P Q a w := fun b k cs =>
  let ⟨e, a', w', q, r⟩ := h b k cs; ⟨e, a', w', q, .of_steps (.one step_loop) r⟩
theorem again_round {P : Program} {c : Code} {Q : Exit → Act → World → Prop} {a : Act} {w : World} (h : c.wp P (Exit.then (Again P c Q) Q) a w) : Again P c Q a w := by
  intro b k cs
  obtain ⟨e, a₁, w₁, hq, harr⟩ := h b (.inLoop c :: k) cs
  cases e with
  | normal =>
    obtain ⟨e₂, a₂, w₂, hq₂, harr₂⟩ := hq b k cs
    exact ⟨e₂, a₂, w₂, hq₂, .of_steps (Steps.trans harr (.one step_inLoop)) harr₂⟩
  | exit id => exact ⟨_, a₁, w₁, hq, .pass (x := .inLoop c) rfl (fun _ _ => .inl (by simp)) harr⟩
  | goto l => exact ⟨_, a₁, w₁, hq, .pass (x := .inLoop c) rfl (fun _ _ => .inl (by simp)) harr⟩
  | ret => exact ⟨_, a₁, w₁, hq, .pass (x := .inLoop c) rfl (fun _ _ => .inl (by simp)) harr⟩
  | panic ch => exact ⟨_, a₁, w₁, hq, .pass (x := .inLoop c) rfl (fun _ _ => .inl (by simp)) harr⟩
  | outgrown => exact ⟨_, a₁, w₁, hq, .pass (x := .inLoop c) rfl (fun _ _ => .inl (by simp)) harr⟩
theorem sameN_eq : ∀ {l k : List Nat}, sameN l k = true → l = k
  | [], [], _ => rfl
  | a :: l, b :: k, h => by
    simp only [sameN, Bool.and_eq_true] at h
    rw [Nat.eq_of_beq_eq_true h.1, sameN_eq h.2]
  | [], _ :: _, h => by cases h
  | _ :: _, [], h => by cases h
/-- What the code does, told of one piece. -/
def Good (E : Env) (Z0 : Ctx E.io) (w0 : World) (ns nt : Nat) (L : List Spec) (n : Nat) (root : Code) (h : Hint) (c : Code) : Prop :=
  ∀ {ps : List Nat} {st : Sm} {R : Type} {r : R} {K : Exit → Sm → Option R} {a : Act} {w : World} {Q : Exit → Act → World → Prop}, codeAt root ps = some c → evC E L n h c ps st K = some r → Rel Z0 w0 ns nt st a w →
    (∀ e st' a' w', K e st' = some r → Rel Z0 w0 ns nt st' a' w' → Q e a' w') → c.wp E.P Q a w
/-- The bodies of the loops are told rightly. -/
def LoopsOK (E : Env) (ns nt : Nat) (L : List Spec) (n : Nat) (root : Code) : Prop :=
  ∀ s ∈ L, ∀ d, ((codeAt root s.path).bind fun c => evC E L n s.h c s.path (s.inp.mk_ ns nt d) (finL s)) = s.body d
theorem iter_ok {L : List Spec} {n : Nat} {root : Code} (hL : LoopsOK E ns nt L n root) {s : Spec} (hs : s ∈ L) {c : Code} (hc : codeAt root s.path = some c) (hg : Good E Z0 w0 ns nt L n root s.h c)
    {R : Type} {r : R} {K : Exit → Sm → Option R} {Q : Exit → Act → World → Prop} (hK : ∀ e st' a' w', K e st' = some r → Rel Z0 w0 ns nt st' a' w' → Q e a' w') :
    ∀ (m : Nat) {d : s.inp.den} {a : Act} {w : World}, (iterN s.body m d).bind (elO ns nt K s.outs) = some r → Rel Z0 w0 ns nt (s.inp.mk_ ns nt d) a w → Again E.P c Q a w
  | 0, d, a, w, h, hr => by cases h
  | m + 1, d, a, w, h, hr => by
    obtain ⟨o, ho, h⟩ := bind_some_ h
    simp only [iterN] at ho
    obtain ⟨y, hy, ho⟩ := bind_some_ ho
    have e := hL s hs d
    rw [hc, Option.bind_some, hy] at e
    refine again_round (hg hc e hr (fun e st' a' w' hf hr' => ?_))
    cases e with
    | normal =>
      simp only [finL] at hf
      split at hf
      · rename_i d' hd'
        obtain rfl := Option.some.inj hf
        simp only [Sum.elim_inl] at ho
        have hn := rd_rel hd' hr'
        obtain ⟨_, _, _, _, _, _, _, _, _, e1, e2⟩ := hr'
        rw [e1, e2] at hn
        exact iter_ok hL hs hc hg hK m (by rw [ho]; exact h) hn
      · cases hf
    | _ =>
      simp only [finL] at hf
      split at hf
      · rename_i d' hd'
        obtain rfl := Option.some.inj hf
        simp only [Sum.elim_inr, Option.some.injEq] at ho
        subst ho
        obtain ⟨st2, h1, h2, _⟩ := finO_rel s.outs hd' hr' K
        obtain ⟨_, _, _, _, _, _, _, _, _, e1, e2⟩ := hr'
        rw [e1, e2] at h1
        exact hK _ _ _ _ (h1.symm.trans h) h2
      · cases hf
theorem evC_ok (hT : TTok E) (hE : EnvOK E) {L : List Spec} {n : Nat} {root : Code} (hL : LoopsOK E ns nt L n root) : ∀ (N : Nat) (h : Hint) (c : Code), SizeOf.sizeOf c ≤ N → Good E Z0 w0 ns nt L n root h c := by
  intro N
  induction N with
  | zero => intro h c hN; cases c <;> simp at hN
  | succ N ihN =>
  intro h
  induction h with
  | leaf =>
    intro c hN ps st R r K a w Q hc hh hr hK
    simp only [evC] at hh
    split at hh
    · exact wp_skip (hK _ _ _ _ hh hr)
    · exact wp_ret (hK _ _ _ _ hh hr)
    · exact wp_exit (hK _ _ _ _ hh hr)
    · cases hh
  | reg hs =>
    intro c hN ps st R r K a w Q hc hh hr hK
    simp only [evC] at hh
    split at hh
    · exact wp_region (evOps_ok hT hE (fun st' a' w' h1 h2 => hK _ _ _ _ h1 h2) hr hh)
    · obtain ⟨hb, hh⟩ := cond_some hh
      exact draw_ok hT hE hb hh hr (fun st' a' w' h1 h2 => hK _ _ _ _ h1 h2)
    · cases hh
  | seq h1 h2 ih1 ih2 =>
    intro c hN ps st R r K a w Q hc hh hr hK
    simp only [evC] at hh
    split at hh
    · rename_i x y
      simp only [Code.seq.sizeOf_spec] at hN
      refine wp_seq (ih1 x (by omega) (ps := 0 :: ps) (by simp only [codeAt, hc, Option.bind_some, sub]) hh hr (fun e st' a' w' hk hr' => ?_))
      cases e with
      | normal => exact ih2 y (by omega) (ps := 1 :: ps) (by simp only [codeAt, hc, Option.bind_some, sub]) hk hr' hK
      | _ => exact hK _ _ _ _ hk hr'
    · cases hh
  | cond h1 h2 ih1 ih2 =>
    intro c hN ps st R r K a w Q hc hh hr hK
    simp only [evC] at hh
    split at hh
    · rename_i t x y
      simp only [Code.cond.sizeOf_spec] at hN
      split at hh
      · rename_i v hv
        obtain ⟨hev, hb, hr'⟩ := rel_put_bool hr hv
        cases v with
        | true => exact wp_cond_true hev (ih1 x (by omega) (ps := 0 :: ps) (by simp only [codeAt, hc, Option.bind_some, sub]) hh hr' hK)
        | false => exact wp_cond_false hev (ih2 y (by omega) (ps := 1 :: ps) (by simp only [codeAt, hc, Option.bind_some, sub]) hh hr' hK)
      · cases hh
    · cases hh
  | blk h ih =>
    intro c hN ps st R r K a w Q hc hh hr hK
    simp only [evC] at hh
    split at hh
    · rename_i id c
      simp only [Code.block.sizeOf_spec] at hN
      refine wp_block (ih c (by omega) (ps := 0 :: ps) (by simp only [codeAt, hc, Option.bind_some, sub]) hh hr (fun e st' a' w' hk hr' => ?_))
      cases e with
      | exit i =>
        simp only [Exit.inBlock]
        simp only at hk
        cases hb : Nat.beq i id with
        | true =>
          rw [hb] at hk
          rw [if_pos (Nat.eq_of_beq_eq_true hb)]
          exact hK _ _ _ _ hk hr'
        | false =>
          rw [hb] at hk
          rw [if_neg (fun e => by subst e; simp at hb)]
          exact hK _ _ _ _ hk hr'
      | _ => exact hK _ _ _ _ hk hr'
    · cases hh
  | loop lid =>
    intro c hN ps st R r K a w Q hc hh hr hK
    simp only [evC] at hh
    split at hh
    · rename_i c
      simp only [Code.loop.sizeOf_spec] at hN
      split at hh
      · rename_i s hs
        obtain ⟨hb, hh⟩ := cond_some hh
        have hp := sameN_eq hb
        split at hh
        · rename_i d hd
          have hn := rd_rel hd hr
          obtain ⟨_, _, _, _, _, _, _, _, _, e1, e2⟩ := hr
          rw [e1, e2] at hn
          rw [e1, e2] at hh
          exact again_loop (iter_ok hL (List.mem_of_getElem? hs) (by rw [hp]; simp only [codeAt, hc, Option.bind_some, sub]) (ihN s.h c (by omega)) hK n hh hn)
        · cases hh
      · cases hh
    · cases hh
  | join outs h ih =>
    intro c hN ps st R r K a w Q hc hh hr hK
    simp only [evC] at hh
    obtain ⟨d, hd, hh⟩ := bind_some_ hh
    have hr0 := hr
    obtain ⟨_, _, _, _, _, _, _, _, _, e1, e2⟩ := hr0
    rw [e1, e2] at hh
    refine ih c hN hc hd hr (fun e st' a' w' hf hr' => ?_)
    obtain ⟨st2, h1, h2, _⟩ := finO_rel outs hf hr' K
    obtain ⟨_, _, _, _, _, _, _, _, _, e3, e4⟩ := hr'
    rw [e3, e4] at h1
    exact hK _ _ _ _ (h1.symm.trans hh) h2
end
end Go.Proofs.Ytibphkgcdnconaa.V
