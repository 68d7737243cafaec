/- Append as an operation; small operations. -/
import Derived.Test.YtibphkgcdnconaaVS
namespace Go.Proofs.Ytibphkgcdnconaa.V
open Go
set_option linter.unusedVariables false
set_option linter.all false
section
variable {E : Env} {o : Oper} {a : Act} {w : World} {Z : Bs} {sl : Nat → Option Slot} {hdr : Nat → Value} {fp : Nat → Bs} {mv : MV}
theorem append_ok (hE : TTok E) (H : HR Z w sl hdr fp) {c : Call} {x y : Operand} {ty : TypeId} {h : OH} {us : Ups} {u v : MV} (ho : o.op = .call c) (hcal : c.callee = .builtin .append) (hargs : c.args.toList = [x, y]) (hty : c.argTypes.toList.take 2 = [ty, ty])
    (hx : RelV Z w sl hdr fp u (a.eval x)) (hy : RelV Z w sl hdr fp v (a.eval y))
    (hh : appendK E sl h ty u v (fun m u => some (m, u)) = some (mv, us)) : OpOK E o a w Z sl hdr fp mv (us.look sl) := by
  have harr : c.args = #[x, y] := Array.toList_inj.1 (by simpa using hargs)
  obtain ⟨tys, htys⟩ : ∃ tys, c.argTypes.toList = ty :: ty :: tys := by
    match h : c.argTypes.toList, hty with
    | a :: b :: l, hty => simp only [List.take_succ_cons, List.take_zero, List.cons.injEq, and_true] at hty; obtain ⟨rfl, rfl⟩ := hty; exact ⟨l, rfl⟩
  have hrun : ∀ v' w', (Builtin.append_ #[ty, ty] o.type #[a.eval x, a.eval y]).run E.P w = .ok v' w' → (execOp a.eval o).run E.P w = .ok (.value v') w' := by
    intro v' w' hr
    have ht0 : c.argTypes[0]? = some ty := by rw [← Array.getElem?_toList, htys]; rfl
    have ht1 : c.argTypes[1]? = some ty := by rw [← Array.getElem?_toList, htys]; rfl
    have hsame : Builtin.append_ c.argTypes o.type #[a.eval x, a.eval y] = Builtin.append_ #[ty, ty] o.type #[a.eval x, a.eval y] := by
      simp only [Builtin.append_, ht0, ht1]; rfl
    unfold execOp; rw [ho]
    simp only [resolve, hcal, harr, pure_bind, invoke, builtin]
    simp only [Sem.run_bind, List.map_toArray, List.map_cons, List.map_nil, hsame, hr, Result.andThen_ok, Sem.run_pure]
  unfold appendK at hh
  split at hh
  · rename_i t bytes htt
    have hT := hE _ _ _ htt
    obtain ⟨e, ne, hu, hel⟩ := hT.desc
    have hTe := hE _ _ _ hel
    split at hh
    · -- nil
      split at hh
      · rename_i n _ _
        split at hh
        · rename_i S hS
          split at hh
          · rename_i ys us1 hsrc
            cases hb0 : us1.any (fun u => Nat.beq u.1 n) with
            | true => rw [hb0] at hh; cases hh
            | false =>
            rw [hb0] at hh
            simp only [cond_false] at hh
            obtain ⟨hb, hh⟩ := chk_some hh
            simp only [Option.some.injEq, Prod.mk.injEq] at hh
            obtain ⟨rfl, rfl⟩ := hh
            have hb := lenB_ok hb
            have hl : ys.length ≤ 70368744177664 := by omega
            have hbb : ys.length * ne ≤ 68719476736 * 1024 := Nat.mul_le_mul hb hTe.small
            obtain ⟨Z', fp', F, cs, SR⟩ := srcOf_ok H hsrc hy
            rcases hx with h0 | ⟨cx, ⟨A, hA⟩, he⟩
            · cases h0
            have hev : a.eval x = .slice A 0 0 := by rw [he, hA]; rfl
            have hn : us1.look sl n = some S := (look_other hb0).trans hS
            obtain ⟨v', w', hdr', fp2, g1, g2, g3, g4, g5⟩ := app_new (E := E) (ty := o.type) (A := A) SR hu hTe (by omega) hl hn
            rw [look_cons]
            refine .val (hrun _ _ (by rw [hev]; exact g1)) g2 (SR.tr.comp g3) ?_
            have := relV_root (Z := Z') (w := w') (sl := put (us1.look sl) n ⟨S.hv + 1, 0, some ⟨.sl t, .ow h.m, ys⟩⟩) (hdr := hdr') (fp := fp2) (n := n) (S := S) (c := ⟨.sl t, .ow h.m, ys⟩) (by rw [g4]; exact g5) (by simp [put])
            rw [g4] at this; exact this
          · cases hh
        · cases hh
      · cases hh
    · -- root
      rename_i s hv
      split at hh
      · rename_i cv t' m xs hlk
        split at hh
        · rename_i e1; subst e1
          split at hh
          · rename_i ys us1 hsrc
            cases hb0 : us1.any (fun u => Nat.beq u.1 s) with
            | true => rw [hb0] at hh; cases hh
            | false =>
              rw [hb0] at hh
              simp only [cond_false] at hh
              obtain ⟨hb, hh⟩ := chk_some hh
              simp only [Option.some.injEq, Prod.mk.injEq] at hh
              obtain ⟨rfl, rfl⟩ := hh
              have hb := lenB_ok hb
              have hl : xs.length + ys.length ≤ 70368744177664 := by omega
              have hbb : (xs.length + ys.length) * ne ≤ 68719476736 * 1024 := Nat.mul_le_mul hb hTe.small
              obtain ⟨Z', fp', F, cs, SR⟩ := srcOf_ok H hsrc hy
              have e2 := lookH_some hlk
              rcases hx with h0 | ⟨cx, ⟨_, S0, q1, _, q3⟩, he⟩
              · cases h0
              rw [e2] at q1; obtain rfl := Option.some.inj q1
              obtain rfl := q3 rfl _ rfl
              have hev : a.eval x = hdr s := by rw [he]; rfl
              obtain ⟨v', w', hdr', fp2, g1, g2, g3, g4, g5⟩ := app_root (E := E) (ty := o.type) SR hu hTe (by omega) hl ((look_other hb0).trans e2)
              rw [look_cons]
              refine .val (hrun _ _ (by rw [hev]; exact g1)) g2 (SR.tr.comp g3) ?_
              have := relV_root (Z := Z') (w := w') (sl := put (us1.look sl) s ⟨hv + 1, 0, some ⟨.sl t', .ow m, xs ++ ys⟩⟩) (hdr := hdr') (fp := fp2) (n := s) (S := ⟨hv, cv, none⟩) (c := ⟨.sl t', .ow m, xs ++ ys⟩) (by rw [g4]; exact g5) (by simp [put])
              rw [g4] at this; exact this
          · cases hh
        · cases hh
      · cases hh
    · -- view
      rename_i s hv cv p0 p1 t' xs
      split at hh
      · rename_i c0 hlk
        simp only at hh
        split at hh
        · rename_i m0 m hm0 hmk
          split at hh
          · rename_i e1; subst e1
            split at hh
            · rename_i ys us1 hsrc
              cases hb0 : (us1.any (fun u => Nat.beq u.1 s) || !(t'.flat || t'.shared m)) with
              | true => rw [hb0] at hh; cases hh
              | false =>
                rw [hb0] at hh
                simp only [cond_false] at hh
                simp only [Bool.or_eq_false_iff, Bool.not_eq_false'] at hb0
                obtain ⟨hb, hh⟩ := chk_some hh
                simp only [Option.some.injEq, Prod.mk.injEq] at hh
                obtain ⟨rfl, rfl⟩ := hh
                have hb := lenB_ok hb
                have hl : xs.length + ys.length ≤ 70368744177664 := by omega
                have hbb : (xs.length + ys.length) * ne ≤ 68719476736 * 1024 := Nat.mul_le_mul hb hTe.small
                obtain ⟨Z', fp', F, cs, SR⟩ := srcOf_ok H hsrc hy
                have e2 := lookC_some hlk
                rcases hx with h0 | ⟨cx, ⟨hcl, S0, q1, _, q3⟩, he⟩
                · cases h0
                rw [e2] at q1; obtain rfl := Option.some.inj q1
                obtain ⟨_, hp⟩ := (q3 rfl).2 rfl c0 rfl
                obtain ⟨hg, hsb⟩ := hp _ rfl
                have how : c0.m.isOw = true := by rw [hm0]; rfl
                have hs1 := (look_other hb0.1).trans e2
                have hsubc : subc w c0.t [hdr s] (p0 :: p1) = some cx := (hsb how).1
                obtain ⟨hd, v', w', hdr', fp2, g0, g1, g2, g3, g4⟩ := app_view (E := E) (ty := o.type) SR hu hTe (by omega) hl hb0.2 hs1 how hg hmk hsubc
                have hev : a.eval x = hd := by rw [he, g0]; rfl
                rw [look_cons]
                exact .val (hrun _ _ (by rw [hev]; exact g1)) g2 (SR.tr.comp g3) g4
            · cases hh
          · cases hh
        · cases hh
      · cases hh
    · cases hh
  · cases hh
end
end Go.Proofs.Ytibphkgcdnconaa.V
