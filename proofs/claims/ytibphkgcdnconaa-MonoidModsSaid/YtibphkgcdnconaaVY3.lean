/- Arrays; the further operations together. -/
import Derived.Test.YtibphkgcdnconaaVY2
namespace Go.Proofs.Ytibphkgcdnconaa.V
open Go
set_option linter.unusedVariables false
set_option linter.all false
section
variable {E : Env} {o : Oper} {a : Act} {w : World} {Z : Bs} {sl : Nat → Option Slot} {hdr : Nat → Value} {fp : Nat → Bs} {mv : MV} {ρ : Operand → MV}
theorem TM.inlineL {Z : Bs} {w : World} {t : Ty} : ∀ {l : List (Nat × t.den)} {cps : List (Nat × List Value)} {F : Bs} {xs : List t.den} {css : List (List Value)}, TM Z w t .im l cps F → InlineL (fun x f c => Rep Z w t .im x f c) xs none_ css → (∀ p ∈ l, p.1 < xs.length) → InlineL (fun x f c => Rep Z w t .im x f c) (setMany xs l) none_ (setMany css cps)
  | [], cps, F, xs, css, h, hi, _ => by rw [show cps = [] from h]; exact hi
  | (i, x) :: l, cps, F, xs, css, ⟨c, cps', F1, F2, e, h1, h2, _⟩, hi, hb => by
    rw [e]
    have h0 := hb (i, x) (by simp)
    have hs := hi.set (i := i) (x := x) (c := c) h0 (h1.share (shared_im _)) (fun _ h => h.elim)
    exact TM.inlineL (l := l) (cps := cps') (xs := xs.set i x) (css := css.set i c) h2 (InlineL.mono0 (by rintro k (hk | hk) <;> exact hk) hs) (fun p hp => by rw [List.length_set]; exact hb p (by simp [hp]))
theorem build_arr_ok (hE : TTok E) {e : TypeId} {n : Nat} {t : Ty} {nb : Nat} {parts : Array (Nat × Operand)} {l : List (Nat × t.den)} {us : Ups} (H : HR Z w sl hdr fp) (ho : o.op = .build e parts) (ht : E.tt e = some (.arr n t, nb))
    (hρ : ∀ x, RelV Z w sl hdr fp (ρ x) (a.eval x)) (htk : takeMany t .im sl (parts.toList.map fun p => (p.1, ρ p.2)) = some (l, us)) (hb : ∀ p ∈ l, p.1 < n) : OpOK E o a w Z sl hdr fp (.val (.arr n t) (setMany (List.replicate n t.zero) l)) (us.look sl) := by
  have hT := hE _ _ _ ht
  obtain ⟨el, nl, hu, hel⟩ := hT.desc
  have hTe := hE _ _ _ hel
  obtain ⟨i, z, i1, i2, i3, i4, i5⟩ := hT.info
  obtain ⟨ie, ze, j1, j2, j3, j4, j5⟩ := hTe.info
  obtain ⟨Z1, fp1, F, cps, T1, hTM, hand, hnm, hnm2, hcs⟩ := takeMany_sound (parts.toList.map fun p => (p.1, ρ p.2)) (parts.toList.map fun p => (p.1, a.eval p.2)) htk H (by simp) (fun k p v hp hv => by
    rw [List.getElem?_map] at hp hv
    cases hk : parts.toList[k]? with
    | none => rw [hk] at hp; cases hp
    | some q =>
      rw [hk] at hp hv
      simp only [Option.map_some, Option.some.injEq] at hp hv
      subst hp; subst hv
      exact hρ _)
  have hi := TM.inlineL hTM (InlineL.replicate (R := fun x f c => Rep Z1 w t .im x f c) (fun f => Rep.zero Z1 w t .im f) n none_) (fun p hp => by rw [List.length_replicate]; exact hb p hp)
  have hz : z.cells = (List.replicate n t.zcells).flatten.toArray := Array.toList_inj.1 (by rw [i5]; rfl)
  have hfill : Instr.fill (fun i => some (i * ie.size, ie.size)) z.cells (parts.map fun p => (p.1, a.eval p.2)).toList = some (setMany (List.replicate n t.zcells) cps).flatten.toArray := by
    rw [hz, j2, Array.toList_map]
    refine fill_all _ cps _ (fun i c hc => ?_) hnm (fun k p q hp hq => ?_)
    · have hi : i < n := by
        rcases Nat.lt_or_ge i n with h | h
        · exact h
        · rw [List.getElem?_eq_none (by simpa using h)] at hc; cases hc
      rw [List.getElem?_replicate, if_pos hi] at hc
      obtain rfl := Option.some.inj hc
      simp [startOf, List.take_replicate, Nat.min_eq_left (Nat.le_of_lt hi), t.zcells_len]
    · obtain ⟨q1, q2⟩ := hcs k p q hp hq
      refine ⟨q1, t.zcells, ?_, by rw [q2, t.zcells_len]⟩
      rw [List.getElem?_replicate, if_pos]
      have hm1 : (parts.toList.map fun p => (p.1, a.eval p.2)).map (·.1) = (parts.toList.map fun p => (p.1, ρ p.2)).map (·.1) := by simp
      have : p.1 ∈ l.map (·.1) := by
        rw [hnm2, ← hm1]
        exact List.mem_map.2 ⟨p, List.mem_of_getElem? hp, rfl⟩
      obtain ⟨p', hp', e'⟩ := List.mem_map.1 this
      rw [← e']; exact hb p' hp'
  have hbuilt : E.P.built e (parts.map fun p => (p.1, a.eval p.2)).toList = some (setMany (List.replicate n t.zcells) cps).flatten.toArray := by
    unfold Program.built
    simp only [i1, hu, i4, j1]
    exact hfill
  have hrun : (execOp a.eval o).run E.P w = .ok (.value (.agg (setMany (List.replicate n t.zcells) cps).flatten.toArray)) w := by
    have := run_build w e (parts.map fun p => (p.1, a.eval p.2)) _ hbuilt
    unfold execOp; rw [ho]
    simp only [Sem.run_bind, this, Result.andThen_ok, Sem.run_pure]
  refine .val hrun T1.hr T1.tr (.inr ⟨_, ⟨by rw [setMany_len, List.length_replicate], hi.inline⟩, rfl⟩)
theorem arr_el {n : Nat} {t : Ty} {m : Mk} {xs : List t.den} {f : Bs} {cs : List Value} {i : Int} {v : t.den} (hr : Rep Z w (.arr n t) m xs f cs) (hi : idx xs i = some v) :
    0 ≤ i ∧ i < n ∧ ∃ fi ci pre post, cs = pre ++ (ci ++ post) ∧ pre.length = i.toNat * t.size ∧ Rep Z w t m v fi ci ∧ (∀ k, fi k → f k) := by
  obtain ⟨h1, h2, h3⟩ := idx_some hi
  obtain ⟨hl, hin⟩ := hr
  obtain ⟨fi, ci, pre, post, e, hpl, hri, hsi, _⟩ := Inline.at_ (fun x f c h => Rep.len h) hin h3
  exact ⟨h1, by rw [← hl]; exact h2, fi, ci, pre, post, e, hpl, hri, hsi⟩
theorem index_ok (hE : TTok E) (H : HR Z w sl hdr fp) {e : TypeId} {x i : Operand} {n : Nat} {t : Ty} {xs : List t.den} {k : IntKind} {m : Int} {v : t.den} (ho : o.op = .index e x i) (hx : RelV Z w sl hdr fp (.val (.arr n t) xs) (a.eval x)) (hi : RelV Z w sl hdr fp (.val (.int k) m) (a.eval i))
    (ht : tyB E e (.arr n t) = true) (hv : idx xs m = some v) : OpOK E o a w Z sl hdr fp (.val t v) (Ups.look [] sl) := by
  obtain ⟨nb, hT⟩ := tyB_ok hE ht
  obtain ⟨el, ne, hu, hel⟩ := hT.desc
  have hTe := hE _ _ _ hel
  rcases hx with hx | ⟨cs, hr, he⟩
  · cases hx
  obtain ⟨g0, g1, fi, ci, pre, post, rfl, hpl, hri, hsi⟩ := arr_el hr hv
  have he : a.eval x = .agg (pre ++ (ci ++ post)).toArray := he
  have hp := run_part_ (E := E) (w := w) hTe (cs := pre ++ (ci ++ post)) (off := m.toNat * t.size) (by simp [hpl, hri.len])
  rw [← hpl, List.drop_left, ← hri.len, List.take_left, hpl] at hp
  have hrun : (execOp a.eval o).run E.P w = .ok (.value (t.val ci)) w := by
    unfold execOp; rw [ho]
    simp only [Sem.run_bind, Instr.index, he, hi.int, asIntOf, Sem.run_pure, run_underlying hu, Result.andThen_ok, g0, g1, and_self, if_true, hTe.size w]
    rw [← hri.len] at hp
    simp only [hri.len] at hp
    simp [hp]
  exact .same H hrun (.inr ⟨ci, hri.none (fun k hk => (hsi k hk).elim), rfl⟩)
theorem run_index_arr {e el : TypeId} {n nb : Nat} {t : Ty} (hu : E.P.underlying e = some (.array n el)) (hT : TyOK E el t nb) (b o : Nat) (k : IntKind) (i : Int) (h0 : 0 ≤ i) (h1 : i < n) :
    (Instr.indexAt e (.pointer (some ⟨b, o, none⟩)) (.int k i)).run E.P w = .ok (.pointer (some ⟨b, o + i.toNat * t.size, none⟩)) w := by
  simp only [Instr.indexAt, asIntOf, pure_bind, Sem.run_bind, run_underlying hu, Result.andThen_ok, Instr.sureAddr, Sem.run_pure, h0, h1, and_self, if_true, hT.size w, add_none]
theorem indexAddr_arr_ok (hE : TTok E) (H : HR Z w sl hdr fp) {e : TypeId} {x i : Operand} {n : Nat} {t : Ty} {xs : List t.den} {k : IntKind} {m : Int} {v : t.den} {s hv cv : Nat} {po : Option Path} (ho : o.op = .indexAddr e x i) (hx : RelV Z w sl hdr fp (.adr s hv cv po (.arr n t) xs) (a.eval x)) (hi : RelV Z w sl hdr fp (.val (.int k) m) (a.eval i))
    (ht : tyB E e (.arr n t) = true) (hc : (lookC sl s hv cv).isSome = true) (hvv : idx xs m = some v) : OpOK E o a w Z sl hdr fp (.adr s hv cv (po.map (· ++ [.el m.toNat])) t v) (Ups.look [] sl) := by
  obtain ⟨nb, hT⟩ := tyB_ok hE ht
  obtain ⟨el, ne, hu, hel⟩ := hT.desc
  have hTe := hE _ _ _ hel
  rcases hx with hx | ⟨cs, hr, he⟩
  · cases hx
  obtain ⟨hcl, S, h1, h2, h3⟩ := hr
  cases hcl2 : lookC sl s hv cv with
  | none => rw [hcl2] at hc; cases hc
  | some c =>
    have e2 := lookC_some hcl2
    rw [e2] at h1; obtain rfl := Option.some.inj h1
    obtain ⟨b, o', ks, hcs, hat, hbz, hz, ⟨mm, f, hrep, hf, hfz⟩, hp⟩ := (h3 rfl).2 rfl c rfl
    have hev : a.eval x = .pointer (some ⟨b, o', none⟩) := by rw [he, hcs]; rfl
    obtain ⟨g0, g1, fi, ci, pre, post, rfl, hpl, hri, hsi⟩ := arr_el hrep hvv
    obtain ⟨a1, a2⟩ := At.app.1 hat
    obtain ⟨a3, a4⟩ := At.app.1 a2
    rw [hpl] at a3
    have hrun : (execOp a.eval o).run E.P w = .ok (.value (.pointer (some ⟨b, o' + m.toNat * t.size, none⟩))) w := by
      unfold execOp; rw [ho]
      simp only [Sem.run_bind, hev, hi.int, run_index_arr (w := w) hu hTe b o' k m g0 g1, Result.andThen_ok, Sem.run_pure]
    refine .same H hrun (.inr ⟨[.pointer (some ⟨b, o' + m.toNat * t.size, none⟩)], ⟨⟨rfl, fun u hu => by obtain rfl := List.mem_singleton.1 hu; rfl⟩, _, e2, Nat.le_refl _, fun _ => ⟨Nat.le_refl _, fun _ c' hc' => ?_⟩⟩, rfl⟩)
    obtain rfl := Option.some.inj hc'
    refine ⟨b, _, ci, rfl, a3, hbz, hz, ⟨mm, fi, hri, fun k hk => hf k (hsi k hk), fun h k hk => hfz h k (hsi k hk)⟩, fun p hp0 => ?_⟩
    cases po with
    | none => cases hp0
    | some p0 =>
      simp only [Option.map_some, Option.some.injEq] at hp0
      subst hp0
      obtain ⟨⟨g5, g6⟩, g7⟩ := hp p0 rfl
      have ht' : tyP c.t p0 = some (.arr n t) := getP_ty g5
      obtain ⟨_, _, h3'⟩ := idx_some hvv
      have hgel : getP (.arr n t) xs [.el m.toNat] = some ⟨t, v⟩ := by
        simp only [getP, h3']
      have hsub0 : subc w (.arr n t) (pre ++ (ci ++ post)) [.el m.toNat] = some ci := by
        simp only [subc]
        rw [← hpl, List.drop_left, ← hri.len, List.take_left]
      have hadr0 : ∀ here : Option (Nat × Nat), addrOf w (.arr n t) (pre ++ (ci ++ post)) here [.el m.toNat] = here.map fun h => (h.1, h.2 + m.toNat * t.size) := by
        intro here
        simp only [addrOf]
      refine ⟨⟨by rw [getP_app p0 _ g5]; exact hgel, fun how => ?_⟩, fun how => ?_⟩
      · obtain ⟨q1, m1, q2⟩ := g6 how
        have hsub := subc_app (w := w) p0 [.el m.toNat] q1 ht'
        refine ⟨by rw [hsub.1]; exact hsub0, m1, ?_⟩
        rw [mkP_app p0 _ q2 ht']
        simp only [mkP]
      · obtain ⟨q1, m1, q2⟩ := g6 how
        have hsub := subc_app (w := w) p0 [.el m.toNat] q1 ht'
        rw [hsub.2, hadr0, g7 how]; rfl
theorem indexAddr_arr_im_ok (hE : TTok E) (H : HR Z w sl hdr fp) {e : TypeId} {x i : Operand} {n : Nat} {t : Ty} {xs : List t.den} {k : IntKind} {m : Int} {v : t.den} (ho : o.op = .indexAddr e x i) (hx : RelV Z w sl hdr fp (.iadr (.arr n t) xs) (a.eval x)) (hi : RelV Z w sl hdr fp (.val (.int k) m) (a.eval i))
    (ht : tyB E e (.arr n t) = true) (hvv : idx xs m = some v) : OpOK E o a w Z sl hdr fp (.iadr t v) (Ups.look [] sl) := by
  obtain ⟨nb, hT⟩ := tyB_ok hE ht
  obtain ⟨el, ne, hu, hel⟩ := hT.desc
  have hTe := hE _ _ _ hel
  rcases hx with hx | ⟨cs, ⟨b, o', ks, hcs, hat, hz, hrep⟩, he⟩
  · cases hx
  have hev : a.eval x = .pointer (some ⟨b, o', none⟩) := by rw [he, hcs]; rfl
  obtain ⟨g0, g1, fi, ci, pre, post, rfl, hpl, hri, hsi⟩ := arr_el hrep hvv
  obtain ⟨a1, a2⟩ := At.app.1 hat
  obtain ⟨a3, a4⟩ := At.app.1 a2
  rw [hpl] at a3
  have hrun : (execOp a.eval o).run E.P w = .ok (.value (.pointer (some ⟨b, o' + m.toNat * t.size, none⟩))) w := by
    unfold execOp; rw [ho]
    simp only [Sem.run_bind, hev, hi.int, run_index_arr (w := w) hu hTe b o' k m g0 g1, Result.andThen_ok, Sem.run_pure]
  exact .same H hrun (.inr ⟨_, ⟨b, _, ci, rfl, a3, hz, hri.none (fun k hk => (hsi k hk).elim)⟩, rfl⟩)
theorem opM_ok (hT : TTok E) (H : HR Z w sl hdr fp) {h : OH} {us : Ups} (hρ : ∀ x, RelV Z w sl hdr fp (ρ x) (a.eval x)) (hh : opM E ρ sl o h (fun m u => some (m, u)) = some (mv, us)) : OpOK E o a w Z sl hdr fp mv (us.look sl) := by
  unfold opM at hh
  split at hh
  -- makeMap
  · rename_i e ho
    split at hh
    · rename_i k v nb ht
      exact makeMap_ok hT H ho ht hh
    · cases hh
  -- lookup
  · rename_i e m i ok ho
    split at hh
    · rename_i k v xs k' y hm hi
      obtain ⟨hb, hh⟩ := cond_some hh
      split at hh
      · rename_i ek
        subst ek
        have gi := hρ i
        rw [hi] at gi
        obtain ⟨val, h1, h2⟩ := lookup_ok hT H ho (hρ m) gi hm hb
        cases ok with
        | true =>
          simp only [cond_true, Option.some.injEq, Prod.mk.injEq] at hh
          obtain ⟨rfl, rfl⟩ := hh
          refine .same H h2 (.inr ⟨[val, .bool _], ?_, rfl⟩)
          rcases h1 with h1 | ⟨c1, h1, h3⟩
          · cases h1
          · exact ⟨c1, val, _, rfl, .inr ⟨h1, h3⟩, [.bool _], .bool _, [], rfl, .inr ⟨rfl, rfl⟩, rfl⟩
        | false =>
          simp only [cond_false, Option.some.injEq, Prod.mk.injEq] at hh
          obtain ⟨rfl, rfl⟩ := hh
          exact .same H h2 h1
      · cases hh
    · cases hh
  -- mapUpdate
  · rename_i e m i x ho
    split at hh
    · rename_i s hv k' y hm hi
      split at hh
      · rename_i cv k v q xs hl
        obtain ⟨hb, hh⟩ := cond_some hh
        simp only [Bool.and_eq_true] at hb
        split at hh
        · rename_i ek
          subst ek
          split at hh
          · rename_i z us1 htk
            cases hus : us1.any (fun u => Nat.beq u.1 s) with
            | true => rw [hus] at hh; cases hh
            | false =>
              rw [hus] at hh
              simp only [cond_false] at hh
              obtain ⟨l, rfl, hh⟩ := bind_some_ hh
              simp only [Option.bind_some, Option.some.injEq, Prod.mk.injEq] at hh
              obtain ⟨rfl, rfl⟩ := hh
              have gm := hρ m
              rw [hm] at gm
              have gi := hρ i
              rw [hi] at gi
              exact mapUpdate_ok hT H ho gm gi (hρ x) hl hb.1.1 hb.1.2 htk hus (Nat.le_trans (Nat.le_of_ble_eq_true hb.2) (by decide))
          · cases hh
        · cases hh
      · cases hh
    · cases hh
  -- build
  · rename_i e parts ho
    split at hh
    · rename_i n t nb ht
      split at hh
      · rename_i l us1 htk
        obtain ⟨hb, hh⟩ := chk_some hh
        simp only [Option.some.injEq, Prod.mk.injEq] at hh
        obtain ⟨rfl, rfl⟩ := hh
        exact build_arr_ok hT H ho ht hρ htk (fun p hp => Nat.lt_of_succ_le (Nat.le_of_ble_eq_true (List.all_eq_true.1 hb p hp)))
      · cases hh
    · cases hh
  -- index
  · rename_i e x i ho
    split at hh
    · rename_i n t xs k m hx hi
      obtain ⟨hb, hh⟩ := cond_some hh
      obtain ⟨v, hv, hh⟩ := bind_some_ hh
      simp only [Option.some.injEq, Prod.mk.injEq] at hh
      obtain ⟨rfl, rfl⟩ := hh
      have gx := unMV_ok (hρ x)
      rw [hx] at gx
      have gi := hρ i
      rw [hi] at gi
      exact index_ok hT H ho gx gi hb hv
    · cases hh
  -- indexAddr
  · rename_i e x i ho
    split at hh
    · rename_i k m hi
      have gi := hρ i
      rw [hi] at gi
      have gx := deref_okV H (hρ x)
      split at hh
      · rename_i n t xs hx
        obtain ⟨hb, hh⟩ := cond_some hh
        obtain ⟨v, hv, hh⟩ := bind_some_ hh
        simp only [Option.some.injEq, Prod.mk.injEq] at hh
        obtain ⟨rfl, rfl⟩ := hh
        rw [hx] at gx
        exact indexAddr_arr_im_ok hT H ho gx gi hb hv
      · rename_i s hv cv p n t xs hx
        obtain ⟨hb, hh⟩ := cond_some hh
        simp only [Bool.and_eq_true] at hb
        obtain ⟨v, hv, hh⟩ := bind_some_ hh
        simp only [Option.some.injEq, Prod.mk.injEq] at hh
        obtain ⟨rfl, rfl⟩ := hh
        rw [hx] at gx
        exact indexAddr_arr_ok hT H ho gx gi hb.1 hb.2 hv
      · cases hh
    · cases hh
  -- call
  · rename_i c ho
    split at hh
    · rename_i hc
      split at hh
      · rename_i x ty _ hargs hty
        have harr : c.args = #[x] := Array.toList_inj.1 (by simpa using hargs)
        have ht0 : c.argTypes[0]? = some ty := by rw [← Array.getElem?_toList, hty]; rfl
        split at hh
        · rename_i k v xs hm
          obtain ⟨hb, hh⟩ := cond_some hh
          simp only [Option.some.injEq, Prod.mk.injEq] at hh
          obtain ⟨rfl, rfl⟩ := hh
          obtain ⟨nb, hTy⟩ := tyB_ok hT hb
          obtain ⟨kt, vt, n1, n2, hun, _, _⟩ := hTy.desc
          rcases hρ x with hx | ⟨cx, hx, ex⟩
          · rw [hx] at hm; cases hm
          rcases map_rep H hm hx with ⟨rfl, hout⟩ | ⟨b, es, n, l, q, f, rfl, hout, hheap, hq, hent⟩
          · refine .same H (v := .int .i64 0) ?_ (relV_int _ _)
            unfold execOp; rw [ho]
            simp only [resolve, hc, harr, pure_bind, invoke, builtin]
            simp [Builtin.len_, ht0, ex, hout, run_underlying hun, goInt]
          · have hlen := (entries_get hent).1
            refine .same H (v := .int .i64 (l.length : Nat)) ?_ (relV_int _ _)
            unfold execOp; rw [ho]
            simp only [resolve, hc, harr, pure_bind, invoke, builtin]
            have hlen' : es.size = l.length := by rw [← hlen]; simp
            simp [Builtin.len_, ht0, ex, hout, run_underlying hun, goInt, Go.MapKept.run_getObj_map (P := E.P) hheap, hlen']
        · split at hh
          · rename_i n t xs hx
            obtain ⟨hb, hh⟩ := cond_some hh
            simp only [Option.some.injEq, Prod.mk.injEq] at hh
            obtain ⟨rfl, rfl⟩ := hh
            obtain ⟨nb, hTy⟩ := tyB_ok hT hb
            obtain ⟨el, ne, hu, _⟩ := hTy.desc
            refine .same H (v := .int .i64 (n : Nat)) ?_ (relV_int _ _)
            unfold execOp; rw [ho]
            simp only [resolve, hc, harr, pure_bind, invoke, builtin]
            simp [Builtin.len_, ht0, run_underlying hu, goInt]
          · cases hh
      · cases hh
    · cases hh
  · cases hh
variable {R : Type} {look : Nat → Option Slot} {h : OH}
theorem opM_bind (ρ : Operand → MV) (o : Oper) {K : MV → Ups → Option R} : opM E ρ look o h K = B2 (opM E ρ look o h S2) K := by
  unfold opM
  split
  · split
    · exact newSlot_bind K _ _ _
    · rfl
  · split
    · simp only [B2, cond_bind, Option.bind_none]
      congr 1
      split
      · simp only [S2, cond_bind, Option.bind_some]
      · rfl
    · rfl
  · split
    · split
      · simp only [B2, cond_bind, Option.bind_none]
        congr 1
        split
        · split
          · simp only [S2, cond_bind, Option.bind_none, bind_bind, Option.bind_some]
          · rfl
        · rfl
      · rfl
    · rfl
  · split
    · split
      · simp only [B2, S2, chk_bind, Option.bind_some]
      · rfl
    · rfl
  · split
    · simp only [B2, S2, cond_bind, Option.bind_none, bind_bind, Option.bind_some]
    · rfl
  · split
    · split
      · simp only [B2, S2, cond_bind, Option.bind_none, bind_bind, Option.bind_some]
      · simp only [B2, S2, cond_bind, Option.bind_none, bind_bind, Option.bind_some]
      · rfl
    · rfl
  · split
    · split
      · split
        · simp only [B2, S2, cond_bind, Option.bind_none, Option.bind_some]
        · split
          · simp only [B2, S2, cond_bind, Option.bind_none, Option.bind_some]
          · rfl
      · rfl
    · rfl
  · rfl
end
end Go.Proofs.Ytibphkgcdnconaa.V
