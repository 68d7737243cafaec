/- The operations on memory, continued: reading; writing. -/
import Derived.Test.YtibphkgcdnconaaVN
namespace Go.Proofs.Ytibphkgcdnconaa.V
open Go
set_option linter.unusedVariables false
set_option linter.all false
section
variable {E : Env} {o : Oper} {a : Act} {w : World} {Z : Bs} {sl : Nat → Option Slot} {hdr : Nat → Value} {fp : Nat → Bs} {mv : MV}
theorem add_none (b o n : Nat) : (⟨b, o, none⟩ : Addr).add n = ⟨b, o + n, none⟩ := by
  unfold Addr.add; split
  · rename_i h; subst h; rfl
  · rfl
/-- An element of a row. -/
theorem rep_el {t : Ty} {m : Mk} {xs : List t.den} {f : Bs} {cs : List Value} {i : Nat} {x : t.den} (h : Rep Z w (.sl t) m xs f cs) (hx : xs[i]? = some x) :
    ∃ b o cap ks m1 f1, cs = [.slice (some ⟨b, o, none⟩) xs.length cap] ∧ At w b (o + i * t.size) ks ∧ Rep Z w t m1 x f1 ks ∧ (∀ k, f1 k → f k) ∧ (f b ∨ Z b) ∧ (m.isOw = false → Z b ∧ ∀ k, ¬ f1 k) ∧ (∀ m', m = .ow m' → m1 = m') := by
  cases m with
  | ow m =>
    obtain ⟨A, cap, e, h⟩ := h
    rcases h with ⟨rfl, _⟩ | ⟨b, o, c, el, rfl, h1, h2, h3, h4, fps, css, h5, h6⟩
    · simp at hx
    · obtain ⟨q1, q2, q3, q4⟩ := h5 i x hx
      exact ⟨b, o, cap, css i, m, fps i, e, fun j hj => q3 j (by omega), q1, fun k hk => (q4 k hk).1, .inl h1, (fun h => by cases h), fun m' e => by cases e; rfl⟩
  | im =>
    obtain ⟨A, cap, e, hc, h⟩ := h
    rcases h with rfl | ⟨b, o, rfl, h1, fps, css, h5, h6⟩
    · simp at hx
    · obtain ⟨q1, q2, q3, q4⟩ := h5 i x hx
      exact ⟨b, o, cap, css i, .im, fps i, e, fun j hj => q3 j (by omega), q1, fun k hk => (q4 k hk).1.elim, .inr h1, fun _ => ⟨h1, fun k hk => (q4 k hk).1⟩, fun m' e => by cases e⟩
  | pr m1 m2 =>
    obtain ⟨A, cap, e, hc, h⟩ := h
    rcases h with rfl | ⟨b, o, rfl, h1, fps, css, h5, h6⟩
    · simp at hx
    · obtain ⟨q1, q2, q3, q4⟩ := h5 i x hx
      exact ⟨b, o, cap, css i, .im, fps i, e, fun j hj => q3 j (by omega), q1, fun k hk => (q4 k hk).1.elim, .inr h1, fun _ => ⟨h1, fun k hk => (q4 k hk).1⟩, fun m' e => by cases e⟩
theorem subc_el {t : Ty} {b o i l cap : Nat} {ks : List Value} (h : At w b (o + i * t.size) ks) (hl : ks.length = t.size) (here : Option (Nat × Nat)) :
    subc w (.sl t) [.slice (some ⟨b, o, none⟩) l cap] [.el i] = some ks ∧ addrOf w (.sl t) [.slice (some ⟨b, o, none⟩) l cap] here [.el i] = some (b, o + i * t.size) := by
  have e := range_at h
  rw [hl] at e
  refine ⟨?_, ?_⟩
  · simp only [subc, e] <;> (cases t <;> rfl)
  · simp only [addrOf] <;> (cases t <;> rfl)
theorem run_index_ {e el : TypeId} {n : Nat} {t : Ty} (hu : E.P.underlying e = some (.slice el)) (hT : TyOK E el t n) (b o l cap : Nat) (k : IntKind) (i : Int) (h0 : 0 ≤ i) (h1 : i < l) :
    (Instr.indexAt e (.slice (some ⟨b, o, none⟩) l cap) (.int k i)).run E.P w = .ok (.pointer (some ⟨b, o + i.toNat * t.size, none⟩)) w := by
  simp [Instr.indexAt, asIntOf, run_underlying hu, hT.size, h0, h1, add_none]
theorem getP_el {t : Ty} {xs : List t.den} {i : Nat} {x : t.den} (h : xs[i]? = some x) : getP (.sl t) xs [.el i] = some ⟨t, x⟩ := by
  simp only [getP, h] <;> (cases t <;> rfl)
theorem indexAddr_ok (hE : TTok E) (H : HR Z w sl hdr fp) {e : TypeId} {x i : Operand} {u : MV} {k : IntKind} {n : Int} {t : Ty} {xs : List t.den} {ac : Acc} {v : t.den} (ho : o.op = .indexAddr e x i) (hx : RelV Z w sl hdr fp u (a.eval x)) (hi : RelV Z w sl hdr fp (.val (.int k) n) (a.eval i))
    (hc : cont sl u = some ⟨.sl t, xs, ac⟩) (ht : tyB E e (.sl t) = true) (hv : idx xs n = some v) : OpOK E o a w Z sl hdr fp (ac.adr sl n.toNat t v) (Ups.look [] sl) := by
  obtain ⟨nb, hT⟩ := tyB_ok hE ht
  obtain ⟨el, ne, hu, hel⟩ := hT.desc
  have hTe := hE _ _ _ hel
  obtain ⟨g0, g1, g2⟩ := idx_some hv
  rcases hx with rfl | ⟨cs, hr, he⟩
  · cases hc
  obtain ⟨hA, hout⟩ := cont_ok H hc hr
  rw [hout] at he
  have fin : ∀ (b o' cap : Nat), cs = [.slice (some ⟨b, o', none⟩) xs.length cap] → ∀ mv, RelV Z w sl hdr fp mv (.pointer (some ⟨b, o' + n.toNat * t.size, none⟩)) → OpOK E o a w Z sl hdr fp mv (Ups.look [] sl) := by
    intro b o' cap hcs mv hrel
    have hev : a.eval x = .slice (some ⟨b, o', none⟩) xs.length cap := by rw [he, hcs]; rfl
    refine .same H ?_ hrel
    unfold execOp; rw [ho]
    simp only [Sem.run_bind, hev, hi.int, run_index_ (w := w) hu hTe b o' xs.length cap k n g0 g1, Result.andThen_ok, Sem.run_pure]
  have one : ∀ v : Value, v.oneCell' = true → Cells 1 [v] := fun v h => ⟨rfl, fun u hu => by obtain rfl := List.mem_singleton.1 hu; exact h⟩
  cases ac with
  | im =>
    obtain ⟨b, o', cap, ks, m1, f1, hcs, hat, hrep, _, _, hz, _⟩ := rep_el hA g2
    exact fin b o' cap hcs _ (.inr ⟨_, ⟨b, _, ks, rfl, hat, (hz rfl).1, hrep.none (hz rfl).2⟩, rfl⟩)
  | ro s hv' cv =>
    obtain ⟨c, h1, h2, m, f, h3, h4⟩ := hA
    obtain ⟨b, o', cap, ks, m1, f1, hcs, hat, hrep, hf, hb, _⟩ := rep_el h3 g2
    refine fin b o' cap hcs _ (.inr ⟨_, ⟨one _ rfl, _, h1, Nat.le_refl _, fun _ => ⟨Nat.le_refl _, fun _ c' hc' => ?_⟩⟩, rfl⟩)
    obtain rfl := Option.some.inj hc'
    exact ⟨b, _, ks, rfl, hat, hb.imp (h4 b) id, (fun h => absurd (h2.symm.trans h) (by simp)), ⟨m1, f1, hrep, fun k hk => h4 k (hf k hk), (fun h => absurd (h2.symm.trans h) (by simp))⟩, fun p hp => by cases hp⟩
  | own s hv' cv p =>
    obtain ⟨c, h1, h2, ⟨m, f, h3, h4⟩, g5, g6⟩ := hA
    obtain ⟨b, o', cap, ks, m1, f1, hcs, hat, hrep, hf, hb, _⟩ := rep_el h3 g2
    obtain ⟨g7, m', g8⟩ := g6 h2
    have hlook : lookC sl s hv' cv = some c := by simp [lookC, lookH, h1]
    simp only [Acc.adr, hlook, g8]
    have base : ∀ po : Option Path, (∀ p0, po = some p0 → PathOK w c (hdr s) p0 t v ks ∧ (c.m.isOw = true → addrOf w c.t [hdr s] none p0 = some (b, o' + n.toNat * t.size))) → RelV Z w sl hdr fp (.adr s hv' cv po t v) (.pointer (some ⟨b, o' + n.toNat * t.size, none⟩)) := by
      intro po hpo
      refine .inr ⟨_, ⟨one _ rfl, _, h1, Nat.le_refl _, fun _ => ⟨Nat.le_refl _, fun _ c' hc' => ?_⟩⟩, rfl⟩
      obtain rfl := Option.some.inj hc'
      exact ⟨b, _, ks, rfl, hat, hb.imp (h4 b) id, (fun h => absurd (h2.symm.trans h) (by simp)), ⟨m1, f1, hrep, fun k hk => h4 k (hf k hk), (fun h => absurd (h2.symm.trans h) (by simp))⟩, hpo⟩
    cases m' with
    | ow m' =>
      refine fin b o' cap hcs _ (base _ fun p0 hp0 => ?_)
      obtain rfl := Option.some.inj hp0
      have ht' : tyP c.t p = some (.sl t) := getP_ty g5
      have hsub := subc_app (w := w) p [.el n.toNat] g7 ht'
      have hse := subc_el (l := xs.length) (cap := cap) hat hrep.len
      rw [hcs] at hsub g7
      refine ⟨⟨by rw [getP_app p _ g5]; exact getP_el g2, fun _ => ⟨by rw [hsub.1]; exact (hse none).1, m', ?_⟩⟩, fun _ => by rw [hsub.2]; exact (hse _).2⟩
      rw [mkP_app p _ g8 ht']; cases t <;> rfl
    | im => exact fin b o' cap hcs _ (base none fun p0 hp0 => by cases hp0)
    | pr m2 m3 => exact fin b o' cap hcs _ (base none fun p0 hp0 => by cases hp0)
theorem run_load_ {e : TypeId} {t : Ty} {n : Nat} (hT : TyOK E e t n) {b o' : Nat} {ks : List Value} (hat : At w b o' ks) (hl : ks.length = t.size) : (Instr.loadAt e (.pointer (some ⟨b, o', none⟩))).run E.P w = .ok (t.val ks) w := by
  simp only [Instr.loadAt, Instr.sureAddr, loadVar, pure_bind, Sem.run_bind, hT.agg, Result.andThen_ok]
  cases ha : t.agg with
  | true =>
    have hc : (loadCells ⟨b, o', none⟩ ks.length).run E.P w = .ok ks.toArray w := run_loadCells_list w ⟨b, o', none⟩ ks (fun j v hj => by
      rw [add_none, ← hj]
      have hlt : j < ks.length := by
        rcases Nat.lt_or_ge j ks.length with h' | h'
        · exact h'
        · rw [List.getElem?_eq_none h'] at hj; cases hj
      exact hat j hlt)
    rw [hl] at hc
    simp only [if_true, Sem.run_bind, hT.size, Result.andThen_ok, hc, Sem.run_pure, Ty.val, ha, cond_true, cond_false]
  | false =>
    have h1 : ks.length = 1 := hl.trans (Ty.size_one ha)
    obtain ⟨v, rfl⟩ := List.length_eq_one_iff.1 h1
    have := hat 0 (by simp)
    simp only [Nat.add_zero, List.getElem?_cons_zero] at this
    simp [Ty.val, ha, run_load, this]
theorem at_same {b o' : Nat} {c1 c2 : List Value} (h1 : At w b o' c1) (h2 : At w b o' c2) (hl : c1.length = c2.length) : c1 = c2 := by
  apply List.ext_getElem?
  intro j
  by_cases hj : j < c1.length
  · rw [← h1 j hj, ← h2 j (by omega)]
  · rw [List.getElem?_eq_none (by omega), List.getElem?_eq_none (by omega)]
theorem Ty.val_cells {t : Ty} {cs : List Value} (hl : cs.length = t.size) (h1 : ∀ v ∈ cs, v.oneCell' = true) : Cells t.size cs := ⟨hl, h1⟩
/-- What lies at a noted place, under its own mark. -/
theorem place_rep (H : HR Z w sl hdr fp) {s hv cv : Nat} {c : SlotC} (hs : sl s = some ⟨hv, cv, some c⟩) {p : Path} {t : Ty} {x : t.den} {m : Mk} {b o' : Nat} (ho : c.m.isOw = true) (hg : getP c.t c.x p = some ⟨t, x⟩) (hm : mkP c.t c.m p = some m)
    (hadr : addrOf w c.t [hdr s] none p = some (b, o')) : ∃ ks f, Rep Z w t m x f ks ∧ At w b o' ks ∧ ∀ k, f k → fp s k := by
  have hro := H.rep s _ _ _ hs
  have hsh := H.shape s _ _ _ hs
  obtain ⟨ct, cm, cx⟩ := c
  simp only at hg hm ho hadr hro hsh
  obtain ⟨m0, rfl⟩ : ∃ m0, cm = .ow m0 := by cases cm <;> first | exact ⟨_, rfl⟩ | cases ho
  rcases hsh with ⟨t0, rfl⟩ | ⟨k0, v0, rfl⟩
  rotate_left 1
  · cases p with
    | nil => simp [addrOf] at hadr
    | cons st p => cases st <;> simp [getP] at hg
  cases p with
  | nil => simp [addrOf] at hadr
  | cons st p =>
  cases st with
  | f1 => simp [getP] at hg
  | f2 => simp [getP] at hg
  | el i =>
  obtain ⟨b', o'', ks, fpl, hadr', _, FR⟩ := focus_root none hro hg hm
  rw [hadr] at hadr'
  simp only [Option.some.injEq, Prod.mk.injEq] at hadr'
  obtain ⟨rfl, rfl⟩ := hadr'
  exact ⟨ks, fpl, FR.rep, FR.at_, FR.sub⟩
theorem load_ok (hE : TTok E) (H : HR Z w sl hdr fp) {e : TypeId} {x : Operand} {s hv cv : Nat} {po : Option Path} {t : Ty} {v : t.den} (ho : o.op = .load e x) (hx : RelV Z w sl hdr fp (.adr s hv cv po t v) (a.eval x))
    (ht : tyB2 E e t = true) (hl : loadMV sl (.adr s hv cv po t v) = some mv) : OpOK E o a w Z sl hdr fp mv (Ups.look [] sl) := by
  obtain ⟨nb, hT⟩ := tyB2_ok hE ht
  rcases hx with h0 | ⟨cs, hr, he⟩
  · cases h0
  simp only [loadMV] at hl
  split at hl
  · rename_i c e2
    have e2 := lookC_some e2
    obtain ⟨_, S, h1, _, h3⟩ := hr
    rw [e2] at h1; obtain rfl := Option.some.inj h1
    obtain ⟨b, o', ks, hcs, hat, hbz, hz, ⟨m, f, hrep, hf, hfz⟩, hp⟩ := (h3 rfl).2 rfl c rfl
    have hev : a.eval x = .pointer (some ⟨b, o', none⟩) := by rw [he, hcs]; rfl
    have hrun : (execOp a.eval o).run E.P w = .ok (.value (t.val ks)) w := by
      unfold execOp; rw [ho]
      simp only [Sem.run_bind, hev, run_load_ hT hat hrep.len, Result.andThen_ok, Sem.run_pure]
    have asval : Rep Z w t .im v none_ ks → RelV Z w sl hdr fp (.val t v) (t.val ks) := fun h => .inr ⟨ks, h, rfl⟩
    have asview : ∀ po', (∀ p, po' = some p → PathOK w c (hdr s) p t v ks) → RelV Z w sl hdr fp (.view s hv cv po' t v) (t.val ks) := by
      intro po' hpo
      refine .inr ⟨ks, ⟨⟨hrep.len, hrep.one⟩, _, e2, Nat.le_refl _, fun _ => ⟨Nat.le_refl _, fun _ c' hc' => ?_⟩⟩, rfl⟩
      obtain rfl := Option.some.inj hc'
      exact ⟨⟨m, f, hrep, hf, hfz⟩, hpo⟩
    cases hfl : (t.flat || !c.m.isOw) with
    | true =>
      rw [hfl] at hl
      simp only [cond_true, Option.some.injEq] at hl
      subst hl
      simp only [Bool.or_eq_true, Bool.not_eq_true'] at hfl
      refine .same H hrun (asval ?_)
      rcases hfl with hfl | hfl
      · exact hrep.flat hfl
      · exact hrep.none (hfz hfl)
    | false =>
      rw [hfl] at hl
      simp only [cond_false] at hl
      simp only [Bool.or_eq_false_iff, Bool.not_eq_false'] at hfl
      split at hl
      · rename_i q
        split at hl
        · rename_i m' hm'
          simp only [Option.some.injEq] at hl
          subst hl
          obtain ⟨hpk, hadr⟩ := hp q rfl
          cases hsh : t.shared m' with
          | true =>
            simp only [cond_true]
            obtain ⟨ks', f', r1, r2, r3⟩ := place_rep H e2 hfl.2 hpk.1 hm' (hadr hfl.2)
            obtain rfl := at_same hat r2 (hrep.len.trans r1.len.symm)
            exact .same H hrun (asval (r1.share hsh))
          | false =>
            simp only [cond_false]
            exact .same H hrun (asview _ fun p hp0 => by obtain rfl := Option.some.inj hp0; exact hpk)
        · cases hl
      · simp only [Option.some.injEq] at hl
        subst hl
        exact .same H hrun (asview none fun p hp0 => by cases hp0)
  · cases hl
theorem load_im_ok (hE : TTok E) (H : HR Z w sl hdr fp) {e : TypeId} {x : Operand} {t : Ty} {v : t.den} (ho : o.op = .load e x) (hx : RelV Z w sl hdr fp (.iadr t v) (a.eval x)) (ht : tyB2 E e t = true) : OpOK E o a w Z sl hdr fp (.val t v) (Ups.look [] sl) := by
  obtain ⟨nb, hT⟩ := tyB2_ok hE ht
  rcases hx with h0 | ⟨cs, ⟨b, o', ks, hcs, hat, hz, hrep⟩, he⟩
  · cases h0
  have hev : a.eval x = .pointer (some ⟨b, o', none⟩) := by rw [he, hcs]; rfl
  have hrun : (execOp a.eval o).run E.P w = .ok (.value (t.val ks)) w := by
    unfold execOp; rw [ho]
    simp only [Sem.run_bind, hev, run_load_ hT hat hrep.len, Result.andThen_ok, Sem.run_pure]
  exact .same H hrun (.inr ⟨ks, hrep, rfl⟩)
theorem run_store_ {e : TypeId} {t : Ty} {n : Nat} (hT : TyOK E e t n) {b o' : Nat} {v : Value} {cs : List Value} (hv : v.cells.toList = cs) (hl : cs.length = t.size) {w' : World} (hs : (storeCells ⟨b, o', none⟩ cs).run E.P w = .ok () w') :
    (Instr.storeAt e (.pointer (some ⟨b, o', none⟩)) v).run E.P w = .ok () w' := by
  have hsz : v.cells.size = t.size := by rw [← Array.length_toList, hv, hl]
  simp only [Instr.storeAt, Instr.sureAddr, storeVar, pure_bind, Sem.run_bind, hT.size, Result.andThen_ok, hsz, ne_eq, not_true, if_false, hv, hs, Sem.run_ite]
theorem sameP_eq : ∀ {p q : Path}, sameP p q = true → p = q
  | [], [], _ => rfl
  | .f1 :: p, .f1 :: q, h => by rw [sameP_eq (p := p) (q := q) h]
  | .f2 :: p, .f2 :: q, h => by rw [sameP_eq (p := p) (q := q) h]
  | .el i :: p, .el j :: q, h => by
    simp only [sameP, Bool.and_eq_true] at h
    rw [Nat.eq_of_beq_eq_true h.1, sameP_eq h.2]
  | [], _ :: _, h => by first | cases h | simp [sameP] at h
  | _ :: _, [], h => by first | cases h | simp [sameP] at h
  | .f1 :: _, .f2 :: _, h | .f1 :: _, .el _ :: _, h | .f2 :: _, .f1 :: _, h | .f2 :: _, .el _ :: _, h | .el _ :: _, .f1 :: _, h | .el _ :: _, .f2 :: _, h => by first | cases h | simp [sameP] at h
theorem store_ok (hE : TTok E) (H : HR Z w sl hdr fp) {e : TypeId} {x y : Operand} {s hv cv : Nat} {po : Option Path} {t : Ty} {v : t.den} {u : MV} {us : Ups} (ho : o.op = .store e x y) (hx : RelV Z w sl hdr fp (.adr s hv cv po t v) (a.eval x)) (hy : RelV Z w sl hdr fp u (a.eval y))
    (ht : tyB2 E e t = true) (hst : storeK sl (.adr s hv cv po t v) u (fun m u => some (m, u)) = some (mv, us)) : OpOK E o a w Z sl hdr fp mv (us.look sl) := by
  obtain ⟨nb, hT⟩ := tyB2_ok hE ht
  rcases hx with h0 | ⟨cs, hr, he⟩
  · cases h0
  cases po with
  | none => simp [storeK] at hst
  | some p =>
  simp only [storeK] at hst
  split at hst
  · rename_i c e2
    have e2 := lookC_some e2
    obtain ⟨_, S, h1, _, h3⟩ := hr
    rw [e2] at h1; obtain rfl := Option.some.inj h1
    obtain ⟨b, o', ks, hcs, hat, hbz, hz, ⟨m, f, hrep, hf, hfz⟩, hp⟩ := (h3 rfl).2 rfl c rfl
    have hev : a.eval x = .pointer (some ⟨b, o', none⟩) := by rw [he, hcs]; rfl
    split at hst
    · rename_i m0 m' hm0 hm'
      have how : c.m.isOw = true := by rw [hm0]; rfl
      obtain ⟨⟨hg, _⟩, hadr⟩ := hp p rfl
      have hadr := hadr how
      split at hst
      · rename_i s' hv' cv' p' t' y'
        cases hb : (s.beq s' && hv.beq hv' && cv.beq cv' && decide (t = .sl t')) with
        | false => rw [hb] at hst; cases hst
        | true =>
          rw [hb] at hst
          simp only [Bool.and_eq_true, decide_eq_true_eq] at hb
          obtain ⟨⟨⟨hb1, hb2⟩, hb3⟩, rfl⟩ := hb
          obtain rfl := Nat.eq_of_beq_eq_true hb1
          obtain rfl := Nat.eq_of_beq_eq_true hb2
          obtain rfl := Nat.eq_of_beq_eq_true hb3
          simp only [cond_true] at hst
          obtain ⟨hsame, hst2⟩ := chk_some hst
          clear hst
          obtain rfl := sameP_eq hsame
          obtain ⟨rfl, rfl⟩ := Prod.mk.inj (Option.some.inj hst2)
          rcases hy with h0 | ⟨cy, hry, hey⟩
          · cases h0
          obtain ⟨_, S, h1', _, h3'⟩ := hry
          rw [e2] at h1'; obtain rfl := Option.some.inj h1'
          obtain ⟨m1, x0, g1, g2, g3⟩ := (h3' rfl).2 rfl c rfl how
          rw [hm'] at g1; obtain rfl := Option.some.inj g1
          have hcy : ∀ {F : Bs}, Rep Z w (.sl t') (.ow m1) y' F cy → (a.eval y).cells.toList = cy := fun g3 => by
            rw [hey]
            obtain ⟨v0, rfl⟩ := List.length_eq_one_iff.1 (g3.len.trans rfl)
            exact cells_single (g3.one v0 (by simp))
          have fin : ∀ (fp0 F : Bs), Rep Z w c.t c.m c.x fp0 [hdr s] → (∀ k, fp0 k → fp s k) → Rep Z w (.sl t') (.ow m1) y' F cy → (∀ k, F k → (∃ r, fp r k ∧ noC sl r) ∨ fp s k ∧ (¬ fp0 k ∨ ∀ fpl ks, Rep Z w (.sl t') (.ow m1) v fpl ks → At w b o' ks → fpl k)) →
              OpOK E o a w Z sl hdr fp .dead (Ups.look [(s, ⟨hv, cv + 1, some ⟨c.t, c.m, setP c.t c.x p ⟨.sl t', y'⟩⟩⟩)] sl) := by
            intro fp0 F r1 r2 r3 r4
            obtain ⟨w', fp', hrun, H', T'⟩ := store_place (P := E.P) H e2 r1 r2 hg hm' how hadr r3 r4
            rw [look_cons, look_nil]
            refine .skip (w' := w') ?_ H' T'
            unfold execOp; rw [ho]
            simp only [Sem.run_bind, hev, run_store_ hT (hcy r3) r3.len hrun, Result.andThen_ok, Sem.run_pure]
          rcases g3 with g3 | ⟨b0, g4, g5, g6 | ⟨o2, l2, cap2, g6, g7⟩⟩
          · exact fin (fp s) none_ (H.rep s _ _ _ e2) (fun _ h => h) g3 (fun _ h => h.elim)
          · exact fin _ _ g6 (fun _ h => h.1) g4 (fun k hk => by subst hk; exact .inr ⟨g5, .inl (fun h => h.2 rfl)⟩)
          · refine fin (fp s) _ (H.rep s _ _ _ e2) (fun _ h => h) g4 (fun k hk => by
              subst hk
              refine .inr ⟨g5, .inr fun fpl ks' r1 r2 => ?_⟩
              obtain ⟨_, m3, g8⟩ := (hp p rfl).1.2 how
              have hks : ks' = [.slice (some ⟨k, o2, none⟩) l2 cap2] := by
                have h9 := (hp p rfl).1.2 how
                have h10 : ks = [.slice (some ⟨k, o2, none⟩) l2 cap2] := Option.some.inj (h9.1.symm.trans g6)
                rw [← h10]
                exact at_same r2 hat (r1.len.trans hrep.len.symm)
              obtain ⟨A, cap, e5, h5⟩ := r1
              rw [hks] at e5
              simp only [List.cons.injEq, Value.slice.injEq, and_true] at e5
              obtain ⟨e6, e7, e8⟩ := e5
              rcases h5 with ⟨_, h6⟩ | ⟨b3, o3, c3, e3, h6, h7, _⟩
              · omega
              · rw [← e6] at h6
                simp only [Option.some.injEq, Addr.mk.injEq, and_true] at h6
                rw [h6.1]; exact h7)
      · split at hst
        · rename_i y' us' htk
          cases hb : us'.any (fun u => u.1.beq s) with
          | true => rw [hb] at hst; cases hst
          | false =>
            rw [hb] at hst
            simp only [cond_false, Option.some.injEq, Prod.mk.injEq] at hst
            obtain ⟨rfl, rfl⟩ := hst
            rcases hy with rfl | ⟨cy, hry, hey⟩
            · exact (takeX_dead htk).elim
            obtain ⟨Z1, fp1, F, T1⟩ := takeX_sound htk H hry
            obtain ⟨hc1, hl1⟩ := takeX_out htk hry T1.rep
            have hs1 : us'.look sl s = some ⟨hv, cv, some c⟩ := (look_other hb).trans e2
            have hadr1 : addrOf w c.t [hdr s] none p = some (b, o') := hadr
            obtain ⟨w', fp', hrun, H', T'⟩ := store_place (P := E.P) T1.hr hs1 (T1.hr.rep s _ _ _ hs1) (fun _ h => h) hg hm' how hadr1 T1.rep (fun k hk => by obtain ⟨r, _, _, q3, q4⟩ := T1.hand k hk; exact .inl ⟨r, q3, q4⟩)
            rw [look_cons]
            refine .skip (w' := w') ?_ H' (T1.tr.comp T')
            unfold execOp; rw [ho]
            simp only [Sem.run_bind, hev, run_store_ hT (v := a.eval y) (cs := cy) (by rw [hey]; exact hc1) hl1 hrun, Result.andThen_ok, Sem.run_pure]
        · cases hst
    · cases hst
  · cases hst
end
end Go.Proofs.Ytibphkgcdnconaa.V
