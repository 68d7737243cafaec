/- The operations on memory: new variables, new rows, reading and writing. -/
import Derived.Test.YtibphkgcdnconaaVI
namespace Go.Proofs.Ytibphkgcdnconaa.V
open Go
set_option linter.unusedVariables false
set_option linter.all false
section
variable {E : Env} {o : Oper} {a : Act} {w : World} {Z : Bs} {sl : Nat → Option Slot} {hdr : Nat → Value} {fp : Nat → Bs} {mv : MV}
theorem Ty.size_one {t : Ty} (h : t.agg = false) : t.size = 1 := by
  cases t with
  | ex k a b => cases k <;> first | rfl | cases h
  | _ => first | rfl | cases h
theorem cells_agg (cs : List Value) : (Value.agg cs.toArray).cells.toList = cs := by simp [Value.cells]
theorem cells_single {v : Value} (h : v.oneCell' = true) : v.cells.toList = [v] := by cases v <;> first | rfl | cases h
theorem take_out' {t : Ty} {m : Mk} {x : t.den} {us : Ups} {cs : List Value} {u : MV} (h : take sl t m u = some (x, us)) (hr : RelC Z w sl hdr fp u cs) (hone : ∀ v ∈ cs, v.oneCell' = true) : (u.out cs).cells.toList = cs := by
  have single : cs.length = 1 → (cs.headD (.tuple #[])).cells.toList = cs := fun hl => by
    obtain ⟨v, rfl⟩ := List.length_eq_one_iff.1 hl
    exact cells_single (hone v (by simp))
  cases u with
  | val t' y =>
    simp only [MV.out, MV.agg]
    cases ha : t'.agg with
    | true => simp only [cond_true]; exact cells_agg cs
    | false => simp only [cond_false]; exact single ((Rep.len (t := t') hr).trans (Ty.size_one ha))
  | view s hv cv p t' y =>
    simp only [MV.out, MV.agg]
    cases ha : t'.agg with
    | true => simp only [cond_true]; exact cells_agg cs
    | false => simp only [cond_false]; exact single (hr.1.1.trans (Ty.size_one ha))
  | nil => obtain ⟨A, rfl⟩ := hr; rfl
  | root s hv => simp only [MV.out, MV.agg, cond_false]; exact single hr.1.1
  | pr u v => simp only [MV.out, MV.agg, cond_true]; exact cells_agg cs
  | dead => cases t <;> cases h
  | adr => cases t <;> cases h
  | iadr => cases t <;> cases h
  | ptr => cases t <;> cases h
  | icl => cases t <;> cases h
  | nv => cases t <;> cases h
  | pend => cases t <;> cases h
  | un => cases t <;> cases h
  | tc => cases t <;> cases h
  | tn => cases t <;> cases h
  | fn => cases t <;> cases h
theorem take_out {t : Ty} {m : Mk} {x : t.den} {us : Ups} {cs : List Value} {u : MV} {Z' : Bs} {F : Bs} {m' : Mk} (h : take sl t m u = some (x, us)) (hr : RelC Z w sl hdr fp u cs) (hp : Rep Z' w t m x F cs) : (u.out cs).cells.toList = cs ∧ cs.length = t.size :=
  ⟨take_out' h hr hp.one, hp.len⟩
theorem take_dead {t : Ty} {m : Mk} {x : t.den} {us : Ups} (h : take sl t m .dead = some (x, us)) : False := by cases t <;> cases h
theorem unMV_okC {Z : Bs} {sl : Nat → Option Slot} {fp : Nat → Bs} {u : MV} {cs : List Value} (h : RelC Z w sl hdr fp u cs) : RelC Z w sl hdr fp (unMV u) cs ∧ (unMV u).out cs = u.out cs := by
  unfold unMV
  split
  · rename_i a b x
    cases hc : isChain a with
    | false => exact ⟨h, rfl⟩
    | true =>
      refine ⟨un_rep hc h, ?_⟩
      simp only [MV.out, MV.agg, cond_true, (un_cells (b := b) hc).2.2]; rfl
  · rename_i a b x
    cases hc : isChain a with
    | false => exact ⟨h, rfl⟩
    | true =>
      obtain ⟨b0, o0, ks, e, h1, h2, h3⟩ := h
      exact ⟨⟨b0, o0, ks, e, h1, h2, un_rep hc h3⟩, rfl⟩
  · rename_i s hv cv p a b x
    cases hc : isChain a with
    | false => exact ⟨h, rfl⟩
    | true =>
      obtain ⟨q1, S, q2, q3, q4⟩ := h
      refine ⟨⟨q1, S, q2, q3, fun e => ⟨(q4 e).1, fun e2 c hcc => ?_⟩⟩, rfl⟩
      obtain ⟨b0, o0, ks, g1, g2, g3, g4, ⟨m, f, g5, g6, g7⟩, g8⟩ := (q4 e).2 e2 c hcc
      exact ⟨b0, o0, ks, g1, g2, g3, g4, ⟨.im, none_, un_rep hc g5, fun _ h => h.elim, fun _ _ h => h⟩, fun p hp => by cases hp⟩
  · exact ⟨h.1, rfl⟩
  · exact ⟨h, rfl⟩
theorem takeX_cases {t : Ty} {m : Mk} {u : MV} {x : t.den} {us : Ups} (h : takeX sl t m u = some (x, us)) : (take sl t m u = some (x, us) ∨ take sl t m (unMV u) = some (x, us)) ∨ ∃ (a b : Ty) (e : t = .ex .tree a b) (y : (unTy (.ex .tree a b)).den), isChain a = true ∧ take sl (unTy (.ex .tree a b)) .im u = some (y, us) ∧ x = e ▸ foV a b y := by
  unfold takeX at h
  split at h
  · rename_i r e
    obtain rfl := Option.some.inj h
    exact .inl (.inl e)
  split at h
  · rename_i r e
    obtain rfl := Option.some.inj h
    have h := e
    right
    cases t with
    | ex k a b =>
      cases k with
      | tree =>
        have h : (bif isChain a then (match take sl (unTy (.ex .tree a b)) .im u with
          | some (y, us) => some (foV a b y, us)
          | none => none) else none) = some (x, us) := h
        obtain ⟨hc, h⟩ := cond_some h
        split at h
        · rename_i y us' e1
          simp only [Option.some.injEq, Prod.mk.injEq] at h
          obtain ⟨rfl, rfl⟩ := h
          exact ⟨a, b, rfl, y, hc, e1, rfl⟩
        · cases h
      | ptr => cases h
      | ifc i j => cases h
    | _ => cases h
  · exact .inl (.inr h)
theorem takeX_dead {t : Ty} {m : Mk} {x : t.den} {us : Ups} (h : takeX sl t m .dead = some (x, us)) : False := by
  rcases takeX_cases h with (h | h) | ⟨_, _, _, _, _, h, _⟩
  · exact take_dead h
  · exact take_dead h
  · exact take_dead h
theorem takeX_sound {t : Ty} {m : Mk} {Z : Bs} {sl : Nat → Option Slot} {fp : Nat → Bs} {u : MV} {x : t.den} {us : Ups} {cs : List Value} (h : takeX sl t m u = some (x, us)) (H : HR Z w sl hdr fp) (hr : RelC Z w sl hdr fp u cs) : ∃ Z' fp' F, Took Z w sl hdr fp us Z' fp' t m x F cs := by
  rcases takeX_cases h with (h1 | h1) | ⟨a, b, rfl, y, hc, h1, rfl⟩
  · exact take_sound u h1 H hr
  · exact take_sound _ h1 H (unMV_okC hr).1
  · obtain ⟨Z', fp', F, K⟩ := take_sound u h1 H hr
    exact ⟨Z', fp', F, K.hr, K.tr, fo_rep hc (K.rep.share (shared_im _)), K.hand, K.kept, K.back⟩
theorem takeX_out {t : Ty} {m : Mk} {x : t.den} {us : Ups} {cs : List Value} {u : MV} {Z' : Bs} {F : Bs} (h : takeX sl t m u = some (x, us)) (hr : RelC Z w sl hdr fp u cs) (hp : Rep Z' w t m x F cs) : (u.out cs).cells.toList = cs ∧ cs.length = t.size := by
  rcases takeX_cases h with (h1 | h1) | ⟨a, b, rfl, y, hc, h1, rfl⟩
  · exact take_out (m' := m) h1 hr hp
  · rw [← (unMV_okC hr).2]; exact take_out (m' := m) h1 (unMV_okC hr).1 hp
  · exact ⟨take_out' h1 hr hp.one, hp.len⟩
theorem relV_root {n : Nat} {S : Slot} {c : SlotC} (h1 : (hdr n).oneCell' = true) (hs : sl n = some ⟨S.hv + 1, 0, some c⟩) : RelV Z w sl hdr fp (.root n (S.hv + 1)) (hdr n) :=
  .inr ⟨[hdr n], ⟨⟨rfl, fun v hv => by obtain rfl := List.mem_singleton.1 hv; exact h1⟩, _, hs, Nat.le_refl _, fun _ _ _ => rfl⟩, rfl⟩
theorem relV_var (H : HR Z w sl hdr fp) {n hv : Nat} {t : Ty} {m : Mk} {x : t.den} {b : Nat} (hs : sl n = some ⟨hv, 0, some ⟨.sl t, .ow m, [x]⟩⟩) (hh : hdr n = .slice (some ⟨b, 0, none⟩) 1 1) :
    RelV Z w sl hdr fp (.adr n hv 0 (some [.el 0]) t x) (.pointer (some ⟨b, 0, none⟩)) := by
  have hro := H.rep n _ _ _ hs
  rw [hh] at hro
  have hg : getP (.sl t) ([x] : List t.den) [.el 0] = some ⟨t, x⟩ := by cases t <;> rfl
  have hm : mkP (.sl t) (.ow m) [.el 0] = some m := by cases t <;> rfl
  obtain ⟨b', o', ks, f', hadr, _, F⟩ := focus_root none hro hg hm
  have e : b' = b ∧ o' = 0 := by cases t <;> (simp [addrOf] at hadr; exact ⟨hadr.1.symm, hadr.2.symm⟩)
  obtain ⟨rfl, rfl⟩ := e
  refine .inr ⟨[.pointer (some ⟨b', 0, none⟩)], ⟨⟨rfl, fun v hv => by obtain rfl := List.mem_singleton.1 hv; rfl⟩, _, hs, Nat.le_refl _, fun _ => ⟨Nat.le_refl _, fun _ c hc => ?_⟩⟩, rfl⟩
  obtain rfl := Option.some.inj hc
  refine ⟨b', 0, ks, rfl, F.at_, .inl F.own, (fun h => by cases h), ⟨m, f', F.rep, F.sub, (fun h => by cases h)⟩, fun p hp => ?_⟩
  obtain rfl := Option.some.inj hp
  refine ⟨⟨hg, fun _ => ⟨?_, m, hm⟩⟩, fun _ => by rw [hh]; exact hadr⟩
  rw [hh]
  have e2 := range_at F.at_
  rw [F.rep.len] at e2
  simp only [subc, Nat.zero_mul, Nat.add_zero]
  simp only [Nat.zero_add] at e2 ⊢
  rw [e2]
  all_goals first | rfl | (cases t <;> rfl)
theorem new_ok {R : Type} {h : OH} {c : SlotC} {us us' : Ups} {mk : Nat → Nat → MV} (hh : newSlot sl h c us mk (fun m u => some (m, u)) = some (mv, us')) :
    ∃ n S, sl n = some S ∧ us' = (n, ⟨S.hv + 1, 0, some c⟩) :: us ∧ mv = mk n (S.hv + 1) ∧ us.any (fun u => Nat.beq u.1 n) = false := by
  unfold newSlot at hh
  split at hh
  · rename_i n _ _
    split at hh
    · rename_i S hS
      cases hb : us.any (fun u => Nat.beq u.1 n) with
      | true => rw [hb] at hh; cases hh
      | false =>
        rw [hb] at hh
        simp only [cond_false, Option.some.injEq, Prod.mk.injEq] at hh
        exact ⟨n, S, hS, hh.2.symm, hh.1.symm, hb⟩
    · cases hh
  · cases hh
theorem look_other {us : Ups} {n : Nat} (h : us.any (fun u => Nat.beq u.1 n) = false) : us.look sl n = sl n := by
  induction us with
  | nil => rfl
  | cons u us ih =>
    obtain ⟨s, S⟩ := u
    simp only [List.any_cons, Bool.or_eq_false_iff] at h
    rw [look_cons, put, if_neg]
    · exact ih h.2
    · intro e; subst e; simp at h
theorem alloc_ok (hE : TTok E) {e : TypeId} {t : Ty} {nb : Nat} {h : OH} {us : Ups} (H : HR Z w sl hdr fp) (ho : o.op = .alloc e) (hT : TyOK E e t nb)
    (hh : newSlot sl h ⟨.sl t, .ow h.m, [t.zero]⟩ [] (fun n hv => .adr n hv 0 (some [.el 0]) t t.zero) (fun m u => some (m, u)) = some (mv, us)) : OpOK E o a w Z sl hdr fp mv (us.look sl) := by
  obtain ⟨n, S, hS, rfl, rfl, _⟩ := new_ok (R := Unit) hh
  obtain ⟨z, hz, hzc⟩ := hT.zero w
  obtain ⟨fp', H', T'⟩ := new_row H hS t h.m [t.zero] none_ t.zcells [] e 1 (inline_one (Rep.zero Z w t h.m none_)) (fun _ h => h.elim) (Nat.le_refl _) (by simp [Ty.zcells_len])
  rw [look_cons, look_nil]
  have hrun : (execOp a.eval o).run E.P w = .ok (.value (.pointer (some ⟨w.heap.size, 0, none⟩))) (w.alloc (.cells (t.zcells ++ []).toArray e)) := by
    have hzz : z.cells = (t.zcells ++ []).toArray := by rw [List.append_nil, ← hzc]
    unfold execOp; rw [ho]
    simp only [Instr.alloc, Sem.run_bind, hz, Result.andThen_ok, newVar, newRow, run_newObj, Sem.run_pure, hzz]; rfl
  exact .val hrun H' T' (relV_var (m := h.m) H' (by simp [put]) (by simp))
theorem box_ok (hE : TTok E) {e : TypeId} {t : Ty} {nb : Nat} {h : OH} {us us' : Ups} {x : Operand} {u : MV} {v : t.den} (H : HR Z w sl hdr fp) (ho : o.op = .box e x) (hT : TyOK E e t nb) (hx : RelV Z w sl hdr fp u (a.eval x))
    (htk : takeX sl t h.m u = some (v, us)) (hh : newSlot sl h ⟨.sl t, .ow h.m, [v]⟩ us (fun n hv => .adr n hv 0 (some [.el 0]) t v) (fun m u => some (m, u)) = some (mv, us')) : OpOK E o a w Z sl hdr fp mv (us'.look sl) := by
  obtain ⟨n, S, hS, rfl, rfl, hn⟩ := new_ok (R := Unit) hh
  rcases hx with rfl | ⟨cs, hr, he⟩
  · exact (takeX_dead htk).elim
  obtain ⟨Z1, fp1, F, T1⟩ := takeX_sound htk H hr
  obtain ⟨hc, hl⟩ := takeX_out htk hr T1.rep
  obtain ⟨fp', H', T'⟩ := new_row T1.hr ((look_other hn).trans hS) t h.m [v] F cs [] e 1 (inline_one T1.rep) (fun b hb => by obtain ⟨s, _, _, h3, h4⟩ := T1.hand b hb; exact ⟨s, h3, .inr h4⟩) (Nat.le_refl _) (by simp [hl])
  rw [look_cons]
  have hrun : (execOp a.eval o).run E.P w = .ok (.value (.pointer (some ⟨w.heap.size, 0, none⟩))) (w.alloc (.cells (cs ++ []).toArray e)) := by
    have hzz : (a.eval x).cells = (cs ++ []).toArray := by rw [he, List.append_nil]; exact (Array.toList_inj.1 (by simpa using hc))
    unfold execOp; rw [ho]
    simp only [Instr.box, Sem.run_bind, Result.andThen_ok, newVar, newRow, run_newObj, Sem.run_pure, hzz]; rfl
  exact .val hrun H' (T1.tr.comp T') (relV_var (m := h.m) H' (by simp [put]) (by simp))
theorem madeCells_replicate (z : List Value) (n : Nat) : madeCells z.toArray (n * z.length) = (List.replicate n z).flatten.toArray := by
  apply Array.ext'
  simp only [madeCells, Array.toList_map, Array.toList_range, List.size_toArray]
  apply List.ext_getElem?
  intro i
  by_cases h0 : z.length = 0
  · have : z = [] := List.eq_nil_of_length_eq_zero h0
    subst this
    simp
  have hz : 0 < z.length := by omega
  have gen : ∀ n i, (List.replicate n z).flatten[i]? = if i < n * z.length then z[i % z.length]? else none := by
    intro n
    induction n with
    | zero => intro i; simp
    | succ n ih =>
      intro i
      rw [List.replicate_succ, List.flatten_cons]
      by_cases hi : i < z.length
      · rw [List.getElem?_append_left hi, if_pos (by rw [Nat.succ_mul]; omega), Nat.mod_eq_of_lt hi]
      · rw [List.getElem?_append_right (by omega), ih, Nat.succ_mul]
        have hm : i % z.length = (i - z.length) % z.length := Nat.mod_eq_sub_mod (by omega)
        rw [hm]
        by_cases hlt : i - z.length < n * z.length
        · rw [if_pos hlt, if_pos (by omega)]
        · rw [if_neg hlt, if_neg (by omega)]
  rw [gen, List.getElem?_map]
  by_cases hi : i < n * z.length
  · rw [if_pos hi, List.getElem?_range hi]
    have := Nat.mod_lt i hz
    simp [this]
  · rw [if_neg hi, List.getElem?_eq_none (by simp; omega)]; rfl
theorem make_ok (hE : TTok E) {e : TypeId} {t : Ty} {nb : Nat} {h : OH} {us : Ups} {l c : Operand} {k1 k2 : IntKind} {n m : Int} (H : HR Z w sl hdr fp) (ho : o.op = .makeSlice e l c) (ht : E.tt e = some (.sl t, nb))
    (hl : RelV Z w sl hdr fp (.val (.int k1) n) (a.eval l)) (hc : RelV Z w sl hdr fp (.val (.int k2) m) (a.eval c)) (h0 : 0 ≤ n) (h1 : n ≤ m) (h2 : m.toNat ≤ 68719476736)
    (hh : newSlot sl h ⟨.sl t, .ow h.m, List.replicate n.toNat t.zero⟩ [] .root (fun m u => some (m, u)) = some (mv, us)) : OpOK E o a w Z sl hdr fp mv (us.look sl) := by
  obtain ⟨s, S, hS, rfl, rfl, _⟩ := new_ok (R := Unit) hh
  have hT := hE _ _ _ ht
  obtain ⟨el, nl, hu, hel⟩ := hT.desc
  have hTe := hE _ _ _ hel
  obtain ⟨i, z, i1, i2, i3, i4, i5⟩ := hTe.info
  have hzz : z.cells = t.zcells.toArray := Array.toList_inj.1 (by simpa using i5)
  have hbytes : (i.bytes : Int) * m ≤ 281474976710656 := by
    have : m.toNat * i.bytes ≤ 68719476736 * 1024 := Nat.mul_le_mul h2 (i3 ▸ hTe.small)
    have hm : (m.toNat : Int) = m := by omega
    have h3 : ((m.toNat * i.bytes : Nat) : Int) ≤ 70368744177664 := by omega
    rw [Int.natCast_mul, hm, Int.mul_comm] at h3
    omega
  have hrun := run_make w e el i z hu i1 i4 k1 k2 n m h0 h1 hbytes (by omega)
  rw [i2, hzz, ← t.zcells_len, madeCells_replicate] at hrun
  have hsplit : (List.replicate m.toNat t.zcells).flatten = (List.replicate n.toNat t.zcells).flatten ++ (List.replicate (m.toNat - n.toNat) t.zcells).flatten := by
    rw [← List.flatten_append, List.replicate_append_replicate]; congr 2; omega
  rw [hsplit] at hrun
  obtain ⟨fp', H', T'⟩ := new_row H hS t h.m (List.replicate n.toNat t.zero) none_ (List.replicate n.toNat t.zcells).flatten (List.replicate (m.toNat - n.toNat) t.zcells).flatten el m.toNat (Inline.replicate (fun f => Rep.zero Z w t h.m f) _ _) (fun _ h => h.elim) (by simp; omega)
    (by rw [← hsplit]; simp [Ty.zcells_len])
  rw [look_cons, look_nil]
  have hrun' : (execOp a.eval o).run E.P w = .ok (.value (.slice (some ⟨w.heap.size, 0, none⟩) n.toNat m.toNat)) (w.alloc (.cells ((List.replicate n.toNat t.zcells).flatten ++ (List.replicate (m.toNat - n.toNat) t.zcells).flatten).toArray el)) := by
    unfold execOp; rw [ho]
    simp only [Sem.run_bind, hl.int, hc.int, hrun, Result.andThen_ok, Sem.run_pure]
  refine .val hrun' H' T' ?_
  have := relV_root (Z := Z) (w := w.alloc (.cells ((List.replicate n.toNat t.zcells).flatten ++ (List.replicate (m.toNat - n.toNat) t.zcells).flatten).toArray el)) (sl := put sl s ⟨S.hv + 1, 0, some ⟨.sl t, .ow h.m, List.replicate n.toNat t.zero⟩⟩) (hdr := fun r => if r = s then Value.slice (some ⟨w.heap.size, 0, none⟩) (List.replicate n.toNat t.zero).length m.toNat else hdr r) (fp := fp') (n := s) (S := S) (c := ⟨.sl t, .ow h.m, List.replicate n.toNat t.zero⟩) (by simp [Value.oneCell']) (by simp [put])
  simpa using this
end
end Go.Proofs.Ytibphkgcdnconaa.V
