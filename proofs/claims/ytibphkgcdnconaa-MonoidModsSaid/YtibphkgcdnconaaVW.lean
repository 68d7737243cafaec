/- Each operation of the small machine is what the machine does. -/
import Derived.Test.YtibphkgcdnconaaVV
namespace Go.Proofs.Ytibphkgcdnconaa.V
open Go
set_option linter.unusedVariables false
set_option linter.all false
section
variable {E : Env} {o : Oper} {a : Act} {w : World} {Z : Bs} {sl : Nat → Option Slot} {hdr : Nat → Value} {fp : Nat → Bs} {mv : MV} {ρ : Operand → MV}
theorem len_ok (hE : TTok E) (H : HR Z w sl hdr fp) {c : Call} {x : Operand} {ty : TypeId} {u : MV} {t : Ty} {xs : List t.den} {ac : Acc} (ho : o.op = .call c) (hcal : c.callee = .builtin .len) (hargs : c.args.toList = [x]) (hty : c.argTypes.toList.head? = some ty)
    (hx : RelV Z w sl hdr fp u (a.eval x)) (hc : cont sl u = some ⟨.sl t, xs, ac⟩) (ht : tyB E ty (.sl t) = true) : OpOK E o a w Z sl hdr fp (.val (.int .i64) (xs.length : Int)) (Ups.look [] sl) := by
  obtain ⟨nb, hT⟩ := tyB_ok hE ht
  obtain ⟨el, ne, hu, hel⟩ := hT.desc
  have harr : c.args = #[x] := Array.toList_inj.1 (by simpa using hargs)
  have ht0 : c.argTypes[0]? = some ty := by rw [← Array.getElem?_toList, ← List.head?_eq_getElem?]; exact hty
  rcases hx with rfl | ⟨cs, hr, he⟩
  · cases hc
  obtain ⟨hA, hout⟩ := cont_ok H hc hr
  have hev : ∃ A cap, a.eval x = .slice A xs.length cap := by
    have main : ∀ {m : Mk} {f : Bs}, Rep Z w (.sl t) m xs f cs → ∃ A cap, a.eval x = .slice A xs.length cap := fun h => by
      obtain ⟨A, cap, ks, m1, f1, e1, _⟩ := rep_row h
      exact ⟨A, cap, by rw [he, hout, e1]; rfl⟩
    cases ac with
    | im => exact main (m := .im) (f := none_) hA
    | own s hv cv p => obtain ⟨c, _, _, ⟨m0, f, h3, _⟩, _⟩ := hA; exact main h3
    | ro s hv cv => obtain ⟨c, _, _, m0, f, h3, _⟩ := hA; exact main h3
  obtain ⟨A, cap, hev⟩ := hev
  refine .same H (v := .int .i64 xs.length) ?_ (relV_int _ _)
  unfold execOp; rw [ho]
  simp only [resolve, hcal, harr, pure_bind, invoke, builtin]
  simp [Builtin.len_, ht0, hev, run_underlying hu, goInt]
theorem unMV_ok {u : MV} {v : Value} (h : RelV Z w sl hdr fp u v) : RelV Z w sl hdr fp (unMV u) v := by
  rcases h with rfl | ⟨cs, h1, h2⟩
  · exact .inl rfl
  · exact .inr ⟨cs, (unMV_okC h1).1, h2.trans (unMV_okC h1).2.symm⟩
theorem op_ok (hT : TTok E) (hE : EnvOK E) (H : HR Z w sl hdr fp) (hr0 : ∃ r0, sl r0 = none) {h : OH} {us : Ups} (hρ : ∀ x, RelV Z w sl hdr fp (ρ x) (a.eval x)) (hh : opCore E ρ sl o h (fun m u => some (m, u)) = some (mv, us)) : OpOK E o a w Z sl hdr fp mv (us.look sl) := by
  unfold opCore at hh
  split at hh
  -- move
  · rename_i x ho
    simp only [Option.some.injEq, Prod.mk.injEq] at hh
    obtain ⟨rfl, rfl⟩ := hh
    refine .same H (v := a.eval x) ?_ (hρ x)
    unfold execOp; rw [ho]; rfl
  -- assign
  · rename_i x ho
    split at hh
    · rename_i n _ hsl hx
      split at hh
      · rename_i t nb ht
        obtain ⟨n, S, hS, rfl, rfl, _⟩ := new_ok (R := Unit) hh
        have hxx := hρ x
        rw [hx] at hxx
        rcases hxx with h0 | ⟨cx, ⟨A, rfl⟩, he⟩
        · cases h0
        obtain ⟨fp2, _, _, H2, T2⟩ := step_set H hS ⟨.sl t, .ow h.m, []⟩ (.slice A 0 0) none_ ⟨A, 0, rfl, .inl ⟨rfl, rfl⟩⟩ (.inl ⟨t, rfl⟩) (fun _ h => h.elim) 0
        rw [look_cons, look_nil]
        have hrun : (execOp a.eval o).run E.P w = .ok (.value (.slice A 0 0)) w := by unfold execOp; rw [ho]; simp only [he]; rfl
        refine .val hrun H2 T2 ?_
        have := relV_root (Z := Z) (w := w) (sl := put sl n ⟨S.hv + 1, 0, some ⟨.sl t, .ow h.m, []⟩⟩) (hdr := fun r => if r = n then Value.slice A 0 0 else hdr r) (fp := fp2) (n := n) (S := S) (c := ⟨.sl t, .ow h.m, []⟩) (by simp [Value.oneCell']) (by simp [put])
        simpa using this
      · cases hh
    · simp only [Option.some.injEq, Prod.mk.injEq] at hh
      obtain ⟨rfl, rfl⟩ := hh
      refine .same H (v := a.eval x) ?_ (hρ x)
      unfold execOp; rw [ho]; rfl
  -- pick
  · rename_i c x y ho
    split at hh
    · rename_i v hc
      have hcv := hρ c
      rw [hc] at hcv
      have hev := hcv.bool
      have hrun : (execOp a.eval o).run E.P w = .ok (.value (if v then a.eval x else a.eval y)) w := by
        unfold execOp; rw [ho]
        simp only [hev, asBool, pure_bind, Sem.run_pure]
      split at hh
      · rename_i p q hp hq
        simp only [Option.some.injEq, Prod.mk.injEq] at hh
        obtain ⟨rfl, rfl⟩ := hh
        have h1 := hρ x
        have h2 := hρ y
        rw [hp] at h1
        rw [hq] at h2
        refine .same H hrun ?_
        rw [h1.bool, h2.bool]
        cases v <;> exact relV_bool _
      · cases v with
        | true =>
          simp only [cond_true, Option.some.injEq, Prod.mk.injEq] at hh
          obtain ⟨rfl, rfl⟩ := hh
          exact .same H hrun (hρ x)
        | false =>
          simp only [cond_false, Option.some.injEq, Prod.mk.injEq] at hh
          obtain ⟨rfl, rfl⟩ := hh
          exact .same H hrun (hρ y)
    · cases hh
  -- binOp
  · rename_i op xt x y yt ho
    cases hn : isNilC y with
    | true => rw [hn] at hh; exact nilK_ok hT H ho (hρ x) hn hh
    | false => rw [hn] at hh; exact eqK_ok hT H ho (hρ x) (hρ y) hh
  -- unOp
  · rename_i op xt x ho
    split at hh
    · rename_i b hx
      simp only [Option.some.injEq, Prod.mk.injEq] at hh
      obtain ⟨rfl, rfl⟩ := hh
      have h1 := hρ x
      rw [hx] at h1
      refine .same H (v := .bool (!b)) ?_ (relV_bool _)
      unfold execOp; rw [ho]; simp only [h1.bool]; rfl
    · rename_i k n hx
      simp only [Option.some.injEq, Prod.mk.injEq] at hh
      obtain ⟨rfl, rfl⟩ := hh
      have h1 := hρ x
      rw [hx] at h1
      refine .same H (v := .int k (k.wrap (0 - n))) ?_ (relV_int _ _)
      unfold execOp; rw [ho]; simp only [h1.int]; rfl
    · cases hh
  -- convert
  · rename_i s d x ho
    split at hh
    · rename_i ks n1 k nb k' n ht1 ht2 hx
      simp only [Option.some.injEq, Prod.mk.injEq] at hh
      obtain ⟨rfl, rfl⟩ := hh
      have g := hρ x
      rw [hx] at g
      have u1 : E.P.underlying s = some (.int ks) := (hT _ _ _ ht1).desc
      have u2 : E.P.underlying d = some (.int k) := (hT _ _ _ ht2).desc
      refine .same H (v := .int k (k.wrap n)) ?_ (relV_int _ _)
      unfold execOp; rw [ho]
      simp only [g.int]
      simp [convert, run_underlying u1, run_underlying u2, Conv.intToInt]
    · cases hh
  -- extract
  · rename_i x i ho
    have key : ∀ (u : MV) (vs : List Value) (v : Value), a.eval x = .tuple vs.toArray → vs[i]? = some v → RelV Z w sl hdr fp u v → some (u, ([] : Ups)) = some (mv, us) → OpOK E o a w Z sl hdr fp mv (us.look sl) := by
      intro u vs v h1 h2 h3 h4
      simp only [Option.some.injEq, Prod.mk.injEq] at h4
      obtain ⟨rfl, rfl⟩ := h4
      refine .same H (v := v) ?_ h3
      unfold execOp; rw [ho]
      simp only [h1, Instr.extract, List.getElem?_toArray, h2, pure_bind, Sem.run_pure]
    have comp : ∀ {u : MV} {c1 : List Value} {v : Value}, (u = .dead ∨ RelC Z w sl hdr fp u c1 ∧ v = u.out c1) → RelV Z w sl hdr fp u v := fun h => h.imp id (fun h => ⟨_, h.1, h.2⟩)
    split at hh
    · rename_i p q r rest hx
      have g := hρ x
      rw [hx] at g
      rcases g with g | ⟨cs, ⟨c1, v1, vs1, rfl, h1, c2, v2, vs2, rfl, h2, c3, v3, vs3, rfl, h3, _⟩, he⟩
      · cases g
      split at hh
      · exact key p _ v1 he rfl (comp h1) hh
      · exact key q _ v2 he rfl (comp h2) hh
      · exact key r _ v3 he rfl (comp h3) hh
      · cases hh
    · rename_i p q hx
      have g := hρ x
      rw [hx] at g
      rcases g with g | ⟨cs, ⟨c1, v1, vs1, rfl, h1, c2, v2, vs2, rfl, h2, _⟩, he⟩
      · cases g
      split at hh
      · exact key p _ v1 he rfl (comp h1) hh
      · exact key q _ v2 he rfl (comp h2) hh
      · cases hh
    · cases hh
  -- nilCheck
  · rename_i x ho
    have key : ∀ ad, a.eval x = .pointer (some ad) → (execOp a.eval o).run E.P w = .ok (.value (a.eval x)) w := by
      intro ad h1
      unfold execOp; rw [ho]; simp only [h1]; rfl
    split at hh
    · rename_i s hv cv p t v hx
      obtain ⟨h1, hh⟩ := cond_some hh
      simp only [Option.some.injEq, Prod.mk.injEq] at hh
      obtain ⟨rfl, rfl⟩ := hh
      have g := hρ x
      rw [hx] at g
      have g0 := g
      rcases g0 with g0 | ⟨cs, ⟨_, S, q1, _, q3⟩, he⟩
      · cases g0
      obtain ⟨c, hc⟩ := Option.isSome_iff_exists.1 h1
      have e2 := lookC_some hc
      rw [e2] at q1; obtain rfl := Option.some.inj q1
      obtain ⟨b, o', ks, hcs, _⟩ := (q3 rfl).2 rfl c rfl
      exact .same H (key ⟨b, o', none⟩ (by rw [he, hcs]; rfl)) g
    · rename_i t v hx
      simp only [Option.some.injEq, Prod.mk.injEq] at hh
      obtain ⟨rfl, rfl⟩ := hh
      have g := hρ x
      rw [hx] at g
      have g0 := g
      rcases g0 with g0 | ⟨cs, ⟨b, o', ks, hcs, _⟩, he⟩
      · cases g0
      exact .same H (key ⟨b, o', none⟩ (by rw [he, hcs]; rfl)) g
    · rename_i t tb v hx
      obtain ⟨v0, hv0, hh⟩ := bind_some_ hh
      simp only [Option.some.injEq, Prod.mk.injEq] at hh
      obtain ⟨rfl, rfl⟩ := hh
      have g := hρ x
      rw [hx] at g
      rcases g with g0 | ⟨cs, r0, he⟩
      · cases g0
      rcases r0 with ⟨r1, _⟩ | ⟨v1, b, o', ks, r1, hcs, hat, hz, hr⟩
      · rw [hv0] at r1; cases r1
      · rw [hv0] at r1
        obtain rfl := Option.some.inj r1
        exact .same H (key ⟨b, o', none⟩ (by rw [he, hcs]; rfl)) (.inr ⟨[.pointer (some ⟨b, o', none⟩)], ⟨b, o', ks, rfl, hat, hz, hr⟩, by rw [he, hcs]; rfl⟩)
    · cases hh
  -- alloc
  · rename_i e ho
    split at hh
    · rename_i t nb ht
      exact alloc_ok hT H ho (hT _ _ _ ht).un hh
    · cases hh
  -- box
  · rename_i e x ho
    split at hh
    · rename_i t nb ht
      split at hh
      · rename_i v us1 htk
        exact box_ok hT H ho (hT _ _ _ ht).un (unMV_ok (hρ x)) htk hh
      · cases hh
    · cases hh
  -- build
  · rename_i e parts ho
    split at hh
    · rename_i tt0 nb ht
      split at hh
      · rename_i ta tb ett
        obtain ⟨hb, hh⟩ := cond_some hh
        simp only [Option.some.injEq, Prod.mk.injEq] at hh
        obtain ⟨rfl, rfl⟩ := hh
        simp only [Bool.and_eq_true] at hb
        have hTe := (hT _ _ _ ht).un
        rw [ett] at hTe
        exact build_ok hT H ho hTe hρ hb.1 hb.2
      · cases hh
    · cases hh
  -- buildSlice
  · rename_i e n parts ho
    split at hh
    · rename_i t nb ht
      split at hh
      · rename_i l us1 htk
        obtain ⟨hb, hh⟩ := chk_some hh
        simp only [Bool.and_eq_true, List.all_eq_true] at hb
        exact buildSlice_ok hT H ho ht hρ htk (Nat.le_of_ble_eq_true hb.1) (fun p hp => Nat.lt_of_lt_of_le (Nat.lt_of_lt_of_le (Nat.lt_succ_self _) (Nat.le_of_ble_eq_true (hb.2 p hp))) (Nat.le_refl _)) hh
      · cases hh
    · cases hh
  -- makeSlice
  · rename_i e l c ho
    split at hh
    · rename_i t nb ht
      split at hh
      · rename_i k1 n k2 m hl hc
        obtain ⟨h1, hh⟩ := chk_some hh
        obtain ⟨h2, hh⟩ := chk_some hh
        obtain ⟨h3, hh⟩ := chk_some hh
        have g1 := hρ l
        have g2 := hρ c
        rw [hl] at g1
        rw [hc] at g2
        exact make_ok hT H ho ht g1 g2 (of_decide_eq_true h1) (of_decide_eq_true h2) (lenB_ok h3) hh
      · cases hh
    · cases hh
  -- load
  · rename_i e x ho
    split at hh
    · rename_i s hv cv p t v hx
      obtain ⟨h1, hh⟩ := cond_some hh
      split at hh
      · rename_i u hl
        simp only [Option.some.injEq, Prod.mk.injEq] at hh
        obtain ⟨rfl, rfl⟩ := hh
        have g := hρ x
        rw [hx] at g
        exact load_ok hT H ho g h1 hl
      · cases hh
    · rename_i t v hx
      obtain ⟨h1, hh⟩ := cond_some hh
      simp only [Option.some.injEq, Prod.mk.injEq] at hh
      obtain ⟨rfl, rfl⟩ := hh
      have g := hρ x
      rw [hx] at g
      exact load_im_ok hT H ho g h1
    · rename_i m hx
      obtain ⟨h1, hh⟩ := cond_some hh
      simp only [Option.some.injEq, Prod.mk.injEq] at hh
      obtain ⟨rfl, rfl⟩ := hh
      have g := hρ x
      rw [hx] at g
      rcases g with h0 | ⟨cs, ⟨b, o', ks, hcs, hat, hz, hc⟩, he⟩
      · cases h0
      have hev : a.eval x = .pointer (some ⟨b, o', none⟩) := by rw [he, hcs]; rfl
      have hc0 := hat 0 (by simp)
      simp only [Nat.add_zero, List.getElem?_cons_zero] at hc0
      have hag : (isAgg e).run E.P w = .ok false w := by
        unfold clB at h1
        simp only [Bool.and_eq_true] at h1
        obtain ⟨h1, _⟩ := h1
        split at h1
        · rename_i hu; simp [isAgg, run_underlying hu]
        · rename_i hu; simp [isAgg, run_underlying hu]
        · rename_i hu; simp [isAgg, run_underlying hu]
        · rename_i hu; simp [isAgg, run_underlying hu]
        · cases h1
      have hrun : (execOp a.eval o).run E.P w = .ok (.value (m.out ks)) w := by
        unfold execOp; rw [ho]
        simp [Instr.loadAt, Instr.sureAddr, loadVar, hev, hag, run_load, hc0]
      exact .same H hrun (.inr ⟨_, hc, rfl⟩)
    · cases hh
  -- store
  · rename_i e x y ho
    split at hh
    · rename_i s hv cv p t v hx
      obtain ⟨h1, hh⟩ := cond_some hh
      have g := hρ x
      rw [hx] at g
      exact store_ok hT H ho g (hρ y) h1 hh
    · cases hh
  -- fieldAddr
  · rename_i e x i ho
    split at hh
    · rename_i t v hx
      obtain ⟨h1, hh⟩ := cond_some hh
      have g := unMV_ok (hρ x)
      rw [hx] at g
      split at hh
      · rename_i d hd
        cases hb : Nat.beq d.1.size 0 with
        | true => rw [hb] at hh; cases hh
        | false =>
          rw [hb] at hh
          simp only [cond_false, Option.some.injEq, Prod.mk.injEq] at hh
          obtain ⟨rfl, rfl⟩ := hh
          exact fieldAddr_im_ok hT H ho g h1 hd (fun e => by rw [e] at hb; cases hb)
      · cases hh
    · rename_i s hv cv p t v hx
      obtain ⟨h1, hh⟩ := cond_some hh
      have g := unMV_ok (hρ x)
      rw [hx] at g
      split at hh
      · rename_i d hd
        cases hb : (Nat.beq d.1.size 0 || (lookC sl s hv cv).isNone) with
        | true => rw [hb] at hh; cases hh
        | false =>
          rw [hb] at hh
          simp only [cond_false, Option.some.injEq, Prod.mk.injEq] at hh
          obtain ⟨rfl, rfl⟩ := hh
          simp only [Bool.or_eq_false_iff] at hb
          exact fieldAddr_ok hT H ho g h1 hd (fun e => by rw [e] at hb; cases hb.1) (by cases hq : lookC sl s hv cv <;> simp_all)
      · cases hh
    · cases hh
  -- field
  · rename_i e x i ho
    split at hh
    · rename_i t nb ht
      obtain ⟨h1, hh⟩ := cond_some hh
      split at hh
      · rename_i d hd
        simp only [Option.some.injEq, Prod.mk.injEq] at hh
        obtain ⟨rfl, rfl⟩ := hh
        exact field_ok hT H ho (unMV_ok (hρ x)) (hT _ _ _ ht).un h1 hd
      · cases hh
    · cases hh
  -- indexAddr
  · rename_i e x i ho
    split at hh
    · rename_i k n hi
      have g := hρ i
      rw [hi] at g
      split at hh
      · rename_i t xs ac hc
        obtain ⟨h1, hh⟩ := cond_some hh
        obtain ⟨v, hv, hh⟩ := bind_some_ hh
        simp only [Option.some.injEq, Prod.mk.injEq] at hh
        obtain ⟨rfl, rfl⟩ := hh
        exact indexAddr_ok hT H ho (unMV_ok (hρ x)) g hc h1 hv
      · cases hh
    · cases hh
  -- makeFunc
  · rename_i fn first caps ho
    split at hh
    · rename_i f
      obtain ⟨h1, hh⟩ := cond_some hh
      simp only [Option.some.injEq, Prod.mk.injEq] at hh
      obtain ⟨rfl, rfl⟩ := hh
      have hf : first = #[] := by simpa using h1
      subst hf
      refine .same H (v := .func (.func f) #[] (caps.toList.map a.eval).toArray) ?_ (.inr ⟨_, ⟨caps.toList.map a.eval, rfl, relC_tups _ _ (by simp) (fun i u v h1 h2 => ?_)⟩, rfl⟩)
      · unfold execOp; rw [ho]
        have hcaps : (caps.toList.map a.eval).toArray = caps.map a.eval := by apply Array.ext'; simp
        rw [hcaps]
        simp [Instr.makeFunc]
      · rw [List.getElem?_map] at h1 h2
        cases hk : caps.toList[i]? with
        | none => rw [hk] at h1; cases h1
        | some y =>
          rw [hk] at h1 h2
          obtain rfl := Option.some.inj h1
          obtain rfl := Option.some.inj h2
          exact hρ y
    · cases hh
  -- call
  · rename_i c ho
    split at hh
    · rename_i f hc
      split at hh
      · rename_i g caps hf
        have hg := hρ f
        rw [hf] at hg
        refine call_ok hE H ho hc hg hr0 (by simp) (fun i u y h1 h2 => ?_) hh
        rw [List.getElem?_map, h2] at h1
        obtain rfl := Option.some.inj h1
        exact hρ y
      · cases hh
    · rename_i hc
      split at hh
      · rename_i x ty _ hargs hty
        split at hh
        · rename_i hx
          split at hh
          · rename_i t nb ht
            simp only [Option.some.injEq, Prod.mk.injEq] at hh
            obtain ⟨rfl, rfl⟩ := hh
            have g := unMV_ok (hρ x)
            rw [hx] at g
            rcases g with g | ⟨cs, ⟨A, rfl⟩, he⟩
            · cases g
            obtain ⟨el, ne, hu, hel⟩ := (hT _ _ _ ht).desc
            have harr : c.args = #[x] := Array.toList_inj.1 (by simpa using hargs)
            have ht0 : c.argTypes[0]? = some ty := by rw [← Array.getElem?_toList, hty]; rfl
            have hev : a.eval x = .slice A 0 0 := he
            refine .same H (v := .int .i64 0) ?_ (relV_int _ _)
            unfold execOp; rw [ho]
            simp only [resolve, hc, harr, pure_bind, invoke, builtin]
            simp [Builtin.len_, ht0, hev, run_underlying hu, goInt]
          · cases hh
        · rename_i s hx
          obtain ⟨h1, hh⟩ := cond_some hh
          simp only [Option.some.injEq, Prod.mk.injEq] at hh
          obtain ⟨rfl, rfl⟩ := hh
          have g := unMV_ok (hρ x)
          rw [hx] at g
          obtain ⟨nb, hTy⟩ := tyB_ok hT h1
          have hu : E.P.underlying ty = some .string := hTy.desc
          have harr : c.args = #[x] := Array.toList_inj.1 (by simpa using hargs)
          have ht0 : c.argTypes[0]? = some ty := by rw [← Array.getElem?_toList, hty]; rfl
          refine .same H (v := .int .i64 s.size) ?_ (relV_int _ _)
          unfold execOp; rw [ho]
          simp only [resolve, hc, harr, pure_bind, invoke, builtin]
          simp [Builtin.len_, ht0, g.str, run_underlying hu, goInt]
        · rename_i u _ _
          split at hh
          · rename_i t xs ac hcc
            obtain ⟨h1, hh⟩ := cond_some hh
            simp only [Option.some.injEq, Prod.mk.injEq] at hh
            obtain ⟨rfl, rfl⟩ := hh
            exact len_ok hT H ho hc hargs (by rw [hty]; rfl) (unMV_ok (hρ x)) hcc h1
          · cases hh
      · cases hh
    · rename_i hc
      split at hh
      · rename_i x y ty ty' _ hargs hty
        obtain ⟨h1, hh2⟩ := cond_some hh
        clear hh
        obtain rfl := Nat.eq_of_beq_eq_true h1
        exact append_ok hT H ho hc hargs (by rw [hty]; rfl) (hρ x) (unMV_ok (hρ y)) hh2
      · cases hh
    · rename_i hc
      split at hh
      · rename_i x y hargs
        split at hh
        · rename_i k p k' q hx hy
          simp only [Option.some.injEq, Prod.mk.injEq] at hh
          obtain ⟨rfl, rfl⟩ := hh
          have g1 := hρ x
          have g2 := hρ y
          rw [hx] at g1
          rw [hy] at g2
          have harr : c.args = #[x, y] := Array.toList_inj.1 (by simpa using hargs)
          refine .same H (v := .int k (if q < p then q else p)) ?_ (relV_int _ _)
          unfold execOp; rw [ho]
          simp only [resolve, hc, harr, pure_bind, invoke, builtin]
          simp [Builtin.min_, Builtin.min2, g1.int, g2.int]
        · cases hh
      · cases hh
    · rename_i hc
      split at hh
      · rename_i x y hargs
        split at hh
        · rename_i k p k' q hx hy
          simp only [Option.some.injEq, Prod.mk.injEq] at hh
          obtain ⟨rfl, rfl⟩ := hh
          have g1 := hρ x
          have g2 := hρ y
          rw [hx] at g1
          rw [hy] at g2
          have harr : c.args = #[x, y] := Array.toList_inj.1 (by simpa using hargs)
          refine .same H (v := .int k (if q > p then q else p)) ?_ (relV_int _ _)
          unfold execOp; rw [ho]
          simp only [resolve, hc, harr, pure_bind, invoke, builtin]
          simp [Builtin.max_, Builtin.max2, g1.int, g2.int]
        · cases hh
      · cases hh
    · cases hh
  · cases hh
end
end Go.Proofs.Ytibphkgcdnconaa.V
