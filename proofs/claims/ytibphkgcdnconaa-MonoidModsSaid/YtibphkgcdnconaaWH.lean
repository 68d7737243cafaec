/- Regions whose order is drawn: every order comes to the same, continued. -/
import Derived.Test.YtibphkgcdnconaaWG
namespace Go.Proofs.Ytibphkgcdnconaa.V
open Go
set_option linter.unusedVariables false
set_option linter.all false
section
variable {E : Env} {Z0 : Ctx E.io} {w0 : World} {ns nt : Nat} {R : Type} {r : R} {Q : Exit → Act → World → Prop} {ops : Array Oper} {hs : List OH}
def stepI (E : Env) (ops : Array Oper) (hs : List OH) (i : Nat) (st : Sm) : Option Sm :=
  match ops[i]? with
  | some o => (eff E ops o (hs.getD i {}) st).map fun p => st.app o.dst p.1 p.2
  | none => none
def runs (E : Env) (ops : Array Oper) (hs : List OH) : List Nat → Sm → Option Sm
  | [], st => some st
  | i :: is, st => (stepI E ops hs i st).bind (runs E ops hs is)
theorem evOpsD_runs {K : Sm → Option R} : ∀ {is : List Nat} {st : Sm}, evOpsD E ops hs is st K = (runs E ops hs is st).bind K
  | [], st => rfl
  | i :: is, st => by
    simp only [evOpsD, runs, stepI]
    cases ops[i]? with
    | none => rfl
    | some o =>
      simp only [evOpD_eff]
      cases eff E ops o (hs.getD i {}) st with
      | none => rfl
      | some p =>
        simp only [Option.bind_some, Option.map_some]
        exact evOpsD_runs
def wrOK (ops : Array Oper) (hs : List OH) : Prop := ∀ (i : Nat) (o : Oper), ops[i]? = some o → (hs.getD i {}).wr.all (fun x => (hs.getD i {}).rd.elem x) = true
def indepI (ops : Array Oper) (hs : List OH) (j i : Nat) : Prop := ∃ oj oi, ops[j]? = some oj ∧ ops[i]? = some oi ∧ indepB ops oj (hs.getD j {}) oi (hs.getD i {}) = true
theorem stepI_comm (hw : wrOK ops hs) {j i : Nat} (h : indepI ops hs j i) {st s1 s2 : Sm} (h1 : stepI E ops hs j st = some s1) (h2 : stepI E ops hs i s1 = some s2) : ∃ s3, stepI E ops hs i st = some s3 ∧ stepI E ops hs j s3 = some s2 := by
  obtain ⟨oj, oi, ej, ei, hi⟩ := h
  simp only [stepI, ej] at h1
  simp only [stepI, ei] at h2
  cases hp : eff E ops oj (hs.getD j {}) st with
  | none => rw [hp] at h1; cases h1
  | some p =>
    rw [hp] at h1
    obtain rfl := Option.some.inj h1
    cases hq : eff E ops oi (hs.getD i {}) (st.app oj.dst p.1 p.2) with
    | none => rw [hq] at h2; cases h2
    | some q =>
      rw [hq] at h2
      obtain rfl := Option.some.inj h2
      obtain ⟨g1, g2, g3⟩ := commute (hw i oi ei) hi hp hq
      refine ⟨st.app oi.dst q.1 q.2, by simp only [stepI, ei, g1, Option.map_some], ?_⟩
      simp only [stepI, ej, g2, Option.map_some, g3]
theorem runs_front (hw : wrOK ops hs) {i : Nat} {post : List Nat} {s2 : Sm} : ∀ {pre : List Nat} {st : Sm}, (∀ j ∈ pre, indepI ops hs j i) → runs E ops hs (pre ++ i :: post) st = some s2 → ∃ s1, stepI E ops hs i st = some s1 ∧ runs E ops hs (pre ++ post) s1 = some s2
  | [], st, _, h => by
    obtain ⟨s1, h1, h2⟩ := bind_some_ h
    exact ⟨s1, h1, h2⟩
  | j :: pre, st, hp, h => by
    obtain ⟨sj, h1, h2⟩ := bind_some_ h
    obtain ⟨s1, h3, h4⟩ := runs_front hw (fun k hk => hp k (by simp [hk])) h2
    obtain ⟨s3, h5, h6⟩ := stepI_comm hw (hp j (by simp)) h1 h3
    exact ⟨s3, h5, by simp only [List.cons_append, runs, h6, Option.bind_some]; exact h4⟩
theorem wpOpD_ok (hT : TTok E) (hE : EnvOK E) (hw : wrOK ops hs) {i : Nat} {st s1 : Sm} {a : Act} {w : World} {next : Act → World → Prop} (hr : Rel Z0 w0 ns nt st a w) (hh : stepI E ops hs i st = some s1) (hK : ∀ a' w', Rel Z0 w0 ns nt s1 a' w' → next a' w') : wpOp E.P ops Q i next a w := by
  unfold wpOp
  simp only [stepI] at hh
  split at hh
  · rename_i o ho
    rw [ho]
    simp only []
    have hrun : ∀ {st : Sm} {p : MV × Ups}, effRun E ops o (hs.getD i {}) st = some p → st.app o.dst p.1 p.2 = s1 → Rel Z0 w0 ns nt st a w → o.wp E.P a w next Q := by
      intro st p hp he hr
      refine evRunD_ok (ops := ops) (K := some) (r := s1) hT hE (hw i o ho) hr ?_ (fun st' a' w' h1 h2 => ?_)
      · rw [evRunD_eff, hp]; exact congrArg some he
      · obtain rfl := Option.some.inj h1; exact hK a' w' h2
    cases hp : eff E ops o (hs.getD i {}) st with
    | none => rw [hp] at hh; cases hh
    | some p =>
      rw [hp] at hh
      have he : st.app o.dst p.1 p.2 = s1 := Option.some.inj hh
      unfold eff at hp
      cases hg : o.guard with
      | none =>
        rw [hg] at hp
        simp only [Region.wanted, hg, if_true]
        exact .inl (hrun hp he hr)
      | some jw =>
        obtain ⟨j, want⟩ := jw
        rw [hg] at hp
        simp only [] at hp
        cases hd : (ops[j]?).bind (·.dst) with
        | none => rw [hd] at hp; cases hp
        | some d =>
          rw [hd] at hp
          simp only [] at hp
          split at hp
          · rename_i v hv
            obtain ⟨_, hb, _⟩ := rel_put_bool hr hv
            have hy : yielded ops a.tmps j = some v := by simp only [yielded, hd, Option.bind_some, hb]
            simp only [Region.wanted, hg, hy]
            by_cases e : v = want
            · subst e
              rw [if_pos rfl] at hp
              rw [if_pos (by simp)]
              exact .inl (hrun hp he hr)
            · rw [if_neg e] at hp
              rw [if_neg (by simpa using e)]
              obtain rfl := Option.some.inj hp
              obtain ⟨Z, hdr, fp, H, F, hn, ht, hsz, hdf⟩ := hr
              refine hK _ _ ?_
              rw [← he]
              exact put_rel (st := ⟨st.tm, st.look, st.ns, st.nt⟩) H F hn ht hsz hdf relV_tn
          · rename_i hv
            have h0 := hr
            obtain ⟨_, _, _, _, _, _, ht, _⟩ := h0
            have h1 := ht d
            rw [hv] at h1
            have hy := yielded_tn hd (tn_undef h1)
            simp only [Region.wanted, hg, hy]
            obtain rfl := Option.some.inj hp
            obtain ⟨Z, hdr, fp, H, F, hn, ht, hsz, hdf⟩ := hr
            rw [if_neg (by simp)]
            refine hK _ _ ?_
            rw [← he]
            exact put_rel (st := ⟨st.tm, st.look, st.ns, st.nt⟩) H F hn ht hsz hdf relV_tn
          · cases hp
  · cases hh
/-- What is listed already. -/
structure Inv (ops : Array Oper) (listed : Array Bool) (is : List Nat) : Prop where
  size : listed.size = ops.size
  mem : ∀ i, i ∈ is ↔ listed.getD i true = false
  sorted : is.Pairwise (· < ·)
  down : ∀ (i : Nat) (o : Oper), ops[i]? = some o → listed.getD i false = true → ∀ e ∈ o.after.toList, Region.binds .any e = true → listed.getD e.on false = true
theorem getD_flip {listed : Array Bool} {i : Nat} (h : i < listed.size) : listed.getD i true = listed.getD i false := by
  simp only [Array.getD_eq_getD_getElem?, Array.getElem?_eq_getElem h, Option.getD_some]
theorem foldl_bit {f : Edge → Nat} {c : Edge → Bool} {j : Nat} : ∀ {l : List Edge} {s : Nat}, Nat.testBit (l.foldl (fun s e => bif c e then s ||| 2 ^ e.on ||| f e else s) s) j = true → Nat.testBit s j = true ∨ ∃ e ∈ l, c e = true ∧ (j = e.on ∨ Nat.testBit (f e) j = true)
  | [], s, h => .inl h
  | e :: l, s, h => by
    rcases foldl_bit (l := l) h with h | ⟨e', h1, h2⟩
    · have h : Nat.testBit (bif c e then s ||| 2 ^ e.on ||| f e else s) j = true := h
      cases hc : c e with
      | false => rw [hc] at h; exact .inl h
      | true =>
        rw [hc] at h
        simp only [cond_true, Nat.testBit_or, Bool.or_eq_true, Nat.testBit_two_pow, decide_eq_true_eq] at h
        rcases h with (h | h) | h
        · exact .inl h
        · exact .inr ⟨e, by simp, hc, .inl h.symm⟩
        · exact .inr ⟨e, by simp, hc, .inr h⟩
    · exact .inr ⟨e', by simp [h1], h2⟩
structure Chk (ops : Array Oper) (hs : List OH) : Prop where
  back : ∀ (i : Nat) (o : Oper), ops[i]? = some o → ∀ e ∈ o.after.toList, Region.binds .any e = true → e.on < i
  an : ∀ (i : Nat) (o : Oper), ops[i]? = some o → (hs.getD i {}).an = ancOf hs o
  ind : ∀ i j, j < i → i < ops.size → Nat.testBit (hs.getD i {}).an j = true ∨ indepI ops hs j i
  wr : wrOK ops hs
theorem chk_of {P : Program} (h : drawOK P ops hs = true) : P.follows .mixedOrders = true ∧ Chk ops hs := by
  simp only [drawOK, Bool.and_eq_true] at h
  have one : ∀ i (o : Oper), ops[i]? = some o → drawOne ops hs i = true := fun i o ho => by
    have hi : i < ops.size := by
      rcases Nat.lt_or_ge i ops.size with h | h
      · exact h
      · rw [Array.getElem?_eq_none h] at ho; cases ho
    exact (List.all_eq_true.1 h.2) i (List.mem_range.2 hi)
  have parts : ∀ i (o : Oper), ops[i]? = some o → ((hs.getD i {}).wr.all (fun x => (hs.getD i {}).rd.elem x) = true ∧ o.after.toList.all (fun e => !Region.binds .any e || Nat.blt e.on i) = true ∧ Nat.beq (hs.getD i {}).an (ancOf hs o) = true) ∧
      (List.range i).all (fun j => Nat.testBit (hs.getD i {}).an j || (match ops[j]? with
        | some o' => indepB ops o' (hs.getD j {}) o (hs.getD i {})
        | none => false)) = true := fun i o ho => by
    have := one i o ho
    simp only [drawOne, ho, Bool.and_eq_true] at this
    exact ⟨⟨this.1.1.1, this.1.1.2, this.1.2⟩, this.2⟩
  refine ⟨h.1, fun i o ho e he hb => ?_, fun i o ho => Nat.eq_of_beq_eq_true (parts i o ho).1.2.2, fun i j hj hi => ?_, fun i o ho => (parts i o ho).1.1⟩
  · have := (List.all_eq_true.1 (parts i o ho).1.2.1) e he
    rw [hb] at this
    exact Nat.lt_of_succ_le (Nat.le_of_ble_eq_true this)
  · have ho : ops[i]? = some ops[i] := Array.getElem?_eq_getElem hi
    have hlt := Nat.lt_trans hj hi
    have ho' : ops[j]? = some ops[j] := Array.getElem?_eq_getElem hlt
    have := (List.all_eq_true.1 (parts i _ ho).2) j (List.mem_range.2 hj)
    rw [ho'] at this
    simp only [Bool.or_eq_true] at this
    exact this.imp id (fun h => ⟨_, _, ho', ho, h⟩)
theorem anc_listed (C : Chk ops hs) {listed : Array Bool} {is : List Nat} (I : Inv ops listed is) : ∀ (n i : Nat) (o : Oper), i < n → ops[i]? = some o → (∀ e ∈ o.after.toList, Region.binds .any e = true → listed.getD e.on false = true) → ∀ j, Nat.testBit (hs.getD i {}).an j = true → listed.getD j false = true
  | 0, i, o, h, _, _, _, _ => absurd h (Nat.not_lt_zero _)
  | n + 1, i, o, hn, ho, hl, j, hj => by
    rw [C.an i o ho, ancOf] at hj
    rcases foldl_bit (f := fun e => (hs.getD e.on {}).an) (c := fun e => Region.binds .any e) hj with h | ⟨e, h1, h2, h3⟩
    · simp at h
    · have hel := hl e h1 h2
      rcases h3 with rfl | h3
      · exact hel
      · have hlt := C.back i o ho e h1 h2
        have hi : i < ops.size := by
          rcases Nat.lt_or_ge i ops.size with h | h
          · exact h
          · rw [Array.getElem?_eq_none h] at ho; cases ho
        have ho2 : ops[e.on]? = some (ops[e.on]'(Nat.lt_trans hlt hi)) := Array.getElem?_eq_getElem _
        exact anc_listed C I n e.on _ (Nat.lt_of_lt_of_le hlt (Nat.le_of_lt_succ hn)) ho2 (I.down e.on _ ho2 hel) j h3
theorem mem_ready {md : Region.Mode} {listed : Array Bool} {i : Nat} (h : i ∈ Region.ready md ops listed) : ∃ o, ops[i]? = some o ∧ listed.getD i true = false ∧ ∀ e ∈ o.after.toList, Region.binds md e = true → listed.getD e.on false = true := by
  simp only [Region.ready, List.mem_filter, List.mem_range, Bool.and_eq_true, Bool.not_eq_true'] at h
  obtain ⟨h1, h2, h3⟩ := h
  have ho : ops[i]? = some ops[i] := Array.getElem?_eq_getElem h1
  rw [ho] at h3
  simp only [Option.map_some, Option.getD_some] at h3
  refine ⟨_, ho, h2, fun e he hb => ?_⟩
  rw [← Array.all_toList] at h3
  have := (List.all_eq_true.1 h3) e he
  rw [hb] at this
  exact this
theorem ready_mem {md : Region.Mode} {listed : Array Bool} {i : Nat} {o : Oper} (ho : ops[i]? = some o) (h1 : listed.getD i true = false) (h2 : ∀ e ∈ o.after.toList, Region.binds md e = true → listed.getD e.on false = true) : i ∈ Region.ready md ops listed := by
  have hi : i < ops.size := by
    rcases Nat.lt_or_ge i ops.size with h | h
    · exact h
    · rw [Array.getElem?_eq_none h] at ho; cases ho
  simp only [Region.ready, List.mem_filter, List.mem_range, Bool.and_eq_true, Bool.not_eq_true']
  refine ⟨hi, h1, ?_⟩
  rw [ho]
  simp only [Option.map_some, Option.getD_some]
  rw [← Array.all_toList]
  refine List.all_eq_true.2 (fun e he => ?_)
  cases hb : Region.binds md e with
  | false => rfl
  | true => exact h2 e he hb
theorem wpAny_ok (hT : TTok E) (hE : EnvOK E) (C : Chk ops hs) {K : Sm → Option R} {sF : Sm} (hK : ∀ a w, Rel Z0 w0 ns nt sF a w → Q .normal a w) : ∀ (n : Nat) {is : List Nat} {listed : Array Bool} {st : Sm} {a : Act} {w : World}, is.length = n → Inv ops listed is → runs E ops hs is st = some sF → Rel Z0 w0 ns nt st a w → wpAny E.P .any ops Q n listed a w
  | 0, is, listed, st, a, w, hn, I, h, hr => by
    obtain rfl := List.length_eq_zero_iff.1 hn
    obtain rfl := Option.some.inj h
    refine ⟨?_, hK a w hr⟩
    cases hrd : Region.ready .any ops listed with
    | nil => rfl
    | cons i l =>
      obtain ⟨o, _, h1, _⟩ := mem_ready (md := .any) (ops := ops) (listed := listed) (i := i) (by rw [hrd]; simp)
      exact absurd ((I.mem i).2 h1) (by simp)
  | n + 1, is, listed, st, a, w, hn, I, h, hr => by
    have inside : ∀ i, i ∈ is → i < ops.size := fun i hi => by
      have := (I.mem i).1 hi
      rcases Nat.lt_or_ge i ops.size with h | h
      · exact h
      · rw [Array.getD_eq_getD_getElem?, Array.getElem?_eq_none (by rw [I.size]; exact h)] at this; cases this
    refine ⟨fun hrd => ?_, fun i hi => ?_⟩
    · cases is with
      | nil => cases hn
      | cons i0 rest =>
        have hi := inside i0 (by simp)
        have ho : ops[i0]? = some ops[i0] := Array.getElem?_eq_getElem hi
        have : i0 ∈ Region.ready .any ops listed := ready_mem ho ((I.mem i0).1 (by simp)) (fun e he hb => by
          have hlt := C.back i0 _ ho e he hb
          rw [← getD_flip (by rw [I.size]; exact Nat.lt_trans hlt hi)]
          cases hc : listed.getD e.on true with
          | true => rfl
          | false =>
            have hm := (I.mem e.on).2 hc
            rcases List.mem_cons.1 hm with e1 | e1
            · exact absurd e1 (Nat.ne_of_lt hlt)
            · exact absurd ((List.pairwise_cons.1 I.sorted).1 _ e1) (Nat.lt_asymm hlt))
        rw [hrd] at this; cases this
    · obtain ⟨o, ho, h1, h2⟩ := mem_ready hi
      have hm := (I.mem i).2 h1
      obtain ⟨pre, post, rfl⟩ := List.append_of_mem hm
      have hlt : i < ops.size := inside i hm
      have hs' := I.sorted
      rw [List.pairwise_append] at hs'
      obtain ⟨sp, sq, sr⟩ := hs'
      have hind : ∀ j ∈ pre, indepI ops hs j i := fun j hj => by
        have hji : j < i := sr j hj i (by simp)
        rcases C.ind i j hji hlt with hb | hb
        · have hl := anc_listed C I (i + 1) i o (Nat.lt_succ_self i) ho h2 j hb
          have hj' := (I.mem j).1 (by simp [hj])
          rw [getD_flip (by rw [I.size]; exact Nat.lt_trans hji hlt), hl] at hj'
          cases hj'
        · exact hb
      obtain ⟨s1, g1, g2⟩ := runs_front C.wr hind h
      refine wpOpD_ok hT hE C.wr hr g1 (fun a' w' hr' => wpAny_ok (K := K) hT hE C hK n ?_ ⟨?_, fun k => ?_, ?_, fun k ok hk hl e he hb => ?_⟩ g2 hr')
      · simp only [List.length_append, List.length_cons] at hn ⊢; omega
      · rw [Array.size_setIfInBounds, I.size]
      · have hmk := I.mem k
        simp only [List.mem_append, List.mem_cons] at hmk ⊢
        simp only [Array.getD_eq_getD_getElem?, Array.getElem?_setIfInBounds] at hmk ⊢
        by_cases e : i = k
        · subst e
          rw [if_pos rfl, if_pos (by rw [I.size]; exact hlt)]
          simp only [Option.getD_some, Bool.true_eq_false, iff_false]
          rintro (hc | hc)
          · exact absurd (sr i hc i (by simp)) (Nat.lt_irrefl _)
          · exact absurd ((List.pairwise_cons.1 sq).1 i hc) (Nat.lt_irrefl _)
        · rw [if_neg e, ← hmk]
          constructor
          · rintro (h | h)
            · exact .inl h
            · exact .inr (.inr h)
          · rintro (h | h | h)
            · exact .inl h
            · exact absurd h.symm e
            · exact .inr h
      · rw [List.pairwise_append]
        exact ⟨sp, (List.pairwise_cons.1 sq).2, fun x hx y hy => sr x hx y (by simp [hy])⟩
      · have up : ∀ x, listed.getD x false = true → (listed.setIfInBounds i true).getD x false = true := fun x hx => by
          simp only [Array.getD_eq_getD_getElem?, Array.getElem?_setIfInBounds] at hx ⊢
          by_cases e : i = x
          · subst e; rw [if_pos rfl, if_pos (by rw [I.size]; exact hlt)]; rfl
          · rw [if_neg e]; exact hx
        by_cases e1 : i = k
        · subst e1
          rw [ho] at hk; obtain rfl := Option.some.inj hk
          exact up _ (h2 e he hb)
        · refine up _ (I.down k ok hk ?_ e he hb)
          simp only [Array.getD_eq_getD_getElem?, Array.getElem?_setIfInBounds, if_neg e1] at hl ⊢
          exact hl
theorem draw_ok (hT : TTok E) (hE : EnvOK E) {id : Nat} {K : Sm → Option R} {st : Sm} {a : Act} {w : World} (hd : drawOK E.P ops hs = true) (hh : evOpsD E ops hs (List.range ops.size) st K = some r) (hr : Rel Z0 w0 ns nt st a w) (hK : ∀ st' a' w', K st' = some r → Rel Z0 w0 ns nt st' a' w' → Q .normal a' w') : (Code.region id ops true).wp E.P Q a w := by
  obtain ⟨hP, C⟩ := chk_of hd
  rw [evOpsD_runs] at hh
  obtain ⟨sF, h1, h2⟩ := bind_some_ hh
  refine wp_region_any hP ?_
  have hr' : Rel Z0 w0 ns nt st a { w with drawn := w.drawn + 1 } := by
    obtain ⟨Z, hdr, fp, H, F, hn, ht, hsz, hdf⟩ := hr
    obtain ⟨H', T'⟩ := step_drew H
    exact ⟨Z, hdr, fp, H', F.trans H' T', ⟨hn.1, hn.2.trans T' (fun s S S' _ h1 h2 => by rw [h1] at h2; obtain rfl := Option.some.inj h2; rfl)⟩, fun i => (ht i).trans H H' T', hsz, hdf⟩
  refine wpAny_ok (K := K) hT hE C (fun a w h => hK _ a w h2 h) ops.size (by simp) ⟨by simp, fun i => ?_, ?_, fun i o ho hl e he hb => ?_⟩ h1 hr'
  · simp only [List.mem_range, Array.getD_eq_getD_getElem?, Array.getElem?_replicate]
    by_cases h : i < ops.size
    · rw [if_pos h]; simp [h]
    · rw [if_neg h]; simp [h]
  · exact List.pairwise_lt_range
  · simp only [Array.getD_eq_getD_getElem?, Array.getElem?_replicate] at hl
    split at hl <;> cases hl
end
end Go.Proofs.Ytibphkgcdnconaa.V
