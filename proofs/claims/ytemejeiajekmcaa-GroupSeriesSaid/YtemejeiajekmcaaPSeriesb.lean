/- The law over the models, part 2. -/
import Derived.Test.YtemejeiajekmcaaPSeriesa
namespace Go.Proofs.Ytemejeiajekmcaa.V
open Go Classical Grp
set_option linter.unusedVariables false
set_option linter.all false
variable {n : Nat} {k : Nat} {hk : 1 ≤ k ∧ k ≤ 7}
noncomputable def invTo (p : List Int) (i : Nat) : List Int := tab p.length (fun v => if p.idxOf (v : Int) < i then ((p.idxOf (v : Int) : Nat) : Int) else 0)
theorem q3r (p : List Int) : List.replicate p.length (0 : Int) = invTo p 0 := by
  rw [qwr]; exact qwq (fun j hj => (if_neg (by omega)).symm)
theorem q3s {p : List Int} (hp : PK k p) {i v : Nat} (hi : i < k) (h : rd p (i : Int) = (v : Int)) : p.idxOf (v : Int) = i := by
  have hm : (v : Int) ∈ p := by rw [← h, qyp (by rw [hp.2]; exact hi)]; exact List.getElem_mem _
  have h1 := q20 hm
  exact hp.1.inj h1.1 (by rw [hp.2]; exact hi) (by rw [h1.2, h])
theorem q3t {p : List Int} (hp : PK k p) {i v : Nat} (hi : i < k) (h : rd p (i : Int) = (v : Int)) : (invTo p i).set v (i : Int) = invTo p (i + 1) := by
  have e := q3s hp hi h
  unfold invTo
  rw [qwp]
  refine qwq (fun j hj => ?_)
  by_cases c : j = v
  · subst c; rw [if_pos rfl, e, if_pos (by omega)]
  · rw [if_neg c]
    have : p.idxOf (j : Int) ≠ i := fun e2 => by
      have := (q20 (hp.memI (i := j) (by rw [← hp.2]; exact hj))).2
      rw [e2, h] at this; omega
    congr 1; apply propext; omega
theorem q3u {p : List Int} (hp : PK k p) : invTo p p.length = invP p :=
  qwq (fun j hj => if_pos (q20 (hp.memI (i := j) (by rw [← hp.2]; exact hj))).1)
theorem q3v (hn : Fu n) {p : List Int} (hp : PK k p) : qep n p = some (invP p, ()) := by
  have h7 := hp.bd
  have hl := hp.2
  have g : iterN (qeo n) n (p, (p.length : Int), 0, List.replicate p.length 0, ()) = some (.inl (invP p, ())) := by
    refine qv4 hn (fun i => (p, (p.length : Int), (i : Int), invTo p i, ())) p.length (by omega) (by rw [q3r]; rfl) (fun i hi => ?_) ?_
    · obtain ⟨v, hv, e⟩ := hp.at (i := i) (by omega)
      have es := q3t hp (by omega) e
      have ei : idx (invTo p i) (v : Int) = some (if p.idxOf (v : Int) < i then ((p.idxOf (v : Int) : Nat) : Int) else 0) := qwt (by omega)
      simp (disch := first | assumption | omega) only [zA, zB, zC, zD, zE, zF, zG, qwi, qwc, qwd, zH, zI, dpos, dneg, zJ, zK, zL, zM, zN, zO, zP, qeo, qen, qwl, e, ei, es, up1]
    · simp (disch := first | assumption | omega) only [zA, zB, zC, zD, zE, zF, zG, qwi, qwc, qwd, zH, zI, dpos, dneg, zJ, zK, zL, zM, zN, zO, zP, qeo, qen, q3u hp]
  simp (disch := first | assumption | omega) only [zA, zB, zC, zD, zE, zF, zG, qwi, qwc, qwd, zH, zI, dpos, dneg, zJ, zK, zL, zM, zN, zO, zP, qep, g]
theorem q3w (hn : Fu n) {p : List Int} (hp : PK k p) : qfe n p = some (invP p, ()) := by
  have h7 := hp.bd
  have hl := hp.2
  have g : iterN (qfd n) n (p, 0, List.replicate p.length 0, ()) = some (.inl (invP p, ())) := by
    refine qv4 hn (fun i => (p, (i : Int), invTo p i, ())) p.length (by omega) (by rw [q3r]; rfl) (fun i hi => ?_) ?_
    · obtain ⟨v, hv, e⟩ := hp.at (i := i) (by omega)
      have es := q3t hp (by omega) e
      have ei : idx (invTo p i) (v : Int) = some (if p.idxOf (v : Int) < i then ((p.idxOf (v : Int) : Nat) : Int) else 0) := qwt (by omega)
      simp (disch := first | assumption | omega) only [zA, zB, zC, zD, zE, zF, zG, qwi, qwc, qwd, zH, zI, dpos, dneg, zJ, zK, zL, zM, zN, zO, zP, qfd, qfc, qwl, e, ei, es, up1]
    · simp (disch := first | assumption | omega) only [zA, zB, zC, zD, zE, zF, zG, qwi, qwc, qwd, zH, zI, dpos, dneg, zJ, zK, zL, zM, zN, zO, zP, qfd, qfc, q3u hp]
  simp (disch := first | assumption | omega) only [zA, zB, zC, zD, zE, zF, zG, qwi, qwc, qwd, zH, zI, dpos, dneg, zJ, zK, zL, zM, zN, zO, zP, qfe, g]
theorem q3x (hn : Fu n) (x : Pm k hk) : qep n x.1 = some ((x⁻¹).1, ()) := q3v hn x.2
theorem q3y (hn : Fu n) (x : Pm k hk) : qfe n x.1 = some ((x⁻¹).1, ()) := q3w hn x.2
theorem q3z (hn : Fu n) (x y : Pm k hk) : qeq n x.1 y.1 = some ((cm x y).1, ()) := by
  simp only [qeq, q3x hn, q3e hn, Option.bind_some]; rfl
theorem q30 (hn : Fu n) (p c : Pm k hk) : qer n p.1 c.1 = some ((cj c p).1, ()) := by
  simp only [qer, q3x hn, q3e hn, Option.bind_some]; rfl
theorem q31 (hn : Fu n) (x y : Pm k hk) : qff n x.1 y.1 = some ((cm x y).1, ()) := by
  simp only [qff, q3y hn, q3f hn, Option.bind_some]; rfl
theorem q32 (hn : Fu n) (x : Pm k hk) : qas n x.1 = some ((rank x.1 : Int), ()) := q2n hn (by have := x.2.2; omega)
theorem q33 {l : List (List Int)} (h : ∀ p ∈ l, PK k p) {i : Nat} (hi : i < l.length) : ∃ x : Pm k hk, row l i = x.1 ∧ dn l x := ⟨⟨row l i, h _ (qwj hi)⟩, rfl, qwj hi⟩
theorem q34 {l : List (List Int)} {i : Nat} (hi : i < l.length) {x : Pm k hk} (hx : row l i = x.1) (y : Pm k hk) : dn (l.take (i + 1)) y ↔ dn (l.take i) y ∨ y = x := by
  have e : l[i]?.toList = [x.1] := by rw [← hx]; unfold row; rw [List.getD_eq_getElem?_getD, List.getElem?_eq_getElem hi]; rfl
  show y.1 ∈ l.take (i + 1) ↔ y.1 ∈ l.take i ∨ _
  rw [List.take_add_one, List.mem_append, e, List.mem_singleton]
  exact or_congr Iff.rfl ⟨fun h => Pm.ext h, fun h => by rw [h]⟩
theorem q35 {l : List (List Int)} (y : Pm k hk) : ¬ dn (l.take 0) y := fun h => by unfold dn at h; simp at h
def IsGrp (l : List (List Int)) : Prop := ∃ (k : Nat) (hk : 1 ≤ k ∧ k ≤ 7) (H : Pm k hk → Prop), Sub H ∧ l = can H
theorem q36 {H : Pm k hk → Prop} (hH : Sub H) : 0 < (can H).length := List.length_pos_of_mem (q28.2 hH.one)
theorem q37 {H : Pm k hk → Prop} (hH : Sub H) : (row (can H) 0).length = k := (q29 _ (qwj (q36 hH))).2
theorem Cl.can {H : Pm k hk → Prop} (hH : Sub H) (x : Pm k hk) : Cl (dn (Go.Proofs.Ytemejeiajekmcaa.V.can H)) x ↔ H x := by
  have : (dn (Go.Proofs.Ytemejeiajekmcaa.V.can H) : Pm k hk → Prop) = H := funext fun x => propext q3c
  rw [this]; exact Cl.self hH
theorem q38 {H : Pm k hk → Prop} (hH : Sub H) : GV (can H) := by
  refine ⟨q36 hH, q3a, fun i hi => ?_⟩
  have h0 := q29 _ (qwj (q36 hH))
  have h1 := q29 _ (qwj hi)
  exact ⟨h0.1, h1.1, by rw [h0.2, h1.2]⟩
theorem PK.uniq {k k' : Nat} {p : List Int} (h : PK k p) (h' : PK k' p) : k = k' := by rw [← h.2, ← h'.2]
theorem q39 {l : List (List Int)} : Asc l ↔ ∀ i, i < l.length → 0 < i → ltL (row l (i - 1)) (row l i) := by
  have rg : ∀ (i : Nat) (h : i < l.length), row l i = l[i] := fun i h => by unfold row; rw [List.getD_eq_getElem?_getD, List.getElem?_eq_getElem h]; rfl
  constructor
  · intro h i hi h0
    rw [rg i hi, rg (i - 1) (by omega)]
    exact List.pairwise_iff_getElem.1 h (i - 1) i (by omega) hi (by omega)
  · intro h
    refine List.pairwise_iff_getElem.2 (fun i j hi hj hij => ?_)
    rw [← rg i hi, ← rg j hj]
    clear hi
    induction j with
    | zero => omega
    | succ j ih =>
      have := h (j + 1) hj (by omega)
      simp only [Nat.add_sub_cancel] at this
      by_cases e : i = j
      · rw [e]; exact this
      · exact qx5 (ih (by omega) (by omega)) this
theorem q4a (hn : Fu n) {l : List (List Int)} (hl : l.length ≤ 1000000000) (hr : ∀ i, i < l.length → (row l i).length ≤ 1000000000) :
    iterN (qed n) n (l, (l.length : Int), 0, ()) = some (if Asc l then .inr (.inl (l, ())) else .inl (false, ())) := by
  refine (qv5 (f := qed n) hn (fun i => (l, (l.length : Int), (i : Int), ())) l.length (fun i => 0 < i → ltL (row l (i - 1)) (row l i)) (d := (l, (l.length : Int), 0, ())) (r := .inr (.inl (l, ()))) (r' := .inl (false, ())) (by omega) rfl (fun i hi _ hp => ?_) (fun i hi _ hp => ?_) (fun _ => ?_)).trans (by
      congr 1
      by_cases h : Asc l
      · rw [if_pos h, if_pos (fun i hi h0 => q39.1 h i hi h0)]
      · rw [if_neg h, if_neg (fun h2 => h (q39.2 h2))])
  · by_cases c : 0 < i
    · have hc := q2c hn (row l (i - 1)) (row l i) (hr _ (by omega))
      rw [q17 (hp c)] at hc
      have z : ¬ (0 : Int) ≤ -1 := by decide
      simp (disch := first | assumption | omega) only [zA, zB, zC, zD, zE, zF, zG, qwi, qwc, qwd, zH, zI, dpos, dneg, zJ, zK, zL, zM, zN, zO, zP, qed, qec, Srt.dn1, qwk, hc, up1]
    · obtain rfl : i = 0 := by omega
      simp (disch := first | assumption | omega) only [zA, zB, zC, zD, zE, zF, zG, qwi, qwc, qwd, zH, zI, dpos, dneg, zJ, zK, zL, zM, zN, zO, zP, qed, qec, up1]
  · have c : 0 < i := Classical.byContradiction fun h => hp (fun h2 => absurd h2 h)
    have hc := q2c hn (row l (i - 1)) (row l i) (hr _ (by omega))
    have hge : 0 ≤ cmpL (row l (i - 1)) (row l i) := by
      have : ¬ cmpL (row l (i - 1)) (row l i) < 0 := fun h => hp (fun _ => q2a.1 h)
      omega
    simp (disch := first | assumption | omega) only [zA, zB, zC, zD, zE, zF, zG, qwi, qwc, qwd, zH, zI, dpos, dneg, zJ, zK, zL, zM, zN, zO, zP, qed, qec, Srt.dn1, qwk, hc]
  · simp (disch := first | assumption | omega) only [zA, zB, zC, zD, zE, zF, zG, qwi, qwc, qwd, zH, zI, dpos, dneg, zJ, zK, zL, zM, zN, zO, zP, qed, qec]
theorem q4b (hn : Fw n) (l : List (List Int)) : ∃ b, qee n l = some (b, ()) ∧ (b = true ↔ IsGrp l) := by
  have e1 := qw7 hn.fu l
  by_cases hv : GV l
  · rw [decide_eq_true hv] at e1
    obtain ⟨k, hk, hG⟩ := hv.pk
    have e2 := q4a hn.fu (l := l) (by have := hv.2.1; omega) (fun i hi => by have := (hG _ (qwj hi)).2; omega)
    have e3 := q3o (hk := hk) hn hG hv.1 (by have := hv.2.1; omega)
    by_cases ha : Asc l
    · rw [if_pos ha] at e2
      refine ⟨decide (((can (hk := hk) (Cl (dn l))).length : Int) = (l.length : Int)), by simp (disch := first | assumption | omega) only [zA, zB, zC, zD, zE, zF, zG, qwi, qwc, qwd, zH, zI, dpos, dneg, zJ, zK, zL, zM, zN, zO, zP, qee, e1, e2, e3], ?_⟩
      rw [decide_eq_true_eq]
      constructor
      · intro h
        have hp := qx8 ha.nodup (L := can (hk := hk) (Cl (dn l))) (fun p hp => q27.2 ⟨hG p hp, .gen hp⟩) (by omega)
        refine ⟨k, hk, Cl (dn l), Cl.sub _, ha.ext can_asc (fun p => hp.mem_iff)⟩
      · rintro ⟨k', hk', H, hH, rfl⟩
        have h0 := qwj (q36 hH)
        obtain rfl := (hG _ h0).uniq (q29 _ h0)
        rw [q3b (Cl.can hH)]
    · rw [if_neg ha] at e2
      refine ⟨false, by simp (disch := first | assumption | omega) only [zA, zB, zC, zD, zE, zF, zG, qwi, qwc, qwd, zH, zI, dpos, dneg, zJ, zK, zL, zM, zN, zO, zP, qee, e1, e2], (fun h => nomatch h), ?_⟩
      rintro ⟨k', hk', H, hH, rfl⟩
      exact absurd can_asc ha
  · rw [decide_eq_false hv] at e1
    refine ⟨false, by simp (disch := first | assumption | omega) only [zA, zB, zC, zD, zE, zF, zG, qwi, qwc, qwd, zH, zI, dpos, dneg, zJ, zK, zL, zM, zN, zO, zP, qee, e1], (fun h => nomatch h), ?_⟩
    rintro ⟨k', hk', H, hH, rfl⟩
    exact absurd (q38 hH) hv
theorem q4c (hn : Fw n) {H : Pm k hk → Prop} (hH : Sub H) : qee n (can H) = some (true, ()) := by
  obtain ⟨b, e, h⟩ := q4b hn (can H)
  rw [h.2 ⟨k, hk, H, hH, rfl⟩] at e
  exact e
theorem q4d (hn : Fw n) {G : List (List Int)} (hG : ∀ g ∈ G, PK k g) (h0 : 0 < G.length) (hGl : G.length ≤ 1000000000) : qej n G = some ((can (hk := hk) (Cl (dn G)), ()), (G, ())) := by
  have hr0 := hG _ (qwj h0)
  have e0 : idx G 0 = some (row G 0) := qwk (u := 0) h0
  have eid := qxg hn.fu k hk.1 hk.2
  obtain ⟨met, e1, h1⟩ := Gw.start hn.fu hk
  obtain ⟨r, e2, met', gens', all', rfl, h2⟩ := qv8 (f := qeg n) hn.fu
    (fun d => ∃ (i : Nat) (met : Option KS) (gens all : List (List Int)), d = (((), ((), ((), ()))), (G.length : Int), (i : Int), met, gens, all, G, ()) ∧ i ≤ G.length ∧ Gw hk (dn (G.take i)) met gens all)
    (fun d => ((G.length : Int) - d.2.2.1).toNat)
    (fun r => ∃ met' gens' all', r = .inl (met', gens', all', G, ()) ∧ Gw hk (dn G) met' gens' all')
    (d := (((), ((), ((), ()))), (G.length : Int), 0, met, [], [idP k], G, ()))
    ⟨0, met, [], [idP k], rfl, Nat.zero_le _, by
      have : (dn (G.take 0) : Pm k hk → Prop) = fun _ => False := by funext x; apply propext; exact ⟨fun h => q35 x h, fun h => h.elim⟩
      rw [this]; exact h1⟩ (by simp only; omega) (by
      rintro d ⟨i, met, gens, all, rfl, h1, h2⟩
      by_cases c : i < G.length
      · obtain ⟨x, ex, hx⟩ := q33 (hk := hk) hG c
        obtain ⟨met', gens', all', e, q⟩ := q3l hn.fu h2 x
        refine .inl ⟨(((), ((), ((), ()))), (G.length : Int), ((i + 1 : Nat) : Int), met', gens', all', G, ()), ?_, ⟨i + 1, met', gens', all', rfl, c, ?_⟩, by simp only; omega⟩
        · simp (disch := first | assumption | omega) only [zA, zB, zC, zD, zE, zF, zG, qwi, qwc, qwd, zH, zI, dpos, dneg, zJ, zK, zL, zM, zN, zO, zP, qeg, qef, qwk, ex, e, up1]
        · have : (dn (G.take (i + 1)) : Pm k hk → Prop) = fun y => dn (G.take i) y ∨ y = x := funext fun y => propext (q34 c ex y)
          rw [this]; exact q
      · obtain rfl : i = G.length := by omega
        rw [List.take_length] at h2
        refine .inr ⟨.inl (met, gens, all, G, ()), ?_, met, gens, all, rfl, h2⟩
        simp (disch := first | assumption | omega) only [zA, zB, zC, zD, zE, zF, zG, qwi, qwc, qwd, zH, zI, dpos, dneg, zJ, zK, zL, zM, zN, zO, zP, qeg, qef])
  have e3 := h2.sorted hn
  have el : (((row G 0).length : Nat) : Int) = (k : Int) := by rw [hr0.2]
  simp (disch := first | assumption | omega) only [zA, zB, zC, zD, zE, zF, zG, qwi, qwc, qwd, zH, zI, dpos, dneg, zJ, zK, zL, zM, zN, zO, zP, qej, e0, el, qei, eid, e1, qeh, e2, e3]
def KSet (hk : 1 ≤ k ∧ k ≤ 7) (m : KS) (S : Pm k hk → Prop) : Prop := KOK m ∧ ∀ x : Pm k hk, keyP x.1 ∈ m.map (·.1) ↔ S x
theorem KSet.look {m : KS} {S : Pm k hk → Prop} (h : KSet hk m S) (x : Pm k hk) : (mget (.arr 7 (.int .i8)) m (keyP x.1)).getD false = decide (S x) := by
  rw [qxp h.1 (qxo x.1)]
  by_cases c : S x
  · rw [if_pos ((h.2 x).2 c), decide_eq_true c]; rfl
  · rw [if_neg (fun e => c ((h.2 x).1 e)), decide_eq_false c]; rfl
theorem q4e (hn : Fu n) {l : List (List Int)} (hl : l.length ≤ 1000000000) (h : ∀ p ∈ l, PK k p) : ∃ m, qby n l = some (some m, ()) ∧ KSet hk m (dn l) := by
  obtain ⟨m, e, h1, h2⟩ := q3m hn hl (fun p hp => (h p hp).1)
  exact ⟨m, e, h1, fun x => h2 x.1 x.2.1⟩
theorem q4f (hn : Fu n) (x : Pm k hk) : qbv n x.1 = some (keyP x.1, ()) := qxj hn x.2.1
theorem q4g (hn : Fw n) {H : Pm k hk → Prop} (hH : Sub H) : ∃ out, qem n (can H) = some (out, ()) ∧ (∀ p ∈ out, PK k p) ∧ (∀ x : Pm k hk, Cl (dn out) x ↔ H x) ∧ (∀ x : Pm k hk, dn out x → H x) ∧ 0 < out.length ∧ out.length ≤ 5041 := by
  have h0 := q36 hH
  have e0 : idx (can H) 0 = some (row (can H) 0) := qwk (u := 0) h0
  have el : (((row (can H) 0).length : Nat) : Int) = (k : Int) := by rw [q37 hH]
  have eid := qxg hn.fu k hk.1 hk.2
  obtain ⟨m0, e1, h1⟩ := q4e (hk := hk) hn.fu (l := [idP k]) (by simp) (fun p hp => by rw [List.mem_singleton] at hp; subst hp; exact (1 : Pm k hk).2)
  have hcl := q3a (H := H)
  obtain ⟨r, e, out, rfl, q1, q2, q3, q4, q5⟩ := qv8 (f := qel n) hn.fu
    (fun d => ∃ (i : Nat) (m : KS) (out : List (List Int)), d = (some m, can H, ((can H).length : Int), (i : Int), out, ()) ∧ i ≤ (can H).length ∧ KSet hk m (Cl (dn out)) ∧ (∀ p ∈ out, PK k p) ∧ (∀ x : Pm k hk, dn out x → H x) ∧ 0 < out.length ∧ out.length ≤ i + 1 ∧ ∀ x : Pm k hk, dn ((can H).take i) x → Cl (dn out) x)
    (fun d => (((can H).length : Int) - d.2.2.2.1).toNat)
    (fun r => ∃ out, r = .inl (out, ()) ∧ (∀ p ∈ out, PK k p) ∧ (∀ x : Pm k hk, Cl (dn out) x ↔ H x) ∧ (∀ x : Pm k hk, dn out x → H x) ∧ 0 < out.length ∧ out.length ≤ 5041)
    (d := (some m0, can H, ((can H).length : Int), 0, [idP k], ()))
    ⟨0, m0, [idP k], rfl, Nat.zero_le _, ⟨h1.1, fun x => by
      rw [h1.2]
      constructor
      · intro h; exact .gen h
      · intro h
        have one : ∀ y : Pm k hk, dn [idP k] y ↔ y = 1 := fun y => by
          unfold dn; rw [List.mem_singleton]; exact ⟨fun h => Pm.ext h, fun h => by rw [h]; rfl⟩
        rw [one]
        induction h with
        | one => rfl
        | step _ hq ih => rw [ih, (one _).1 hq, Grp.mul_one]⟩, fun p hp => by rw [List.mem_singleton] at hp; subst hp; exact (1 : Pm k hk).2, fun x hx => by
        have : x = 1 := Pm.ext (List.mem_singleton.1 hx)
        rw [this]; exact hH.one, by simp, by simp, fun x hx => absurd hx (q35 x)⟩ (by simp only; omega) (by
      rintro d ⟨i, m, out, rfl, p1, p2, p3, p4, p5, p6, p7⟩
      by_cases c : i < (can H).length
      · obtain ⟨x, ex, hx⟩ := q33 (hk := hk) q29 c
        have hHx : H x := q3c.1 hx
        have ek := q4f hn.fu x
        have elk := p2.look x
        by_cases c2 : Cl (dn out) x
        · rw [decide_eq_true c2] at elk
          refine .inl ⟨(some m, can H, ((can H).length : Int), ((i + 1 : Nat) : Int), out, ()), ?_, ⟨i + 1, m, out, rfl, c, p2, p3, p4, p5, by omega, fun y hy => ?_⟩, by simp only; omega⟩
          · simp (disch := first | assumption | omega) only [zA, zB, zC, zD, zE, zF, zG, qwi, qwc, qwd, zH, zI, dpos, dneg, zJ, zK, zL, zM, zN, zO, zP, qel, qek, qwk, ex, ek, elk, up1]
          · rcases (q34 c ex y).1 hy with h | rfl
            · exact p7 y h
            · exact c2
        · rw [decide_eq_false c2] at elk
          have hP : ∀ p ∈ out ++ [x.1], PK k p := fun p hp => by
            rw [List.mem_append, List.mem_singleton] at hp
            rcases hp with hp | rfl
            · exact p3 p hp
            · exact x.2
          have hlen : (out ++ [x.1]).length = out.length + 1 := by simp
          have ec := q4d (hk := hk) hn hP (by omega) (by omega)
          obtain ⟨m', em, hm⟩ := q4e (hk := hk) hn.fu (l := can (hk := hk) (Cl (dn (out ++ [x.1])))) (by have := q3a (H := Cl (dn (hk := hk) (out ++ [x.1]))); omega) q29
          have hl1 : ([x.1] : List (List Int)).length = 1 := rfl
          refine .inl ⟨(some m', can H, ((can H).length : Int), ((i + 1 : Nat) : Int), out ++ [x.1], ()), ?_, ⟨i + 1, m', out ++ [x.1], rfl, c, ⟨hm.1, fun y => by rw [hm.2, q3c]⟩, hP, fun y hy => ?_, by omega, by omega, fun y hy => ?_⟩, by simp only; omega⟩
          · simp (disch := first | assumption | omega) only [zA, zB, zC, zD, zE, zF, zG, qwi, qwc, qwd, zH, zI, dpos, dneg, zJ, zK, zL, zM, zN, zO, zP, qel, qek, qwk, ex, ek, elk, ec, em, up1]
          · have hy : y.1 ∈ out ++ [x.1] := hy
            rw [List.mem_append, List.mem_singleton] at hy
            rcases hy with hy | hy
            · exact p4 y hy
            · rw [Pm.ext hy]; exact hHx
          · rcases (q34 c ex y).1 hy with h | rfl
            · exact (p7 y h).mono (fun z hz => .gen (List.mem_append_left _ hz))
            · exact .gen (show y.1 ∈ out ++ [y.1] by simp)
      · obtain rfl : i = (can H).length := by omega
        rw [List.take_length] at p7
        refine .inr ⟨.inl (out, ()), ?_, out, rfl, p3, fun x => ⟨fun h => h.le hH p4, fun h => p7 x (q3c.2 h)⟩, p4, p5, by omega⟩
        simp (disch := first | assumption | omega) only [zA, zB, zC, zD, zE, zF, zG, qwi, qwc, qwd, zH, zI, dpos, dneg, zJ, zK, zL, zM, zN, zO, zP, qel, qek])
  refine ⟨out, ?_, q1, q2, q3, q4, q5⟩
  simp (disch := first | assumption | omega) only [zA, zB, zC, zD, zE, zF, zG, qwi, qwc, qwd, zH, zI, dpos, dneg, zJ, zK, zL, zM, zN, zO, zP, qem, e0, el, eid, e1, e]
theorem q4h (hn : Fu n) {l t1 t11 t17 : List (List Int)} (hl : ∀ p ∈ l, PK k p) (hll : l.length ≤ 1000000000) (p c : Pm k hk) {a12 a13 a18 a19 : Int} {S : Pm k hk → Prop} {met : Option KS} {gens all : List (List Int)} (h : Gw hk S met gens all) :
    ∃ met' gens' all', iterN (qet n) n (((), ((), ((), ()))), t1, l, p.1, c.1, t11, a12, a13, t17, a18, a19, l, (l.length : Int), 0, met, gens, all, ()) = some (.inl (((), ((), ((), ()))), t1, l, p.1, t11, a12, a13, t17, a18, a19, met', gens', all', ())) ∧ Gw hk (fun y => S y ∨ ∃ x, dn l x ∧ y = cj x c) met' gens' all' := by
  obtain ⟨r, e, met', gens', all', rfl, h2⟩ := qv8 (f := qet n) hn
    (fun d => ∃ (i : Nat) (met : Option KS) (gens all : List (List Int)), d = (((), ((), ((), ()))), t1, l, p.1, c.1, t11, a12, a13, t17, a18, a19, l, (l.length : Int), (i : Int), met, gens, all, ()) ∧ i ≤ l.length ∧ Gw hk (fun y => S y ∨ ∃ x, dn (l.take i) x ∧ y = cj x c) met gens all)
    (fun d => ((l.length : Int) - d.2.2.2.2.2.2.2.2.2.2.2.2.2.1).toNat)
    (fun r => ∃ met' gens' all', r = .inl (((), ((), ((), ()))), t1, l, p.1, t11, a12, a13, t17, a18, a19, met', gens', all', ()) ∧ Gw hk (fun y => S y ∨ ∃ x, dn l x ∧ y = cj x c) met' gens' all')
    (d := (((), ((), ((), ()))), t1, l, p.1, c.1, t11, a12, a13, t17, a18, a19, l, (l.length : Int), 0, met, gens, all, ()))
    ⟨0, met, gens, all, rfl, Nat.zero_le _, by
      have : (fun y => S y ∨ ∃ x, dn (l.take 0) x ∧ y = cj x c) = S := funext fun y => propext ⟨fun h => h.elim id (fun ⟨x, hx, _⟩ => absurd hx (q35 x)), .inl⟩
      rw [this]; exact h⟩ (by simp only; omega) (by
      rintro d ⟨i, met, gens, all, rfl, h1, h2⟩
      by_cases c1 : i < l.length
      · obtain ⟨x, ex, hx⟩ := q33 (hk := hk) hl c1
        obtain ⟨met', gens', all', e, q⟩ := q3l hn h2 (cj x c)
        have ec := q30 hn c x
        refine .inl ⟨(((), ((), ((), ()))), t1, l, p.1, c.1, t11, a12, a13, t17, a18, a19, l, (l.length : Int), ((i + 1 : Nat) : Int), met', gens', all', ()), ?_, ⟨i + 1, met', gens', all', rfl, c1, ?_⟩, by simp only; omega⟩
        · simp (disch := first | assumption | omega) only [zA, zB, zC, zD, zE, zF, zG, qwi, qwc, qwd, zH, zI, dpos, dneg, zJ, zK, zL, zM, zN, zO, zP, qet, qes, qwk, ex, ec, e, up1]
        · have : (fun y => S y ∨ ∃ x, dn (l.take (i + 1)) x ∧ y = cj x c) = fun y => (S y ∨ ∃ x, dn (l.take i) x ∧ y = cj x c) ∨ y = cj x c := funext fun y => propext (by
            constructor
            · rintro (h | ⟨z, hz, rfl⟩)
              · exact .inl (.inl h)
              · rcases (q34 c1 ex z).1 hz with h | rfl
                · exact .inl (.inr ⟨z, h, rfl⟩)
                · exact .inr rfl
            · rintro ((h | ⟨z, hz, rfl⟩) | rfl)
              · exact .inl h
              · exact .inr ⟨z, (q34 c1 ex z).2 (.inl hz), rfl⟩
              · exact .inr ⟨x, (q34 c1 ex x).2 (.inr rfl), rfl⟩)
          rw [this]; exact q
      · obtain rfl : i = l.length := by omega
        rw [List.take_length] at h2
        refine .inr ⟨_, ?_, met, gens, all, rfl, h2⟩
        simp (disch := first | assumption | omega) only [zA, zB, zC, zD, zE, zF, zG, qwi, qwc, qwd, zH, zI, dpos, dneg, zJ, zK, zL, zM, zN, zO, zP, qet, qes])
  exact ⟨met', gens', all', e, h2⟩
theorem q4i (hn : Fu n) {l G t11 : List (List Int)} (hl : ∀ p ∈ l, PK k p) (hll : l.length ≤ 1000000000) (hG : ∀ p ∈ G, PK k p) (hGl : G.length ≤ 1000000000) (p : Pm k hk) {a12 a13 : Int} {S : Pm k hk → Prop} {met : Option KS} {gens all : List (List Int)} (h : Gw hk S met gens all) :
    ∃ met' gens' all', iterN (qev n) n (((), ((), ((), ()))), G, l, p.1, t11, a12, a13, G, (G.length : Int), 0, met, gens, all, ()) = some (.inl (((), ((), ((), ()))), G, l, t11, a12, a13, met', gens', all', ())) ∧ Gw hk (fun y => S y ∨ ∃ q x, dn G q ∧ dn l x ∧ y = cj x (cm p q)) met' gens' all' := by
  obtain ⟨r, e, met', gens', all', rfl, h2⟩ := qv8 (f := qev n) hn
    (fun d => ∃ (i : Nat) (met : Option KS) (gens all : List (List Int)), d = (((), ((), ((), ()))), G, l, p.1, t11, a12, a13, G, (G.length : Int), (i : Int), met, gens, all, ()) ∧ i ≤ G.length ∧ Gw hk (fun y => S y ∨ ∃ q x, dn (G.take i) q ∧ dn l x ∧ y = cj x (cm p q)) met gens all)
    (fun d => ((G.length : Int) - d.2.2.2.2.2.2.2.2.2.1).toNat)
    (fun r => ∃ met' gens' all', r = .inl (((), ((), ((), ()))), G, l, t11, a12, a13, met', gens', all', ()) ∧ Gw hk (fun y => S y ∨ ∃ q x, dn G q ∧ dn l x ∧ y = cj x (cm p q)) met' gens' all')
    (d := (((), ((), ((), ()))), G, l, p.1, t11, a12, a13, G, (G.length : Int), 0, met, gens, all, ()))
    ⟨0, met, gens, all, rfl, Nat.zero_le _, by
      have : (fun y => S y ∨ ∃ q x, dn (G.take 0) q ∧ dn l x ∧ y = cj x (cm p q)) = S := funext fun y => propext ⟨fun h => h.elim id (fun ⟨q, x, hx, _⟩ => absurd hx (q35 q)), .inl⟩
      rw [this]; exact h⟩ (by simp only; omega) (by
      rintro d ⟨i, met, gens, all, rfl, h1, h2⟩
      by_cases c1 : i < G.length
      · obtain ⟨q, eq, hq⟩ := q33 (hk := hk) hG c1
        have ec := q3z hn p q
        obtain ⟨met', gens', all', e, q5⟩ := q4h hn (t1 := G) (t11 := t11) (t17 := G) hl hll p (cm p q) (a12 := a12) (a13 := a13) (a18 := (G.length : Int)) (a19 := (i : Int)) h2
        refine .inl ⟨(((), ((), ((), ()))), G, l, p.1, t11, a12, a13, G, (G.length : Int), ((i + 1 : Nat) : Int), met', gens', all', ()), ?_, ⟨i + 1, met', gens', all', rfl, c1, ?_⟩, by simp only; omega⟩
        · simp (disch := first | assumption | omega) only [zA, zB, zC, zD, zE, zF, zG, qwi, qwc, qwd, zH, zI, dpos, dneg, zJ, zK, zL, zM, zN, zO, zP, qev, qeu, qwk, eq, ec, e, up1]
        · have : (fun y => S y ∨ ∃ q x, dn (G.take (i + 1)) q ∧ dn l x ∧ y = cj x (cm p q)) = fun y => (S y ∨ ∃ q x, dn (G.take i) q ∧ dn l x ∧ y = cj x (cm p q)) ∨ ∃ x, dn l x ∧ y = cj x (cm p q) := funext fun y => propext (by
            constructor
            · rintro (h | ⟨z, x, hz, hx, rfl⟩)
              · exact .inl (.inl h)
              · rcases (q34 c1 eq z).1 hz with h | rfl
                · exact .inl (.inr ⟨z, x, h, hx, rfl⟩)
                · exact .inr ⟨x, hx, rfl⟩
            · rintro ((h | ⟨z, x, hz, hx, rfl⟩) | ⟨x, hx, rfl⟩)
              · exact .inl h
              · exact .inr ⟨z, x, (q34 c1 eq z).2 (.inl hz), hx, rfl⟩
              · exact .inr ⟨q, x, (q34 c1 eq q).2 (.inr rfl), hx, rfl⟩)
          rw [this]; exact q5
      · obtain rfl : i = G.length := by omega
        rw [List.take_length] at h2
        refine .inr ⟨_, ?_, met, gens, all, rfl, h2⟩
        simp (disch := first | assumption | omega) only [zA, zB, zC, zD, zE, zF, zG, qwi, qwc, qwd, zH, zI, dpos, dneg, zJ, zK, zL, zM, zN, zO, zP, qev, qeu])
  exact ⟨met', gens', all', e, h2⟩
theorem q4j (hn : Fu n) {l G : List (List Int)} (hl : ∀ p ∈ l, PK k p) (hll : l.length ≤ 1000000000) (hG : ∀ p ∈ G, PK k p) (hGl : G.length ≤ 1000000000) {met : Option KS} {gens all : List (List Int)} (h : Gw hk (fun _ => False) met gens all) :
    ∃ met' gens' all', iterN (qex n) n (((), ((), ((), ()))), G, l, G, (G.length : Int), 0, met, gens, all, ()) = some (.inl (met', gens', all', ())) ∧ Gw hk (fun y => ∃ p q x, dn G p ∧ dn G q ∧ dn l x ∧ y = cj x (cm p q)) met' gens' all' := by
  obtain ⟨r, e, met', gens', all', rfl, h2⟩ := qv8 (f := qex n) hn
    (fun d => ∃ (i : Nat) (met : Option KS) (gens all : List (List Int)), d = (((), ((), ((), ()))), G, l, G, (G.length : Int), (i : Int), met, gens, all, ()) ∧ i ≤ G.length ∧ Gw hk (fun y => ∃ p q x, dn (G.take i) p ∧ dn G q ∧ dn l x ∧ y = cj x (cm p q)) met gens all)
    (fun d => ((G.length : Int) - d.2.2.2.2.2.1).toNat)
    (fun r => ∃ met' gens' all', r = .inl (met', gens', all', ()) ∧ Gw hk (fun y => ∃ p q x, dn G p ∧ dn G q ∧ dn l x ∧ y = cj x (cm p q)) met' gens' all')
    (d := (((), ((), ((), ()))), G, l, G, (G.length : Int), 0, met, gens, all, ()))
    ⟨0, met, gens, all, rfl, Nat.zero_le _, by
      have : (fun y => ∃ p q x, dn (G.take 0) p ∧ dn G q ∧ dn l x ∧ y = cj x (cm p q)) = fun _ => False := funext fun (y : Pm k hk) => propext ⟨fun ⟨p, q, x, hx, _⟩ => absurd hx (q35 p), False.elim⟩
      rw [this]; exact h⟩ (by simp only; omega) (by
      rintro d ⟨i, met, gens, all, rfl, h1, h2⟩
      by_cases c1 : i < G.length
      · obtain ⟨p, ep, hp⟩ := q33 (hk := hk) hG c1
        obtain ⟨met', gens', all', e, q5⟩ := q4i hn (t11 := G) hl hll hG hGl p (a12 := (G.length : Int)) (a13 := (i : Int)) h2
        refine .inl ⟨(((), ((), ((), ()))), G, l, G, (G.length : Int), ((i + 1 : Nat) : Int), met', gens', all', ()), ?_, ⟨i + 1, met', gens', all', rfl, c1, ?_⟩, by simp only; omega⟩
        · simp (disch := first | assumption | omega) only [zA, zB, zC, zD, zE, zF, zG, qwi, qwc, qwd, zH, zI, dpos, dneg, zJ, zK, zL, zM, zN, zO, zP, qex, qew, qwk, ep, e, up1]
        · have : (fun y => ∃ p q x, dn (G.take (i + 1)) p ∧ dn G q ∧ dn l x ∧ y = cj x (cm p q)) = fun y => (∃ p q x, dn (G.take i) p ∧ dn G q ∧ dn l x ∧ y = cj x (cm p q)) ∨ ∃ q x, dn G q ∧ dn l x ∧ y = cj x (cm p q) := funext fun y => propext (by
            constructor
            · rintro ⟨z, q, x, hz, hq, hx, rfl⟩
              rcases (q34 c1 ep z).1 hz with h | rfl
              · exact .inl ⟨z, q, x, h, hq, hx, rfl⟩
              · exact .inr ⟨q, x, hq, hx, rfl⟩
            · rintro (⟨z, q, x, hz, hq, hx, rfl⟩ | ⟨q, x, hq, hx, rfl⟩)
              · exact ⟨z, q, x, (q34 c1 ep z).2 (.inl hz), hq, hx, rfl⟩
              · exact ⟨p, q, x, (q34 c1 ep p).2 (.inr rfl), hq, hx, rfl⟩)
          rw [this]; exact q5
      · obtain rfl : i = G.length := by omega
        rw [List.take_length] at h2
        refine .inr ⟨_, ?_, met, gens, all, rfl, h2⟩
        simp (disch := first | assumption | omega) only [zA, zB, zC, zD, zE, zF, zG, qwi, qwc, qwd, zH, zI, dpos, dneg, zJ, zK, zL, zM, zN, zO, zP, qex, qew])
  exact ⟨met', gens', all', e, h2⟩
theorem q4k (hn : Fw n) {H : Pm k hk → Prop} (hH : Sub H) : qe0 n (can H) = some (can (Dr H), ()) := by
  obtain ⟨G, e1, q1, q2, q3, q4, q5⟩ := q4g hn hH
  have h0 := q36 hH
  have e0 : idx (can H) 0 = some (row (can H) 0) := qwk (u := 0) h0
  have el : (((row (can H) 0).length : Nat) : Int) = (k : Int) := by rw [q37 hH]
  have eid := qxg hn.fu k hk.1 hk.2
  have hcl := q3a (H := H)
  obtain ⟨met, e2, h2⟩ := Gw.start hn.fu hk
  obtain ⟨met', gens', all', e3, h3⟩ := q4j hn.fu (l := can H) q29 (by omega) q1 (by omega) h2
  have e4 := h3.sorted hn
  have e5 : can (hk := hk) (Cl (fun y => ∃ p q x, dn G p ∧ dn G q ∧ dn (can H) x ∧ y = cj x (cm p q))) = can (Dr H) := by
    have e6 : (fun y => ∃ p q x, dn G p ∧ dn G q ∧ dn (can H) x ∧ y = cj x (cm p q)) = fun y => ∃ a b x, dn G a ∧ dn G b ∧ Cl (dn G) x ∧ y = cj x (cm a b) := funext fun (y : Pm k hk) => propext (by
      constructor
      · rintro ⟨p, q, x, hp, hq, hx, rfl⟩; exact ⟨p, q, x, hp, hq, (q2 x).2 (q3c.1 hx), rfl⟩
      · rintro ⟨p, q, x, hp, hq, hx, rfl⟩; exact ⟨p, q, x, hp, hq, q3c.2 ((q2 x).1 hx), rfl⟩)
    have e7 : Cl (dn G) = H := funext fun x => propext (q2 x)
    rw [e6]
    refine q3b (fun x => ?_)
    rw [Dr.gens, e7]
  rw [e5] at e4
  simp (disch := first | assumption | omega) only [zA, zB, zC, zD, zE, zF, zG, qwi, qwc, qwd, zH, zI, dpos, dneg, zJ, zK, zL, zM, zN, zO, zP, qe0, e1, e0, el, qez, eid, e2, qey, e3, e4]
end Go.Proofs.Ytemejeiajekmcaa.V
namespace Go.Proofs.Ytemejeiajekmcaa.V
open Go Classical Grp
set_option linter.unusedVariables false
set_option linter.all false
variable {n : Nat} {k : Nat} {hk : 1 ≤ k ∧ k ≤ 7}
theorem q4l (hn : Fu n) (H : Pm k hk → Prop) : qea n (can H) = some (can H, ()) :=
  qxt hn _ (by have := q3a (H := H); omega) q3p
theorem q4m (hn : Fw n) {H : Pm k hk → Prop} (hH : Sub H) : qe1 n (can H) = some (can (Dr H), 0, ()) := by
  simp (disch := first | assumption | omega) only [zA, zB, zC, zD, zE, zF, zG, qwi, qwc, qwd, zH, zI, dpos, dneg, zJ, zK, zL, zM, zN, zO, zP, qe1, q4c hn hH, q4k hn hH, q4l hn.fu]
noncomputable def ser : Nat → (Pm k hk → Prop) → List (List (List Int))
  | 0, _ => []
  | m + 1, H => if (can (Dr H)).length = (can H).length then [] else can (Dr H) :: ser m (Dr H)
theorem Dr.len {H : Pm k hk → Prop} (hH : Sub H) : (can (Dr H)).length ≤ (can H).length :=
  qxw can_asc.nodup (fun p hp => by
    obtain ⟨h, hp⟩ := q27.1 hp
    exact q27.2 ⟨h, Dr.le hH hp⟩)
theorem q4n : ∀ (m : Nat) (H : Pm k hk → Prop), (ser m H).length ≤ m
  | 0, _ => Nat.zero_le _
  | m + 1, H => by
    unfold ser
    by_cases c : (can (Dr H)).length = (can H).length
    · rw [if_pos c]; exact Nat.zero_le _
    · rw [if_neg c, List.length_cons]; have := q4n m (Dr H); omega
noncomputable def q4o (H : Pm k hk → Prop) : List (List (List Int)) := can H :: ser (can H).length H
theorem q4p (H : Pm k hk → Prop) : (q4o H).length ≤ 5041 := by
  unfold q4o; rw [List.length_cons]
  have := q4n (can H).length H
  have := q3a (H := H); omega
theorem q4q : ∀ (m : Nat) (H : Pm k hk → Prop) (l), l ∈ ser m H → ∃ K : Pm k hk → Prop, l = can K
  | 0, _, _, h => nomatch h
  | m + 1, H, l, h => by
    unfold ser at h
    by_cases c : (can (Dr H)).length = (can H).length
    · rw [if_pos c] at h; cases h
    · rw [if_neg c, List.mem_cons] at h
      rcases h with rfl | h
      · exact ⟨_, rfl⟩
      · exact q4q m _ l h
theorem q4r {H : Pm k hk → Prop} {l} (h : l ∈ q4o H) : ∃ K : Pm k hk → Prop, l = can K := by
  unfold q4o at h
  rw [List.mem_cons] at h
  rcases h with rfl | h
  · exact ⟨_, rfl⟩
  · exact q4q _ _ l h
theorem q4s {D O : Type} {f : D → Option (D ⊕ O)} (hn : Fu n) (st : (Pm k hk → Prop) → List (List (List Int)) → D) (r : List (List (List Int)) → O)
    (hstep : ∀ (H : Pm k hk → Prop) out, Sub H → out.length ≤ 5041 → f (st H out) = if (can (Dr H)).length = (can H).length then some (.inr (r out)) else some (.inl (st (Dr H) (out ++ [can (Dr H)])))) {H : Pm k hk → Prop} (hH : Sub H) :
    iterN f n (st H [can H]) = some (r (q4o H)) := by
  obtain ⟨r', e, rfl⟩ := q2y (f := f) hn
    (fun (g : Nat × (Pm k hk → Prop)) d => ∃ out, d = st g.2 out ∧ Sub g.2 ∧ out ++ ser g.1 g.2 = q4o H ∧ (can g.2).length ≤ g.1)
    (fun g => g.1)
    (fun r' => r' = r (q4o H))
    ((can H).length, H) (d := st H [can H])
    ⟨[can H], rfl, hH, rfl, Nat.le_refl _⟩ (by simp only; have := q3a (H := H); omega) (by
      rintro ⟨m, K⟩ d ⟨out, rfl, h1, h2, h3⟩
      have hs := hstep K out h1 (by
        have := q4p H
        rw [← h2, List.length_append] at this
        omega)
      have hp : 0 < (can K).length := q36 h1
      have h3 : (can K).length ≤ m := h3
      cases m with
      | zero => omega
      | succ m =>
        unfold ser at h2
        simp only at h2
        by_cases c : (can (Dr K)).length = (can K).length
        · rw [if_pos c] at hs h2
          rw [List.append_nil] at h2
          exact .inr ⟨_, hs, by rw [h2]⟩
        · rw [if_neg c] at hs h2
          have h4 : (can (Dr K)).length ≤ (can K).length := Dr.len h1
          exact .inl ⟨_, (m, Dr K), hs, ⟨_, rfl, Dr.sub K, by rw [List.append_assoc]; exact h2, show (can (Dr K)).length ≤ m by omega⟩, Nat.lt_succ_self m⟩)
  exact e
theorem q4t (hn : Fw n) {H : Pm k hk → Prop} (hH : Sub H) : qe4 n (can H) = some (q4o H, 0, ()) := by
  have e := q4s (f := qe3 n) hn.fu (fun K out => (can K, out, ())) (fun out => .inl (out, 0, ())) (fun K out hK ho => by
    have e1 := q4k hn hK
    have e2 := q4l hn.fu (Dr K)
    have hl : ([can (Dr K)] : List (List (List Int))).length = 1 := rfl
    by_cases c : (can (Dr K)).length = (can K).length
    · rw [if_pos c]
      simp (disch := first | assumption | omega) only [zA, zB, zC, zD, zE, zF, zG, qwi, qwc, qwd, zH, zI, dpos, dneg, zJ, zK, zL, zM, zN, zO, zP, qe3, qe2, e1]
    · rw [if_neg c]
      simp (disch := first | assumption | omega) only [zA, zB, zC, zD, zE, zF, zG, qwi, qwc, qwd, zH, zI, dpos, dneg, zJ, zK, zL, zM, zN, zO, zP, qe3, qe2, e1, e2]) hH
  simp (disch := first | assumption | omega) only [zA, zB, zC, zD, zE, zF, zG, qwi, qwc, qwd, zH, zI, dpos, dneg, zJ, zK, zL, zM, zN, zO, zP, qe4, q4c hn hH, q4l hn.fu, e]
theorem q4u (H : Pm k hk → Prop) : ∃ l, idx (q4o H) (IntKind.i64.wrap (((q4o H).length : Int) - 1)) = some l ∧ l ∈ q4o H := by
  have h1 : 1 ≤ (q4o H).length := by unfold q4o; rw [List.length_cons]; omega
  have h2 := q4p H
  rw [Srt.dn1 h1 (by omega)]
  have hlt : (q4o H).length - 1 < (q4o H).length := by omega
  refine ⟨(q4o H)[(q4o H).length - 1], ?_, List.getElem_mem _⟩
  unfold idx
  rw [if_pos (by omega), Int.toNat_natCast, List.getElem?_eq_getElem hlt]
noncomputable def solv (H : Pm k hk → Prop) : Bool := decide ((((q4o H).getLast?.getD []).length : Int) = 1)
theorem q4v {H : Pm k hk → Prop} {l} (h : idx (q4o H) (IntKind.i64.wrap (((q4o H).length : Int) - 1)) = some l) : decide ((l.length : Int) = 1) = solv H := by
  have h1 : 1 ≤ (q4o H).length := by unfold q4o; rw [List.length_cons]; omega
  have h2 := q4p H
  rw [Srt.dn1 h1 (by omega)] at h
  unfold idx at h
  rw [if_pos (by omega), Int.toNat_natCast] at h
  unfold solv
  rw [List.getLast?_eq_getElem?, h]
  rfl
theorem q4w (hn : Fw n) {H : Pm k hk → Prop} (hH : Sub H) : qfp n (can H) = some (solv H, 0, ()) := by
  obtain ⟨l, e, hl⟩ := q4u H
  simp (disch := first | assumption | omega) only [zA, zB, zC, zD, zE, zF, zG, qwi, qwc, qwd, zH, zI, dpos, dneg, zJ, zK, zL, zM, zN, zO, zP, qfp, q4t hn hH, e, q4v e]
theorem q4x (hn : Fu n) {l : List (List Int)} (hl : ∀ p ∈ l, PK k p) (hll : l.length ≤ 1000000000) {i : Nat} (x : Pm k hk) (ei : idx l (i : Int) = some x.1) (S : Pm k hk → Prop) :
    iterN (qfh n) n (l, (i : Int), 0, setT k (upS S), ()) = some (.inl (l, (i : Int), setT k (upS (fun y => S y ∨ ∃ z, dn l z ∧ y = cm x z)), ())) := by
  obtain ⟨r, e, rfl⟩ := qv8 (f := qfh n) hn
    (fun d => ∃ j : Nat, d = (l, (i : Int), (j : Int), setT k (upS (fun y => S y ∨ ∃ z, dn (l.take j) z ∧ y = cm x z)), ()) ∧ j ≤ l.length)
    (fun d => ((l.length : Int) - d.2.2.1).toNat)
    (fun r => r = .inl (l, (i : Int), setT k (upS (fun y => S y ∨ ∃ z, dn l z ∧ y = cm x z)), ()))
    (d := (l, (i : Int), 0, setT k (upS S), ()))
    ⟨0, by
      have : (fun y => S y ∨ ∃ z, dn (l.take 0) z ∧ y = cm x z) = S := funext fun y => propext ⟨fun h => h.elim id (fun ⟨z, hz, _⟩ => absurd hz (q35 z)), .inl⟩
      rw [this]; rfl, Nat.zero_le _⟩ (by simp only; omega) (by
      rintro d ⟨j, rfl, h1⟩
      by_cases c : j < l.length
      · obtain ⟨y, ey, hy⟩ := q33 (hk := hk) hl c
        have ec := q31 hn x y
        have er := q32 hn (cm x y)
        have eh := q2s (S := upS (fun y => S y ∨ ∃ z, dn (l.take j) z ∧ y = cm x z)) (cm x y).2
        have es : (hasT k (upS (fun y => S y ∨ ∃ z, dn (l.take j) z ∧ y = cm x z))).set (rank (cm x y).1) true = hasT k (upS (fun y => S y ∨ ∃ z, dn (l.take (j + 1)) z ∧ y = cm x z)) := by
          rw [q2t (cm x y).2]
          congr 1
          funext q
          apply propext
          constructor
          · rintro (⟨hq, h⟩ | rfl)
            · exact ⟨hq, h.imp id (fun ⟨z, hz, e⟩ => ⟨z, (q34 c ey z).2 (.inl hz), e⟩)⟩
            · exact ⟨(cm x y).2, .inr ⟨y, (q34 c ey y).2 (.inr rfl), rfl⟩⟩
          · rintro ⟨hq, h | ⟨z, hz, e⟩⟩
            · exact .inl ⟨hq, .inl h⟩
            · rcases (q34 c ey z).1 hz with hz | rfl
              · exact .inl ⟨hq, .inr ⟨z, hz, e⟩⟩
              · exact .inr (congrArg Subtype.val e)
        refine .inl ⟨(l, (i : Int), ((j + 1 : Nat) : Int), setT k (upS (fun y => S y ∨ ∃ z, dn (l.take (j + 1)) z ∧ y = cm x z)), ()), ?_, ⟨j + 1, rfl, c⟩, by simp only; omega⟩
        simp (disch := first | assumption | omega) only [zA, zB, zC, zD, zE, zF, zG, qwi, qwc, qwd, zH, zI, dpos, dneg, zJ, zK, zL, zM, zN, zO, zP, qfh, qfg, qwk, ei, ey, ec, er, eh, es, up1]
      · obtain rfl : j = l.length := by omega
        rw [List.take_length]
        refine .inr ⟨_, ?_, rfl⟩
        simp (disch := first | assumption | omega) only [zA, zB, zC, zD, zE, zF, zG, qwi, qwc, qwd, zH, zI, dpos, dneg, zJ, zK, zL, zM, zN, zO, zP, qfh, qfg])
  exact e
theorem q4y (hn : Fu n) {H : Pm k hk → Prop} (hH : Sub H) : qfk n (can H) = some (can (fun y : Pm k hk => ∃ a b, H a ∧ H b ∧ y = cm a b), ()) := by
  have h0 := q36 hH
  have e0 : idx (can H) 0 = some (row (can H) 0) := qwk (u := 0) h0
  have el : (((row (can H) 0).length : Nat) : Int) = (k : Int) := by rw [q37 hH]
  have hcl := q3a (H := H)
  have es := q2u hn hk.1 hk.2 (l := []) (by simp) (fun p h => nomatch h)
  have es0 : hasT k (· ∈ ([] : List (List Int))) = hasT k (upS (fun y : Pm k hk => ∃ a b, dn ((can H).take 0) a ∧ dn (can H) b ∧ y = cm a b)) := by
    congr 1
    funext q
    apply propext
    exact ⟨(fun h => nomatch h), fun ⟨_, a, b, ha, _⟩ => absurd ha (q35 a)⟩
  obtain ⟨r, e, rfl⟩ := qv8 (f := qfj n) hn
    (fun d => ∃ i : Nat, d = (can H, (i : Int), setT k (upS (fun y : Pm k hk => ∃ a b, dn ((can H).take i) a ∧ dn (can H) b ∧ y = cm a b)), ()) ∧ i ≤ (can H).length)
    (fun d => (((can H).length : Int) - d.2.1).toNat)
    (fun r => r = .inl (setT k (upS (fun y : Pm k hk => ∃ a b, H a ∧ H b ∧ y = cm a b)), ()))
    (d := (can H, 0, setT k (upS (fun y : Pm k hk => ∃ a b, dn ((can H).take 0) a ∧ dn (can H) b ∧ y = cm a b)), ()))
    ⟨0, rfl, Nat.zero_le _⟩ (by simp only; omega) (by
      rintro d ⟨i, rfl, h1⟩
      by_cases c : i < (can H).length
      · obtain ⟨x, ex, hx⟩ := q33 (hk := hk) (q29 (H := H)) c
        have ei : idx (can H) (i : Int) = some x.1 := by rw [qwk c, ex]
        have e := q4x hn (q29 (H := H)) (by omega) x ei (fun y : Pm k hk => ∃ a b, dn ((can H).take i) a ∧ dn (can H) b ∧ y = cm a b)
        refine .inl ⟨(can H, ((i + 1 : Nat) : Int), setT k (upS (fun y : Pm k hk => ∃ a b, dn ((can H).take (i + 1)) a ∧ dn (can H) b ∧ y = cm a b)), ()), ?_, ⟨i + 1, rfl, c⟩, by simp only; omega⟩
        have : (fun y : Pm k hk => ∃ a b, dn ((can H).take (i + 1)) a ∧ dn (can H) b ∧ y = cm a b) = fun y => (∃ a b, dn ((can H).take i) a ∧ dn (can H) b ∧ y = cm a b) ∨ ∃ z, dn (can H) z ∧ y = cm x z := funext fun y => propext (by
          constructor
          · rintro ⟨a, b, ha, hb, rfl⟩
            rcases (q34 c ex a).1 ha with h | rfl
            · exact .inl ⟨a, b, h, hb, rfl⟩
            · exact .inr ⟨b, hb, rfl⟩
          · rintro (⟨a, b, ha, hb, rfl⟩ | ⟨b, hb, rfl⟩)
            · exact ⟨a, b, (q34 c ex a).2 (.inl ha), hb, rfl⟩
            · exact ⟨x, b, (q34 c ex x).2 (.inr rfl), hb, rfl⟩)
        rw [this]
        simp (disch := first | assumption | omega) only [zA, zB, zC, zD, zE, zF, zG, qwi, qwc, qwd, zH, zI, dpos, dneg, zJ, zK, zL, zM, zN, zO, zP, qfj, qfi, e, up1]
      · obtain rfl : i = (can H).length := by omega
        rw [List.take_length]
        have : (fun y : Pm k hk => ∃ a b, dn (can H) a ∧ dn (can H) b ∧ y = cm a b) = fun y : Pm k hk => ∃ a b, H a ∧ H b ∧ y = cm a b := by
          rw [show (dn (can H) : Pm k hk → Prop) = H from funext fun x => propext q3c]
        rw [this]
        refine .inr ⟨_, ?_, rfl⟩
        simp (disch := first | assumption | omega) only [zA, zB, zC, zD, zE, zF, zG, qwi, qwc, qwd, zH, zI, dpos, dneg, zJ, zK, zL, zM, zN, zO, zP, qfj, qfi])
  have elst := q2w hn (S := upS (fun y : Pm k hk => ∃ a b, H a ∧ H b ∧ y = cm a b)) hk.2
  simp (disch := first | assumption | omega) only [zA, zB, zC, zD, zE, zF, zG, qwi, qwc, qwd, zH, zI, dpos, dneg, zJ, zK, zL, zM, zN, zO, zP, qfk, e0, el, es, es0, e, elst]
  rfl
theorem q4z (hn : Fu n) {H : Pm k hk → Prop} (hH : Sub H) : qfl n (can H) = some (can (Dr H), ()) := by
  have e1 := q4y hn hH
  have e2 := q3k (hk := hk) hn (gens := can (fun y : Pm k hk => ∃ a b, H a ∧ H b ∧ y = cm a b)) q29 (List.length_pos_of_mem (q28.2 ⟨1, 1, hH.one, hH.one, (qzc 1).symm⟩)) (by have := q3a (H := fun y : Pm k hk => ∃ a b, H a ∧ H b ∧ y = cm a b); omega)
  have e3 : (dn (can (fun y : Pm k hk => ∃ a b, H a ∧ H b ∧ y = cm a b)) : Pm k hk → Prop) = (fun y : Pm k hk => ∃ a b, H a ∧ H b ∧ y = cm a b) := funext fun x => propext q3c
  rw [e3] at e2
  simp (disch := first | assumption | omega) only [zA, zB, zC, zD, zE, zF, zG, qwi, qwc, qwd, zH, zI, dpos, dneg, zJ, zK, zL, zM, zN, zO, zP, qfl, e1, e2]
  rfl
theorem q40 (hn : Fu n) {H : Pm k hk → Prop} (hH : Sub H) : qfo n (can H) = some (q4o H, ()) := by
  have e := q4s (f := qfn n) hn (fun K out => (can K, out, ())) (fun out => .inl (out, ())) (fun K out hK ho => by
    have e1 := q4z hn hK
    have hl : ([can (Dr K)] : List (List (List Int))).length = 1 := rfl
    by_cases c : (can (Dr K)).length = (can K).length
    · rw [if_pos c]
      simp (disch := first | assumption | omega) only [zA, zB, zC, zD, zE, zF, zG, qwi, qwc, qwd, zH, zI, dpos, dneg, zJ, zK, zL, zM, zN, zO, zP, qfn, qfm, e1]
    · rw [if_neg c]
      simp (disch := first | assumption | omega) only [zA, zB, zC, zD, zE, zF, zG, qwi, qwc, qwd, zH, zI, dpos, dneg, zJ, zK, zL, zM, zN, zO, zP, qfn, qfm, e1]) hH
  simp (disch := first | assumption | omega) only [zA, zB, zC, zD, zE, zF, zG, qwi, qwc, qwd, zH, zI, dpos, dneg, zJ, zK, zL, zM, zN, zO, zP, qfo, e]
theorem q41 (hn : Fu n) (X : List (List (List Int))) (hl : X.length ≤ 1000000000) (h : ∀ l ∈ X, qfa n l l = some (true, ())) : qfs n X X = some (true, ()) := by
  have g : iterN (qfr n) n (X, X, 0, ()) = some (.inr (.inl ())) := by
    refine qv4 hn (fun i => (X, X, (i : Int), ())) X.length (by omega) rfl (fun i hi => ?_) ?_
    · have ei : idx X (i : Int) = some (X.getD i []) := qwa [] hi
      have hm : X.getD i [] ∈ X := by rw [List.getD_eq_getElem?_getD, List.getElem?_eq_getElem hi]; exact List.getElem_mem hi
      have e := h _ hm
      simp (disch := first | assumption | omega) only [zA, zB, zC, zD, zE, zF, zG, qwi, qwc, qwd, zH, zI, dpos, dneg, zJ, zK, zL, zM, zN, zO, zP, qfr, qfq, ei, e, up1]
    · simp (disch := first | assumption | omega) only [zA, zB, zC, zD, zE, zF, zG, qwi, qwc, qwd, zH, zI, dpos, dneg, zJ, zK, zL, zM, zN, zO, zP, qfr, qfq]
  simp (disch := first | assumption | omega) only [zA, zB, zC, zD, zE, zF, zG, qwi, qwc, qwd, zH, zI, dpos, dneg, zJ, zK, zL, zM, zN, zO, zP, qfs, g]
theorem q42 (hn : Fu n) (H : Pm k hk → Prop) : qfs n (q4o H) (q4o H) = some (true, ()) :=
  q41 hn _ (by have := q4p H; omega) (fun l hl => by obtain ⟨K, rfl⟩ := q4r hl; exact q3q hn K)
theorem q43 (hn : Fu n) (gens : List (List Int)) : ∃ l b, qbd n gens = some (l, (b, ())) ∧ (b = true → GV gens ∧ gens.length ≤ 30 ∧ ∀ (k : Nat) (hk : 1 ≤ k ∧ k ≤ 7), (∀ g ∈ gens, PK k g) → l = can (hk := hk) (Cl (dn gens)) ∧ l.length ≤ 360) := by
  have f := qw8 hn gens 30 (by decide)
  by_cases h0 : (gens.length : Int) ≤ 30 ∧ ∀ i, i < gens.length → (row gens i).length ≤ 100
  · rw [decide_eq_true h0] at f
    have g := qw4 hn gens
    by_cases h1 : GV gens
    · rw [decide_eq_true h1] at g
      obtain ⟨k, hk, hG⟩ := h1.pk
      have e := q3k (hk := hk) hn hG h1.1 (by have := h1.2.1; omega)
      refine ⟨can (hk := hk) (Cl (dn gens)), decide (((can (hk := hk) (Cl (dn gens))).length : Int) ≤ 360), by simp (disch := first | assumption | omega) only [zA, zB, zC, zD, zE, zF, zG, qwi, qwc, qwd, zH, zI, dpos, dneg, zJ, zK, zL, zM, zN, zO, zP, qbd, f, g, e], fun hb => ⟨h1, by omega, fun k' hk' hG' => ?_⟩⟩
      rw [decide_eq_true_eq] at hb
      have hr := qwj h1.1
      obtain rfl := (hG _ hr).uniq (hG' _ hr)
      exact ⟨rfl, by omega⟩
    · rw [decide_eq_false h1] at g
      exact ⟨[], false, by simp (disch := first | assumption | omega) only [zA, zB, zC, zD, zE, zF, zG, qwi, qwc, qwd, zH, zI, dpos, dneg, zJ, zK, zL, zM, zN, zO, zP, qbd, f, g], fun h => nomatch h⟩
  · rw [decide_eq_false h0] at f
    exact ⟨[], false, by simp (disch := first | assumption | omega) only [zA, zB, zC, zD, zE, zF, zG, qwi, qwc, qwd, zH, zI, dpos, dneg, zJ, zK, zL, zM, zN, zO, zP, qbd, f], fun h => nomatch h⟩
theorem q44 {P : Nat → Prop} (h : ∀ n, Fw n → P n) : ∃ n, P n := ⟨_, h (1180591620717411303424 + 1099511627776) (Nat.le_refl _)⟩
theorem q45 (hn : Fw n) (gens : List (List Int)) (al : qfb n = some (true, ())) : qft n gens = some (true, ()) := by
  obtain ⟨l, b, e, hb⟩ := q43 hn.fu gens
  cases b with
  | false => simp (disch := first | assumption | omega) only [zA, zB, zC, zD, zE, zF, zG, qwi, qwc, qwd, zH, zI, dpos, dneg, zJ, zK, zL, zM, zN, zO, zP, qft, e, al]
  | true =>
    obtain ⟨hv, _, hc⟩ := hb rfl
    obtain ⟨k, hk, hG⟩ := hv.pk
    obtain ⟨rfl, _⟩ := hc k hk hG
    have hH := Cl.sub (dn (hk := hk) gens)
    obtain ⟨l, el, _⟩ := q4u (Cl (dn (hk := hk) gens))
    have es := q4v el
    have eb : (solv (Cl (dn (hk := hk) gens)) == solv (Cl (dn (hk := hk) gens))) = true := beq_self_eq_true _
    simp (disch := first | assumption | omega) only [zA, zB, zC, zD, zE, zF, zG, qwi, qwc, qwd, zH, zI, dpos, dneg, zJ, zK, zL, zM, zN, zO, zP, qft, e, q4z hn.fu hH, q40 hn.fu hH, el, q4m hn hH, q4t hn hH, q4w hn hH, q3q hn.fu, q42 hn.fu, es, al]
theorem q46 (l : List (List Int)) : ∃ n, qft n l = some (true, ()) := q44 fun n hn => q45 hn l (qwv hn.fu)
end Go.Proofs.Ytemejeiajekmcaa.V
