/- The law over the models, part 2. -/
import Derived.Test.YtemejeiajekmcaaPNormalsa
namespace Go.Proofs.Ytemejeiajekmcaa.V
open Go Classical Grp
set_option linter.unusedVariables false
set_option linter.all false
variable {n : Nat} {k : Nat} {hk : 1 ≤ k ∧ k ≤ 7}
noncomputable def invTo (p : List Int) (i : Nat) : List Int := tab p.length (fun v => if p.idxOf (v : Int) < i then ((p.idxOf (v : Int) : Nat) : Int) else 0)
theorem q4y (p : List Int) : List.replicate p.length (0 : Int) = invTo p 0 := by
  rw [qx3]; exact qx2 (fun j hj => (if_neg (by omega)).symm)
theorem q4z {p : List Int} (hp : PK k p) {i v : Nat} (hi : i < k) (h : rd p (i : Int) = (v : Int)) : p.idxOf (v : Int) = i := by
  have hm : (v : Int) ∈ p := by rw [← h, qzv (by rw [hp.2]; exact hi)]; exact List.getElem_mem _
  have h1 := q37 hm
  exact hp.1.inj h1.1 (by rw [hp.2]; exact hi) (by rw [h1.2, h])
theorem q40 {p : List Int} (hp : PK k p) {i v : Nat} (hi : i < k) (h : rd p (i : Int) = (v : Int)) : (invTo p i).set v (i : Int) = invTo p (i + 1) := by
  have e := q4z hp hi h
  unfold invTo
  rw [qx1]
  refine qx2 (fun j hj => ?_)
  by_cases c : j = v
  · subst c; rw [if_pos rfl, e, if_pos (by omega)]
  · rw [if_neg c]
    have : p.idxOf (j : Int) ≠ i := fun e2 => by
      have := (q37 (hp.memI (i := j) (by rw [← hp.2]; exact hj))).2
      rw [e2, h] at this; omega
    congr 1; apply propext; omega
theorem q41 {p : List Int} (hp : PK k p) : invTo p p.length = invP p :=
  qx2 (fun j hj => if_pos (q37 (hp.memI (i := j) (by rw [← hp.2]; exact hj))).1)
theorem q42 (hn : Fu n) {p : List Int} (hp : PK k p) : qep n p = some (invP p, ()) := by
  have h7 := hp.bd
  have hl := hp.2
  have g : iterN (qeo n) n (p, (p.length : Int), 0, List.replicate p.length 0, ()) = some (.inl (invP p, ())) := by
    refine qxg hn (fun i => (p, (p.length : Int), (i : Int), invTo p i, ())) p.length (by omega) (by rw [q4y]; rfl) (fun i hi => ?_) ?_
    · obtain ⟨v, hv, e⟩ := hp.at (i := i) (by omega)
      have es := q40 hp (by omega) e
      have ei : idx (invTo p i) (v : Int) = some (if p.idxOf (v : Int) < i then ((p.idxOf (v : Int) : Nat) : Int) else 0) := qx4 (by omega)
      simp (disch := first | assumption | omega) only [zA, zB, zC, zD, zE, zF, zG, qxu, qxo, qxp, zH, zI, dpos, dneg, zJ, zK, zL, zM, zN, zO, zP, qeo, qen, qxx, e, ei, es, up1]
    · simp (disch := first | assumption | omega) only [zA, zB, zC, zD, zE, zF, zG, qxu, qxo, qxp, zH, zI, dpos, dneg, zJ, zK, zL, zM, zN, zO, zP, qeo, qen, q41 hp]
  simp (disch := first | assumption | omega) only [zA, zB, zC, zD, zE, zF, zG, qxu, qxo, qxp, zH, zI, dpos, dneg, zJ, zK, zL, zM, zN, zO, zP, qep, g]
theorem q43 (hn : Fu n) {p : List Int} (hp : PK k p) : qfn n p = some (invP p, ()) := by
  have h7 := hp.bd
  have hl := hp.2
  have g : iterN (qfm n) n (p, 0, List.replicate p.length 0, ()) = some (.inl (invP p, ())) := by
    refine qxg hn (fun i => (p, (i : Int), invTo p i, ())) p.length (by omega) (by rw [q4y]; rfl) (fun i hi => ?_) ?_
    · obtain ⟨v, hv, e⟩ := hp.at (i := i) (by omega)
      have es := q40 hp (by omega) e
      have ei : idx (invTo p i) (v : Int) = some (if p.idxOf (v : Int) < i then ((p.idxOf (v : Int) : Nat) : Int) else 0) := qx4 (by omega)
      simp (disch := first | assumption | omega) only [zA, zB, zC, zD, zE, zF, zG, qxu, qxo, qxp, zH, zI, dpos, dneg, zJ, zK, zL, zM, zN, zO, zP, qfm, qfl, qxx, e, ei, es, up1]
    · simp (disch := first | assumption | omega) only [zA, zB, zC, zD, zE, zF, zG, qxu, qxo, qxp, zH, zI, dpos, dneg, zJ, zK, zL, zM, zN, zO, zP, qfm, qfl, q41 hp]
  simp (disch := first | assumption | omega) only [zA, zB, zC, zD, zE, zF, zG, qxu, qxo, qxp, zH, zI, dpos, dneg, zJ, zK, zL, zM, zN, zO, zP, qfn, g]
theorem q44 (hn : Fu n) (x : Pm k hk) : qep n x.1 = some ((x⁻¹).1, ()) := q42 hn x.2
theorem q45 (hn : Fu n) (x : Pm k hk) : qfn n x.1 = some ((x⁻¹).1, ()) := q43 hn x.2
theorem q46 (hn : Fu n) (p c : Pm k hk) : qer n p.1 c.1 = some ((cj c p).1, ()) := by
  simp only [qer, q44 hn, q4m hn, Option.bind_some]; rfl
theorem q47 (hn : Fu n) (x : Pm k hk) : qas n x.1 = some ((rank x.1 : Int), ()) := q3u hn (by have := x.2.2; omega)
theorem q48 {l : List (List Int)} (h : ∀ p ∈ l, PK k p) {i : Nat} (hi : i < l.length) : ∃ x : Pm k hk, row l i = x.1 ∧ dn l x := ⟨⟨row l i, h _ (qxv hi)⟩, rfl, qxv hi⟩
theorem q49 {l : List (List Int)} {i : Nat} (hi : i < l.length) {x : Pm k hk} (hx : row l i = x.1) (y : Pm k hk) : dn (l.take (i + 1)) y ↔ dn (l.take i) y ∨ y = x := by
  have e : l[i]?.toList = [x.1] := by rw [← hx]; unfold row; rw [List.getD_eq_getElem?_getD, List.getElem?_eq_getElem hi]; rfl
  show y.1 ∈ l.take (i + 1) ↔ y.1 ∈ l.take i ∨ _
  rw [List.take_add_one, List.mem_append, e, List.mem_singleton]
  exact or_congr Iff.rfl ⟨fun h => Pm.ext h, fun h => by rw [h]⟩
theorem q5a {l : List (List Int)} (y : Pm k hk) : ¬ dn (l.take 0) y := fun h => by unfold dn at h; simp at h
def IsGrp (l : List (List Int)) : Prop := ∃ (k : Nat) (hk : 1 ≤ k ∧ k ≤ 7) (H : Pm k hk → Prop), Sub H ∧ l = can H
theorem q5b {H : Pm k hk → Prop} (hH : Sub H) : 0 < (can H).length := List.length_pos_of_mem (q4f.2 hH.one)
theorem q5c {H : Pm k hk → Prop} (hH : Sub H) : (row (can H) 0).length = k := (q4g _ (qxv (q5b hH))).2
theorem Cl.can {H : Pm k hk → Prop} (hH : Sub H) (x : Pm k hk) : Cl (dn (Go.Proofs.Ytemejeiajekmcaa.V.can H)) x ↔ H x := by
  have : (dn (Go.Proofs.Ytemejeiajekmcaa.V.can H) : Pm k hk → Prop) = H := funext fun x => propext q4k
  rw [this]; exact Cl.self hH
theorem q5d {H : Pm k hk → Prop} (hH : Sub H) : GV (can H) := by
  refine ⟨q5b hH, q4i, fun i hi => ?_⟩
  have h0 := q4g _ (qxv (q5b hH))
  have h1 := q4g _ (qxv hi)
  exact ⟨h0.1, h1.1, by rw [h0.2, h1.2]⟩
theorem PK.uniq {k k' : Nat} {p : List Int} (h : PK k p) (h' : PK k' p) : k = k' := by rw [← h.2, ← h'.2]
theorem q5e {l : List (List Int)} : Asc l ↔ ∀ i, i < l.length → 0 < i → ltL (row l (i - 1)) (row l i) := by
  have rg : ∀ (i : Nat) (h : i < l.length), row l i = l[i] := fun i h => by unfold row; rw [List.getD_eq_getElem?_getD, List.getElem?_eq_getElem h]; rfl
  constructor
  · intro h i hi h0
    rw [rg i hi, rg (i - 1) (by omega)]
    exact List.pairwise_iff_getElem.1 h (i - 1) i (by omega) hi (by omega)
  · intro h
    refine List.pairwise_iff_getElem.2 (fun i j hi hj hij => ?_)
    rw [← rg i hi, ← rg j hj]
    clear hi
    induction j with
    | zero => omega
    | succ j ih =>
      have := h (j + 1) hj (by omega)
      simp only [Nat.add_sub_cancel] at this
      by_cases e : i = j
      · rw [e]; exact this
      · exact qzb (ih (by omega) (by omega)) this
theorem q5f (hn : Fu n) {l : List (List Int)} (hl : l.length ≤ 1000000000) (hr : ∀ i, i < l.length → (row l i).length ≤ 1000000000) :
    iterN (qed n) n (l, (l.length : Int), 0, ()) = some (if Asc l then .inr (.inl (l, ())) else .inl (false, ())) := by
  refine (qxh (f := qed n) hn (fun i => (l, (l.length : Int), (i : Int), ())) l.length (fun i => 0 < i → ltL (row l (i - 1)) (row l i)) (d := (l, (l.length : Int), 0, ())) (r := .inr (.inl (l, ()))) (r' := .inl (false, ())) (by omega) rfl (fun i hi _ hp => ?_) (fun i hi _ hp => ?_) (fun _ => ?_)).trans (by
      congr 1
      by_cases h : Asc l
      · rw [if_pos h, if_pos (fun i hi h0 => q5e.1 h i hi h0)]
      · rw [if_neg h, if_neg (fun h2 => h (q5e.2 h2))])
  · by_cases c : 0 < i
    · have hc := q3j hn (row l (i - 1)) (row l i) (hr _ (by omega))
      rw [q3e (hp c)] at hc
      have z : ¬ (0 : Int) ≤ -1 := by decide
      simp (disch := first | assumption | omega) only [zA, zB, zC, zD, zE, zF, zG, qxu, qxo, qxp, zH, zI, dpos, dneg, zJ, zK, zL, zM, zN, zO, zP, qed, qec, Srt.dn1, qxw, hc, up1]
    · obtain rfl : i = 0 := by omega
      simp (disch := first | assumption | omega) only [zA, zB, zC, zD, zE, zF, zG, qxu, qxo, qxp, zH, zI, dpos, dneg, zJ, zK, zL, zM, zN, zO, zP, qed, qec, up1]
  · have c : 0 < i := Classical.byContradiction fun h => hp (fun h2 => absurd h2 h)
    have hc := q3j hn (row l (i - 1)) (row l i) (hr _ (by omega))
    have hge : 0 ≤ cmpL (row l (i - 1)) (row l i) := by
      have : ¬ cmpL (row l (i - 1)) (row l i) < 0 := fun h => hp (fun _ => q3h.1 h)
      omega
    simp (disch := first | assumption | omega) only [zA, zB, zC, zD, zE, zF, zG, qxu, qxo, qxp, zH, zI, dpos, dneg, zJ, zK, zL, zM, zN, zO, zP, qed, qec, Srt.dn1, qxw, hc]
  · simp (disch := first | assumption | omega) only [zA, zB, zC, zD, zE, zF, zG, qxu, qxo, qxp, zH, zI, dpos, dneg, zJ, zK, zL, zM, zN, zO, zP, qed, qec]
theorem q5g (hn : Fw n) (l : List (List Int)) : ∃ b, qee n l = some (b, ()) ∧ (b = true ↔ IsGrp l) := by
  have e1 := qyi hn.fu l
  by_cases hv : GV l
  · rw [decide_eq_true hv] at e1
    obtain ⟨k, hk, hG⟩ := hv.pk
    have e2 := q5f hn.fu (l := l) (by have := hv.2.1; omega) (fun i hi => by have := (hG _ (qxv hi)).2; omega)
    have e3 := q4w (hk := hk) hn hG hv.1 (by have := hv.2.1; omega)
    by_cases ha : Asc l
    · rw [if_pos ha] at e2
      refine ⟨decide (((can (hk := hk) (Cl (dn l))).length : Int) = (l.length : Int)), by simp (disch := first | assumption | omega) only [zA, zB, zC, zD, zE, zF, zG, qxu, qxo, qxp, zH, zI, dpos, dneg, zJ, zK, zL, zM, zN, zO, zP, qee, e1, e2, e3], ?_⟩
      rw [decide_eq_true_eq]
      constructor
      · intro h
        have hp := qze ha.nodup (L := can (hk := hk) (Cl (dn l))) (fun p hp => q4e.2 ⟨hG p hp, .gen hp⟩) (by omega)
        refine ⟨k, hk, Cl (dn l), Cl.sub _, ha.ext q4h (fun p => hp.mem_iff)⟩
      · rintro ⟨k', hk', H, hH, rfl⟩
        have h0 := qxv (q5b hH)
        obtain rfl := (hG _ h0).uniq (q4g _ h0)
        rw [q4j (Cl.can hH)]
    · rw [if_neg ha] at e2
      refine ⟨false, by simp (disch := first | assumption | omega) only [zA, zB, zC, zD, zE, zF, zG, qxu, qxo, qxp, zH, zI, dpos, dneg, zJ, zK, zL, zM, zN, zO, zP, qee, e1, e2], (fun h => nomatch h), ?_⟩
      rintro ⟨k', hk', H, hH, rfl⟩
      exact absurd q4h ha
  · rw [decide_eq_false hv] at e1
    refine ⟨false, by simp (disch := first | assumption | omega) only [zA, zB, zC, zD, zE, zF, zG, qxu, qxo, qxp, zH, zI, dpos, dneg, zJ, zK, zL, zM, zN, zO, zP, qee, e1], (fun h => nomatch h), ?_⟩
    rintro ⟨k', hk', H, hH, rfl⟩
    exact absurd (q5d hH) hv
theorem q5h (hn : Fw n) {H : Pm k hk → Prop} (hH : Sub H) : qee n (can H) = some (true, ()) := by
  obtain ⟨b, e, h⟩ := q5g hn (can H)
  rw [h.2 ⟨k, hk, H, hH, rfl⟩] at e
  exact e
theorem q5i (hn : Fw n) {G : List (List Int)} (hG : ∀ g ∈ G, PK k g) (h0 : 0 < G.length) (hGl : G.length ≤ 1000000000) : qej n G = some ((can (hk := hk) (Cl (dn G)), ()), (G, ())) := by
  have hr0 := hG _ (qxv h0)
  have e0 : idx G 0 = some (row G 0) := qxw (u := 0) h0
  have eid := qyr hn.fu k hk.1 hk.2
  obtain ⟨met, e1, h1⟩ := Gw.start hn.fu hk
  obtain ⟨r, e2, met', gens', all', rfl, h2⟩ := qxk (f := qeg n) hn.fu
    (fun d => ∃ (i : Nat) (met : Option KS) (gens all : List (List Int)), d = (((), ((), ((), ()))), (G.length : Int), (i : Int), met, gens, all, G, ()) ∧ i ≤ G.length ∧ Gw hk (dn (G.take i)) met gens all)
    (fun d => ((G.length : Int) - d.2.2.1).toNat)
    (fun r => ∃ met' gens' all', r = .inl (met', gens', all', G, ()) ∧ Gw hk (dn G) met' gens' all')
    (d := (((), ((), ((), ()))), (G.length : Int), 0, met, [], [idP k], G, ()))
    ⟨0, met, [], [idP k], rfl, Nat.zero_le _, by
      have : (dn (G.take 0) : Pm k hk → Prop) = fun _ => False := by funext x; apply propext; exact ⟨fun h => q5a x h, fun h => h.elim⟩
      rw [this]; exact h1⟩ (by simp only; omega) (by
      rintro d ⟨i, met, gens, all, rfl, h1, h2⟩
      by_cases c : i < G.length
      · obtain ⟨x, ex, hx⟩ := q48 (hk := hk) hG c
        obtain ⟨met', gens', all', e, q⟩ := q4t hn.fu h2 x
        refine .inl ⟨(((), ((), ((), ()))), (G.length : Int), ((i + 1 : Nat) : Int), met', gens', all', G, ()), ?_, ⟨i + 1, met', gens', all', rfl, c, ?_⟩, by simp only; omega⟩
        · simp (disch := first | assumption | omega) only [zA, zB, zC, zD, zE, zF, zG, qxu, qxo, qxp, zH, zI, dpos, dneg, zJ, zK, zL, zM, zN, zO, zP, qeg, qef, qxw, ex, e, up1]
        · have : (dn (G.take (i + 1)) : Pm k hk → Prop) = fun y => dn (G.take i) y ∨ y = x := funext fun y => propext (q49 c ex y)
          rw [this]; exact q
      · obtain rfl : i = G.length := by omega
        rw [List.take_length] at h2
        refine .inr ⟨.inl (met, gens, all, G, ()), ?_, met, gens, all, rfl, h2⟩
        simp (disch := first | assumption | omega) only [zA, zB, zC, zD, zE, zF, zG, qxu, qxo, qxp, zH, zI, dpos, dneg, zJ, zK, zL, zM, zN, zO, zP, qeg, qef])
  have e3 := h2.sorted hn
  have el : (((row G 0).length : Nat) : Int) = (k : Int) := by rw [hr0.2]
  simp (disch := first | assumption | omega) only [zA, zB, zC, zD, zE, zF, zG, qxu, qxo, qxp, zH, zI, dpos, dneg, zJ, zK, zL, zM, zN, zO, zP, qej, e0, el, qei, eid, e1, qeh, e2, e3]
def KSet (hk : 1 ≤ k ∧ k ≤ 7) (m : KS) (S : Pm k hk → Prop) : Prop := KOK m ∧ ∀ x : Pm k hk, keyP x.1 ∈ m.map (·.1) ↔ S x
theorem KSet.look {m : KS} {S : Pm k hk → Prop} (h : KSet hk m S) (x : Pm k hk) : (mget (.arr 7 (.int .i8)) m (keyP x.1)).getD false = decide (S x) := by
  rw [qy0 h.1 (qyz x.1)]
  by_cases c : S x
  · rw [if_pos ((h.2 x).2 c), decide_eq_true c]; rfl
  · rw [if_neg (fun e => c ((h.2 x).1 e)), decide_eq_false c]; rfl
theorem q5j (hn : Fu n) {l : List (List Int)} (hl : l.length ≤ 1000000000) (h : ∀ p ∈ l, PK k p) : ∃ m, qby n l = some (some m, ()) ∧ KSet hk m (dn l) := by
  obtain ⟨m, e, h1, h2⟩ := q4u hn hl (fun p hp => (h p hp).1)
  exact ⟨m, e, h1, fun x => h2 x.1 x.2.1⟩
theorem q5k (hn : Fu n) (x : Pm k hk) : qbv n x.1 = some (keyP x.1, ()) := qyu hn x.2.1
theorem q5l (hn : Fw n) {H : Pm k hk → Prop} (hH : Sub H) : ∃ out, qem n (can H) = some (out, ()) ∧ (∀ p ∈ out, PK k p) ∧ (∀ x : Pm k hk, Cl (dn out) x ↔ H x) ∧ (∀ x : Pm k hk, dn out x → H x) ∧ 0 < out.length ∧ out.length ≤ 5041 := by
  have h0 := q5b hH
  have e0 : idx (can H) 0 = some (row (can H) 0) := qxw (u := 0) h0
  have el : (((row (can H) 0).length : Nat) : Int) = (k : Int) := by rw [q5c hH]
  have eid := qyr hn.fu k hk.1 hk.2
  obtain ⟨m0, e1, h1⟩ := q5j (hk := hk) hn.fu (l := [idP k]) (by simp) (fun p hp => by rw [List.mem_singleton] at hp; subst hp; exact (1 : Pm k hk).2)
  have hcl := q4i (H := H)
  obtain ⟨r, e, out, rfl, q1, q2, q3, q4, q5⟩ := qxk (f := qel n) hn.fu
    (fun d => ∃ (i : Nat) (m : KS) (out : List (List Int)), d = (some m, can H, ((can H).length : Int), (i : Int), out, ()) ∧ i ≤ (can H).length ∧ KSet hk m (Cl (dn out)) ∧ (∀ p ∈ out, PK k p) ∧ (∀ x : Pm k hk, dn out x → H x) ∧ 0 < out.length ∧ out.length ≤ i + 1 ∧ ∀ x : Pm k hk, dn ((can H).take i) x → Cl (dn out) x)
    (fun d => (((can H).length : Int) - d.2.2.2.1).toNat)
    (fun r => ∃ out, r = .inl (out, ()) ∧ (∀ p ∈ out, PK k p) ∧ (∀ x : Pm k hk, Cl (dn out) x ↔ H x) ∧ (∀ x : Pm k hk, dn out x → H x) ∧ 0 < out.length ∧ out.length ≤ 5041)
    (d := (some m0, can H, ((can H).length : Int), 0, [idP k], ()))
    ⟨0, m0, [idP k], rfl, Nat.zero_le _, ⟨h1.1, fun x => by
      rw [h1.2]
      constructor
      · intro h; exact .gen h
      · intro h
        have one : ∀ y : Pm k hk, dn [idP k] y ↔ y = 1 := fun y => by
          unfold dn; rw [List.mem_singleton]; exact ⟨fun h => Pm.ext h, fun h => by rw [h]; rfl⟩
        rw [one]
        induction h with
        | one => rfl
        | step _ hq ih => rw [ih, (one _).1 hq, Grp.mul_one]⟩, fun p hp => by rw [List.mem_singleton] at hp; subst hp; exact (1 : Pm k hk).2, fun x hx => by
        have : x = 1 := Pm.ext (List.mem_singleton.1 hx)
        rw [this]; exact hH.one, by simp, by simp, fun x hx => absurd hx (q5a x)⟩ (by simp only; omega) (by
      rintro d ⟨i, m, out, rfl, p1, p2, p3, p4, p5, p6, p7⟩
      by_cases c : i < (can H).length
      · obtain ⟨x, ex, hx⟩ := q48 (hk := hk) q4g c
        have hHx : H x := q4k.1 hx
        have ek := q5k hn.fu x
        have elk := p2.look x
        by_cases c2 : Cl (dn out) x
        · rw [decide_eq_true c2] at elk
          refine .inl ⟨(some m, can H, ((can H).length : Int), ((i + 1 : Nat) : Int), out, ()), ?_, ⟨i + 1, m, out, rfl, c, p2, p3, p4, p5, by omega, fun y hy => ?_⟩, by simp only; omega⟩
          · simp (disch := first | assumption | omega) only [zA, zB, zC, zD, zE, zF, zG, qxu, qxo, qxp, zH, zI, dpos, dneg, zJ, zK, zL, zM, zN, zO, zP, qel, qek, qxw, ex, ek, elk, up1]
          · rcases (q49 c ex y).1 hy with h | rfl
            · exact p7 y h
            · exact c2
        · rw [decide_eq_false c2] at elk
          have hP : ∀ p ∈ out ++ [x.1], PK k p := fun p hp => by
            rw [List.mem_append, List.mem_singleton] at hp
            rcases hp with hp | rfl
            · exact p3 p hp
            · exact x.2
          have hlen : (out ++ [x.1]).length = out.length + 1 := by simp
          have ec := q5i (hk := hk) hn hP (by omega) (by omega)
          obtain ⟨m', em, hm⟩ := q5j (hk := hk) hn.fu (l := can (hk := hk) (Cl (dn (out ++ [x.1])))) (by have := q4i (H := Cl (dn (hk := hk) (out ++ [x.1]))); omega) q4g
          have hl1 : ([x.1] : List (List Int)).length = 1 := rfl
          refine .inl ⟨(some m', can H, ((can H).length : Int), ((i + 1 : Nat) : Int), out ++ [x.1], ()), ?_, ⟨i + 1, m', out ++ [x.1], rfl, c, ⟨hm.1, fun y => by rw [hm.2, q4k]⟩, hP, fun y hy => ?_, by omega, by omega, fun y hy => ?_⟩, by simp only; omega⟩
          · simp (disch := first | assumption | omega) only [zA, zB, zC, zD, zE, zF, zG, qxu, qxo, qxp, zH, zI, dpos, dneg, zJ, zK, zL, zM, zN, zO, zP, qel, qek, qxw, ex, ek, elk, ec, em, up1]
          · have hy : y.1 ∈ out ++ [x.1] := hy
            rw [List.mem_append, List.mem_singleton] at hy
            rcases hy with hy | hy
            · exact p4 y hy
            · rw [Pm.ext hy]; exact hHx
          · rcases (q49 c ex y).1 hy with h | rfl
            · exact (p7 y h).mono (fun z hz => .gen (List.mem_append_left _ hz))
            · exact .gen (show y.1 ∈ out ++ [y.1] by simp)
      · obtain rfl : i = (can H).length := by omega
        rw [List.take_length] at p7
        refine .inr ⟨.inl (out, ()), ?_, out, rfl, p3, fun x => ⟨fun h => h.le hH p4, fun h => p7 x (q4k.2 h)⟩, p4, p5, by omega⟩
        simp (disch := first | assumption | omega) only [zA, zB, zC, zD, zE, zF, zG, qxu, qxo, qxp, zH, zI, dpos, dneg, zJ, zK, zL, zM, zN, zO, zP, qel, qek])
  refine ⟨out, ?_, q1, q2, q3, q4, q5⟩
  simp (disch := first | assumption | omega) only [zA, zB, zC, zD, zE, zF, zG, qxu, qxo, qxp, zH, zI, dpos, dneg, zJ, zK, zL, zM, zN, zO, zP, qem, e0, el, eid, e1, e]
end Go.Proofs.Ytemejeiajekmcaa.V
namespace Go.Proofs.Ytemejeiajekmcaa.V
open Go Classical Grp
set_option linter.unusedVariables false
set_option linter.all false
variable {n : Nat} {k : Nat} {hk : 1 ≤ k ∧ k ≤ 7}
theorem q5m (hn : Fu n) (gens : List (List Int)) : ∃ l b, qbd n gens = some (l, (b, ())) ∧ (b = true → GV gens ∧ gens.length ≤ 30 ∧ ∀ (k : Nat) (hk : 1 ≤ k ∧ k ≤ 7), (∀ g ∈ gens, PK k g) → l = can (hk := hk) (Cl (dn gens)) ∧ l.length ≤ 360) := by
  have f := qyj hn gens 30 (by decide)
  by_cases h0 : (gens.length : Int) ≤ 30 ∧ ∀ i, i < gens.length → (row gens i).length ≤ 100
  · rw [decide_eq_true h0] at f
    have g := qyf hn gens
    by_cases h1 : GV gens
    · rw [decide_eq_true h1] at g
      obtain ⟨k, hk, hG⟩ := h1.pk
      have e := q4s (hk := hk) hn hG h1.1 (by have := h1.2.1; omega)
      refine ⟨can (hk := hk) (Cl (dn gens)), decide (((can (hk := hk) (Cl (dn gens))).length : Int) ≤ 360), by simp (disch := first | assumption | omega) only [zA, zB, zC, zD, zE, zF, zG, qxu, qxo, qxp, zH, zI, dpos, dneg, zJ, zK, zL, zM, zN, zO, zP, qbd, f, g, e], fun hb => ⟨h1, by omega, fun k' hk' hG' => ?_⟩⟩
      rw [decide_eq_true_eq] at hb
      have hr := qxv h1.1
      obtain rfl := (hG _ hr).uniq (hG' _ hr)
      exact ⟨rfl, by omega⟩
    · rw [decide_eq_false h1] at g
      exact ⟨[], false, by simp (disch := first | assumption | omega) only [zA, zB, zC, zD, zE, zF, zG, qxu, qxo, qxp, zH, zI, dpos, dneg, zJ, zK, zL, zM, zN, zO, zP, qbd, f, g], fun h => nomatch h⟩
  · rw [decide_eq_false h0] at f
    exact ⟨[], false, by simp (disch := first | assumption | omega) only [zA, zB, zC, zD, zE, zF, zG, qxu, qxo, qxp, zH, zI, dpos, dneg, zJ, zK, zL, zM, zN, zO, zP, qbd, f], fun h => nomatch h⟩
theorem q5n {P : Nat → Prop} (h : ∀ n, Fw n → P n) : ∃ n, P n := ⟨_, h (1180591620717411303424 + 1099511627776) (Nat.le_refl _)⟩
end Go.Proofs.Ytemejeiajekmcaa.V
namespace Go.Proofs.Ytemejeiajekmcaa.V
open Go Classical Grp
set_option linter.unusedVariables false
set_option linter.all false
variable {n : Nat} {k : Nat} {hk : 1 ≤ k ∧ k ≤ 7}
theorem q5o (hn : Fu n) (c p : Pm k hk) : qfo n c.1 p.1 = some ((cj c p).1, ()) := by
  simp only [qfo, q45 hn, q4n hn, Option.bind_some]; rfl
theorem q5p (hn : Fu n) (p q : List Int) (hp : p.length ≤ 1000000000) : qe7 n p q = some (decide (p = q), ()) := by
  by_cases hl : p.length = q.length
  · have g : iterN (qe6 n) n (p, q, 0, ()) = some (if ∀ i, i < p.length → rd p (i : Int) = rd q (i : Int) then .inr (.inl ()) else .inl (false, ())) := by
      refine (qxh (f := qe6 n) hn (fun i => (p, q, (i : Int), ())) p.length (fun i => rd p (i : Int) = rd q (i : Int)) (d := (p, q, 0, ())) (r := .inr (.inl ())) (r' := .inl (false, ())) (by omega) rfl (fun i hi _ hp => ?_) (fun i hi _ hp => ?_) (fun _ => ?_)).trans (by congr)
      · simp (disch := first | assumption | omega) only [zA, zB, zC, zD, zE, zF, zG, qxu, qxo, qxp, zH, zI, dpos, dneg, zJ, zK, zL, zM, zN, zO, zP, qe6, qe5, qxx, hp, up1]
      · simp (disch := first | assumption | omega) only [zA, zB, zC, zD, zE, zF, zG, qxu, qxo, qxp, zH, zI, dpos, dneg, zJ, zK, zL, zM, zN, zO, zP, qe6, qe5, qxx, up1]
      · simp (disch := first | assumption | omega) only [zA, zB, zC, zD, zE, zF, zG, qxu, qxo, qxp, zH, zI, dpos, dneg, zJ, zK, zL, zM, zN, zO, zP, qe6, qe5]
    by_cases e : p = q
    · rw [if_pos (fun i hi => by rw [e])] at g
      subst e
      simp (disch := first | assumption | omega) only [zA, zB, zC, zD, zE, zF, zG, qxu, qxo, qxp, zH, zI, dpos, dneg, zJ, zK, zL, zM, zN, zO, zP, qe7, g]
    · rw [if_neg (fun h => e (q3c hl h))] at g
      rw [decide_eq_false e]
      simp (disch := first | assumption | omega) only [zA, zB, zC, zD, zE, zF, zG, qxu, qxo, qxp, zH, zI, dpos, dneg, zJ, zK, zL, zM, zN, zO, zP, qe7, g]
  · rw [decide_eq_false (fun e => hl (by rw [e]))]
    simp (disch := first | assumption | omega) only [zA, zB, zC, zD, zE, zF, zG, qxu, qxo, qxp, zH, zI, dpos, dneg, zJ, zK, zL, zM, zN, zO, zP, qe7]
theorem q5q {l : List (List Int)} {p : List Int} : p ∈ l ↔ ∃ i, i < l.length ∧ row l i = p := by
  constructor
  · intro h
    obtain ⟨i, hi, e⟩ := List.getElem_of_mem h
    exact ⟨i, hi, by unfold row; rw [List.getD_eq_getElem?_getD, List.getElem?_eq_getElem hi]; exact e⟩
  · rintro ⟨i, hi, rfl⟩; exact qxv hi
theorem q5r (hn : Fu n) (l : List (List Int)) (p : List Int) (hl : l.length ≤ 1000000000) (hr : ∀ i, i < l.length → (row l i).length ≤ 1000000000) : qfe n l p = some (decide (p ∈ l), ()) := by
  have g : iterN (qfd n) n (l, p, 0, ()) = some (if ∀ i, i < l.length → row l i ≠ p then .inr (.inl ()) else .inl (true, ())) := by
    refine (qxh (f := qfd n) hn (fun i => (l, p, (i : Int), ())) l.length (fun i => row l i ≠ p) (d := (l, p, 0, ())) (r := .inr (.inl ())) (r' := .inl (true, ())) (by omega) rfl (fun i hi _ hp => ?_) (fun i hi _ hp => ?_) (fun _ => ?_)).trans (by congr)
    · have e := q5p hn (row l i) p (hr i hi)
      rw [decide_eq_false hp] at e
      simp (disch := first | assumption | omega) only [zA, zB, zC, zD, zE, zF, zG, qxu, qxo, qxp, zH, zI, dpos, dneg, zJ, zK, zL, zM, zN, zO, zP, qfd, qfc, qxw, e, up1]
    · have e := q5p hn (row l i) p (hr i hi)
      rw [decide_eq_true (Classical.not_not.1 hp)] at e
      simp (disch := first | assumption | omega) only [zA, zB, zC, zD, zE, zF, zG, qxu, qxo, qxp, zH, zI, dpos, dneg, zJ, zK, zL, zM, zN, zO, zP, qfd, qfc, qxw, e, up1]
    · simp (disch := first | assumption | omega) only [zA, zB, zC, zD, zE, zF, zG, qxu, qxo, qxp, zH, zI, dpos, dneg, zJ, zK, zL, zM, zN, zO, zP, qfd, qfc]
  by_cases h : p ∈ l
  · rw [decide_eq_true h]
    rw [if_neg (fun h2 => by obtain ⟨i, hi, e⟩ := q5q.1 h; exact h2 i hi e)] at g
    simp (disch := first | assumption | omega) only [zA, zB, zC, zD, zE, zF, zG, qxu, qxo, qxp, zH, zI, dpos, dneg, zJ, zK, zL, zM, zN, zO, zP, qfe, g]
  · rw [decide_eq_false h]
    rw [if_pos (fun i hi e => h (q5q.2 ⟨i, hi, e⟩))] at g
    simp (disch := first | assumption | omega) only [zA, zB, zC, zD, zE, zF, zG, qxu, qxo, qxp, zH, zI, dpos, dneg, zJ, zK, zL, zM, zN, zO, zP, qfe, g]
theorem q5s {H : Pm k hk → Prop} : ∀ i, i < (can H).length → (row (can H) i).length ≤ 1000000000 := fun i hi => by have := q4x i hi; omega
theorem q5t (hn : Fu n) {k' : Nat} {hk' : 1 ≤ k' ∧ k' ≤ 7} {H : Pm k hk → Prop} {K : Pm k' hk' → Prop} (hH : Sub H) (hK : Sub K) : qfh n (can H) (can K) = some (decide (∀ p ∈ can K, p ∈ can H), ()) := by
  have hl := q4i (H := H)
  have hl' := q4i (H := K)
  have g : iterN (qfg n) n (can H, can K, 0, ()) = some (if ∀ i, i < (can K).length → row (can K) i ∈ can H then .inr (.inl (can H, can K, ())) else .inl (false, ())) := by
    refine (qxh (f := qfg n) hn (fun i => (can H, can K, (i : Int), ())) (can K).length (fun i => row (can K) i ∈ can H) (d := (can H, can K, 0, ())) (r := .inr (.inl (can H, can K, ()))) (r' := .inl (false, ())) (by omega) rfl (fun i hi _ hp => ?_) (fun i hi _ hp => ?_) (fun _ => ?_)).trans (by congr)
    · have e := q5r hn (can H) (row (can K) i) (by omega) q5s
      rw [decide_eq_true hp] at e
      simp (disch := first | assumption | omega) only [zA, zB, zC, zD, zE, zF, zG, qxu, qxo, qxp, zH, zI, dpos, dneg, zJ, zK, zL, zM, zN, zO, zP, qfg, qff, qxw, e, up1]
    · have e := q5r hn (can H) (row (can K) i) (by omega) q5s
      rw [decide_eq_false hp] at e
      simp (disch := first | assumption | omega) only [zA, zB, zC, zD, zE, zF, zG, qxu, qxo, qxp, zH, zI, dpos, dneg, zJ, zK, zL, zM, zN, zO, zP, qfg, qff, qxw, e, up1]
    · simp (disch := first | assumption | omega) only [zA, zB, zC, zD, zE, zF, zG, qxu, qxo, qxp, zH, zI, dpos, dneg, zJ, zK, zL, zM, zN, zO, zP, qfg, qff]
  have e0 : idx (can H) 0 = some (row (can H) 0) := qxw (u := 0) (q5b hH)
  have e1 : idx (can K) 0 = some (row (can K) 0) := qxw (u := 0) (q5b hK)
  by_cases h : ∀ p ∈ can K, p ∈ can H
  · rw [if_pos (fun i hi => h _ (qxv hi))] at g
    have hm := h _ (qxv (q5b hK))
    have ek : k = k' := (q4g _ hm).uniq (q4g _ (qxv (q5b hK)))
    have el : (row (can H) 0).length = (row (can K) 0).length := by rw [q5c hH, q5c hK, ek]
    rw [decide_eq_true h]
    simp (disch := first | assumption | omega) only [zA, zB, zC, zD, zE, zF, zG, qxu, qxo, qxp, zH, zI, dpos, dneg, zJ, zK, zL, zM, zN, zO, zP, qfh, g, e0, e1]
  · rw [decide_eq_false h]
    rw [if_neg (fun h2 => h (fun p hp => by obtain ⟨i, hi, rfl⟩ := q5q.1 hp; exact h2 i hi))] at g
    simp (disch := first | assumption | omega) only [zA, zB, zC, zD, zE, zF, zG, qxu, qxo, qxp, zH, zI, dpos, dneg, zJ, zK, zL, zM, zN, zO, zP, qfh, g]
theorem q5u : @qfk = @qav := rfl
theorem q5v : @qfw = @qby := rfl
theorem q5w (hn : Fu n) {H K : Pm k hk → Prop} (hH : Sub H) (hK : Sub K) : qft n (can H) (can K) = some (decide (Norm H K), ()) := by
  have hl := q4i (H := H)
  have hl' := q4i (H := K)
  have e0 : idx (can H) 0 = some (row (can H) 0) := qxw (u := 0) (q5b hH)
  have el : (((row (can H) 0).length : Nat) : Int) = (k : Int) := by rw [q5c hH]
  have es := q31 hn hk.1 hk.2 (l := can K) (by omega) q4g
  have inner : ∀ (i : Nat) (x : Pm k hk), idx (can H) (i : Int) = some x.1 → iterN (qfq n) n (can H, can K, (i : Int), 0, setT k (· ∈ can K), ()) = some (if ∀ j, j < (can K).length → ∀ y : Pm k hk, row (can K) j = y.1 → K (cj x y) then .inr (.inl (can H, can K, (i : Int), setT k (· ∈ can K), ())) else .inl (false, ())) := by
    intro i x ei
    refine (qxh (f := qfq n) hn (fun j => (can H, can K, (i : Int), (j : Int), setT k (· ∈ can K), ())) (can K).length (fun j => ∀ y : Pm k hk, row (can K) j = y.1 → K (cj x y)) (r := .inr (.inl (can H, can K, (i : Int), setT k (· ∈ can K), ()))) (r' := .inl (false, ())) (by omega) rfl (fun j hj _ hp => ?_) (fun j hj _ hp => ?_) (fun _ => ?_)).trans (by congr)
    · obtain ⟨y, ey, hy⟩ := q48 (hk := hk) (q4g (H := K)) hj
      have ec := q5o hn x y
      have er := q47 hn (cj x y)
      have eh := q4o (S := (· ∈ can K)) (cj x y).2 (q4f.2 (hp y ey))
      simp (disch := first | assumption | omega) only [zA, zB, zC, zD, zE, zF, zG, qxu, qxo, qxp, zH, zI, dpos, dneg, zJ, zK, zL, zM, zN, zO, zP, qfq, qfp, qxw, ei, ey, ec, er, eh, up1]
    · obtain ⟨y, ey, hy⟩ := q48 (hk := hk) (q4g (H := K)) hj
      have ec := q5o hn x y
      have er := q47 hn (cj x y)
      have hno : ¬ (cj x y).1 ∈ can K := fun h => hp (fun z hz => by
        have : z = y := Pm.ext (hz.symm.trans ey)
        rw [this]; exact q4f.1 h)
      have eh := q4p (S := (· ∈ can K)) (cj x y).2 hno
      simp (disch := first | assumption | omega) only [zA, zB, zC, zD, zE, zF, zG, qxu, qxo, qxp, zH, zI, dpos, dneg, zJ, zK, zL, zM, zN, zO, zP, qfq, qfp, qxw, ei, ey, ec, er, eh, up1]
    · simp (disch := first | assumption | omega) only [zA, zB, zC, zD, zE, zF, zG, qxu, qxo, qxp, zH, zI, dpos, dneg, zJ, zK, zL, zM, zN, zO, zP, qfq, qfp]
  have outer : iterN (qfs n) n (can H, can K, 0, setT k (· ∈ can K), ()) = some (if ∀ i, i < (can H).length → ∀ x : Pm k hk, row (can H) i = x.1 → ∀ j, j < (can K).length → ∀ y : Pm k hk, row (can K) j = y.1 → K (cj x y) then .inr (.inl ()) else .inl (false, ())) := by
    refine (qxh (f := qfs n) hn (fun i => (can H, can K, (i : Int), setT k (· ∈ can K), ())) (can H).length (fun i => ∀ x : Pm k hk, row (can H) i = x.1 → ∀ j, j < (can K).length → ∀ y : Pm k hk, row (can K) j = y.1 → K (cj x y)) (d := (can H, can K, 0, setT k (· ∈ can K), ())) (r := .inr (.inl ())) (r' := .inl (false, ())) (by omega) rfl (fun i hi _ hp => ?_) (fun i hi _ hp => ?_) (fun _ => ?_)).trans (by congr)
    · obtain ⟨x, ex, hx⟩ := q48 (hk := hk) (q4g (H := H)) hi
      have e := inner i x (by rw [qxw hi, ex])
      rw [if_pos (hp x ex)] at e
      simp (disch := first | assumption | omega) only [zA, zB, zC, zD, zE, zF, zG, qxu, qxo, qxp, zH, zI, dpos, dneg, zJ, zK, zL, zM, zN, zO, zP, qfs, qfr, e, up1]
    · obtain ⟨x, ex, hx⟩ := q48 (hk := hk) (q4g (H := H)) hi
      have e := inner i x (by rw [qxw hi, ex])
      rw [if_neg (fun h => hp (fun z hz => by
        have : z = x := Pm.ext (hz.symm.trans ex)
        rw [this]; exact h))] at e
      simp (disch := first | assumption | omega) only [zA, zB, zC, zD, zE, zF, zG, qxu, qxo, qxp, zH, zI, dpos, dneg, zJ, zK, zL, zM, zN, zO, zP, qfs, qfr, e]
    · simp (disch := first | assumption | omega) only [zA, zB, zC, zD, zE, zF, zG, qxu, qxo, qxp, zH, zI, dpos, dneg, zJ, zK, zL, zM, zN, zO, zP, qfs, qfr]
  have hiff : (∀ i, i < (can H).length → ∀ x : Pm k hk, row (can H) i = x.1 → ∀ j, j < (can K).length → ∀ y : Pm k hk, row (can K) j = y.1 → K (cj x y)) ↔ Norm H K := by
    constructor
    · intro h c p hc hp
      obtain ⟨i, hi, e1⟩ := q5q.1 (q4f.2 hc)
      obtain ⟨j, hj, e2⟩ := q5q.1 (q4f.2 hp)
      exact h i hi c e1 j hj p e2
    · intro h i hi x ex j hj y ey
      exact h x y (q4f.1 (ex ▸ qxv hi)) (q4f.1 (ey ▸ qxv hj))
  by_cases h : Norm H K
  · rw [if_pos (hiff.2 h)] at outer
    rw [decide_eq_true h]
    simp (disch := first | assumption | omega) only [zA, zB, zC, zD, zE, zF, zG, qxu, qxo, qxp, zH, zI, dpos, dneg, zJ, zK, zL, zM, zN, zO, zP, qft, e0, el, q5u, es, outer]
  · rw [if_neg (fun h2 => h (hiff.1 h2))] at outer
    rw [decide_eq_false h]
    simp (disch := first | assumption | omega) only [zA, zB, zC, zD, zE, zF, zG, qxu, qxo, qxp, zH, zI, dpos, dneg, zJ, zK, zL, zM, zN, zO, zP, qft, e0, el, q5u, es, outer]
theorem q5x (hn : Fu n) {m : KS} {H : Pm k hk → Prop} (h : KSet hk m H) (x : Pm k hk) : qfx n x.1 (some m) = some (!decide (H x), ()) := by
  have e := h.look x
  by_cases c : H x
  · rw [decide_eq_true c] at e ⊢
    simp (disch := first | assumption | omega) only [zA, zB, zC, zD, zE, zF, zG, qxu, qxo, qxp, zH, zI, dpos, dneg, zJ, zK, zL, zM, zN, zO, zP, qfx, q5k hn x, e]
  · rw [decide_eq_false c] at e ⊢
    simp (disch := first | assumption | omega) only [zA, zB, zC, zD, zE, zF, zG, qxu, qxo, qxp, zH, zI, dpos, dneg, zJ, zK, zL, zM, zN, zO, zP, qfx, q5k hn x, e]
theorem q5y (hn : Fu n) {m : KS} {H K : Pm k hk → Prop} (h : KSet hk m H) : qf1 n (can K) (some m, ()) = some (!decide (∀ x, K x → H x), ()) := by
  have hl := q4i (H := K)
  rcases qxi (f := qfz n) hn (fun i => (can K, (some m, ()), ((can K).length : Int), (i : Int), ())) (can K).length (fun i => ∀ x : Pm k hk, row (can K) i = x.1 → H x) (d := (can K, (some m, ()), ((can K).length : Int), 0, ())) (r := .inr (.inl ())) (r' := fun i => .inl ((i : Int), ())) (by omega) rfl (fun i hi _ hp => by
      obtain ⟨x, ex, hx⟩ := q48 (hk := hk) (q4g (H := K)) hi
      have e := q5x hn h x
      rw [decide_eq_true (hp x ex)] at e
      simp (disch := first | assumption | omega) only [zA, zB, zC, zD, zE, zF, zG, qxu, qxo, qxp, zH, zI, dpos, dneg, zJ, zK, zL, zM, zN, zO, zP, qfz, qfy, qxw, ex, e, up1]) (fun i hi _ hp => by
      obtain ⟨x, ex, hx⟩ := q48 (hk := hk) (q4g (H := K)) hi
      have e := q5x hn h x
      rw [decide_eq_false (fun h2 => hp (fun z hz => by
        have : z = x := Pm.ext (hz.symm.trans ex)
        rw [this]; exact h2))] at e
      simp (disch := first | assumption | omega) only [zA, zB, zC, zD, zE, zF, zG, qxu, qxo, qxp, zH, zI, dpos, dneg, zJ, zK, zL, zM, zN, zO, zP, qfz, qfy, qxw, ex, e, up1]) (fun _ => by
      simp (disch := first | assumption | omega) only [zA, zB, zC, zD, zE, zF, zG, qxu, qxo, qxp, zH, zI, dpos, dneg, zJ, zK, zL, zM, zN, zO, zP, qfz, qfy]) with ⟨ha, e⟩ | ⟨i, hi, _, hp, e⟩
  · have : ∀ x, K x → H x := fun x hx => by
      obtain ⟨i, hi, e⟩ := q5q.1 (q4f.2 hx)
      exact ha i hi x e
    rw [decide_eq_true this]
    have z : ¬ (0 : Int) ≤ -1 := by decide
    simp (disch := first | assumption | omega) only [zA, zB, zC, zD, zE, zF, zG, qxu, qxo, qxp, zH, zI, dpos, dneg, zJ, zK, zL, zM, zN, zO, zP, qf1, qf0, e, z]
  · rw [decide_eq_false (fun h2 => hp (fun x ex => h2 x (q4f.1 (ex ▸ qxv hi))))]
    simp (disch := first | assumption | omega) only [zA, zB, zC, zD, zE, zF, zG, qxu, qxo, qxp, zH, zI, dpos, dneg, zJ, zK, zL, zM, zN, zO, zP, qf1, qf0, e]
theorem q5z (hn : Fw n) {H K : Pm k hk → Prop} (hH : Sub H) (hK : Sub K) : qf6 n (can H) (can K) = some (if ∀ x, K x → H x then (decide (Norm H K), 0, ()) else (false, 2, ())) := by
  have hl := q4i (H := H)
  have hl' := q4i (H := K)
  have e0 : idx (can H) 0 = some (row (can H) 0) := qxw (u := 0) (q5b hH)
  have e1 : idx (can K) 0 = some (row (can K) 0) := qxw (u := 0) (q5b hK)
  have hll : (row (can H) 0).length = (row (can K) 0).length := by rw [q5c hH, q5c hK]
  obtain ⟨m1, s1, h1⟩ := q5j (hk := hk) hn.fu (l := can H) (by omega) q4g
  obtain ⟨m2, s2, h2⟩ := q5j (hk := hk) hn.fu (l := can K) (by omega) q4g
  have h1 : KSet hk m1 H := ⟨h1.1, fun x => (h1.2 x).trans q4k⟩
  have h2 : KSet hk m2 K := ⟨h2.1, fun x => (h2.2 x).trans q4k⟩
  have ec := q5y hn.fu (K := K) h1
  by_cases c : ∀ x, K x → H x
  · rw [if_pos c]
    rw [decide_eq_true c] at ec
    obtain ⟨G, f1, q1, q2, q3, q4, q5⟩ := q5l hn hH
    obtain ⟨G', f1', q1', q2', q3', q4', q5'⟩ := q5l hn hK
    have inner : ∀ (x : Pm k hk) (a : List (List Int)) (b d : Int), iterN (qf3 n) n (can K, some m2, x.1, a, b, d, G', (G'.length : Int), 0, ()) = some (if ∀ j, j < G'.length → ∀ y : Pm k hk, row G' j = y.1 → K (cj x y) then .inr (.inl (can K, some m2, a, b, d, ())) else .inl (false, 0, ())) := by
      intro x a b d
      refine (qxh (f := qf3 n) hn.fu (fun j => (can K, some m2, x.1, a, b, d, G', (G'.length : Int), (j : Int), ())) G'.length (fun j => ∀ y : Pm k hk, row G' j = y.1 → K (cj x y)) (r := .inr (.inl (can K, some m2, a, b, d, ()))) (r' := .inl (false, 0, ())) (by omega) rfl (fun j hj _ hp => ?_) (fun j hj _ hp => ?_) (fun _ => ?_)).trans (by congr)
      · obtain ⟨y, ey, hy⟩ := q48 (hk := hk) q1' hj
        have ec := q46 hn.fu y x
        have el := h2.look (cj x y)
        rw [decide_eq_true (hp y ey)] at el
        simp (disch := first | assumption | omega) only [zA, zB, zC, zD, zE, zF, zG, qxu, qxo, qxp, zH, zI, dpos, dneg, zJ, zK, zL, zM, zN, zO, zP, qf3, qf2, qxw, ey, ec, q5k hn.fu, el, up1]
      · obtain ⟨y, ey, hy⟩ := q48 (hk := hk) q1' hj
        have ec := q46 hn.fu y x
        have el := h2.look (cj x y)
        rw [decide_eq_false (fun h => hp (fun z hz => by
          have : z = y := Pm.ext (hz.symm.trans ey)
          rw [this]; exact h))] at el
        simp (disch := first | assumption | omega) only [zA, zB, zC, zD, zE, zF, zG, qxu, qxo, qxp, zH, zI, dpos, dneg, zJ, zK, zL, zM, zN, zO, zP, qf3, qf2, qxw, ey, ec, q5k hn.fu, el, up1]
      · simp (disch := first | assumption | omega) only [zA, zB, zC, zD, zE, zF, zG, qxu, qxo, qxp, zH, zI, dpos, dneg, zJ, zK, zL, zM, zN, zO, zP, qf3, qf2]
    have outer : iterN (qf5 n) n (can K, some m2, G, (G.length : Int), 0, ()) = some (if ∀ i, i < G.length → ∀ x : Pm k hk, row G i = x.1 → ∀ j, j < G'.length → ∀ y : Pm k hk, row G' j = y.1 → K (cj x y) then .inr (.inl ()) else .inl (false, 0, ())) := by
      refine (qxh (f := qf5 n) hn.fu (fun i => (can K, some m2, G, (G.length : Int), (i : Int), ())) G.length (fun i => ∀ x : Pm k hk, row G i = x.1 → ∀ j, j < G'.length → ∀ y : Pm k hk, row G' j = y.1 → K (cj x y)) (d := (can K, some m2, G, (G.length : Int), 0, ())) (r := .inr (.inl ())) (r' := .inl (false, 0, ())) (by omega) rfl (fun i hi _ hp => ?_) (fun i hi _ hp => ?_) (fun _ => ?_)).trans (by congr)
      · obtain ⟨x, ex, hx⟩ := q48 (hk := hk) q1 hi
        have e := inner x G (G.length : Int) (i : Int)
        rw [if_pos (hp x ex)] at e
        simp (disch := first | assumption | omega) only [zA, zB, zC, zD, zE, zF, zG, qxu, qxo, qxp, zH, zI, dpos, dneg, zJ, zK, zL, zM, zN, zO, zP, qf5, qf4, qxw, ex, f1', e, up1]
      · obtain ⟨x, ex, hx⟩ := q48 (hk := hk) q1 hi
        have e := inner x G (G.length : Int) (i : Int)
        rw [if_neg (fun h => hp (fun z hz => by
          have : z = x := Pm.ext (hz.symm.trans ex)
          rw [this]; exact h))] at e
        simp (disch := first | assumption | omega) only [zA, zB, zC, zD, zE, zF, zG, qxu, qxo, qxp, zH, zI, dpos, dneg, zJ, zK, zL, zM, zN, zO, zP, qf5, qf4, qxw, ex, f1', e]
      · simp (disch := first | assumption | omega) only [zA, zB, zC, zD, zE, zF, zG, qxu, qxo, qxp, zH, zI, dpos, dneg, zJ, zK, zL, zM, zN, zO, zP, qf5, qf4]
    have hiff : (∀ i, i < G.length → ∀ x : Pm k hk, row G i = x.1 → ∀ j, j < G'.length → ∀ y : Pm k hk, row G' j = y.1 → K (cj x y)) ↔ Norm H K := by
      constructor
      · intro h
        have := q0m (S := dn G) (T := dn G') (N := K) hK (fun p hp => (q2' p).2 hp) (fun c p hc hp => by
          obtain ⟨i, hi, e1⟩ := q5q.1 hc
          obtain ⟨j, hj, e2⟩ := q5q.1 hp
          exact h i hi c e1 j hj p e2)
        exact fun c p hc hp => this c p ((q2 c).2 hc) hp
      · intro h i hi x ex j hj y ey
        exact h x y (q3 x (show x.1 ∈ G from ex ▸ qxv hi)) (q3' y (show y.1 ∈ G' from ey ▸ qxv hj))
    by_cases c2 : Norm H K
    · rw [if_pos (hiff.2 c2)] at outer
      rw [decide_eq_true c2]
      simp (disch := first | assumption | omega) only [zA, zB, zC, zD, zE, zF, zG, qxu, qxo, qxp, zH, zI, dpos, dneg, zJ, zK, zL, zM, zN, zO, zP, qf6, q5h hn hH, q5h hn hK, q5v, s1, s2, e0, e1, hll, ec, f1, outer]
    · rw [if_neg (fun h => c2 (hiff.1 h))] at outer
      rw [decide_eq_false c2]
      simp (disch := first | assumption | omega) only [zA, zB, zC, zD, zE, zF, zG, qxu, qxo, qxp, zH, zI, dpos, dneg, zJ, zK, zL, zM, zN, zO, zP, qf6, q5h hn hH, q5h hn hK, q5v, s1, s2, e0, e1, hll, ec, f1, outer]
  · rw [if_neg c]
    rw [decide_eq_false c] at ec
    simp (disch := first | assumption | omega) only [zA, zB, zC, zD, zE, zF, zG, qxu, qxo, qxp, zH, zI, dpos, dneg, zJ, zK, zL, zM, zN, zO, zP, qf6, q5h hn hH, q5h hn hK, q5v, s1, s2, e0, e1, hll, ec]
theorem q50 (hn : Fw n) {k' : Nat} {hk' : 1 ≤ k' ∧ k' ≤ 7} {H : Pm k hk → Prop} {K : Pm k' hk' → Prop} (hH : Sub H) (hK : Sub K) (hne : k ≠ k') : qf6 n (can H) (can K) = some (false, 2, ()) := by
  have hl := q4i (H := H)
  have hl' := q4i (H := K)
  have e0 : idx (can H) 0 = some (row (can H) 0) := qxw (u := 0) (q5b hH)
  have e1 : idx (can K) 0 = some (row (can K) 0) := qxw (u := 0) (q5b hK)
  have hll : ¬ (row (can H) 0).length = (row (can K) 0).length := by rw [q5c hH, q5c hK]; exact hne
  obtain ⟨m1, s1, h1⟩ := q5j (hk := hk) hn.fu (l := can H) (by omega) q4g
  obtain ⟨m2, s2, h2⟩ := q5j (hk := hk') hn.fu (l := can K) (by omega) q4g
  simp (disch := first | assumption | omega) only [zA, zB, zC, zD, zE, zF, zG, qxu, qxo, qxp, zH, zI, dpos, dneg, zJ, zK, zL, zM, zN, zO, zP, qf6, q5h hn hH, q5h hn hK, q5v, s1, s2, e0, e1]
theorem q51 (hn : Fw n) (gens subs : List (List Int)) (al : qfb n = some (true, ())) : qf7 n gens subs = some (true, ()) := by
  obtain ⟨l, b, e, hb⟩ := q5m hn.fu gens
  obtain ⟨l', b', e', hb'⟩ := q5m hn.fu subs
  cases b with
  | false => simp (disch := first | assumption | omega) only [zA, zB, zC, zD, zE, zF, zG, qxu, qxo, qxp, zH, zI, dpos, dneg, zJ, zK, zL, zM, zN, zO, zP, qf7, e, e', al]
  | true => cases b' with
    | false => simp (disch := first | assumption | omega) only [zA, zB, zC, zD, zE, zF, zG, qxu, qxo, qxp, zH, zI, dpos, dneg, zJ, zK, zL, zM, zN, zO, zP, qf7, e, e', al]
    | true =>
      obtain ⟨hv, _, hc⟩ := hb rfl
      obtain ⟨hv', _, hc'⟩ := hb' rfl
      obtain ⟨k, hk, hG⟩ := hv.pk
      obtain ⟨k', hk', hG'⟩ := hv'.pk
      obtain ⟨rfl, _⟩ := hc k hk hG
      obtain ⟨rfl, _⟩ := hc' k' hk' hG'
      have hH := Cl.sub (dn (hk := hk) gens)
      have hK := Cl.sub (dn (hk := hk') subs)
      generalize Cl (dn (hk := hk) gens) = H at *
      generalize Cl (dn (hk := hk') subs) = K at *
      have w := q5t hn.fu hH hK
      by_cases ek : k = k'
      · subst ek
        have hi : (∀ p ∈ can K, p ∈ can H) ↔ ∀ x, K x → H x := ⟨fun h x hx => q4f.1 (h x.1 (q4f.2 hx)), fun h p hp => by
          obtain ⟨hp, hx⟩ := q4e.1 hp
          exact q4e.2 ⟨hp, h _ hx⟩⟩
        have o := q5z hn hH hK
        by_cases c : ∀ x, K x → H x
        · rw [if_pos c] at o
          rw [decide_eq_true (hi.2 c)] at w
          have eb : (decide (Norm H K) == decide (Norm H K)) = true := beq_self_eq_true _
          have r := q5w hn.fu hH hK
          simp (disch := first | assumption | omega) only [zA, zB, zC, zD, zE, zF, zG, qxu, qxo, qxp, zH, zI, dpos, dneg, zJ, zK, zL, zM, zN, zO, zP, qf7, e, e', w, r, o, al]
        · rw [if_neg c] at o
          rw [decide_eq_false (fun h => c (hi.1 h))] at w
          simp (disch := first | assumption | omega) only [zA, zB, zC, zD, zE, zF, zG, qxu, qxo, qxp, zH, zI, dpos, dneg, zJ, zK, zL, zM, zN, zO, zP, qf7, e, e', w, o, al]
      · have : ¬ ∀ p ∈ can K, p ∈ can H := fun h => ek ((q4g _ (h _ (qxv (q5b hK)))).uniq (q4g _ (qxv (q5b hK))))
        rw [decide_eq_false this] at w
        have o := q50 hn hH hK ek
        simp (disch := first | assumption | omega) only [zA, zB, zC, zD, zE, zF, zG, qxu, qxo, qxp, zH, zI, dpos, dneg, zJ, zK, zL, zM, zN, zO, zP, qf7, e, e', w, o, al]
theorem q52 (a b : List (List Int)) : ∃ n, qf7 n a b = some (true, ()) := q5n fun n hn => q51 hn a b (qx6 hn.fu)
def Drn : Nat → (Pm k hk → Prop) → Pm k hk → Prop
  | 0, H => H
  | m + 1, H => Drn m (Dr H)
theorem Drn.mono : ∀ {m : Nat} {H K : Pm k hk → Prop}, (∀ x, K x → H x) → ∀ x, Drn m K x → Drn m H x
  | 0, _, _, h => h
  | m + 1, _, _, h => Drn.mono (m := m) (fun x hx => Dr.mono h hx)
end Go.Proofs.Ytemejeiajekmcaa.V
