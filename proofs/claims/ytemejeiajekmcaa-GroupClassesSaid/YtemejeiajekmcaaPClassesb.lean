/- The law over the models, part 2. -/
import Derived.Test.YtemejeiajekmcaaPClassesa
namespace Go.Proofs.Ytemejeiajekmcaa.V
open Go Classical Grp
set_option linter.unusedVariables false
set_option linter.all false
variable {n : Nat} {k : Nat} {hk : 1 ≤ k ∧ k ≤ 7}
noncomputable def invTo (p : List Int) (i : Nat) : List Int := tab p.length (fun v => if p.idxOf (v : Int) < i then ((p.idxOf (v : Int) : Nat) : Int) else 0)
theorem q5d (p : List Int) : List.replicate p.length (0 : Int) = invTo p 0 := by
  rw [qyb]; exact qya (fun j hj => (if_neg (by omega)).symm)
theorem q5e {p : List Int} (hp : PK k p) {i v : Nat} (hi : i < k) (h : rd p (i : Int) = (v : Int)) : p.idxOf (v : Int) = i := by
  have hm : (v : Int) ∈ p := by rw [← h, qz9 (by rw [hp.2]; exact hi)]; exact List.getElem_mem _
  have h1 := q4l hm
  exact hp.1.inj h1.1 (by rw [hp.2]; exact hi) (by rw [h1.2, h])
theorem q5f {p : List Int} (hp : PK k p) {i v : Nat} (hi : i < k) (h : rd p (i : Int) = (v : Int)) : (invTo p i).set v (i : Int) = invTo p (i + 1) := by
  have e := q5e hp hi h
  unfold invTo
  rw [qx9]
  refine qya (fun j hj => ?_)
  by_cases c : j = v
  · subst c; rw [if_pos rfl, e, if_pos (by omega)]
  · rw [if_neg c]
    have : p.idxOf (j : Int) ≠ i := fun e2 => by
      have := (q4l (hp.memI (i := j) (by rw [← hp.2]; exact hj))).2
      rw [e2, h] at this; omega
    congr 1; apply propext; omega
theorem q5g {p : List Int} (hp : PK k p) : invTo p p.length = invP p :=
  qya (fun j hj => if_pos (q4l (hp.memI (i := j) (by rw [← hp.2]; exact hj))).1)
theorem q5h (hn : Fu n) {p : List Int} (hp : PK k p) : qep n p = some (invP p, ()) := by
  have h7 := hp.bd
  have hl := hp.2
  have g : iterN (qeo n) n (p, (p.length : Int), 0, List.replicate p.length 0, ()) = some (.inl (invP p, ())) := by
    refine qxo hn (fun i => (p, (p.length : Int), (i : Int), invTo p i, ())) p.length (by omega) (by rw [q5d]; rfl) (fun i hi => ?_) ?_
    · obtain ⟨v, hv, e⟩ := hp.at (i := i) (by omega)
      have es := q5f hp (by omega) e
      have ei : idx (invTo p i) (v : Int) = some (if p.idxOf (v : Int) < i then ((p.idxOf (v : Int) : Nat) : Int) else 0) := qyd (by omega)
      simp (disch := first | assumption | omega) only [zA, zB, zC, zD, zE, zF, zG, qx2, qxw, qxx, zH, zI, dpos, dneg, zJ, zK, zL, zM, zN, zO, zP, qeo, qen, qx5, e, ei, es, up1]
    · simp (disch := first | assumption | omega) only [zA, zB, zC, zD, zE, zF, zG, qx2, qxw, qxx, zH, zI, dpos, dneg, zJ, zK, zL, zM, zN, zO, zP, qeo, qen, q5g hp]
  simp (disch := first | assumption | omega) only [zA, zB, zC, zD, zE, zF, zG, qx2, qxw, qxx, zH, zI, dpos, dneg, zJ, zK, zL, zM, zN, zO, zP, qep, g]
theorem q5i (hn : Fu n) {p : List Int} (hp : PK k p) : qfj n p = some (invP p, ()) := by
  have h7 := hp.bd
  have hl := hp.2
  have g : iterN (qfi n) n (p, 0, List.replicate p.length 0, ()) = some (.inl (invP p, ())) := by
    refine qxo hn (fun i => (p, (i : Int), invTo p i, ())) p.length (by omega) (by rw [q5d]; rfl) (fun i hi => ?_) ?_
    · obtain ⟨v, hv, e⟩ := hp.at (i := i) (by omega)
      have es := q5f hp (by omega) e
      have ei : idx (invTo p i) (v : Int) = some (if p.idxOf (v : Int) < i then ((p.idxOf (v : Int) : Nat) : Int) else 0) := qyd (by omega)
      simp (disch := first | assumption | omega) only [zA, zB, zC, zD, zE, zF, zG, qx2, qxw, qxx, zH, zI, dpos, dneg, zJ, zK, zL, zM, zN, zO, zP, qfi, qfh, qx5, e, ei, es, up1]
    · simp (disch := first | assumption | omega) only [zA, zB, zC, zD, zE, zF, zG, qx2, qxw, qxx, zH, zI, dpos, dneg, zJ, zK, zL, zM, zN, zO, zP, qfi, qfh, q5g hp]
  simp (disch := first | assumption | omega) only [zA, zB, zC, zD, zE, zF, zG, qx2, qxw, qxx, zH, zI, dpos, dneg, zJ, zK, zL, zM, zN, zO, zP, qfj, g]
theorem q5j (hn : Fu n) (x : Pm k hk) : qep n x.1 = some ((x⁻¹).1, ()) := q5h hn x.2
theorem q5k (hn : Fu n) (x : Pm k hk) : qfj n x.1 = some ((x⁻¹).1, ()) := q5i hn x.2
theorem q5l (hn : Fu n) (p c : Pm k hk) : qer n p.1 c.1 = some ((cj c p).1, ()) := by
  simp only [qer, q5j hn, q40 hn, Option.bind_some]; rfl
theorem q5m (hn : Fu n) (x : Pm k hk) : qas n x.1 = some ((rank x.1 : Int), ()) := q38 hn (by have := x.2.2; omega)
theorem q5n {l : List (List Int)} (h : ∀ p ∈ l, PK k p) {i : Nat} (hi : i < l.length) : ∃ x : Pm k hk, row l i = x.1 ∧ dn l x := ⟨⟨row l i, h _ (qx3 hi)⟩, rfl, qx3 hi⟩
theorem q5o {l : List (List Int)} {i : Nat} (hi : i < l.length) {x : Pm k hk} (hx : row l i = x.1) (y : Pm k hk) : dn (l.take (i + 1)) y ↔ dn (l.take i) y ∨ y = x := by
  have e : l[i]?.toList = [x.1] := by rw [← hx]; unfold row; rw [List.getD_eq_getElem?_getD, List.getElem?_eq_getElem hi]; rfl
  show y.1 ∈ l.take (i + 1) ↔ y.1 ∈ l.take i ∨ _
  rw [List.take_add_one, List.mem_append, e, List.mem_singleton]
  exact or_congr Iff.rfl ⟨fun h => Pm.ext h, fun h => by rw [h]⟩
theorem q5p {l : List (List Int)} (y : Pm k hk) : ¬ dn (l.take 0) y := fun h => by unfold dn at h; simp at h
def IsGrp (l : List (List Int)) : Prop := ∃ (k : Nat) (hk : 1 ≤ k ∧ k ≤ 7) (H : Pm k hk → Prop), Sub H ∧ l = can H
theorem q5q {H : Pm k hk → Prop} (hH : Sub H) : 0 < (can H).length := List.length_pos_of_mem (q4t.2 hH.one)
theorem q5r {H : Pm k hk → Prop} (hH : Sub H) : (row (can H) 0).length = k := (q4u _ (qx3 (q5q hH))).2
theorem Cl.can {H : Pm k hk → Prop} (hH : Sub H) (x : Pm k hk) : Cl (dn (Go.Proofs.Ytemejeiajekmcaa.V.can H)) x ↔ H x := by
  have : (dn (Go.Proofs.Ytemejeiajekmcaa.V.can H) : Pm k hk → Prop) = H := funext fun x => propext q4y
  rw [this]; exact Cl.self hH
theorem q5s {H : Pm k hk → Prop} (hH : Sub H) : GV (can H) := by
  refine ⟨q5q hH, q4w, fun i hi => ?_⟩
  have h0 := q4u _ (qx3 (q5q hH))
  have h1 := q4u _ (qx3 hi)
  exact ⟨h0.1, h1.1, by rw [h0.2, h1.2]⟩
theorem PK.uniq {k k' : Nat} {p : List Int} (h : PK k p) (h' : PK k' p) : k = k' := by rw [← h.2, ← h'.2]
theorem q5t {l : List (List Int)} : Asc l ↔ ∀ i, i < l.length → 0 < i → ltL (row l (i - 1)) (row l i) := by
  have rg : ∀ (i : Nat) (h : i < l.length), row l i = l[i] := fun i h => by unfold row; rw [List.getD_eq_getElem?_getD, List.getElem?_eq_getElem h]; rfl
  constructor
  · intro h i hi h0
    rw [rg i hi, rg (i - 1) (by omega)]
    exact List.pairwise_iff_getElem.1 h (i - 1) i (by omega) hi (by omega)
  · intro h
    refine List.pairwise_iff_getElem.2 (fun i j hi hj hij => ?_)
    rw [← rg i hi, ← rg j hj]
    clear hi
    induction j with
    | zero => omega
    | succ j ih =>
      have := h (j + 1) hj (by omega)
      simp only [Nat.add_sub_cancel] at this
      by_cases e : i = j
      · rw [e]; exact this
      · exact qzp (ih (by omega) (by omega)) this
theorem q5u (hn : Fu n) {l : List (List Int)} (hl : l.length ≤ 1000000000) (hr : ∀ i, i < l.length → (row l i).length ≤ 1000000000) :
    iterN (qed n) n (l, (l.length : Int), 0, ()) = some (if Asc l then .inr (.inl (l, ())) else .inl (false, ())) := by
  refine (qxp (f := qed n) hn (fun i => (l, (l.length : Int), (i : Int), ())) l.length (fun i => 0 < i → ltL (row l (i - 1)) (row l i)) (d := (l, (l.length : Int), 0, ())) (r := .inr (.inl (l, ()))) (r' := .inl (false, ())) (by omega) rfl (fun i hi _ hp => ?_) (fun i hi _ hp => ?_) (fun _ => ?_)).trans (by
      congr 1
      by_cases h : Asc l
      · rw [if_pos h, if_pos (fun i hi h0 => q5t.1 h i hi h0)]
      · rw [if_neg h, if_neg (fun h2 => h (q5t.2 h2))])
  · by_cases c : 0 < i
    · have hc := q3x hn (row l (i - 1)) (row l i) (hr _ (by omega))
      rw [q3s (hp c)] at hc
      have z : ¬ (0 : Int) ≤ -1 := by decide
      simp (disch := first | assumption | omega) only [zA, zB, zC, zD, zE, zF, zG, qx2, qxw, qxx, zH, zI, dpos, dneg, zJ, zK, zL, zM, zN, zO, zP, qed, qec, Srt.dn1, qx4, hc, up1]
    · obtain rfl : i = 0 := by omega
      simp (disch := first | assumption | omega) only [zA, zB, zC, zD, zE, zF, zG, qx2, qxw, qxx, zH, zI, dpos, dneg, zJ, zK, zL, zM, zN, zO, zP, qed, qec, up1]
  · have c : 0 < i := Classical.byContradiction fun h => hp (fun h2 => absurd h2 h)
    have hc := q3x hn (row l (i - 1)) (row l i) (hr _ (by omega))
    have hge : 0 ≤ cmpL (row l (i - 1)) (row l i) := by
      have : ¬ cmpL (row l (i - 1)) (row l i) < 0 := fun h => hp (fun _ => q3v.1 h)
      omega
    simp (disch := first | assumption | omega) only [zA, zB, zC, zD, zE, zF, zG, qx2, qxw, qxx, zH, zI, dpos, dneg, zJ, zK, zL, zM, zN, zO, zP, qed, qec, Srt.dn1, qx4, hc]
  · simp (disch := first | assumption | omega) only [zA, zB, zC, zD, zE, zF, zG, qx2, qxw, qxx, zH, zI, dpos, dneg, zJ, zK, zL, zM, zN, zO, zP, qed, qec]
theorem q5v (hn : Fw n) (l : List (List Int)) : ∃ b, qee n l = some (b, ()) ∧ (b = true ↔ IsGrp l) := by
  have e1 := qyr hn.fu l
  by_cases hv : GV l
  · rw [decide_eq_true hv] at e1
    obtain ⟨k, hk, hG⟩ := hv.pk
    have e2 := q5u hn.fu (l := l) (by have := hv.2.1; omega) (fun i hi => by have := (hG _ (qx3 hi)).2; omega)
    have e3 := q5a (hk := hk) hn hG hv.1 (by have := hv.2.1; omega)
    by_cases ha : Asc l
    · rw [if_pos ha] at e2
      refine ⟨decide (((can (hk := hk) (Cl (dn l))).length : Int) = (l.length : Int)), by simp (disch := first | assumption | omega) only [zA, zB, zC, zD, zE, zF, zG, qx2, qxw, qxx, zH, zI, dpos, dneg, zJ, zK, zL, zM, zN, zO, zP, qee, e1, e2, e3], ?_⟩
      rw [decide_eq_true_eq]
      constructor
      · intro h
        have hp := qzs ha.nodup (L := can (hk := hk) (Cl (dn l))) (fun p hp => q4s.2 ⟨hG p hp, .gen hp⟩) (by omega)
        refine ⟨k, hk, Cl (dn l), Cl.sub _, ha.ext q4v (fun p => hp.mem_iff)⟩
      · rintro ⟨k', hk', H, hH, rfl⟩
        have h0 := qx3 (q5q hH)
        obtain rfl := (hG _ h0).uniq (q4u _ h0)
        rw [q4x (Cl.can hH)]
    · rw [if_neg ha] at e2
      refine ⟨false, by simp (disch := first | assumption | omega) only [zA, zB, zC, zD, zE, zF, zG, qx2, qxw, qxx, zH, zI, dpos, dneg, zJ, zK, zL, zM, zN, zO, zP, qee, e1, e2], (fun h => nomatch h), ?_⟩
      rintro ⟨k', hk', H, hH, rfl⟩
      exact absurd q4v ha
  · rw [decide_eq_false hv] at e1
    refine ⟨false, by simp (disch := first | assumption | omega) only [zA, zB, zC, zD, zE, zF, zG, qx2, qxw, qxx, zH, zI, dpos, dneg, zJ, zK, zL, zM, zN, zO, zP, qee, e1], (fun h => nomatch h), ?_⟩
    rintro ⟨k', hk', H, hH, rfl⟩
    exact absurd (q5s hH) hv
theorem q5w (hn : Fw n) {H : Pm k hk → Prop} (hH : Sub H) : qee n (can H) = some (true, ()) := by
  obtain ⟨b, e, h⟩ := q5v hn (can H)
  rw [h.2 ⟨k, hk, H, hH, rfl⟩] at e
  exact e
theorem q5x (hn : Fw n) {G : List (List Int)} (hG : ∀ g ∈ G, PK k g) (h0 : 0 < G.length) (hGl : G.length ≤ 1000000000) : qej n G = some ((can (hk := hk) (Cl (dn G)), ()), (G, ())) := by
  have hr0 := hG _ (qx3 h0)
  have e0 : idx G 0 = some (row G 0) := qx4 (u := 0) h0
  have eid := qy0 hn.fu k hk.1 hk.2
  obtain ⟨met, e1, h1⟩ := Gw.start hn.fu hk
  obtain ⟨r, e2, met', gens', all', rfl, h2⟩ := qxs (f := qeg n) hn.fu
    (fun d => ∃ (i : Nat) (met : Option KS) (gens all : List (List Int)), d = (((), ((), ((), ()))), (G.length : Int), (i : Int), met, gens, all, G, ()) ∧ i ≤ G.length ∧ Gw hk (dn (G.take i)) met gens all)
    (fun d => ((G.length : Int) - d.2.2.1).toNat)
    (fun r => ∃ met' gens' all', r = .inl (met', gens', all', G, ()) ∧ Gw hk (dn G) met' gens' all')
    (d := (((), ((), ((), ()))), (G.length : Int), 0, met, [], [idP k], G, ()))
    ⟨0, met, [], [idP k], rfl, Nat.zero_le _, by
      have : (dn (G.take 0) : Pm k hk → Prop) = fun _ => False := by funext x; apply propext; exact ⟨fun h => q5p x h, fun h => h.elim⟩
      rw [this]; exact h1⟩ (by simp only; omega) (by
      rintro d ⟨i, met, gens, all, rfl, h1, h2⟩
      by_cases c : i < G.length
      · obtain ⟨x, ex, hx⟩ := q5n (hk := hk) hG c
        obtain ⟨met', gens', all', e, q⟩ := q47 hn.fu h2 x
        refine .inl ⟨(((), ((), ((), ()))), (G.length : Int), ((i + 1 : Nat) : Int), met', gens', all', G, ()), ?_, ⟨i + 1, met', gens', all', rfl, c, ?_⟩, by simp only; omega⟩
        · simp (disch := first | assumption | omega) only [zA, zB, zC, zD, zE, zF, zG, qx2, qxw, qxx, zH, zI, dpos, dneg, zJ, zK, zL, zM, zN, zO, zP, qeg, qef, qx4, ex, e, up1]
        · have : (dn (G.take (i + 1)) : Pm k hk → Prop) = fun y => dn (G.take i) y ∨ y = x := funext fun y => propext (q5o c ex y)
          rw [this]; exact q
      · obtain rfl : i = G.length := by omega
        rw [List.take_length] at h2
        refine .inr ⟨.inl (met, gens, all, G, ()), ?_, met, gens, all, rfl, h2⟩
        simp (disch := first | assumption | omega) only [zA, zB, zC, zD, zE, zF, zG, qx2, qxw, qxx, zH, zI, dpos, dneg, zJ, zK, zL, zM, zN, zO, zP, qeg, qef])
  have e3 := h2.sorted hn
  have el : (((row G 0).length : Nat) : Int) = (k : Int) := by rw [hr0.2]
  simp (disch := first | assumption | omega) only [zA, zB, zC, zD, zE, zF, zG, qx2, qxw, qxx, zH, zI, dpos, dneg, zJ, zK, zL, zM, zN, zO, zP, qej, e0, el, qei, eid, e1, qeh, e2, e3]
def KSet (hk : 1 ≤ k ∧ k ≤ 7) (m : KS) (S : Pm k hk → Prop) : Prop := KOK m ∧ ∀ x : Pm k hk, keyP x.1 ∈ m.map (·.1) ↔ S x
theorem KSet.look {m : KS} {S : Pm k hk → Prop} (h : KSet hk m S) (x : Pm k hk) : (mget (.arr 7 (.int .i8)) m (keyP x.1)).getD false = decide (S x) := by
  rw [qy9 h.1 (qy8 x.1)]
  by_cases c : S x
  · rw [if_pos ((h.2 x).2 c), decide_eq_true c]; rfl
  · rw [if_neg (fun e => c ((h.2 x).1 e)), decide_eq_false c]; rfl
theorem KSet.look_in {m : KS} {S : Pm k hk → Prop} (h : KSet hk m S) {x : Pm k hk} (hx : S x) : (mget (.arr 7 (.int .i8)) m (keyP x.1)).getD false = true := by rw [h.look, decide_eq_true hx]
theorem KSet.look_out {m : KS} {S : Pm k hk → Prop} (h : KSet hk m S) {x : Pm k hk} (hx : ¬ S x) : (mget (.arr 7 (.int .i8)) m (keyP x.1)).getD false = false := by rw [h.look, decide_eq_false hx]
theorem KSet.put {m : KS} {S : Pm k hk → Prop} (h : KSet hk m S) (x : Pm k hk) : KSet hk (mput (.arr 7 (.int .i8)) m (keyP x.1) true) (fun y => S y ∨ y = x) := by
  obtain ⟨g1, g2⟩ := qza h.1 (qy8 x.1)
  refine ⟨g1, fun y => ?_⟩
  rw [g2, h.2]
  exact ⟨fun h => h.elim (fun h => .inr (Pm.ext (qy6 y.2.1 x.2.1 h))) .inl, fun h => h.elim .inr (fun h => .inl (by rw [h]))⟩
theorem KSet.nil : KSet hk [] (fun _ => False) := ⟨(fun x hx => nomatch hx), fun x => ⟨(fun h => nomatch h), fun h => h.elim⟩⟩
theorem q5y (hn : Fu n) {l : List (List Int)} (hl : l.length ≤ 1000000000) (h : ∀ p ∈ l, PK k p) : ∃ m, qby n l = some (some m, ()) ∧ KSet hk m (dn l) := by
  obtain ⟨m, e, h1, h2⟩ := q48 hn hl (fun p hp => (h p hp).1)
  exact ⟨m, e, h1, fun x => h2 x.1 x.2.1⟩
theorem q5z (hn : Fu n) (x : Pm k hk) : qbv n x.1 = some (keyP x.1, ()) := qy3 hn x.2.1
theorem q50 (hn : Fw n) {H : Pm k hk → Prop} (hH : Sub H) : ∃ out, qem n (can H) = some (out, ()) ∧ (∀ p ∈ out, PK k p) ∧ (∀ x : Pm k hk, Cl (dn out) x ↔ H x) ∧ (∀ x : Pm k hk, dn out x → H x) ∧ 0 < out.length ∧ out.length ≤ 5041 := by
  have h0 := q5q hH
  have e0 : idx (can H) 0 = some (row (can H) 0) := qx4 (u := 0) h0
  have el : (((row (can H) 0).length : Nat) : Int) = (k : Int) := by rw [q5r hH]
  have eid := qy0 hn.fu k hk.1 hk.2
  obtain ⟨m0, e1, h1⟩ := q5y (hk := hk) hn.fu (l := [idP k]) (by simp) (fun p hp => by rw [List.mem_singleton] at hp; subst hp; exact (1 : Pm k hk).2)
  have hcl := q4w (H := H)
  obtain ⟨r, e, out, rfl, q1, q2, q3, q4, q5⟩ := qxs (f := qel n) hn.fu
    (fun d => ∃ (i : Nat) (m : KS) (out : List (List Int)), d = (some m, can H, ((can H).length : Int), (i : Int), out, ()) ∧ i ≤ (can H).length ∧ KSet hk m (Cl (dn out)) ∧ (∀ p ∈ out, PK k p) ∧ (∀ x : Pm k hk, dn out x → H x) ∧ 0 < out.length ∧ out.length ≤ i + 1 ∧ ∀ x : Pm k hk, dn ((can H).take i) x → Cl (dn out) x)
    (fun d => (((can H).length : Int) - d.2.2.2.1).toNat)
    (fun r => ∃ out, r = .inl (out, ()) ∧ (∀ p ∈ out, PK k p) ∧ (∀ x : Pm k hk, Cl (dn out) x ↔ H x) ∧ (∀ x : Pm k hk, dn out x → H x) ∧ 0 < out.length ∧ out.length ≤ 5041)
    (d := (some m0, can H, ((can H).length : Int), 0, [idP k], ()))
    ⟨0, m0, [idP k], rfl, Nat.zero_le _, ⟨h1.1, fun x => by
      rw [h1.2]
      constructor
      · intro h; exact .gen h
      · intro h
        have one : ∀ y : Pm k hk, dn [idP k] y ↔ y = 1 := fun y => by
          unfold dn; rw [List.mem_singleton]; exact ⟨fun h => Pm.ext h, fun h => by rw [h]; rfl⟩
        rw [one]
        induction h with
        | one => rfl
        | step _ hq ih => rw [ih, (one _).1 hq, Grp.mul_one]⟩, fun p hp => by rw [List.mem_singleton] at hp; subst hp; exact (1 : Pm k hk).2, fun x hx => by
        have : x = 1 := Pm.ext (List.mem_singleton.1 hx)
        rw [this]; exact hH.one, by simp, by simp, fun x hx => absurd hx (q5p x)⟩ (by simp only; omega) (by
      rintro d ⟨i, m, out, rfl, p1, p2, p3, p4, p5, p6, p7⟩
      by_cases c : i < (can H).length
      · obtain ⟨x, ex, hx⟩ := q5n (hk := hk) q4u c
        have hHx : H x := q4y.1 hx
        have ek := q5z hn.fu x
        have elk := p2.look x
        by_cases c2 : Cl (dn out) x
        · rw [decide_eq_true c2] at elk
          refine .inl ⟨(some m, can H, ((can H).length : Int), ((i + 1 : Nat) : Int), out, ()), ?_, ⟨i + 1, m, out, rfl, c, p2, p3, p4, p5, by omega, fun y hy => ?_⟩, by simp only; omega⟩
          · simp (disch := first | assumption | omega) only [zA, zB, zC, zD, zE, zF, zG, qx2, qxw, qxx, zH, zI, dpos, dneg, zJ, zK, zL, zM, zN, zO, zP, qel, qek, qx4, ex, ek, elk, up1]
          · rcases (q5o c ex y).1 hy with h | rfl
            · exact p7 y h
            · exact c2
        · rw [decide_eq_false c2] at elk
          have hP : ∀ p ∈ out ++ [x.1], PK k p := fun p hp => by
            rw [List.mem_append, List.mem_singleton] at hp
            rcases hp with hp | rfl
            · exact p3 p hp
            · exact x.2
          have hlen : (out ++ [x.1]).length = out.length + 1 := by simp
          have ec := q5x (hk := hk) hn hP (by omega) (by omega)
          obtain ⟨m', em, hm⟩ := q5y (hk := hk) hn.fu (l := can (hk := hk) (Cl (dn (out ++ [x.1])))) (by have := q4w (H := Cl (dn (hk := hk) (out ++ [x.1]))); omega) q4u
          have hl1 : ([x.1] : List (List Int)).length = 1 := rfl
          refine .inl ⟨(some m', can H, ((can H).length : Int), ((i + 1 : Nat) : Int), out ++ [x.1], ()), ?_, ⟨i + 1, m', out ++ [x.1], rfl, c, ⟨hm.1, fun y => by rw [hm.2, q4y]⟩, hP, fun y hy => ?_, by omega, by omega, fun y hy => ?_⟩, by simp only; omega⟩
          · simp (disch := first | assumption | omega) only [zA, zB, zC, zD, zE, zF, zG, qx2, qxw, qxx, zH, zI, dpos, dneg, zJ, zK, zL, zM, zN, zO, zP, qel, qek, qx4, ex, ek, elk, ec, em, up1]
          · have hy : y.1 ∈ out ++ [x.1] := hy
            rw [List.mem_append, List.mem_singleton] at hy
            rcases hy with hy | hy
            · exact p4 y hy
            · rw [Pm.ext hy]; exact hHx
          · rcases (q5o c ex y).1 hy with h | rfl
            · exact (p7 y h).mono (fun z hz => .gen (List.mem_append_left _ hz))
            · exact .gen (show y.1 ∈ out ++ [y.1] by simp)
      · obtain rfl : i = (can H).length := by omega
        rw [List.take_length] at p7
        refine .inr ⟨.inl (out, ()), ?_, out, rfl, p3, fun x => ⟨fun h => h.le hH p4, fun h => p7 x (q4y.2 h)⟩, p4, p5, by omega⟩
        simp (disch := first | assumption | omega) only [zA, zB, zC, zD, zE, zF, zG, qx2, qxw, qxx, zH, zI, dpos, dneg, zJ, zK, zL, zM, zN, zO, zP, qel, qek])
  refine ⟨out, ?_, q1, q2, q3, q4, q5⟩
  simp (disch := first | assumption | omega) only [zA, zB, zC, zD, zE, zF, zG, qx2, qxw, qxx, zH, zI, dpos, dneg, zJ, zK, zL, zM, zN, zO, zP, qem, e0, el, eid, e1, e]
end Go.Proofs.Ytemejeiajekmcaa.V
namespace Go.Proofs.Ytemejeiajekmcaa.V
open Go Classical Grp
set_option linter.unusedVariables false
set_option linter.all false
variable {n : Nat} {k : Nat} {hk : 1 ≤ k ∧ k ≤ 7}
theorem q51 (hn : Fu n) (H : Pm k hk → Prop) : qea n (can H) = some (can H, ()) :=
  qzd hn _ (by have := q4w (H := H); omega) q5b
theorem q52 (hn : Fu n) (X : List (List (List Int))) (hl : X.length ≤ 1000000000) (h : ∀ l ∈ X, qfa n l l = some (true, ())) : qga n X X = some (true, ()) := by
  have g : iterN (qf9 n) n (X, X, 0, ()) = some (.inr (.inl ())) := by
    refine qxo hn (fun i => (X, X, (i : Int), ())) X.length (by omega) rfl (fun i hi => ?_) ?_
    · have ei : idx X (i : Int) = some (X.getD i []) := qxu [] hi
      have hm : X.getD i [] ∈ X := by rw [List.getD_eq_getElem?_getD, List.getElem?_eq_getElem hi]; exact List.getElem_mem hi
      have e := h _ hm
      simp (disch := first | assumption | omega) only [zA, zB, zC, zD, zE, zF, zG, qx2, qxw, qxx, zH, zI, dpos, dneg, zJ, zK, zL, zM, zN, zO, zP, qf9, qf8, ei, e, up1]
    · simp (disch := first | assumption | omega) only [zA, zB, zC, zD, zE, zF, zG, qx2, qxw, qxx, zH, zI, dpos, dneg, zJ, zK, zL, zM, zN, zO, zP, qf9, qf8]
  simp (disch := first | assumption | omega) only [zA, zB, zC, zD, zE, zF, zG, qx2, qxw, qxx, zH, zI, dpos, dneg, zJ, zK, zL, zM, zN, zO, zP, qga, g]
theorem q53 (hn : Fu n) (gens : List (List Int)) : ∃ l b, qbd n gens = some (l, (b, ())) ∧ (b = true → GV gens ∧ gens.length ≤ 30 ∧ ∀ (k : Nat) (hk : 1 ≤ k ∧ k ≤ 7), (∀ g ∈ gens, PK k g) → l = can (hk := hk) (Cl (dn gens)) ∧ l.length ≤ 360) := by
  have f := qys hn gens 30 (by decide)
  by_cases h0 : (gens.length : Int) ≤ 30 ∧ ∀ i, i < gens.length → (row gens i).length ≤ 100
  · rw [decide_eq_true h0] at f
    have g := qyo hn gens
    by_cases h1 : GV gens
    · rw [decide_eq_true h1] at g
      obtain ⟨k, hk, hG⟩ := h1.pk
      have e := q46 (hk := hk) hn hG h1.1 (by have := h1.2.1; omega)
      refine ⟨can (hk := hk) (Cl (dn gens)), decide (((can (hk := hk) (Cl (dn gens))).length : Int) ≤ 360), by simp (disch := first | assumption | omega) only [zA, zB, zC, zD, zE, zF, zG, qx2, qxw, qxx, zH, zI, dpos, dneg, zJ, zK, zL, zM, zN, zO, zP, qbd, f, g, e], fun hb => ⟨h1, by omega, fun k' hk' hG' => ?_⟩⟩
      rw [decide_eq_true_eq] at hb
      have hr := qx3 h1.1
      obtain rfl := (hG _ hr).uniq (hG' _ hr)
      exact ⟨rfl, by omega⟩
    · rw [decide_eq_false h1] at g
      exact ⟨[], false, by simp (disch := first | assumption | omega) only [zA, zB, zC, zD, zE, zF, zG, qx2, qxw, qxx, zH, zI, dpos, dneg, zJ, zK, zL, zM, zN, zO, zP, qbd, f, g], fun h => nomatch h⟩
  · rw [decide_eq_false h0] at f
    exact ⟨[], false, by simp (disch := first | assumption | omega) only [zA, zB, zC, zD, zE, zF, zG, qx2, qxw, qxx, zH, zI, dpos, dneg, zJ, zK, zL, zM, zN, zO, zP, qbd, f], fun h => nomatch h⟩
theorem q54 {P : Nat → Prop} (h : ∀ n, Fw n → P n) : ∃ n, P n := ⟨_, h (1180591620717411303424 + 1099511627776) (Nat.le_refl _)⟩
end Go.Proofs.Ytemejeiajekmcaa.V
namespace Go.Proofs.Ytemejeiajekmcaa.V
open Go Classical Grp
set_option linter.unusedVariables false
set_option linter.all false
variable {n : Nat} {k : Nat} {hk : 1 ≤ k ∧ k ≤ 7}
theorem q55 (hn : Fu n) (c p : Pm k hk) : qfk n c.1 p.1 = some ((cj c p).1, ()) := by
  simp only [qfk, q5k hn, q41 hn, Option.bind_some]; rfl
theorem q56 (hn : Fu n) (p q : List Int) (hp : p.length ≤ 1000000000) : qe7 n p q = some (decide (p = q), ()) := by
  by_cases hl : p.length = q.length
  · have g : iterN (qe6 n) n (p, q, 0, ()) = some (if ∀ i, i < p.length → rd p (i : Int) = rd q (i : Int) then .inr (.inl ()) else .inl (false, ())) := by
      refine (qxp (f := qe6 n) hn (fun i => (p, q, (i : Int), ())) p.length (fun i => rd p (i : Int) = rd q (i : Int)) (d := (p, q, 0, ())) (r := .inr (.inl ())) (r' := .inl (false, ())) (by omega) rfl (fun i hi _ hp => ?_) (fun i hi _ hp => ?_) (fun _ => ?_)).trans (by congr)
      · simp (disch := first | assumption | omega) only [zA, zB, zC, zD, zE, zF, zG, qx2, qxw, qxx, zH, zI, dpos, dneg, zJ, zK, zL, zM, zN, zO, zP, qe6, qe5, qx5, hp, up1]
      · simp (disch := first | assumption | omega) only [zA, zB, zC, zD, zE, zF, zG, qx2, qxw, qxx, zH, zI, dpos, dneg, zJ, zK, zL, zM, zN, zO, zP, qe6, qe5, qx5, up1]
      · simp (disch := first | assumption | omega) only [zA, zB, zC, zD, zE, zF, zG, qx2, qxw, qxx, zH, zI, dpos, dneg, zJ, zK, zL, zM, zN, zO, zP, qe6, qe5]
    by_cases e : p = q
    · rw [if_pos (fun i hi => by rw [e])] at g
      subst e
      simp (disch := first | assumption | omega) only [zA, zB, zC, zD, zE, zF, zG, qx2, qxw, qxx, zH, zI, dpos, dneg, zJ, zK, zL, zM, zN, zO, zP, qe7, g]
    · rw [if_neg (fun h => e (q3q hl h))] at g
      rw [decide_eq_false e]
      simp (disch := first | assumption | omega) only [zA, zB, zC, zD, zE, zF, zG, qx2, qxw, qxx, zH, zI, dpos, dneg, zJ, zK, zL, zM, zN, zO, zP, qe7, g]
  · rw [decide_eq_false (fun e => hl (by rw [e]))]
    simp (disch := first | assumption | omega) only [zA, zB, zC, zD, zE, zF, zG, qx2, qxw, qxx, zH, zI, dpos, dneg, zJ, zK, zL, zM, zN, zO, zP, qe7]
theorem q57 (hn : Fu n) (p q : List Int) (hp : p.length ≤ 1000000000) : qfs n p q = some (decide (p = q), ()) := by
  by_cases hl : p.length = q.length
  · have g : iterN (qfr n) n (p, q, (p.length : Int), 0, ()) = some (if ∀ i, i < p.length → rd p (i : Int) = rd q (i : Int) then .inr (.inl ()) else .inl (false, ())) := by
      refine (qxp (f := qfr n) hn (fun i => (p, q, (p.length : Int), (i : Int), ())) p.length (fun i => rd p (i : Int) = rd q (i : Int)) (d := (p, q, (p.length : Int), 0, ())) (r := .inr (.inl ())) (r' := .inl (false, ())) (by omega) rfl (fun i hi _ hp => ?_) (fun i hi _ hp => ?_) (fun _ => ?_)).trans (by congr)
      · simp (disch := first | assumption | omega) only [zA, zB, zC, zD, zE, zF, zG, qx2, qxw, qxx, zH, zI, dpos, dneg, zJ, zK, zL, zM, zN, zO, zP, qfr, qfq, qx5, hp, up1]
      · simp (disch := first | assumption | omega) only [zA, zB, zC, zD, zE, zF, zG, qx2, qxw, qxx, zH, zI, dpos, dneg, zJ, zK, zL, zM, zN, zO, zP, qfr, qfq, qx5, up1]
      · simp (disch := first | assumption | omega) only [zA, zB, zC, zD, zE, zF, zG, qx2, qxw, qxx, zH, zI, dpos, dneg, zJ, zK, zL, zM, zN, zO, zP, qfr, qfq]
    by_cases e : p = q
    · rw [if_pos (fun i hi => by rw [e])] at g
      subst e
      simp (disch := first | assumption | omega) only [zA, zB, zC, zD, zE, zF, zG, qx2, qxw, qxx, zH, zI, dpos, dneg, zJ, zK, zL, zM, zN, zO, zP, qfs, g]
    · rw [if_neg (fun h => e (q3q hl h))] at g
      rw [decide_eq_false e]
      simp (disch := first | assumption | omega) only [zA, zB, zC, zD, zE, zF, zG, qx2, qxw, qxx, zH, zI, dpos, dneg, zJ, zK, zL, zM, zN, zO, zP, qfs, g]
  · rw [decide_eq_false (fun e => hl (by rw [e]))]
    simp (disch := first | assumption | omega) only [zA, zB, zC, zD, zE, zF, zG, qx2, qxw, qxx, zH, zI, dpos, dneg, zJ, zK, zL, zM, zN, zO, zP, qfs]
theorem q58 {l : List (List Int)} {p : List Int} : p ∈ l ↔ ∃ i, i < l.length ∧ row l i = p := by
  constructor
  · intro h
    obtain ⟨i, hi, e⟩ := List.getElem_of_mem h
    exact ⟨i, hi, by unfold row; rw [List.getD_eq_getElem?_getD, List.getElem?_eq_getElem hi]; exact e⟩
  · rintro ⟨i, hi, rfl⟩; exact qx3 hi
def Zt (H : Pm k hk → Prop) : Pm k hk → Prop := fun x => H x ∧ ∀ y, H y → x * y = y * x
theorem Pm.dec_eq {x y : Pm k hk} : x.1 = y.1 ↔ x = y := ⟨Pm.ext, fun h => by rw [h]⟩
theorem q59 (hn : Fu n) (q x : Pm k hk) : qft n q.1 x.1 = some (!decide (x * q = q * x), ()) := by
  have e := q57 hn (x * q).1 (q * x).1 (by have := (x * q).2.2; omega)
  by_cases c : x * q = q * x
  · rw [decide_eq_true (Pm.dec_eq.2 c)] at e
    rw [decide_eq_true c]
    simp (disch := first | assumption | omega) only [zA, zB, zC, zD, zE, zF, zG, qx2, qxw, qxx, zH, zI, dpos, dneg, zJ, zK, zL, zM, zN, zO, zP, qft, q40 hn, e]
  · rw [decide_eq_false (fun h => c (Pm.dec_eq.1 h))] at e
    rw [decide_eq_false c]
    simp (disch := first | assumption | omega) only [zA, zB, zC, zD, zE, zF, zG, qx2, qxw, qxx, zH, zI, dpos, dneg, zJ, zK, zL, zM, zN, zO, zP, qft, q40 hn, e]
theorem q6a (hn : Fu n) {G : List (List Int)} (hG : ∀ p ∈ G, PK k p) (hGl : G.length ≤ 1000000000) (x : Pm k hk) : qfx n G (x.1, ()) = some (!decide (∀ q : Pm k hk, dn G q → x * q = q * x), ()) := by
  rcases qxq (f := qfv n) hn (fun i => (G, (x.1, ()), (G.length : Int), (i : Int), ())) G.length (fun i => ∀ q : Pm k hk, row G i = q.1 → x * q = q * x) (d := (G, (x.1, ()), (G.length : Int), 0, ())) (r := .inr (.inl ())) (r' := fun i => .inl ((i : Int), ())) (by omega) rfl (fun i hi _ hp => by
      obtain ⟨q, eq, hq⟩ := q5n (hk := hk) hG hi
      have e := q59 hn q x
      rw [decide_eq_true (hp q eq)] at e
      simp (disch := first | assumption | omega) only [zA, zB, zC, zD, zE, zF, zG, qx2, qxw, qxx, zH, zI, dpos, dneg, zJ, zK, zL, zM, zN, zO, zP, qfv, qfu, qx4, eq, e, up1]) (fun i hi _ hp => by
      obtain ⟨q, eq, hq⟩ := q5n (hk := hk) hG hi
      have e := q59 hn q x
      rw [decide_eq_false (fun h2 => hp (fun z hz => by
        have : z = q := Pm.ext (hz.symm.trans eq)
        rw [this]; exact h2))] at e
      simp (disch := first | assumption | omega) only [zA, zB, zC, zD, zE, zF, zG, qx2, qxw, qxx, zH, zI, dpos, dneg, zJ, zK, zL, zM, zN, zO, zP, qfv, qfu, qx4, eq, e, up1]) (fun _ => by
      simp (disch := first | assumption | omega) only [zA, zB, zC, zD, zE, zF, zG, qx2, qxw, qxx, zH, zI, dpos, dneg, zJ, zK, zL, zM, zN, zO, zP, qfv, qfu]) with ⟨ha, e⟩ | ⟨i, hi, _, hp, e⟩
  · have : ∀ q : Pm k hk, dn G q → x * q = q * x := fun q hq => by
      obtain ⟨i, hi, e⟩ := q58.1 hq
      exact ha i hi q e
    rw [decide_eq_true this]
    have z : ¬ (0 : Int) ≤ -1 := by decide
    simp (disch := first | assumption | omega) only [zA, zB, zC, zD, zE, zF, zG, qx2, qxw, qxx, zH, zI, dpos, dneg, zJ, zK, zL, zM, zN, zO, zP, qfx, qfw, e, z]
  · rw [decide_eq_false (fun h2 => hp (fun q eq => h2 q (show q.1 ∈ G from eq ▸ qx3 hi)))]
    simp (disch := first | assumption | omega) only [zA, zB, zC, zD, zE, zF, zG, qx2, qxw, qxx, zH, zI, dpos, dneg, zJ, zK, zL, zM, zN, zO, zP, qfx, qfw, e]
theorem q6b {α : Type} {l : List α} {i : Nat} (hi : i < l.length) (P : α → Bool) (x : α) (hx : l[i] = x) : (l.take (i + 1)).filter P = (l.take i).filter P ++ (if P x then [x] else []) := by
  rw [List.take_add_one, List.filter_append, List.getElem?_eq_getElem hi, hx]
  congr 1
  by_cases c : P x
  · simp [c]
  · simp [c]
theorem q6c {H : Pm k hk → Prop} {P : List Int → Bool} {K : Pm k hk → Prop} (h : ∀ x : Pm k hk, K x ↔ H x ∧ P x.1 = true) : (can H).filter P = can K :=
  Asc.ext (List.Pairwise.filter _ q4v) q4v (fun p => by
    rw [List.mem_filter, q4s, q4s]
    constructor
    · rintro ⟨⟨hp, hx⟩, c⟩; exact ⟨hp, (h ⟨p, hp⟩).2 ⟨hx, c⟩⟩
    · rintro ⟨hp, hx⟩; exact ⟨⟨hp, ((h ⟨p, hp⟩).1 hx).1⟩, ((h ⟨p, hp⟩).1 hx).2⟩)
theorem q6d {l : List (List Int)} {i : Nat} (h : i < l.length) : l[i] = row l i := by unfold row; rw [List.getD_eq_getElem?_getD, List.getElem?_eq_getElem h]; rfl
theorem q6e (hn : Fw n) {H : Pm k hk → Prop} (hH : Sub H) : qf0 n (can H) = some (can (Zt H), 0, ()) := by
  have hl := q4w (H := H)
  obtain ⟨G, f1, q1, q2, q3, q4, q5⟩ := q50 hn hH
  let P : List Int → Bool := fun p => decide (∃ hp : PK k p, ∀ q : Pm k hk, dn G q → Pm.mk p hp * q = q * Pm.mk p hp)
  have hP : ∀ x : Pm k hk, P x.1 = decide (∀ q : Pm k hk, dn G q → x * q = q * x) := fun x => by
    by_cases c : ∀ q : Pm k hk, dn G q → x * q = q * x
    · rw [decide_eq_true c]; exact decide_eq_true ⟨x.2, c⟩
    · rw [decide_eq_false c]; exact decide_eq_false (fun ⟨_, h⟩ => c h)
  have g : iterN (qfz n) n (G, can H, ((can H).length : Int), 0, [], ()) = some (.inl ((can H).filter P, ())) := by
    refine qxo hn.fu (fun i => (G, can H, ((can H).length : Int), (i : Int), ((can H).take i).filter P, ())) (can H).length (by omega) (by simp) (fun i hi => ?_) ?_
    · obtain ⟨x, ex, hx⟩ := q5n (hk := hk) (q4u (H := H)) hi
      have e := q6a hn.fu q1 (by omega) x
      have ft := q6b hi P x.1 (by rw [q6d hi, ex])
      have hlen : (((can H).take i).filter P).length ≤ 5040 := Nat.le_trans (List.length_filter_le _ _) (by rw [List.length_take]; omega)
      have ecl := qzb (n := n) x.1 (by have := x.2.2; omega)
      rw [hP x] at ft
      by_cases c : ∀ q : Pm k hk, dn G q → x * q = q * x
      · rw [decide_eq_true c] at e
        rw [decide_eq_true c, if_pos rfl] at ft
        rw [ft]
        have hl1 : ([x.1] : List (List Int)).length = 1 := rfl
        simp (disch := first | assumption | omega) only [zA, zB, zC, zD, zE, zF, zG, qx2, qxw, qxx, zH, zI, dpos, dneg, zJ, zK, zL, zM, zN, zO, zP, qfz, qfy, qx4, ex, e, ecl, up1]
      · rw [decide_eq_false c] at e
        rw [decide_eq_false c, if_neg (by decide), List.append_nil] at ft
        rw [ft]
        simp (disch := first | assumption | omega) only [zA, zB, zC, zD, zE, zF, zG, qx2, qxw, qxx, zH, zI, dpos, dneg, zJ, zK, zL, zM, zN, zO, zP, qfz, qfy, qx4, ex, e, up1]
    · rw [List.take_length]
      simp (disch := first | assumption | omega) only [zA, zB, zC, zD, zE, zF, zG, qx2, qxw, qxx, zH, zI, dpos, dneg, zJ, zK, zL, zM, zN, zO, zP, qfz, qfy]
  have e2 : (can H).filter P = can (Zt H) := q6c (fun x => by
    rw [hP x, decide_eq_true_eq]
    exact and_congr Iff.rfl ⟨fun h q hq => h q (q3 q hq), fun h y hy => q00 h ((q2 y).2 hy)⟩)
  rw [e2] at g
  simp (disch := first | assumption | omega) only [zA, zB, zC, zD, zE, zF, zG, qx2, qxw, qxx, zH, zI, dpos, dneg, zJ, zK, zL, zM, zN, zO, zP, qf0, q5w hn hH, f1, g]
def Drn : Nat → (Pm k hk → Prop) → Pm k hk → Prop
  | 0, H => H
  | m + 1, H => Drn m (Dr H)
theorem Drn.sub : ∀ {m : Nat} {H : Pm k hk → Prop}, Sub H → Sub (Drn m H)
  | 0, _, h => h
  | m + 1, H, h => Drn.sub (m := m) (Dr.sub H)
theorem Drn.mono : ∀ {m : Nat} {H K : Pm k hk → Prop}, (∀ x, K x → H x) → ∀ x, Drn m K x → Drn m H x
  | 0, _, _, h => h
  | m + 1, _, _, h => Drn.mono (m := m) (fun x hx => Dr.mono h hx)
end Go.Proofs.Ytemejeiajekmcaa.V
namespace Go.Proofs.Ytemejeiajekmcaa.V
open Go Classical Grp
set_option linter.unusedVariables false
set_option linter.all false
variable {n : Nat} {k : Nat} {hk : 1 ≤ k ∧ k ≤ 7}
theorem q6f {S T : Pm k hk → Prop} (x : Pm k hk) (h : ∀ y, T y ↔ S y ∨ y = x) : (hasT k (upS S)).set (rank x.1) true = hasT k (upS T) := by
  rw [q4e x.2]
  congr 1
  funext q
  apply propext
  constructor
  · rintro (⟨hq, h1⟩ | rfl)
    · exact ⟨hq, (h _).2 (.inl h1)⟩
    · exact ⟨x.2, (h _).2 (.inr rfl)⟩
  · rintro ⟨hq, h1⟩
    rcases (h _).1 h1 with h1 | h1
    · exact .inl ⟨hq, h1⟩
    · exact .inr (congrArg Subtype.val h1)
theorem q6g {S : Pm k hk → Prop} (x : Pm k hk) : idx (hasT k (upS S)) (rank x.1 : Int) = some (decide (S x)) := by
  rw [q4d x.2]
  congr 1
  by_cases c : S x
  · rw [decide_eq_true c]; exact decide_eq_true ⟨x.2, c⟩
  · rw [decide_eq_false c]; exact decide_eq_false (fun ⟨_, h⟩ => c h)
theorem q6h : (· ∈ ([] : List (List Int))) = upS (fun _ : Pm k hk => False) := by
  funext q; apply propext; exact ⟨(fun h => nomatch h), fun ⟨_, h⟩ => h.elim⟩
theorem q6i (hn : Fu n) (hk : 1 ≤ k ∧ k ≤ 7) : qav n (k : Int) [] = some (setT k (upS (fun _ : Pm k hk => False)), ()) := by
  have := q4f hn hk.1 hk.2 (l := []) (by simp) (fun p h => nomatch h)
  rwa [q6h (hk := hk)] at this
theorem q6j (hn : Fu n) {H : Pm k hk → Prop} : qfg n (can H) = some (can (Zt H), ()) := by
  have hl := q4w (H := H)
  have inner : ∀ (i : Nat) (x : Pm k hk) (out : List (List Int)), idx (can H) (i : Int) = some x.1 → iterN (qfd n) n (can H, (i : Int), true, 0, out, ()) = some (.inl (can H, (i : Int), decide (∀ y, H y → x * y = y * x), out, ())) := by
    intro i x out ei
    obtain ⟨r, e, rfl⟩ := qxs (f := qfd n) hn
      (fun d => ∃ (j : Nat) (b : Bool), d = (can H, (i : Int), b, (j : Int), out, ()) ∧ j ≤ (can H).length ∧ (b = true ↔ ∀ y, dn ((can H).take j) y → x * y = y * x))
      (fun d => (((can H).length : Int) - d.2.2.2.1).toNat)
      (fun r => r = .inl (can H, (i : Int), decide (∀ y, H y → x * y = y * x), out, ()))
      (d := (can H, (i : Int), true, 0, out, ()))
      ⟨0, true, rfl, Nat.zero_le _, fun _ y hy => absurd hy (q5p y), fun _ => rfl⟩ (by simp only; omega) (by
        rintro d ⟨j, b, rfl, h1, h2⟩
        by_cases c : j < (can H).length
        · obtain ⟨y, ey, hy⟩ := q5n (hk := hk) (q4u (H := H)) c
          have em := q56 hn (x * y).1 (y * x).1 (by have := (x * y).2.2; omega)
          have m1 := q41 hn x y
          have m2 := q41 hn y x
          have hstep : (∀ z, dn ((can H).take (j + 1)) z → x * z = z * x) ↔ (∀ z, dn ((can H).take j) z → x * z = z * x) ∧ x * y = y * x :=
            ⟨fun h => ⟨fun z hz => h z ((q5o c ey z).2 (.inl hz)), h y ((q5o c ey y).2 (.inr rfl))⟩, fun h z hz => ((q5o c ey z).1 hz).elim (h.1 z) (fun e => by rw [e]; exact h.2)⟩
          cases b with
          | true =>
            refine .inl ⟨(can H, (i : Int), decide ((x * y).1 = (y * x).1), ((j + 1 : Nat) : Int), out, ()), ?_, ⟨j + 1, _, rfl, c, ?_⟩, by simp only; omega⟩
            · simp (disch := first | assumption | omega) only [zA, zB, zC, zD, zE, zF, zG, qx2, qxw, qxx, zH, zI, dpos, dneg, zJ, zK, zL, zM, zN, zO, zP, qfd, qfc, qx4, ei, ey, m1, m2, em, up1]
            · rw [decide_eq_true_eq, hstep]
              exact ⟨fun h => ⟨h2.1 rfl, Pm.ext h⟩, fun h => by rw [h.2]⟩
          | false =>
            refine .inl ⟨(can H, (i : Int), false, ((j + 1 : Nat) : Int), out, ()), ?_, ⟨j + 1, _, rfl, c, (fun h => nomatch h), fun h => ?_⟩, by simp only; omega⟩
            · simp (disch := first | assumption | omega) only [zA, zB, zC, zD, zE, zF, zG, qx2, qxw, qxx, zH, zI, dpos, dneg, zJ, zK, zL, zM, zN, zO, zP, qfd, qfc, up1]
            · have := h2.2 (hstep.1 h).1; cases this
        · obtain rfl : j = (can H).length := by omega
          rw [List.take_length] at h2
          have : b = decide (∀ y, H y → x * y = y * x) := by
            by_cases c : ∀ y, H y → x * y = y * x
            · rw [decide_eq_true c]; exact h2.2 (fun y hy => c y (q4y.1 hy))
            · rw [decide_eq_false c]
              cases b with
              | false => rfl
              | true => exact absurd (fun y hy => h2.1 rfl y (q4y.2 hy)) c
          refine .inr ⟨_, ?_, rfl⟩
          rw [← this]
          simp (disch := first | assumption | omega) only [zA, zB, zC, zD, zE, zF, zG, qx2, qxw, qxx, zH, zI, dpos, dneg, zJ, zK, zL, zM, zN, zO, zP, qfd, qfc])
    exact e
  let P : List Int → Bool := fun p => decide (∃ hp : PK k p, ∀ q : Pm k hk, H q → Pm.mk p hp * q = q * Pm.mk p hp)
  have hP : ∀ x : Pm k hk, P x.1 = decide (∀ q : Pm k hk, H q → x * q = q * x) := fun x => by
    by_cases c : ∀ q : Pm k hk, H q → x * q = q * x
    · rw [decide_eq_true c]; exact decide_eq_true ⟨x.2, c⟩
    · rw [decide_eq_false c]; exact decide_eq_false (fun ⟨_, h⟩ => c h)
  have g : iterN (qff n) n (can H, 0, [], ()) = some (.inl ((can H).filter P, ())) := by
    refine qxo hn (fun i => (can H, (i : Int), ((can H).take i).filter P, ())) (can H).length (by omega) (by simp) (fun i hi => ?_) ?_
    · obtain ⟨x, ex, hx⟩ := q5n (hk := hk) (q4u (H := H)) hi
      have ei : idx (can H) (i : Int) = some x.1 := by rw [qx4 hi, ex]
      have e := inner i x (((can H).take i).filter P) ei
      have ft := q6b hi P x.1 (by rw [q6d hi, ex])
      have hlen : (((can H).take i).filter P).length ≤ 5040 := Nat.le_trans (List.length_filter_le _ _) (by rw [List.length_take]; omega)
      rw [hP x] at ft
      by_cases c : ∀ q : Pm k hk, H q → x * q = q * x
      · rw [decide_eq_true c] at e
        rw [decide_eq_true c, if_pos rfl] at ft
        rw [ft]
        have hl1 : ([x.1] : List (List Int)).length = 1 := rfl
        simp (disch := first | assumption | omega) only [zA, zB, zC, zD, zE, zF, zG, qx2, qxw, qxx, zH, zI, dpos, dneg, zJ, zK, zL, zM, zN, zO, zP, qff, qfe, e, ei, up1]
      · rw [decide_eq_false c] at e
        rw [decide_eq_false c, if_neg (by decide), List.append_nil] at ft
        rw [ft]
        simp (disch := first | assumption | omega) only [zA, zB, zC, zD, zE, zF, zG, qx2, qxw, qxx, zH, zI, dpos, dneg, zJ, zK, zL, zM, zN, zO, zP, qff, qfe, e, up1]
    · rw [List.take_length]
      simp (disch := first | assumption | omega) only [zA, zB, zC, zD, zE, zF, zG, qx2, qxw, qxx, zH, zI, dpos, dneg, zJ, zK, zL, zM, zN, zO, zP, qff, qfe]
  have e2 : (can H).filter P = can (Zt H) := q6c (fun x => by
    rw [hP x, decide_eq_true_eq]; exact Iff.rfl)
  rw [e2] at g
  simp (disch := first | assumption | omega) only [zA, zB, zC, zD, zE, zF, zG, qx2, qxw, qxx, zH, zI, dpos, dneg, zJ, zK, zL, zM, zN, zO, zP, qfg, g]
def dne (H : Pm k hk → Prop) (l : List (List Int)) (i : Nat) : Pm k hk → Prop := fun y => ∃ x, dn (l.take i) x ∧ Cls H x y
noncomputable def clsOf (H : Pm k hk → Prop) (p : List Int) : List (List Int) := canon k (fun q => ∃ (hp : PK k p) (hq : PK k q), Cls H (Pm.mk p hp) (Pm.mk q hq))
theorem q6k (H : Pm k hk → Prop) (x : Pm k hk) : clsOf H x.1 = can (Cls H x) :=
  q0g hk.1 hk.2 (fun q hq => ⟨fun ⟨_, hq, h⟩ => ⟨hq, h⟩, fun ⟨hq, h⟩ => ⟨x.2, hq, h⟩⟩)
noncomputable def clsT (H : Pm k hk → Prop) (l : List (List Int)) : Nat → List (List (List Int))
  | 0 => []
  | i + 1 => if upS (dne H l i) (row l i) then clsT H l i else clsT H l i ++ [clsOf H (row l i)]
theorem q6l (H : Pm k hk → Prop) (l : List (List Int)) : ∀ i, (clsT H l i).length ≤ i
  | 0 => Nat.le_refl _
  | i + 1 => by
    have := q6l H l i
    unfold clsT
    by_cases c : upS (dne H l i) (row l i)
    · rw [if_pos c]; omega
    · rw [if_neg c, List.length_append]; simp only [List.length_cons, List.length_nil]; omega
theorem q6m {H : Pm k hk → Prop} {l : List (List Int)} {i : Nat} {x : Pm k hk} (ex : row l i = x.1) (h : dne H l i x) : clsT H l (i + 1) = clsT H l i := by
  have c : upS (dne H l i) (row l i) := by rw [ex]; exact ⟨x.2, h⟩
  show (if upS (dne H l i) (row l i) then _ else _) = _
  rw [if_pos c]
theorem q6n {H : Pm k hk → Prop} {l : List (List Int)} {i : Nat} {x : Pm k hk} (ex : row l i = x.1) (h : ¬ dne H l i x) : clsT H l (i + 1) = clsT H l i ++ [can (Cls H x)] := by
  have c : ¬ upS (dne H l i) (row l i) := by rw [ex]; exact fun ⟨_, h2⟩ => h h2
  show (if upS (dne H l i) (row l i) then _ else _) = _
  rw [if_neg c, ex, q6k]
theorem q6o {H : Pm k hk → Prop} {l : List (List Int)} {i : Nat} (hi : i < l.length) {x : Pm k hk} (ex : row l i = x.1) (y : Pm k hk) : dne H l (i + 1) y ↔ dne H l i y ∨ Cls H x y := by
  constructor
  · rintro ⟨z, hz, h⟩
    rcases (q5o hi ex z).1 hz with hz | rfl
    · exact .inl ⟨z, hz, h⟩
    · exact .inr h
  · rintro (⟨z, hz, h⟩ | h)
    · exact ⟨z, (q5o hi ex z).2 (.inl hz), h⟩
    · exact ⟨x, (q5o hi ex x).2 (.inr rfl), h⟩
theorem q6p {H : Pm k hk → Prop} (hH : Sub H) {l : List (List Int)} {i : Nat} (hi : i < l.length) {x : Pm k hk} (ex : row l i = x.1) (h : dne H l i x) : dne H l (i + 1) = dne H l i := by
  funext y
  apply propext
  rw [q6o hi ex]
  refine ⟨?_, .inl⟩
  rintro (h2 | h2)
  · exact h2
  · obtain ⟨z, hz, h3⟩ := h
    exact ⟨z, hz, h3.trans hH h2⟩
theorem q6q (H : Pm k hk → Prop) (l : List (List Int)) : dne H l 0 = fun _ => False := by
  funext y; apply propext; exact ⟨fun ⟨x, hx, _⟩ => absurd hx (q5p x), False.elim⟩
theorem q6r {H : Pm k hk → Prop} (hH : Sub H) {l : List (List Int)} {i : Nat} {x y : Pm k hk} (h : ¬ dne H l i x) (hy : Cls H x y) : ¬ dne H l i y := by
  rintro ⟨z, hz, h2⟩
  exact h ⟨z, hz, h2.trans hH (hy.symm hH)⟩
theorem q6s (hn : Fu n) {H : Pm k hk → Prop} {i : Nat} (x : Pm k hk) (ei : idx (can H) (i : Int) = some x.1) (out : List (List (List Int))) (D : Pm k hk → Prop) :
    iterN (qfm n) n (can H, (i : Int), 0, out, setT k (upS D), setT k (upS (fun _ : Pm k hk => False)), ()) = some (.inl (can H, (i : Int), out, setT k (upS (fun y => D y ∨ Cls H x y)), setT k (upS (Cls H x)), ())) := by
  have hl := q4w (H := H)
  obtain ⟨r, e, rfl⟩ := qxs (f := qfm n) hn
    (fun d => ∃ (j : Nat), d = (can H, (i : Int), (j : Int), out, setT k (upS (fun y => D y ∨ ∃ c, dn ((can H).take j) c ∧ y = cj c x)), setT k (upS (fun y => ∃ c, dn ((can H).take j) c ∧ y = cj c x)), ()) ∧ j ≤ (can H).length)
    (fun d => (((can H).length : Int) - d.2.2.1).toNat)
    (fun r => r = .inl (can H, (i : Int), out, setT k (upS (fun y => D y ∨ Cls H x y)), setT k (upS (Cls H x)), ()))
    (d := (can H, (i : Int), 0, out, setT k (upS D), setT k (upS (fun _ : Pm k hk => False)), ()))
    ⟨0, by
      have e1 : (fun y => ∃ c, dn ((can H).take 0) c ∧ y = cj c x) = fun _ => False := funext fun y => propext ⟨fun ⟨c, hc, _⟩ => absurd hc (q5p c), False.elim⟩
      have e2 : (fun y => D y ∨ ∃ c, dn ((can H).take 0) c ∧ y = cj c x) = D := funext fun y => propext ⟨fun h => h.elim id (fun ⟨c, hc, _⟩ => absurd hc (q5p c)), .inl⟩
      rw [e1, e2]; rfl, Nat.zero_le _⟩ (by simp only; omega) (by
      rintro d ⟨j, rfl, h1⟩
      by_cases c : j < (can H).length
      · obtain ⟨y, ey, hy⟩ := q5n (hk := hk) (q4u (H := H)) c
        have ec := q55 hn y x
        have er := q5m hn (cj y x)
        have l1 := q6g (S := fun y => ∃ c, dn ((can H).take j) c ∧ y = cj c x) (cj y x)
        have l2 := q6g (S := fun y => D y ∨ ∃ c, dn ((can H).take j) c ∧ y = cj c x) (cj y x)
        have s0 : ∀ z, (∃ c, dn ((can H).take (j + 1)) c ∧ z = cj c x) ↔ (∃ c, dn ((can H).take j) c ∧ z = cj c x) ∨ z = cj y x := fun z => by
          constructor
          · rintro ⟨a, ha, rfl⟩
            rcases (q5o c ey a).1 ha with ha | rfl
            · exact .inl ⟨a, ha, rfl⟩
            · exact .inr rfl
          · rintro (⟨a, ha, rfl⟩ | rfl)
            · exact ⟨a, (q5o c ey a).2 (.inl ha), rfl⟩
            · exact ⟨y, (q5o c ey y).2 (.inr rfl), rfl⟩
        have s1 := q6f (S := fun y => ∃ c, dn ((can H).take j) c ∧ y = cj c x) (T := fun y => ∃ c, dn ((can H).take (j + 1)) c ∧ y = cj c x) (cj y x) s0
        have s2 := q6f (S := fun y => D y ∨ ∃ c, dn ((can H).take j) c ∧ y = cj c x) (T := fun y => D y ∨ ∃ c, dn ((can H).take (j + 1)) c ∧ y = cj c x) (cj y x) (fun z => by rw [s0]; exact or_assoc.symm)
        refine .inl ⟨_, ?_, ⟨j + 1, rfl, c⟩, by simp only; omega⟩
        simp (disch := first | assumption | omega) only [zA, zB, zC, zD, zE, zF, zG, qx2, qxw, qxx, zH, zI, dpos, dneg, zJ, zK, zL, zM, zN, zO, zP, qfm, qfl, qx4, ei, ey, ec, er, l1, l2, s1, s2, up1]
      · obtain rfl : j = (can H).length := by omega
        rw [List.take_length]
        have : (fun y => ∃ c, dn (can H) c ∧ y = cj c x) = Cls H x := funext fun y => propext ⟨fun ⟨c, hc, e⟩ => ⟨c, q4y.1 hc, e⟩, fun ⟨c, hc, e⟩ => ⟨c, q4y.2 hc, e⟩⟩
        have t2 : (fun y => D y ∨ ∃ c, dn (can H) c ∧ y = cj c x) = fun y => D y ∨ Cls H x y := by rw [← this]
        rw [t2, this]
        refine .inr ⟨_, ?_, rfl⟩
        simp (disch := first | assumption | omega) only [zA, zB, zC, zD, zE, zF, zG, qx2, qxw, qxx, zH, zI, dpos, dneg, zJ, zK, zL, zM, zN, zO, zP, qfm, qfl])
  exact e
theorem q6t (hn : Fu n) {H : Pm k hk → Prop} (hH : Sub H) : qfp n (can H) = some (clsT H (can H) (can H).length, ()) := by
  have hl := q4w (H := H)
  have e0 : idx (can H) 0 = some (row (can H) 0) := qx4 (u := 0) (q5q hH)
  have el : (((row (can H) 0).length : Nat) : Int) = (k : Int) := by rw [q5r hH]
  have es := q6i hn hk
  obtain ⟨r, e, rfl⟩ := qxs (f := qfo n) hn
    (fun d => ∃ (i : Nat), d = (can H, (i : Int), clsT H (can H) i, setT k (upS (dne H (can H) i)), ()) ∧ i ≤ (can H).length)
    (fun d => (((can H).length : Int) - d.2.1).toNat)
    (fun r => r = .inl (clsT H (can H) (can H).length, ()))
    (d := (can H, 0, [], setT k (upS (fun _ : Pm k hk => False)), ()))
    ⟨0, by rw [q6q]; rfl, Nat.zero_le _⟩ (by simp only; omega) (by
      rintro d ⟨i, rfl, h1⟩
      by_cases c : i < (can H).length
      · obtain ⟨x, ex, hx⟩ := q5n (hk := hk) (q4u (H := H)) c
        have ei : idx (can H) (i : Int) = some x.1 := by rw [qx4 c, ex]
        have er := q5m hn x
        have lk := q6g (S := dne H (can H) i) x
        have hcl := q6l H (can H) i
        refine .inl ⟨(can H, ((i + 1 : Nat) : Int), clsT H (can H) (i + 1), setT k (upS (dne H (can H) (i + 1))), ()), ?_, ⟨i + 1, rfl, c⟩, by simp only; omega⟩
        by_cases c2 : dne H (can H) i x
        · rw [decide_eq_true c2] at lk
          rw [q6m ex c2, q6p hH c ex c2]
          simp (disch := first | assumption | omega) only [zA, zB, zC, zD, zE, zF, zG, qx2, qxw, qxx, zH, zI, dpos, dneg, zJ, zK, zL, zM, zN, zO, zP, qfo, qfn, ei, er, lk, up1]
        · rw [decide_eq_false c2] at lk
          have ein := q6s hn x ei (clsT H (can H) i) (dne H (can H) i)
          have e2 : (fun y => dne H (can H) i y ∨ Cls H x y) = dne H (can H) (i + 1) := funext fun y => propext (q6o c ex y).symm
          rw [e2] at ein
          have elst := q4h hn (S := upS (Cls H x)) hk.2
          change _ = some (can (Cls H x), ()) at elst
          rw [q6n ex c2]
          have hl1 : ([can (Cls H x)] : List (List (List Int))).length = 1 := rfl
          simp (disch := first | assumption | omega) only [zA, zB, zC, zD, zE, zF, zG, qx2, qxw, qxx, zH, zI, dpos, dneg, zJ, zK, zL, zM, zN, zO, zP, qfo, qfn, ei, er, lk, e0, el, es, ein, elst, up1]
      · obtain rfl : i = (can H).length := by omega
        refine .inr ⟨_, ?_, rfl⟩
        simp (disch := first | assumption | omega) only [zA, zB, zC, zD, zE, zF, zG, qx2, qxw, qxx, zH, zI, dpos, dneg, zJ, zK, zL, zM, zN, zO, zP, qfo, qfn])
  simp (disch := first | assumption | omega) only [zA, zB, zC, zD, zE, zF, zG, qx2, qxw, qxx, zH, zI, dpos, dneg, zJ, zK, zL, zM, zN, zO, zP, qfp, e0, el, es, e]
theorem q6u (hn : Fu n) {G : List (List Int)} (hG : ∀ p ∈ G, PK k p) (hGl : G.length ≤ 1000000000) {t : List (List Int)} {a b : Int} {out : List (List (List Int))} {D : Pm k hk → Prop} {m : KS} {cls : List (List Int)} {i : Nat} (hi : i < cls.length)
    (hm : KSet hk m (fun y => D y ∨ dn cls y)) (hnd : cls.Nodup) (hc : ∀ p ∈ cls, PK k p) :
    ∃ m' ext, iterN (qf2 n) n (G, (i : Int), t, a, b, G, (G.length : Int), 0, some m, out, cls, ()) = some (.inl (G, (i : Int), t, a, b, some m', out, cls ++ ext, ())) ∧ KSet hk m' (fun y => D y ∨ dn (cls ++ ext) y) ∧ (cls ++ ext).Nodup ∧
      (∀ p ∈ ext, ∃ y g : Pm k hk, p = (cj g y).1 ∧ row cls i = y.1 ∧ dn G g) ∧ ∀ (y g : Pm k hk), row cls i = y.1 → dn G g → D (cj g y) ∨ dn (cls ++ ext) (cj g y) := by
  obtain ⟨y, ey, hy⟩ := q5n (hk := hk) hc hi
  obtain ⟨r, e, m', ext, rfl, q1, q2, q3, q4⟩ := qxs (f := qf2 n) hn
    (fun d => ∃ (j : Nat) (m' : KS) (ext : List (List Int)), d = (G, (i : Int), t, a, b, G, (G.length : Int), (j : Int), some m', out, cls ++ ext, ()) ∧ j ≤ G.length ∧ KSet hk m' (fun y => D y ∨ dn (cls ++ ext) y) ∧ (cls ++ ext).Nodup ∧
      (∀ p ∈ ext, ∃ g : Pm k hk, p = (cj g y).1 ∧ dn G g) ∧ ∀ g : Pm k hk, dn (G.take j) g → D (cj g y) ∨ dn (cls ++ ext) (cj g y))
    (fun d => ((G.length : Int) - d.2.2.2.2.2.2.2.1).toNat)
    (fun r => ∃ m' ext, r = .inl (G, (i : Int), t, a, b, some m', out, cls ++ ext, ()) ∧ KSet hk m' (fun y => D y ∨ dn (cls ++ ext) y) ∧ (cls ++ ext).Nodup ∧ (∀ p ∈ ext, ∃ g : Pm k hk, p = (cj g y).1 ∧ dn G g) ∧ ∀ g : Pm k hk, dn G g → D (cj g y) ∨ dn (cls ++ ext) (cj g y))
    (d := (G, (i : Int), t, a, b, G, (G.length : Int), 0, some m, out, cls, ()))
    ⟨0, m, [], by rw [List.append_nil]; rfl, Nat.zero_le _, by rw [List.append_nil]; exact hm, by rw [List.append_nil]; exact hnd, (fun p h => nomatch h), fun g hg => absurd hg (q5p g)⟩ (by simp only; omega) (by
      rintro d ⟨j, m', ext, rfl, h1, h2, h3, h4, h5⟩
      by_cases c : j < G.length
      · obtain ⟨g, eg, hg⟩ := q5n (hk := hk) hG c
        have ec := q5l hn y g
        have ek := q5z hn (cj g y)
        have hlen : i < (cls ++ ext).length := by rw [List.length_append]; omega
        have ei : idx (cls ++ ext) (i : Int) = some y.1 := by rw [qx4 hlen, qzl hi, ey]
        have hP : ∀ p ∈ cls ++ ext, PK k p := fun p hp => by
          rw [List.mem_append] at hp
          rcases hp with hp | hp
          · exact hc p hp
          · obtain ⟨g, e, _⟩ := h4 p hp
            rw [e]; exact (cj g y).2
        have hfew := q4z h3 hP hk
        rw [List.length_append] at hfew
        by_cases c2 : D (cj g y) ∨ dn (cls ++ ext) (cj g y)
        · have elk := h2.look_in c2
          refine .inl ⟨(G, (i : Int), t, a, b, G, (G.length : Int), ((j + 1 : Nat) : Int), some m', out, cls ++ ext, ()), ?_, ⟨j + 1, m', ext, rfl, c, h2, h3, h4, fun z hz => ?_⟩, by simp only; omega⟩
          · simp (disch := first | assumption | omega) only [zA, zB, zC, zD, zE, zF, zG, qx2, qxw, qxx, zH, zI, dpos, dneg, zJ, zK, zL, zM, zN, zO, zP, qf2, qf1, qx4, eg, ei, ec, ek, elk, up1]
          · rcases (q5o c eg z).1 hz with hz | rfl
            · exact h5 z hz
            · exact c2
        · have elk := h2.look_out c2
          have hput := h2.put (cj g y)
          have hl1 : ([(cj g y).1] : List (List Int)).length = 1 := rfl
          refine .inl ⟨(G, (i : Int), t, a, b, G, (G.length : Int), ((j + 1 : Nat) : Int), some (mput (.arr 7 (.int .i8)) m' (keyP (cj g y).1) true), out, cls ++ (ext ++ [(cj g y).1]), ()), ?_, ⟨j + 1, _, _, rfl, c, ⟨hput.1, fun z => ?_⟩, ?_, fun p hp => ?_, fun z hz => ?_⟩, by simp only; omega⟩
          · rw [← List.append_assoc]
            simp (disch := first | assumption | omega) only [zA, zB, zC, zD, zE, zF, zG, qx2, qxw, qxx, zH, zI, dpos, dneg, zJ, zK, zL, zM, zN, zO, zP, qf2, qf1, qx4, eg, ei, ec, ek, elk, up1]
          · rw [hput.2 z]
            show (D z ∨ z.1 ∈ cls ++ ext) ∨ z = cj g y ↔ D z ∨ z.1 ∈ cls ++ (ext ++ [(cj g y).1])
            rw [← List.append_assoc, List.mem_append (s := cls ++ ext), List.mem_singleton, or_assoc]
            exact or_congr Iff.rfl (or_congr Iff.rfl ⟨fun h => by rw [h], fun h => Pm.ext h⟩)
          · rw [← List.append_assoc, List.nodup_append]
            refine ⟨h3, by simp, fun a ha b hb e => ?_⟩
            rw [List.mem_singleton] at hb
            subst hb
            subst e
            exact c2 (.inr ha)
          · rw [List.mem_append, List.mem_singleton] at hp
            rcases hp with hp | rfl
            · exact h4 p hp
            · exact ⟨g, rfl, hg⟩
          · rcases (q5o c eg z).1 hz with hz | rfl
            · rcases h5 z hz with h | h
              · exact .inl h
              · refine .inr ?_
                unfold dn at h ⊢
                rw [← List.append_assoc]
                exact List.mem_append_left _ h
            · refine .inr ?_
              unfold dn
              simp
      · obtain rfl : j = G.length := by omega
        rw [List.take_length] at h5
        refine .inr ⟨_, ?_, m', ext, rfl, h2, h3, h4, h5⟩
        simp (disch := first | assumption | omega) only [zA, zB, zC, zD, zE, zF, zG, qx2, qxw, qxx, zH, zI, dpos, dneg, zJ, zK, zL, zM, zN, zO, zP, qf2, qf1])
  refine ⟨m', ext, e, q1, q2, fun p hp => ?_, fun z g hz hg => ?_⟩
  · obtain ⟨g, e, hg⟩ := q3 p hp; exact ⟨y, g, e, ey, hg⟩
  · have : z = y := Pm.ext (hz.symm.trans ey)
    rw [this]; exact q4 g hg
theorem q6v (hn : Fu n) {H : Pm k hk → Prop} (hH : Sub H) {G : List (List Int)} (hG : ∀ p ∈ G, PK k p) (hGl : G.length ≤ 1000000000) (hGH : ∀ x : Pm k hk, Cl (dn G) x ↔ H x) {t : List (List Int)} {a b : Int} {out : List (List (List Int))} {D : Pm k hk → Prop} {m : KS} (x : Pm k hk)
    (hD : ∀ y, Cls H x y → ¬ D y) (hm : KSet hk m (fun y => D y ∨ y = x)) :
    ∃ m' cls, iterN (qf4 n) n (G, 0, t, a, b, some m, out, [x.1], ()) = some (.inl (G, t, a, b, some m', out, cls, ())) ∧ KSet hk m' (fun y => D y ∨ Cls H x y) ∧ cls.Nodup ∧ (∀ p ∈ cls, PK k p) ∧ ∀ y : Pm k hk, dn cls y ↔ Cls H x y := by
  obtain ⟨r, e, m', cls, rfl, q1, q2, q3, q4⟩ := qxs (f := qf4 n) hn
    (fun d => ∃ (i : Nat) (m' : KS) (cls : List (List Int)), d = (G, (i : Int), t, a, b, some m', out, cls, ()) ∧ i ≤ cls.length ∧ KSet hk m' (fun y => D y ∨ dn cls y) ∧ cls.Nodup ∧ (∀ p ∈ cls, upS (Cls H x) p) ∧ dn cls x ∧ ∀ (y g : Pm k hk), (∃ j, j < i ∧ row cls j = y.1) → dn G g → dn cls (cj g y))
    (fun d => 5041 - d.2.1.toNat)
    (fun r => ∃ m' cls, r = .inl (G, t, a, b, some m', out, cls, ()) ∧ KSet hk m' (fun y => D y ∨ Cls H x y) ∧ cls.Nodup ∧ (∀ p ∈ cls, PK k p) ∧ ∀ y : Pm k hk, dn cls y ↔ Cls H x y)
    (d := (G, 0, t, a, b, some m, out, [x.1], ()))
    ⟨0, m, [x.1], rfl, Nat.zero_le _, ⟨hm.1, fun y => by
      rw [hm.2 y]
      show D y ∨ y = x ↔ D y ∨ y.1 ∈ [x.1]
      rw [List.mem_singleton]
      exact or_congr Iff.rfl ⟨fun h => by rw [h], fun h => Pm.ext h⟩⟩, by simp, fun p hp => by
      rw [List.mem_singleton] at hp; subst hp; exact ⟨x.2, Cls.refl hH x⟩, by simp [dn], fun y g ⟨j, hj, _⟩ => by omega⟩ (by simp only; omega) (by
      rintro d ⟨i, m', cls, rfl, h1, h2, h3, h4, h5, h6⟩
      have hP : ∀ p ∈ cls, PK k p := fun p hp => (h4 p hp).1
      have hfew := q4z h3 hP hk
      by_cases c : i < cls.length
      · obtain ⟨m2, ext, e, r1, r2, r3, r4⟩ := q6u hn hG hGl (t := t) (a := a) (b := b) (out := out) c h2 h3 hP
        have hext : ∀ p ∈ ext, upS (Cls H x) p := fun p hp => by
          obtain ⟨y, g, rfl, ey, hg⟩ := r3 p hp
          obtain ⟨_, hc⟩ := h4 _ (qx3 c)
          have hc : Cls H x y := by
            have : (⟨row cls i, hP _ (qx3 c)⟩ : Pm k hk) = y := Pm.ext ey
            rw [← this]; exact hc
          exact ⟨(cj g y).2, hc.trans hH ⟨g, (hGH g).1 (.gen hg), rfl⟩⟩
        refine .inl ⟨(G, ((i + 1 : Nat) : Int), t, a, b, some m2, out, cls ++ ext, ()), ?_, ⟨i + 1, m2, cls ++ ext, rfl, by rw [List.length_append]; omega, r1, r2, fun p hp => ?_, List.mem_append_left _ h5, fun y g ⟨j, hj, ey⟩ hg => ?_⟩, by simp only [Int.toNat_natCast]; omega⟩
        · simp (disch := first | assumption | omega) only [zA, zB, zC, zD, zE, zF, zG, qx2, qxw, qxx, zH, zI, dpos, dneg, zJ, zK, zL, zM, zN, zO, zP, qf4, qf3, e, up1]
        · rw [List.mem_append] at hp
          exact hp.elim (h4 p) (hext p)
        · by_cases ej : j = i
          · subst ej
            rw [qzl c] at ey
            rcases r4 y g ey hg with h | h
            · obtain ⟨_, hc⟩ := h4 _ (qx3 c)
              have hc : Cls H x y := by
                have : (⟨row cls j, hP _ (qx3 c)⟩ : Pm k hk) = y := Pm.ext ey
                rw [← this]; exact hc
              exact absurd h (hD _ (hc.trans hH ⟨g, (hGH g).1 (.gen hg), rfl⟩))
            · exact h
          · rw [qzl (by omega)] at ey
            exact List.mem_append_left _ (h6 y g ⟨j, by omega, ey⟩ hg)
      · obtain rfl : i = cls.length := by omega
        have key : ∀ y : Pm k hk, dn cls y ↔ Cls H x y := fun y => by
          constructor
          · intro hy
            obtain ⟨_, hc⟩ := h4 y.1 hy
            exact hc
          · rintro ⟨c, hc, rfl⟩
            replace hc := (hGH c).2 hc
            induction hc with
            | one => rw [q0q]; exact h5
            | @step p q _ hq ih =>
              rw [← cj_cj]
              obtain ⟨j, hj, ej⟩ := q58.1 (ih)
              exact h6 _ _ ⟨j, hj, ej⟩ hq
        refine .inr ⟨.inl (G, t, a, b, some m', out, cls, ()), ?_, m', cls, rfl, ⟨h2.1, fun y => by rw [h2.2 y]; exact or_congr Iff.rfl (key y)⟩, h3, hP, key⟩
        simp (disch := first | assumption | omega) only [zA, zB, zC, zD, zE, zF, zG, qx2, qxw, qxx, zH, zI, dpos, dneg, zJ, zK, zL, zM, zN, zO, zP, qf4, qf3])
  exact ⟨m', cls, e, q1, q2, q3, q4⟩
theorem q6w (hn : Fw n) {H : Pm k hk → Prop} (hH : Sub H) : qf7 n (can H) = some (clsT H (can H) (can H).length, 0, ()) := by
  have hl := q4w (H := H)
  obtain ⟨G, f1, q1, q2, q3, q4, q5⟩ := q50 hn hH
  obtain ⟨r, e, rfl⟩ := qxs (f := qf6 n) hn.fu
    (fun d => ∃ (i : Nat) (m : KS), d = (G, can H, ((can H).length : Int), (i : Int), some m, clsT H (can H) i, ()) ∧ i ≤ (can H).length ∧ KSet hk m (dne H (can H) i))
    (fun d => (((can H).length : Int) - d.2.2.2.1).toNat)
    (fun r => r = .inl (clsT H (can H) (can H).length, ()))
    (d := (G, can H, ((can H).length : Int), 0, some [], [], ()))
    ⟨0, [], rfl, Nat.zero_le _, by rw [q6q]; exact KSet.nil⟩ (by simp only; omega) (by
      rintro d ⟨i, m, rfl, h1, h2⟩
      by_cases c : i < (can H).length
      · obtain ⟨x, ex, hx⟩ := q5n (hk := hk) (q4u (H := H)) c
        have ek := q5z hn.fu x
        have elk := h2.look x
        have hcl := q6l H (can H) i
        by_cases c2 : dne H (can H) i x
        · rw [decide_eq_true c2] at elk
          refine .inl ⟨(G, can H, ((can H).length : Int), ((i + 1 : Nat) : Int), some m, clsT H (can H) (i + 1), ()), ?_, ⟨i + 1, m, rfl, c, by rw [q6p hH c ex c2]; exact h2⟩, by simp only; omega⟩
          rw [q6m ex c2]
          simp (disch := first | assumption | omega) only [zA, zB, zC, zD, zE, zF, zG, qx2, qxw, qxx, zH, zI, dpos, dneg, zJ, zK, zL, zM, zN, zO, zP, qf6, qf5, qx4, ex, ek, elk, up1]
        · rw [decide_eq_false c2] at elk
          obtain ⟨m', cls, e, r1, r2, r3, r4⟩ := q6v hn.fu hH q1 (by omega) q2 (t := can H) (a := ((can H).length : Int)) (b := (i : Int)) (out := clsT H (can H) i) x (fun y hy => q6r hH c2 hy) (h2.put x)
          have e3 := q30 hn hk.1 hk.2 r2 r3
          have e4 : canon k (· ∈ cls) = can (Cls H x) := q0g hk.1 hk.2 (fun p hp => ⟨fun h => ⟨hp, (r4 ⟨p, hp⟩).1 h⟩, fun ⟨hp, h⟩ => (r4 ⟨p, hp⟩).2 h⟩)
          rw [e4] at e3
          have e5 := q51 hn.fu (Cls H x)
          refine .inl ⟨(G, can H, ((can H).length : Int), ((i + 1 : Nat) : Int), some m', clsT H (can H) (i + 1), ()), ?_, ⟨i + 1, m', rfl, c, r1.1, fun y => by rw [r1.2 y]; exact (q6o c ex y).symm⟩, by simp only; omega⟩
          rw [q6n ex c2]
          have hl1 : ([can (Cls H x)] : List (List (List Int))).length = 1 := rfl
          simp (disch := first | assumption | omega) only [zA, zB, zC, zD, zE, zF, zG, qx2, qxw, qxx, zH, zI, dpos, dneg, zJ, zK, zL, zM, zN, zO, zP, qf6, qf5, qx4, ex, ek, elk, e, e3, e5, up1]
      · obtain rfl : i = (can H).length := by omega
        refine .inr ⟨_, ?_, rfl⟩
        simp (disch := first | assumption | omega) only [zA, zB, zC, zD, zE, zF, zG, qx2, qxw, qxx, zH, zI, dpos, dneg, zJ, zK, zL, zM, zN, zO, zP, qf6, qf5])
  simp (disch := first | assumption | omega) only [zA, zB, zC, zD, zE, zF, zG, qx2, qxw, qxx, zH, zI, dpos, dneg, zJ, zK, zL, zM, zN, zO, zP, qf7, q5w hn hH, f1, e]
theorem q6x (H : Pm k hk → Prop) {l : List (List Int)} (hl : ∀ p ∈ l, PK k p) : ∀ i, i ≤ l.length → ∀ c ∈ clsT H l i, ∃ x : Pm k hk, dn l x ∧ c = can (Cls H x)
  | 0, _, _, h => nomatch h
  | i + 1, hi, c, h => by
    obtain ⟨x, ex, hx⟩ := q5n (hk := hk) hl (i := i) (by omega)
    by_cases c2 : dne H l i x
    · rw [q6m ex c2] at h; exact q6x H hl i (by omega) c h
    · rw [q6n ex c2, List.mem_append, List.mem_singleton] at h
      rcases h with h | rfl
      · exact q6x H hl i (by omega) c h
      · exact ⟨x, hx, rfl⟩
theorem q6y (hn : Fu n) (H : Pm k hk → Prop) : qga n (clsT H (can H) (can H).length) (clsT H (can H) (can H).length) = some (true, ()) :=
  q52 hn _ (by have := q6l H (can H) (can H).length; have := q4w (H := H); omega) (fun l hl => by
    obtain ⟨x, _, rfl⟩ := q6x H q4u _ (Nat.le_refl _) l hl
    exact q5c hn _)
theorem q6z (hn : Fw n) (gens : List (List Int)) (al : qfb n = some (true, ())) : qgb n gens = some (true, ()) := by
  obtain ⟨l, b, e, hb⟩ := q53 hn.fu gens
  cases b with
  | false => simp (disch := first | assumption | omega) only [zA, zB, zC, zD, zE, zF, zG, qx2, qxw, qxx, zH, zI, dpos, dneg, zJ, zK, zL, zM, zN, zO, zP, qgb, e, al]
  | true =>
    obtain ⟨hv, _, hc⟩ := hb rfl
    obtain ⟨k, hk, hG⟩ := hv.pk
    obtain ⟨rfl, _⟩ := hc k hk hG
    have hH := Cl.sub (dn (hk := hk) gens)
    generalize Cl (dn (hk := hk) gens) = H at *
    simp (disch := first | assumption | omega) only [zA, zB, zC, zD, zE, zF, zG, qx2, qxw, qxx, zH, zI, dpos, dneg, zJ, zK, zL, zM, zN, zO, zP, qgb, e, q6j hn.fu, q6t hn.fu hH, q6e hn hH, q6w hn hH, q5c hn.fu, q6y hn.fu, al]
theorem q60 (a : List (List Int)) : ∃ n, qgb n a = some (true, ()) := q54 fun n hn => q6z hn a (qyf hn.fu)
end Go.Proofs.Ytemejeiajekmcaa.V
