/- The law over the models, part 2. -/
import Derived.Test.YtemejeiajekmcaaPLargea
namespace Go.Proofs.Ytemejeiajekmcaa.V
open Go Classical Grp
set_option linter.unusedVariables false
set_option linter.all false
variable {n : Nat} {k : Nat} {hk : 1 ≤ k ∧ k ≤ 7}
noncomputable def invTo (p : List Int) (i : Nat) : List Int := tab p.length (fun v => if p.idxOf (v : Int) < i then ((p.idxOf (v : Int) : Nat) : Int) else 0)
theorem q7p (p : List Int) : List.replicate p.length (0 : Int) = invTo p 0 := by
  rw [q0l]; exact q0k (fun j hj => (if_neg (by omega)).symm)
theorem q7q {p : List Int} (hp : PK k p) {i v : Nat} (hi : i < k) (h : rd p (i : Int) = (v : Int)) : p.idxOf (v : Int) = i := by
  have hm : (v : Int) ∈ p := by rw [← h, q2j (by rw [hp.2]; exact hi)]; exact List.getElem_mem _
  have h1 := q6y hm
  exact hp.1.inj h1.1 (by rw [hp.2]; exact hi) (by rw [h1.2, h])
theorem q7r {p : List Int} (hp : PK k p) {i v : Nat} (hi : i < k) (h : rd p (i : Int) = (v : Int)) : (invTo p i).set v (i : Int) = invTo p (i + 1) := by
  have e := q7q hp hi h
  unfold invTo
  rw [q0j]
  refine q0k (fun j hj => ?_)
  by_cases c : j = v
  · subst c; rw [if_pos rfl, e, if_pos (by omega)]
  · rw [if_neg c]
    have : p.idxOf (j : Int) ≠ i := fun e2 => by
      have := (q6y (hp.memI (i := j) (by rw [← hp.2]; exact hj))).2
      rw [e2, h] at this; omega
    congr 1; apply propext; omega
theorem q7s {p : List Int} (hp : PK k p) : invTo p p.length = invP p :=
  q0k (fun j hj => if_pos (q6y (hp.memI (i := j) (by rw [← hp.2]; exact hj))).1)
theorem q7t (hn : Fu n) {p : List Int} (hp : PK k p) : qdo n p = some (invP p, ()) := by
  have h7 := hp.bd
  have hl := hp.2
  have g : iterN (qdn n) n (p, (p.length : Int), 0, List.replicate p.length 0, ()) = some (.inl (invP p, ())) := by
    refine qzy hn (fun i => (p, (p.length : Int), (i : Int), invTo p i, ())) p.length (by omega) (by rw [q7p]; rfl) (fun i hi => ?_) ?_
    · obtain ⟨v, hv, e⟩ := hp.at (i := i) (by omega)
      have es := q7r hp (by omega) e
      have ei : idx (invTo p i) (v : Int) = some (if p.idxOf (v : Int) < i then ((p.idxOf (v : Int) : Nat) : Int) else 0) := q0n (by omega)
      simp (disch := first | assumption | omega) only [zA, zB, zC, zD, zE, zF, zG, q0c, qz6, qz7, zH, zI, dpos, dneg, zJ, zK, zL, zM, zN, zO, zP, qdn, qdm, q0f, e, ei, es, up1]
    · simp (disch := first | assumption | omega) only [zA, zB, zC, zD, zE, zF, zG, q0c, qz6, qz7, zH, zI, dpos, dneg, zJ, zK, zL, zM, zN, zO, zP, qdn, qdm, q7s hp]
  simp (disch := first | assumption | omega) only [zA, zB, zC, zD, zE, zF, zG, q0c, qz6, qz7, zH, zI, dpos, dneg, zJ, zK, zL, zM, zN, zO, zP, qdo, g]
theorem q7u (hn : Fu n) {p : List Int} (hp : PK k p) : qfd n p = some (invP p, ()) := by
  have h7 := hp.bd
  have hl := hp.2
  have g : iterN (qfc n) n (p, 0, List.replicate p.length 0, ()) = some (.inl (invP p, ())) := by
    refine qzy hn (fun i => (p, (i : Int), invTo p i, ())) p.length (by omega) (by rw [q7p]; rfl) (fun i hi => ?_) ?_
    · obtain ⟨v, hv, e⟩ := hp.at (i := i) (by omega)
      have es := q7r hp (by omega) e
      have ei : idx (invTo p i) (v : Int) = some (if p.idxOf (v : Int) < i then ((p.idxOf (v : Int) : Nat) : Int) else 0) := q0n (by omega)
      simp (disch := first | assumption | omega) only [zA, zB, zC, zD, zE, zF, zG, q0c, qz6, qz7, zH, zI, dpos, dneg, zJ, zK, zL, zM, zN, zO, zP, qfc, qfb, q0f, e, ei, es, up1]
    · simp (disch := first | assumption | omega) only [zA, zB, zC, zD, zE, zF, zG, q0c, qz6, qz7, zH, zI, dpos, dneg, zJ, zK, zL, zM, zN, zO, zP, qfc, qfb, q7s hp]
  simp (disch := first | assumption | omega) only [zA, zB, zC, zD, zE, zF, zG, q0c, qz6, qz7, zH, zI, dpos, dneg, zJ, zK, zL, zM, zN, zO, zP, qfd, g]
theorem q7v (hn : Fu n) (x : Pm k hk) : qdo n x.1 = some ((x⁻¹).1, ()) := q7t hn x.2
theorem q7w (hn : Fu n) (x : Pm k hk) : qfd n x.1 = some ((x⁻¹).1, ()) := q7u hn x.2
theorem q7x (hn : Fu n) (x y : Pm k hk) : qdp n x.1 y.1 = some ((cm x y).1, ()) := by
  simp only [qdp, q7v hn, q7c hn, Option.bind_some]; rfl
theorem q7y (hn : Fu n) (p c : Pm k hk) : qdq n p.1 c.1 = some ((cj c p).1, ()) := by
  simp only [qdq, q7v hn, q7c hn, Option.bind_some]; rfl
theorem q7z (hn : Fu n) (x y : Pm k hk) : qfe n x.1 y.1 = some ((cm x y).1, ()) := by
  simp only [qfe, q7w hn, q7d hn, Option.bind_some]; rfl
theorem q70 (hn : Fu n) (x : Pm k hk) : qeq n x.1 = some ((rank x.1 : Int), ()) := q6k hn (by have := x.2.2; omega)
theorem q71 {l : List (List Int)} (h : ∀ p ∈ l, PK k p) {i : Nat} (hi : i < l.length) : ∃ x : Pm k hk, row l i = x.1 ∧ dn l x := ⟨⟨row l i, h _ (q0d hi)⟩, rfl, q0d hi⟩
theorem q72 {l : List (List Int)} {i : Nat} (hi : i < l.length) {x : Pm k hk} (hx : row l i = x.1) (y : Pm k hk) : dn (l.take (i + 1)) y ↔ dn (l.take i) y ∨ y = x := by
  have e : l[i]?.toList = [x.1] := by rw [← hx]; unfold row; rw [List.getD_eq_getElem?_getD, List.getElem?_eq_getElem hi]; rfl
  show y.1 ∈ l.take (i + 1) ↔ y.1 ∈ l.take i ∨ _
  rw [List.take_add_one, List.mem_append, e, List.mem_singleton]
  exact or_congr Iff.rfl ⟨fun h => Pm.ext h, fun h => by rw [h]⟩
theorem q73 {l : List (List Int)} (y : Pm k hk) : ¬ dn (l.take 0) y := fun h => by unfold dn at h; simp at h
def IsGrp (l : List (List Int)) : Prop := ∃ (k : Nat) (hk : 1 ≤ k ∧ k ≤ 7) (H : Pm k hk → Prop), Sub H ∧ l = can H
theorem q74 {H : Pm k hk → Prop} (hH : Sub H) : 0 < (can H).length := List.length_pos_of_mem (q66.2 hH.one)
theorem q75 {H : Pm k hk → Prop} (hH : Sub H) : (row (can H) 0).length = k := (q67 _ (q0d (q74 hH))).2
theorem Cl.can {H : Pm k hk → Prop} (hH : Sub H) (x : Pm k hk) : Cl (dn (Go.Proofs.Ytemejeiajekmcaa.V.can H)) x ↔ H x := by
  have : (dn (Go.Proofs.Ytemejeiajekmcaa.V.can H) : Pm k hk → Prop) = H := funext fun x => propext q7a
  rw [this]; exact Cl.self hH
theorem q76 {H : Pm k hk → Prop} (hH : Sub H) : GV (can H) := by
  refine ⟨q74 hH, q68, fun i hi => ?_⟩
  have h0 := q67 _ (q0d (q74 hH))
  have h1 := q67 _ (q0d hi)
  exact ⟨h0.1, h1.1, by rw [h0.2, h1.2]⟩
theorem PK.uniq {k k' : Nat} {p : List Int} (h : PK k p) (h' : PK k' p) : k = k' := by rw [← h.2, ← h'.2]
theorem q77 {l : List (List Int)} : Asc l ↔ ∀ i, i < l.length → 0 < i → ltL (row l (i - 1)) (row l i) := by
  have rg : ∀ (i : Nat) (h : i < l.length), row l i = l[i] := fun i h => by unfold row; rw [List.getD_eq_getElem?_getD, List.getElem?_eq_getElem h]; rfl
  constructor
  · intro h i hi h0
    rw [rg i hi, rg (i - 1) (by omega)]
    exact List.pairwise_iff_getElem.1 h (i - 1) i (by omega) hi (by omega)
  · intro h
    refine List.pairwise_iff_getElem.2 (fun i j hi hj hij => ?_)
    rw [← rg i hi, ← rg j hj]
    clear hi
    induction j with
    | zero => omega
    | succ j ih =>
      have := h (j + 1) hj (by omega)
      simp only [Nat.add_sub_cancel] at this
      by_cases e : i = j
      · rw [e]; exact this
      · exact q1z (ih (by omega) (by omega)) this
theorem q78 (hn : Fu n) {l : List (List Int)} (hl : l.length ≤ 1000000000) (hr : ∀ i, i < l.length → (row l i).length ≤ 1000000000) :
    iterN (qdc n) n (l, (l.length : Int), 0, ()) = some (if Asc l then .inr (.inl (l, ())) else .inl (false, ())) := by
  refine (qzz (f := qdc n) hn (fun i => (l, (l.length : Int), (i : Int), ())) l.length (fun i => 0 < i → ltL (row l (i - 1)) (row l i)) (d := (l, (l.length : Int), 0, ())) (r := .inr (.inl (l, ()))) (r' := .inl (false, ())) (by omega) rfl (fun i hi _ hp => ?_) (fun i hi _ hp => ?_) (fun _ => ?_)).trans (by
      congr 1
      by_cases h : Asc l
      · rw [if_pos h, if_pos (fun i hi h0 => q77.1 h i hi h0)]
      · rw [if_neg h, if_neg (fun h2 => h (q77.2 h2))])
  · by_cases c : 0 < i
    · have hc := q59 hn (row l (i - 1)) (row l i) (hr _ (by omega))
      rw [q54 (hp c)] at hc
      have z : ¬ (0 : Int) ≤ -1 := by decide
      simp (disch := first | assumption | omega) only [zA, zB, zC, zD, zE, zF, zG, q0c, qz6, qz7, zH, zI, dpos, dneg, zJ, zK, zL, zM, zN, zO, zP, qdc, qdb, Srt.dn1, q0e, hc, up1]
    · obtain rfl : i = 0 := by omega
      simp (disch := first | assumption | omega) only [zA, zB, zC, zD, zE, zF, zG, q0c, qz6, qz7, zH, zI, dpos, dneg, zJ, zK, zL, zM, zN, zO, zP, qdc, qdb, up1]
  · have c : 0 < i := Classical.byContradiction fun h => hp (fun h2 => absurd h2 h)
    have hc := q59 hn (row l (i - 1)) (row l i) (hr _ (by omega))
    have hge : 0 ≤ cmpL (row l (i - 1)) (row l i) := by
      have : ¬ cmpL (row l (i - 1)) (row l i) < 0 := fun h => hp (fun _ => q57.1 h)
      omega
    simp (disch := first | assumption | omega) only [zA, zB, zC, zD, zE, zF, zG, q0c, qz6, qz7, zH, zI, dpos, dneg, zJ, zK, zL, zM, zN, zO, zP, qdc, qdb, Srt.dn1, q0e, hc]
  · simp (disch := first | assumption | omega) only [zA, zB, zC, zD, zE, zF, zG, q0c, qz6, qz7, zH, zI, dpos, dneg, zJ, zK, zL, zM, zN, zO, zP, qdc, qdb]
theorem q79 (hn : Fw n) (l : List (List Int)) : ∃ b, qdd n l = some (b, ()) ∧ (b = true ↔ IsGrp l) := by
  have e1 := q01 hn.fu l
  by_cases hv : GV l
  · rw [decide_eq_true hv] at e1
    obtain ⟨k, hk, hG⟩ := hv.pk
    have e2 := q78 hn.fu (l := l) (by have := hv.2.1; omega) (fun i hi => by have := (hG _ (q0d hi)).2; omega)
    have e3 := q7m (hk := hk) hn hG hv.1 (by have := hv.2.1; omega)
    by_cases ha : Asc l
    · rw [if_pos ha] at e2
      refine ⟨decide (((can (hk := hk) (Cl (dn l))).length : Int) = (l.length : Int)), by simp (disch := first | assumption | omega) only [zA, zB, zC, zD, zE, zF, zG, q0c, qz6, qz7, zH, zI, dpos, dneg, zJ, zK, zL, zM, zN, zO, zP, qdd, e1, e2, e3], ?_⟩
      rw [decide_eq_true_eq]
      constructor
      · intro h
        have hp := q12 ha.nodup (L := can (hk := hk) (Cl (dn l))) (fun p hp => q65.2 ⟨hG p hp, .gen hp⟩) (by omega)
        refine ⟨k, hk, Cl (dn l), Cl.sub _, ha.ext can_asc (fun p => hp.mem_iff)⟩
      · rintro ⟨k', hk', H, hH, rfl⟩
        have h0 := q0d (q74 hH)
        obtain rfl := (hG _ h0).uniq (q67 _ h0)
        rw [q69 (Cl.can hH)]
    · rw [if_neg ha] at e2
      refine ⟨false, by simp (disch := first | assumption | omega) only [zA, zB, zC, zD, zE, zF, zG, q0c, qz6, qz7, zH, zI, dpos, dneg, zJ, zK, zL, zM, zN, zO, zP, qdd, e1, e2], (fun h => nomatch h), ?_⟩
      rintro ⟨k', hk', H, hH, rfl⟩
      exact absurd can_asc ha
  · rw [decide_eq_false hv] at e1
    refine ⟨false, by simp (disch := first | assumption | omega) only [zA, zB, zC, zD, zE, zF, zG, q0c, qz6, qz7, zH, zI, dpos, dneg, zJ, zK, zL, zM, zN, zO, zP, qdd, e1], (fun h => nomatch h), ?_⟩
    rintro ⟨k', hk', H, hH, rfl⟩
    exact absurd (q76 hH) hv
theorem q8a (hn : Fw n) {H : Pm k hk → Prop} (hH : Sub H) : qdd n (can H) = some (true, ()) := by
  obtain ⟨b, e, h⟩ := q79 hn (can H)
  rw [h.2 ⟨k, hk, H, hH, rfl⟩] at e
  exact e
theorem q8b (hn : Fw n) {G : List (List Int)} (hG : ∀ g ∈ G, PK k g) (h0 : 0 < G.length) (hGl : G.length ≤ 1000000000) : qdi n G = some ((can (hk := hk) (Cl (dn G)), ()), (G, ())) := by
  have hr0 := hG _ (q0d h0)
  have e0 : idx G 0 = some (row G 0) := q0e (u := 0) h0
  have eid := q1a hn.fu k hk.1 hk.2
  obtain ⟨met, e1, h1⟩ := Gw.start hn.fu hk
  obtain ⟨r, e2, met', gens', all', rfl, h2⟩ := qz2 (f := qdf n) hn.fu
    (fun d => ∃ (i : Nat) (met : Option KS) (gens all : List (List Int)), d = (((), ((), ((), ()))), (G.length : Int), (i : Int), met, gens, all, G, ()) ∧ i ≤ G.length ∧ Gw hk (dn (G.take i)) met gens all)
    (fun d => ((G.length : Int) - d.2.2.1).toNat)
    (fun r => ∃ met' gens' all', r = .inl (met', gens', all', G, ()) ∧ Gw hk (dn G) met' gens' all')
    (d := (((), ((), ((), ()))), (G.length : Int), 0, met, [], [idP k], G, ()))
    ⟨0, met, [], [idP k], rfl, Nat.zero_le _, by
      have : (dn (G.take 0) : Pm k hk → Prop) = fun _ => False := by funext x; apply propext; exact ⟨fun h => q73 x h, fun h => h.elim⟩
      rw [this]; exact h1⟩ (by simp only; omega) (by
      rintro d ⟨i, met, gens, all, rfl, h1, h2⟩
      by_cases c : i < G.length
      · obtain ⟨x, ex, hx⟩ := q71 (hk := hk) hG c
        obtain ⟨met', gens', all', e, q⟩ := q7j hn.fu h2 x
        refine .inl ⟨(((), ((), ((), ()))), (G.length : Int), ((i + 1 : Nat) : Int), met', gens', all', G, ()), ?_, ⟨i + 1, met', gens', all', rfl, c, ?_⟩, by simp only; omega⟩
        · simp (disch := first | assumption | omega) only [zA, zB, zC, zD, zE, zF, zG, q0c, qz6, qz7, zH, zI, dpos, dneg, zJ, zK, zL, zM, zN, zO, zP, qdf, qde, q0e, ex, e, up1]
        · have : (dn (G.take (i + 1)) : Pm k hk → Prop) = fun y => dn (G.take i) y ∨ y = x := funext fun y => propext (q72 c ex y)
          rw [this]; exact q
      · obtain rfl : i = G.length := by omega
        rw [List.take_length] at h2
        refine .inr ⟨.inl (met, gens, all, G, ()), ?_, met, gens, all, rfl, h2⟩
        simp (disch := first | assumption | omega) only [zA, zB, zC, zD, zE, zF, zG, q0c, qz6, qz7, zH, zI, dpos, dneg, zJ, zK, zL, zM, zN, zO, zP, qdf, qde])
  have e3 := h2.sorted hn
  have el : (((row G 0).length : Nat) : Int) = (k : Int) := by rw [hr0.2]
  simp (disch := first | assumption | omega) only [zA, zB, zC, zD, zE, zF, zG, q0c, qz6, qz7, zH, zI, dpos, dneg, zJ, zK, zL, zM, zN, zO, zP, qdi, e0, el, qdh, eid, e1, qdg, e2, e3]
def KSet (hk : 1 ≤ k ∧ k ≤ 7) (m : KS) (S : Pm k hk → Prop) : Prop := KOK m ∧ ∀ x : Pm k hk, keyP x.1 ∈ m.map (·.1) ↔ S x
theorem KSet.look {m : KS} {S : Pm k hk → Prop} (h : KSet hk m S) (x : Pm k hk) : (mget (.arr 7 (.int .i8)) m (keyP x.1)).getD false = decide (S x) := by
  rw [q1j h.1 (q1i x.1)]
  by_cases c : S x
  · rw [if_pos ((h.2 x).2 c), decide_eq_true c]; rfl
  · rw [if_neg (fun e => c ((h.2 x).1 e)), decide_eq_false c]; rfl
theorem KSet.look_in {m : KS} {S : Pm k hk → Prop} (h : KSet hk m S) {x : Pm k hk} (hx : S x) : (mget (.arr 7 (.int .i8)) m (keyP x.1)).getD false = true := by rw [h.look, decide_eq_true hx]
theorem KSet.look_out {m : KS} {S : Pm k hk → Prop} (h : KSet hk m S) {x : Pm k hk} (hx : ¬ S x) : (mget (.arr 7 (.int .i8)) m (keyP x.1)).getD false = false := by rw [h.look, decide_eq_false hx]
theorem KSet.put {m : KS} {S : Pm k hk → Prop} (h : KSet hk m S) (x : Pm k hk) : KSet hk (mput (.arr 7 (.int .i8)) m (keyP x.1) true) (fun y => S y ∨ y = x) := by
  obtain ⟨g1, g2⟩ := q1k h.1 (q1i x.1)
  refine ⟨g1, fun y => ?_⟩
  rw [g2, h.2]
  exact ⟨fun h => h.elim (fun h => .inr (Pm.ext (q1g y.2.1 x.2.1 h))) .inl, fun h => h.elim .inr (fun h => .inl (by rw [h]))⟩
theorem KSet.nil : KSet hk [] (fun _ => False) := ⟨(fun x hx => nomatch hx), fun x => ⟨(fun h => nomatch h), fun h => h.elim⟩⟩
theorem q8c (hn : Fu n) {l : List (List Int)} (hl : l.length ≤ 1000000000) (h : ∀ p ∈ l, PK k p) : ∃ m, qax n l = some (some m, ()) ∧ KSet hk m (dn l) := by
  obtain ⟨m, e, h1, h2⟩ := q7k hn hl (fun p hp => (h p hp).1)
  exact ⟨m, e, h1, fun x => h2 x.1 x.2.1⟩
theorem q8d (hn : Fu n) (x : Pm k hk) : qau n x.1 = some (keyP x.1, ()) := q1d hn x.2.1
theorem q8e (hn : Fw n) {H : Pm k hk → Prop} (hH : Sub H) : ∃ out, qdl n (can H) = some (out, ()) ∧ (∀ p ∈ out, PK k p) ∧ (∀ x : Pm k hk, Cl (dn out) x ↔ H x) ∧ (∀ x : Pm k hk, dn out x → H x) ∧ 0 < out.length ∧ out.length ≤ 5041 := by
  have h0 := q74 hH
  have e0 : idx (can H) 0 = some (row (can H) 0) := q0e (u := 0) h0
  have el : (((row (can H) 0).length : Nat) : Int) = (k : Int) := by rw [q75 hH]
  have eid := q1a hn.fu k hk.1 hk.2
  obtain ⟨m0, e1, h1⟩ := q8c (hk := hk) hn.fu (l := [idP k]) (by simp) (fun p hp => by rw [List.mem_singleton] at hp; subst hp; exact (1 : Pm k hk).2)
  have hcl := q68 (H := H)
  obtain ⟨r, e, out, rfl, q1, q2, q3, q4, q5⟩ := qz2 (f := qdk n) hn.fu
    (fun d => ∃ (i : Nat) (m : KS) (out : List (List Int)), d = (some m, can H, ((can H).length : Int), (i : Int), out, ()) ∧ i ≤ (can H).length ∧ KSet hk m (Cl (dn out)) ∧ (∀ p ∈ out, PK k p) ∧ (∀ x : Pm k hk, dn out x → H x) ∧ 0 < out.length ∧ out.length ≤ i + 1 ∧ ∀ x : Pm k hk, dn ((can H).take i) x → Cl (dn out) x)
    (fun d => (((can H).length : Int) - d.2.2.2.1).toNat)
    (fun r => ∃ out, r = .inl (out, ()) ∧ (∀ p ∈ out, PK k p) ∧ (∀ x : Pm k hk, Cl (dn out) x ↔ H x) ∧ (∀ x : Pm k hk, dn out x → H x) ∧ 0 < out.length ∧ out.length ≤ 5041)
    (d := (some m0, can H, ((can H).length : Int), 0, [idP k], ()))
    ⟨0, m0, [idP k], rfl, Nat.zero_le _, ⟨h1.1, fun x => by
      rw [h1.2]
      constructor
      · intro h; exact .gen h
      · intro h
        have one : ∀ y : Pm k hk, dn [idP k] y ↔ y = 1 := fun y => by
          unfold dn; rw [List.mem_singleton]; exact ⟨fun h => Pm.ext h, fun h => by rw [h]; rfl⟩
        rw [one]
        induction h with
        | one => rfl
        | step _ hq ih => rw [ih, (one _).1 hq, Grp.mul_one]⟩, fun p hp => by rw [List.mem_singleton] at hp; subst hp; exact (1 : Pm k hk).2, fun x hx => by
        have : x = 1 := Pm.ext (List.mem_singleton.1 hx)
        rw [this]; exact hH.one, by simp, by simp, fun x hx => absurd hx (q73 x)⟩ (by simp only; omega) (by
      rintro d ⟨i, m, out, rfl, p1, p2, p3, p4, p5, p6, p7⟩
      by_cases c : i < (can H).length
      · obtain ⟨x, ex, hx⟩ := q71 (hk := hk) q67 c
        have hHx : H x := q7a.1 hx
        have ek := q8d hn.fu x
        have elk := p2.look x
        by_cases c2 : Cl (dn out) x
        · rw [decide_eq_true c2] at elk
          refine .inl ⟨(some m, can H, ((can H).length : Int), ((i + 1 : Nat) : Int), out, ()), ?_, ⟨i + 1, m, out, rfl, c, p2, p3, p4, p5, by omega, fun y hy => ?_⟩, by simp only; omega⟩
          · simp (disch := first | assumption | omega) only [zA, zB, zC, zD, zE, zF, zG, q0c, qz6, qz7, zH, zI, dpos, dneg, zJ, zK, zL, zM, zN, zO, zP, qdk, qdj, q0e, ex, ek, elk, up1]
          · rcases (q72 c ex y).1 hy with h | rfl
            · exact p7 y h
            · exact c2
        · rw [decide_eq_false c2] at elk
          have hP : ∀ p ∈ out ++ [x.1], PK k p := fun p hp => by
            rw [List.mem_append, List.mem_singleton] at hp
            rcases hp with hp | rfl
            · exact p3 p hp
            · exact x.2
          have hlen : (out ++ [x.1]).length = out.length + 1 := by simp
          have ec := q8b (hk := hk) hn hP (by omega) (by omega)
          obtain ⟨m', em, hm⟩ := q8c (hk := hk) hn.fu (l := can (hk := hk) (Cl (dn (out ++ [x.1])))) (by have := q68 (H := Cl (dn (hk := hk) (out ++ [x.1]))); omega) q67
          have hl1 : ([x.1] : List (List Int)).length = 1 := rfl
          refine .inl ⟨(some m', can H, ((can H).length : Int), ((i + 1 : Nat) : Int), out ++ [x.1], ()), ?_, ⟨i + 1, m', out ++ [x.1], rfl, c, ⟨hm.1, fun y => by rw [hm.2, q7a]⟩, hP, fun y hy => ?_, by omega, by omega, fun y hy => ?_⟩, by simp only; omega⟩
          · simp (disch := first | assumption | omega) only [zA, zB, zC, zD, zE, zF, zG, q0c, qz6, qz7, zH, zI, dpos, dneg, zJ, zK, zL, zM, zN, zO, zP, qdk, qdj, q0e, ex, ek, elk, ec, em, up1]
          · have hy : y.1 ∈ out ++ [x.1] := hy
            rw [List.mem_append, List.mem_singleton] at hy
            rcases hy with hy | hy
            · exact p4 y hy
            · rw [Pm.ext hy]; exact hHx
          · rcases (q72 c ex y).1 hy with h | rfl
            · exact (p7 y h).mono (fun z hz => .gen (List.mem_append_left _ hz))
            · exact .gen (show y.1 ∈ out ++ [y.1] by simp)
      · obtain rfl : i = (can H).length := by omega
        rw [List.take_length] at p7
        refine .inr ⟨.inl (out, ()), ?_, out, rfl, p3, fun x => ⟨fun h => h.le hH p4, fun h => p7 x (q7a.2 h)⟩, p4, p5, by omega⟩
        simp (disch := first | assumption | omega) only [zA, zB, zC, zD, zE, zF, zG, q0c, qz6, qz7, zH, zI, dpos, dneg, zJ, zK, zL, zM, zN, zO, zP, qdk, qdj])
  refine ⟨out, ?_, q1, q2, q3, q4, q5⟩
  simp (disch := first | assumption | omega) only [zA, zB, zC, zD, zE, zF, zG, q0c, qz6, qz7, zH, zI, dpos, dneg, zJ, zK, zL, zM, zN, zO, zP, qdl, e0, el, eid, e1, e]
theorem q8f (hn : Fu n) {l t1 t11 t17 : List (List Int)} (hl : ∀ p ∈ l, PK k p) (hll : l.length ≤ 1000000000) (p c : Pm k hk) {a12 a13 a18 a19 : Int} {S : Pm k hk → Prop} {met : Option KS} {gens all : List (List Int)} (h : Gw hk S met gens all) :
    ∃ met' gens' all', iterN (qds n) n (((), ((), ((), ()))), t1, l, p.1, c.1, t11, a12, a13, t17, a18, a19, l, (l.length : Int), 0, met, gens, all, ()) = some (.inl (((), ((), ((), ()))), t1, l, p.1, t11, a12, a13, t17, a18, a19, met', gens', all', ())) ∧ Gw hk (fun y => S y ∨ ∃ x, dn l x ∧ y = cj x c) met' gens' all' := by
  obtain ⟨r, e, met', gens', all', rfl, h2⟩ := qz2 (f := qds n) hn
    (fun d => ∃ (i : Nat) (met : Option KS) (gens all : List (List Int)), d = (((), ((), ((), ()))), t1, l, p.1, c.1, t11, a12, a13, t17, a18, a19, l, (l.length : Int), (i : Int), met, gens, all, ()) ∧ i ≤ l.length ∧ Gw hk (fun y => S y ∨ ∃ x, dn (l.take i) x ∧ y = cj x c) met gens all)
    (fun d => ((l.length : Int) - d.2.2.2.2.2.2.2.2.2.2.2.2.2.1).toNat)
    (fun r => ∃ met' gens' all', r = .inl (((), ((), ((), ()))), t1, l, p.1, t11, a12, a13, t17, a18, a19, met', gens', all', ()) ∧ Gw hk (fun y => S y ∨ ∃ x, dn l x ∧ y = cj x c) met' gens' all')
    (d := (((), ((), ((), ()))), t1, l, p.1, c.1, t11, a12, a13, t17, a18, a19, l, (l.length : Int), 0, met, gens, all, ()))
    ⟨0, met, gens, all, rfl, Nat.zero_le _, by
      have : (fun y => S y ∨ ∃ x, dn (l.take 0) x ∧ y = cj x c) = S := funext fun y => propext ⟨fun h => h.elim id (fun ⟨x, hx, _⟩ => absurd hx (q73 x)), .inl⟩
      rw [this]; exact h⟩ (by simp only; omega) (by
      rintro d ⟨i, met, gens, all, rfl, h1, h2⟩
      by_cases c1 : i < l.length
      · obtain ⟨x, ex, hx⟩ := q71 (hk := hk) hl c1
        obtain ⟨met', gens', all', e, q⟩ := q7j hn h2 (cj x c)
        have ec := q7y hn c x
        refine .inl ⟨(((), ((), ((), ()))), t1, l, p.1, c.1, t11, a12, a13, t17, a18, a19, l, (l.length : Int), ((i + 1 : Nat) : Int), met', gens', all', ()), ?_, ⟨i + 1, met', gens', all', rfl, c1, ?_⟩, by simp only; omega⟩
        · simp (disch := first | assumption | omega) only [zA, zB, zC, zD, zE, zF, zG, q0c, qz6, qz7, zH, zI, dpos, dneg, zJ, zK, zL, zM, zN, zO, zP, qds, qdr, q0e, ex, ec, e, up1]
        · have : (fun y => S y ∨ ∃ x, dn (l.take (i + 1)) x ∧ y = cj x c) = fun y => (S y ∨ ∃ x, dn (l.take i) x ∧ y = cj x c) ∨ y = cj x c := funext fun y => propext (by
            constructor
            · rintro (h | ⟨z, hz, rfl⟩)
              · exact .inl (.inl h)
              · rcases (q72 c1 ex z).1 hz with h | rfl
                · exact .inl (.inr ⟨z, h, rfl⟩)
                · exact .inr rfl
            · rintro ((h | ⟨z, hz, rfl⟩) | rfl)
              · exact .inl h
              · exact .inr ⟨z, (q72 c1 ex z).2 (.inl hz), rfl⟩
              · exact .inr ⟨x, (q72 c1 ex x).2 (.inr rfl), rfl⟩)
          rw [this]; exact q
      · obtain rfl : i = l.length := by omega
        rw [List.take_length] at h2
        refine .inr ⟨_, ?_, met, gens, all, rfl, h2⟩
        simp (disch := first | assumption | omega) only [zA, zB, zC, zD, zE, zF, zG, q0c, qz6, qz7, zH, zI, dpos, dneg, zJ, zK, zL, zM, zN, zO, zP, qds, qdr])
  exact ⟨met', gens', all', e, h2⟩
theorem q8g (hn : Fu n) {l G t11 : List (List Int)} (hl : ∀ p ∈ l, PK k p) (hll : l.length ≤ 1000000000) (hG : ∀ p ∈ G, PK k p) (hGl : G.length ≤ 1000000000) (p : Pm k hk) {a12 a13 : Int} {S : Pm k hk → Prop} {met : Option KS} {gens all : List (List Int)} (h : Gw hk S met gens all) :
    ∃ met' gens' all', iterN (qdu n) n (((), ((), ((), ()))), G, l, p.1, t11, a12, a13, G, (G.length : Int), 0, met, gens, all, ()) = some (.inl (((), ((), ((), ()))), G, l, t11, a12, a13, met', gens', all', ())) ∧ Gw hk (fun y => S y ∨ ∃ q x, dn G q ∧ dn l x ∧ y = cj x (cm p q)) met' gens' all' := by
  obtain ⟨r, e, met', gens', all', rfl, h2⟩ := qz2 (f := qdu n) hn
    (fun d => ∃ (i : Nat) (met : Option KS) (gens all : List (List Int)), d = (((), ((), ((), ()))), G, l, p.1, t11, a12, a13, G, (G.length : Int), (i : Int), met, gens, all, ()) ∧ i ≤ G.length ∧ Gw hk (fun y => S y ∨ ∃ q x, dn (G.take i) q ∧ dn l x ∧ y = cj x (cm p q)) met gens all)
    (fun d => ((G.length : Int) - d.2.2.2.2.2.2.2.2.2.1).toNat)
    (fun r => ∃ met' gens' all', r = .inl (((), ((), ((), ()))), G, l, t11, a12, a13, met', gens', all', ()) ∧ Gw hk (fun y => S y ∨ ∃ q x, dn G q ∧ dn l x ∧ y = cj x (cm p q)) met' gens' all')
    (d := (((), ((), ((), ()))), G, l, p.1, t11, a12, a13, G, (G.length : Int), 0, met, gens, all, ()))
    ⟨0, met, gens, all, rfl, Nat.zero_le _, by
      have : (fun y => S y ∨ ∃ q x, dn (G.take 0) q ∧ dn l x ∧ y = cj x (cm p q)) = S := funext fun y => propext ⟨fun h => h.elim id (fun ⟨q, x, hx, _⟩ => absurd hx (q73 q)), .inl⟩
      rw [this]; exact h⟩ (by simp only; omega) (by
      rintro d ⟨i, met, gens, all, rfl, h1, h2⟩
      by_cases c1 : i < G.length
      · obtain ⟨q, eq, hq⟩ := q71 (hk := hk) hG c1
        have ec := q7x hn p q
        obtain ⟨met', gens', all', e, q5⟩ := q8f hn (t1 := G) (t11 := t11) (t17 := G) hl hll p (cm p q) (a12 := a12) (a13 := a13) (a18 := (G.length : Int)) (a19 := (i : Int)) h2
        refine .inl ⟨(((), ((), ((), ()))), G, l, p.1, t11, a12, a13, G, (G.length : Int), ((i + 1 : Nat) : Int), met', gens', all', ()), ?_, ⟨i + 1, met', gens', all', rfl, c1, ?_⟩, by simp only; omega⟩
        · simp (disch := first | assumption | omega) only [zA, zB, zC, zD, zE, zF, zG, q0c, qz6, qz7, zH, zI, dpos, dneg, zJ, zK, zL, zM, zN, zO, zP, qdu, qdt, q0e, eq, ec, e, up1]
        · have : (fun y => S y ∨ ∃ q x, dn (G.take (i + 1)) q ∧ dn l x ∧ y = cj x (cm p q)) = fun y => (S y ∨ ∃ q x, dn (G.take i) q ∧ dn l x ∧ y = cj x (cm p q)) ∨ ∃ x, dn l x ∧ y = cj x (cm p q) := funext fun y => propext (by
            constructor
            · rintro (h | ⟨z, x, hz, hx, rfl⟩)
              · exact .inl (.inl h)
              · rcases (q72 c1 eq z).1 hz with h | rfl
                · exact .inl (.inr ⟨z, x, h, hx, rfl⟩)
                · exact .inr ⟨x, hx, rfl⟩
            · rintro ((h | ⟨z, x, hz, hx, rfl⟩) | ⟨x, hx, rfl⟩)
              · exact .inl h
              · exact .inr ⟨z, x, (q72 c1 eq z).2 (.inl hz), hx, rfl⟩
              · exact .inr ⟨q, x, (q72 c1 eq q).2 (.inr rfl), hx, rfl⟩)
          rw [this]; exact q5
      · obtain rfl : i = G.length := by omega
        rw [List.take_length] at h2
        refine .inr ⟨_, ?_, met, gens, all, rfl, h2⟩
        simp (disch := first | assumption | omega) only [zA, zB, zC, zD, zE, zF, zG, q0c, qz6, qz7, zH, zI, dpos, dneg, zJ, zK, zL, zM, zN, zO, zP, qdu, qdt])
  exact ⟨met', gens', all', e, h2⟩
theorem q8h (hn : Fu n) {l G : List (List Int)} (hl : ∀ p ∈ l, PK k p) (hll : l.length ≤ 1000000000) (hG : ∀ p ∈ G, PK k p) (hGl : G.length ≤ 1000000000) {met : Option KS} {gens all : List (List Int)} (h : Gw hk (fun _ => False) met gens all) :
    ∃ met' gens' all', iterN (qdw n) n (((), ((), ((), ()))), G, l, G, (G.length : Int), 0, met, gens, all, ()) = some (.inl (met', gens', all', ())) ∧ Gw hk (fun y => ∃ p q x, dn G p ∧ dn G q ∧ dn l x ∧ y = cj x (cm p q)) met' gens' all' := by
  obtain ⟨r, e, met', gens', all', rfl, h2⟩ := qz2 (f := qdw n) hn
    (fun d => ∃ (i : Nat) (met : Option KS) (gens all : List (List Int)), d = (((), ((), ((), ()))), G, l, G, (G.length : Int), (i : Int), met, gens, all, ()) ∧ i ≤ G.length ∧ Gw hk (fun y => ∃ p q x, dn (G.take i) p ∧ dn G q ∧ dn l x ∧ y = cj x (cm p q)) met gens all)
    (fun d => ((G.length : Int) - d.2.2.2.2.2.1).toNat)
    (fun r => ∃ met' gens' all', r = .inl (met', gens', all', ()) ∧ Gw hk (fun y => ∃ p q x, dn G p ∧ dn G q ∧ dn l x ∧ y = cj x (cm p q)) met' gens' all')
    (d := (((), ((), ((), ()))), G, l, G, (G.length : Int), 0, met, gens, all, ()))
    ⟨0, met, gens, all, rfl, Nat.zero_le _, by
      have : (fun y => ∃ p q x, dn (G.take 0) p ∧ dn G q ∧ dn l x ∧ y = cj x (cm p q)) = fun _ => False := funext fun (y : Pm k hk) => propext ⟨fun ⟨p, q, x, hx, _⟩ => absurd hx (q73 p), False.elim⟩
      rw [this]; exact h⟩ (by simp only; omega) (by
      rintro d ⟨i, met, gens, all, rfl, h1, h2⟩
      by_cases c1 : i < G.length
      · obtain ⟨p, ep, hp⟩ := q71 (hk := hk) hG c1
        obtain ⟨met', gens', all', e, q5⟩ := q8g hn (t11 := G) hl hll hG hGl p (a12 := (G.length : Int)) (a13 := (i : Int)) h2
        refine .inl ⟨(((), ((), ((), ()))), G, l, G, (G.length : Int), ((i + 1 : Nat) : Int), met', gens', all', ()), ?_, ⟨i + 1, met', gens', all', rfl, c1, ?_⟩, by simp only; omega⟩
        · simp (disch := first | assumption | omega) only [zA, zB, zC, zD, zE, zF, zG, q0c, qz6, qz7, zH, zI, dpos, dneg, zJ, zK, zL, zM, zN, zO, zP, qdw, qdv, q0e, ep, e, up1]
        · have : (fun y => ∃ p q x, dn (G.take (i + 1)) p ∧ dn G q ∧ dn l x ∧ y = cj x (cm p q)) = fun y => (∃ p q x, dn (G.take i) p ∧ dn G q ∧ dn l x ∧ y = cj x (cm p q)) ∨ ∃ q x, dn G q ∧ dn l x ∧ y = cj x (cm p q) := funext fun y => propext (by
            constructor
            · rintro ⟨z, q, x, hz, hq, hx, rfl⟩
              rcases (q72 c1 ep z).1 hz with h | rfl
              · exact .inl ⟨z, q, x, h, hq, hx, rfl⟩
              · exact .inr ⟨q, x, hq, hx, rfl⟩
            · rintro (⟨z, q, x, hz, hq, hx, rfl⟩ | ⟨q, x, hq, hx, rfl⟩)
              · exact ⟨z, q, x, (q72 c1 ep z).2 (.inl hz), hq, hx, rfl⟩
              · exact ⟨p, q, x, (q72 c1 ep p).2 (.inr rfl), hq, hx, rfl⟩)
          rw [this]; exact q5
      · obtain rfl : i = G.length := by omega
        rw [List.take_length] at h2
        refine .inr ⟨_, ?_, met, gens, all, rfl, h2⟩
        simp (disch := first | assumption | omega) only [zA, zB, zC, zD, zE, zF, zG, q0c, qz6, qz7, zH, zI, dpos, dneg, zJ, zK, zL, zM, zN, zO, zP, qdw, qdv])
  exact ⟨met', gens', all', e, h2⟩
theorem q8i (hn : Fw n) {H : Pm k hk → Prop} (hH : Sub H) : qdz n (can H) = some (can (Dr H), ()) := by
  obtain ⟨G, e1, q1, q2, q3, q4, q5⟩ := q8e hn hH
  have h0 := q74 hH
  have e0 : idx (can H) 0 = some (row (can H) 0) := q0e (u := 0) h0
  have el : (((row (can H) 0).length : Nat) : Int) = (k : Int) := by rw [q75 hH]
  have eid := q1a hn.fu k hk.1 hk.2
  have hcl := q68 (H := H)
  obtain ⟨met, e2, h2⟩ := Gw.start hn.fu hk
  obtain ⟨met', gens', all', e3, h3⟩ := q8h hn.fu (l := can H) q67 (by omega) q1 (by omega) h2
  have e4 := h3.sorted hn
  have e5 : can (hk := hk) (Cl (fun y => ∃ p q x, dn G p ∧ dn G q ∧ dn (can H) x ∧ y = cj x (cm p q))) = can (Dr H) := by
    have e6 : (fun y => ∃ p q x, dn G p ∧ dn G q ∧ dn (can H) x ∧ y = cj x (cm p q)) = fun y => ∃ a b x, dn G a ∧ dn G b ∧ Cl (dn G) x ∧ y = cj x (cm a b) := funext fun (y : Pm k hk) => propext (by
      constructor
      · rintro ⟨p, q, x, hp, hq, hx, rfl⟩; exact ⟨p, q, x, hp, hq, (q2 x).2 (q7a.1 hx), rfl⟩
      · rintro ⟨p, q, x, hp, hq, hx, rfl⟩; exact ⟨p, q, x, hp, hq, q7a.2 ((q2 x).1 hx), rfl⟩)
    have e7 : Cl (dn G) = H := funext fun x => propext (q2 x)
    rw [e6]
    refine q69 (fun x => ?_)
    rw [Dr.gens, e7]
  rw [e5] at e4
  simp (disch := first | assumption | omega) only [zA, zB, zC, zD, zE, zF, zG, q0c, qz6, qz7, zH, zI, dpos, dneg, zJ, zK, zL, zM, zN, zO, zP, qdz, e1, e0, el, qdy, eid, e2, qdx, e3, e4]
end Go.Proofs.Ytemejeiajekmcaa.V
namespace Go.Proofs.Ytemejeiajekmcaa.V
open Go Classical Grp
set_option linter.unusedVariables false
set_option linter.all false
variable {n : Nat} {k : Nat} {hk : 1 ≤ k ∧ k ≤ 7}
theorem q8j (hn : Fu n) (H : Pm k hk → Prop) : qc9 n (can H) = some (can H, ()) :=
  q1n hn _ (by have := q68 (H := H); omega) q7n
theorem q8k (hn : Fw n) {H : Pm k hk → Prop} (hH : Sub H) : qd0 n (can H) = some (can (Dr H), 0, ()) := by
  simp (disch := first | assumption | omega) only [zA, zB, zC, zD, zE, zF, zG, q0c, qz6, qz7, zH, zI, dpos, dneg, zJ, zK, zL, zM, zN, zO, zP, qd0, q8a hn hH, q8i hn hH, q8j hn.fu]
noncomputable def ser : Nat → (Pm k hk → Prop) → List (List (List Int))
  | 0, _ => []
  | m + 1, H => if (can (Dr H)).length = (can H).length then [] else can (Dr H) :: ser m (Dr H)
theorem Dr.len {H : Pm k hk → Prop} (hH : Sub H) : (can (Dr H)).length ≤ (can H).length :=
  q1q can_asc.nodup (fun p hp => by
    obtain ⟨h, hp⟩ := q65.1 hp
    exact q65.2 ⟨h, Dr.le hH hp⟩)
theorem q8l : ∀ (m : Nat) (H : Pm k hk → Prop), (ser m H).length ≤ m
  | 0, _ => Nat.zero_le _
  | m + 1, H => by
    unfold ser
    by_cases c : (can (Dr H)).length = (can H).length
    · rw [if_pos c]; exact Nat.zero_le _
    · rw [if_neg c, List.length_cons]; have := q8l m (Dr H); omega
noncomputable def q8m (H : Pm k hk → Prop) : List (List (List Int)) := can H :: ser (can H).length H
theorem q8n (H : Pm k hk → Prop) : (q8m H).length ≤ 5041 := by
  unfold q8m; rw [List.length_cons]
  have := q8l (can H).length H
  have := q68 (H := H); omega
theorem q8o : ∀ (m : Nat) (H : Pm k hk → Prop) (l), l ∈ ser m H → ∃ K : Pm k hk → Prop, l = can K
  | 0, _, _, h => nomatch h
  | m + 1, H, l, h => by
    unfold ser at h
    by_cases c : (can (Dr H)).length = (can H).length
    · rw [if_pos c] at h; cases h
    · rw [if_neg c, List.mem_cons] at h
      rcases h with rfl | h
      · exact ⟨_, rfl⟩
      · exact q8o m _ l h
theorem q8p {H : Pm k hk → Prop} {l} (h : l ∈ q8m H) : ∃ K : Pm k hk → Prop, l = can K := by
  unfold q8m at h
  rw [List.mem_cons] at h
  rcases h with rfl | h
  · exact ⟨_, rfl⟩
  · exact q8o _ _ l h
theorem q8q {D O : Type} {f : D → Option (D ⊕ O)} (hn : Fu n) (st : (Pm k hk → Prop) → List (List (List Int)) → D) (r : List (List (List Int)) → O)
    (hstep : ∀ (H : Pm k hk → Prop) out, Sub H → out.length ≤ 5041 → out.getLast? = some (can H) → f (st H out) = if (can (Dr H)).length = (can H).length then some (.inr (r out)) else some (.inl (st (Dr H) (out ++ [can (Dr H)])))) {H : Pm k hk → Prop} (hH : Sub H) :
    iterN f n (st H [can H]) = some (r (q8m H)) := by
  obtain ⟨r', e, rfl⟩ := q6w (f := f) hn
    (fun (g : Nat × (Pm k hk → Prop)) d => ∃ out, d = st g.2 out ∧ Sub g.2 ∧ out ++ ser g.1 g.2 = q8m H ∧ (can g.2).length ≤ g.1 ∧ out.getLast? = some (can g.2))
    (fun g => g.1)
    (fun r' => r' = r (q8m H))
    ((can H).length, H) (d := st H [can H])
    ⟨[can H], rfl, hH, rfl, Nat.le_refl _, rfl⟩ (by simp only; have := q68 (H := H); omega) (by
      rintro ⟨m, K⟩ d ⟨out, rfl, h1, h2, h3, h5⟩
      have hs := hstep K out h1 (by
        have := q8n H
        rw [← h2, List.length_append] at this
        omega) h5
      have hp : 0 < (can K).length := q74 h1
      have h3 : (can K).length ≤ m := h3
      cases m with
      | zero => omega
      | succ m =>
        unfold ser at h2
        simp only at h2
        by_cases c : (can (Dr K)).length = (can K).length
        · rw [if_pos c] at hs h2
          rw [List.append_nil] at h2
          exact .inr ⟨_, hs, by rw [h2]⟩
        · rw [if_neg c] at hs h2
          have h4 : (can (Dr K)).length ≤ (can K).length := Dr.len h1
          exact .inl ⟨_, (m, Dr K), hs, ⟨_, rfl, Dr.sub K, by rw [List.append_assoc]; exact h2, show (can (Dr K)).length ≤ m by omega, by simp⟩, Nat.lt_succ_self m⟩)
  exact e
theorem q8r (hn : Fw n) {H : Pm k hk → Prop} (hH : Sub H) : qd3 n (can H) = some (q8m H, 0, ()) := by
  have e := q8q (f := qd2 n) hn.fu (fun K out => (can K, out, ())) (fun out => .inl (out, 0, ())) (fun K out hK ho _ => by
    have e1 := q8i hn hK
    have e2 := q8j hn.fu (Dr K)
    have hl : ([can (Dr K)] : List (List (List Int))).length = 1 := rfl
    by_cases c : (can (Dr K)).length = (can K).length
    · rw [if_pos c]
      simp (disch := first | assumption | omega) only [zA, zB, zC, zD, zE, zF, zG, q0c, qz6, qz7, zH, zI, dpos, dneg, zJ, zK, zL, zM, zN, zO, zP, qd2, qd1, e1]
    · rw [if_neg c]
      simp (disch := first | assumption | omega) only [zA, zB, zC, zD, zE, zF, zG, q0c, qz6, qz7, zH, zI, dpos, dneg, zJ, zK, zL, zM, zN, zO, zP, qd2, qd1, e1, e2]) hH
  simp (disch := first | assumption | omega) only [zA, zB, zC, zD, zE, zF, zG, q0c, qz6, qz7, zH, zI, dpos, dneg, zJ, zK, zL, zM, zN, zO, zP, qd3, q8a hn hH, q8j hn.fu, e]
theorem q8s (H : Pm k hk → Prop) : ∃ l, idx (q8m H) (IntKind.i64.wrap (((q8m H).length : Int) - 1)) = some l ∧ l ∈ q8m H := by
  have h1 : 1 ≤ (q8m H).length := by unfold q8m; rw [List.length_cons]; omega
  have h2 := q8n H
  rw [Srt.dn1 h1 (by omega)]
  have hlt : (q8m H).length - 1 < (q8m H).length := by omega
  refine ⟨(q8m H)[(q8m H).length - 1], ?_, List.getElem_mem _⟩
  unfold idx
  rw [if_pos (by omega), Int.toNat_natCast, List.getElem?_eq_getElem hlt]
noncomputable def solv (H : Pm k hk → Prop) : Bool := decide ((((q8m H).getLast?.getD []).length : Int) = 1)
theorem q8t {H : Pm k hk → Prop} {l} (h : idx (q8m H) (IntKind.i64.wrap (((q8m H).length : Int) - 1)) = some l) : decide ((l.length : Int) = 1) = solv H := by
  have h1 : 1 ≤ (q8m H).length := by unfold q8m; rw [List.length_cons]; omega
  have h2 := q8n H
  rw [Srt.dn1 h1 (by omega)] at h
  unfold idx at h
  rw [if_pos (by omega), Int.toNat_natCast] at h
  unfold solv
  rw [List.getLast?_eq_getElem?, h]
  rfl
theorem q8u (hn : Fw n) {H : Pm k hk → Prop} (hH : Sub H) : qff n (can H) = some (solv H, 0, ()) := by
  obtain ⟨l, e, hl⟩ := q8s H
  simp (disch := first | assumption | omega) only [zA, zB, zC, zD, zE, zF, zG, q0c, qz6, qz7, zH, zI, dpos, dneg, zJ, zK, zL, zM, zN, zO, zP, qff, q8r hn hH, e, q8t e]
theorem q8v (hn : Fu n) (X : List (List (List Int))) (hl : X.length ≤ 1000000000) (h : ∀ l ∈ X, qd9 n l l = some (true, ())) : qfi n X X = some (true, ()) := by
  have g : iterN (qfh n) n (X, X, 0, ()) = some (.inr (.inl ())) := by
    refine qzy hn (fun i => (X, X, (i : Int), ())) X.length (by omega) rfl (fun i hi => ?_) ?_
    · have ei : idx X (i : Int) = some (X.getD i []) := qz4 [] hi
      have hm : X.getD i [] ∈ X := by rw [List.getD_eq_getElem?_getD, List.getElem?_eq_getElem hi]; exact List.getElem_mem hi
      have e := h _ hm
      simp (disch := first | assumption | omega) only [zA, zB, zC, zD, zE, zF, zG, q0c, qz6, qz7, zH, zI, dpos, dneg, zJ, zK, zL, zM, zN, zO, zP, qfh, qfg, ei, e, up1]
    · simp (disch := first | assumption | omega) only [zA, zB, zC, zD, zE, zF, zG, q0c, qz6, qz7, zH, zI, dpos, dneg, zJ, zK, zL, zM, zN, zO, zP, qfh, qfg]
  simp (disch := first | assumption | omega) only [zA, zB, zC, zD, zE, zF, zG, q0c, qz6, qz7, zH, zI, dpos, dneg, zJ, zK, zL, zM, zN, zO, zP, qfi, g]
theorem q8w (hn : Fu n) (H : Pm k hk → Prop) : qfi n (q8m H) (q8m H) = some (true, ()) :=
  q8v hn _ (by have := q8n H; omega) (fun l hl => by obtain ⟨K, rfl⟩ := q8p hl; exact q7o hn K)
theorem q8x {P : Nat → Prop} (h : ∀ n, Fw n → P n) : ∃ n, P n := ⟨_, h (1180591620717411303424 + 1099511627776) (Nat.le_refl _)⟩
end Go.Proofs.Ytemejeiajekmcaa.V
namespace Go.Proofs.Ytemejeiajekmcaa.V
open Go Classical Grp
set_option linter.unusedVariables false
set_option linter.all false
variable {n : Nat} {k : Nat} {hk : 1 ≤ k ∧ k ≤ 7}
theorem q8y (hn : Fu n) (c p : Pm k hk) : qfm n c.1 p.1 = some ((cj c p).1, ()) := by
  simp only [qfm, q7w hn, q7d hn, Option.bind_some]; rfl
theorem q8z (hn : Fu n) (p q : List Int) (hp : p.length ≤ 1000000000) : qfp n p q = some (decide (p = q), ()) := by
  by_cases hl : p.length = q.length
  · have g : iterN (qfo n) n (p, q, (p.length : Int), 0, ()) = some (if ∀ i, i < p.length → rd p (i : Int) = rd q (i : Int) then .inr (.inl ()) else .inl (false, ())) := by
      refine (qzz (f := qfo n) hn (fun i => (p, q, (p.length : Int), (i : Int), ())) p.length (fun i => rd p (i : Int) = rd q (i : Int)) (d := (p, q, (p.length : Int), 0, ())) (r := .inr (.inl ())) (r' := .inl (false, ())) (by omega) rfl (fun i hi _ hp => ?_) (fun i hi _ hp => ?_) (fun _ => ?_)).trans (by congr)
      · simp (disch := first | assumption | omega) only [zA, zB, zC, zD, zE, zF, zG, q0c, qz6, qz7, zH, zI, dpos, dneg, zJ, zK, zL, zM, zN, zO, zP, qfo, qfn, q0f, hp, up1]
      · simp (disch := first | assumption | omega) only [zA, zB, zC, zD, zE, zF, zG, q0c, qz6, qz7, zH, zI, dpos, dneg, zJ, zK, zL, zM, zN, zO, zP, qfo, qfn, q0f, up1]
      · simp (disch := first | assumption | omega) only [zA, zB, zC, zD, zE, zF, zG, q0c, qz6, qz7, zH, zI, dpos, dneg, zJ, zK, zL, zM, zN, zO, zP, qfo, qfn]
    by_cases e : p = q
    · rw [if_pos (fun i hi => by rw [e])] at g
      subst e
      simp (disch := first | assumption | omega) only [zA, zB, zC, zD, zE, zF, zG, q0c, qz6, qz7, zH, zI, dpos, dneg, zJ, zK, zL, zM, zN, zO, zP, qfp, g]
    · rw [if_neg (fun h => e (q52 hl h))] at g
      rw [decide_eq_false e]
      simp (disch := first | assumption | omega) only [zA, zB, zC, zD, zE, zF, zG, q0c, qz6, qz7, zH, zI, dpos, dneg, zJ, zK, zL, zM, zN, zO, zP, qfp, g]
  · rw [decide_eq_false (fun e => hl (by rw [e]))]
    simp (disch := first | assumption | omega) only [zA, zB, zC, zD, zE, zF, zG, q0c, qz6, qz7, zH, zI, dpos, dneg, zJ, zK, zL, zM, zN, zO, zP, qfp]
theorem mem_row {l : List (List Int)} {p : List Int} : p ∈ l ↔ ∃ i, i < l.length ∧ row l i = p := by
  constructor
  · intro h
    obtain ⟨i, hi, e⟩ := List.getElem_of_mem h
    exact ⟨i, hi, by unfold row; rw [List.getD_eq_getElem?_getD, List.getElem?_eq_getElem hi]; exact e⟩
  · rintro ⟨i, hi, rfl⟩; exact q0d hi
theorem q80 : @qfl = @qet := rfl
def Zt (H : Pm k hk → Prop) : Pm k hk → Prop := fun x => H x ∧ ∀ y, H y → x * y = y * x
theorem Pm.dec_eq {x y : Pm k hk} : x.1 = y.1 ↔ x = y := ⟨Pm.ext, fun h => by rw [h]⟩
theorem q81 (hn : Fu n) (q x : Pm k hk) : qfq n q.1 x.1 = some (!decide (x * q = q * x), ()) := by
  have e := q8z hn (x * q).1 (q * x).1 (by have := (x * q).2.2; omega)
  by_cases c : x * q = q * x
  · rw [decide_eq_true (Pm.dec_eq.2 c)] at e
    rw [decide_eq_true c]
    simp (disch := first | assumption | omega) only [zA, zB, zC, zD, zE, zF, zG, q0c, qz6, qz7, zH, zI, dpos, dneg, zJ, zK, zL, zM, zN, zO, zP, qfq, q7c hn, e]
  · rw [decide_eq_false (fun h => c (Pm.dec_eq.1 h))] at e
    rw [decide_eq_false c]
    simp (disch := first | assumption | omega) only [zA, zB, zC, zD, zE, zF, zG, q0c, qz6, qz7, zH, zI, dpos, dneg, zJ, zK, zL, zM, zN, zO, zP, qfq, q7c hn, e]
theorem q82 (hn : Fu n) {G : List (List Int)} (hG : ∀ p ∈ G, PK k p) (hGl : G.length ≤ 1000000000) (x : Pm k hk) : qfu n G (x.1, ()) = some (!decide (∀ q : Pm k hk, dn G q → x * q = q * x), ()) := by
  rcases qz0 (f := qfs n) hn (fun i => (G, (x.1, ()), (G.length : Int), (i : Int), ())) G.length (fun i => ∀ q : Pm k hk, row G i = q.1 → x * q = q * x) (d := (G, (x.1, ()), (G.length : Int), 0, ())) (r := .inr (.inl ())) (r' := fun i => .inl ((i : Int), ())) (by omega) rfl (fun i hi _ hp => by
      obtain ⟨q, eq, hq⟩ := q71 (hk := hk) hG hi
      have e := q81 hn q x
      rw [decide_eq_true (hp q eq)] at e
      simp (disch := first | assumption | omega) only [zA, zB, zC, zD, zE, zF, zG, q0c, qz6, qz7, zH, zI, dpos, dneg, zJ, zK, zL, zM, zN, zO, zP, qfs, qfr, q0e, eq, e, up1]) (fun i hi _ hp => by
      obtain ⟨q, eq, hq⟩ := q71 (hk := hk) hG hi
      have e := q81 hn q x
      rw [decide_eq_false (fun h2 => hp (fun z hz => by
        have : z = q := Pm.ext (hz.symm.trans eq)
        rw [this]; exact h2))] at e
      simp (disch := first | assumption | omega) only [zA, zB, zC, zD, zE, zF, zG, q0c, qz6, qz7, zH, zI, dpos, dneg, zJ, zK, zL, zM, zN, zO, zP, qfs, qfr, q0e, eq, e, up1]) (fun _ => by
      simp (disch := first | assumption | omega) only [zA, zB, zC, zD, zE, zF, zG, q0c, qz6, qz7, zH, zI, dpos, dneg, zJ, zK, zL, zM, zN, zO, zP, qfs, qfr]) with ⟨ha, e⟩ | ⟨i, hi, _, hp, e⟩
  · have : ∀ q : Pm k hk, dn G q → x * q = q * x := fun q hq => by
      obtain ⟨i, hi, e⟩ := mem_row.1 hq
      exact ha i hi q e
    rw [decide_eq_true this]
    have z : ¬ (0 : Int) ≤ -1 := by decide
    simp (disch := first | assumption | omega) only [zA, zB, zC, zD, zE, zF, zG, q0c, qz6, qz7, zH, zI, dpos, dneg, zJ, zK, zL, zM, zN, zO, zP, qfu, qft, e, z]
  · rw [decide_eq_false (fun h2 => hp (fun q eq => h2 q (show q.1 ∈ G from eq ▸ q0d hi)))]
    simp (disch := first | assumption | omega) only [zA, zB, zC, zD, zE, zF, zG, q0c, qz6, qz7, zH, zI, dpos, dneg, zJ, zK, zL, zM, zN, zO, zP, qfu, qft, e]
theorem q83 {α : Type} {l : List α} {i : Nat} (hi : i < l.length) (P : α → Bool) (x : α) (hx : l[i] = x) : (l.take (i + 1)).filter P = (l.take i).filter P ++ (if P x then [x] else []) := by
  rw [List.take_add_one, List.filter_append, List.getElem?_eq_getElem hi, hx]
  congr 1
  by_cases c : P x
  · simp [c]
  · simp [c]
theorem q84 {H : Pm k hk → Prop} {P : List Int → Bool} {K : Pm k hk → Prop} (h : ∀ x : Pm k hk, K x ↔ H x ∧ P x.1 = true) : (can H).filter P = can K :=
  Asc.ext (List.Pairwise.filter _ can_asc) can_asc (fun p => by
    rw [List.mem_filter, q65, q65]
    constructor
    · rintro ⟨⟨hp, hx⟩, c⟩; exact ⟨hp, (h ⟨p, hp⟩).2 ⟨hx, c⟩⟩
    · rintro ⟨hp, hx⟩; exact ⟨⟨hp, ((h ⟨p, hp⟩).1 hx).1⟩, ((h ⟨p, hp⟩).1 hx).2⟩)
theorem q85 {l : List (List Int)} {i : Nat} (h : i < l.length) : l[i] = row l i := by unfold row; rw [List.getD_eq_getElem?_getD, List.getElem?_eq_getElem h]; rfl
theorem q86 (hn : Fw n) {H : Pm k hk → Prop} (hH : Sub H) : qfx n (can H) = some (can (Zt H), 0, ()) := by
  have hl := q68 (H := H)
  obtain ⟨G, f1, q1, q2, q3, q4, q5⟩ := q8e hn hH
  let P : List Int → Bool := fun p => decide (∃ hp : PK k p, ∀ q : Pm k hk, dn G q → Pm.mk p hp * q = q * Pm.mk p hp)
  have hP : ∀ x : Pm k hk, P x.1 = decide (∀ q : Pm k hk, dn G q → x * q = q * x) := fun x => by
    by_cases c : ∀ q : Pm k hk, dn G q → x * q = q * x
    · rw [decide_eq_true c]; exact decide_eq_true ⟨x.2, c⟩
    · rw [decide_eq_false c]; exact decide_eq_false (fun ⟨_, h⟩ => c h)
  have g : iterN (qfw n) n (G, can H, ((can H).length : Int), 0, [], ()) = some (.inl ((can H).filter P, ())) := by
    refine qzy hn.fu (fun i => (G, can H, ((can H).length : Int), (i : Int), ((can H).take i).filter P, ())) (can H).length (by omega) (by simp) (fun i hi => ?_) ?_
    · obtain ⟨x, ex, hx⟩ := q71 (hk := hk) (q67 (H := H)) hi
      have e := q82 hn.fu q1 (by omega) x
      have ft := q83 hi P x.1 (by rw [q85 hi, ex])
      have hlen : (((can H).take i).filter P).length ≤ 5040 := Nat.le_trans (List.length_filter_le _ _) (by rw [List.length_take]; omega)
      have ecl := q1l (n := n) x.1 (by have := x.2.2; omega)
      rw [hP x] at ft
      by_cases c : ∀ q : Pm k hk, dn G q → x * q = q * x
      · rw [decide_eq_true c] at e
        rw [decide_eq_true c, if_pos rfl] at ft
        rw [ft]
        have hl1 : ([x.1] : List (List Int)).length = 1 := rfl
        simp (disch := first | assumption | omega) only [zA, zB, zC, zD, zE, zF, zG, q0c, qz6, qz7, zH, zI, dpos, dneg, zJ, zK, zL, zM, zN, zO, zP, qfw, qfv, q0e, ex, e, ecl, up1]
      · rw [decide_eq_false c] at e
        rw [decide_eq_false c, if_neg (by decide), List.append_nil] at ft
        rw [ft]
        simp (disch := first | assumption | omega) only [zA, zB, zC, zD, zE, zF, zG, q0c, qz6, qz7, zH, zI, dpos, dneg, zJ, zK, zL, zM, zN, zO, zP, qfw, qfv, q0e, ex, e, up1]
    · rw [List.take_length]
      simp (disch := first | assumption | omega) only [zA, zB, zC, zD, zE, zF, zG, q0c, qz6, qz7, zH, zI, dpos, dneg, zJ, zK, zL, zM, zN, zO, zP, qfw, qfv]
  have e2 : (can H).filter P = can (Zt H) := q84 (fun x => by
    rw [hP x, decide_eq_true_eq]
    exact and_congr Iff.rfl ⟨fun h q hq => h q (q3 q hq), fun h y hy => q3c h ((q2 y).2 hy)⟩)
  rw [e2] at g
  simp (disch := first | assumption | omega) only [zA, zB, zC, zD, zE, zF, zG, q0c, qz6, qz7, zH, zI, dpos, dneg, zJ, zK, zL, zM, zN, zO, zP, qfx, q8a hn hH, f1, g]
def Drn : Nat → (Pm k hk → Prop) → Pm k hk → Prop
  | 0, H => H
  | m + 1, H => Drn m (Dr H)
theorem Drn.sub : ∀ {m : Nat} {H : Pm k hk → Prop}, Sub H → Sub (Drn m H)
  | 0, _, h => h
  | m + 1, H, h => Drn.sub (m := m) (Dr.sub H)
theorem Drn.mono : ∀ {m : Nat} {H K : Pm k hk → Prop}, (∀ x, K x → H x) → ∀ x, Drn m K x → Drn m H x
  | 0, _, _, h => h
  | m + 1, _, _, h => Drn.mono (m := m) (fun x hx => Dr.mono h hx)
theorem q87 {H K : Pm k hk → Prop} (h : ∀ x, K x → H x) (hl : (can K).length = (can H).length) : ∀ x, H x → K x := fun x hx => by
  have hp := q12 (can_asc (H := K)).nodup (L := can H) (fun p hp => by
    obtain ⟨hp, hx⟩ := q65.1 hp
    exact q65.2 ⟨hp, h _ hx⟩) (by omega)
  exact q66.1 (hp.symm.subset (q66.2 hx))
end Go.Proofs.Ytemejeiajekmcaa.V
namespace Go.Proofs.Ytemejeiajekmcaa.V
open Go Classical Grp
set_option linter.unusedVariables false
set_option linter.all false
variable {n : Nat} {k : Nat} {hk : 1 ≤ k ∧ k ≤ 7}
theorem q88 {S T : Pm k hk → Prop} (x : Pm k hk) (h : ∀ y, T y ↔ S y ∨ y = x) : (hasT k (upS S)).set (rank x.1) true = hasT k (upS T) := by
  rw [q6q x.2]
  congr 1
  funext q
  apply propext
  constructor
  · rintro (⟨hq, h1⟩ | rfl)
    · exact ⟨hq, (h _).2 (.inl h1)⟩
    · exact ⟨x.2, (h _).2 (.inr rfl)⟩
  · rintro ⟨hq, h1⟩
    rcases (h _).1 h1 with h1 | h1
    · exact .inl ⟨hq, h1⟩
    · exact .inr (congrArg Subtype.val h1)
theorem q89 {S : Pm k hk → Prop} (x : Pm k hk) : idx (hasT k (upS S)) (rank x.1 : Int) = some (decide (S x)) := by
  rw [q6p x.2]
  congr 1
  by_cases c : S x
  · rw [decide_eq_true c]; exact decide_eq_true ⟨x.2, c⟩
  · rw [decide_eq_false c]; exact decide_eq_false (fun ⟨_, h⟩ => c h)
theorem q9a : (· ∈ ([] : List (List Int))) = upS (fun _ : Pm k hk => False) := by
  funext q; apply propext; exact ⟨(fun h => nomatch h), fun ⟨_, h⟩ => h.elim⟩
theorem q9b (hn : Fu n) (hk : 1 ≤ k ∧ k ≤ 7) : qet n (k : Int) [] = some (setT k (upS (fun _ : Pm k hk => False)), ()) := by
  have := q6s hn hk.1 hk.2 (l := []) (by simp) (fun p h => nomatch h)
  rwa [q9a (hk := hk)] at this
def dne (H : Pm k hk → Prop) (l : List (List Int)) (i : Nat) : Pm k hk → Prop := fun y => ∃ x, dn (l.take i) x ∧ Cls H x y
noncomputable def clsOf (H : Pm k hk → Prop) (p : List Int) : List (List Int) := canon k (fun q => ∃ (hp : PK k p) (hq : PK k q), Cls H (Pm.mk p hp) (Pm.mk q hq))
theorem q9c (H : Pm k hk → Prop) (x : Pm k hk) : clsOf H x.1 = can (Cls H x) :=
  q2q hk.1 hk.2 (fun q hq => ⟨fun ⟨_, hq, h⟩ => ⟨hq, h⟩, fun ⟨hq, h⟩ => ⟨x.2, hq, h⟩⟩)
noncomputable def clsT (H : Pm k hk → Prop) (l : List (List Int)) : Nat → List (List (List Int))
  | 0 => []
  | i + 1 => if upS (dne H l i) (row l i) then clsT H l i else clsT H l i ++ [clsOf H (row l i)]
theorem q9d (H : Pm k hk → Prop) (l : List (List Int)) : ∀ i, (clsT H l i).length ≤ i
  | 0 => Nat.le_refl _
  | i + 1 => by
    have := q9d H l i
    unfold clsT
    by_cases c : upS (dne H l i) (row l i)
    · rw [if_pos c]; omega
    · rw [if_neg c, List.length_append]; simp only [List.length_cons, List.length_nil]; omega
theorem q9e {H : Pm k hk → Prop} {l : List (List Int)} {i : Nat} {x : Pm k hk} (ex : row l i = x.1) (h : dne H l i x) : clsT H l (i + 1) = clsT H l i := by
  have c : upS (dne H l i) (row l i) := by rw [ex]; exact ⟨x.2, h⟩
  show (if upS (dne H l i) (row l i) then _ else _) = _
  rw [if_pos c]
theorem q9f {H : Pm k hk → Prop} {l : List (List Int)} {i : Nat} {x : Pm k hk} (ex : row l i = x.1) (h : ¬ dne H l i x) : clsT H l (i + 1) = clsT H l i ++ [can (Cls H x)] := by
  have c : ¬ upS (dne H l i) (row l i) := by rw [ex]; exact fun ⟨_, h2⟩ => h h2
  show (if upS (dne H l i) (row l i) then _ else _) = _
  rw [if_neg c, ex, q9c]
theorem q9g {H : Pm k hk → Prop} {l : List (List Int)} {i : Nat} (hi : i < l.length) {x : Pm k hk} (ex : row l i = x.1) (y : Pm k hk) : dne H l (i + 1) y ↔ dne H l i y ∨ Cls H x y := by
  constructor
  · rintro ⟨z, hz, h⟩
    rcases (q72 hi ex z).1 hz with hz | rfl
    · exact .inl ⟨z, hz, h⟩
    · exact .inr h
  · rintro (⟨z, hz, h⟩ | h)
    · exact ⟨z, (q72 hi ex z).2 (.inl hz), h⟩
    · exact ⟨x, (q72 hi ex x).2 (.inr rfl), h⟩
theorem q9h {H : Pm k hk → Prop} (hH : Sub H) {l : List (List Int)} {i : Nat} (hi : i < l.length) {x : Pm k hk} (ex : row l i = x.1) (h : dne H l i x) : dne H l (i + 1) = dne H l i := by
  funext y
  apply propext
  rw [q9g hi ex]
  refine ⟨?_, .inl⟩
  rintro (h2 | h2)
  · exact h2
  · obtain ⟨z, hz, h3⟩ := h
    exact ⟨z, hz, h3.trans hH h2⟩
theorem q9i (H : Pm k hk → Prop) (l : List (List Int)) : dne H l 0 = fun _ => False := by
  funext y; apply propext; exact ⟨fun ⟨x, hx, _⟩ => absurd hx (q73 x), False.elim⟩
theorem q9j {H : Pm k hk → Prop} (hH : Sub H) {l : List (List Int)} {i : Nat} {x y : Pm k hk} (h : ¬ dne H l i x) (hy : Cls H x y) : ¬ dne H l i y := by
  rintro ⟨z, hz, h2⟩
  exact h ⟨z, hz, h2.trans hH (hy.symm hH)⟩
theorem q9k (hn : Fu n) {G : List (List Int)} (hG : ∀ p ∈ G, PK k p) (hGl : G.length ≤ 1000000000) {t : List (List Int)} {a b : Int} {out : List (List (List Int))} {D : Pm k hk → Prop} {m : KS} {cls : List (List Int)} {i : Nat} (hi : i < cls.length)
    (hm : KSet hk m (fun y => D y ∨ dn cls y)) (hnd : cls.Nodup) (hc : ∀ p ∈ cls, PK k p) :
    ∃ m' ext, iterN (qfz n) n (G, (i : Int), t, a, b, G, (G.length : Int), 0, some m, out, cls, ()) = some (.inl (G, (i : Int), t, a, b, some m', out, cls ++ ext, ())) ∧ KSet hk m' (fun y => D y ∨ dn (cls ++ ext) y) ∧ (cls ++ ext).Nodup ∧
      (∀ p ∈ ext, ∃ y g : Pm k hk, p = (cj g y).1 ∧ row cls i = y.1 ∧ dn G g) ∧ ∀ (y g : Pm k hk), row cls i = y.1 → dn G g → D (cj g y) ∨ dn (cls ++ ext) (cj g y) := by
  obtain ⟨y, ey, hy⟩ := q71 (hk := hk) hc hi
  obtain ⟨r, e, m', ext, rfl, q1, q2, q3, q4⟩ := qz2 (f := qfz n) hn
    (fun d => ∃ (j : Nat) (m' : KS) (ext : List (List Int)), d = (G, (i : Int), t, a, b, G, (G.length : Int), (j : Int), some m', out, cls ++ ext, ()) ∧ j ≤ G.length ∧ KSet hk m' (fun y => D y ∨ dn (cls ++ ext) y) ∧ (cls ++ ext).Nodup ∧
      (∀ p ∈ ext, ∃ g : Pm k hk, p = (cj g y).1 ∧ dn G g) ∧ ∀ g : Pm k hk, dn (G.take j) g → D (cj g y) ∨ dn (cls ++ ext) (cj g y))
    (fun d => ((G.length : Int) - d.2.2.2.2.2.2.2.1).toNat)
    (fun r => ∃ m' ext, r = .inl (G, (i : Int), t, a, b, some m', out, cls ++ ext, ()) ∧ KSet hk m' (fun y => D y ∨ dn (cls ++ ext) y) ∧ (cls ++ ext).Nodup ∧ (∀ p ∈ ext, ∃ g : Pm k hk, p = (cj g y).1 ∧ dn G g) ∧ ∀ g : Pm k hk, dn G g → D (cj g y) ∨ dn (cls ++ ext) (cj g y))
    (d := (G, (i : Int), t, a, b, G, (G.length : Int), 0, some m, out, cls, ()))
    ⟨0, m, [], by rw [List.append_nil]; rfl, Nat.zero_le _, by rw [List.append_nil]; exact hm, by rw [List.append_nil]; exact hnd, (fun p h => nomatch h), fun g hg => absurd hg (q73 g)⟩ (by simp only; omega) (by
      rintro d ⟨j, m', ext, rfl, h1, h2, h3, h4, h5⟩
      by_cases c : j < G.length
      · obtain ⟨g, eg, hg⟩ := q71 (hk := hk) hG c
        have ec := q7y hn y g
        have ek := q8d hn (cj g y)
        have hlen : i < (cls ++ ext).length := by rw [List.length_append]; omega
        have ei : idx (cls ++ ext) (i : Int) = some y.1 := by rw [q0e hlen, q1v hi, ey]
        have hP : ∀ p ∈ cls ++ ext, PK k p := fun p hp => by
          rw [List.mem_append] at hp
          rcases hp with hp | hp
          · exact hc p hp
          · obtain ⟨g, e, _⟩ := h4 p hp
            rw [e]; exact (cj g y).2
        have hfew := q7b h3 hP hk
        rw [List.length_append] at hfew
        by_cases c2 : D (cj g y) ∨ dn (cls ++ ext) (cj g y)
        · have elk := h2.look_in c2
          refine .inl ⟨(G, (i : Int), t, a, b, G, (G.length : Int), ((j + 1 : Nat) : Int), some m', out, cls ++ ext, ()), ?_, ⟨j + 1, m', ext, rfl, c, h2, h3, h4, fun z hz => ?_⟩, by simp only; omega⟩
          · simp (disch := first | assumption | omega) only [zA, zB, zC, zD, zE, zF, zG, q0c, qz6, qz7, zH, zI, dpos, dneg, zJ, zK, zL, zM, zN, zO, zP, qfz, qfy, q0e, eg, ei, ec, ek, elk, up1]
          · rcases (q72 c eg z).1 hz with hz | rfl
            · exact h5 z hz
            · exact c2
        · have elk := h2.look_out c2
          have hput := h2.put (cj g y)
          have hl1 : ([(cj g y).1] : List (List Int)).length = 1 := rfl
          refine .inl ⟨(G, (i : Int), t, a, b, G, (G.length : Int), ((j + 1 : Nat) : Int), some (mput (.arr 7 (.int .i8)) m' (keyP (cj g y).1) true), out, cls ++ (ext ++ [(cj g y).1]), ()), ?_, ⟨j + 1, _, _, rfl, c, ⟨hput.1, fun z => ?_⟩, ?_, fun p hp => ?_, fun z hz => ?_⟩, by simp only; omega⟩
          · rw [← List.append_assoc]
            simp (disch := first | assumption | omega) only [zA, zB, zC, zD, zE, zF, zG, q0c, qz6, qz7, zH, zI, dpos, dneg, zJ, zK, zL, zM, zN, zO, zP, qfz, qfy, q0e, eg, ei, ec, ek, elk, up1]
          · rw [hput.2 z]
            show (D z ∨ z.1 ∈ cls ++ ext) ∨ z = cj g y ↔ D z ∨ z.1 ∈ cls ++ (ext ++ [(cj g y).1])
            rw [← List.append_assoc, List.mem_append (s := cls ++ ext), List.mem_singleton, or_assoc]
            exact or_congr Iff.rfl (or_congr Iff.rfl ⟨fun h => by rw [h], fun h => Pm.ext h⟩)
          · rw [← List.append_assoc, List.nodup_append]
            refine ⟨h3, by simp, fun a ha b hb e => ?_⟩
            rw [List.mem_singleton] at hb
            subst hb
            subst e
            exact c2 (.inr ha)
          · rw [List.mem_append, List.mem_singleton] at hp
            rcases hp with hp | rfl
            · exact h4 p hp
            · exact ⟨g, rfl, hg⟩
          · rcases (q72 c eg z).1 hz with hz | rfl
            · rcases h5 z hz with h | h
              · exact .inl h
              · refine .inr ?_
                unfold dn at h ⊢
                rw [← List.append_assoc]
                exact List.mem_append_left _ h
            · refine .inr ?_
              unfold dn
              simp
      · obtain rfl : j = G.length := by omega
        rw [List.take_length] at h5
        refine .inr ⟨_, ?_, m', ext, rfl, h2, h3, h4, h5⟩
        simp (disch := first | assumption | omega) only [zA, zB, zC, zD, zE, zF, zG, q0c, qz6, qz7, zH, zI, dpos, dneg, zJ, zK, zL, zM, zN, zO, zP, qfz, qfy])
  refine ⟨m', ext, e, q1, q2, fun p hp => ?_, fun z g hz hg => ?_⟩
  · obtain ⟨g, e, hg⟩ := q3 p hp; exact ⟨y, g, e, ey, hg⟩
  · have : z = y := Pm.ext (hz.symm.trans ey)
    rw [this]; exact q4 g hg
theorem q9l (hn : Fu n) {H : Pm k hk → Prop} (hH : Sub H) {G : List (List Int)} (hG : ∀ p ∈ G, PK k p) (hGl : G.length ≤ 1000000000) (hGH : ∀ x : Pm k hk, Cl (dn G) x ↔ H x) {t : List (List Int)} {a b : Int} {out : List (List (List Int))} {D : Pm k hk → Prop} {m : KS} (x : Pm k hk)
    (hD : ∀ y, Cls H x y → ¬ D y) (hm : KSet hk m (fun y => D y ∨ y = x)) :
    ∃ m' cls, iterN (qf1 n) n (G, 0, t, a, b, some m, out, [x.1], ()) = some (.inl (G, t, a, b, some m', out, cls, ())) ∧ KSet hk m' (fun y => D y ∨ Cls H x y) ∧ cls.Nodup ∧ (∀ p ∈ cls, PK k p) ∧ ∀ y : Pm k hk, dn cls y ↔ Cls H x y := by
  obtain ⟨r, e, m', cls, rfl, q1, q2, q3, q4⟩ := qz2 (f := qf1 n) hn
    (fun d => ∃ (i : Nat) (m' : KS) (cls : List (List Int)), d = (G, (i : Int), t, a, b, some m', out, cls, ()) ∧ i ≤ cls.length ∧ KSet hk m' (fun y => D y ∨ dn cls y) ∧ cls.Nodup ∧ (∀ p ∈ cls, upS (Cls H x) p) ∧ dn cls x ∧ ∀ (y g : Pm k hk), (∃ j, j < i ∧ row cls j = y.1) → dn G g → dn cls (cj g y))
    (fun d => 5041 - d.2.1.toNat)
    (fun r => ∃ m' cls, r = .inl (G, t, a, b, some m', out, cls, ()) ∧ KSet hk m' (fun y => D y ∨ Cls H x y) ∧ cls.Nodup ∧ (∀ p ∈ cls, PK k p) ∧ ∀ y : Pm k hk, dn cls y ↔ Cls H x y)
    (d := (G, 0, t, a, b, some m, out, [x.1], ()))
    ⟨0, m, [x.1], rfl, Nat.zero_le _, ⟨hm.1, fun y => by
      rw [hm.2 y]
      show D y ∨ y = x ↔ D y ∨ y.1 ∈ [x.1]
      rw [List.mem_singleton]
      exact or_congr Iff.rfl ⟨fun h => by rw [h], fun h => Pm.ext h⟩⟩, by simp, fun p hp => by
      rw [List.mem_singleton] at hp; subst hp; exact ⟨x.2, Cls.refl hH x⟩, by simp [dn], fun y g ⟨j, hj, _⟩ => by omega⟩ (by simp only; omega) (by
      rintro d ⟨i, m', cls, rfl, h1, h2, h3, h4, h5, h6⟩
      have hP : ∀ p ∈ cls, PK k p := fun p hp => (h4 p hp).1
      have hfew := q7b h3 hP hk
      by_cases c : i < cls.length
      · obtain ⟨m2, ext, e, r1, r2, r3, r4⟩ := q9k hn hG hGl (t := t) (a := a) (b := b) (out := out) c h2 h3 hP
        have hext : ∀ p ∈ ext, upS (Cls H x) p := fun p hp => by
          obtain ⟨y, g, rfl, ey, hg⟩ := r3 p hp
          obtain ⟨_, hc⟩ := h4 _ (q0d c)
          have hc : Cls H x y := by
            have : (⟨row cls i, hP _ (q0d c)⟩ : Pm k hk) = y := Pm.ext ey
            rw [← this]; exact hc
          exact ⟨(cj g y).2, hc.trans hH ⟨g, (hGH g).1 (.gen hg), rfl⟩⟩
        refine .inl ⟨(G, ((i + 1 : Nat) : Int), t, a, b, some m2, out, cls ++ ext, ()), ?_, ⟨i + 1, m2, cls ++ ext, rfl, by rw [List.length_append]; omega, r1, r2, fun p hp => ?_, List.mem_append_left _ h5, fun y g ⟨j, hj, ey⟩ hg => ?_⟩, by simp only [Int.toNat_natCast]; omega⟩
        · simp (disch := first | assumption | omega) only [zA, zB, zC, zD, zE, zF, zG, q0c, qz6, qz7, zH, zI, dpos, dneg, zJ, zK, zL, zM, zN, zO, zP, qf1, qf0, e, up1]
        · rw [List.mem_append] at hp
          exact hp.elim (h4 p) (hext p)
        · by_cases ej : j = i
          · subst ej
            rw [q1v c] at ey
            rcases r4 y g ey hg with h | h
            · obtain ⟨_, hc⟩ := h4 _ (q0d c)
              have hc : Cls H x y := by
                have : (⟨row cls j, hP _ (q0d c)⟩ : Pm k hk) = y := Pm.ext ey
                rw [← this]; exact hc
              exact absurd h (hD _ (hc.trans hH ⟨g, (hGH g).1 (.gen hg), rfl⟩))
            · exact h
          · rw [q1v (by omega)] at ey
            exact List.mem_append_left _ (h6 y g ⟨j, by omega, ey⟩ hg)
      · obtain rfl : i = cls.length := by omega
        have key : ∀ y : Pm k hk, dn cls y ↔ Cls H x y := fun y => by
          constructor
          · intro hy
            obtain ⟨_, hc⟩ := h4 y.1 hy
            exact hc
          · rintro ⟨c, hc, rfl⟩
            replace hc := (hGH c).2 hc
            induction hc with
            | one => rw [q20]; exact h5
            | @step p q _ hq ih =>
              rw [← cj_cj]
              obtain ⟨j, hj, ej⟩ := mem_row.1 (ih)
              exact h6 _ _ ⟨j, hj, ej⟩ hq
        refine .inr ⟨.inl (G, t, a, b, some m', out, cls, ()), ?_, m', cls, rfl, ⟨h2.1, fun y => by rw [h2.2 y]; exact or_congr Iff.rfl (key y)⟩, h3, hP, key⟩
        simp (disch := first | assumption | omega) only [zA, zB, zC, zD, zE, zF, zG, q0c, qz6, qz7, zH, zI, dpos, dneg, zJ, zK, zL, zM, zN, zO, zP, qf1, qf0])
  exact ⟨m', cls, e, q1, q2, q3, q4⟩
theorem q9m (hn : Fw n) {H : Pm k hk → Prop} (hH : Sub H) : qf4 n (can H) = some (clsT H (can H) (can H).length, 0, ()) := by
  have hl := q68 (H := H)
  obtain ⟨G, f1, q1, q2, q3, q4, q5⟩ := q8e hn hH
  obtain ⟨r, e, rfl⟩ := qz2 (f := qf3 n) hn.fu
    (fun d => ∃ (i : Nat) (m : KS), d = (G, can H, ((can H).length : Int), (i : Int), some m, clsT H (can H) i, ()) ∧ i ≤ (can H).length ∧ KSet hk m (dne H (can H) i))
    (fun d => (((can H).length : Int) - d.2.2.2.1).toNat)
    (fun r => r = .inl (clsT H (can H) (can H).length, ()))
    (d := (G, can H, ((can H).length : Int), 0, some [], [], ()))
    ⟨0, [], rfl, Nat.zero_le _, by rw [q9i]; exact KSet.nil⟩ (by simp only; omega) (by
      rintro d ⟨i, m, rfl, h1, h2⟩
      by_cases c : i < (can H).length
      · obtain ⟨x, ex, hx⟩ := q71 (hk := hk) (q67 (H := H)) c
        have ek := q8d hn.fu x
        have elk := h2.look x
        have hcl := q9d H (can H) i
        by_cases c2 : dne H (can H) i x
        · rw [decide_eq_true c2] at elk
          refine .inl ⟨(G, can H, ((can H).length : Int), ((i + 1 : Nat) : Int), some m, clsT H (can H) (i + 1), ()), ?_, ⟨i + 1, m, rfl, c, by rw [q9h hH c ex c2]; exact h2⟩, by simp only; omega⟩
          rw [q9e ex c2]
          simp (disch := first | assumption | omega) only [zA, zB, zC, zD, zE, zF, zG, q0c, qz6, qz7, zH, zI, dpos, dneg, zJ, zK, zL, zM, zN, zO, zP, qf3, qf2, q0e, ex, ek, elk, up1]
        · rw [decide_eq_false c2] at elk
          obtain ⟨m', cls, e, r1, r2, r3, r4⟩ := q9l hn.fu hH q1 (by omega) q2 (t := can H) (a := ((can H).length : Int)) (b := (i : Int)) (out := clsT H (can H) i) x (fun y hy => q9j hH c2 hy) (h2.put x)
          have e3 := q6c hn hk.1 hk.2 r2 r3
          have e4 : canon k (· ∈ cls) = can (Cls H x) := q2q hk.1 hk.2 (fun p hp => ⟨fun h => ⟨hp, (r4 ⟨p, hp⟩).1 h⟩, fun ⟨hp, h⟩ => (r4 ⟨p, hp⟩).2 h⟩)
          rw [e4] at e3
          have e5 := q8j hn.fu (Cls H x)
          refine .inl ⟨(G, can H, ((can H).length : Int), ((i + 1 : Nat) : Int), some m', clsT H (can H) (i + 1), ()), ?_, ⟨i + 1, m', rfl, c, r1.1, fun y => by rw [r1.2 y]; exact (q9g c ex y).symm⟩, by simp only; omega⟩
          rw [q9f ex c2]
          have hl1 : ([can (Cls H x)] : List (List (List Int))).length = 1 := rfl
          simp (disch := first | assumption | omega) only [zA, zB, zC, zD, zE, zF, zG, q0c, qz6, qz7, zH, zI, dpos, dneg, zJ, zK, zL, zM, zN, zO, zP, qf3, qf2, q0e, ex, ek, elk, e, e3, e5, up1]
      · obtain rfl : i = (can H).length := by omega
        refine .inr ⟨_, ?_, rfl⟩
        simp (disch := first | assumption | omega) only [zA, zB, zC, zD, zE, zF, zG, q0c, qz6, qz7, zH, zI, dpos, dneg, zJ, zK, zL, zM, zN, zO, zP, qf3, qf2])
  simp (disch := first | assumption | omega) only [zA, zB, zC, zD, zE, zF, zG, q0c, qz6, qz7, zH, zI, dpos, dneg, zJ, zK, zL, zM, zN, zO, zP, qf4, q8a hn hH, f1, e]
theorem q9n (H : Pm k hk → Prop) {l : List (List Int)} (hl : ∀ p ∈ l, PK k p) : ∀ i, i ≤ l.length → ∀ c ∈ clsT H l i, ∃ x : Pm k hk, dn l x ∧ c = can (Cls H x)
  | 0, _, _, h => nomatch h
  | i + 1, hi, c, h => by
    obtain ⟨x, ex, hx⟩ := q71 (hk := hk) hl (i := i) (by omega)
    by_cases c2 : dne H l i x
    · rw [q9e ex c2] at h; exact q9n H hl i (by omega) c h
    · rw [q9f ex c2, List.mem_append, List.mem_singleton] at h
      rcases h with h | rfl
      · exact q9n H hl i (by omega) c h
      · exact ⟨x, hx, rfl⟩
theorem q9o (hn : Fu n) (H : Pm k hk → Prop) : qfi n (clsT H (can H) (can H).length) (clsT H (can H) (can H).length) = some (true, ()) :=
  q8v hn _ (by have := q9d H (can H) (can H).length; have := q68 (H := H); omega) (fun l hl => by
    obtain ⟨x, _, rfl⟩ := q9n H q67 _ (Nat.le_refl _) l hl
    exact q7o hn _)
end Go.Proofs.Ytemejeiajekmcaa.V
namespace Go.Proofs.Ytemejeiajekmcaa.V
open Go Classical Grp
set_option linter.unusedVariables false
set_option linter.all false
variable {n : Nat} {k : Nat} {hk : 1 ≤ k ∧ k ≤ 7}
theorem q9p (hn : Fu n) {gens : List (List Int)} (hg : ∀ g ∈ gens, PK k g) (hgl : gens.length ≤ 1000000000) (x : Pm k hk) {done todo : List (List Int)} (hnd : (done ++ todo).Nodup) (hP : ∀ p ∈ done ++ todo, PK k p) :
    ∃ ext, iterN (qf9 n) n (x.1, 0, gens, setT k (· ∈ done ++ todo), todo, ()) = some (.inl (gens, setT k (· ∈ done ++ (todo ++ ext)), todo ++ ext, ())) ∧ (done ++ (todo ++ ext)).Nodup ∧ (∀ p ∈ ext, ∃ g, g ∈ gens ∧ p = mulP x.1 g) ∧ ∀ g ∈ gens, mulP x.1 g ∈ done ++ (todo ++ ext) := by
  obtain ⟨r, e, ext, rfl, h1, h2, h3⟩ := qz2 (f := qf9 n) hn
    (fun d => ∃ (i : Nat) (ext : List (List Int)), d = (x.1, (i : Int), gens, setT k (· ∈ done ++ (todo ++ ext)), todo ++ ext, ()) ∧ i ≤ gens.length ∧ (done ++ (todo ++ ext)).Nodup ∧ (∀ p ∈ ext, ∃ g, g ∈ gens ∧ p = mulP x.1 g) ∧ ∀ j, j < i → mulP x.1 (row gens j) ∈ done ++ (todo ++ ext))
    (fun d => ((gens.length : Int) - d.2.1).toNat)
    (fun r => ∃ ext, r = .inl (gens, setT k (· ∈ done ++ (todo ++ ext)), todo ++ ext, ()) ∧ (done ++ (todo ++ ext)).Nodup ∧ (∀ p ∈ ext, ∃ g, g ∈ gens ∧ p = mulP x.1 g) ∧ ∀ j, j < gens.length → mulP x.1 (row gens j) ∈ done ++ (todo ++ ext))
    (d := (x.1, 0, gens, setT k (· ∈ done ++ todo), todo, ()))
    ⟨0, [], by simp, Nat.zero_le _, by simpa using hnd, (fun p h => nomatch h), fun j h => by omega⟩ (by simp only; omega) (by
      rintro d ⟨i, ext, rfl, h1, h2, h3, h4⟩
      have hP2 : ∀ p ∈ done ++ (todo ++ ext), PK k p := fun p hp => by
        rw [← List.append_assoc, List.mem_append] at hp
        rcases hp with hp | hp
        · exact hP p hp
        · obtain ⟨g, hgm, rfl⟩ := h3 p hp
          exact x.2.mul (hg g hgm)
      by_cases c1 : i < gens.length
      · have hgi := hg _ (q0d c1)
        have em := q7d hn x (⟨row gens i, hgi⟩ : Pm k hk)
        have hy := x.2.mul hgi
        have er := q6k hn (p := mulP x.1 (row gens i)) (by have := hy.2; omega)
        have hfew := q7b h2 hP2 hk
        rw [List.length_append, List.length_append] at hfew
        change qez n x.1 (row gens i) = some (mulP x.1 (row gens i), ()) at em
        by_cases c2 : mulP x.1 (row gens i) ∈ done ++ (todo ++ ext)
        · have ei := q7e (S := (· ∈ done ++ (todo ++ ext))) hy c2
          refine .inl ⟨(x.1, ((i + 1 : Nat) : Int), gens, setT k (· ∈ done ++ (todo ++ ext)), todo ++ ext, ()), ?_, ⟨i + 1, ext, rfl, c1, h2, h3, fun j hj => ?_⟩, by simp only; omega⟩
          · simp (disch := first | assumption | omega) only [zA, zB, zC, zD, zE, zF, zG, q0c, qz6, qz7, zH, zI, dpos, dneg, zJ, zK, zL, zM, zN, zO, zP, qf9, qf8, q0e, em, er, ei, up1]
          · by_cases e : j = i
            · rw [e]; exact c2
            · exact h4 j (by omega)
        · have ei := q7f (S := (· ∈ done ++ (todo ++ ext))) hy c2
          have es : (hasT k (· ∈ done ++ (todo ++ ext))).set (rank (mulP x.1 (row gens i))) true = hasT k (· ∈ done ++ (todo ++ (ext ++ [mulP x.1 (row gens i)]))) := by
            rw [q6q hy]
            congr 1
            funext q
            apply propext
            simp only [List.mem_append, List.mem_singleton, or_assoc]
          refine .inl ⟨(x.1, ((i + 1 : Nat) : Int), gens, setT k (· ∈ done ++ (todo ++ (ext ++ [mulP x.1 (row gens i)]))), todo ++ (ext ++ [mulP x.1 (row gens i)]), ()), ?_, ⟨i + 1, _, rfl, c1, ?_, fun p hp => ?_, fun j hj => ?_⟩, by simp only; omega⟩
          · simp (disch := first | assumption | omega) only [zA, zB, zC, zD, zE, zF, zG, q0c, qz6, qz7, zH, zI, dpos, dneg, zJ, zK, zL, zM, zN, zO, zP, qf9, qf8, q0e, em, er, ei, es, up1, List.append_assoc]
          · rw [← List.append_assoc, ← List.append_assoc, List.nodup_append]
            refine ⟨by rw [List.append_assoc]; exact h2, by simp, fun a ha b hb => ?_⟩
            rw [List.mem_singleton] at hb
            subst hb
            intro e
            subst e
            exact c2 (by rw [List.append_assoc] at ha; exact ha)
          · rw [List.mem_append, List.mem_singleton] at hp
            rcases hp with hp | rfl
            · exact h3 p hp
            · exact ⟨_, q0d c1, rfl⟩
          · by_cases e : j = i
            · rw [e]; simp
            · have := h4 j (by omega)
              rw [← List.append_assoc, ← List.append_assoc, List.mem_append, List.append_assoc]
              exact .inl this
      · obtain rfl : i = gens.length := by omega
        refine .inr ⟨_, ?_, ext, rfl, h2, h3, h4⟩
        simp (disch := first | assumption | omega) only [zA, zB, zC, zD, zE, zF, zG, q0c, qz6, qz7, zH, zI, dpos, dneg, zJ, zK, zL, zM, zN, zO, zP, qf9, qf8])
  refine ⟨ext, e, h1, h2, fun g hgm => ?_⟩
  obtain ⟨j, hj, e⟩ := List.getElem_of_mem hgm
  have := h3 j hj
  unfold row at this
  rw [List.getD_eq_getElem?_getD, List.getElem?_eq_getElem hj, Option.getD_some, e] at this
  exact this
theorem q9q (hn : Fu n) {gens : List (List Int)} (hg : ∀ g ∈ gens, PK k g) (h0 : 0 < gens.length) (hgl : gens.length ≤ 1000000000) : qgc n gens = some ((can (hk := hk) (Cl (dn gens)), ()), (gens, ())) := by
  have hr0 := hg _ (q0d h0)
  have e0 : idx gens 0 = some (row gens 0) := q0e (u := 0) h0
  have el : (((row gens 0).length : Nat) : Int) = (k : Int) := by rw [hr0.2]
  have es := q6s hn hk.1 hk.2 (l := []) (by simp) (fun p h => nomatch h)
  have eid := q09 hn k (by omega)
  have hidP : PK k (idP k) := (1 : Pm k hk).2
  have ei0 : idx (hasT k (· ∈ ([] : List (List Int)))) 0 = some false := by
    have := q7f (S := (· ∈ ([] : List (List Int)))) hidP (by simp)
    rwa [q7h] at this
  have es0 : (hasT k (· ∈ ([] : List (List Int)))).set 0 true = hasT k (· ∈ [] ++ [idP k]) := by
    have := q6q (S := (· ∈ ([] : List (List Int)))) hidP
    rw [q7h] at this
    rw [this]
    congr 1
    funext q; apply propext; simp
  obtain ⟨r, e, rfl⟩ := q6w (f := qgb n) hn
    (fun (done : List (List Int)) d => ∃ todo, d = (gens, setT k (· ∈ done ++ todo), todo, ()) ∧ (done ++ todo).Nodup ∧ (∀ p ∈ done ++ todo, upS (hk := hk) (Cl (dn gens)) p) ∧ idP k ∈ done ++ todo ∧ ∀ p ∈ done, ∀ g ∈ gens, mulP p g ∈ done ++ todo)
    (fun done => 5041 - done.length)
    (fun r => r = .inl (gens, setT k (upS (hk := hk) (Cl (dn gens))), ()))
    [] (d := (gens, setT k (· ∈ [] ++ [idP k]), [idP k], ()))
    ⟨[idP k], rfl, by simp, fun p hp => by
      have : p = idP k := by simpa using hp
      subst this
      exact ⟨hidP, .one⟩, by simp, fun p hp => nomatch hp⟩ (by simp) (by
      rintro done d ⟨todo, rfl, h1, h2, h3, h4⟩
      have hP : ∀ p ∈ done ++ todo, PK k p := fun p hp => (h2 p hp).1
      have hfew := q7b h1 hP hk
      rw [List.length_append] at hfew
      cases todo with
      | nil =>
        refine .inr ⟨_, ?_, rfl⟩
        have : (fun p => p ∈ done ++ []) = upS (hk := hk) (Cl (dn gens)) := by
          funext p
          apply propext
          refine ⟨h2 p, ?_⟩
          rintro ⟨hp, hc⟩
          generalize hx : (⟨p, hp⟩ : Pm k hk) = x at hc
          have : x.1 ∈ done ++ [] := by
            clear hx
            induction hc with
            | one => exact h3
            | step hc hq ih =>
              rw [List.append_nil] at ih h4 ⊢
              exact h4 _ ih _ hq
          rw [← hx] at this
          exact this
        rw [← this]
        simp (disch := first | assumption | omega) only [zA, zB, zC, zD, zE, zF, zG, q0c, qz6, qz7, zH, zI, dpos, dneg, zJ, zK, zL, zM, zN, zO, zP, qgb, qga]
      | cons p rest =>
        obtain ⟨hp, hpc⟩ := h2 p (by simp)
        have eapp : done ++ p :: rest = (done ++ [p]) ++ rest := by simp
        rw [eapp] at h1 hP h2 h3 h4
        obtain ⟨ext, e, q1, q2, q3⟩ := q9p (hk := hk) hn hg hgl ⟨p, hp⟩ h1 hP
        refine .inl ⟨(gens, setT k (· ∈ (done ++ [p]) ++ (rest ++ ext)), rest ++ ext, ()), done ++ [p], ?_, ⟨rest ++ ext, rfl, q1, fun q hq => ?_, ?_, fun q hq g hgm => ?_⟩, ?_⟩
        · rw [eapp]
          have hi : idx (p :: rest) 0 = some p := rfl
          have hl : ((p :: rest).length : Int) = ((rest.length + 1 : Nat) : Int) := rfl
          have hs : subs (p :: rest) 1 (rest.length + 1) = rest := q6l (p :: rest) 1
          have t1 : Int.toNat 1 = 1 := rfl
          change iterN (qf9 n) n (p, 0, gens, setT k (· ∈ (done ++ [p]) ++ rest), rest, ()) = _ at e
          simp (disch := first | assumption | omega) only [zA, zB, zC, zD, zE, zF, zG, q0c, qz6, qz7, zH, zI, dpos, dneg, zJ, zK, zL, zM, zN, zO, zP, qgb, qga, hi, t1, hs, e]
        · rw [← List.append_assoc, List.mem_append] at hq
          rcases hq with hq | hq
          · exact h2 q hq
          · obtain ⟨g, hgm, rfl⟩ := q2 q hq
            exact ⟨hp.mul (hg g hgm), Cl.step (S := dn gens) (q := (⟨g, hg g hgm⟩ : Pm k hk)) hpc (show dn gens (⟨g, hg g hgm⟩ : Pm k hk) from hgm)⟩
        · rw [← List.append_assoc, List.mem_append]; exact .inl h3
        · rw [List.mem_append] at hq
          rcases hq with hq | hq
          · have := h4 q hq g hgm
            rw [← List.append_assoc, List.mem_append]; exact .inl this
          · rw [List.mem_singleton] at hq
            subst hq
            exact q3 g hgm
        · rw [List.length_append]
          simp only [List.length_cons, List.length_nil] at hfew ⊢
          omega)
  have el2 := q6u hn (S := upS (hk := hk) (Cl (dn gens))) hk.2
  simp (disch := first | assumption | omega) only [zA, zB, zC, zD, zE, zF, zG, q0c, qz6, qz7, zH, zI, dpos, dneg, zJ, zK, zL, zM, zN, zO, zP, qgc, e0, el, es, eid, ei0, es0, e, el2]
  rfl
theorem q9r (hn : Fu n) {k : Nat} (h1 : 1 ≤ k) (h7 : k ≤ 7) {l : List (List Int)} (hl : l.length ≤ 1000000000) (h : ∀ p ∈ l, PK k p) : qf7 n (k : Int) l = some ((setT k (· ∈ l), ()), (l, ())) := by
  have hf := q6f hn h7
  have hfl := q2o h7
  have e0 : List.replicate (fact k) false = hasT k (fun p => ∃ j, j < 0 ∧ row l j = p) := by
    rw [q0l]
    exact q0k (fun r hr => by simp)
  have g : iterN (qf6 n) n (0, l, (0, ([], ())), ((k : Int), (List.replicate (fact k) false, ())), ()) = some (.inl (l, (0, ([], ())), setT k (fun p => ∃ j, j < l.length ∧ row l j = p), ())) := by
    refine qzy hn (fun i => ((i : Int), l, (0, ([], ())), setT k (fun p => ∃ j, j < i ∧ row l j = p), ())) l.length (by omega) (by rw [e0]; rfl) (fun i hi => ?_) ?_
    · have hp := h _ (q0d hi)
      have er := q6k hn (p := row l i) (by have := hp.2; omega)
      have ei := q6p (S := fun p => ∃ j, j < i ∧ row l j = p) hp
      have es : (hasT k (fun p => ∃ j, j < i ∧ row l j = p)).set (rank (row l i)) true = hasT k (fun p => ∃ j, j < i + 1 ∧ row l j = p) := by
        rw [q6q hp]
        congr 1
        funext p
        apply propext
        constructor
        · rintro (⟨j, hj, e⟩ | rfl)
          · exact ⟨j, by omega, e⟩
          · exact ⟨i, by omega, rfl⟩
        · rintro ⟨j, hj, e⟩
          by_cases c : j = i
          · subst c; exact .inr e.symm
          · exact .inl ⟨j, by omega, e⟩
      simp (disch := first | assumption | omega) only [zA, zB, zC, zD, zE, zF, zG, q0c, qz6, qz7, zH, zI, dpos, dneg, zJ, zK, zL, zM, zN, zO, zP, qf6, qf5, q0e, er, ei, es, up1]
    · simp (disch := first | assumption | omega) only [zA, zB, zC, zD, zE, zF, zG, q0c, qz6, qz7, zH, zI, dpos, dneg, zJ, zK, zL, zM, zN, zO, zP, qf6, qf5]
  have e2 : (fun p => ∃ j, j < l.length ∧ row l j = p) = (· ∈ l) := by
    funext p
    exact propext mem_row.symm
  rw [e2] at g
  simp (disch := first | assumption | omega) only [zA, zB, zC, zD, zE, zF, zG, q0c, qz6, qz7, zH, zI, dpos, dneg, zJ, zK, zL, zM, zN, zO, zP, qf7, hf, g]
theorem q9s {H : Pm k hk → Prop} (hH : Sub H) : row (can H) 0 = idP k := by
  have h1 : idP k ∈ can H := q66.2 hH.one
  obtain ⟨j, hj, ej⟩ := mem_row.1 h1
  by_cases h0 : j = 0
  · rw [← ej, h0]
  · have hlt := List.pairwise_iff_getElem.1 (can_asc (H := H)) 0 j (q74 hH) hj (by omega)
    rw [q85 (q74 hH), q85 hj, ej] at hlt
    have hp := q67 _ (q0d (q74 hH))
    have hid : PK k (idP k) := (1 : Pm k hk).2
    have h2 := hp.rk.2
    have h3 := hid.rk.2
    rw [q7h] at h3
    by_cases hr : rank (row (can H) 0) = 0
    · rw [hr, h3] at h2; rw [← h2] at hlt; exact absurd hlt (q1y _)
    · have h4 := q2f (r := 0) (q2h k) (q2g k) (by omega) hp.rk.1
      rw [h2, h3] at h4
      exact absurd (q1z hlt h4) (q1y _)
theorem q9t (l : List (List Int)) (h : ∀ p ∈ l, PK k p) : (setT k (· ∈ l)) = setT k (upS (dn l : Pm k hk → Prop)) := by
  show ((k : Int), (hasT k (· ∈ l), ())) = ((k : Int), (hasT k (upS (dn l : Pm k hk → Prop)), ()))
  rw [q6r hk.1 hk.2 (S := (· ∈ l)) (T := upS (dn l : Pm k hk → Prop)) (fun p hp => ⟨fun h => ⟨hp, h⟩, fun ⟨_, h⟩ => h⟩)]
theorem q9u (hn : Fu n) (S : Pm k hk → Prop) : qfl n (k : Int) (can S) = some (setT k (upS S), ()) := by
  have e := q6s hn hk.1 hk.2 (l := can S) (by have := q68 (H := S); omega) q67
  rw [q9t (hk := hk) _ q67, show (dn (can S) : Pm k hk → Prop) = S from funext fun x => propext q7a] at e
  rw [q80]; exact e
theorem cl_id : (Cl (dn [idP k]) : Pm k hk → Prop) = dn [idP k] := by
  have one : ∀ y : Pm k hk, dn [idP k] y ↔ y = 1 := fun y => by
    unfold dn; rw [List.mem_singleton]; exact ⟨fun h => Pm.ext h, fun h => by rw [h]; rfl⟩
  funext x
  apply propext
  constructor
  · intro h
    rw [one]
    induction h with
    | one => rfl
    | step _ hq ih => rw [ih, (one _).1 hq, Grp.mul_one]
  · exact fun h => .gen h
theorem q9v (hn : Fu n) {H : Pm k hk → Prop} (hH : Sub H) : ∃ out, qgf n (can H) = some (out, ()) ∧ (∀ p ∈ out, PK k p) ∧ (∀ x : Pm k hk, Cl (dn out) x ↔ H x) ∧ (∀ x : Pm k hk, dn out x → H x) ∧ 0 < out.length ∧ out.length ≤ 5041 := by
  have h0 := q74 hH
  have e0 : idx (can H) 0 = some (idP k) := by rw [← q9s hH]; exact q0e (u := 0) h0
  have el : (((idP k).length : Nat) : Int) = (k : Int) := by rw [q2g]
  have hid : ∀ p ∈ [idP k], PK k p := fun p hp => by rw [List.mem_singleton] at hp; subst hp; exact (1 : Pm k hk).2
  have es := q9r hn hk.1 hk.2 (l := [idP k]) (by simp) hid
  rw [q9t (hk := hk) _ hid, ← cl_id] at es
  have hcl := q68 (H := H)
  obtain ⟨r, e, out, rfl, q1, q2, q3, q4, q5⟩ := qz2 (f := qge n) hn
    (fun d => ∃ (i : Nat) (out : List (List Int)), d = (can H, (i : Int), out, setT k (upS (Cl (dn out : Pm k hk → Prop))), ()) ∧ i ≤ (can H).length ∧ (∀ p ∈ out, PK k p) ∧ (∀ x : Pm k hk, dn out x → H x) ∧ 0 < out.length ∧ out.length ≤ i + 1 ∧ ∀ x : Pm k hk, dn ((can H).take i) x → Cl (dn out) x)
    (fun d => (((can H).length : Int) - d.2.1).toNat)
    (fun r => ∃ out, r = .inl (out, ()) ∧ (∀ p ∈ out, PK k p) ∧ (∀ x : Pm k hk, Cl (dn out) x ↔ H x) ∧ (∀ x : Pm k hk, dn out x → H x) ∧ 0 < out.length ∧ out.length ≤ 5041)
    (d := (can H, 0, [idP k], setT k (upS (Cl (dn [idP k] : Pm k hk → Prop))), ()))
    ⟨0, [idP k], rfl, Nat.zero_le _, hid, fun x hx => by
        have : x = 1 := Pm.ext (List.mem_singleton.1 hx)
        rw [this]; exact hH.one, by simp, by simp, fun x hx => absurd hx (q73 x)⟩ (by simp only; omega) (by
      rintro d ⟨i, out, rfl, p1, p3, p4, p5, p6, p7⟩
      by_cases c : i < (can H).length
      · obtain ⟨x, ex, hx⟩ := q71 (hk := hk) q67 c
        have hHx : H x := q7a.1 hx
        have er := q70 hn x
        have lk := q89 (S := Cl (dn out : Pm k hk → Prop)) x
        by_cases c2 : Cl (dn out) x
        · rw [decide_eq_true c2] at lk
          refine .inl ⟨(can H, ((i + 1 : Nat) : Int), out, setT k (upS (Cl (dn out : Pm k hk → Prop))), ()), ?_, ⟨i + 1, out, rfl, c, p3, p4, p5, by omega, fun y hy => ?_⟩, by simp only; omega⟩
          · simp (disch := first | assumption | omega) only [zA, zB, zC, zD, zE, zF, zG, q0c, qz6, qz7, zH, zI, dpos, dneg, zJ, zK, zL, zM, zN, zO, zP, qge, qgd, q0e, ex, er, lk, up1]
          · rcases (q72 c ex y).1 hy with h | rfl
            · exact p7 y h
            · exact c2
        · rw [decide_eq_false c2] at lk
          have hP : ∀ p ∈ out ++ [x.1], PK k p := fun p hp => by
            rw [List.mem_append, List.mem_singleton] at hp
            rcases hp with hp | rfl
            · exact p3 p hp
            · exact x.2
          have hlen : (out ++ [x.1]).length = out.length + 1 := by simp
          have ec := q9q (hk := hk) hn hP (by omega) (by omega)
          have es2 := q9u hn (Cl (dn (out ++ [x.1]) : Pm k hk → Prop))
          have hl1 : ([x.1] : List (List Int)).length = 1 := rfl
          have ei : idx (can H) (i : Int) = some x.1 := by rw [q0e c, ex]
          refine .inl ⟨(can H, ((i + 1 : Nat) : Int), out ++ [x.1], setT k (upS (Cl (dn (out ++ [x.1]) : Pm k hk → Prop))), ()), ?_, ⟨i + 1, out ++ [x.1], rfl, c, hP, fun y hy => ?_, by omega, by omega, fun y hy => ?_⟩, by simp only; omega⟩
          · simp (disch := first | assumption | omega) only [zA, zB, zC, zD, zE, zF, zG, q0c, qz6, qz7, zH, zI, dpos, dneg, zJ, zK, zL, zM, zN, zO, zP, qge, qgd, ei, er, lk, e0, el, ec, es2, up1]
          · have hy : y.1 ∈ out ++ [x.1] := hy
            rw [List.mem_append, List.mem_singleton] at hy
            rcases hy with hy | hy
            · exact p4 y hy
            · rw [Pm.ext hy]; exact hHx
          · rcases (q72 c ex y).1 hy with h | rfl
            · exact (p7 y h).mono (fun z hz => .gen (List.mem_append_left _ hz))
            · exact .gen (show y.1 ∈ out ++ [y.1] by simp)
      · obtain rfl : i = (can H).length := by omega
        rw [List.take_length] at p7
        refine .inr ⟨.inl (out, ()), ?_, out, rfl, p3, fun x => ⟨fun h => h.le hH p4, fun h => p7 x (q7a.2 h)⟩, p4, p5, by omega⟩
        simp (disch := first | assumption | omega) only [zA, zB, zC, zD, zE, zF, zG, q0c, qz6, qz7, zH, zI, dpos, dneg, zJ, zK, zL, zM, zN, zO, zP, qge, qgd])
  refine ⟨out, ?_, q1, q2, q3, q4, q5⟩
  simp (disch := first | assumption | omega) only [zA, zB, zC, zD, zE, zF, zG, q0c, qz6, qz7, zH, zI, dpos, dneg, zJ, zK, zL, zM, zN, zO, zP, qgf, e0, el, es, e]
theorem q9w {S T : Pm k hk → Prop} (h : ∀ x, S x → T x) {y : Pm k hk} (hy : T y) (hn : ¬ S y) : (can S).length < (can T).length := by
  have hle : (can S).length ≤ (can T).length := q1q can_asc.nodup (fun p hp => by
    obtain ⟨hp, hx⟩ := q65.1 hp
    exact q65.2 ⟨hp, h _ hx⟩)
  rcases Nat.lt_or_ge (can S).length (can T).length with g | g
  · exact g
  · exact absurd (q87 h (by omega) y hy) hn
theorem q9x (hn : Fu n) {G have0 : List (List Int)} (hG : ∀ p ∈ G, PK k p) (hGl : G.length ≤ 1000000) {i B : Nat} (hi : i < have0.length) (hB : B ≤ 100000000) (hh : ∀ p ∈ have0, PK k p) (hl : have0.length ≤ B + (can (hk := hk) (Cl (dn have0))).length) :
    ∃ ext, iterN (qgh n) n (G, (i : Int), 0, have0, setT k (upS (Cl (dn have0 : Pm k hk → Prop))), ()) = some (.inl (G, (i : Int), have0 ++ ext, setT k (upS (Cl (dn (have0 ++ ext) : Pm k hk → Prop))), ())) ∧
      (∀ p ∈ have0 ++ ext, PK k p) ∧ (have0 ++ ext).length ≤ B + (can (hk := hk) (Cl (dn (have0 ++ ext)))).length ∧ (∀ p ∈ ext, ∃ y g : Pm k hk, p = (cj g y).1 ∧ dn have0 y ∧ dn G g) ∧
      ∀ y g : Pm k hk, row have0 i = y.1 → dn G g → Cl (dn (have0 ++ ext)) (cj g y) := by
  obtain ⟨y, ey, hy⟩ := q71 (hk := hk) hh hi
  obtain ⟨r, e, ext, rfl, q1, q2, q3, q4⟩ := qz2 (f := qgh n) hn
    (fun d => ∃ (j : Nat) (ext : List (List Int)), d = (G, (i : Int), (j : Int), have0 ++ ext, setT k (upS (Cl (dn (have0 ++ ext) : Pm k hk → Prop))), ()) ∧ j ≤ G.length ∧ (∀ p ∈ have0 ++ ext, PK k p) ∧ (have0 ++ ext).length ≤ B + (can (hk := hk) (Cl (dn (have0 ++ ext)))).length ∧ (∀ p ∈ ext, ∃ g : Pm k hk, p = (cj g y).1 ∧ dn G g) ∧
      ∀ g : Pm k hk, dn (G.take j) g → Cl (dn (have0 ++ ext)) (cj g y))
    (fun d => ((G.length : Int) - d.2.2.1).toNat)
    (fun r => ∃ ext, r = .inl (G, (i : Int), have0 ++ ext, setT k (upS (Cl (dn (have0 ++ ext) : Pm k hk → Prop))), ()) ∧ (∀ p ∈ have0 ++ ext, PK k p) ∧ (have0 ++ ext).length ≤ B + (can (hk := hk) (Cl (dn (have0 ++ ext)))).length ∧ (∀ p ∈ ext, ∃ g : Pm k hk, p = (cj g y).1 ∧ dn G g) ∧
      ∀ g : Pm k hk, dn G g → Cl (dn (have0 ++ ext)) (cj g y))
    (d := (G, (i : Int), 0, have0, setT k (upS (Cl (dn have0 : Pm k hk → Prop))), ()))
    ⟨0, [], by rw [List.append_nil]; rfl, Nat.zero_le _, by rw [List.append_nil]; exact hh, by rw [List.append_nil]; exact hl, (fun p h => nomatch h), fun g hg => absurd hg (q73 g)⟩ (by simp only; omega) (by
      rintro d ⟨j, ext, rfl, h1, h2, h3, h4, h5⟩
      have hcl := q68 (H := Cl (dn (have0 ++ ext) : Pm k hk → Prop))
      by_cases c : j < G.length
      · obtain ⟨g, eg, hg⟩ := q71 (hk := hk) hG c
        have ec := q8y hn g y
        have er := q70 hn (cj g y)
        have lk := q89 (S := Cl (dn (have0 ++ ext) : Pm k hk → Prop)) (cj g y)
        have hlen : i < (have0 ++ ext).length := by rw [List.length_append]; omega
        have ei : idx (have0 ++ ext) (i : Int) = some y.1 := by rw [q0e hlen, q1v hi, ey]
        by_cases c2 : Cl (dn (have0 ++ ext)) (cj g y)
        · rw [decide_eq_true c2] at lk
          refine .inl ⟨(G, (i : Int), ((j + 1 : Nat) : Int), have0 ++ ext, setT k (upS (Cl (dn (have0 ++ ext) : Pm k hk → Prop))), ()), ?_, ⟨j + 1, ext, rfl, c, h2, h3, h4, fun z hz => ?_⟩, by simp only; omega⟩
          · simp (disch := first | assumption | omega) only [zA, zB, zC, zD, zE, zF, zG, q0c, qz6, qz7, zH, zI, dpos, dneg, zJ, zK, zL, zM, zN, zO, zP, qgh, qgg, q0e, eg, ei, ec, er, lk, up1]
          · rcases (q72 c eg z).1 hz with hz | rfl
            · exact h5 z hz
            · exact c2
        · rw [decide_eq_false c2] at lk
          have hP : ∀ p ∈ have0 ++ ext ++ [(cj g y).1], PK k p := fun p hp => by
            rw [List.mem_append, List.mem_singleton] at hp
            rcases hp with hp | rfl
            · exact h2 p hp
            · exact (cj g y).2
          have hlen2 : (have0 ++ ext ++ [(cj g y).1]).length = (have0 ++ ext).length + 1 := by rw [List.length_append]; rfl
          have hm : ∀ x : Pm k hk, Cl (dn (have0 ++ ext)) x → Cl (dn (have0 ++ ext ++ [(cj g y).1])) x := fun x hx => hx.mono (fun a ha => .gen (List.mem_append_left _ ha))
          have hlt := q9w hm (y := cj g y) (.gen (show (cj g y).1 ∈ have0 ++ ext ++ [(cj g y).1] by simp)) c2
          have ecl := q9q (hk := hk) hn hP (by omega) (by omega)
          have es2 := q9u hn (Cl (dn (have0 ++ ext ++ [(cj g y).1]) : Pm k hk → Prop))
          have hl1 : ([(cj g y).1] : List (List Int)).length = 1 := rfl
          have el : (((cj g y).1.length : Nat) : Int) = (k : Int) := by rw [(cj g y).2.2]
          have hlb : lenB ((have0 ++ ext).length + ([(cj g y).1] : List (List Int)).length) = true := qz6 (by rw [hl1]; omega)
          have eas : have0 ++ (ext ++ [(cj g y).1]) = have0 ++ ext ++ [(cj g y).1] := (List.append_assoc _ _ _).symm
          refine .inl ⟨(G, (i : Int), ((j + 1 : Nat) : Int), have0 ++ (ext ++ [(cj g y).1]), setT k (upS (Cl (dn (have0 ++ (ext ++ [(cj g y).1])) : Pm k hk → Prop))), ()), ?_, ⟨j + 1, _, rfl, c, by rw [eas]; exact hP, by rw [eas]; omega, fun p hp => ?_, fun z hz => ?_⟩, by simp only; omega⟩
          · rw [eas]
            have d1 : decide ((j : Int) < (G.length : Int)) = true := decide_eq_true (by omega)
            simp only [qgh, qgg, d1, cond_true, q0e c, Option.bind_some, eg, ei, ec, er, lk, Bool.not_false, hlb, q0c, ecl, el, es2, Sum.elim_inl, up1 (i := j) (by omega)]
          · rw [List.mem_append, List.mem_singleton] at hp
            rcases hp with hp | rfl
            · exact h4 p hp
            · exact ⟨g, rfl, hg⟩
          · rw [eas]
            rcases (q72 c eg z).1 hz with hz | rfl
            · exact hm _ (h5 z hz)
            · exact .gen (show (cj z y).1 ∈ have0 ++ ext ++ [(cj z y).1] by simp)
      · obtain rfl : j = G.length := by omega
        rw [List.take_length] at h5
        refine .inr ⟨_, ?_, ext, rfl, h2, h3, h4, h5⟩
        have d1 : decide ((G.length : Int) < (G.length : Int)) = false := decide_eq_false (by omega)
        simp only [qgh, qgg, d1, cond_false])
  refine ⟨ext, e, q1, q2, fun p hp => ?_, fun z g ez hg => ?_⟩
  · obtain ⟨g, e, hg⟩ := q3 p hp; exact ⟨y, g, e, hy, hg⟩
  · have : z = y := Pm.ext (ez.symm.trans ey)
    rw [this]; exact q4 g hg
theorem q9y (hn : Fu n) {G l : List (List Int)} (hG : ∀ p ∈ G, PK k p) (hG0 : 0 < G.length) (hGl : G.length ≤ 1000000) (hl : ∀ p ∈ l, PK k p) (hll : l.length ≤ 100000000) :
    ∃ N : Pm k hk → Prop, qgk n l G = some (can N, ()) ∧ Sub N ∧ Norm (Cl (dn G)) N ∧ (∀ x, dn l x → N x) ∧ ∀ T : Pm k hk → Prop, Sub T → Norm (Cl (dn G)) T → (∀ x, dn l x → T x) → ∀ x, N x → T x := by
  have e0 : idx G 0 = some (row G 0) := q0e (u := 0) hG0
  have el : (((row G 0).length : Nat) : Int) = (k : Int) := by rw [(hG _ (q0d hG0)).2]
  have eid := q09 hn k (by have := hk.2; omega)
  have hP : ∀ p ∈ [idP k] ++ l, PK k p := fun p hp => by
    rw [List.mem_append, List.mem_singleton] at hp
    rcases hp with rfl | hp
    · exact (1 : Pm k hk).2
    · exact hl p hp
  have hlen : ([idP k] ++ l).length = l.length + 1 := by simp
  have ecl := q9q (hk := hk) hn hP (by omega) (by omega)
  have es := q9u hn (Cl (dn ([idP k] ++ l) : Pm k hk → Prop))
  obtain ⟨r, e, hv, rfl, q1, q2, q3, q4⟩ := qz2 (f := qgj n) hn
    (fun d => ∃ (i : Nat) (hv : List (List Int)), d = (G, (i : Int), hv, setT k (upS (Cl (dn hv : Pm k hk → Prop))), ()) ∧ i ≤ hv.length ∧ (∀ p ∈ hv, PK k p) ∧ hv.length ≤ l.length + (can (hk := hk) (Cl (dn hv))).length ∧ (∀ x : Pm k hk, dn l x → dn hv x) ∧
      (∀ T : Pm k hk → Prop, Sub T → Norm (Cl (dn G)) T → (∀ x, dn l x → T x) → ∀ x, dn hv x → T x) ∧ ∀ y g : Pm k hk, (∃ j, j < i ∧ row hv j = y.1) → dn G g → Cl (dn hv) (cj g y))
    (fun d => l.length + 5041 - d.2.1.toNat)
    (fun r => ∃ hv, r = .inl (setT k (upS (Cl (dn hv : Pm k hk → Prop))), ()) ∧ (∀ p ∈ hv, PK k p) ∧ (∀ x : Pm k hk, dn l x → dn hv x) ∧
      (∀ T : Pm k hk → Prop, Sub T → Norm (Cl (dn G)) T → (∀ x, dn l x → T x) → ∀ x, dn hv x → T x) ∧ ∀ y g : Pm k hk, dn hv y → dn G g → Cl (dn hv) (cj g y))
    (d := (G, 0, [idP k] ++ l, setT k (upS (Cl (dn ([idP k] ++ l) : Pm k hk → Prop))), ()))
    ⟨0, [idP k] ++ l, rfl, Nat.zero_le _, hP, by have := q74 (Cl.sub (dn ([idP k] ++ l) : Pm k hk → Prop)); omega, fun x hx => List.mem_append_right _ hx, fun T hT _ h x hx => by
      have hx : x.1 ∈ [idP k] ++ l := hx
      rw [List.mem_append, List.mem_singleton] at hx
      rcases hx with hx | hx
      · have : x = 1 := Pm.ext hx
        rw [this]; exact hT.one
      · exact h x hx, fun y g ⟨j, hj, _⟩ => by omega⟩ (by simp only; omega) (by
      rintro d ⟨i, hv, rfl, h1, h2, h3, h4, h5, h6⟩
      have hcl := q68 (H := Cl (dn hv : Pm k hk → Prop))
      by_cases c : i < hv.length
      · obtain ⟨ext, e, r1, r2, r3, r4⟩ := q9x hn hG hGl c hll h2 h3
        refine .inl ⟨(G, ((i + 1 : Nat) : Int), hv ++ ext, setT k (upS (Cl (dn (hv ++ ext) : Pm k hk → Prop))), ()), ?_, ⟨i + 1, hv ++ ext, rfl, by rw [List.length_append]; omega, r1, r2, fun x hx => List.mem_append_left _ (h4 x hx), fun T hT hN h x hx => ?_, fun y g ⟨j, hj, ey⟩ hg => ?_⟩, by simp only [Int.toNat_natCast]; omega⟩
        · simp (disch := first | assumption | omega) only [zA, zB, zC, zD, zE, zF, zG, q0c, qz6, qz7, zH, zI, dpos, dneg, zJ, zK, zL, zM, zN, zO, zP, qgj, qgi, e, up1]
        · have hx : x.1 ∈ hv ++ ext := hx
          rw [List.mem_append] at hx
          rcases hx with hx | hx
          · exact h5 T hT hN h x hx
          · obtain ⟨y, g, e, hy, hg⟩ := r3 _ hx
            rw [Pm.ext e]
            exact hN _ _ (.gen hg) (h5 T hT hN h y hy)
        · by_cases ej : j = i
          · subst ej
            rw [q1v c] at ey
            exact r4 y g ey hg
          · rw [q1v (by omega)] at ey
            exact (h6 y g ⟨j, by omega, ey⟩ hg).mono (fun a ha => .gen (List.mem_append_left _ ha))
      · obtain rfl : i = hv.length := by omega
        refine .inr ⟨_, ?_, hv, rfl, h2, h4, h5, fun y g hy hg => ?_⟩
        · simp (disch := first | assumption | omega) only [zA, zB, zC, zD, zE, zF, zG, q0c, qz6, qz7, zH, zI, dpos, dneg, zJ, zK, zL, zM, zN, zO, zP, qgj, qgi]
        · obtain ⟨j, hj, ej⟩ := mem_row.1 hy
          exact h6 y g ⟨j, hj, ej⟩ hg)
  have elst := q6u hn (S := upS (Cl (dn hv : Pm k hk → Prop))) hk.2
  change _ = some (can (Cl (dn hv : Pm k hk → Prop)), ()) at elst
  refine ⟨Cl (dn hv), ?_, Cl.sub _, q3b (T := dn hv) (Cl.sub _) (fun p hp => hp) (fun c p hc hp => q4 p c hp hc), fun x hx => .gen (q2 x hx), fun T hT hN h x hx => hx.le hT (q3 T hT hN h)⟩
  have hl1 : ([idP k] : List (List Int)).length = 1 := rfl
  simp (disch := first | assumption | omega) only [zA, zB, zC, zD, zE, zF, zG, q0c, qz6, qz7, zH, zI, dpos, dneg, zJ, zK, zL, zM, zN, zO, zP, qgk, e0, el, eid, ecl, es, e, elst]
theorem q9z (hn : Fu n) {G : List (List Int)} (hG : ∀ p ∈ G, PK k p) (hGl : G.length ≤ 6000) {i : Nat} (x : Pm k hk) (ei : idx G (i : Int) = some x.1) {l : List (List Int)} (hl : l.length ≤ 36000000) (hlP : ∀ p ∈ l, PK k p) :
    ∃ ext, iterN (qgm n) n (G, (i : Int), 0, l, ()) = some (.inl (G, (i : Int), l ++ ext, ())) ∧ ext.length = G.length ∧ ∀ p, p ∈ ext ↔ ∃ y : Pm k hk, dn G y ∧ p = (cm x y).1 := by
  obtain ⟨r, e, ext, rfl, q1, q2⟩ := qz2 (f := qgm n) hn
    (fun d => ∃ (j : Nat) (ext : List (List Int)), d = (G, (i : Int), (j : Int), l ++ ext, ()) ∧ j ≤ G.length ∧ ext.length = j ∧ ∀ p, p ∈ ext ↔ ∃ y : Pm k hk, dn (G.take j) y ∧ p = (cm x y).1)
    (fun d => ((G.length : Int) - d.2.2.1).toNat)
    (fun r => ∃ ext, r = .inl (G, (i : Int), l ++ ext, ()) ∧ ext.length = G.length ∧ ∀ p, p ∈ ext ↔ ∃ y : Pm k hk, dn G y ∧ p = (cm x y).1)
    (d := (G, (i : Int), 0, l, ()))
    ⟨0, [], by rw [List.append_nil]; rfl, Nat.zero_le _, rfl, fun p => ⟨(fun h => nomatch h), fun ⟨y, hy, _⟩ => absurd hy (q73 y)⟩⟩ (by simp only; omega) (by
      rintro d ⟨j, ext, rfl, h1, h2, h3⟩
      by_cases c : j < G.length
      · obtain ⟨y, ey, hy⟩ := q71 (hk := hk) hG c
        have ec := q7z hn x y
        have hl1 : ([(cm x y).1] : List (List Int)).length = 1 := rfl
        refine .inl ⟨(G, (i : Int), ((j + 1 : Nat) : Int), l ++ (ext ++ [(cm x y).1]), ()), ?_, ⟨j + 1, _, rfl, c, by rw [List.length_append, h2]; rfl, fun p => ?_⟩, by simp only; omega⟩
        · rw [← List.append_assoc]
          simp (disch := first | assumption | omega) only [zA, zB, zC, zD, zE, zF, zG, q0c, qz6, qz7, zH, zI, dpos, dneg, zJ, zK, zL, zM, zN, zO, zP, qgm, qgl, q0e, ei, ey, ec, up1]
        · rw [List.mem_append, List.mem_singleton, h3]
          constructor
          · rintro (⟨z, hz, rfl⟩ | rfl)
            · exact ⟨z, (q72 c ey z).2 (.inl hz), rfl⟩
            · exact ⟨y, (q72 c ey y).2 (.inr rfl), rfl⟩
          · rintro ⟨z, hz, rfl⟩
            rcases (q72 c ey z).1 hz with hz | rfl
            · exact .inl ⟨z, hz, rfl⟩
            · exact .inr rfl
      · obtain rfl : j = G.length := by omega
        rw [List.take_length] at h3
        refine .inr ⟨_, ?_, ext, rfl, h2, h3⟩
        simp (disch := first | assumption | omega) only [zA, zB, zC, zD, zE, zF, zG, q0c, qz6, qz7, zH, zI, dpos, dneg, zJ, zK, zL, zM, zN, zO, zP, qgm, qgl])
  exact ⟨ext, e, q1, q2⟩
theorem q90 (hn : Fu n) {H : Pm k hk → Prop} (hH : Sub H) {G : List (List Int)} (hG : ∀ p ∈ G, PK k p) (hG0 : 0 < G.length) (hGl : G.length ≤ 5041) (hGH : ∀ x : Pm k hk, Cl (dn G) x ↔ H x) : qgp n G = some (can (Dr H), ()) := by
  obtain ⟨r, e, l, rfl, q1, q2⟩ := qz2 (f := qgo n) hn
    (fun d => ∃ (i : Nat) (l : List (List Int)), d = (G, (i : Int), l, ()) ∧ i ≤ G.length ∧ l.length ≤ i * 5041 ∧ ∀ p, p ∈ l ↔ ∃ x y : Pm k hk, dn (G.take i) x ∧ dn G y ∧ p = (cm x y).1)
    (fun d => ((G.length : Int) - d.2.1).toNat)
    (fun r => ∃ l, r = .inl (G, l, ()) ∧ l.length ≤ 36000000 ∧ ∀ p, p ∈ l ↔ ∃ x y : Pm k hk, dn G x ∧ dn G y ∧ p = (cm x y).1)
    (d := (G, 0, [], ()))
    ⟨0, [], rfl, Nat.zero_le _, by simp, fun p => ⟨(fun h => nomatch h), fun ⟨x, _, hx, _⟩ => absurd hx (q73 x)⟩⟩ (by simp only; omega) (by
      rintro d ⟨i, l, rfl, h1, h2, h3⟩
      have hm : i * 5041 ≤ 5041 * 5041 := Nat.mul_le_mul (by omega) (Nat.le_refl _)
      by_cases c : i < G.length
      · obtain ⟨x, ex, hx⟩ := q71 (hk := hk) hG c
        obtain ⟨ext, e, r1, r2⟩ := q9z hn hG (by omega) x (i := i) (by rw [q0e c, ex]) (l := l) (by omega) (fun p hp => by
          obtain ⟨a, b, _, _, rfl⟩ := (h3 p).1 hp
          exact (cm a b).2)
        refine .inl ⟨(G, ((i + 1 : Nat) : Int), l ++ ext, ()), ?_, ⟨i + 1, l ++ ext, rfl, c, by rw [List.length_append]; omega, fun p => ?_⟩, by simp only; omega⟩
        · simp (disch := first | assumption | omega) only [zA, zB, zC, zD, zE, zF, zG, q0c, qz6, qz7, zH, zI, dpos, dneg, zJ, zK, zL, zM, zN, zO, zP, qgo, qgn, e, up1]
        · rw [List.mem_append, h3, r2]
          constructor
          · rintro (⟨a, b, ha, hb, rfl⟩ | ⟨b, hb, rfl⟩)
            · exact ⟨a, b, (q72 c ex a).2 (.inl ha), hb, rfl⟩
            · exact ⟨x, b, (q72 c ex x).2 (.inr rfl), hb, rfl⟩
          · rintro ⟨a, b, ha, hb, rfl⟩
            rcases (q72 c ex a).1 ha with ha | rfl
            · exact .inl ⟨a, b, ha, hb, rfl⟩
            · exact .inr ⟨b, hb, rfl⟩
      · obtain rfl : i = G.length := by omega
        rw [List.take_length] at h3
        refine .inr ⟨_, ?_, l, rfl, by omega, h3⟩
        simp (disch := first | assumption | omega) only [zA, zB, zC, zD, zE, zF, zG, q0c, qz6, qz7, zH, zI, dpos, dneg, zJ, zK, zL, zM, zN, zO, zP, qgo, qgn])
  obtain ⟨N, e2, s1, s2, s3, s4⟩ := q9y hn hG hG0 (by omega) (l := l) (fun p hp => by
    obtain ⟨a, b, _, _, rfl⟩ := (q2 p).1 hp
    exact (cm a b).2) (by omega)
  have e3 : can N = can (Dr H) := q69 (fun x => by
    have hCl : (Cl (dn G) : Pm k hk → Prop) = H := funext fun x => propext (hGH x)
    constructor
    · refine s4 (Dr H) (Dr.sub H) (by rw [hCl]; exact Dr.norm hH) (fun y hy => ?_) x
      obtain ⟨a, b, ha, hb, e⟩ := (q2 y.1).1 hy
      rw [Pm.ext e]
      exact .gen ⟨a, b, (hGH a).1 (.gen ha), (hGH b).1 (.gen hb), rfl⟩
    · intro hx
      rw [← hCl] at hx
      exact Dr.of_gens s1 s2 (fun a b ha hb => s3 _ ((q2 _).2 ⟨a, b, ha, hb, rfl⟩)) hx)
  rw [← e3]
  simp (disch := first | assumption | omega) only [zA, zB, zC, zD, zE, zF, zG, q0c, qz6, qz7, zH, zI, dpos, dneg, zJ, zK, zL, zM, zN, zO, zP, qgp, e, e2]
end Go.Proofs.Ytemejeiajekmcaa.V
namespace Go.Proofs.Ytemejeiajekmcaa.V
open Go Classical Grp
set_option linter.unusedVariables false
set_option linter.all false
variable {n : Nat} {k : Nat} {hk : 1 ≤ k ∧ k ≤ 7}
theorem q91 (hn : Fu n) {G l : List (List Int)} (hG : ∀ p ∈ G, PK k p) (hGl : G.length ≤ 1000000000) {i : Int} {out : List (List (List Int))} {d6 : Int × (List Bool × Unit)} (p : Pm k hk) {done todo : List (List Int)} (hnd : (done ++ todo).Nodup) (hP : ∀ q ∈ done ++ todo, PK k q) :
    ∃ ext, iterN (qgr n) n (l, G, i, p.1, 0, out, d6, setT k (· ∈ done ++ todo), todo, ()) = some (.inl (l, G, i, out, d6, setT k (· ∈ done ++ (todo ++ ext)), todo ++ ext, ())) ∧ (done ++ (todo ++ ext)).Nodup ∧ (∀ q ∈ ext, ∃ g : Pm k hk, dn G g ∧ q = (cj g p).1) ∧ ∀ g : Pm k hk, dn G g → (cj g p).1 ∈ done ++ (todo ++ ext) := by
  obtain ⟨r, e, ext, rfl, h1, h2, h3⟩ := qz2 (f := qgr n) hn
    (fun d => ∃ (j : Nat) (ext : List (List Int)), d = (l, G, i, p.1, (j : Int), out, d6, setT k (· ∈ done ++ (todo ++ ext)), todo ++ ext, ()) ∧ j ≤ G.length ∧ (done ++ (todo ++ ext)).Nodup ∧ (∀ q ∈ ext, ∃ g : Pm k hk, dn G g ∧ q = (cj g p).1) ∧ ∀ g : Pm k hk, dn (G.take j) g → (cj g p).1 ∈ done ++ (todo ++ ext))
    (fun d => ((G.length : Int) - d.2.2.2.2.1).toNat)
    (fun r => ∃ ext, r = .inl (l, G, i, out, d6, setT k (· ∈ done ++ (todo ++ ext)), todo ++ ext, ()) ∧ (done ++ (todo ++ ext)).Nodup ∧ (∀ q ∈ ext, ∃ g : Pm k hk, dn G g ∧ q = (cj g p).1) ∧ ∀ g : Pm k hk, dn G g → (cj g p).1 ∈ done ++ (todo ++ ext))
    (d := (l, G, i, p.1, 0, out, d6, setT k (· ∈ done ++ todo), todo, ()))
    ⟨0, [], by simp, Nat.zero_le _, by simpa using hnd, (fun p h => nomatch h), fun g hg => absurd hg (q73 g)⟩ (by simp only; omega) (by
      rintro d ⟨j, ext, rfl, h1, h2, h3, h4⟩
      have hP2 : ∀ p ∈ done ++ (todo ++ ext), PK k p := fun q hq => by
        rw [← List.append_assoc, List.mem_append] at hq
        rcases hq with hq | hq
        · exact hP q hq
        · obtain ⟨g, _, rfl⟩ := h3 q hq
          exact (cj g p).2
      by_cases c1 : j < G.length
      · obtain ⟨g, eg, hg⟩ := q71 (hk := hk) hG c1
        have ec := q8y hn g p
        have er := q70 hn (cj g p)
        have hfew := q7b h2 hP2 hk
        rw [List.length_append, List.length_append] at hfew
        by_cases c2 : (cj g p).1 ∈ done ++ (todo ++ ext)
        · have ei := q7e (S := (· ∈ done ++ (todo ++ ext))) (cj g p).2 c2
          refine .inl ⟨(l, G, i, p.1, ((j + 1 : Nat) : Int), out, d6, setT k (· ∈ done ++ (todo ++ ext)), todo ++ ext, ()), ?_, ⟨j + 1, ext, rfl, c1, h2, h3, fun z hz => ?_⟩, by simp only; omega⟩
          · simp (disch := first | assumption | omega) only [zA, zB, zC, zD, zE, zF, zG, q0c, qz6, qz7, zH, zI, dpos, dneg, zJ, zK, zL, zM, zN, zO, zP, qgr, qgq, q0e, eg, ec, er, ei, up1]
          · rcases (q72 c1 eg z).1 hz with hz | rfl
            · exact h4 z hz
            · exact c2
        · have ei := q7f (S := (· ∈ done ++ (todo ++ ext))) (cj g p).2 c2
          have es : (hasT k (· ∈ done ++ (todo ++ ext))).set (rank (cj g p).1) true = hasT k (· ∈ done ++ (todo ++ (ext ++ [(cj g p).1]))) := by
            rw [q6q (cj g p).2]
            congr 1
            funext q
            apply propext
            simp only [List.mem_append, List.mem_singleton, or_assoc]
          refine .inl ⟨(l, G, i, p.1, ((j + 1 : Nat) : Int), out, d6, setT k (· ∈ done ++ (todo ++ (ext ++ [(cj g p).1]))), todo ++ (ext ++ [(cj g p).1]), ()), ?_, ⟨j + 1, _, rfl, c1, ?_, fun q hq => ?_, fun z hz => ?_⟩, by simp only; omega⟩
          · simp (disch := first | assumption | omega) only [zA, zB, zC, zD, zE, zF, zG, q0c, qz6, qz7, zH, zI, dpos, dneg, zJ, zK, zL, zM, zN, zO, zP, qgr, qgq, q0e, eg, ec, er, ei, es, up1, List.append_assoc]
          · rw [← List.append_assoc, ← List.append_assoc, List.nodup_append]
            refine ⟨by rw [List.append_assoc]; exact h2, by simp, fun a ha b hb => ?_⟩
            rw [List.mem_singleton] at hb
            subst hb
            intro e
            subst e
            exact c2 (by rw [List.append_assoc] at ha; exact ha)
          · rw [List.mem_append, List.mem_singleton] at hq
            rcases hq with hq | rfl
            · exact h3 q hq
            · exact ⟨g, hg, rfl⟩
          · rcases (q72 c1 eg z).1 hz with hz | rfl
            · have := h4 z hz
              rw [← List.append_assoc, ← List.append_assoc, List.mem_append, List.append_assoc]
              exact .inl this
            · simp
      · obtain rfl : j = G.length := by omega
        rw [List.take_length] at h4
        refine .inr ⟨_, ?_, ext, rfl, h2, h3, h4⟩
        simp (disch := first | assumption | omega) only [zA, zB, zC, zD, zE, zF, zG, q0c, qz6, qz7, zH, zI, dpos, dneg, zJ, zK, zL, zM, zN, zO, zP, qgr, qgq])
  exact ⟨ext, e, h1, h2, h3⟩
theorem q92 (hn : Fu n) {H : Pm k hk → Prop} (hH : Sub H) {G l : List (List Int)} (hG : ∀ p ∈ G, PK k p) (hGl : G.length ≤ 1000000000) (hGH : ∀ x : Pm k hk, Cl (dn G) x ↔ H x) {i : Int} {out : List (List (List Int))} (x : Pm k hk) (D : Pm k hk → Prop) :
    iterN (qgt n) n (l, G, i, out, setT k (upS D), setT k (· ∈ [] ++ [x.1]), [x.1], ()) = some (.inl (l, G, i, out, setT k (upS (fun y => D y ∨ Cls H x y)), setT k (upS (Cls H x)), ())) := by
  obtain ⟨r, e, rfl⟩ := q6w (f := qgt n) hn
    (fun (done : List (List Int)) d => ∃ todo, d = (l, G, i, out, setT k (upS (fun y => D y ∨ dn done y)), setT k (· ∈ done ++ todo), todo, ()) ∧ (done ++ todo).Nodup ∧ (∀ p ∈ done ++ todo, upS (Cls H x) p) ∧ x.1 ∈ done ++ todo ∧ ∀ p g : Pm k hk, dn done p → dn G g → (cj g p).1 ∈ done ++ todo)
    (fun done => 5041 - done.length)
    (fun r => r = .inl (l, G, i, out, setT k (upS (fun y => D y ∨ Cls H x y)), setT k (upS (Cls H x)), ()))
    [] (d := (l, G, i, out, setT k (upS D), setT k (· ∈ [] ++ [x.1]), [x.1], ()))
    ⟨[x.1], by
      have : (fun y : Pm k hk => D y ∨ dn [] y) = D := funext fun y => propext ⟨fun h => h.elim id (fun h => nomatch h), .inl⟩
      rw [this], by simp, fun p hp => by
      have : p = x.1 := by simpa using hp
      subst this
      exact ⟨x.2, Cls.refl hH x⟩, by simp, fun p g hp => nomatch hp⟩ (by simp) (by
      rintro done d ⟨todo, rfl, h1, h2, h3, h4⟩
      have hP : ∀ p ∈ done ++ todo, PK k p := fun p hp => (h2 p hp).1
      have hfew := q7b h1 hP hk
      rw [List.length_append] at hfew
      cases todo with
      | nil =>
        rw [List.append_nil] at h2 h3 h4
        refine .inr ⟨_, ?_, rfl⟩
        have key : ∀ y : Pm k hk, dn done y ↔ Cls H x y := fun y => by
          constructor
          · intro hy
            obtain ⟨_, hc⟩ := h2 y.1 hy
            exact hc
          · rintro ⟨c, hc, rfl⟩
            replace hc := (hGH c).2 hc
            induction hc with
            | one => rw [q20]; exact h3
            | @step p q _ hq ih =>
              rw [← cj_cj]
              exact h4 _ _ ih hq
        have k1 : (fun y : Pm k hk => D y ∨ dn done y) = fun y => D y ∨ Cls H x y := funext fun y => propext (or_congr Iff.rfl (key y))
        have k2 : hasT k (· ∈ done ++ []) = hasT k (upS (Cls H x)) := q6r hk.1 hk.2 (fun p hp => by
          rw [List.append_nil]
          exact ⟨fun h => ⟨hp, (key ⟨p, hp⟩).1 h⟩, fun ⟨hp, h⟩ => (key ⟨p, hp⟩).2 h⟩)
        rw [k1]
        show qgt n (l, G, i, out, setT k (upS (fun y => D y ∨ Cls H x y)), ((k : Int), (hasT k (· ∈ done ++ []), ())), [], ()) = _
        rw [k2]
        simp (disch := first | assumption | omega) only [zA, zB, zC, zD, zE, zF, zG, q0c, qz6, qz7, zH, zI, dpos, dneg, zJ, zK, zL, zM, zN, zO, zP, qgt, qgs]
      | cons p rest =>
        obtain ⟨hp, hpc⟩ := h2 p (by simp)
        have eapp : done ++ p :: rest = (done ++ [p]) ++ rest := by simp
        rw [eapp] at h1 hP h2 h3 h4
        obtain ⟨ext, e, q1, q2, q3⟩ := q91 (hk := hk) hn hG hGl (l := l) (i := i) (out := out) (d6 := setT k (upS (fun y => D y ∨ dn (done ++ [p]) y))) (Pm.mk p hp) h1 hP
        have er := q70 hn (Pm.mk (hk := hk) p hp)
        have lk := q89 (S := fun y => D y ∨ dn done y) (Pm.mk (hk := hk) p hp)
        have es := q88 (S := fun y => D y ∨ dn done y) (T := fun y => D y ∨ dn (done ++ [p]) y) (Pm.mk (hk := hk) p hp) (fun y => by
          show D y ∨ y.1 ∈ done ++ [p] ↔ (D y ∨ y.1 ∈ done) ∨ y = Pm.mk p hp
          rw [List.mem_append, List.mem_singleton, or_assoc]
          exact or_congr Iff.rfl (or_congr Iff.rfl ⟨fun h => Pm.ext h, fun h => by rw [h]; rfl⟩))
        change qeq n p = some ((rank p : Int), ()) at er
        change idx _ (rank p : Int) = _ at lk
        change (hasT k _).set (rank p) true = _ at es
        refine .inl ⟨(l, G, i, out, setT k (upS (fun y => D y ∨ dn (done ++ [p]) y)), setT k (· ∈ (done ++ [p]) ++ (rest ++ ext)), rest ++ ext, ()), done ++ [p], ?_, ⟨rest ++ ext, rfl, q1, fun q hq => ?_, ?_, fun q g hq hg => ?_⟩, ?_⟩
        · rw [eapp]
          have hi : idx (p :: rest) 0 = some p := rfl
          have hs : subs (p :: rest) 1 (rest.length + 1) = rest := q6l (p :: rest) 1
          have t1 : Int.toNat 1 = 1 := rfl
          change iterN (qgr n) n (l, G, i, p, 0, out, setT k (upS (fun y => D y ∨ dn (done ++ [p]) y)), setT k (· ∈ (done ++ [p]) ++ rest), rest, ()) = _ at e
          simp (disch := first | assumption | omega) only [zA, zB, zC, zD, zE, zF, zG, q0c, qz6, qz7, zH, zI, dpos, dneg, zJ, zK, zL, zM, zN, zO, zP, qgt, qgs, hi, t1, hs, er, lk, es, e]
        · rw [← List.append_assoc, List.mem_append] at hq
          rcases hq with hq | hq
          · exact h2 q hq
          · obtain ⟨g, hg, rfl⟩ := q2 q hq
            exact ⟨(cj g (Pm.mk p hp)).2, hpc.trans hH ⟨g, (hGH g).1 (.gen hg), rfl⟩⟩
        · rw [← List.append_assoc, List.mem_append]; exact .inl h3
        · have hq : q.1 ∈ done ++ [p] := hq
          rw [List.mem_append] at hq
          rcases hq with hq | hq
          · have := h4 q g hq hg
            rw [← List.append_assoc, List.mem_append]; exact .inl this
          · rw [List.mem_singleton] at hq
            have : q = Pm.mk p hp := Pm.ext hq
            rw [this]
            exact q3 g hg
        · rw [List.length_append]
          simp only [List.length_cons, List.length_nil] at hfew ⊢
          omega)
  exact e
theorem q93 (hn : Fu n) {H : Pm k hk → Prop} (hH : Sub H) {G : List (List Int)} (hG : ∀ p ∈ G, PK k p) (hGl : G.length ≤ 1000000000) (hGH : ∀ x : Pm k hk, Cl (dn G) x ↔ H x) : qgw n (can H) G = some (clsT H (can H) (can H).length, ()) := by
  have hl := q68 (H := H)
  have e0 : idx (can H) 0 = some (row (can H) 0) := q0e (u := 0) (q74 hH)
  have el : (((row (can H) 0).length : Nat) : Int) = (k : Int) := by rw [q75 hH]
  have es := q9b hn hk
  obtain ⟨r, e, rfl⟩ := qz2 (f := qgv n) hn
    (fun d => ∃ (i : Nat), d = (can H, G, (i : Int), clsT H (can H) i, setT k (upS (dne H (can H) i)), ()) ∧ i ≤ (can H).length)
    (fun d => (((can H).length : Int) - d.2.2.1).toNat)
    (fun r => r = .inl (clsT H (can H) (can H).length, ()))
    (d := (can H, G, 0, [], setT k (upS (fun _ : Pm k hk => False)), ()))
    ⟨0, by rw [q9i]; rfl, Nat.zero_le _⟩ (by simp only; omega) (by
      rintro d ⟨i, rfl, h1⟩
      by_cases c : i < (can H).length
      · obtain ⟨x, ex, hx⟩ := q71 (hk := hk) (q67 (H := H)) c
        have ei : idx (can H) (i : Int) = some x.1 := by rw [q0e c, ex]
        have er := q70 hn x
        have lk := q89 (S := dne H (can H) i) x
        have hcl := q9d H (can H) i
        refine .inl ⟨(can H, G, ((i + 1 : Nat) : Int), clsT H (can H) (i + 1), setT k (upS (dne H (can H) (i + 1))), ()), ?_, ⟨i + 1, rfl, c⟩, by simp only; omega⟩
        by_cases c2 : dne H (can H) i x
        · rw [decide_eq_true c2] at lk
          rw [q9e ex c2, q9h hH c ex c2]
          simp (disch := first | assumption | omega) only [zA, zB, zC, zD, zE, zF, zG, q0c, qz6, qz7, zH, zI, dpos, dneg, zJ, zK, zL, zM, zN, zO, zP, qgv, qgu, ei, er, lk, up1]
        · rw [decide_eq_false c2] at lk
          have ein := q92 (l := can H) (i := (i : Int)) (out := clsT H (can H) i) hn hH hG hGl hGH x (dne H (can H) i)
          rw [List.nil_append] at ein
          have e2 : (fun y => dne H (can H) i y ∨ Cls H x y) = dne H (can H) (i + 1) := funext fun y => propext (q9g c ex y).symm
          rw [e2] at ein
          have es1 := q6s hn hk.1 hk.2 (l := [x.1]) (by simp) (fun p hp => by rw [List.mem_singleton] at hp; subst hp; exact x.2)
          have elst := q6u hn (S := upS (Cls H x)) hk.2
          change _ = some (can (Cls H x), ()) at elst
          rw [q9f ex c2]
          have hl1 : ([can (Cls H x)] : List (List (List Int))).length = 1 := rfl
          simp (disch := first | assumption | omega) only [zA, zB, zC, zD, zE, zF, zG, q0c, qz6, qz7, zH, zI, dpos, dneg, zJ, zK, zL, zM, zN, zO, zP, qgv, qgu, ei, er, lk, e0, el, es1, ein, elst, up1]
      · obtain rfl : i = (can H).length := by omega
        refine .inr ⟨_, ?_, rfl⟩
        simp (disch := first | assumption | omega) only [zA, zB, zC, zD, zE, zF, zG, q0c, qz6, qz7, zH, zI, dpos, dneg, zJ, zK, zL, zM, zN, zO, zP, qgv, qgu])
  simp (disch := first | assumption | omega) only [zA, zB, zC, zD, zE, zF, zG, q0c, qz6, qz7, zH, zI, dpos, dneg, zJ, zK, zL, zM, zN, zO, zP, qgw, e0, el, es, e]
def cen : List (List (List Int)) → List (List Int)
  | [] => []
  | c :: r => if c.length = 1 then c.getD 0 [] :: cen r else cen r
theorem q94 (c : List (List Int)) (r : List (List (List Int))) : cen (c :: r) = if c.length = 1 then c.getD 0 [] :: cen r else cen r := rfl
theorem q95 : ∀ (a b : List (List (List Int))), cen (a ++ b) = cen a ++ cen b
  | [], b => rfl
  | c :: a, b => by
    rw [List.cons_append, q94, q94, q95 a b]
    by_cases h : c.length = 1
    · rw [if_pos h, if_pos h]; rfl
    · rw [if_neg h, if_neg h]
theorem q96 {H : Pm k hk → Prop} (hH : Sub H) {x : Pm k hk} : (can (Cls H x)).length = 1 ↔ ∀ c, H c → x * c = c * x := by
  constructor
  · intro h c hc
    obtain ⟨a, e⟩ := List.length_eq_one_iff.1 h
    have h1 := q66.2 (Cls.refl hH x)
    have h2 := q66.2 (show Cls H x (cj c x) from ⟨c, hc, rfl⟩)
    rw [e, List.mem_singleton] at h1 h2
    exact q27.1 (Pm.ext (h2.trans h1.symm))
  · intro h
    have : can (Cls H x) = [x.1] := Asc.ext can_asc (List.pairwise_singleton _ _) (fun p => by
      rw [List.mem_singleton, q65]
      constructor
      · rintro ⟨hp, c, hc, e⟩
        rw [q27.2 (h c hc)] at e
        exact congrArg Subtype.val e
      · rintro rfl; exact ⟨x.2, Cls.refl hH x⟩)
    rw [this]; rfl
theorem q97 {H : Pm k hk → Prop} (hH : Sub H) {x : Pm k hk} (h : ∀ c, H c → x * c = c * x) : can (Cls H x) = [x.1] := Asc.ext can_asc (List.pairwise_singleton _ _) (fun p => by
  rw [List.mem_singleton, q65]
  constructor
  · rintro ⟨hp, c, hc, e⟩
    rw [q27.2 (h c hc)] at e
    exact congrArg Subtype.val e
  · rintro rfl; exact ⟨x.2, Cls.refl hH x⟩)
theorem q98 {H : Pm k hk → Prop} (hH : Sub H) (P : List Int → Bool) (hP : ∀ x : Pm k hk, P x.1 = true ↔ ∀ c, H c → x * c = c * x) : ∀ i, i ≤ (can H).length → cen (clsT H (can H) i) = ((can H).take i).filter P
  | 0, _ => by simp [clsT, cen]
  | i + 1, hi => by
    have ih := q98 hH P hP i (by omega)
    obtain ⟨x, ex, hx⟩ := q71 (hk := hk) (q67 (H := H)) (i := i) (by omega)
    rw [q83 (i := i) (by omega) P x.1 (by rw [q85 (by omega), ex]), ← ih]
    by_cases c2 : dne H (can H) i x
    · rw [q9e ex c2]
      have : ¬ P x.1 = true := fun h => by
        obtain ⟨z, hz, hc⟩ := c2
        have hc := hc.symm hH
        obtain ⟨c, hc, e⟩ := hc
        rw [q27.2 ((hP x).1 h c hc)] at e
        subst e
        have hz : z.1 ∈ (can H).take i := hz
        obtain ⟨j, hj, ej⟩ := List.getElem_of_mem hz
        rw [List.length_take] at hj
        rw [List.getElem_take] at ej
        have hn := List.pairwise_iff_getElem.1 (can_asc (H := H)).nodup j i (by omega) (by omega) (by omega)
        exact hn (by rw [ej, q85 (by omega), ex])
      rw [if_neg this, List.append_nil]
    · rw [q9f ex c2, q95]
      congr 1
      by_cases h : P x.1 = true
      · rw [if_pos h, q97 hH ((hP x).1 h)]; rfl
      · rw [if_neg h]
        have : ¬ (can (Cls H x)).length = 1 := fun h2 => h ((hP x).2 ((q96 hH).1 h2))
        show (if (can (Cls H x)).length = 1 then _ else _) = _
        rw [if_neg this]; rfl
theorem q99 {H : Pm k hk → Prop} (hH : Sub H) : cen (clsT H (can H) (can H).length) = can (Zt H) := by
  let P : List Int → Bool := fun p => decide (∃ hp : PK k p, ∀ q : Pm k hk, H q → Pm.mk p hp * q = q * Pm.mk p hp)
  have hP : ∀ x : Pm k hk, P x.1 = true ↔ ∀ q : Pm k hk, H q → x * q = q * x := fun x => by
    show decide _ = true ↔ _
    rw [decide_eq_true_eq]
    exact ⟨fun ⟨_, h⟩ => h, fun h => ⟨x.2, h⟩⟩
  rw [q98 hH P hP _ (Nat.le_refl _), List.take_length]
  exact q84 (fun x => by rw [hP x]; exact Iff.rfl)
theorem qaaa (hn : Fu n) {X : List (List (List Int))} {l : List (List Int)} {due : List (List (List Int))} (hX : X.length ≤ 1000000000) : iterN (qgy n) n (l, X, 0, due, [], ()) = some (.inl (l, X, due, cen X, ())) := by
  have hlen : ∀ Y : List (List (List Int)), (cen Y).length ≤ Y.length := fun Y => by
    induction Y with
    | nil => exact Nat.le_refl _
    | cons c Y ih =>
      unfold cen
      by_cases h : c.length = 1
      · rw [if_pos h, List.length_cons, List.length_cons]; omega
      · rw [if_neg h, List.length_cons]; omega
  refine qzy hn (fun i => (l, X, (i : Int), due, cen (X.take i), ())) X.length (by omega) (by simp [cen]) (fun i hi => ?_) ?_
  · have ei : idx X (i : Int) = some (X.getD i []) := qz4 [] hi
    have et : X.take (i + 1) = X.take i ++ [X.getD i []] := by
      rw [List.take_add_one, List.getElem?_eq_getElem hi, List.getD_eq_getElem?_getD, List.getElem?_eq_getElem hi]; rfl
    have hl2 := hlen (X.take i)
    rw [List.length_take] at hl2
    rw [et, q95]
    generalize X.getD i [] = c at *
    by_cases h : c.length = 1
    · have e1 : cen [c] = [c.getD 0 []] := by unfold cen; rw [if_pos h]; rfl
      have e2 : idx c 0 = some (c.getD 0 []) := qz4 (k := 0) [] (by omega)
      rw [e1]
      have hl1 : ([c.getD 0 []] : List (List Int)).length = 1 := rfl
      simp (disch := first | assumption | omega) only [zA, zB, zC, zD, zE, zF, zG, q0c, qz6, qz7, zH, zI, dpos, dneg, zJ, zK, zL, zM, zN, zO, zP, qgy, qgx, ei, e2, up1]
    · have e1 : cen [c] = [] := by unfold cen; rw [if_neg h]; rfl
      rw [e1, List.append_nil]
      simp (disch := first | assumption | omega) only [zA, zB, zC, zD, zE, zF, zG, q0c, qz6, qz7, zH, zI, dpos, dneg, zJ, zK, zL, zM, zN, zO, zP, qgy, qgx, ei, up1]
  · rw [List.take_length]
    simp (disch := first | assumption | omega) only [zA, zB, zC, zD, zE, zF, zG, q0c, qz6, qz7, zH, zI, dpos, dneg, zJ, zK, zL, zM, zN, zO, zP, qgy, qgx]
theorem qaab {out : List (List (List Int))} {x : List (List Int)} (h : out.getLast? = some x) (hl : out.length ≤ 1000000) : idx out (IntKind.i64.wrap ((out.length : Int) - 1)) = some x := by
  have h1 : 1 ≤ out.length := by
    cases out with
    | nil => cases h
    | cons => simp
  rw [Srt.dn1 h1 (by omega)]
  unfold idx
  rw [if_pos (by omega), Int.toNat_natCast, ← h, List.getLast?_eq_getElem?]
theorem qaac (hn : Fu n) {H : Pm k hk → Prop} (hH : Sub H) (l : List (List Int)) : iterN (qg0 n) n (l, [can H], ()) = some (.inl (l, q8m H, ())) :=
  q8q (f := qg0 n) hn (fun K out => (l, out, ())) (fun out => .inl (l, out, ())) (fun K out hK ho hlast => by
    obtain ⟨G, f1, q1, q2, q3, q4, q5⟩ := q9v hn hK
    have e1 := q90 hn hK q1 q4 q5 q2
    have ei := qaab hlast (by omega)
    have hl : ([can (Dr K)] : List (List (List Int))).length = 1 := rfl
    by_cases c : (can (Dr K)).length = (can K).length
    · rw [if_pos c]
      simp (disch := first | assumption | omega) only [zA, zB, zC, zD, zE, zF, zG, q0c, qz6, qz7, zH, zI, dpos, dneg, zJ, zK, zL, zM, zN, zO, zP, qg0, qgz, ei, f1, e1]
    · rw [if_neg c]
      simp (disch := first | assumption | omega) only [zA, zB, zC, zD, zE, zF, zG, q0c, qz6, qz7, zH, zI, dpos, dneg, zJ, zK, zL, zM, zN, zO, zP, qg0, qgz, ei, f1, e1]) hH
theorem qaad {H : Pm k hk → Prop} (hH : Sub H) : idx (q8m H) (if IntKind.i64.wrap (((q8m H).length : Int) - 1) < (1 : Int) then IntKind.i64.wrap (((q8m H).length : Int) - 1) else (1 : Int)) = some (can (Dr H)) := by
  have hp := q74 hH
  have hsl := q8n H
  obtain ⟨m, hm⟩ : ∃ m, (can H).length = m + 1 := ⟨(can H).length - 1, by omega⟩
  by_cases c : (can (Dr H)).length = (can H).length
  · have e : q8m H = [can H] := by unfold q8m; rw [hm]; unfold ser; rw [if_pos c]
    have e2 : can (Dr H) = can H := q69 (fun x => ⟨fun h => Dr.le hH h, q87 (fun x hx => Dr.le hH hx) c x⟩)
    rw [e, e2]
    rfl
  · have e : q8m H = can H :: can (Dr H) :: ser m (Dr H) := by unfold q8m; rw [hm]; show _ :: ser (m + 1) H = _; unfold ser; rw [if_neg c]; cases m <;> rfl
    have hl : 2 ≤ (q8m H).length := by rw [e]; simp
    rw [Srt.dn1 (by omega) (by omega), if_neg (by omega), e]
    rfl
theorem qaae (hn : Fw n) (gens : List (List Int)) (al : qea n = some (true, ())) : qg1 n gens = some (true, ()) := by
  have f := q02 hn.fu gens 30 (by decide)
  by_cases h0 : (gens.length : Int) ≤ 30 ∧ ∀ i, i < gens.length → (row gens i).length ≤ 100
  · rw [decide_eq_true h0] at f
    have g := q0y hn.fu gens
    by_cases hv : GV gens
    · rw [decide_eq_true hv] at g
      obtain ⟨k, hk, hG⟩ := hv.pk
      have e := q7i (hk := hk) hn.fu hG hv.1 (by have := hv.2.1; omega)
      have hH := Cl.sub (dn (hk := hk) gens)
      generalize Cl (dn (hk := hk) gens) = H at *
      obtain ⟨G, f1, q1, q2, q3, q4, q5⟩ := q9v hn.fu hH
      have hcl := q9d H (can H) (can H).length
      have hl := q68 (H := H)
      have e1 := qaac hn.fu hH (can H)
      have e2 := q93 hn.fu hH q1 (by omega) q2
      have e3 := qaaa hn.fu (X := clsT H (can H) (can H).length) (l := can H) (due := q8m H) (by omega)
      rw [q99 hH] at e3
      obtain ⟨l, el, _⟩ := q8s H
      have es := q8t el
      have eb : (solv H == solv H) = true := beq_self_eq_true _
      have e4 := qaad hH
      have s1 := q8k hn hH
      have s2 := q8r hn hH
      have s3 := q8u hn hH
      have s4 := q86 hn hH
      have s5 := q9m hn hH
      have t1 := q7o hn.fu (Dr H)
      have t2 := q8w hn.fu H
      have t3 := q7o hn.fu (Zt H)
      have t4 := q9o hn.fu H
      simp only [qg1, f, g, e, e1, f1, e2, e3, s1, s2, s3, s4, s5, e4, t1, t2, el, es, eb, t3, t4, al, Option.bind_some, Sum.elim_inl, Sum.elim_inr, cond_true, cond_false, Bool.not_true, Bool.not_false, decide_true]
    · rw [decide_eq_false hv] at g
      simp (disch := first | assumption | omega) only [zA, zB, zC, zD, zE, zF, zG, q0c, qz6, qz7, zH, zI, dpos, dneg, zJ, zK, zL, zM, zN, zO, zP, qg1, f, g, al]
  · rw [decide_eq_false h0] at f
    simp (disch := first | assumption | omega) only [zA, zB, zC, zD, zE, zF, zG, q0c, qz6, qz7, zH, zI, dpos, dneg, zJ, zK, zL, zM, zN, zO, zP, qg1, f, al]
theorem qaaf (a : List (List Int)) : ∃ n, qg1 n a = some (true, ()) := q8x fun n hn => qaae hn a (q0p hn.fu)
end Go.Proofs.Ytemejeiajekmcaa.V
