/- The law over the models, part 2. -/
import Derived.Test.YtemejeiajekmcaaPPairsa
namespace Go.Proofs.Ytemejeiajekmcaa.V
open Go Classical Grp
set_option linter.unusedVariables false
set_option linter.all false
variable {n : Nat} {k : Nat} {hk : 1 ≤ k ∧ k ≤ 7}
noncomputable def invTo (p : List Int) (i : Nat) : List Int := tab p.length (fun v => if p.idxOf (v : Int) < i then ((p.idxOf (v : Int) : Nat) : Int) else 0)
theorem q5i (p : List Int) : List.replicate p.length (0 : Int) = invTo p 0 := by
  rw [qyl]; exact qyk (fun j hj => (if_neg (by omega)).symm)
theorem q5j {p : List Int} (hp : PK k p) {i v : Nat} (hi : i < k) (h : rd p (i : Int) = (v : Int)) : p.idxOf (v : Int) = i := by
  have hm : (v : Int) ∈ p := by rw [← h, q0i (by rw [hp.2]; exact hi)]; exact List.getElem_mem _
  have h1 := q4q hm
  exact hp.1.inj h1.1 (by rw [hp.2]; exact hi) (by rw [h1.2, h])
theorem q5k {p : List Int} (hp : PK k p) {i v : Nat} (hi : i < k) (h : rd p (i : Int) = (v : Int)) : (invTo p i).set v (i : Int) = invTo p (i + 1) := by
  have e := q5j hp hi h
  unfold invTo
  rw [qyj]
  refine qyk (fun j hj => ?_)
  by_cases c : j = v
  · subst c; rw [if_pos rfl, e, if_pos (by omega)]
  · rw [if_neg c]
    have : p.idxOf (j : Int) ≠ i := fun e2 => by
      have := (q4q (hp.memI (i := j) (by rw [← hp.2]; exact hj))).2
      rw [e2, h] at this; omega
    congr 1; apply propext; omega
theorem q5l {p : List Int} (hp : PK k p) : invTo p p.length = invP p :=
  qyk (fun j hj => if_pos (q4q (hp.memI (i := j) (by rw [← hp.2]; exact hj))).1)
theorem q5m (hn : Fu n) {p : List Int} (hp : PK k p) : qdo n p = some (invP p, ()) := by
  have h7 := hp.bd
  have hl := hp.2
  have g : iterN (qdn n) n (p, (p.length : Int), 0, List.replicate p.length 0, ()) = some (.inl (invP p, ())) := by
    refine qxy hn (fun i => (p, (p.length : Int), (i : Int), invTo p i, ())) p.length (by omega) (by rw [q5i]; rfl) (fun i hi => ?_) ?_
    · obtain ⟨v, hv, e⟩ := hp.at (i := i) (by omega)
      have es := q5k hp (by omega) e
      have ei : idx (invTo p i) (v : Int) = some (if p.idxOf (v : Int) < i then ((p.idxOf (v : Int) : Nat) : Int) else 0) := qyn (by omega)
      simp (disch := first | assumption | omega) only [zA, zB, zC, zD, zE, zF, zG, qyc, qx6, qx7, zH, zI, dpos, dneg, zJ, zK, zL, zM, zN, zO, zP, qdn, qdm, qyf, e, ei, es, up1]
    · simp (disch := first | assumption | omega) only [zA, zB, zC, zD, zE, zF, zG, qyc, qx6, qx7, zH, zI, dpos, dneg, zJ, zK, zL, zM, zN, zO, zP, qdn, qdm, q5l hp]
  simp (disch := first | assumption | omega) only [zA, zB, zC, zD, zE, zF, zG, qyc, qx6, qx7, zH, zI, dpos, dneg, zJ, zK, zL, zM, zN, zO, zP, qdo, g]
theorem q5n (hn : Fu n) {p : List Int} (hp : PK k p) : qfe n p = some (invP p, ()) := by
  have h7 := hp.bd
  have hl := hp.2
  have g : iterN (qfd n) n (p, 0, List.replicate p.length 0, ()) = some (.inl (invP p, ())) := by
    refine qxy hn (fun i => (p, (i : Int), invTo p i, ())) p.length (by omega) (by rw [q5i]; rfl) (fun i hi => ?_) ?_
    · obtain ⟨v, hv, e⟩ := hp.at (i := i) (by omega)
      have es := q5k hp (by omega) e
      have ei : idx (invTo p i) (v : Int) = some (if p.idxOf (v : Int) < i then ((p.idxOf (v : Int) : Nat) : Int) else 0) := qyn (by omega)
      simp (disch := first | assumption | omega) only [zA, zB, zC, zD, zE, zF, zG, qyc, qx6, qx7, zH, zI, dpos, dneg, zJ, zK, zL, zM, zN, zO, zP, qfd, qfc, qyf, e, ei, es, up1]
    · simp (disch := first | assumption | omega) only [zA, zB, zC, zD, zE, zF, zG, qyc, qx6, qx7, zH, zI, dpos, dneg, zJ, zK, zL, zM, zN, zO, zP, qfd, qfc, q5l hp]
  simp (disch := first | assumption | omega) only [zA, zB, zC, zD, zE, zF, zG, qyc, qx6, qx7, zH, zI, dpos, dneg, zJ, zK, zL, zM, zN, zO, zP, qfe, g]
theorem q5o (hn : Fu n) (x : Pm k hk) : qdo n x.1 = some ((x⁻¹).1, ()) := q5m hn x.2
theorem q5p (hn : Fu n) (x : Pm k hk) : qfe n x.1 = some ((x⁻¹).1, ()) := q5n hn x.2
theorem q5q (hn : Fu n) (x y : Pm k hk) : qdp n x.1 y.1 = some ((cm x y).1, ()) := by
  simp only [qdp, q5o hn, q44 hn, Option.bind_some]; rfl
theorem q5r (hn : Fu n) (p c : Pm k hk) : qdq n p.1 c.1 = some ((cj c p).1, ()) := by
  simp only [qdq, q5o hn, q44 hn, Option.bind_some]; rfl
theorem q5s (hn : Fu n) (x y : Pm k hk) : qff n x.1 y.1 = some ((cm x y).1, ()) := by
  simp only [qff, q5p hn, q45 hn, Option.bind_some]; rfl
theorem q5t (hn : Fu n) (x : Pm k hk) : qeq n x.1 = some ((rank x.1 : Int), ()) := q4d hn (by have := x.2.2; omega)
theorem q5u {l : List (List Int)} (h : ∀ p ∈ l, PK k p) {i : Nat} (hi : i < l.length) : ∃ x : Pm k hk, row l i = x.1 ∧ dn l x := ⟨⟨row l i, h _ (qyd hi)⟩, rfl, qyd hi⟩
theorem q5v {l : List (List Int)} {i : Nat} (hi : i < l.length) {x : Pm k hk} (hx : row l i = x.1) (y : Pm k hk) : dn (l.take (i + 1)) y ↔ dn (l.take i) y ∨ y = x := by
  have e : l[i]?.toList = [x.1] := by rw [← hx]; unfold row; rw [List.getD_eq_getElem?_getD, List.getElem?_eq_getElem hi]; rfl
  show y.1 ∈ l.take (i + 1) ↔ y.1 ∈ l.take i ∨ _
  rw [List.take_add_one, List.mem_append, e, List.mem_singleton]
  exact or_congr Iff.rfl ⟨fun h => Pm.ext h, fun h => by rw [h]⟩
theorem q5w {l : List (List Int)} (y : Pm k hk) : ¬ dn (l.take 0) y := fun h => by unfold dn at h; simp at h
def IsGrp (l : List (List Int)) : Prop := ∃ (k : Nat) (hk : 1 ≤ k ∧ k ≤ 7) (H : Pm k hk → Prop), Sub H ∧ l = can H
theorem q5x {H : Pm k hk → Prop} (hH : Sub H) : 0 < (can H).length := List.length_pos_of_mem (q4y.2 hH.one)
theorem q5y {H : Pm k hk → Prop} (hH : Sub H) : (row (can H) 0).length = k := (q4z _ (qyd (q5x hH))).2
theorem Cl.can {H : Pm k hk → Prop} (hH : Sub H) (x : Pm k hk) : Cl (dn (Go.Proofs.Ytemejeiajekmcaa.V.can H)) x ↔ H x := by
  have : (dn (Go.Proofs.Ytemejeiajekmcaa.V.can H) : Pm k hk → Prop) = H := funext fun x => propext q42
  rw [this]; exact Cl.self hH
theorem q5z {H : Pm k hk → Prop} (hH : Sub H) : GV (can H) := by
  refine ⟨q5x hH, q40, fun i hi => ?_⟩
  have h0 := q4z _ (qyd (q5x hH))
  have h1 := q4z _ (qyd hi)
  exact ⟨h0.1, h1.1, by rw [h0.2, h1.2]⟩
theorem PK.uniq {k k' : Nat} {p : List Int} (h : PK k p) (h' : PK k' p) : k = k' := by rw [← h.2, ← h'.2]
theorem q50 {l : List (List Int)} : Asc l ↔ ∀ i, i < l.length → 0 < i → ltL (row l (i - 1)) (row l i) := by
  have rg : ∀ (i : Nat) (h : i < l.length), row l i = l[i] := fun i h => by unfold row; rw [List.getD_eq_getElem?_getD, List.getElem?_eq_getElem h]; rfl
  constructor
  · intro h i hi h0
    rw [rg i hi, rg (i - 1) (by omega)]
    exact List.pairwise_iff_getElem.1 h (i - 1) i (by omega) hi (by omega)
  · intro h
    refine List.pairwise_iff_getElem.2 (fun i j hi hj hij => ?_)
    rw [← rg i hi, ← rg j hj]
    clear hi
    induction j with
    | zero => omega
    | succ j ih =>
      have := h (j + 1) hj (by omega)
      simp only [Nat.add_sub_cancel] at this
      by_cases e : i = j
      · rw [e]; exact this
      · exact qzy (ih (by omega) (by omega)) this
theorem q51 (hn : Fu n) {l : List (List Int)} (hl : l.length ≤ 1000000000) (hr : ∀ i, i < l.length → (row l i).length ≤ 1000000000) :
    iterN (qdc n) n (l, (l.length : Int), 0, ()) = some (if Asc l then .inr (.inl (l, ())) else .inl (false, ())) := by
  refine (qxz (f := qdc n) hn (fun i => (l, (l.length : Int), (i : Int), ())) l.length (fun i => 0 < i → ltL (row l (i - 1)) (row l i)) (d := (l, (l.length : Int), 0, ())) (r := .inr (.inl (l, ()))) (r' := .inl (false, ())) (by omega) rfl (fun i hi _ hp => ?_) (fun i hi _ hp => ?_) (fun _ => ?_)).trans (by
      congr 1
      by_cases h : Asc l
      · rw [if_pos h, if_pos (fun i hi h0 => q50.1 h i hi h0)]
      · rw [if_neg h, if_neg (fun h2 => h (q50.2 h2))])
  · by_cases c : 0 < i
    · have hc := q32 hn (row l (i - 1)) (row l i) (hr _ (by omega))
      rw [q3x (hp c)] at hc
      have z : ¬ (0 : Int) ≤ -1 := by decide
      simp (disch := first | assumption | omega) only [zA, zB, zC, zD, zE, zF, zG, qyc, qx6, qx7, zH, zI, dpos, dneg, zJ, zK, zL, zM, zN, zO, zP, qdc, qdb, Srt.dn1, qye, hc, up1]
    · obtain rfl : i = 0 := by omega
      simp (disch := first | assumption | omega) only [zA, zB, zC, zD, zE, zF, zG, qyc, qx6, qx7, zH, zI, dpos, dneg, zJ, zK, zL, zM, zN, zO, zP, qdc, qdb, up1]
  · have c : 0 < i := Classical.byContradiction fun h => hp (fun h2 => absurd h2 h)
    have hc := q32 hn (row l (i - 1)) (row l i) (hr _ (by omega))
    have hge : 0 ≤ cmpL (row l (i - 1)) (row l i) := by
      have : ¬ cmpL (row l (i - 1)) (row l i) < 0 := fun h => hp (fun _ => q30.1 h)
      omega
    simp (disch := first | assumption | omega) only [zA, zB, zC, zD, zE, zF, zG, qyc, qx6, qx7, zH, zI, dpos, dneg, zJ, zK, zL, zM, zN, zO, zP, qdc, qdb, Srt.dn1, qye, hc]
  · simp (disch := first | assumption | omega) only [zA, zB, zC, zD, zE, zF, zG, qyc, qx6, qx7, zH, zI, dpos, dneg, zJ, zK, zL, zM, zN, zO, zP, qdc, qdb]
theorem q52 (hn : Fw n) (l : List (List Int)) : ∃ b, qdd n l = some (b, ()) ∧ (b = true ↔ IsGrp l) := by
  have e1 := qy0 hn.fu l
  by_cases hv : GV l
  · rw [decide_eq_true hv] at e1
    obtain ⟨k, hk, hG⟩ := hv.pk
    have e2 := q51 hn.fu (l := l) (by have := hv.2.1; omega) (fun i hi => by have := (hG _ (qyd hi)).2; omega)
    have e3 := q5e (hk := hk) hn hG hv.1 (by have := hv.2.1; omega)
    by_cases ha : Asc l
    · rw [if_pos ha] at e2
      refine ⟨decide (((can (hk := hk) (Cl (dn l))).length : Int) = (l.length : Int)), by simp (disch := first | assumption | omega) only [zA, zB, zC, zD, zE, zF, zG, qyc, qx6, qx7, zH, zI, dpos, dneg, zJ, zK, zL, zM, zN, zO, zP, qdd, e1, e2, e3], ?_⟩
      rw [decide_eq_true_eq]
      constructor
      · intro h
        have hp := qz1 ha.nodup (L := can (hk := hk) (Cl (dn l))) (fun p hp => q4x.2 ⟨hG p hp, .gen hp⟩) (by omega)
        refine ⟨k, hk, Cl (dn l), Cl.sub _, ha.ext can_asc (fun p => hp.mem_iff)⟩
      · rintro ⟨k', hk', H, hH, rfl⟩
        have h0 := qyd (q5x hH)
        obtain rfl := (hG _ h0).uniq (q4z _ h0)
        rw [q41 (Cl.can hH)]
    · rw [if_neg ha] at e2
      refine ⟨false, by simp (disch := first | assumption | omega) only [zA, zB, zC, zD, zE, zF, zG, qyc, qx6, qx7, zH, zI, dpos, dneg, zJ, zK, zL, zM, zN, zO, zP, qdd, e1, e2], (fun h => nomatch h), ?_⟩
      rintro ⟨k', hk', H, hH, rfl⟩
      exact absurd can_asc ha
  · rw [decide_eq_false hv] at e1
    refine ⟨false, by simp (disch := first | assumption | omega) only [zA, zB, zC, zD, zE, zF, zG, qyc, qx6, qx7, zH, zI, dpos, dneg, zJ, zK, zL, zM, zN, zO, zP, qdd, e1], (fun h => nomatch h), ?_⟩
    rintro ⟨k', hk', H, hH, rfl⟩
    exact absurd (q5z hH) hv
theorem q53 (hn : Fw n) {H : Pm k hk → Prop} (hH : Sub H) : qdd n (can H) = some (true, ()) := by
  obtain ⟨b, e, h⟩ := q52 hn (can H)
  rw [h.2 ⟨k, hk, H, hH, rfl⟩] at e
  exact e
theorem q54 (hn : Fw n) {G : List (List Int)} (hG : ∀ g ∈ G, PK k g) (h0 : 0 < G.length) (hGl : G.length ≤ 1000000000) : qdi n G = some ((can (hk := hk) (Cl (dn G)), ()), (G, ())) := by
  have hr0 := hG _ (qyd h0)
  have e0 : idx G 0 = some (row G 0) := qye (u := 0) h0
  have eid := qy9 hn.fu k hk.1 hk.2
  obtain ⟨met, e1, h1⟩ := Gw.start hn.fu hk
  obtain ⟨r, e2, met', gens', all', rfl, h2⟩ := qx2 (f := qdf n) hn.fu
    (fun d => ∃ (i : Nat) (met : Option KS) (gens all : List (List Int)), d = (((), ((), ((), ()))), (G.length : Int), (i : Int), met, gens, all, G, ()) ∧ i ≤ G.length ∧ Gw hk (dn (G.take i)) met gens all)
    (fun d => ((G.length : Int) - d.2.2.1).toNat)
    (fun r => ∃ met' gens' all', r = .inl (met', gens', all', G, ()) ∧ Gw hk (dn G) met' gens' all')
    (d := (((), ((), ((), ()))), (G.length : Int), 0, met, [], [idP k], G, ()))
    ⟨0, met, [], [idP k], rfl, Nat.zero_le _, by
      have : (dn (G.take 0) : Pm k hk → Prop) = fun _ => False := by funext x; apply propext; exact ⟨fun h => q5w x h, fun h => h.elim⟩
      rw [this]; exact h1⟩ (by simp only; omega) (by
      rintro d ⟨i, met, gens, all, rfl, h1, h2⟩
      by_cases c : i < G.length
      · obtain ⟨x, ex, hx⟩ := q5u (hk := hk) hG c
        obtain ⟨met', gens', all', e, q⟩ := q5b hn.fu h2 x
        refine .inl ⟨(((), ((), ((), ()))), (G.length : Int), ((i + 1 : Nat) : Int), met', gens', all', G, ()), ?_, ⟨i + 1, met', gens', all', rfl, c, ?_⟩, by simp only; omega⟩
        · simp (disch := first | assumption | omega) only [zA, zB, zC, zD, zE, zF, zG, qyc, qx6, qx7, zH, zI, dpos, dneg, zJ, zK, zL, zM, zN, zO, zP, qdf, qde, qye, ex, e, up1]
        · have : (dn (G.take (i + 1)) : Pm k hk → Prop) = fun y => dn (G.take i) y ∨ y = x := funext fun y => propext (q5v c ex y)
          rw [this]; exact q
      · obtain rfl : i = G.length := by omega
        rw [List.take_length] at h2
        refine .inr ⟨.inl (met, gens, all, G, ()), ?_, met, gens, all, rfl, h2⟩
        simp (disch := first | assumption | omega) only [zA, zB, zC, zD, zE, zF, zG, qyc, qx6, qx7, zH, zI, dpos, dneg, zJ, zK, zL, zM, zN, zO, zP, qdf, qde])
  have e3 := h2.sorted hn
  have el : (((row G 0).length : Nat) : Int) = (k : Int) := by rw [hr0.2]
  simp (disch := first | assumption | omega) only [zA, zB, zC, zD, zE, zF, zG, qyc, qx6, qx7, zH, zI, dpos, dneg, zJ, zK, zL, zM, zN, zO, zP, qdi, e0, el, qdh, eid, e1, qdg, e2, e3]
def KSet (hk : 1 ≤ k ∧ k ≤ 7) (m : KS) (S : Pm k hk → Prop) : Prop := KOK m ∧ ∀ x : Pm k hk, keyP x.1 ∈ m.map (·.1) ↔ S x
theorem KSet.look {m : KS} {S : Pm k hk → Prop} (h : KSet hk m S) (x : Pm k hk) : (mget (.arr 7 (.int .i8)) m (keyP x.1)).getD false = decide (S x) := by
  rw [qzi h.1 (qzh x.1)]
  by_cases c : S x
  · rw [if_pos ((h.2 x).2 c), decide_eq_true c]; rfl
  · rw [if_neg (fun e => c ((h.2 x).1 e)), decide_eq_false c]; rfl
theorem KSet.look_in {m : KS} {S : Pm k hk → Prop} (h : KSet hk m S) {x : Pm k hk} (hx : S x) : (mget (.arr 7 (.int .i8)) m (keyP x.1)).getD false = true := by rw [h.look, decide_eq_true hx]
theorem KSet.look_out {m : KS} {S : Pm k hk → Prop} (h : KSet hk m S) {x : Pm k hk} (hx : ¬ S x) : (mget (.arr 7 (.int .i8)) m (keyP x.1)).getD false = false := by rw [h.look, decide_eq_false hx]
theorem KSet.put {m : KS} {S : Pm k hk → Prop} (h : KSet hk m S) (x : Pm k hk) : KSet hk (mput (.arr 7 (.int .i8)) m (keyP x.1) true) (fun y => S y ∨ y = x) := by
  obtain ⟨g1, g2⟩ := qzj h.1 (qzh x.1)
  refine ⟨g1, fun y => ?_⟩
  rw [g2, h.2]
  exact ⟨fun h => h.elim (fun h => .inr (Pm.ext (qzf y.2.1 x.2.1 h))) .inl, fun h => h.elim .inr (fun h => .inl (by rw [h]))⟩
theorem KSet.nil : KSet hk [] (fun _ => False) := ⟨(fun x hx => nomatch hx), fun x => ⟨(fun h => nomatch h), fun h => h.elim⟩⟩
theorem q55 (hn : Fu n) {l : List (List Int)} (hl : l.length ≤ 1000000000) (h : ∀ p ∈ l, PK k p) : ∃ m, qax n l = some (some m, ()) ∧ KSet hk m (dn l) := by
  obtain ⟨m, e, h1, h2⟩ := q5c hn hl (fun p hp => (h p hp).1)
  exact ⟨m, e, h1, fun x => h2 x.1 x.2.1⟩
theorem q56 (hn : Fu n) (x : Pm k hk) : qau n x.1 = some (keyP x.1, ()) := qzc hn x.2.1
theorem q57 (hn : Fw n) {H : Pm k hk → Prop} (hH : Sub H) : ∃ out, qdl n (can H) = some (out, ()) ∧ (∀ p ∈ out, PK k p) ∧ (∀ x : Pm k hk, Cl (dn out) x ↔ H x) ∧ (∀ x : Pm k hk, dn out x → H x) ∧ 0 < out.length ∧ out.length ≤ 5041 := by
  have h0 := q5x hH
  have e0 : idx (can H) 0 = some (row (can H) 0) := qye (u := 0) h0
  have el : (((row (can H) 0).length : Nat) : Int) = (k : Int) := by rw [q5y hH]
  have eid := qy9 hn.fu k hk.1 hk.2
  obtain ⟨m0, e1, h1⟩ := q55 (hk := hk) hn.fu (l := [idP k]) (by simp) (fun p hp => by rw [List.mem_singleton] at hp; subst hp; exact (1 : Pm k hk).2)
  have hcl := q40 (H := H)
  obtain ⟨r, e, out, rfl, q1, q2, q3, q4, q5⟩ := qx2 (f := qdk n) hn.fu
    (fun d => ∃ (i : Nat) (m : KS) (out : List (List Int)), d = (some m, can H, ((can H).length : Int), (i : Int), out, ()) ∧ i ≤ (can H).length ∧ KSet hk m (Cl (dn out)) ∧ (∀ p ∈ out, PK k p) ∧ (∀ x : Pm k hk, dn out x → H x) ∧ 0 < out.length ∧ out.length ≤ i + 1 ∧ ∀ x : Pm k hk, dn ((can H).take i) x → Cl (dn out) x)
    (fun d => (((can H).length : Int) - d.2.2.2.1).toNat)
    (fun r => ∃ out, r = .inl (out, ()) ∧ (∀ p ∈ out, PK k p) ∧ (∀ x : Pm k hk, Cl (dn out) x ↔ H x) ∧ (∀ x : Pm k hk, dn out x → H x) ∧ 0 < out.length ∧ out.length ≤ 5041)
    (d := (some m0, can H, ((can H).length : Int), 0, [idP k], ()))
    ⟨0, m0, [idP k], rfl, Nat.zero_le _, ⟨h1.1, fun x => by
      rw [h1.2]
      constructor
      · intro h; exact .gen h
      · intro h
        have one : ∀ y : Pm k hk, dn [idP k] y ↔ y = 1 := fun y => by
          unfold dn; rw [List.mem_singleton]; exact ⟨fun h => Pm.ext h, fun h => by rw [h]; rfl⟩
        rw [one]
        induction h with
        | one => rfl
        | step _ hq ih => rw [ih, (one _).1 hq, Grp.mul_one]⟩, fun p hp => by rw [List.mem_singleton] at hp; subst hp; exact (1 : Pm k hk).2, fun x hx => by
        have : x = 1 := Pm.ext (List.mem_singleton.1 hx)
        rw [this]; exact hH.one, by simp, by simp, fun x hx => absurd hx (q5w x)⟩ (by simp only; omega) (by
      rintro d ⟨i, m, out, rfl, p1, p2, p3, p4, p5, p6, p7⟩
      by_cases c : i < (can H).length
      · obtain ⟨x, ex, hx⟩ := q5u (hk := hk) q4z c
        have hHx : H x := q42.1 hx
        have ek := q56 hn.fu x
        have elk := p2.look x
        by_cases c2 : Cl (dn out) x
        · rw [decide_eq_true c2] at elk
          refine .inl ⟨(some m, can H, ((can H).length : Int), ((i + 1 : Nat) : Int), out, ()), ?_, ⟨i + 1, m, out, rfl, c, p2, p3, p4, p5, by omega, fun y hy => ?_⟩, by simp only; omega⟩
          · simp (disch := first | assumption | omega) only [zA, zB, zC, zD, zE, zF, zG, qyc, qx6, qx7, zH, zI, dpos, dneg, zJ, zK, zL, zM, zN, zO, zP, qdk, qdj, qye, ex, ek, elk, up1]
          · rcases (q5v c ex y).1 hy with h | rfl
            · exact p7 y h
            · exact c2
        · rw [decide_eq_false c2] at elk
          have hP : ∀ p ∈ out ++ [x.1], PK k p := fun p hp => by
            rw [List.mem_append, List.mem_singleton] at hp
            rcases hp with hp | rfl
            · exact p3 p hp
            · exact x.2
          have hlen : (out ++ [x.1]).length = out.length + 1 := by simp
          have ec := q54 (hk := hk) hn hP (by omega) (by omega)
          obtain ⟨m', em, hm⟩ := q55 (hk := hk) hn.fu (l := can (hk := hk) (Cl (dn (out ++ [x.1])))) (by have := q40 (H := Cl (dn (hk := hk) (out ++ [x.1]))); omega) q4z
          have hl1 : ([x.1] : List (List Int)).length = 1 := rfl
          refine .inl ⟨(some m', can H, ((can H).length : Int), ((i + 1 : Nat) : Int), out ++ [x.1], ()), ?_, ⟨i + 1, m', out ++ [x.1], rfl, c, ⟨hm.1, fun y => by rw [hm.2, q42]⟩, hP, fun y hy => ?_, by omega, by omega, fun y hy => ?_⟩, by simp only; omega⟩
          · simp (disch := first | assumption | omega) only [zA, zB, zC, zD, zE, zF, zG, qyc, qx6, qx7, zH, zI, dpos, dneg, zJ, zK, zL, zM, zN, zO, zP, qdk, qdj, qye, ex, ek, elk, ec, em, up1]
          · have hy : y.1 ∈ out ++ [x.1] := hy
            rw [List.mem_append, List.mem_singleton] at hy
            rcases hy with hy | hy
            · exact p4 y hy
            · rw [Pm.ext hy]; exact hHx
          · rcases (q5v c ex y).1 hy with h | rfl
            · exact (p7 y h).mono (fun z hz => .gen (List.mem_append_left _ hz))
            · exact .gen (show y.1 ∈ out ++ [y.1] by simp)
      · obtain rfl : i = (can H).length := by omega
        rw [List.take_length] at p7
        refine .inr ⟨.inl (out, ()), ?_, out, rfl, p3, fun x => ⟨fun h => h.le hH p4, fun h => p7 x (q42.2 h)⟩, p4, p5, by omega⟩
        simp (disch := first | assumption | omega) only [zA, zB, zC, zD, zE, zF, zG, qyc, qx6, qx7, zH, zI, dpos, dneg, zJ, zK, zL, zM, zN, zO, zP, qdk, qdj])
  refine ⟨out, ?_, q1, q2, q3, q4, q5⟩
  simp (disch := first | assumption | omega) only [zA, zB, zC, zD, zE, zF, zG, qyc, qx6, qx7, zH, zI, dpos, dneg, zJ, zK, zL, zM, zN, zO, zP, qdl, e0, el, eid, e1, e]
theorem q58 (hn : Fu n) {l t1 t11 t17 : List (List Int)} (hl : ∀ p ∈ l, PK k p) (hll : l.length ≤ 1000000000) (p c : Pm k hk) {a12 a13 a18 a19 : Int} {S : Pm k hk → Prop} {met : Option KS} {gens all : List (List Int)} (h : Gw hk S met gens all) :
    ∃ met' gens' all', iterN (qds n) n (((), ((), ((), ()))), t1, l, p.1, c.1, t11, a12, a13, t17, a18, a19, l, (l.length : Int), 0, met, gens, all, ()) = some (.inl (((), ((), ((), ()))), t1, l, p.1, t11, a12, a13, t17, a18, a19, met', gens', all', ())) ∧ Gw hk (fun y => S y ∨ ∃ x, dn l x ∧ y = cj x c) met' gens' all' := by
  obtain ⟨r, e, met', gens', all', rfl, h2⟩ := qx2 (f := qds n) hn
    (fun d => ∃ (i : Nat) (met : Option KS) (gens all : List (List Int)), d = (((), ((), ((), ()))), t1, l, p.1, c.1, t11, a12, a13, t17, a18, a19, l, (l.length : Int), (i : Int), met, gens, all, ()) ∧ i ≤ l.length ∧ Gw hk (fun y => S y ∨ ∃ x, dn (l.take i) x ∧ y = cj x c) met gens all)
    (fun d => ((l.length : Int) - d.2.2.2.2.2.2.2.2.2.2.2.2.2.1).toNat)
    (fun r => ∃ met' gens' all', r = .inl (((), ((), ((), ()))), t1, l, p.1, t11, a12, a13, t17, a18, a19, met', gens', all', ()) ∧ Gw hk (fun y => S y ∨ ∃ x, dn l x ∧ y = cj x c) met' gens' all')
    (d := (((), ((), ((), ()))), t1, l, p.1, c.1, t11, a12, a13, t17, a18, a19, l, (l.length : Int), 0, met, gens, all, ()))
    ⟨0, met, gens, all, rfl, Nat.zero_le _, by
      have : (fun y => S y ∨ ∃ x, dn (l.take 0) x ∧ y = cj x c) = S := funext fun y => propext ⟨fun h => h.elim id (fun ⟨x, hx, _⟩ => absurd hx (q5w x)), .inl⟩
      rw [this]; exact h⟩ (by simp only; omega) (by
      rintro d ⟨i, met, gens, all, rfl, h1, h2⟩
      by_cases c1 : i < l.length
      · obtain ⟨x, ex, hx⟩ := q5u (hk := hk) hl c1
        obtain ⟨met', gens', all', e, q⟩ := q5b hn h2 (cj x c)
        have ec := q5r hn c x
        refine .inl ⟨(((), ((), ((), ()))), t1, l, p.1, c.1, t11, a12, a13, t17, a18, a19, l, (l.length : Int), ((i + 1 : Nat) : Int), met', gens', all', ()), ?_, ⟨i + 1, met', gens', all', rfl, c1, ?_⟩, by simp only; omega⟩
        · simp (disch := first | assumption | omega) only [zA, zB, zC, zD, zE, zF, zG, qyc, qx6, qx7, zH, zI, dpos, dneg, zJ, zK, zL, zM, zN, zO, zP, qds, qdr, qye, ex, ec, e, up1]
        · have : (fun y => S y ∨ ∃ x, dn (l.take (i + 1)) x ∧ y = cj x c) = fun y => (S y ∨ ∃ x, dn (l.take i) x ∧ y = cj x c) ∨ y = cj x c := funext fun y => propext (by
            constructor
            · rintro (h | ⟨z, hz, rfl⟩)
              · exact .inl (.inl h)
              · rcases (q5v c1 ex z).1 hz with h | rfl
                · exact .inl (.inr ⟨z, h, rfl⟩)
                · exact .inr rfl
            · rintro ((h | ⟨z, hz, rfl⟩) | rfl)
              · exact .inl h
              · exact .inr ⟨z, (q5v c1 ex z).2 (.inl hz), rfl⟩
              · exact .inr ⟨x, (q5v c1 ex x).2 (.inr rfl), rfl⟩)
          rw [this]; exact q
      · obtain rfl : i = l.length := by omega
        rw [List.take_length] at h2
        refine .inr ⟨_, ?_, met, gens, all, rfl, h2⟩
        simp (disch := first | assumption | omega) only [zA, zB, zC, zD, zE, zF, zG, qyc, qx6, qx7, zH, zI, dpos, dneg, zJ, zK, zL, zM, zN, zO, zP, qds, qdr])
  exact ⟨met', gens', all', e, h2⟩
theorem q59 (hn : Fu n) {l G t11 : List (List Int)} (hl : ∀ p ∈ l, PK k p) (hll : l.length ≤ 1000000000) (hG : ∀ p ∈ G, PK k p) (hGl : G.length ≤ 1000000000) (p : Pm k hk) {a12 a13 : Int} {S : Pm k hk → Prop} {met : Option KS} {gens all : List (List Int)} (h : Gw hk S met gens all) :
    ∃ met' gens' all', iterN (qdu n) n (((), ((), ((), ()))), G, l, p.1, t11, a12, a13, G, (G.length : Int), 0, met, gens, all, ()) = some (.inl (((), ((), ((), ()))), G, l, t11, a12, a13, met', gens', all', ())) ∧ Gw hk (fun y => S y ∨ ∃ q x, dn G q ∧ dn l x ∧ y = cj x (cm p q)) met' gens' all' := by
  obtain ⟨r, e, met', gens', all', rfl, h2⟩ := qx2 (f := qdu n) hn
    (fun d => ∃ (i : Nat) (met : Option KS) (gens all : List (List Int)), d = (((), ((), ((), ()))), G, l, p.1, t11, a12, a13, G, (G.length : Int), (i : Int), met, gens, all, ()) ∧ i ≤ G.length ∧ Gw hk (fun y => S y ∨ ∃ q x, dn (G.take i) q ∧ dn l x ∧ y = cj x (cm p q)) met gens all)
    (fun d => ((G.length : Int) - d.2.2.2.2.2.2.2.2.2.1).toNat)
    (fun r => ∃ met' gens' all', r = .inl (((), ((), ((), ()))), G, l, t11, a12, a13, met', gens', all', ()) ∧ Gw hk (fun y => S y ∨ ∃ q x, dn G q ∧ dn l x ∧ y = cj x (cm p q)) met' gens' all')
    (d := (((), ((), ((), ()))), G, l, p.1, t11, a12, a13, G, (G.length : Int), 0, met, gens, all, ()))
    ⟨0, met, gens, all, rfl, Nat.zero_le _, by
      have : (fun y => S y ∨ ∃ q x, dn (G.take 0) q ∧ dn l x ∧ y = cj x (cm p q)) = S := funext fun y => propext ⟨fun h => h.elim id (fun ⟨q, x, hx, _⟩ => absurd hx (q5w q)), .inl⟩
      rw [this]; exact h⟩ (by simp only; omega) (by
      rintro d ⟨i, met, gens, all, rfl, h1, h2⟩
      by_cases c1 : i < G.length
      · obtain ⟨q, eq, hq⟩ := q5u (hk := hk) hG c1
        have ec := q5q hn p q
        obtain ⟨met', gens', all', e, q5⟩ := q58 hn (t1 := G) (t11 := t11) (t17 := G) hl hll p (cm p q) (a12 := a12) (a13 := a13) (a18 := (G.length : Int)) (a19 := (i : Int)) h2
        refine .inl ⟨(((), ((), ((), ()))), G, l, p.1, t11, a12, a13, G, (G.length : Int), ((i + 1 : Nat) : Int), met', gens', all', ()), ?_, ⟨i + 1, met', gens', all', rfl, c1, ?_⟩, by simp only; omega⟩
        · simp (disch := first | assumption | omega) only [zA, zB, zC, zD, zE, zF, zG, qyc, qx6, qx7, zH, zI, dpos, dneg, zJ, zK, zL, zM, zN, zO, zP, qdu, qdt, qye, eq, ec, e, up1]
        · have : (fun y => S y ∨ ∃ q x, dn (G.take (i + 1)) q ∧ dn l x ∧ y = cj x (cm p q)) = fun y => (S y ∨ ∃ q x, dn (G.take i) q ∧ dn l x ∧ y = cj x (cm p q)) ∨ ∃ x, dn l x ∧ y = cj x (cm p q) := funext fun y => propext (by
            constructor
            · rintro (h | ⟨z, x, hz, hx, rfl⟩)
              · exact .inl (.inl h)
              · rcases (q5v c1 eq z).1 hz with h | rfl
                · exact .inl (.inr ⟨z, x, h, hx, rfl⟩)
                · exact .inr ⟨x, hx, rfl⟩
            · rintro ((h | ⟨z, x, hz, hx, rfl⟩) | ⟨x, hx, rfl⟩)
              · exact .inl h
              · exact .inr ⟨z, x, (q5v c1 eq z).2 (.inl hz), hx, rfl⟩
              · exact .inr ⟨q, x, (q5v c1 eq q).2 (.inr rfl), hx, rfl⟩)
          rw [this]; exact q5
      · obtain rfl : i = G.length := by omega
        rw [List.take_length] at h2
        refine .inr ⟨_, ?_, met, gens, all, rfl, h2⟩
        simp (disch := first | assumption | omega) only [zA, zB, zC, zD, zE, zF, zG, qyc, qx6, qx7, zH, zI, dpos, dneg, zJ, zK, zL, zM, zN, zO, zP, qdu, qdt])
  exact ⟨met', gens', all', e, h2⟩
theorem q6a (hn : Fu n) {l G : List (List Int)} (hl : ∀ p ∈ l, PK k p) (hll : l.length ≤ 1000000000) (hG : ∀ p ∈ G, PK k p) (hGl : G.length ≤ 1000000000) {met : Option KS} {gens all : List (List Int)} (h : Gw hk (fun _ => False) met gens all) :
    ∃ met' gens' all', iterN (qdw n) n (((), ((), ((), ()))), G, l, G, (G.length : Int), 0, met, gens, all, ()) = some (.inl (met', gens', all', ())) ∧ Gw hk (fun y => ∃ p q x, dn G p ∧ dn G q ∧ dn l x ∧ y = cj x (cm p q)) met' gens' all' := by
  obtain ⟨r, e, met', gens', all', rfl, h2⟩ := qx2 (f := qdw n) hn
    (fun d => ∃ (i : Nat) (met : Option KS) (gens all : List (List Int)), d = (((), ((), ((), ()))), G, l, G, (G.length : Int), (i : Int), met, gens, all, ()) ∧ i ≤ G.length ∧ Gw hk (fun y => ∃ p q x, dn (G.take i) p ∧ dn G q ∧ dn l x ∧ y = cj x (cm p q)) met gens all)
    (fun d => ((G.length : Int) - d.2.2.2.2.2.1).toNat)
    (fun r => ∃ met' gens' all', r = .inl (met', gens', all', ()) ∧ Gw hk (fun y => ∃ p q x, dn G p ∧ dn G q ∧ dn l x ∧ y = cj x (cm p q)) met' gens' all')
    (d := (((), ((), ((), ()))), G, l, G, (G.length : Int), 0, met, gens, all, ()))
    ⟨0, met, gens, all, rfl, Nat.zero_le _, by
      have : (fun y => ∃ p q x, dn (G.take 0) p ∧ dn G q ∧ dn l x ∧ y = cj x (cm p q)) = fun _ => False := funext fun (y : Pm k hk) => propext ⟨fun ⟨p, q, x, hx, _⟩ => absurd hx (q5w p), False.elim⟩
      rw [this]; exact h⟩ (by simp only; omega) (by
      rintro d ⟨i, met, gens, all, rfl, h1, h2⟩
      by_cases c1 : i < G.length
      · obtain ⟨p, ep, hp⟩ := q5u (hk := hk) hG c1
        obtain ⟨met', gens', all', e, q5⟩ := q59 hn (t11 := G) hl hll hG hGl p (a12 := (G.length : Int)) (a13 := (i : Int)) h2
        refine .inl ⟨(((), ((), ((), ()))), G, l, G, (G.length : Int), ((i + 1 : Nat) : Int), met', gens', all', ()), ?_, ⟨i + 1, met', gens', all', rfl, c1, ?_⟩, by simp only; omega⟩
        · simp (disch := first | assumption | omega) only [zA, zB, zC, zD, zE, zF, zG, qyc, qx6, qx7, zH, zI, dpos, dneg, zJ, zK, zL, zM, zN, zO, zP, qdw, qdv, qye, ep, e, up1]
        · have : (fun y => ∃ p q x, dn (G.take (i + 1)) p ∧ dn G q ∧ dn l x ∧ y = cj x (cm p q)) = fun y => (∃ p q x, dn (G.take i) p ∧ dn G q ∧ dn l x ∧ y = cj x (cm p q)) ∨ ∃ q x, dn G q ∧ dn l x ∧ y = cj x (cm p q) := funext fun y => propext (by
            constructor
            · rintro ⟨z, q, x, hz, hq, hx, rfl⟩
              rcases (q5v c1 ep z).1 hz with h | rfl
              · exact .inl ⟨z, q, x, h, hq, hx, rfl⟩
              · exact .inr ⟨q, x, hq, hx, rfl⟩
            · rintro (⟨z, q, x, hz, hq, hx, rfl⟩ | ⟨q, x, hq, hx, rfl⟩)
              · exact ⟨z, q, x, (q5v c1 ep z).2 (.inl hz), hq, hx, rfl⟩
              · exact ⟨p, q, x, (q5v c1 ep p).2 (.inr rfl), hq, hx, rfl⟩)
          rw [this]; exact q5
      · obtain rfl : i = G.length := by omega
        rw [List.take_length] at h2
        refine .inr ⟨_, ?_, met, gens, all, rfl, h2⟩
        simp (disch := first | assumption | omega) only [zA, zB, zC, zD, zE, zF, zG, qyc, qx6, qx7, zH, zI, dpos, dneg, zJ, zK, zL, zM, zN, zO, zP, qdw, qdv])
  exact ⟨met', gens', all', e, h2⟩
theorem q6b (hn : Fw n) {H : Pm k hk → Prop} (hH : Sub H) : qdz n (can H) = some (can (Dr H), ()) := by
  obtain ⟨G, e1, q1, q2, q3, q4, q5⟩ := q57 hn hH
  have h0 := q5x hH
  have e0 : idx (can H) 0 = some (row (can H) 0) := qye (u := 0) h0
  have el : (((row (can H) 0).length : Nat) : Int) = (k : Int) := by rw [q5y hH]
  have eid := qy9 hn.fu k hk.1 hk.2
  have hcl := q40 (H := H)
  obtain ⟨met, e2, h2⟩ := Gw.start hn.fu hk
  obtain ⟨met', gens', all', e3, h3⟩ := q6a hn.fu (l := can H) q4z (by omega) q1 (by omega) h2
  have e4 := h3.sorted hn
  have e5 : can (hk := hk) (Cl (fun y => ∃ p q x, dn G p ∧ dn G q ∧ dn (can H) x ∧ y = cj x (cm p q))) = can (Dr H) := by
    have e6 : (fun y => ∃ p q x, dn G p ∧ dn G q ∧ dn (can H) x ∧ y = cj x (cm p q)) = fun y => ∃ a b x, dn G a ∧ dn G b ∧ Cl (dn G) x ∧ y = cj x (cm a b) := funext fun (y : Pm k hk) => propext (by
      constructor
      · rintro ⟨p, q, x, hp, hq, hx, rfl⟩; exact ⟨p, q, x, hp, hq, (q2 x).2 (q42.1 hx), rfl⟩
      · rintro ⟨p, q, x, hp, hq, hx, rfl⟩; exact ⟨p, q, x, hp, hq, q42.2 ((q2 x).1 hx), rfl⟩)
    have e7 : Cl (dn G) = H := funext fun x => propext (q2 x)
    rw [e6]
    refine q41 (fun x => ?_)
    rw [Dr.gens, e7]
  rw [e5] at e4
  simp (disch := first | assumption | omega) only [zA, zB, zC, zD, zE, zF, zG, qyc, qx6, qx7, zH, zI, dpos, dneg, zJ, zK, zL, zM, zN, zO, zP, qdz, e1, e0, el, qdy, eid, e2, qdx, e3, e4]
end Go.Proofs.Ytemejeiajekmcaa.V
namespace Go.Proofs.Ytemejeiajekmcaa.V
open Go Classical Grp
set_option linter.unusedVariables false
set_option linter.all false
variable {n : Nat} {k : Nat} {hk : 1 ≤ k ∧ k ≤ 7}
theorem q6c (hn : Fu n) (H : Pm k hk → Prop) : qc9 n (can H) = some (can H, ()) :=
  qzm hn _ (by have := q40 (H := H); omega) q5f
theorem q6d (hn : Fw n) {H : Pm k hk → Prop} (hH : Sub H) : qd0 n (can H) = some (can (Dr H), 0, ()) := by
  simp (disch := first | assumption | omega) only [zA, zB, zC, zD, zE, zF, zG, qyc, qx6, qx7, zH, zI, dpos, dneg, zJ, zK, zL, zM, zN, zO, zP, qd0, q53 hn hH, q6b hn hH, q6c hn.fu]
noncomputable def ser : Nat → (Pm k hk → Prop) → List (List (List Int))
  | 0, _ => []
  | m + 1, H => if (can (Dr H)).length = (can H).length then [] else can (Dr H) :: ser m (Dr H)
theorem Dr.len {H : Pm k hk → Prop} (hH : Sub H) : (can (Dr H)).length ≤ (can H).length :=
  qzp can_asc.nodup (fun p hp => by
    obtain ⟨h, hp⟩ := q4x.1 hp
    exact q4x.2 ⟨h, Dr.le hH hp⟩)
theorem q6e : ∀ (m : Nat) (H : Pm k hk → Prop), (ser m H).length ≤ m
  | 0, _ => Nat.zero_le _
  | m + 1, H => by
    unfold ser
    by_cases c : (can (Dr H)).length = (can H).length
    · rw [if_pos c]; exact Nat.zero_le _
    · rw [if_neg c, List.length_cons]; have := q6e m (Dr H); omega
noncomputable def q6f (H : Pm k hk → Prop) : List (List (List Int)) := can H :: ser (can H).length H
theorem q6g (H : Pm k hk → Prop) : (q6f H).length ≤ 5041 := by
  unfold q6f; rw [List.length_cons]
  have := q6e (can H).length H
  have := q40 (H := H); omega
theorem q6h {D O : Type} {f : D → Option (D ⊕ O)} (hn : Fu n) (st : (Pm k hk → Prop) → List (List (List Int)) → D) (r : List (List (List Int)) → O)
    (hstep : ∀ (H : Pm k hk → Prop) out, Sub H → out.length ≤ 5041 → out.getLast? = some (can H) → f (st H out) = if (can (Dr H)).length = (can H).length then some (.inr (r out)) else some (.inl (st (Dr H) (out ++ [can (Dr H)])))) {H : Pm k hk → Prop} (hH : Sub H) :
    iterN f n (st H [can H]) = some (r (q6f H)) := by
  obtain ⟨r', e, rfl⟩ := q4o (f := f) hn
    (fun (g : Nat × (Pm k hk → Prop)) d => ∃ out, d = st g.2 out ∧ Sub g.2 ∧ out ++ ser g.1 g.2 = q6f H ∧ (can g.2).length ≤ g.1 ∧ out.getLast? = some (can g.2))
    (fun g => g.1)
    (fun r' => r' = r (q6f H))
    ((can H).length, H) (d := st H [can H])
    ⟨[can H], rfl, hH, rfl, Nat.le_refl _, rfl⟩ (by simp only; have := q40 (H := H); omega) (by
      rintro ⟨m, K⟩ d ⟨out, rfl, h1, h2, h3, h5⟩
      have hs := hstep K out h1 (by
        have := q6g H
        rw [← h2, List.length_append] at this
        omega) h5
      have hp : 0 < (can K).length := q5x h1
      have h3 : (can K).length ≤ m := h3
      cases m with
      | zero => omega
      | succ m =>
        unfold ser at h2
        simp only at h2
        by_cases c : (can (Dr K)).length = (can K).length
        · rw [if_pos c] at hs h2
          rw [List.append_nil] at h2
          exact .inr ⟨_, hs, by rw [h2]⟩
        · rw [if_neg c] at hs h2
          have h4 : (can (Dr K)).length ≤ (can K).length := Dr.len h1
          exact .inl ⟨_, (m, Dr K), hs, ⟨_, rfl, Dr.sub K, by rw [List.append_assoc]; exact h2, show (can (Dr K)).length ≤ m by omega, by simp⟩, Nat.lt_succ_self m⟩)
  exact e
theorem q6i (hn : Fw n) {H : Pm k hk → Prop} (hH : Sub H) : qd3 n (can H) = some (q6f H, 0, ()) := by
  have e := q6h (f := qd2 n) hn.fu (fun K out => (can K, out, ())) (fun out => .inl (out, 0, ())) (fun K out hK ho _ => by
    have e1 := q6b hn hK
    have e2 := q6c hn.fu (Dr K)
    have hl : ([can (Dr K)] : List (List (List Int))).length = 1 := rfl
    by_cases c : (can (Dr K)).length = (can K).length
    · rw [if_pos c]
      simp (disch := first | assumption | omega) only [zA, zB, zC, zD, zE, zF, zG, qyc, qx6, qx7, zH, zI, dpos, dneg, zJ, zK, zL, zM, zN, zO, zP, qd2, qd1, e1]
    · rw [if_neg c]
      simp (disch := first | assumption | omega) only [zA, zB, zC, zD, zE, zF, zG, qyc, qx6, qx7, zH, zI, dpos, dneg, zJ, zK, zL, zM, zN, zO, zP, qd2, qd1, e1, e2]) hH
  simp (disch := first | assumption | omega) only [zA, zB, zC, zD, zE, zF, zG, qyc, qx6, qx7, zH, zI, dpos, dneg, zJ, zK, zL, zM, zN, zO, zP, qd3, q53 hn hH, q6c hn.fu, e]
theorem q6j (hn : Fu n) {l : List (List Int)} (hl : ∀ p ∈ l, PK k p) (hll : l.length ≤ 1000000000) {i : Nat} (x : Pm k hk) (ei : idx l (i : Int) = some x.1) (S : Pm k hk → Prop) :
    iterN (qfh n) n (l, (i : Int), 0, setT k (upS S), ()) = some (.inl (l, (i : Int), setT k (upS (fun y => S y ∨ ∃ z, dn l z ∧ y = cm x z)), ())) := by
  obtain ⟨r, e, rfl⟩ := qx2 (f := qfh n) hn
    (fun d => ∃ j : Nat, d = (l, (i : Int), (j : Int), setT k (upS (fun y => S y ∨ ∃ z, dn (l.take j) z ∧ y = cm x z)), ()) ∧ j ≤ l.length)
    (fun d => ((l.length : Int) - d.2.2.1).toNat)
    (fun r => r = .inl (l, (i : Int), setT k (upS (fun y => S y ∨ ∃ z, dn l z ∧ y = cm x z)), ()))
    (d := (l, (i : Int), 0, setT k (upS S), ()))
    ⟨0, by
      have : (fun y => S y ∨ ∃ z, dn (l.take 0) z ∧ y = cm x z) = S := funext fun y => propext ⟨fun h => h.elim id (fun ⟨z, hz, _⟩ => absurd hz (q5w z)), .inl⟩
      rw [this]; rfl, Nat.zero_le _⟩ (by simp only; omega) (by
      rintro d ⟨j, rfl, h1⟩
      by_cases c : j < l.length
      · obtain ⟨y, ey, hy⟩ := q5u (hk := hk) hl c
        have ec := q5s hn x y
        have er := q5t hn (cm x y)
        have eh := q4i (S := upS (fun y => S y ∨ ∃ z, dn (l.take j) z ∧ y = cm x z)) (cm x y).2
        have es : (hasT k (upS (fun y => S y ∨ ∃ z, dn (l.take j) z ∧ y = cm x z))).set (rank (cm x y).1) true = hasT k (upS (fun y => S y ∨ ∃ z, dn (l.take (j + 1)) z ∧ y = cm x z)) := by
          rw [q4j (cm x y).2]
          congr 1
          funext q
          apply propext
          constructor
          · rintro (⟨hq, h⟩ | rfl)
            · exact ⟨hq, h.imp id (fun ⟨z, hz, e⟩ => ⟨z, (q5v c ey z).2 (.inl hz), e⟩)⟩
            · exact ⟨(cm x y).2, .inr ⟨y, (q5v c ey y).2 (.inr rfl), rfl⟩⟩
          · rintro ⟨hq, h | ⟨z, hz, e⟩⟩
            · exact .inl ⟨hq, .inl h⟩
            · rcases (q5v c ey z).1 hz with hz | rfl
              · exact .inl ⟨hq, .inr ⟨z, hz, e⟩⟩
              · exact .inr (congrArg Subtype.val e)
        refine .inl ⟨(l, (i : Int), ((j + 1 : Nat) : Int), setT k (upS (fun y => S y ∨ ∃ z, dn (l.take (j + 1)) z ∧ y = cm x z)), ()), ?_, ⟨j + 1, rfl, c⟩, by simp only; omega⟩
        simp (disch := first | assumption | omega) only [zA, zB, zC, zD, zE, zF, zG, qyc, qx6, qx7, zH, zI, dpos, dneg, zJ, zK, zL, zM, zN, zO, zP, qfh, qfg, qye, ei, ey, ec, er, eh, es, up1]
      · obtain rfl : j = l.length := by omega
        rw [List.take_length]
        refine .inr ⟨_, ?_, rfl⟩
        simp (disch := first | assumption | omega) only [zA, zB, zC, zD, zE, zF, zG, qyc, qx6, qx7, zH, zI, dpos, dneg, zJ, zK, zL, zM, zN, zO, zP, qfh, qfg])
  exact e
theorem q6k (hn : Fu n) {H : Pm k hk → Prop} (hH : Sub H) : qfk n (can H) = some (can (fun y : Pm k hk => ∃ a b, H a ∧ H b ∧ y = cm a b), ()) := by
  have h0 := q5x hH
  have e0 : idx (can H) 0 = some (row (can H) 0) := qye (u := 0) h0
  have el : (((row (can H) 0).length : Nat) : Int) = (k : Int) := by rw [q5y hH]
  have hcl := q40 (H := H)
  have es := q4k hn hk.1 hk.2 (l := []) (by simp) (fun p h => nomatch h)
  have es0 : hasT k (· ∈ ([] : List (List Int))) = hasT k (upS (fun y : Pm k hk => ∃ a b, dn ((can H).take 0) a ∧ dn (can H) b ∧ y = cm a b)) := by
    congr 1
    funext q
    apply propext
    exact ⟨(fun h => nomatch h), fun ⟨_, a, b, ha, _⟩ => absurd ha (q5w a)⟩
  obtain ⟨r, e, rfl⟩ := qx2 (f := qfj n) hn
    (fun d => ∃ i : Nat, d = (can H, (i : Int), setT k (upS (fun y : Pm k hk => ∃ a b, dn ((can H).take i) a ∧ dn (can H) b ∧ y = cm a b)), ()) ∧ i ≤ (can H).length)
    (fun d => (((can H).length : Int) - d.2.1).toNat)
    (fun r => r = .inl (setT k (upS (fun y : Pm k hk => ∃ a b, H a ∧ H b ∧ y = cm a b)), ()))
    (d := (can H, 0, setT k (upS (fun y : Pm k hk => ∃ a b, dn ((can H).take 0) a ∧ dn (can H) b ∧ y = cm a b)), ()))
    ⟨0, rfl, Nat.zero_le _⟩ (by simp only; omega) (by
      rintro d ⟨i, rfl, h1⟩
      by_cases c : i < (can H).length
      · obtain ⟨x, ex, hx⟩ := q5u (hk := hk) (q4z (H := H)) c
        have ei : idx (can H) (i : Int) = some x.1 := by rw [qye c, ex]
        have e := q6j hn (q4z (H := H)) (by omega) x ei (fun y : Pm k hk => ∃ a b, dn ((can H).take i) a ∧ dn (can H) b ∧ y = cm a b)
        refine .inl ⟨(can H, ((i + 1 : Nat) : Int), setT k (upS (fun y : Pm k hk => ∃ a b, dn ((can H).take (i + 1)) a ∧ dn (can H) b ∧ y = cm a b)), ()), ?_, ⟨i + 1, rfl, c⟩, by simp only; omega⟩
        have : (fun y : Pm k hk => ∃ a b, dn ((can H).take (i + 1)) a ∧ dn (can H) b ∧ y = cm a b) = fun y => (∃ a b, dn ((can H).take i) a ∧ dn (can H) b ∧ y = cm a b) ∨ ∃ z, dn (can H) z ∧ y = cm x z := funext fun y => propext (by
          constructor
          · rintro ⟨a, b, ha, hb, rfl⟩
            rcases (q5v c ex a).1 ha with h | rfl
            · exact .inl ⟨a, b, h, hb, rfl⟩
            · exact .inr ⟨b, hb, rfl⟩
          · rintro (⟨a, b, ha, hb, rfl⟩ | ⟨b, hb, rfl⟩)
            · exact ⟨a, b, (q5v c ex a).2 (.inl ha), hb, rfl⟩
            · exact ⟨x, b, (q5v c ex x).2 (.inr rfl), hb, rfl⟩)
        rw [this]
        simp (disch := first | assumption | omega) only [zA, zB, zC, zD, zE, zF, zG, qyc, qx6, qx7, zH, zI, dpos, dneg, zJ, zK, zL, zM, zN, zO, zP, qfj, qfi, e, up1]
      · obtain rfl : i = (can H).length := by omega
        rw [List.take_length]
        have : (fun y : Pm k hk => ∃ a b, dn (can H) a ∧ dn (can H) b ∧ y = cm a b) = fun y : Pm k hk => ∃ a b, H a ∧ H b ∧ y = cm a b := by
          rw [show (dn (can H) : Pm k hk → Prop) = H from funext fun x => propext q42]
        rw [this]
        refine .inr ⟨_, ?_, rfl⟩
        simp (disch := first | assumption | omega) only [zA, zB, zC, zD, zE, zF, zG, qyc, qx6, qx7, zH, zI, dpos, dneg, zJ, zK, zL, zM, zN, zO, zP, qfj, qfi])
  have elst := q4m hn (S := upS (fun y : Pm k hk => ∃ a b, H a ∧ H b ∧ y = cm a b)) hk.2
  simp (disch := first | assumption | omega) only [zA, zB, zC, zD, zE, zF, zG, qyc, qx6, qx7, zH, zI, dpos, dneg, zJ, zK, zL, zM, zN, zO, zP, qfk, e0, el, es, es0, e, elst]
  rfl
theorem q6l (hn : Fu n) (gens : List (List Int)) : ∃ l b, qfb n gens = some (l, (b, ())) ∧ (b = true → GV gens ∧ gens.length ≤ 30 ∧ ∀ (k : Nat) (hk : 1 ≤ k ∧ k ≤ 7), (∀ g ∈ gens, PK k g) → l = can (hk := hk) (Cl (dn gens)) ∧ l.length ≤ 360) := by
  have f := qy1 hn gens 30 (by decide)
  by_cases h0 : (gens.length : Int) ≤ 30 ∧ ∀ i, i < gens.length → (row gens i).length ≤ 100
  · rw [decide_eq_true h0] at f
    have g := qyx hn gens
    by_cases h1 : GV gens
    · rw [decide_eq_true h1] at g
      obtain ⟨k, hk, hG⟩ := h1.pk
      have e := q5a (hk := hk) hn hG h1.1 (by have := h1.2.1; omega)
      refine ⟨can (hk := hk) (Cl (dn gens)), decide (((can (hk := hk) (Cl (dn gens))).length : Int) ≤ 360), by simp (disch := first | assumption | omega) only [zA, zB, zC, zD, zE, zF, zG, qyc, qx6, qx7, zH, zI, dpos, dneg, zJ, zK, zL, zM, zN, zO, zP, qfb, f, g, e], fun hb => ⟨h1, by omega, fun k' hk' hG' => ?_⟩⟩
      rw [decide_eq_true_eq] at hb
      have hr := qyd h1.1
      obtain rfl := (hG _ hr).uniq (hG' _ hr)
      exact ⟨rfl, by omega⟩
    · rw [decide_eq_false h1] at g
      exact ⟨[], false, by simp (disch := first | assumption | omega) only [zA, zB, zC, zD, zE, zF, zG, qyc, qx6, qx7, zH, zI, dpos, dneg, zJ, zK, zL, zM, zN, zO, zP, qfb, f, g], fun h => nomatch h⟩
  · rw [decide_eq_false h0] at f
    exact ⟨[], false, by simp (disch := first | assumption | omega) only [zA, zB, zC, zD, zE, zF, zG, qyc, qx6, qx7, zH, zI, dpos, dneg, zJ, zK, zL, zM, zN, zO, zP, qfb, f], fun h => nomatch h⟩
theorem q6m {P : Nat → Prop} (h : ∀ n, Fw n → P n) : ∃ n, P n := ⟨_, h (1180591620717411303424 + 1099511627776) (Nat.le_refl _)⟩
end Go.Proofs.Ytemejeiajekmcaa.V
namespace Go.Proofs.Ytemejeiajekmcaa.V
open Go Classical Grp
set_option linter.unusedVariables false
set_option linter.all false
variable {n : Nat} {k : Nat} {hk : 1 ≤ k ∧ k ≤ 7}
theorem q6n (hn : Fu n) (p q : List Int) (hp : p.length ≤ 1000000000) : qd6 n p q = some (decide (p = q), ()) := by
  by_cases hl : p.length = q.length
  · have g : iterN (qd5 n) n (p, q, 0, ()) = some (if ∀ i, i < p.length → rd p (i : Int) = rd q (i : Int) then .inr (.inl ()) else .inl (false, ())) := by
      refine (qxz (f := qd5 n) hn (fun i => (p, q, (i : Int), ())) p.length (fun i => rd p (i : Int) = rd q (i : Int)) (d := (p, q, 0, ())) (r := .inr (.inl ())) (r' := .inl (false, ())) (by omega) rfl (fun i hi _ hp => ?_) (fun i hi _ hp => ?_) (fun _ => ?_)).trans (by congr)
      · simp (disch := first | assumption | omega) only [zA, zB, zC, zD, zE, zF, zG, qyc, qx6, qx7, zH, zI, dpos, dneg, zJ, zK, zL, zM, zN, zO, zP, qd5, qd4, qyf, hp, up1]
      · simp (disch := first | assumption | omega) only [zA, zB, zC, zD, zE, zF, zG, qyc, qx6, qx7, zH, zI, dpos, dneg, zJ, zK, zL, zM, zN, zO, zP, qd5, qd4, qyf, up1]
      · simp (disch := first | assumption | omega) only [zA, zB, zC, zD, zE, zF, zG, qyc, qx6, qx7, zH, zI, dpos, dneg, zJ, zK, zL, zM, zN, zO, zP, qd5, qd4]
    by_cases e : p = q
    · rw [if_pos (fun i hi => by rw [e])] at g
      subst e
      simp (disch := first | assumption | omega) only [zA, zB, zC, zD, zE, zF, zG, qyc, qx6, qx7, zH, zI, dpos, dneg, zJ, zK, zL, zM, zN, zO, zP, qd6, g]
    · rw [if_neg (fun h => e (q3v hl h))] at g
      rw [decide_eq_false e]
      simp (disch := first | assumption | omega) only [zA, zB, zC, zD, zE, zF, zG, qyc, qx6, qx7, zH, zI, dpos, dneg, zJ, zK, zL, zM, zN, zO, zP, qd6, g]
  · rw [decide_eq_false (fun e => hl (by rw [e]))]
    simp (disch := first | assumption | omega) only [zA, zB, zC, zD, zE, zF, zG, qyc, qx6, qx7, zH, zI, dpos, dneg, zJ, zK, zL, zM, zN, zO, zP, qd6]
theorem q6o (hn : Fu n) (p q : List Int) (hp : p.length ≤ 1000000000) : qfq n p q = some (decide (p = q), ()) := by
  by_cases hl : p.length = q.length
  · have g : iterN (qfp n) n (p, q, (p.length : Int), 0, ()) = some (if ∀ i, i < p.length → rd p (i : Int) = rd q (i : Int) then .inr (.inl ()) else .inl (false, ())) := by
      refine (qxz (f := qfp n) hn (fun i => (p, q, (p.length : Int), (i : Int), ())) p.length (fun i => rd p (i : Int) = rd q (i : Int)) (d := (p, q, (p.length : Int), 0, ())) (r := .inr (.inl ())) (r' := .inl (false, ())) (by omega) rfl (fun i hi _ hp => ?_) (fun i hi _ hp => ?_) (fun _ => ?_)).trans (by congr)
      · simp (disch := first | assumption | omega) only [zA, zB, zC, zD, zE, zF, zG, qyc, qx6, qx7, zH, zI, dpos, dneg, zJ, zK, zL, zM, zN, zO, zP, qfp, qfo, qyf, hp, up1]
      · simp (disch := first | assumption | omega) only [zA, zB, zC, zD, zE, zF, zG, qyc, qx6, qx7, zH, zI, dpos, dneg, zJ, zK, zL, zM, zN, zO, zP, qfp, qfo, qyf, up1]
      · simp (disch := first | assumption | omega) only [zA, zB, zC, zD, zE, zF, zG, qyc, qx6, qx7, zH, zI, dpos, dneg, zJ, zK, zL, zM, zN, zO, zP, qfp, qfo]
    by_cases e : p = q
    · rw [if_pos (fun i hi => by rw [e])] at g
      subst e
      simp (disch := first | assumption | omega) only [zA, zB, zC, zD, zE, zF, zG, qyc, qx6, qx7, zH, zI, dpos, dneg, zJ, zK, zL, zM, zN, zO, zP, qfq, g]
    · rw [if_neg (fun h => e (q3v hl h))] at g
      rw [decide_eq_false e]
      simp (disch := first | assumption | omega) only [zA, zB, zC, zD, zE, zF, zG, qyc, qx6, qx7, zH, zI, dpos, dneg, zJ, zK, zL, zM, zN, zO, zP, qfq, g]
  · rw [decide_eq_false (fun e => hl (by rw [e]))]
    simp (disch := first | assumption | omega) only [zA, zB, zC, zD, zE, zF, zG, qyc, qx6, qx7, zH, zI, dpos, dneg, zJ, zK, zL, zM, zN, zO, zP, qfq]
theorem q6p {l : List (List Int)} {p : List Int} : p ∈ l ↔ ∃ i, i < l.length ∧ row l i = p := by
  constructor
  · intro h
    obtain ⟨i, hi, e⟩ := List.getElem_of_mem h
    exact ⟨i, hi, by unfold row; rw [List.getD_eq_getElem?_getD, List.getElem?_eq_getElem hi]; exact e⟩
  · rintro ⟨i, hi, rfl⟩; exact qyd hi
theorem q6q (hn : Fu n) (l : List (List Int)) (p : List Int) (hl : l.length ≤ 1000000000) (hr : ∀ i, i < l.length → (row l i).length ≤ 1000000000) : qfn n l p = some (decide (p ∈ l), ()) := by
  have g : iterN (qfm n) n (l, p, 0, ()) = some (if ∀ i, i < l.length → row l i ≠ p then .inr (.inl ()) else .inl (true, ())) := by
    refine (qxz (f := qfm n) hn (fun i => (l, p, (i : Int), ())) l.length (fun i => row l i ≠ p) (d := (l, p, 0, ())) (r := .inr (.inl ())) (r' := .inl (true, ())) (by omega) rfl (fun i hi _ hp => ?_) (fun i hi _ hp => ?_) (fun _ => ?_)).trans (by congr)
    · have e := q6n hn (row l i) p (hr i hi)
      rw [decide_eq_false hp] at e
      simp (disch := first | assumption | omega) only [zA, zB, zC, zD, zE, zF, zG, qyc, qx6, qx7, zH, zI, dpos, dneg, zJ, zK, zL, zM, zN, zO, zP, qfm, qfl, qye, e, up1]
    · have e := q6n hn (row l i) p (hr i hi)
      rw [decide_eq_true (Classical.not_not.1 hp)] at e
      simp (disch := first | assumption | omega) only [zA, zB, zC, zD, zE, zF, zG, qyc, qx6, qx7, zH, zI, dpos, dneg, zJ, zK, zL, zM, zN, zO, zP, qfm, qfl, qye, e, up1]
    · simp (disch := first | assumption | omega) only [zA, zB, zC, zD, zE, zF, zG, qyc, qx6, qx7, zH, zI, dpos, dneg, zJ, zK, zL, zM, zN, zO, zP, qfm, qfl]
  by_cases h : p ∈ l
  · rw [decide_eq_true h]
    rw [if_neg (fun h2 => by obtain ⟨i, hi, e⟩ := q6p.1 h; exact h2 i hi e)] at g
    simp (disch := first | assumption | omega) only [zA, zB, zC, zD, zE, zF, zG, qyc, qx6, qx7, zH, zI, dpos, dneg, zJ, zK, zL, zM, zN, zO, zP, qfn, g]
  · rw [decide_eq_false h]
    rw [if_pos (fun i hi e => h (q6p.2 ⟨i, hi, e⟩))] at g
    simp (disch := first | assumption | omega) only [zA, zB, zC, zD, zE, zF, zG, qyc, qx6, qx7, zH, zI, dpos, dneg, zJ, zK, zL, zM, zN, zO, zP, qfn, g]
theorem q6r {H : Pm k hk → Prop} : ∀ i, i < (can H).length → (row (can H) i).length ≤ 1000000000 := fun i hi => by have := q5f i hi; omega
theorem Pm.dec_eq {x y : Pm k hk} : x.1 = y.1 ↔ x = y := ⟨Pm.ext, fun h => by rw [h]⟩
def Drn : Nat → (Pm k hk → Prop) → Pm k hk → Prop
  | 0, H => H
  | m + 1, H => Drn m (Dr H)
theorem Drn.sub : ∀ {m : Nat} {H : Pm k hk → Prop}, Sub H → Sub (Drn m H)
  | 0, _, h => h
  | m + 1, H, h => Drn.sub (m := m) (Dr.sub H)
theorem Drn.mono : ∀ {m : Nat} {H K : Pm k hk → Prop}, (∀ x, K x → H x) → ∀ x, Drn m K x → Drn m H x
  | 0, _, _, h => h
  | m + 1, _, _, h => Drn.mono (m := m) (fun x hx => Dr.mono h hx)
theorem q6s {H K : Pm k hk → Prop} (h : ∀ x, K x → H x) (hl : (can K).length = (can H).length) : ∀ x, H x → K x := fun x hx => by
  have hp := qz1 (can_asc (H := K)).nodup (L := can H) (fun p hp => by
    obtain ⟨hp, hx⟩ := q4x.1 hp
    exact q4x.2 ⟨hp, h _ hx⟩) (by omega)
  exact q4y.1 (hp.symm.subset (q4y.2 hx))
end Go.Proofs.Ytemejeiajekmcaa.V
namespace Go.Proofs.Ytemejeiajekmcaa.V
open Go Classical Grp
set_option linter.unusedVariables false
set_option linter.all false
variable {n : Nat} {k : Nat} {hk : 1 ≤ k ∧ k ≤ 7}
def eqL : List Int → List Int → Bool
  | [], [] => true
  | x :: a, y :: b => decide (x = y) && eqL a b
  | _, _ => false
theorem q6t : ∀ {a b}, eqL a b = true → a = b
  | [], [], _ => rfl
  | x :: a, y :: b, h => by
    simp only [eqL, Bool.and_eq_true, decide_eq_true_eq] at h
    rw [h.1, q6t h.2]
  | [], _ :: _, h => nomatch h
  | _ :: _, [], h => nomatch h
def inB (p : List Int) (L : List (List Int)) : Bool := L.any (eqL p)
theorem q6u {p L} (h : inB p L = true) : p ∈ L := by
  obtain ⟨q, hq, e⟩ := List.any_eq_true.1 h
  rw [q6t e]; exact hq
def ltB : List Int → List Int → Bool
  | [], [] => false
  | [], _ :: _ => true
  | _ :: _, [] => false
  | x :: a, y :: b => decide (x < y) || (decide (x = y) && ltB a b)
theorem q6v : ∀ {a b}, ltB a b = true → ltL a b
  | [], [], h => nomatch h
  | [], _ :: _, _ => trivial
  | _ :: _, [], h => nomatch h
  | x :: a, y :: b, h => by
    simp only [ltB, Bool.or_eq_true, Bool.and_eq_true, decide_eq_true_eq] at h
    exact h.imp id (fun h => ⟨h.1, q6v h.2⟩)
def ascB : List (List Int) → Bool
  | [] => true
  | [_] => true
  | x :: y :: r => ltB x y && ascB (y :: r)
theorem q6w : ∀ {l}, ascB l = true → Asc l
  | [], _ => List.Pairwise.nil
  | [x], _ => List.pairwise_singleton _ _
  | x :: y :: r, h => by
    simp only [ascB, Bool.and_eq_true] at h
    have ih := q6w h.2
    refine List.Pairwise.cons (fun z hz => ?_) ih
    rw [List.mem_cons] at hz
    rcases hz with rfl | hz
    · exact q6v h.1
    · exact qzy (q6v h.1) ((List.pairwise_cons.1 ih).1 z hz)
def mulC (p q : List Int) : List Int := p.map (fun x => q.getD x.toNat 0)
theorem q6x (p q : List Int) : mulP p q = mulC p q := by
  unfold mulP mulC
  apply List.ext_getElem
  · simp
  · intro i h1 h2
    have hi : i < p.length := by simpa using h2
    rw [qyh (f := fun i => rd q (rd p (i : Int))) (by simpa using hi), List.getElem_map, q0i hi]; rfl
def invC (p : List Int) : List Int := (List.range p.length).map (fun (i : Nat) => ((p.idxOf (i : Int) : Nat) : Int))
theorem q6y (p : List Int) : invP p = invC p := rfl
def cmC (a b : List Int) : List Int := mulC (mulC (invC a) (invC b)) (mulC a b)
theorem q6z (a b : Pm k hk) : (cm a b).1 = cmC a.1 b.1 := by
  show mulP (mulP (invP a.1) (invP b.1)) (mulP a.1 b.1) = _
  rw [q6x, q6x, q6x a.1, q6y, q6y]; rfl
def grow (gens : List (List Int)) : List (Nat × Nat) → List (List Int) → List (List Int)
  | [], acc => acc
  | (i, j) :: r, acc => grow gens r (acc ++ [mulC (acc.getD i []) (gens.getD j [])])
theorem q60 {gens : List (List Int)} (hG : ∀ g ∈ gens, PK k g) : ∀ (w : List (Nat × Nat)) (acc : List (List Int)), (w.all fun x => decide (x.2 < gens.length)) = true → (∀ i, i < w.length → (w.getD i (0, 0)).1 < acc.length + i) → (∀ p ∈ acc, upS (hk := hk) (Cl (dn gens)) p) → ∀ p ∈ grow gens w acc, upS (hk := hk) (Cl (dn gens)) p
  | [], acc, _, _, h, p, hp => h p hp
  | (i, j) :: r, acc, h1, h2, h, p, hp => by
    simp only [List.all_cons, Bool.and_eq_true, decide_eq_true_eq] at h1
    have hi : i < acc.length := by have := h2 0 (by simp); simpa using this
    refine q60 hG r _ h1.2 (fun a ha => ?_) (fun q hq => ?_) p hp
    · have := h2 (a + 1) (by simpa using ha)
      simp only [List.getD_cons_succ] at this
      rw [List.length_append]; simp only [List.length_cons, List.length_nil]; omega
    · rw [List.mem_append, List.mem_singleton] at hq
      rcases hq with hq | rfl
      · exact h q hq
      · have e1 : acc.getD i [] = row acc i := rfl
        have e2 : gens.getD j [] = row gens j := rfl
        rw [e1, e2]
        obtain ⟨ha, hc⟩ := h _ (qyd hi)
        have hg := hG _ (qyd h1.1)
        rw [← q6x]
        exact ⟨ha.mul hg, Cl.step (G := Pm k hk) (S := dn gens) (p := Pm.mk _ ha) (q := Pm.mk _ hg) hc (qyd h1.1)⟩
def wOK (w : List (Nat × Nat)) : Bool := (List.range w.length).all fun i => Nat.blt ((w.getD i (0, 0)).1) (i + 1)
theorem q61 {gens L : List (List Int)} {w : List (Nat × Nat)} (hG : ∀ g ∈ gens, PK k g) (h1 : ascB L = true) (h2 : inB (idP k) L = true) (h3 : (L.all fun p => gens.all fun g => inB (mulC p g) L) = true)
    (h4 : (w.all fun x => decide (x.2 < gens.length)) = true) (h5 : wOK w = true) (h6 : (L.all fun p => inB p (grow gens w [idP k])) = true) : can (hk := hk) (Cl (dn gens)) = L := by
  refine Asc.ext can_asc (q6w h1) (fun p => ?_)
  rw [q4x]
  constructor
  · rintro ⟨hp, hc⟩
    have : ∀ x : Pm k hk, Cl (dn gens) x → x.1 ∈ L := fun x hx => by
      induction hx with
      | one => exact q6u h2
      | @step a g ha hg ih =>
        have := List.all_eq_true.1 (List.all_eq_true.1 h3 _ ih) g.1 hg
        have := q6u this
        rw [← q6x] at this
        exact this
    exact this ⟨p, hp⟩ hc
  · intro hp
    have := q6u (List.all_eq_true.1 h6 p hp)
    refine q60 hG w [idP k] h4 (fun i hi => ?_) (fun q hq => ?_) p this
    · have := List.all_eq_true.1 h5 i (List.mem_range.2 hi)
      have := Nat.le_of_ble_eq_true this
      simp only [List.length_cons, List.length_nil]; omega
    · rw [List.mem_singleton] at hq
      subst hq
      exact ⟨(1 : Pm k hk).2, .one⟩
theorem q62 {H : Pm k hk → Prop} {L M : List (List Int)} (hL : can H = L) (h1 : ascB M = true) (h2 : inB (idP k) M = true) (h3 : (M.all fun p => M.all fun g => inB (mulC p g) M) = true)
    (h4 : (L.all fun a => L.all fun b => inB (cmC a b) M) = true) (h5 : (M.all fun p => L.any fun a => L.any fun b => eqL p (cmC a b)) = true) : can (Dr H) = M := by
  have hHL : ∀ x : Pm k hk, H x ↔ x.1 ∈ L := fun x => by rw [← hL, q4y]
  have hm : ∀ {a b : Pm k hk}, dn M a → dn M b → dn M (a * b) := fun {a b} ha hb => by
    have := q6u (List.all_eq_true.1 (List.all_eq_true.1 h3 _ ha) _ hb)
    rw [← q6x] at this
    exact this
  have hone : dn M (1 : Pm k hk) := q6u h2
  have hs : Sub (dn M : Pm k hk → Prop) := ⟨hone, hm, q08 hone hm⟩
  refine Asc.ext can_asc (q6w h1) (fun p => ?_)
  rw [q4x]
  constructor
  · rintro ⟨hp, hc⟩
    refine Cl.le hs ?_ hc
    rintro _ ⟨a, b, ha, hb, rfl⟩
    have := q6u (List.all_eq_true.1 (List.all_eq_true.1 h4 _ ((hHL a).1 ha)) _ ((hHL b).1 hb))
    rw [← q6z] at this
    exact this
  · intro hp
    obtain ⟨a, ha, h⟩ := List.any_eq_true.1 (List.all_eq_true.1 h5 p hp)
    obtain ⟨b, hb, h⟩ := List.any_eq_true.1 h
    have e := q6t h
    have pa : PK k a := by rw [← hL] at ha; exact q4z a ha
    have pb : PK k b := by rw [← hL] at hb; exact q4z b hb
    have e2 := q6z (Pm.mk (hk := hk) a pa) (Pm.mk b pb)
    change _ = cmC a b at e2
    rw [e, ← e2]
    exact ⟨(cm (Pm.mk (hk := hk) a pa) (Pm.mk b pb)).2, .gen ⟨_, _, (hHL _).2 ha, (hHL _).2 hb, rfl⟩⟩
def aL60 : List (List Int) := [[0, 1, 2, 3, 4], [0, 1, 3, 4, 2], [0, 1, 4, 2, 3], [0, 2, 1, 4, 3], [0, 2, 3, 1, 4], [0, 2, 4, 3, 1], [0, 3, 1, 2, 4], [0, 3, 2, 4, 1], [0, 3, 4, 1, 2], [0, 4, 1, 3, 2], [0, 4, 2, 1, 3], [0, 4, 3, 2, 1], [1, 0, 2, 4, 3], [1, 0, 3, 2, 4], [1, 0, 4, 3, 2], [1, 2, 0, 3, 4], [1, 2, 3, 4, 0], [1, 2, 4, 0, 3], [1, 3, 0, 4, 2], [1, 3, 2, 0, 4], [1, 3, 4, 2, 0], [1, 4, 0, 2, 3], [1, 4, 2, 3, 0], [1, 4, 3, 0, 2], [2, 0, 1, 3, 4], [2, 0, 3, 4, 1], [2, 0, 4, 1, 3], [2, 1, 0, 4, 3], [2, 1, 3, 0, 4], [2, 1, 4, 3, 0], [2, 3, 0, 1, 4], [2, 3, 1, 4, 0], [2, 3, 4, 0, 1], [2, 4, 0, 3, 1], [2, 4, 1, 0, 3], [2, 4, 3, 1, 0], [3, 0, 1, 4, 2], [3, 0, 2, 1, 4], [3, 0, 4, 2, 1], [3, 1, 0, 2, 4], [3, 1, 2, 4, 0], [3, 1, 4, 0, 2], [3, 2, 0, 4, 1], [3, 2, 1, 0, 4], [3, 2, 4, 1, 0], [3, 4, 0, 1, 2], [3, 4, 1, 2, 0], [3, 4, 2, 0, 1], [4, 0, 1, 2, 3], [4, 0, 2, 3, 1], [4, 0, 3, 1, 2], [4, 1, 0, 3, 2], [4, 1, 2, 0, 3], [4, 1, 3, 2, 0], [4, 2, 0, 1, 3], [4, 2, 1, 3, 0], [4, 2, 3, 0, 1], [4, 3, 0, 2, 1], [4, 3, 1, 0, 2], [4, 3, 2, 1, 0]]
def aL24 : List (List Int) := [[0, 1, 2, 3], [0, 1, 3, 2], [0, 2, 1, 3], [0, 2, 3, 1], [0, 3, 1, 2], [0, 3, 2, 1], [1, 0, 2, 3], [1, 0, 3, 2], [1, 2, 0, 3], [1, 2, 3, 0], [1, 3, 0, 2], [1, 3, 2, 0], [2, 0, 1, 3], [2, 0, 3, 1], [2, 1, 0, 3], [2, 1, 3, 0], [2, 3, 0, 1], [2, 3, 1, 0], [3, 0, 1, 2], [3, 0, 2, 1], [3, 1, 0, 2], [3, 1, 2, 0], [3, 2, 0, 1], [3, 2, 1, 0]]
def aL12 : List (List Int) := [[0, 1, 2, 3], [0, 2, 3, 1], [0, 3, 1, 2], [1, 0, 3, 2], [1, 2, 0, 3], [1, 3, 2, 0], [2, 0, 1, 3], [2, 1, 3, 0], [2, 3, 0, 1], [3, 0, 2, 1], [3, 1, 0, 2], [3, 2, 1, 0]]
def aL4 : List (List Int) := [[0, 1, 2, 3], [1, 0, 3, 2], [2, 3, 0, 1], [3, 2, 1, 0]]
def aL1 : List (List Int) := [[0, 1, 2, 3]]
def aw60 : List (Nat × Nat) := [(0, 0), (0, 1), (1, 0), (1, 1), (2, 0), (2, 1), (3, 0), (3, 1), (4, 0), (4, 1), (5, 0), (5, 1), (6, 0), (7, 0), (7, 1), (8, 0), (8, 1), (9, 0), (9, 1), (10, 0), (11, 0), (12, 0), (12, 1), (13, 0), (13, 1), (14, 1), (15, 0), (16, 1), (17, 0), (18, 0), (19, 0), (19, 1), (20, 0), (20, 1), (21, 0), (21, 1), (22, 1), (25, 0), (25, 1), (26, 0), (27, 1), (28, 0), (28, 1), (29, 1), (30, 0), (30, 1), (34, 0), (36, 0), (37, 1), (38, 1), (40, 1), (41, 0), (41, 1), (44, 0), (47, 1), (48, 1), (51, 0), (51, 1), (54, 1)]
def aw24 : List (Nat × Nat) := [(0, 0), (0, 1), (1, 0), (1, 1), (2, 0), (3, 0), (3, 1), (4, 0), (5, 0), (5, 1), (6, 1), (7, 0), (8, 0), (8, 1), (9, 1), (11, 0), (12, 0), (12, 1), (13, 1), (15, 0), (16, 0), (16, 1), (17, 1)]
def ag5 : List (List Int) := [[1, 2, 3, 4, 0], [1, 2, 0, 3, 4]]
def ag4 : List (List Int) := [[1, 2, 3, 0], [1, 0, 2, 3]]
theorem hk5 : 1 ≤ 5 ∧ 5 ≤ 7 := by decide
theorem hk4 : 1 ≤ 4 ∧ 4 ≤ 7 := by decide
theorem pk5_0 : PK 5 [1, 2, 3, 4, 0] := q0j (by decide) (by decide) (show List.Perm _ (idP 5) from by decide)
theorem pk5_1 : PK 5 [1, 2, 0, 3, 4] := q0j (by decide) (by decide) (show List.Perm _ (idP 5) from by decide)
theorem q63 : ∀ g ∈ ag5, PK 5 g := fun g hg => by
  simp only [ag5, List.mem_cons, List.not_mem_nil, or_false] at hg
  rcases hg with rfl | rfl
  · exact pk5_0
  · exact pk5_1
theorem q64 : GV ag5 := ⟨by decide, by decide, fun i hi => by
  have h : ∀ j, j < 2 → PK 5 (row ag5 j) := fun j hj => q63 _ (qyd hj)
  have h0 := h 0 (by decide)
  have h1 := h i hi
  exact ⟨h0.1, h1.1, by rw [h0.2, h1.2]⟩⟩
theorem pk4_0 : PK 4 [1, 2, 3, 0] := q0j (by decide) (by decide) (show List.Perm _ (idP 4) from by decide)
theorem pk4_1 : PK 4 [1, 0, 2, 3] := q0j (by decide) (by decide) (show List.Perm _ (idP 4) from by decide)
theorem q65 : ∀ g ∈ ag4, PK 4 g := fun g hg => by
  simp only [ag4, List.mem_cons, List.not_mem_nil, or_false] at hg
  rcases hg with rfl | rfl
  · exact pk4_0
  · exact pk4_1
theorem q66 : GV ag4 := ⟨by decide, by decide, fun i hi => by
  have h : ∀ j, j < 2 → PK 4 (row ag4 j) := fun j hj => q65 _ (qyd hj)
  have h0 := h 0 (by decide)
  have h1 := h i hi
  exact ⟨h0.1, h1.1, by rw [h0.2, h1.2]⟩⟩
theorem a60 : can (hk := hk5) (Cl (dn ag5)) = aL60 := q61 (w := aw60) q63 (by kernel_rfl) (by kernel_rfl) (by kernel_rfl) (by kernel_rfl) (by kernel_rfl) (by kernel_rfl)
theorem a24 : can (hk := hk4) (Cl (dn ag4)) = aL24 := q61 (w := aw24) q65 (by kernel_rfl) (by kernel_rfl) (by kernel_rfl) (by kernel_rfl) (by kernel_rfl) (by kernel_rfl)
theorem a12 : can (hk := hk4) (Dr (Cl (dn ag4))) = aL12 := q62 a24 (by kernel_rfl) (by kernel_rfl) (by kernel_rfl) (by kernel_rfl) (by kernel_rfl)
theorem a4 : can (hk := hk4) (Dr (Dr (Cl (dn ag4)))) = aL4 := q62 a12 (by kernel_rfl) (by kernel_rfl) (by kernel_rfl) (by kernel_rfl) (by kernel_rfl)
theorem a1 : can (hk := hk4) (Dr (Dr (Dr (Cl (dn ag4))))) = aL1 := q62 a4 (by kernel_rfl) (by kernel_rfl) (by kernel_rfl) (by kernel_rfl) (by kernel_rfl)
theorem q67 : ∀ g : Pm 5 hk5, dn ag5 g → Dr (Cl (dn ag5)) g := by
  have key : ∀ (g : Pm 5 hk5) (a b : List Int), inB a aL60 = true → inB b aL60 = true → eqL g.1 (cmC a b) = true → Dr (Cl (dn ag5)) g := fun g a b ha hb h => by
    have ha := q6u ha
    have hb := q6u hb
    rw [← a60] at ha hb
    obtain ⟨pa, ha⟩ := q4x.1 ha
    obtain ⟨pb, hb⟩ := q4x.1 hb
    refine .gen ⟨⟨a, pa⟩, ⟨b, pb⟩, ha, hb, Pm.ext ?_⟩
    rw [q6t h]
    exact (q6z (Pm.mk a pa) (Pm.mk b pb)).symm
  intro g hg
  have hg : g.1 ∈ ag5 := hg
  simp only [ag5, List.mem_cons, List.not_mem_nil, or_false] at hg
  rcases hg with e | e
  · exact key g [0, 1, 4, 2, 3] [4, 3, 0, 2, 1] (by kernel_rfl) (by kernel_rfl) (by rw [e]; kernel_rfl)
  · exact key g [0, 2, 1, 4, 3] [2, 0, 1, 3, 4] (by kernel_rfl) (by kernel_rfl) (by rw [e]; kernel_rfl)
theorem a60d : can (hk := hk5) (Dr (Cl (dn ag5))) = aL60 := by
  rw [← a60]
  exact q41 (fun x => ⟨fun h => Dr.le (Cl.sub _) h, fun h => h.le (Dr.sub _) q67⟩)
theorem q68 {m : Nat} {H : Pm k hk → Prop} (h : (can (Dr H)).length ≠ (can H).length) : ser (m + 1) H = can (Dr H) :: ser m (Dr H) := by
  show (if _ then _ else _) = _
  rw [if_neg h]
theorem q69 {m : Nat} {H : Pm k hk → Prop} (h : (can (Dr H)).length = (can H).length) : ser (m + 1) H = [] := by
  show (if _ then _ else _) = _
  rw [if_pos h]
theorem aser : q6f (hk := hk4) (Cl (dn ag4)) = [aL24, aL12, aL4, aL1] := by
  have l0 : aL24.length = 24 := rfl
  have l1 : aL12.length = 12 := rfl
  have l2 : aL4.length = 4 := rfl
  have l3 : aL1.length = 1 := rfl
  unfold q6f
  have h4 : (can (hk := hk4) (Dr (Dr (Dr (Dr (Cl (dn ag4))))))).length = (can (hk := hk4) (Dr (Dr (Dr (Cl (dn ag4)))))).length := by
    have := Dr.len (hk := hk4) (H := Dr (Dr (Dr (Cl (dn ag4))))) (Dr.sub _)
    have h0 := q5x (hk := hk4) (H := Dr (Dr (Dr (Dr (Cl (dn ag4)))))) (Dr.sub _)
    rw [a1, l3] at this
    rw [a1, l3]; omega
  rw [show (can (hk := hk4) (Cl (dn ag4))).length = 20 + 1 + 1 + 1 + 1 by rw [a24]; rfl]
  rw [q68 (by rw [a12, a24, l0, l1]; decide), q68 (by rw [a4, a12, l1, l2]; decide), q68 (by rw [a1, a4, l2, l3]; decide), q69 h4, a24, a12, a4, a1]
theorem q7a (hn : Fw n) : qea n = some (true, ()) := by
  have c5 := q5g (hk := hk5) hn q64 q63
  have d5 := q6d (hk := hk5) hn (H := Cl (dn ag5)) (Cl.sub _)
  have c4 := q5g (hk := hk4) hn q66 q65
  have s4 := q6i (hk := hk4) hn (H := Cl (dn ag4)) (Cl.sub _)
  have sm := q5h (hk := hk5) hn.fu (Cl (dn ag5))
  rw [a60] at c5 d5 sm
  rw [a60d] at d5
  rw [a24] at c4 s4
  rw [aser] at s4
  unfold ag5 at c5
  unfold ag4 at c4
  have h0 : idx [aL24, aL12, aL4, aL1] 0 = some aL24 := rfl
  have h1 : idx [aL24, aL12, aL4, aL1] 1 = some aL12 := rfl
  have h2 : idx [aL24, aL12, aL4, aL1] 2 = some aL4 := rfl
  have h3 : idx [aL24, aL12, aL4, aL1] 3 = some aL1 := rfl
  have l : aL60.length = 60 := rfl
  have l0 : aL24.length = 24 := rfl
  have l1 : aL12.length = 12 := rfl
  have l2 : aL4.length = 4 := rfl
  have l3 : aL1.length = 1 := rfl
  simp (disch := first | assumption | omega) only [zA, zB, zC, zD, zE, zF, zG, qyc, qx6, qx7, zH, zI, dpos, dneg, zJ, zK, zL, zM, zN, zO, zP, qea, c5, d5, c4, s4, l, sm, h0, h1, h2, h3, l0, l1, l2, l3]
end Go.Proofs.Ytemejeiajekmcaa.V
namespace Go.Proofs.Ytemejeiajekmcaa.V
open Go Classical Grp
set_option linter.unusedVariables false
set_option linter.all false
end Go.Proofs.Ytemejeiajekmcaa.V
namespace Go.Proofs.Ytemejeiajekmcaa.V
open Go Classical Grp
set_option linter.unusedVariables false
set_option linter.all false
variable {n : Nat} {k : Nat} {hk : 1 ≤ k ∧ k ≤ 7}
theorem q7b {S T : Pm k hk → Prop} (x : Pm k hk) (h : ∀ y, T y ↔ S y ∨ y = x) : (hasT k (upS S)).set (rank x.1) true = hasT k (upS T) := by
  rw [q4j x.2]
  congr 1
  funext q
  apply propext
  constructor
  · rintro (⟨hq, h1⟩ | rfl)
    · exact ⟨hq, (h _).2 (.inl h1)⟩
    · exact ⟨x.2, (h _).2 (.inr rfl)⟩
  · rintro ⟨hq, h1⟩
    rcases (h _).1 h1 with h1 | h1
    · exact .inl ⟨hq, h1⟩
    · exact .inr (congrArg Subtype.val h1)
theorem q7c {S : Pm k hk → Prop} (x : Pm k hk) : idx (hasT k (upS S)) (rank x.1 : Int) = some (decide (S x)) := by
  rw [q4i x.2]
  congr 1
  by_cases c : S x
  · rw [decide_eq_true c]; exact decide_eq_true ⟨x.2, c⟩
  · rw [decide_eq_false c]; exact decide_eq_false (fun ⟨_, h⟩ => c h)
theorem q7d : (· ∈ ([] : List (List Int))) = upS (fun _ : Pm k hk => False) := by
  funext q; apply propext; exact ⟨(fun h => nomatch h), fun ⟨_, h⟩ => h.elim⟩
theorem q7e (hn : Fu n) (hk : 1 ≤ k ∧ k ≤ 7) : qet n (k : Int) [] = some (setT k (upS (fun _ : Pm k hk => False)), ()) := by
  have := q4k hn hk.1 hk.2 (l := []) (by simp) (fun p h => nomatch h)
  rwa [q7d (hk := hk)] at this
end Go.Proofs.Ytemejeiajekmcaa.V
namespace Go.Proofs.Ytemejeiajekmcaa.V
open Go Classical Grp
set_option linter.unusedVariables false
set_option linter.all false
variable {n : Nat} {k : Nat} {hk : 1 ≤ k ∧ k ≤ 7}
def Cm (H : Pm k hk → Prop) : Pm k hk → Prop := fun y => ∃ a b, H a ∧ H b ∧ y = cm a b
def Wd (H : Pm k hk → Prop) : Nat → Pm k hk → Prop
  | 0, x => x = 1
  | m + 1, x => ∃ y c, Wd H m y ∧ Cm H c ∧ x = y * c
def Lv (H : Pm k hk → Prop) (m : Nat) (x : Pm k hk) : Prop := Wd H m x ∧ ∀ j, j < m → ¬ Wd H j x
theorem least {P : Nat → Prop} : ∀ m, P m → ∃ j, j ≤ m ∧ P j ∧ ∀ i, i < j → ¬ P i := by
  intro m
  induction m using Nat.strongRecOn with
  | ind m ih =>
    intro h
    by_cases c : ∃ i, i < m ∧ P i
    · obtain ⟨i, hi, hp⟩ := c
      obtain ⟨j, h1, h2, h3⟩ := ih i hi hp
      exact ⟨j, by omega, h2, h3⟩
    · exact ⟨m, Nat.le_refl _, h, fun i hi hp => c ⟨i, hi, hp⟩⟩
theorem Lv.uniq {H : Pm k hk → Prop} {a b : Nat} {x : Pm k hk} (h1 : Lv H a x) (h2 : Lv H b x) : a = b := by
  rcases Nat.lt_trichotomy a b with h | h | h
  · exact absurd h1.1 (h2.2 a h)
  · exact h
  · exact absurd h2.1 (h1.2 b h)
theorem Lv.zero (H : Pm k hk → Prop) : Lv H 0 (1 : Pm k hk) := ⟨rfl, fun j hj => by omega⟩
theorem Lv.of_zero {H : Pm k hk → Prop} {x : Pm k hk} (h : Lv H 0 x) : x = 1 := h.1
theorem Lv.pred {H : Pm k hk → Prop} {m : Nat} {x : Pm k hk} (h : Lv H (m + 1) x) : ∃ y c, Lv H m y ∧ Cm H c ∧ x = y * c := by
  obtain ⟨⟨y, c, hy, hc, e⟩, hmin⟩ := h
  exact ⟨y, c, ⟨hy, fun j hj hw => hmin (j + 1) (by omega) ⟨y, c, hw, hc, e⟩⟩, hc, e⟩
theorem Lv.next {H : Pm k hk → Prop} {m : Nat} {y c : Pm k hk} (h : Lv H m y) (hc : Cm H c) : ∃ j, j ≤ m + 1 ∧ Lv H j (y * c) := by
  obtain ⟨j, h1, h2, h3⟩ := least (P := fun j => Wd H j (y * c)) (m + 1) ⟨y, c, h.1, hc, rfl⟩
  exact ⟨j, h1, h2, h3⟩
theorem Wd.dr {H : Pm k hk → Prop} : ∀ {m : Nat} {x : Pm k hk}, Wd H m x → Dr H x
  | 0, x, h => by
    have h : x = 1 := h
    rw [h]; exact .one
  | m + 1, x, ⟨y, c, hy, hc, e⟩ => by rw [e]; exact .step (Wd.dr hy) hc
theorem Lv.dr {H : Pm k hk → Prop} {m : Nat} {x : Pm k hk} (h : Lv H m x) : Dr H x := h.1.dr
theorem Dr.lv {H : Pm k hk → Prop} {x : Pm k hk} (h : Dr H x) : ∃ m, Lv H m x := by
  induction h with
  | one => exact ⟨0, Lv.zero H⟩
  | step _ hq ih =>
    obtain ⟨m, hm⟩ := ih
    obtain ⟨j, _, hj⟩ := hm.next hq
    exact ⟨j, hj⟩
theorem q7f {S T : Pm k hk → Prop} (h : ∀ x, S x → T x) {y : Pm k hk} (hy : T y) (hn : ¬ S y) : (can S).length < (can T).length := by
  have hle : (can S).length ≤ (can T).length := qzp can_asc.nodup (fun p hp => by
    obtain ⟨hp, hx⟩ := q4x.1 hp
    exact q4x.2 ⟨hp, h _ hx⟩)
  rcases Nat.lt_or_ge (can S).length (can T).length with g | g
  · exact g
  · exact absurd (q6s h (by omega) y hy) hn
theorem q7g (hn : Fu n) {H : Pm k hk → Prop} {now : List (List Int)} {g : List Int} {n8 : Int} {i : Nat} (x : Pm k hk) (ei : idx now (i : Int) = some x.1) {S : Pm k hk → Prop} {next : List (List Int)} (hnd : next.Nodup) (hP : ∀ p ∈ next, PK k p) (hS : ∀ y, dn next y → S y) :
    ∃ S' ext, iterN (qfs n) n (g, can (Cm H), now, n8, (i : Int), 0, setT k (upS S), next, ()) = some (.inl (g, can (Cm H), now, n8, (i : Int), setT k (upS S'), next ++ ext, ())) ∧ (next ++ ext).Nodup ∧ (∀ y, S' y ↔ S y ∨ dn ext y) ∧ (∀ p ∈ ext, ∃ c : Pm k hk, Cm H c ∧ p = (x * c).1 ∧ ¬ S (x * c)) ∧ ∀ c, Cm H c → S' (x * c) := by
  have hcl := q40 (H := Cm H)
  obtain ⟨r, e, S', ext, rfl, q1, q2, q3, q4⟩ := qx2 (f := qfs n) hn
    (fun d => ∃ (j : Nat) (S' : Pm k hk → Prop) (ext : List (List Int)), d = (g, can (Cm H), now, n8, (i : Int), (j : Int), setT k (upS S'), next ++ ext, ()) ∧ j ≤ (can (Cm H)).length ∧ (next ++ ext).Nodup ∧ (∀ y, S' y ↔ S y ∨ dn ext y) ∧ (∀ p ∈ ext, ∃ c : Pm k hk, Cm H c ∧ p = (x * c).1 ∧ ¬ S (x * c)) ∧ ∀ c, dn ((can (Cm H)).take j) c → S' (x * c))
    (fun d => (((can (Cm H)).length : Int) - d.2.2.2.2.2.1).toNat)
    (fun r => ∃ S' ext, r = .inl (g, can (Cm H), now, n8, (i : Int), setT k (upS S'), next ++ ext, ()) ∧ (next ++ ext).Nodup ∧ (∀ y, S' y ↔ S y ∨ dn ext y) ∧ (∀ p ∈ ext, ∃ c : Pm k hk, Cm H c ∧ p = (x * c).1 ∧ ¬ S (x * c)) ∧ ∀ c, dn (can (Cm H)) c → S' (x * c))
    (d := (g, can (Cm H), now, n8, (i : Int), 0, setT k (upS S), next, ()))
    ⟨0, S, [], by rw [List.append_nil]; rfl, Nat.zero_le _, by rw [List.append_nil]; exact hnd, fun y => ⟨.inl, fun h => h.elim id (fun h => nomatch h)⟩, (fun p h => nomatch h), fun c hc => absurd hc (q5w c)⟩ (by simp only; omega) (by
      rintro d ⟨j, S', ext, rfl, h1, h2, h3, h4, h5⟩
      by_cases c1 : j < (can (Cm H)).length
      · obtain ⟨c, ec, hc⟩ := q5u (hk := hk) (q4z (H := Cm H)) c1
        have hcC : Cm H c := q42.1 hc
        have em := q45 hn x c
        have er := q5t hn (x * c)
        have lk := q7c (S := S') (x * c)
        have hP2 : ∀ p ∈ next ++ ext, PK k p := fun p hp => by
          rw [List.mem_append] at hp
          rcases hp with hp | hp
          · exact hP p hp
          · obtain ⟨c, _, e, _⟩ := h4 p hp
            rw [e]; exact (x * c).2
        have hfew := q43 h2 hP2 hk
        rw [List.length_append] at hfew
        by_cases c2 : S' (x * c)
        · rw [decide_eq_true c2] at lk
          refine .inl ⟨(g, can (Cm H), now, n8, (i : Int), ((j + 1 : Nat) : Int), setT k (upS S'), next ++ ext, ()), ?_, ⟨j + 1, S', ext, rfl, c1, h2, h3, h4, fun z hz => ?_⟩, by simp only; omega⟩
          · simp (disch := first | assumption | omega) only [zA, zB, zC, zD, zE, zF, zG, qyc, qx6, qx7, zH, zI, dpos, dneg, zJ, zK, zL, zM, zN, zO, zP, qfs, qfr, qye, ei, ec, em, er, lk, up1]
          · rcases (q5v c1 ec z).1 hz with hz | rfl
            · exact h5 z hz
            · exact c2
        · rw [decide_eq_false c2] at lk
          have es := q7b (S := S') (T := fun y => S' y ∨ y = x * c) (x * c) (fun y => Iff.rfl)
          refine .inl ⟨(g, can (Cm H), now, n8, (i : Int), ((j + 1 : Nat) : Int), setT k (upS (fun y => S' y ∨ y = x * c)), next ++ (ext ++ [(x * c).1]), ()), ?_, ⟨j + 1, _, _, rfl, c1, ?_, fun y => ?_, fun p hp => ?_, fun z hz => ?_⟩, by simp only; omega⟩
          · rw [← List.append_assoc]
            simp (disch := first | assumption | omega) only [zA, zB, zC, zD, zE, zF, zG, qyc, qx6, qx7, zH, zI, dpos, dneg, zJ, zK, zL, zM, zN, zO, zP, qfs, qfr, qye, ei, ec, em, er, lk, es, up1]
          · rw [← List.append_assoc, List.nodup_append]
            refine ⟨h2, by simp, fun a ha b hb e => ?_⟩
            rw [List.mem_singleton] at hb
            subst hb
            subst e
            rw [List.mem_append] at ha
            exact c2 ((h3 _).2 (ha.elim (fun h => .inl (hS _ h)) .inr))
          · rw [h3]
            show (S y ∨ y.1 ∈ ext) ∨ y = x * c ↔ S y ∨ y.1 ∈ ext ++ [(x * c).1]
            rw [List.mem_append, List.mem_singleton, or_assoc]
            exact or_congr Iff.rfl (or_congr Iff.rfl ⟨fun h => by rw [h], fun h => Pm.ext h⟩)
          · rw [List.mem_append, List.mem_singleton] at hp
            rcases hp with hp | rfl
            · exact h4 p hp
            · exact ⟨c, hcC, rfl, fun h => c2 ((h3 _).2 (.inl h))⟩
          · rcases (q5v c1 ec z).1 hz with hz | rfl
            · exact .inl (h5 z hz)
            · exact .inr rfl
      · obtain rfl : j = (can (Cm H)).length := by omega
        rw [List.take_length] at h5
        refine .inr ⟨_, ?_, S', ext, rfl, h2, h3, h4, h5⟩
        simp (disch := first | assumption | omega) only [zA, zB, zC, zD, zE, zF, zG, qyc, qx6, qx7, zH, zI, dpos, dneg, zJ, zK, zL, zM, zN, zO, zP, qfs, qfr])
  exact ⟨S', ext, e, q1, q2, q3, fun c hc => q4 c (q42.2 hc)⟩
def Up (H : Pm k hk → Prop) (m : Nat) (x : Pm k hk) : Prop := ∃ j, j ≤ m ∧ Lv H j x
theorem q7h (hn : Fu n) {H : Pm k hk → Prop} (g : Pm k hk) {n8 : Int} {m : Nat} {now : List (List Int)} (hnP : ∀ p ∈ now, PK k p) (hnl : now.length ≤ 5040) (hnow : ∀ x : Pm k hk, dn now x ↔ Lv H m x) :
    (dn now g ∧ iterN (qfu n) n (g.1, can (Cm H), now, n8, 0, setT k (upS (Up H m)), [], ()) = some (.inl (n8, ()))) ∨
    (¬ dn now g ∧ ∃ next, iterN (qfu n) n (g.1, can (Cm H), now, n8, 0, setT k (upS (Up H m)), [], ()) = some (.inr (.inl (g.1, can (Cm H), n8, setT k (upS (Up H (m + 1))), next, ()))) ∧ next.Nodup ∧ (∀ p ∈ next, PK k p) ∧ ∀ x : Pm k hk, dn next x ↔ Lv H (m + 1) x) := by
  obtain ⟨r, e, hr⟩ := qx2 (f := qfu n) hn
    (fun d => ∃ (i : Nat) (S : Pm k hk → Prop) (next : List (List Int)), d = (g.1, can (Cm H), now, n8, (i : Int), setT k (upS S), next, ()) ∧ i ≤ now.length ∧ next.Nodup ∧ (∀ p ∈ next, upS (hk := hk) (Lv H (m + 1)) p) ∧ (∀ y, S y ↔ Up H m y ∨ dn next y) ∧ (¬ dn (now.take i) g) ∧ ∀ x : Pm k hk, dn (now.take i) x → ∀ c, Cm H c → S (x * c))
    (fun d => ((now.length : Int) - d.2.2.2.2.1).toNat)
    (fun r => (dn now g ∧ r = .inl (n8, ())) ∨ (¬ dn now g ∧ ∃ next, r = .inr (.inl (g.1, can (Cm H), n8, setT k (upS (Up H (m + 1))), next, ())) ∧ next.Nodup ∧ (∀ p ∈ next, PK k p) ∧ ∀ x : Pm k hk, dn next x ↔ Lv H (m + 1) x))
    (d := (g.1, can (Cm H), now, n8, 0, setT k (upS (Up H m)), [], ()))
    ⟨0, Up H m, [], rfl, Nat.zero_le _, by simp, (fun p h => nomatch h), fun y => ⟨.inl, fun h => h.elim id (fun h => nomatch h)⟩, q5w g, fun x hx => absurd hx (q5w x)⟩ (by simp only; omega) (by
      rintro d ⟨i, S, next, rfl, h1, h2, h3, h4, h5, h6⟩
      by_cases c1 : i < now.length
      · obtain ⟨x, ex, hx⟩ := q5u (hk := hk) hnP c1
        have hLx := (hnow x).1 hx
        have ei : idx now (i : Int) = some x.1 := by rw [qye c1, ex]
        have sd := q6n hn x.1 g.1 (by have := x.2.2; omega)
        by_cases c2 : x = g
        · rw [decide_eq_true (Pm.dec_eq.2 c2)] at sd
          refine .inr ⟨.inl (n8, ()), ?_, .inl ⟨by rw [← c2]; exact hx, rfl⟩⟩
          simp (disch := first | assumption | omega) only [zA, zB, zC, zD, zE, zF, zG, qyc, qx6, qx7, zH, zI, dpos, dneg, zJ, zK, zL, zM, zN, zO, zP, qfu, qft, ei, sd]
        · rw [decide_eq_false (fun h => c2 (Pm.dec_eq.1 h))] at sd
          obtain ⟨S', ext, e, r1, r2, r3, r4⟩ := q7g hn (now := now) (g := g.1) (n8 := n8) x ei (H := H) (S := S) h2 (fun p hp => (h3 p hp).1) (fun y hy => (h4 y).2 (.inr hy))
          refine .inl ⟨(g.1, can (Cm H), now, n8, ((i + 1 : Nat) : Int), setT k (upS S'), next ++ ext, ()), ?_, ⟨i + 1, S', next ++ ext, rfl, c1, r1, fun p hp => ?_, fun y => ?_, fun h => ?_, fun z hz c hc => ?_⟩, by simp only; omega⟩
          · simp (disch := first | assumption | omega) only [zA, zB, zC, zD, zE, zF, zG, qyc, qx6, qx7, zH, zI, dpos, dneg, zJ, zK, zL, zM, zN, zO, zP, qfu, qft, ei, sd, e, up1]
          · rw [List.mem_append] at hp
            rcases hp with hp | hp
            · exact h3 p hp
            · obtain ⟨c, hc, rfl, hno⟩ := r3 p hp
              refine ⟨(x * c).2, ?_⟩
              obtain ⟨j, hj, hlj⟩ := hLx.next hc
              by_cases ej : j = m + 1
              · rw [← ej]; exact hlj
              · exact absurd ((h4 _).2 (.inl ⟨j, by omega, hlj⟩)) hno
          · rw [r2, h4]
            show (Up H m y ∨ y.1 ∈ next) ∨ y.1 ∈ ext ↔ Up H m y ∨ y.1 ∈ next ++ ext
            rw [List.mem_append, or_assoc]
          · rcases (q5v c1 ex g).1 h with h | h
            · exact h5 h
            · exact c2 h.symm
          · rcases (q5v c1 ex z).1 hz with hz | rfl
            · exact (r2 _).2 (.inl (h6 z hz c hc))
            · exact r4 c hc
      · obtain rfl : i = now.length := by omega
        rw [List.take_length] at h5 h6
        have key : ∀ y : Pm k hk, dn next y ↔ Lv H (m + 1) y := fun y => by
          constructor
          · intro hy
            obtain ⟨_, h⟩ := h3 y.1 hy
            exact h
          · intro hy
            obtain ⟨x, c, hx, hc, e⟩ := hy.pred
            rcases (h4 _).1 (h6 x ((hnow x).2 hx) c hc) with h | h
            · obtain ⟨j, hj, hl⟩ := h
              rw [← e] at hl
              have := hl.uniq hy; omega
            · rw [e]; exact h
        have e2 : S = Up H (m + 1) := funext fun y => propext (by
          rw [h4, key]
          constructor
          · rintro (⟨j, hj, h⟩ | h)
            · exact ⟨j, by omega, h⟩
            · exact ⟨m + 1, Nat.le_refl _, h⟩
          · rintro ⟨j, hj, h⟩
            by_cases ej : j = m + 1
            · rw [ej] at h; exact .inr h
            · exact .inl ⟨j, by omega, h⟩)
        refine .inr ⟨_, ?_, .inr ⟨h5, next, rfl, h2, fun p hp => (h3 p hp).1, key⟩⟩
        rw [← e2]
        simp (disch := first | assumption | omega) only [zA, zB, zC, zD, zE, zF, zG, qyc, qx6, qx7, zH, zI, dpos, dneg, zJ, zK, zL, zM, zN, zO, zP, qfu, qft])
  rcases hr with ⟨h, rfl⟩ | ⟨h, next, rfl, q⟩
  · exact .inl ⟨h, e⟩
  · exact .inr ⟨h, next, e, q⟩
theorem q7i (hn : Fu n) {H : Pm k hk → Prop} (hH : Sub H) (g : Pm k hk) : ∃ r : Int, qfx n (can H) g.1 = some (r, ()) ∧ ((∃ m : Nat, r = (m : Int) ∧ Lv H m g) ∨ (r = -1 ∧ ¬ Dr H g)) := by
  have ec := q6k hn hH
  have el : ((g.1.length : Nat) : Int) = (k : Int) := by rw [g.2.2]
  have es := q7e hn hk
  have eid := qy8 hn k (by have := hk.2; omega)
  have lk := q7c (S := fun _ : Pm k hk => False) (1 : Pm k hk)
  have ep := q7b (S := fun _ : Pm k hk => False) (T := Up H 0) (1 : Pm k hk) (fun y => by
    constructor
    · rintro ⟨j, hj, h⟩
      obtain rfl : j = 0 := by omega
      exact .inr h.of_zero
    · rintro (h | rfl)
      · exact h.elim
      · exact ⟨0, Nat.le_refl _, Lv.zero H⟩)
  rw [show rank (1 : Pm k hk).1 = 0 from q49] at lk ep
  have lk : idx (hasT k (upS (fun _ : Pm k hk => False))) 0 = some false := by
    have : ((0 : Nat) : Int) = 0 := rfl
    rw [← this, lk]; simp
  obtain ⟨r, e, hr⟩ := q4o (f := qfw n) hn
    (fun (m : Nat) d => ∃ now, d = (g.1, can (Cm H), now, (m : Int), setT k (upS (Up H m)), ()) ∧ now.Nodup ∧ (∀ p ∈ now, PK k p) ∧ (∀ x : Pm k hk, dn now x ↔ Lv H m x) ∧ (∀ j, j < m → ¬ Lv H j g) ∧ m ≤ (can (fun x => ∃ j, j < m ∧ Lv H j x)).length)
    (fun m => 5041 - (can (fun x => ∃ j, j < m ∧ Lv H j x)).length)
    (fun r => ∃ r' : Int, (r = .inl (r', ()) ∧ ∃ m : Nat, r' = (m : Int) ∧ Lv H m g) ∨ (r = .inr (.inl ()) ∧ ¬ Dr H g))
    0 (d := (g.1, can (Cm H), [idP k], 0, setT k (upS (Up H 0)), ()))
    ⟨[idP k], rfl, by simp, fun p hp => by rw [List.mem_singleton] at hp; subst hp; exact (1 : Pm k hk).2, fun x => by
      unfold dn
      rw [List.mem_singleton]
      exact ⟨fun h => by
        have : x = 1 := Pm.ext h
        rw [this]; exact Lv.zero H, fun h => by rw [h.of_zero]; rfl⟩, fun j hj => by omega, Nat.zero_le _⟩ (by show 5041 - _ < _; omega) (by
      rintro m d ⟨now, rfl, h1, h2, h3, h4, h5⟩
      have hnl := q43 h1 h2 hk
      have hc1 := q40 (H := fun x : Pm k hk => ∃ j, j < m ∧ Lv H j x)
      have hc2 := q40 (H := fun x : Pm k hk => ∃ j, j < m + 1 ∧ Lv H j x)
      by_cases c : 0 < now.length
      · rcases q7h hn g (n8 := (m : Int)) h2 hnl h3 with ⟨hg, e⟩ | ⟨hg, next, e, q1, q2, q3⟩
        · refine .inr ⟨.inl ((m : Int), ()), ?_, (m : Int), .inl ⟨rfl, m, rfl, (h3 g).1 hg⟩⟩
          simp (disch := first | assumption | omega) only [zA, zB, zC, zD, zE, zF, zG, qyc, qx6, qx7, zH, zI, dpos, dneg, zJ, zK, zL, zM, zN, zO, zP, qfw, qfv, e]
        · obtain ⟨x, ex, hx⟩ := q5u (hk := hk) h2 c
          have hLx := (h3 x).1 hx
          have hlt := q7f (S := fun x : Pm k hk => ∃ j, j < m ∧ Lv H j x) (T := fun x => ∃ j, j < m + 1 ∧ Lv H j x) (fun y ⟨j, hj, h⟩ => ⟨j, by omega, h⟩) (y := x) ⟨m, by omega, hLx⟩ (fun ⟨j, hj, h⟩ => by have := h.uniq hLx; omega)
          refine .inl ⟨(g.1, can (Cm H), next, ((m + 1 : Nat) : Int), setT k (upS (Up H (m + 1))), ()), m + 1, ?_, ⟨next, rfl, q1, q2, q3, fun j hj h => ?_, by omega⟩, by omega⟩
          · simp (disch := first | assumption | omega) only [zA, zB, zC, zD, zE, zF, zG, qyc, qx6, qx7, zH, zI, dpos, dneg, zJ, zK, zL, zM, zN, zO, zP, qfw, qfv, e, up1]
          · by_cases ej : j = m
            · subst ej; exact hg ((h3 g).2 h)
            · exact h4 j (by omega) h
      · have hemp : now = [] := List.length_eq_zero_iff.1 (by omega)
        subst hemp
        refine .inr ⟨.inr (.inl ()), ?_, 0, .inr ⟨rfl, fun hd => ?_⟩⟩
        · simp (disch := first | assumption | omega) only [zA, zB, zC, zD, zE, zF, zG, qyc, qx6, qx7, zH, zI, dpos, dneg, zJ, zK, zL, zM, zN, zO, zP, qfw, qfv]
        · obtain ⟨j, hj⟩ := Dr.lv hd
          have hno : ∀ y : Pm k hk, ¬ Lv H m y := fun y hy => List.not_mem_nil ((h3 y).2 hy)
          have down : ∀ j, m ≤ j → ∀ y : Pm k hk, ¬ Lv H j y := by
            intro j hmj
            induction hmj with
            | refl => exact hno
            | step _ ih =>
              intro y hy
              obtain ⟨z, c, hz, _⟩ := hy.pred
              exact ih z hz
          rcases Nat.lt_or_ge j m with h | h
          · exact h4 j h hj
          · exact down j h g hj)
  rcases hr with ⟨r', ⟨rfl, h⟩ | ⟨rfl, h⟩⟩
  · refine ⟨r', ?_, .inl h⟩
    change qfk n (can H) = some (can (Cm H), ()) at ec
    simp (disch := first | assumption | omega) only [zA, zB, zC, zD, zE, zF, zG, qyc, qx6, qx7, zH, zI, dpos, dneg, zJ, zK, zL, zM, zN, zO, zP, qfx, ec, el, es, eid, lk, ep, e]
  · refine ⟨-1, ?_, .inr ⟨rfl, h⟩⟩
    change qfk n (can H) = some (can (Cm H), ()) at ec
    simp (disch := first | assumption | omega) only [zA, zB, zC, zD, zE, zF, zG, qyc, qx6, qx7, zH, zI, dpos, dneg, zJ, zK, zL, zM, zN, zO, zP, qfx, ec, el, es, eid, lk, ep, e]
end Go.Proofs.Ytemejeiajekmcaa.V
namespace Go.Proofs.Ytemejeiajekmcaa.V
open Go Classical Grp
set_option linter.unusedVariables false
set_option linter.all false
variable {n : Nat} {k : Nat} {hk : 1 ≤ k ∧ k ≤ 7}
abbrev K7 : Ty := .arr 7 (.int .i8)
def KL {β : Type} (m : List (List Int × β)) : Prop := ∀ x ∈ m, x.1.length = 7
theorem KL.put {β : Type} : ∀ {m : List (List Int × β)} {q : List Int} {z : β}, KL m → q.length = 7 → KL (mput K7 m q z)
  | [], q, z, _, hq, x, hx => by
    simp only [mput, List.mem_singleton] at hx
    subst hx; exact hq
  | y :: m, q, z, h, hq, x, hx => by
    simp only [mput] at hx
    cases he : eqV K7 q y.1 with
    | true =>
      rw [he] at hx
      simp only [cond_true, List.mem_cons] at hx
      rcases hx with rfl | hx
      · exact hq
      · exact h x (by simp [hx])
    | false =>
      rw [he] at hx
      simp only [cond_false, List.mem_cons] at hx
      rcases hx with rfl | hx
      · exact h _ (by simp)
      · exact KL.put (fun w hw => h w (by simp [hw])) hq x hx
theorem eqk {a b : List Int} (ha : a.length = 7) (hb : b.length = 7) : (eqV K7 a b = true ↔ a = b) := qzg (by rw [ha, hb])
theorem q7j {β : Type} : ∀ {m : List (List Int × β)} {q : List Int} {z : β}, KL m → q.length = 7 → mget K7 (mput K7 m q z) q = some z
  | [], q, z, _, hq => by simp only [mput, mget, (eqk hq hq).2 rfl, cond_true]
  | y :: m, q, z, h, hq => by
    simp only [mput]
    cases he : eqV K7 q y.1 with
    | true => simp only [cond_true, mget, (eqk hq hq).2 rfl]
    | false =>
      simp only [cond_false, mget, he]
      exact q7j (fun w hw => h w (by simp [hw])) hq
theorem q7k {β : Type} : ∀ {m : List (List Int × β)} {q q' : List Int} {z : β}, KL m → q.length = 7 → q'.length = 7 → q ≠ q' → mget K7 (mput K7 m q z) q' = mget K7 m q'
  | [], q, q', z, _, hq, hq', hne => by
    have : eqV K7 q' q = false := by
      cases h : eqV K7 q' q with
      | false => rfl
      | true => exact absurd ((eqk hq' hq).1 h).symm hne
    simp only [mput, mget, this, cond_false]
  | y :: m, q, q', z, h, hq, hq', hne => by
    have hy := h y (by simp)
    have hf : eqV K7 q' q = false := by
      cases h : eqV K7 q' q with
      | false => rfl
      | true => exact absurd ((eqk hq' hq).1 h).symm hne
    simp only [mput]
    cases he : eqV K7 q y.1 with
    | true =>
      have e := (eqk hq hy).1 he
      rw [e] at hf
      simp only [cond_true, mget]
      rw [e, hf]
      rfl
    | false =>
      simp only [cond_false, mget]
      rw [q7k (fun w hw => h w (by simp [hw])) hq hq' hne]
structure PI (H : Pm k hk → Prop) (S : Pm k hk → Prop) (m : List (List Int × List (List Int))) (all : List (List Int)) : Prop where
  kl : KL m
  nd : all.Nodup
  pk : ∀ p ∈ all, PK k p
  mem : ∀ x : Pm k hk, dn all x ↔ S x
  yes : ∀ x : Pm k hk, S x → ∃ a b : Pm k hk, H a ∧ H b ∧ x = cm a b ∧ mget K7 m (keyP x.1) = some [a.1, b.1]
  no : ∀ x : Pm k hk, ¬ S x → mget K7 m (keyP x.1) = none
theorem q7l (hn : Fu n) {H : Pm k hk → Prop} {g : List Int} {t : List (List Int)} {a b : Int} (x : Pm k hk) (hx : H x) {S : Pm k hk → Prop} {m : List (List Int × List (List Int))} {all : List (List Int)} (h : PI H S m all) :
    ∃ m' all', iterN (qf8 n) n (can H, g, x.1, t, a, b, can H, ((can H).length : Int), 0, some m, all, ()) = some (.inl (can H, g, t, a, b, some m', all', ())) ∧ PI H (fun y => S y ∨ ∃ z, H z ∧ y = cm x z) m' all' := by
  have hl := q40 (H := H)
  obtain ⟨r, e, m', all', rfl, q⟩ := qx2 (f := qf8 n) hn
    (fun d => ∃ (j : Nat) (m' : List (List Int × List (List Int))) (all' : List (List Int)), d = (can H, g, x.1, t, a, b, can H, ((can H).length : Int), (j : Int), some m', all', ()) ∧ j ≤ (can H).length ∧ PI H (fun y => S y ∨ ∃ z, dn ((can H).take j) z ∧ y = cm x z) m' all')
    (fun d => (((can H).length : Int) - d.2.2.2.2.2.2.2.2.1).toNat)
    (fun r => ∃ m' all', r = .inl (can H, g, t, a, b, some m', all', ()) ∧ PI H (fun y => S y ∨ ∃ z, H z ∧ y = cm x z) m' all')
    (d := (can H, g, x.1, t, a, b, can H, ((can H).length : Int), 0, some m, all, ()))
    ⟨0, m, all, rfl, Nat.zero_le _, by
      have : (fun y => S y ∨ ∃ z, dn ((can H).take 0) z ∧ y = cm x z) = S := funext fun y => propext ⟨fun h => h.elim id (fun ⟨z, hz, _⟩ => absurd hz (q5w z)), .inl⟩
      rw [this]; exact h⟩ (by simp only; omega) (by
      rintro d ⟨j, m', all', rfl, h1, h2⟩
      by_cases c : j < (can H).length
      · obtain ⟨y, ey, hy⟩ := q5u (hk := hk) (q4z (H := H)) c
        have hHy : H y := q42.1 hy
        have ec := q5q hn x y
        have ek := q56 hn (cm x y)
        have hfew := q43 h2.nd h2.pk hk
        have hstep : ∀ z, (S z ∨ ∃ w, dn ((can H).take (j + 1)) w ∧ z = cm x w) ↔ (S z ∨ ∃ w, dn ((can H).take j) w ∧ z = cm x w) ∨ z = cm x y := fun z => by
          constructor
          · rintro (h | ⟨w, hw, rfl⟩)
            · exact .inl (.inl h)
            · rcases (q5v c ey w).1 hw with hw | rfl
              · exact .inl (.inr ⟨w, hw, rfl⟩)
              · exact .inr rfl
          · rintro ((h | ⟨w, hw, rfl⟩) | rfl)
            · exact .inl h
            · exact .inr ⟨w, (q5v c ey w).2 (.inl hw), rfl⟩
            · exact .inr ⟨y, (q5v c ey y).2 (.inr rfl), rfl⟩
        have ei : idx (can H) (j : Int) = some y.1 := by rw [qye c, ey]
        by_cases c2 : S (cm x y) ∨ ∃ z, dn ((can H).take j) z ∧ cm x y = cm x z
        · obtain ⟨a1, b1, ha1, hb1, _, eg⟩ := h2.yes _ c2
          have en : nes a1.1 = some () := by
            have hl1 := a1.2.2
            have hk1 := hk.1
            cases h : a1.1 with
            | nil => rw [h] at hl1; simp at hl1; omega
            | cons => rfl
          have eo : ((some m').bind fun l => mget K7 l (keyP (cm x y).1)) = some [a1.1, b1.1] := eg
          have ex0 : idx [a1.1, b1.1] 0 = some a1.1 := rfl
          refine .inl ⟨(can H, g, x.1, t, a, b, can H, ((can H).length : Int), ((j + 1 : Nat) : Int), some m', all', ()), ?_, ⟨j + 1, m', all', rfl, c, ?_⟩, by simp only; omega⟩
          · simp (disch := first | assumption | omega) only [zA, zB, zC, zD, zE, zF, zG, qyc, qx6, qx7, zH, zI, dpos, dneg, zJ, zK, zL, zM, zN, zO, zP, qf8, qf7, ei, ec, ek, eo, oel, ex0, en, up1]
          · have : (fun z => S z ∨ ∃ w, dn ((can H).take (j + 1)) w ∧ z = cm x w) = fun z => S z ∨ ∃ w, dn ((can H).take j) w ∧ z = cm x w := funext fun z => propext (by
              rw [hstep z]
              exact ⟨fun h => h.elim id (fun e => by rw [e]; exact c2), .inl⟩)
            rw [this]; exact h2
        · have eo : ((some m').bind fun l => mget K7 l (keyP (cm x y).1)) = none := h2.no _ c2
          have hk7 := qzh (cm x y).1
          refine .inl ⟨(can H, g, x.1, t, a, b, can H, ((can H).length : Int), ((j + 1 : Nat) : Int), some (mput K7 m' (keyP (cm x y).1) [x.1, y.1]), all' ++ [(cm x y).1], ()), ?_, ⟨j + 1, _, _, rfl, c, ⟨h2.kl.put hk7, ?_, fun p hp => ?_, fun z => ?_, fun z hz => ?_, fun z hz => ?_⟩⟩, by simp only; omega⟩
          · have hl1 : ([(cm x y).1] : List (List Int)).length = 1 := rfl
            simp (disch := first | assumption | omega) only [zA, zB, zC, zD, zE, zF, zG, qyc, qx6, qx7, zH, zI, dpos, dneg, zJ, zK, zL, zM, zN, zO, zP, qf8, qf7, ei, ec, ek, eo, oel, up1]
          · rw [List.nodup_append]
            refine ⟨h2.nd, by simp, fun p hp q hq e => ?_⟩
            rw [List.mem_singleton] at hq
            subst hq; subst e
            exact c2 ((h2.mem (cm x y)).1 hp)
          · rw [List.mem_append, List.mem_singleton] at hp
            rcases hp with hp | rfl
            · exact h2.pk p hp
            · exact (cm x y).2
          · rw [hstep z]
            show z.1 ∈ all' ++ [(cm x y).1] ↔ _
            rw [List.mem_append, List.mem_singleton]
            exact or_congr (h2.mem z) ⟨fun h => Pm.ext h, fun h => by rw [h]⟩
          · by_cases ez : z = cm x y
            · subst ez
              exact ⟨x, y, hx, hHy, rfl, q7j h2.kl hk7⟩
            · rcases (hstep z).1 hz with hz | hz
              · obtain ⟨a1, b1, p1, p2, p3, p4⟩ := h2.yes z hz
                refine ⟨a1, b1, p1, p2, p3, ?_⟩
                rw [q7k h2.kl hk7 (qzh z.1) (fun e => ez (Pm.ext (qzf z.2.1 (cm x y).2.1 e.symm))), p4]
              · exact absurd hz ez
          · have hz' : ¬ ((S z ∨ ∃ w, dn ((can H).take j) w ∧ z = cm x w) ∨ z = cm x y) := fun h => hz ((hstep z).2 h)
            have ez : z ≠ cm x y := fun e => hz' (.inr e)
            rw [q7k h2.kl hk7 (qzh z.1) (fun e => ez (Pm.ext (qzf z.2.1 (cm x y).2.1 e.symm)))]
            exact h2.no z (fun h => hz' (.inl h))
      · obtain rfl : j = (can H).length := by omega
        rw [List.take_length] at h2
        have : (fun z => S z ∨ ∃ w, dn (can H) w ∧ z = cm x w) = fun z => S z ∨ ∃ w, H w ∧ z = cm x w := by
          rw [show (dn (can H) : Pm k hk → Prop) = H from funext fun z => propext q42]
        rw [this] at h2
        refine .inr ⟨_, ?_, m', all', rfl, h2⟩
        simp (disch := first | assumption | omega) only [zA, zB, zC, zD, zE, zF, zG, qyc, qx6, qx7, zH, zI, dpos, dneg, zJ, zK, zL, zM, zN, zO, zP, qf8, qf7])
  exact ⟨m', all', e, q⟩
theorem q7m (hn : Fu n) (H : Pm k hk → Prop) (g : List Int) :
    ∃ m all, iterN (qge n) n (can H, g, can H, ((can H).length : Int), 0, some [], [], ()) = some (.inl (g, some m, all, ())) ∧ PI H (Cm H) m all := by
  have hl := q40 (H := H)
  obtain ⟨r, e, m, all, rfl, q⟩ := qx2 (f := qge n) hn
    (fun d => ∃ (i : Nat) (m : List (List Int × List (List Int))) (all : List (List Int)), d = (can H, g, can H, ((can H).length : Int), (i : Int), some m, all, ()) ∧ i ≤ (can H).length ∧ PI H (fun y => ∃ x z, dn ((can H).take i) x ∧ H z ∧ y = cm x z) m all)
    (fun d => (((can H).length : Int) - d.2.2.2.2.1).toNat)
    (fun r => ∃ m all, r = .inl (g, some m, all, ()) ∧ PI H (Cm H) m all)
    (d := (can H, g, can H, ((can H).length : Int), 0, some [], [], ()))
    ⟨0, [], [], rfl, Nat.zero_le _, ⟨(fun x hx => nomatch hx), by simp, (fun p hp => nomatch hp), fun x => ⟨(fun h => nomatch h), fun ⟨a, _, ha, _⟩ => absurd ha (q5w a)⟩, fun x ⟨a, _, ha, _⟩ => absurd ha (q5w a), fun _ _ => rfl⟩⟩ (by simp only; omega) (by
      rintro d ⟨i, m, all, rfl, h1, h2⟩
      by_cases c : i < (can H).length
      · obtain ⟨x, ex, hx⟩ := q5u (hk := hk) (q4z (H := H)) c
        obtain ⟨m', all', e, q⟩ := q7l hn (g := g) (t := can H) (a := ((can H).length : Int)) (b := (i : Int)) x (q42.1 hx) h2
        refine .inl ⟨(can H, g, can H, ((can H).length : Int), ((i + 1 : Nat) : Int), some m', all', ()), ?_, ⟨i + 1, m', all', rfl, c, ?_⟩, by simp only; omega⟩
        · simp (disch := first | assumption | omega) only [zA, zB, zC, zD, zE, zF, zG, qyc, qx6, qx7, zH, zI, dpos, dneg, zJ, zK, zL, zM, zN, zO, zP, qge, qgd, qye, ex, e, up1]
        · have : (fun y => ∃ x z, dn ((can H).take (i + 1)) x ∧ H z ∧ y = cm x z) = fun y => (∃ x z, dn ((can H).take i) x ∧ H z ∧ y = cm x z) ∨ ∃ z, H z ∧ y = cm x z := funext fun y => propext (by
            constructor
            · rintro ⟨a, z, ha, hz, rfl⟩
              rcases (q5v c ex a).1 ha with ha | rfl
              · exact .inl ⟨a, z, ha, hz, rfl⟩
              · exact .inr ⟨z, hz, rfl⟩
            · rintro (⟨a, z, ha, hz, rfl⟩ | ⟨z, hz, rfl⟩)
              · exact ⟨a, z, (q5v c ex a).2 (.inl ha), hz, rfl⟩
              · exact ⟨x, z, (q5v c ex x).2 (.inr rfl), hz, rfl⟩)
          rw [this]; exact q
      · obtain rfl : i = (can H).length := by omega
        rw [List.take_length] at h2
        have : (fun y => ∃ x z, dn (can H) x ∧ H z ∧ y = cm x z) = Cm H := by
          rw [show (dn (can H) : Pm k hk → Prop) = H from funext fun z => propext q42]; rfl
        rw [this] at h2
        refine .inr ⟨_, ?_, m, all, rfl, h2⟩
        simp (disch := first | assumption | omega) only [zA, zB, zC, zD, zE, zF, zG, qyc, qx6, qx7, zH, zI, dpos, dneg, zJ, zK, zL, zM, zN, zO, zP, qge, qgd])
  exact ⟨m, all, e, q⟩
abbrev TT (k : Nat) (hk : 1 ≤ k ∧ k ≤ 7) := List (Pm k hk × Nat × Int)
def stp (T : TT k hk) : List (List Int × (Int × Unit)) := T.map fun t => (t.1.1, (t.2.2, ()))
structure J (H : Pm k hk → Prop) (T : TT k hk) : Prop where
  z : ∃ r, T = ((1 : Pm k hk), 0, -1) :: r
  nd : (T.map (·.1)).Nodup
  lv : ∀ t ∈ T, Lv H t.2.1 t.1
  up : T.Pairwise (fun s t => s.2.1 ≤ t.2.1)
  fr : ∀ (j : Nat) (t : Pm k hk × Nat × Int), T[j]? = some t → 0 < j → ∃ (f : Nat) (s : Pm k hk × Nat × Int) (c : Pm k hk), t.2.2 = (f : Int) ∧ f < j ∧ T[f]? = some s ∧ t.2.1 = s.2.1 + 1 ∧ Cm H c ∧ t.1 = s.1 * c
def Ex (H : Pm k hk → Prop) (T : TT k hk) (i : Nat) : Prop := ∀ (j : Nat) (t : Pm k hk × Nat × Int), j < i → T[j]? = some t → ∀ c, Cm H c → t.1 * c ∈ T.map (·.1)
theorem J.full {H : Pm k hk → Prop} {T : TT k hk} (h : J H T) {i : Nat} (hx : Ex H T i) : ∀ m, (∀ (j : Nat) (t : Pm k hk × Nat × Int), i ≤ j → T[j]? = some t → m ≤ t.2.1) → ∀ y, Lv H m y → y ∈ T.map (·.1)
  | 0, _, y, hy => by
    obtain ⟨r, e⟩ := h.z
    rw [hy.of_zero, e]; simp
  | m + 1, hm, y, hy => by
    obtain ⟨z, c, hz, hc, rfl⟩ := hy.pred
    have hzT := h.full hx m (fun j t h1 h2 => by have := hm j t h1 h2; omega) z hz
    obtain ⟨t, ht, e⟩ := List.mem_map.1 hzT
    obtain ⟨j, hj, ej⟩ := List.getElem_of_mem ht
    have ej' : T[j]? = some t := by rw [List.getElem?_eq_getElem hj, ej]
    subst e
    have hl := (h.lv t ht).uniq hz
    rcases Nat.lt_or_ge j i with g | g
    · exact hx j t g ej' c hc
    · have := hm j t g ej'; omega
theorem J.few {H : Pm k hk → Prop} {T : TT k hk} (h : J H T) : T.length ≤ 5040 := by
  have := q43 (l := (T.map (·.1)).map (·.1)) (q07 (fun (a b : Pm k hk) => Pm.ext) h.nd) (fun p hp => by
    obtain ⟨x, _, rfl⟩ := List.mem_map.1 hp
    exact x.2) hk
  simpa using this
theorem J.snoc {H : Pm k hk → Prop} {T : TT k hk} (h : J H T) {i : Nat} {s : Pm k hk × Nat × Int} (hs : T[i]? = some s) {c : Pm k hk} (hc : Cm H c) (hn : s.1 * c ∉ T.map (·.1)) (hl : Lv H (s.2.1 + 1) (s.1 * c)) (hmax : ∀ t ∈ T, t.2.1 ≤ s.2.1 + 1) :
    J H (T ++ [(s.1 * c, s.2.1 + 1, (i : Int))]) := by
  have hi : i < T.length := by
    rcases Nat.lt_or_ge i T.length with g | g
    · exact g
    · rw [List.getElem?_eq_none g] at hs; cases hs
  refine ⟨?_, ?_, fun t ht => ?_, ?_, fun j t hj h0 => ?_⟩
  · obtain ⟨r, e⟩ := h.z
    exact ⟨r ++ [(s.1 * c, s.2.1 + 1, (i : Int))], by rw [e]; rfl⟩
  · rw [List.map_append, List.nodup_append]
    refine ⟨h.nd, by simp, fun a ha b hb e => ?_⟩
    simp only [List.map_cons, List.map_nil, List.mem_singleton] at hb
    subst hb; subst e
    exact hn ha
  · rw [List.mem_append, List.mem_singleton] at ht
    rcases ht with ht | rfl
    · exact h.lv t ht
    · exact hl
  · rw [List.pairwise_append]
    refine ⟨h.up, List.pairwise_singleton _ _, fun a ha b hb => ?_⟩
    rw [List.mem_singleton] at hb
    subst hb
    exact hmax a ha
  · rcases Nat.lt_or_ge j T.length with g | g
    · rw [List.getElem?_append_left g] at hj
      obtain ⟨f, s', c', e1, e2, e3, e4, e5, e6⟩ := h.fr j t hj h0
      exact ⟨f, s', c', e1, e2, by rw [List.getElem?_append_left (by omega)]; exact e3, e4, e5, e6⟩
    · rw [List.getElem?_append_right g] at hj
      have hj0 : j - T.length = 0 := by
        rcases Nat.eq_zero_or_pos (j - T.length) with g2 | g2
        · exact g2
        · rw [List.getElem?_eq_none (by simp only [List.length_cons, List.length_nil]; omega)] at hj; cases hj
      rw [hj0] at hj
      obtain rfl := Option.some.inj hj
      exact ⟨i, s, c, rfl, by omega, by rw [List.getElem?_append_left hi]; exact hs, rfl, hc, rfl⟩
theorem q7n {T : TT k hk} {j : Nat} {t : Pm k hk × Nat × Int} (h : T[j]? = some t) : idx (stp T) (j : Int) = some (t.1.1, (t.2.2, ())) := by
  unfold idx stp
  rw [if_pos (by omega), Int.toNat_natCast, List.getElem?_map, h]; rfl
theorem q7o (T : TT k hk) : (stp T).length = T.length := by unfold stp; simp
theorem q7p (T U : TT k hk) : stp (T ++ U) = stp T ++ stp U := by unfold stp; simp
theorem q7q (hn : Fu n) {H : Pm k hk → Prop} {g : List Int} {pm : Option (List (List Int × List (List Int)))} {all : List (List Int)} (hall : ∀ p ∈ all, PK k p) (hal : all.length ≤ 5040) (hC : ∀ x : Pm k hk, dn all x ↔ Cm H x) {i : Nat} {T : TT k hk} {s : Pm k hk × Nat × Int} (h : J H T) (hs : T[i]? = some s) (hx : Ex H T i) (hmax : ∀ t ∈ T, t.2.1 ≤ s.2.1 + 1) {met : KS} (hm : KSet hk met (fun y => y ∈ T.map (·.1))) :
    ∃ met' U, iterN (qf6 n) n (g, (i : Int), (all.length : Int), 0, pm, all, stp T, some met, ()) = some (.inl (g, (i : Int), pm, all, stp (T ++ U), some met', ())) ∧ J H (T ++ U) ∧ Ex H (T ++ U) (i + 1) ∧ (∀ t ∈ T ++ U, t.2.1 ≤ s.2.1 + 1) ∧ KSet hk met' (fun y => y ∈ (T ++ U).map (·.1)) := by
  have hi : i < T.length := by
    rcases Nat.lt_or_ge i T.length with g | g
    · exact g
    · rw [List.getElem?_eq_none g] at hs; cases hs
  have hlow : ∀ (U : TT k hk), J H (T ++ U) → ∀ (j : Nat) (t : Pm k hk × Nat × Int), i ≤ j → (T ++ U)[j]? = some t → s.2.1 ≤ t.2.1 := fun U hJ j t hij hj => by
    have hs' : (T ++ U)[i]? = some s := by rw [List.getElem?_append_left hi]; exact hs
    by_cases e : i = j
    · subst e; rw [hs'] at hj; obtain rfl := Option.some.inj hj; exact Nat.le_refl _
    · have hjl : j < (T ++ U).length := by
        rcases Nat.lt_or_ge j (T ++ U).length with g | g
        · exact g
        · rw [List.getElem?_eq_none g] at hj; cases hj
      have hil : i < (T ++ U).length := by omega
      have := List.pairwise_iff_getElem.1 hJ.up i j hil hjl (by omega)
      rw [List.getElem?_eq_getElem hjl] at hj
      rw [List.getElem?_eq_getElem hil] at hs'
      rw [Option.some.inj hj, Option.some.inj hs'] at this
      exact this
  have hxU : ∀ (U : TT k hk), Ex H (T ++ U) i := fun U j t hj ht c hc => by
    rw [List.getElem?_append_left (by omega)] at ht
    have := hx j t hj ht c hc
    rw [List.map_append]; exact List.mem_append_left _ this
  obtain ⟨r, e, met', U, rfl, q1, q2, q3, q4⟩ := qx2 (f := qf6 n) hn
    (fun d => ∃ (j : Nat) (met' : KS) (U : TT k hk), d = (g, (i : Int), (all.length : Int), (j : Int), pm, all, stp (T ++ U), some met', ()) ∧ j ≤ all.length ∧ J H (T ++ U) ∧ (∀ t ∈ T ++ U, t.2.1 ≤ s.2.1 + 1) ∧ KSet hk met' (fun y => y ∈ (T ++ U).map (·.1)) ∧ ∀ c, dn (all.take j) c → s.1 * c ∈ (T ++ U).map (·.1))
    (fun d => ((all.length : Int) - d.2.2.2.1).toNat)
    (fun r => ∃ met' U, r = .inl (g, (i : Int), pm, all, stp (T ++ U), some met', ()) ∧ J H (T ++ U) ∧ (∀ t ∈ T ++ U, t.2.1 ≤ s.2.1 + 1) ∧ KSet hk met' (fun y => y ∈ (T ++ U).map (·.1)) ∧ ∀ c, dn all c → s.1 * c ∈ (T ++ U).map (·.1))
    (d := (g, (i : Int), (all.length : Int), 0, pm, all, stp T, some met, ()))
    ⟨0, met, [], by rw [List.append_nil]; rfl, Nat.zero_le _, by rw [List.append_nil]; exact h, by rw [List.append_nil]; exact hmax, by rw [List.append_nil]; exact hm, fun c hc => absurd hc (q5w c)⟩ (by simp only; omega) (by
      rintro d ⟨j, met', U, rfl, h1, h2, h3, h4, h5⟩
      by_cases c1 : j < all.length
      · obtain ⟨c, ec, hc⟩ := q5u (hk := hk) hall c1
        have hCc := (hC c).1 hc
        have ei : idx (stp (T ++ U)) (i : Int) = some (s.1.1, (s.2.2, ())) := q7n (by rw [List.getElem?_append_left hi]; exact hs)
        have em := q44 hn s.1 c
        have ek := q56 hn (s.1 * c)
        have hfew := h2.few
        have hsl := q7o (T ++ U)
        by_cases c2 : s.1 * c ∈ (T ++ U).map (·.1)
        · have elk := h4.look_in c2
          refine .inl ⟨(g, (i : Int), (all.length : Int), ((j + 1 : Nat) : Int), pm, all, stp (T ++ U), some met', ()), ?_, ⟨j + 1, met', U, rfl, c1, h2, h3, h4, fun z hz => ?_⟩, by simp only; omega⟩
          · simp (disch := first | assumption | omega) only [zA, zB, zC, zD, zE, zF, zG, qyc, qx6, qx7, zH, zI, dpos, dneg, zJ, zK, zL, zM, zN, zO, zP, qf6, qf5, qye, ec, ei, em, ek, elk, up1]
          · rcases (q5v c1 ec z).1 hz with hz | rfl
            · exact h5 z hz
            · exact c2
        · have elk := h4.look_out c2
          have hput := h4.put (s.1 * c)
          obtain ⟨l, hl, hlv⟩ := (h2.lv s (List.mem_append_left _ (List.mem_of_getElem? hs))).next hCc
          have hl1 : l = s.2.1 + 1 := by
            rcases Nat.lt_or_ge l (s.2.1 + 1) with g | g
            · exact absurd (h2.full (hxU U) l (fun j t h1 h3 => by have := hlow U h2 j t h1 h3; omega) _ hlv) c2
            · omega
          rw [hl1] at hlv
          have hs' : (T ++ U)[i]? = some s := by rw [List.getElem?_append_left hi]; exact hs
          have hJ := h2.snoc hs' hCc c2 hlv h3
          have ea : stp (T ++ U) ++ [((s.1 * c).1, ((i : Int), ()))] = stp (T ++ (U ++ [(s.1 * c, s.2.1 + 1, (i : Int))])) := by
            rw [← List.append_assoc, q7p (T ++ U)]; rfl
          refine .inl ⟨(g, (i : Int), (all.length : Int), ((j + 1 : Nat) : Int), pm, all, stp (T ++ (U ++ [(s.1 * c, s.2.1 + 1, (i : Int))])), some (mput (.arr 7 (.int .i8)) met' (keyP (s.1 * c).1) true), ()), ?_, ⟨j + 1, _, _, rfl, c1, by rw [← List.append_assoc]; exact hJ, fun t ht => ?_, ⟨hput.1, fun z => ?_⟩, fun z hz => ?_⟩, by simp only; omega⟩
          · rw [← ea]
            have hl2 : ([((s.1 * c).1, ((i : Int), ()))] : List (List Int × (Int × Unit))).length = 1 := rfl
            simp (disch := first | assumption | omega) only [zA, zB, zC, zD, zE, zF, zG, qyc, qx6, qx7, zH, zI, dpos, dneg, zJ, zK, zL, zM, zN, zO, zP, qf6, qf5, qye, ec, ei, em, ek, elk, up1]
          · rw [← List.append_assoc, List.mem_append, List.mem_singleton] at ht
            rcases ht with ht | rfl
            · exact h3 t ht
            · exact Nat.le_refl _
          · rw [hput.2 z]
            show z ∈ (T ++ U).map (·.1) ∨ z = s.1 * c ↔ z ∈ (T ++ (U ++ [(s.1 * c, s.2.1 + 1, (i : Int))])).map (·.1)
            rw [← List.append_assoc, List.map_append (l₁ := T ++ U), List.mem_append]
            simp only [List.map_cons, List.map_nil, List.mem_singleton]
          · rw [← List.append_assoc, List.map_append (l₁ := T ++ U), List.mem_append]
            rcases (q5v c1 ec z).1 hz with hz | rfl
            · exact .inl (h5 z hz)
            · exact .inr (by simp)
      · obtain rfl : j = all.length := by omega
        rw [List.take_length] at h5
        refine .inr ⟨_, ?_, met', U, rfl, h2, h3, h4, h5⟩
        simp (disch := first | assumption | omega) only [zA, zB, zC, zD, zE, zF, zG, qyc, qx6, qx7, zH, zI, dpos, dneg, zJ, zK, zL, zM, zN, zO, zP, qf6, qf5])
  refine ⟨met', U, e, q1, fun j t hj ht c hc => ?_, q2, q3⟩
  by_cases ej : j = i
  · subst ej
    rw [List.getElem?_append_left hi] at ht
    rw [hs] at ht
    obtain rfl := Option.some.inj ht
    exact q4 c ((hC c).2 hc)
  · exact hxU U j t (by omega) ht c hc
theorem q7r (hn : Fu n) {H : Pm k hk → Prop} (g : Pm k hk) (hg : Dr H g) {pm : Option (List (List Int × List (List Int)))} {all : List (List Int)} (hall : ∀ p ∈ all, PK k p) (hal : all.length ≤ 5040) (hC : ∀ x : Pm k hk, dn all x ↔ Cm H x) {met : KS} (hm : KSet hk met (dn [idP k])) :
    ∃ T : TT k hk, iterN (qgc n) n (g.1, 0, pm, all, [(idP k, (-1, ()))], some met, ()) = some (.inl (g.1, pm, stp T, ())) ∧ J H T ∧ g ∈ T.map (·.1) := by
  have hJ0 : J H ([((1 : Pm k hk), 0, -1)] : TT k hk) := ⟨⟨[], rfl⟩, by simp, fun t ht => by
    rw [List.mem_singleton] at ht; subst ht; exact Lv.zero H, List.pairwise_singleton _ _, fun j t hj h0 => by
    rw [List.getElem?_eq_none (by simp only [List.length_cons, List.length_nil]; omega)] at hj; cases hj⟩
  obtain ⟨r, e, T, rfl, q1, q2⟩ := qx2 (f := qgc n) hn
    (fun d => ∃ (i : Nat) (T : TT k hk) (met : KS), d = (g.1, (i : Int), pm, all, stp T, some met, ()) ∧ i ≤ T.length ∧ J H T ∧ Ex H T i ∧ KSet hk met (fun y => y ∈ T.map (·.1)) ∧ ∀ s, T[i]? = some s → ∀ t ∈ T, t.2.1 ≤ s.2.1 + 1)
    (fun d => 5041 - d.2.1.toNat)
    (fun r => ∃ T : TT k hk, r = .inl (g.1, pm, stp T, ()) ∧ J H T ∧ g ∈ T.map (·.1))
    (d := (g.1, 0, pm, all, [(idP k, (-1, ()))], some met, ()))
    ⟨0, [((1 : Pm k hk), 0, -1)], met, rfl, by simp, hJ0, fun j t hj => by omega, ⟨hm.1, fun x => by
      rw [hm.2 x]
      show x.1 ∈ [idP k] ↔ x ∈ [(1 : Pm k hk)]
      rw [List.mem_singleton, List.mem_singleton]
      exact ⟨fun h => Pm.ext h, fun h => by rw [h]; rfl⟩⟩, fun s hs t ht => by
        rw [List.mem_singleton] at ht; subst ht; exact Nat.zero_le _⟩ (by simp only; omega) (by
      rintro d ⟨i, T, met, rfl, h1, h2, h3, h4, h5⟩
      have ek := q56 hn g
      have hfew := h2.few
      by_cases c1 : g ∈ T.map (·.1)
      · have elk := h4.look_in c1
        refine .inr ⟨.inl (g.1, pm, stp T, ()), ?_, T, rfl, h2, c1⟩
        simp (disch := first | assumption | omega) only [zA, zB, zC, zD, zE, zF, zG, qyc, qx6, qx7, zH, zI, dpos, dneg, zJ, zK, zL, zM, zN, zO, zP, qgc, qgb, ek, elk]
      · have elk := h4.look_out c1
        have hi : i < T.length := by
          rcases Nat.lt_or_ge i T.length with g2 | g2
          · exact g2
          · exfalso
            obtain ⟨m, hlm⟩ := Dr.lv hg
            exact c1 (h2.full h3 m (fun j t hj ht => by
              rw [List.getElem?_eq_none (by omega)] at ht; cases ht) g hlm)
        have hs : T[i]? = some T[i] := List.getElem?_eq_getElem hi
        obtain ⟨met', U, e, r1, r2, r3, r4⟩ := q7q hn (g := g.1) (pm := pm) hall hal hC h2 hs h3 (h5 _ hs) h4
        refine .inl ⟨(g.1, ((i + 1 : Nat) : Int), pm, all, stp (T ++ U), some met', ()), ?_, ⟨i + 1, T ++ U, met', rfl, by rw [List.length_append]; omega, r1, r2, r4, fun s hs' t ht => ?_⟩, by simp only [Int.toNat_natCast]; omega⟩
        · simp (disch := first | assumption | omega) only [zA, zB, zC, zD, zE, zF, zG, qyc, qx6, qx7, zH, zI, dpos, dneg, zJ, zK, zL, zM, zN, zO, zP, qgc, qgb, ek, elk, e, up1]
        · have h6 := r3 t ht
          have hil : i < (T ++ U).length := by rw [List.length_append]; omega
          have hjl : i + 1 < (T ++ U).length := by
            rcases Nat.lt_or_ge (i + 1) (T ++ U).length with g | g
            · exact g
            · rw [List.getElem?_eq_none g] at hs'; cases hs'
          have := List.pairwise_iff_getElem.1 r1.up i (i + 1) hil hjl (by omega)
          rw [List.getElem?_eq_getElem hjl] at hs'
          rw [Option.some.inj hs', List.getElem_append_left hi] at this
          omega)
  exact ⟨T, e, q1, q2⟩
inductive PGood (H : Pm k hk → Prop) : List (List (List Int)) → Pm k hk → Prop where
  | nil : PGood H [] 1
  | snoc {ps : List (List (List Int))} {y a b : Pm k hk} (h : PGood H ps y) (ha : H a) (hb : H b) : PGood H (ps ++ [[a.1, b.1]]) (y * cm a b)
theorem q7s (hn : Fu n) {H : Pm k hk → Prop} {m : List (List Int × List (List Int))} {all : List (List Int)} (hP : PI H (Cm H) m all) {T : TT k hk} (hJ : J H T) {g : Pm k hk} {i l : Nat} (hi : ∃ f, T[i]? = some (g, l, f)) :
    ∃ out, iterN (qga n) n ((i : Int), some m, stp T, [], ()) = some (.inl (out, ())) ∧ out.length = l ∧ PGood H out.reverse g := by
  obtain ⟨r, e, out, rfl, q1, q2⟩ := qx2 (f := qga n) hn
    (fun d => ∃ (j : Nat) (t : Pm k hk × Nat × Int) (out : List (List (List Int))), d = ((j : Int), some m, stp T, out, ()) ∧ T[j]? = some t ∧ out.length + t.2.1 = l ∧ j ≤ i ∧ ∀ ps, PGood H ps t.1 → PGood H (ps ++ out.reverse) g)
    (fun d => d.1.toNat)
    (fun r => ∃ out, r = .inl (out, ()) ∧ out.length = l ∧ PGood H out.reverse g)
    (d := ((i : Int), some m, stp T, [], ()))
    (by
      obtain ⟨f, hf⟩ := hi
      exact ⟨i, _, [], rfl, hf, by simp, Nat.le_refl _, fun ps h => by rw [List.reverse_nil, List.append_nil]; exact h⟩) (by
      obtain ⟨f, hf⟩ := hi
      have : i < T.length := by
        rcases Nat.lt_or_ge i T.length with g | g
        · exact g
        · rw [List.getElem?_eq_none g] at hf; cases hf
      have := hJ.few
      simp only [Int.toNat_natCast]; omega) (by
      rintro d ⟨j, t, out, rfl, h1, h2, h3, h4⟩
      have ei := q7n h1
      have hjl : j < T.length := by
        rcases Nat.lt_or_ge j T.length with g | g
        · exact g
        · rw [List.getElem?_eq_none g] at h1; cases h1
      have hfew := hJ.few
      by_cases c0 : j = 0
      · subst c0
        obtain ⟨r, er⟩ := hJ.z
        rw [er] at h1
        obtain rfl := Option.some.inj h1
        have hz : ¬ (0 : Int) ≤ -1 := by decide
        refine .inr ⟨.inl (out, ()), ?_, out, rfl, by simpa using h2, by simpa using h4 [] .nil⟩
        simp (disch := first | assumption | omega) only [zA, zB, zC, zD, zE, zF, zG, qyc, qx6, qx7, zH, zI, dpos, dneg, zJ, zK, zL, zM, zN, zO, zP, qga, qf9, ei, hz]
      · obtain ⟨f, s, c, e1, e2, e3, e4, e5, e6⟩ := hJ.fr j t h1 (by omega)
        obtain ⟨a, b, ha, hb, hc, eg⟩ := hP.yes c e5
        have ef := q7n e3
        rw [e1] at ei
        have einv := q5o hn s.1
        have em := q44 hn (s.1⁻¹) t.1
        have ec : s.1⁻¹ * t.1 = c := by rw [e6, q0q]
        rw [ec] at em
        have ek := q56 hn c
        have eo : (mget K7 m (keyP c.1)).getD (List.replicate 2 ([] : List Int)) = [a.1, b.1] := by rw [eg]; rfl
        have x0 : idx [a.1, b.1] 0 = some a.1 := rfl
        have x1 : idx [a.1, b.1] 1 = some b.1 := rfl
        have c1 := qzk (n := n) a.1 (by have := a.2.2; omega)
        have c2 := qzk (n := n) b.1 (by have := b.2.2; omega)
        have hl1 : ([[a.1, b.1]] : List (List (List Int))).length = 1 := rfl
        have hll : l ≤ 5040 ∨ True := .inr trivial
        have hol : out.length ≤ 5040 := by
          have hb : ∀ (j : Nat) (t : Pm k hk × Nat × Int), T[j]? = some t → t.2.1 ≤ j := by
            intro j
            induction j using Nat.strongRecOn with
            | ind j ih =>
              intro t ht
              by_cases cj : j = 0
              · subst cj
                obtain ⟨r, er⟩ := hJ.z
                rw [er] at ht
                obtain rfl := Option.some.inj ht
                exact Nat.le_refl _
              · obtain ⟨f, s, c, _, g2, g3, g4, _⟩ := hJ.fr j t ht (by omega)
                have := ih f g2 s g3
                omega
          obtain ⟨f', hf'⟩ := hi
          have := hb i _ hf'
          have hil : i < T.length := by
            rcases Nat.lt_or_ge i T.length with g | g
            · exact g
            · rw [List.getElem?_eq_none g] at hf'; cases hf'
          simp only at this
          omega
        refine .inl ⟨((f : Int), some m, stp T, out ++ [[a.1, b.1]], ()), ?_, ⟨f, s, _, rfl, e3, by rw [List.length_append]; simp only [List.length_cons, List.length_nil]; omega, by omega, fun ps hps => ?_⟩, by simp only [Int.toNat_natCast]; omega⟩
        · have hge : (0 : Int) ≤ (f : Int) := by omega
          simp (disch := first | assumption | omega) only [zA, zB, zC, zD, zE, zF, zG, qyc, qx6, qx7, zH, zI, dpos, dneg, zJ, zK, zL, zM, zN, zO, zP, qga, qf9, ei, ef, einv, em, ek, eo, x0, x1, c1, c2]
        · rw [List.reverse_append, List.reverse_singleton, ← List.append_assoc]
          refine h4 _ ?_
          rw [e6, hc]
          exact .snoc hps ha hb)
  exact ⟨out, e, q1, q2⟩
theorem q7t (hn : Fu n) (l : List (List (List Int))) (hl : l.length ≤ 1000000) : qf4 n l = some ((), (l.reverse, ())) := by
  have key : ∀ (i : Nat), i ≤ l.length → tab l.length (fun j => if j < i ∨ l.length - i ≤ j then l.getD (l.length - 1 - j) [] else l.getD j []) = tab l.length (fun j => if j < i ∨ l.length - i ≤ j then l.getD (l.length - 1 - j) [] else l.getD j []) := fun _ _ => rfl
  have e0 : l = tab l.length (fun j => if j < 0 ∨ l.length - 0 ≤ j then l.getD (l.length - 1 - j) [] else l.getD j []) := by
    have : tab l.length (fun j => l.getD j []) = l := Srt.tab_getD_self
    rw [← this]
    conv => lhs; rw [this]
    rw [this]
    conv => lhs; rw [← this]
    exact qyk (fun j hj => by rw [if_neg (by omega)])
  obtain ⟨r, e, rfl⟩ := qx2 (f := qf3 n) hn
    (fun d => ∃ i : Nat, d = ((i : Int), ((l.length : Int) - 1 - (i : Int)), tab l.length (fun j => if j < i ∨ l.length - i ≤ j then l.getD (l.length - 1 - j) [] else l.getD j []), ()) ∧ 2 * i ≤ l.length + 1)
    (fun d => (d.2.1 + 1 - d.1 + 1).toNat)
    (fun r => r = .inl (l.reverse, ()))
    (d := (0, ((l.length : Int) - 1), l, ()))
    ⟨0, by rw [← e0]; simp, by omega⟩ (by simp only; omega) (by
      rintro d ⟨i, rfl, h1⟩
      by_cases c : (i : Int) < (l.length : Int) - 1 - (i : Int)
      · have hj : ((l.length : Int) - 1 - (i : Int)) = ((l.length - 1 - i : Nat) : Int) := by omega
        rw [hj]
        have w1 : IntKind.i64.wrap (((l.length - 1 - i : Nat) : Int) - 1) = ((l.length - 1 - i - 1 : Nat) : Int) := Srt.dn1 (by omega) (by omega)
        refine .inl ⟨(((i + 1 : Nat) : Int), ((l.length : Int) - 1 - ((i + 1 : Nat) : Int)), tab l.length (fun j => if j < i + 1 ∨ l.length - (i + 1) ≤ j then l.getD (l.length - 1 - j) [] else l.getD j []), ()), ?_, ⟨i + 1, rfl, by omega⟩, by simp only; omega⟩
        have e2 : tab l.length (Srt.swp (fun j => if j < i ∨ l.length - i ≤ j then l.getD (l.length - 1 - j) [] else l.getD j []) i (l.length - 1 - i)) = tab l.length (fun j => if j < i + 1 ∨ l.length - (i + 1) ≤ j then l.getD (l.length - 1 - j) [] else l.getD j []) := qyk (fun j hjl => by
          unfold Srt.swp
          by_cases g1 : j = i
          · subst g1
            rw [if_pos rfl]
            dsimp only
            rw [if_neg (by omega), if_pos (by omega)]
          · rw [if_neg g1]
            by_cases g2 : j = l.length - 1 - i
            · subst g2
              rw [if_pos rfl]
              dsimp only
              rw [if_neg (by omega), if_pos (by omega)]
              congr 1; omega
            · rw [if_neg g2]
              dsimp only
              by_cases g3 : j < i ∨ l.length - i ≤ j
              · rw [if_pos g3, if_pos (by omega)]
              · rw [if_neg g3, if_neg (by omega)])
        have hx : ((l.length : Int) - 1 - ((i + 1 : Nat) : Int)) = ((l.length - 1 - i - 1 : Nat) : Int) := by omega
        rw [hx, ← e2]
        generalize (fun j => if j < i ∨ l.length - i ≤ j then l.getD (l.length - 1 - j) [] else l.getD j []) = F
        simp (disch := first | assumption | omega) only [zA, zB, zC, zD, zE, zF, zG, qyc, qx6, qx7, zH, zI, dpos, dneg, zJ, zK, zL, zM, zN, zO, zP, qf3, qf2, qyn, Srt.idx_set, Srt.set_swp, up1, w1]
      · refine .inr ⟨_, ?_, rfl⟩
        have e2 : tab l.length (fun j => if j < i ∨ l.length - i ≤ j then l.getD (l.length - 1 - j) [] else l.getD j []) = l.reverse := by
          apply List.ext_getElem
          · simp
          · intro j h2 h3
            have hjl : j < l.length := by simpa using h2
            rw [qyh, List.getElem_reverse]
            by_cases g : j < i ∨ l.length - i ≤ j
            · rw [if_pos g, List.getD_eq_getElem?_getD, List.getElem?_eq_getElem (by omega)]; rfl
            · rw [if_neg g, List.getD_eq_getElem?_getD, List.getElem?_eq_getElem hjl]
              have : l.length - 1 - j = j := by omega
              simp only [Option.getD_some]
              congr 1; omega
        rw [e2]
        simp (disch := first | assumption | omega) only [zA, zB, zC, zD, zE, zF, zG, qyc, qx6, qx7, zH, zI, dpos, dneg, zJ, zK, zL, zM, zN, zO, zP, qf3, qf2])
  have w : IntKind.i64.wrap ((l.length : Int) - 1) = (l.length : Int) - 1 := qx5 (by omega) (by omega)
  simp (disch := first | assumption | omega) only [zA, zB, zC, zD, zE, zF, zG, qyc, qx6, qx7, zH, zI, dpos, dneg, zJ, zK, zL, zM, zN, zO, zP, qf4, w, e]
theorem q7u (hn : Fu n) {H : Pm k hk → Prop} {T : TT k hk} (hJ : J H T) (g : Pm k hk) (hg : g ∈ T.map (·.1)) : ∃ i : Nat, qf1 n (stp T) (g.1, ()) = some ((i : Int), ()) ∧ ∃ l f, T[i]? = some (g, l, f) := by
  have hfew := hJ.few
  have hsl := q7o T
  rcases qx0 (f := qf0 n) hn (fun i => (stp T, (g.1, ()), ((stp T).length : Int), (i : Int), ())) T.length (fun i => ∀ t, T[i]? = some t → t.1 ≠ g) (d := (stp T, (g.1, ()), ((stp T).length : Int), 0, ())) (r := .inr (.inl ())) (r' := fun i => .inl ((i : Int), ())) (by omega) rfl (fun i hi _ hp => by
      have ht : T[i]? = some T[i] := List.getElem?_eq_getElem hi
      have ei := q7n ht
      have e := q6o hn T[i].1.1 g.1 (by have := T[i].1.2.2; omega)
      rw [decide_eq_false (fun h => hp _ ht (Pm.ext h))] at e
      simp (disch := first | assumption | omega) only [zA, zB, zC, zD, zE, zF, zG, qyc, qx6, qx7, zH, zI, dpos, dneg, zJ, zK, zL, zM, zN, zO, zP, qf0, qfz, ei, qfy, e, up1]) (fun i hi _ hp => by
      have ht : T[i]? = some T[i] := List.getElem?_eq_getElem hi
      have ei := q7n ht
      have e := q6o hn T[i].1.1 g.1 (by have := T[i].1.2.2; omega)
      have : T[i].1 = g := Classical.byContradiction fun h => hp (fun t h2 => by
        rw [ht] at h2; obtain rfl := Option.some.inj h2; exact h)
      rw [decide_eq_true (by rw [this])] at e
      simp (disch := first | assumption | omega) only [zA, zB, zC, zD, zE, zF, zG, qyc, qx6, qx7, zH, zI, dpos, dneg, zJ, zK, zL, zM, zN, zO, zP, qf0, qfz, ei, qfy, e]) (fun _ => by
      simp (disch := first | assumption | omega) only [zA, zB, zC, zD, zE, zF, zG, qyc, qx6, qx7, zH, zI, dpos, dneg, zJ, zK, zL, zM, zN, zO, zP, qf0, qfz]) with ⟨ha, e⟩ | ⟨i, hi, _, hp, e⟩
  · exfalso
    obtain ⟨t, ht, et⟩ := List.mem_map.1 hg
    obtain ⟨i, hi, ei⟩ := List.getElem_of_mem ht
    exact ha i hi t (by rw [List.getElem?_eq_getElem hi, ei]) et
  · have ht : T[i]? = some T[i] := List.getElem?_eq_getElem hi
    have : T[i].1 = g := Classical.byContradiction fun h => hp (fun t h2 => by
      rw [ht] at h2; obtain rfl := Option.some.inj h2; exact h)
    refine ⟨i, by simp (disch := first | assumption | omega) only [zA, zB, zC, zD, zE, zF, zG, qyc, qx6, qx7, zH, zI, dpos, dneg, zJ, zK, zL, zM, zN, zO, zP, qf1, e], T[i].2.1, T[i].2.2, ?_⟩
    rw [ht, ← this]
theorem q7v (hn : Fw n) {H : Pm k hk → Prop} (hH : Sub H) (g : Pm k hk) (hg : H g) :
    (¬ Dr H g ∧ qgg n (can H) g.1 = some ([], 6, ())) ∨ ∃ m ps, Lv H m g ∧ qgg n (can H) g.1 = some (ps, 0, ()) ∧ ps.length = m ∧ PGood H ps g := by
  have hl := q40 (H := H)
  have ev := q53 hn hH
  have pv := qyu hn.fu g.1
  rw [decide_eq_true g.2.1] at pv
  have e0 : idx (can H) 0 = some (row (can H) 0) := qye (u := 0) (q5x hH)
  have ell : g.1.length = (row (can H) 0).length := by rw [q5y hH]; exact g.2.2
  obtain ⟨m1, s1, h1⟩ := q55 (hk := hk) hn.fu (l := can H) (by omega) q4z
  have lk1 := h1.look_in (x := g) (q42.2 hg)
  have ek := q56 hn.fu g
  have ed := q6b hn hH
  obtain ⟨m2, s2, h2⟩ := q55 (hk := hk) hn.fu (l := can (Dr H)) (by have := q40 (H := Dr H); omega) q4z
  by_cases c : Dr H g
  · have lk2 := h2.look_in (x := g) (q42.2 c)
    obtain ⟨mp, all, e1, hP⟩ := q7m hn.fu H g.1
    have eid := qy9 hn.fu k hk.1 hk.2
    have el : ((g.1.length : Nat) : Int) = (k : Int) := by rw [g.2.2]
    obtain ⟨m3, s3, h3⟩ := q55 (hk := hk) hn.fu (l := [idP k]) (by simp) (fun p hp => by rw [List.mem_singleton] at hp; subst hp; exact (1 : Pm k hk).2)
    obtain ⟨T, e2, hJ, hgT⟩ := q7r hn.fu g c (pm := some mp) hP.pk (q43 hP.nd hP.pk hk) hP.mem h3
    obtain ⟨i, e3, l, f, hi⟩ := q7u hn.fu hJ g hgT
    obtain ⟨out, e4, hol, hgd⟩ := q7s hn.fu hP hJ ⟨f, hi⟩
    have hlv := hJ.lv _ (List.mem_of_getElem? hi)
    have hfew := hJ.few
    have hll : l ≤ 5040 := by
      have hb : ∀ (j : Nat) (t : Pm k hk × Nat × Int), T[j]? = some t → t.2.1 ≤ j := by
        intro j
        induction j using Nat.strongRecOn with
        | ind j ih =>
          intro t ht
          by_cases cj : j = 0
          · subst cj
            obtain ⟨r, er⟩ := hJ.z
            rw [er] at ht
            obtain rfl := Option.some.inj ht
            exact Nat.le_refl _
          · obtain ⟨f, s, c, _, g2, g3, g4, _⟩ := hJ.fr j t ht (by omega)
            have := ih f g2 s g3
            omega
      have h6 := hb i _ hi
      have hil : i < T.length := by
        rcases Nat.lt_or_ge i T.length with g | g
        · exact g
        · rw [List.getElem?_eq_none g] at hi; cases hi
      simp only at h6
      omega
    have er := q7t hn.fu out (by omega)
    refine .inr ⟨l, out.reverse, hlv, ?_, by rw [List.length_reverse, hol], hgd⟩
    have elg : (((row (can H) 0).length : Nat) : Int) = (k : Int) := by rw [q5y hH]
    simp (disch := first | assumption | omega) only [zA, zB, zC, zD, zE, zF, zG, qyc, qx6, qx7, zH, zI, dpos, dneg, zJ, zK, zL, zM, zN, zO, zP, qgg, qgf, ev, pv, e0, ell, s1, ek, lk1, ed, s2, lk2, e1, elg, eid, s3, e2, e3, e4, er]
  · have lk2 := h2.look_out (x := g) (fun h => c (q42.1 h))
    refine .inl ⟨c, ?_⟩
    simp (disch := first | assumption | omega) only [zA, zB, zC, zD, zE, zF, zG, qyc, qx6, qx7, zH, zI, dpos, dneg, zJ, zK, zL, zM, zN, zO, zP, qgg, qgf, ev, pv, e0, ell, s1, ek, lk1, ed, s2, lk2]
theorem q7w (hn : Fw n) {H : Pm k hk → Prop} (hH : Sub H) (g : List Int) (hg : g ∉ can H) : qgg n (can H) g = some ([], if VP g then 2 else 1, ()) := by
  have hl := q40 (H := H)
  have ev := q53 hn hH
  have pv := qyu hn.fu g
  have e0 : idx (can H) 0 = some (row (can H) 0) := qye (u := 0) (q5x hH)
  by_cases c : VP g
  · rw [if_pos c]
    rw [decide_eq_true c] at pv
    by_cases c2 : g.length = (row (can H) 0).length
    · obtain ⟨m1, s1, h1⟩ := q55 (hk := hk) hn.fu (l := can H) (by omega) q4z
      have hgk : PK k g := ⟨c, by rw [c2, q5y hH]⟩
      have lk1 := h1.look_out (x := Pm.mk g hgk) hg
      change (mget (.arr 7 (.int .i8)) m1 (keyP g)).getD false = false at lk1
      have ek := qzc hn.fu c
      simp (disch := first | assumption | omega) only [zA, zB, zC, zD, zE, zF, zG, qyc, qx6, qx7, zH, zI, dpos, dneg, zJ, zK, zL, zM, zN, zO, zP, qgg, qgf, ev, pv, e0, c2, s1, ek, lk1]
    · simp (disch := first | assumption | omega) only [zA, zB, zC, zD, zE, zF, zG, qyc, qx6, qx7, zH, zI, dpos, dneg, zJ, zK, zL, zM, zN, zO, zP, qgg, qgf, ev, pv, e0]
  · rw [if_neg c]
    rw [decide_eq_false c] at pv
    simp (disch := first | assumption | omega) only [zA, zB, zC, zD, zE, zF, zG, qyc, qx6, qx7, zH, zI, dpos, dneg, zJ, zK, zL, zM, zN, zO, zP, qgg, qgf, ev, pv]
end Go.Proofs.Ytemejeiajekmcaa.V
namespace Go.Proofs.Ytemejeiajekmcaa.V
open Go Classical Grp
set_option linter.unusedVariables false
set_option linter.all false
variable {n : Nat} {k : Nat} {hk : 1 ≤ k ∧ k ≤ 7}
end Go.Proofs.Ytemejeiajekmcaa.V
namespace Go.Proofs.Ytemejeiajekmcaa.V
open Go Classical Grp
set_option linter.unusedVariables false
set_option linter.all false
variable {n : Nat} {k : Nat} {hk : 1 ≤ k ∧ k ≤ 7}
end Go.Proofs.Ytemejeiajekmcaa.V
namespace Go.Proofs.Ytemejeiajekmcaa.V
open Go Classical Grp
set_option linter.unusedVariables false
set_option linter.all false
variable {n : Nat} {k : Nat} {hk : 1 ≤ k ∧ k ≤ 7}
theorem PGood.inv_snoc {H : Pm k hk → Prop} {ps : List (List (List Int))} {q : List (List Int)} {x : Pm k hk} (h : PGood H (ps ++ [q]) x) : ∃ y a b, PGood H ps y ∧ H a ∧ H b ∧ q = [a.1, b.1] ∧ x = y * cm a b := by
  generalize hl : ps ++ [q] = l at h
  cases h with
  | nil => simp at hl
  | @snoc ps' y a b h ha hb =>
    obtain ⟨e1, e2⟩ := List.append_inj' hl rfl
    subst e1
    exact ⟨y, a, b, h, ha, hb, by simpa using e2, rfl⟩
theorem PGood.uniq {H : Pm k hk → Prop} {ps : List (List (List Int))} {x y : Pm k hk} (h1 : PGood H ps x) (h2 : PGood H ps y) : x = y := by
  induction h1 generalizing y with
  | nil =>
    generalize hl : ([] : List (List (List Int))) = l at h2
    cases h2 with
    | nil => rfl
    | snoc => simp at hl
  | @snoc ps z a b _ ha hb ih =>
    obtain ⟨z', a', b', g1, _, _, g2, rfl⟩ := h2.inv_snoc
    simp only [List.cons.injEq, and_true] at g2
    have e1 : a = a' := Pm.ext g2.1
    have e2 : b = b' := Pm.ext g2.2
    rw [ih g1, e1, e2]
theorem PGood.pre {H : Pm k hk → Prop} {ps : List (List (List Int))} {x : Pm k hk} (h : PGood H ps x) : ∀ i, i < ps.length → ∃ y a b, PGood H (ps.take i) y ∧ H a ∧ H b ∧ ps[i]? = some [a.1, b.1] ∧ PGood H (ps.take (i + 1)) (y * cm a b) := by
  induction h with
  | nil => intro i hi; simp at hi
  | @snoc ps y a b h ha hb ih =>
    intro i hi
    rw [List.length_append] at hi
    simp only [List.length_cons, List.length_nil] at hi
    by_cases c : i < ps.length
    · obtain ⟨y', a', b', g1, g2, g3, g4, g5⟩ := ih i c
      refine ⟨y', a', b', ?_, g2, g3, ?_, ?_⟩
      · rw [List.take_append_of_le_length (by omega)]; exact g1
      · rw [List.getElem?_append_left c]; exact g4
      · rw [List.take_append_of_le_length (by omega)]; exact g5
    · obtain rfl : i = ps.length := by omega
      refine ⟨y, a, b, ?_, ha, hb, ?_, ?_⟩
      · rw [List.take_append_of_le_length (Nat.le_refl _), List.take_length]; exact h
      · rw [List.getElem?_append_right (Nat.le_refl _), Nat.sub_self]; rfl
      · rw [List.take_of_length_le (by simp)]
        exact .snoc h ha hb
theorem q7x (hn : Fu n) {H : Pm k hk → Prop} {g : Pm k hk} {ps : List (List (List Int))} (hG : PGood H ps g) (hl : ps.length ≤ 1000000) {least : Int} :
    iterN (qgi n) n (g.1, can H, least, ps, idP k, 0, ()) = some (.inr (.inl (g.1, least, ps, g.1, ()))) := by
  have hcl := q40 (H := H)
  obtain ⟨r, e, rfl⟩ := qx2 (f := qgi n) hn
    (fun d => ∃ (i : Nat) (y : Pm k hk), d = (g.1, can H, least, ps, y.1, (i : Int), ()) ∧ i ≤ ps.length ∧ PGood H (ps.take i) y)
    (fun d => ((ps.length : Int) - d.2.2.2.2.2.1).toNat)
    (fun r => r = .inr (.inl (g.1, least, ps, g.1, ())))
    (d := (g.1, can H, least, ps, idP k, 0, ()))
    ⟨0, 1, rfl, Nat.zero_le _, .nil⟩ (by simp only; omega) (by
      rintro d ⟨i, y, rfl, h1, h2⟩
      by_cases c : i < ps.length
      · obtain ⟨y', a, b, g1, ha, hb, g2, g3⟩ := hG.pre i c
        obtain rfl := g1.uniq h2
        have ei : idx ps (i : Int) = some [a.1, b.1] := by unfold idx; rw [if_pos (by omega), Int.toNat_natCast, g2]
        have x0 : idx [a.1, b.1] 0 = some a.1 := rfl
        have x1 : idx [a.1, b.1] 1 = some b.1 := rfl
        have i1 := q6q hn (can H) a.1 (by omega) q6r
        have i2 := q6q hn (can H) b.1 (by omega) q6r
        rw [decide_eq_true (q4y.2 ha)] at i1
        rw [decide_eq_true (q4y.2 hb)] at i2
        have ec := q5s hn a b
        have em := q45 hn y' (cm a b)
        refine .inl ⟨(g.1, can H, least, ps, (y' * cm a b).1, ((i + 1 : Nat) : Int), ()), ?_, ⟨i + 1, y' * cm a b, rfl, c, g3⟩, by simp only; omega⟩
        simp (disch := first | assumption | omega) only [zA, zB, zC, zD, zE, zF, zG, qyc, qx6, qx7, zH, zI, dpos, dneg, zJ, zK, zL, zM, zN, zO, zP, qgi, qgh, ei, x0, x1, i1, i2, ec, em, up1]
      · obtain rfl : i = ps.length := by omega
        rw [List.take_length] at h2
        obtain rfl := h2.uniq hG
        refine .inr ⟨_, ?_, rfl⟩
        simp (disch := first | assumption | omega) only [zA, zB, zC, zD, zE, zF, zG, qyc, qx6, qx7, zH, zI, dpos, dneg, zJ, zK, zL, zM, zN, zO, zP, qgi, qgh])
  exact e
theorem q7y (hn : Fw n) (gens : List (List Int)) (g : List Int) (al : qea n = some (true, ())) : qgj n gens g = some (true, ()) := by
  obtain ⟨l, b, e, hb⟩ := q6l hn.fu gens
  cases b with
  | false => simp (disch := first | assumption | omega) only [zA, zB, zC, zD, zE, zF, zG, qyc, qx6, qx7, zH, zI, dpos, dneg, zJ, zK, zL, zM, zN, zO, zP, qgj, e, al]
  | true =>
    by_cases hg : 100 < g.length
    · simp (disch := first | assumption | omega) only [zA, zB, zC, zD, zE, zF, zG, qyc, qx6, qx7, zH, zI, dpos, dneg, zJ, zK, zL, zM, zN, zO, zP, qgj, e, al]
    obtain ⟨hv, _, hc⟩ := hb rfl
    obtain ⟨k, hk, hG⟩ := hv.pk
    obtain ⟨rfl, _⟩ := hc k hk hG
    have hH := Cl.sub (dn (hk := hk) gens)
    generalize Cl (dn (hk := hk) gens) = H at *
    have hcl := q40 (H := H)
    have v := qyq hn.fu g
    have i1 := q6q hn.fu (can H) g (by omega) q6r
    by_cases c : g ∈ can H
    · obtain ⟨hp, hx⟩ := q4x.1 c
      obtain ⟨x, rfl⟩ : ∃ x : Pm k hk, g = x.1 := ⟨⟨g, hp⟩, rfl⟩
      have hx : H x := hx
      rw [decide_eq_true x.2.1] at v
      rw [decide_eq_true c] at i1
      obtain ⟨r, ed, hr⟩ := q7i hn.fu hH x
      rcases q7v hn hH x hx with ⟨hnd, ep⟩ | ⟨m, ps, hlv, ep, hpl, hgd⟩
      · rcases hr with ⟨m, rfl, hl⟩ | ⟨rfl, _⟩
        · exact absurd hl.dr hnd
        · have z : (-1 : Int) < 0 := by decide
          have z6 : ¬ (6 : Int) = 0 := by decide
          simp (disch := first | assumption | omega) only [zA, zB, zC, zD, zE, zF, zG, qyc, qx6, qx7, zH, zI, dpos, dneg, zJ, zK, zL, zM, zN, zO, zP, qgj, e, v, i1, ed, z, ep, al]
      · rcases hr with ⟨m', rfl, hl⟩ | ⟨rfl, hno⟩
        · obtain rfl := hl.uniq hlv
          have z : ¬ ((m' : Nat) : Int) < 0 := by omega
          have eid := qy8 hn.fu k (by have := hk.2; omega)
          have el : ((x.1.length : Nat) : Int) = (k : Int) := by rw [x.2.2]
          have hm : m' ≤ 1000000 := by
            have : ∀ m (y : Pm k hk), Lv H m y → m ≤ (can (fun z : Pm k hk => ∃ j, j < m ∧ Lv H j z)).length := by
              intro m
              induction m with
              | zero => intro y _; exact Nat.zero_le _
              | succ m ih =>
                intro y hy
                obtain ⟨z, c, hz, _⟩ := hy.pred
                have h1 := ih z hz
                have h2 := q7f (S := fun w : Pm k hk => ∃ j, j < m ∧ Lv H j w) (T := fun w => ∃ j, j < m + 1 ∧ Lv H j w) (fun w ⟨j, hj, h⟩ => ⟨j, by omega, h⟩) (y := z) ⟨m, by omega, hz⟩ (fun ⟨j, hj, h⟩ => by have := h.uniq hz; omega)
                omega
            have h1 := this m' x hl
            have h2 := q40 (H := fun z : Pm k hk => ∃ j, j < m' ∧ Lv H j z)
            omega
          have lp := q7x hn.fu hgd (by omega) (least := ((m' : Nat) : Int))
          have sm := q6n hn.fu x.1 x.1 (by have := x.2.2; omega)
          rw [decide_eq_true rfl] at sm
          simp (disch := first | assumption | omega) only [zA, zB, zC, zD, zE, zF, zG, qyc, qx6, qx7, zH, zI, dpos, dneg, zJ, zK, zL, zM, zN, zO, zP, qgj, e, v, i1, ed, z, ep, eid, el, lp, hpl, sm, al]
        · exact absurd hlv.dr hno
    · rw [decide_eq_false c] at i1
      have ep := q7w hn hH g c
      have z0 : ¬ (0 : Int) < 0 := by decide
      by_cases c2 : VP g
      · rw [decide_eq_true c2] at v
        rw [if_pos c2] at ep
        have z2 : ¬ (2 : Int) = 0 := by decide
        simp (disch := first | assumption | omega) only [zA, zB, zC, zD, zE, zF, zG, qyc, qx6, qx7, zH, zI, dpos, dneg, zJ, zK, zL, zM, zN, zO, zP, qgj, e, v, i1, ep, al]
      · rw [decide_eq_false c2] at v
        rw [if_neg c2] at ep
        have z2 : ¬ (1 : Int) = 0 := by decide
        simp (disch := first | assumption | omega) only [zA, zB, zC, zD, zE, zF, zG, qyc, qx6, qx7, zH, zI, dpos, dneg, zJ, zK, zL, zM, zN, zO, zP, qgj, e, v, ep, al]
theorem q7z (a : List (List Int)) (g : List Int) : ∃ n, qgj n a g = some (true, ()) := q6m fun n hn => q7y hn a g (q7a hn)
end Go.Proofs.Ytemejeiajekmcaa.V
