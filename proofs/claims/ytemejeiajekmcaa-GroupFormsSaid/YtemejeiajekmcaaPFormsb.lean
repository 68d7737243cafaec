/- The law over the models, part 2. -/
import Derived.Test.YtemejeiajekmcaaPFormsa
namespace Go.Proofs.Ytemejeiajekmcaa.V
open Go Classical Grp
set_option linter.unusedVariables false
set_option linter.all false
variable {n : Nat} {k : Nat} {hk : 1 ≤ k ∧ k ≤ 7}
noncomputable def invTo (p : List Int) (i : Nat) : List Int := tab p.length (fun v => if p.idxOf (v : Int) < i then ((p.idxOf (v : Int) : Nat) : Int) else 0)
theorem q57 (p : List Int) : List.replicate p.length (0 : Int) = invTo p 0 := by
  rw [qzh]; exact qzg (fun j hj => (if_neg (by omega)).symm)
theorem q58 {p : List Int} (hp : PK k p) {i v : Nat} (hi : i < k) (h : rd p (i : Int) = (v : Int)) : p.idxOf (v : Int) = i := by
  have hm : (v : Int) ∈ p := by rw [← h, q1d (by rw [hp.2]; exact hi)]; exact List.getElem_mem _
  have h1 := q5h hm
  exact hp.1.inj h1.1 (by rw [hp.2]; exact hi) (by rw [h1.2, h])
theorem q59 {p : List Int} (hp : PK k p) {i v : Nat} (hi : i < k) (h : rd p (i : Int) = (v : Int)) : (invTo p i).set v (i : Int) = invTo p (i + 1) := by
  have e := q58 hp hi h
  unfold invTo
  rw [qzf]
  refine qzg (fun j hj => ?_)
  by_cases c : j = v
  · subst c; rw [if_pos rfl, e, if_pos (by omega)]
  · rw [if_neg c]
    have : p.idxOf (j : Int) ≠ i := fun e2 => by
      have := (q5h (hp.memI (i := j) (by rw [← hp.2]; exact hj))).2
      rw [e2, h] at this; omega
    congr 1; apply propext; omega
theorem q6a {p : List Int} (hp : PK k p) : invTo p p.length = invP p :=
  qzg (fun j hj => if_pos (q5h (hp.memI (i := j) (by rw [← hp.2]; exact hj))).1)
theorem q6b (hn : Fu n) {p : List Int} (hp : PK k p) : qdo n p = some (invP p, ()) := by
  have h7 := hp.bd
  have hl := hp.2
  have g : iterN (qdn n) n (p, (p.length : Int), 0, List.replicate p.length 0, ()) = some (.inl (invP p, ())) := by
    refine qyu hn (fun i => (p, (p.length : Int), (i : Int), invTo p i, ())) p.length (by omega) (by rw [q57]; rfl) (fun i hi => ?_) ?_
    · obtain ⟨v, hv, e⟩ := hp.at (i := i) (by omega)
      have es := q59 hp (by omega) e
      have ei : idx (invTo p i) (v : Int) = some (if p.idxOf (v : Int) < i then ((p.idxOf (v : Int) : Nat) : Int) else 0) := qzj (by omega)
      simp (disch := first | assumption | omega) only [zA, zB, zC, zD, zE, zF, zG, qy8, qy2, qy3, zH, zI, dpos, dneg, zJ, zK, zL, zM, zN, zO, zP, qdn, qdm, qzb, e, ei, es, up1]
    · simp (disch := first | assumption | omega) only [zA, zB, zC, zD, zE, zF, zG, qy8, qy2, qy3, zH, zI, dpos, dneg, zJ, zK, zL, zM, zN, zO, zP, qdn, qdm, q6a hp]
  simp (disch := first | assumption | omega) only [zA, zB, zC, zD, zE, zF, zG, qy8, qy2, qy3, zH, zI, dpos, dneg, zJ, zK, zL, zM, zN, zO, zP, qdo, g]
theorem q6c (hn : Fu n) (x : Pm k hk) : qdo n x.1 = some ((x⁻¹).1, ()) := q6b hn x.2
theorem q6d (hn : Fu n) (x y : Pm k hk) : qdp n x.1 y.1 = some ((cm x y).1, ()) := by
  simp only [qdp, q6c hn, q5v hn, Option.bind_some]; rfl
theorem q6e (hn : Fu n) (p c : Pm k hk) : qdq n p.1 c.1 = some ((cj c p).1, ()) := by
  simp only [qdq, q6c hn, q5v hn, Option.bind_some]; rfl
theorem q6f (hn : Fu n) (x : Pm k hk) : qeq n x.1 = some ((rank x.1 : Int), ()) := q5a hn (by have := x.2.2; omega)
theorem q6g {l : List (List Int)} (h : ∀ p ∈ l, PK k p) {i : Nat} (hi : i < l.length) : ∃ x : Pm k hk, row l i = x.1 ∧ dn l x := ⟨⟨row l i, h _ (qy9 hi)⟩, rfl, qy9 hi⟩
theorem q6h {l : List (List Int)} {i : Nat} (hi : i < l.length) {x : Pm k hk} (hx : row l i = x.1) (y : Pm k hk) : dn (l.take (i + 1)) y ↔ dn (l.take i) y ∨ y = x := by
  have e : l[i]?.toList = [x.1] := by rw [← hx]; unfold row; rw [List.getD_eq_getElem?_getD, List.getElem?_eq_getElem hi]; rfl
  show y.1 ∈ l.take (i + 1) ↔ y.1 ∈ l.take i ∨ _
  rw [List.take_add_one, List.mem_append, e, List.mem_singleton]
  exact or_congr Iff.rfl ⟨fun h => Pm.ext h, fun h => by rw [h]⟩
theorem q6i {l : List (List Int)} (y : Pm k hk) : ¬ dn (l.take 0) y := fun h => by unfold dn at h; simp at h
def IsGrp (l : List (List Int)) : Prop := ∃ (k : Nat) (hk : 1 ≤ k ∧ k ≤ 7) (H : Pm k hk → Prop), Sub H ∧ l = can H
theorem q6j {H : Pm k hk → Prop} (hH : Sub H) : 0 < (can H).length := List.length_pos_of_mem (q5p.2 hH.one)
theorem q6k {H : Pm k hk → Prop} (hH : Sub H) : (row (can H) 0).length = k := (q5q _ (qy9 (q6j hH))).2
theorem Cl.can {H : Pm k hk → Prop} (hH : Sub H) (x : Pm k hk) : Cl (dn (Go.Proofs.Ytemejeiajekmcaa.V.can H)) x ↔ H x := by
  have : (dn (Go.Proofs.Ytemejeiajekmcaa.V.can H) : Pm k hk → Prop) = H := funext fun x => propext q5t
  rw [this]; exact Cl.self hH
theorem q6l {H : Pm k hk → Prop} (hH : Sub H) : GV (can H) := by
  refine ⟨q6j hH, q5r, fun i hi => ?_⟩
  have h0 := q5q _ (qy9 (q6j hH))
  have h1 := q5q _ (qy9 hi)
  exact ⟨h0.1, h1.1, by rw [h0.2, h1.2]⟩
theorem PK.uniq {k k' : Nat} {p : List Int} (h : PK k p) (h' : PK k' p) : k = k' := by rw [← h.2, ← h'.2]
theorem q6m {l : List (List Int)} : Asc l ↔ ∀ i, i < l.length → 0 < i → ltL (row l (i - 1)) (row l i) := by
  have rg : ∀ (i : Nat) (h : i < l.length), row l i = l[i] := fun i h => by unfold row; rw [List.getD_eq_getElem?_getD, List.getElem?_eq_getElem h]; rfl
  constructor
  · intro h i hi h0
    rw [rg i hi, rg (i - 1) (by omega)]
    exact List.pairwise_iff_getElem.1 h (i - 1) i (by omega) hi (by omega)
  · intro h
    refine List.pairwise_iff_getElem.2 (fun i j hi hj hij => ?_)
    rw [← rg i hi, ← rg j hj]
    clear hi
    induction j with
    | zero => omega
    | succ j ih =>
      have := h (j + 1) hj (by omega)
      simp only [Nat.add_sub_cancel] at this
      by_cases e : i = j
      · rw [e]; exact this
      · exact q0t (ih (by omega) (by omega)) this
theorem q6n (hn : Fu n) {l : List (List Int)} (hl : l.length ≤ 1000000000) (hr : ∀ i, i < l.length → (row l i).length ≤ 1000000000) :
    iterN (qdc n) n (l, (l.length : Int), 0, ()) = some (if Asc l then .inr (.inl (l, ())) else .inl (false, ())) := by
  refine (qyv (f := qdc n) hn (fun i => (l, (l.length : Int), (i : Int), ())) l.length (fun i => 0 < i → ltL (row l (i - 1)) (row l i)) (d := (l, (l.length : Int), 0, ())) (r := .inr (.inl (l, ()))) (r' := .inl (false, ())) (by omega) rfl (fun i hi _ hp => ?_) (fun i hi _ hp => ?_) (fun _ => ?_)).trans (by
      congr 1
      by_cases h : Asc l
      · rw [if_pos h, if_pos (fun i hi h0 => q6m.1 h i hi h0)]
      · rw [if_neg h, if_neg (fun h2 => h (q6m.2 h2))])
  · by_cases c : 0 < i
    · have hc := q40 hn (row l (i - 1)) (row l i) (hr _ (by omega))
      rw [q4v (hp c)] at hc
      have z : ¬ (0 : Int) ≤ -1 := by decide
      simp (disch := first | assumption | omega) only [zA, zB, zC, zD, zE, zF, zG, qy8, qy2, qy3, zH, zI, dpos, dneg, zJ, zK, zL, zM, zN, zO, zP, qdc, qdb, Srt.dn1, qza, hc, up1]
    · obtain rfl : i = 0 := by omega
      simp (disch := first | assumption | omega) only [zA, zB, zC, zD, zE, zF, zG, qy8, qy2, qy3, zH, zI, dpos, dneg, zJ, zK, zL, zM, zN, zO, zP, qdc, qdb, up1]
  · have c : 0 < i := Classical.byContradiction fun h => hp (fun h2 => absurd h2 h)
    have hc := q40 hn (row l (i - 1)) (row l i) (hr _ (by omega))
    have hge : 0 ≤ cmpL (row l (i - 1)) (row l i) := by
      have : ¬ cmpL (row l (i - 1)) (row l i) < 0 := fun h => hp (fun _ => q4y.1 h)
      omega
    simp (disch := first | assumption | omega) only [zA, zB, zC, zD, zE, zF, zG, qy8, qy2, qy3, zH, zI, dpos, dneg, zJ, zK, zL, zM, zN, zO, zP, qdc, qdb, Srt.dn1, qza, hc]
  · simp (disch := first | assumption | omega) only [zA, zB, zC, zD, zE, zF, zG, qy8, qy2, qy3, zH, zI, dpos, dneg, zJ, zK, zL, zM, zN, zO, zP, qdc, qdb]
theorem q6o (hn : Fw n) (l : List (List Int)) : ∃ b, qdd n l = some (b, ()) ∧ (b = true ↔ IsGrp l) := by
  have e1 := qzw hn.fu l
  by_cases hv : GV l
  · rw [decide_eq_true hv] at e1
    obtain ⟨k, hk, hG⟩ := hv.pk
    have e2 := q6n hn.fu (l := l) (by have := hv.2.1; omega) (fun i hi => by have := (hG _ (qy9 hi)).2; omega)
    have e3 := q53 (hk := hk) hn hG hv.1 (by have := hv.2.1; omega)
    by_cases ha : Asc l
    · rw [if_pos ha] at e2
      refine ⟨decide (((can (hk := hk) (Cl (dn l))).length : Int) = (l.length : Int)), by simp (disch := first | assumption | omega) only [zA, zB, zC, zD, zE, zF, zG, qy8, qy2, qy3, zH, zI, dpos, dneg, zJ, zK, zL, zM, zN, zO, zP, qdd, e1, e2, e3], ?_⟩
      rw [decide_eq_true_eq]
      constructor
      · intro h
        have hp := q0w ha.nodup (L := can (hk := hk) (Cl (dn l))) (fun p hp => q5o.2 ⟨hG p hp, .gen hp⟩) (by omega)
        refine ⟨k, hk, Cl (dn l), Cl.sub _, ha.ext can_asc (fun p => hp.mem_iff)⟩
      · rintro ⟨k', hk', H, hH, rfl⟩
        have h0 := qy9 (q6j hH)
        obtain rfl := (hG _ h0).uniq (q5q _ h0)
        rw [q5s (Cl.can hH)]
    · rw [if_neg ha] at e2
      refine ⟨false, by simp (disch := first | assumption | omega) only [zA, zB, zC, zD, zE, zF, zG, qy8, qy2, qy3, zH, zI, dpos, dneg, zJ, zK, zL, zM, zN, zO, zP, qdd, e1, e2], (fun h => nomatch h), ?_⟩
      rintro ⟨k', hk', H, hH, rfl⟩
      exact absurd can_asc ha
  · rw [decide_eq_false hv] at e1
    refine ⟨false, by simp (disch := first | assumption | omega) only [zA, zB, zC, zD, zE, zF, zG, qy8, qy2, qy3, zH, zI, dpos, dneg, zJ, zK, zL, zM, zN, zO, zP, qdd, e1], (fun h => nomatch h), ?_⟩
    rintro ⟨k', hk', H, hH, rfl⟩
    exact absurd (q6l hH) hv
theorem q6p (hn : Fw n) {H : Pm k hk → Prop} (hH : Sub H) : qdd n (can H) = some (true, ()) := by
  obtain ⟨b, e, h⟩ := q6o hn (can H)
  rw [h.2 ⟨k, hk, H, hH, rfl⟩] at e
  exact e
theorem q6q (hn : Fw n) {G : List (List Int)} (hG : ∀ g ∈ G, PK k g) (h0 : 0 < G.length) (hGl : G.length ≤ 1000000000) : qdi n G = some ((can (hk := hk) (Cl (dn G)), ()), (G, ())) := by
  have hr0 := hG _ (qy9 h0)
  have e0 : idx G 0 = some (row G 0) := qza (u := 0) h0
  have eid := qz4 hn.fu k hk.1 hk.2
  obtain ⟨met, e1, h1⟩ := Gw.start hn.fu hk
  obtain ⟨r, e2, met', gens', all', rfl, h2⟩ := qyy (f := qdf n) hn.fu
    (fun d => ∃ (i : Nat) (met : Option KS) (gens all : List (List Int)), d = (((), ((), ((), ()))), (G.length : Int), (i : Int), met, gens, all, G, ()) ∧ i ≤ G.length ∧ Gw hk (dn (G.take i)) met gens all)
    (fun d => ((G.length : Int) - d.2.2.1).toNat)
    (fun r => ∃ met' gens' all', r = .inl (met', gens', all', G, ()) ∧ Gw hk (dn G) met' gens' all')
    (d := (((), ((), ((), ()))), (G.length : Int), 0, met, [], [idP k], G, ()))
    ⟨0, met, [], [idP k], rfl, Nat.zero_le _, by
      have : (dn (G.take 0) : Pm k hk → Prop) = fun _ => False := by funext x; apply propext; exact ⟨fun h => q6i x h, fun h => h.elim⟩
      rw [this]; exact h1⟩ (by simp only; omega) (by
      rintro d ⟨i, met, gens, all, rfl, h1, h2⟩
      by_cases c : i < G.length
      · obtain ⟨x, ex, hx⟩ := q6g (hk := hk) hG c
        obtain ⟨met', gens', all', e, q⟩ := q50 hn.fu h2 x
        refine .inl ⟨(((), ((), ((), ()))), (G.length : Int), ((i + 1 : Nat) : Int), met', gens', all', G, ()), ?_, ⟨i + 1, met', gens', all', rfl, c, ?_⟩, by simp only; omega⟩
        · simp (disch := first | assumption | omega) only [zA, zB, zC, zD, zE, zF, zG, qy8, qy2, qy3, zH, zI, dpos, dneg, zJ, zK, zL, zM, zN, zO, zP, qdf, qde, qza, ex, e, up1]
        · have : (dn (G.take (i + 1)) : Pm k hk → Prop) = fun y => dn (G.take i) y ∨ y = x := funext fun y => propext (q6h c ex y)
          rw [this]; exact q
      · obtain rfl : i = G.length := by omega
        rw [List.take_length] at h2
        refine .inr ⟨.inl (met, gens, all, G, ()), ?_, met, gens, all, rfl, h2⟩
        simp (disch := first | assumption | omega) only [zA, zB, zC, zD, zE, zF, zG, qy8, qy2, qy3, zH, zI, dpos, dneg, zJ, zK, zL, zM, zN, zO, zP, qdf, qde])
  have e3 := h2.sorted hn
  have el : (((row G 0).length : Nat) : Int) = (k : Int) := by rw [hr0.2]
  simp (disch := first | assumption | omega) only [zA, zB, zC, zD, zE, zF, zG, qy8, qy2, qy3, zH, zI, dpos, dneg, zJ, zK, zL, zM, zN, zO, zP, qdi, e0, el, qdh, eid, e1, qdg, e2, e3]
def KSet (hk : 1 ≤ k ∧ k ≤ 7) (m : KS) (S : Pm k hk → Prop) : Prop := KOK m ∧ ∀ x : Pm k hk, keyP x.1 ∈ m.map (·.1) ↔ S x
theorem KSet.look {m : KS} {S : Pm k hk → Prop} (h : KSet hk m S) (x : Pm k hk) : (mget (.arr 7 (.int .i8)) m (keyP x.1)).getD false = decide (S x) := by
  rw [q0d h.1 (q0c x.1)]
  by_cases c : S x
  · rw [if_pos ((h.2 x).2 c), decide_eq_true c]; rfl
  · rw [if_neg (fun e => c ((h.2 x).1 e)), decide_eq_false c]; rfl
theorem KSet.nil : KSet hk [] (fun _ => False) := ⟨(fun x hx => nomatch hx), fun x => ⟨(fun h => nomatch h), fun h => h.elim⟩⟩
theorem q6r (hn : Fu n) {l : List (List Int)} (hl : l.length ≤ 1000000000) (h : ∀ p ∈ l, PK k p) : ∃ m, qax n l = some (some m, ()) ∧ KSet hk m (dn l) := by
  obtain ⟨m, e, h1, h2⟩ := q51 hn hl (fun p hp => (h p hp).1)
  exact ⟨m, e, h1, fun x => h2 x.1 x.2.1⟩
theorem q6s (hn : Fu n) (x : Pm k hk) : qau n x.1 = some (keyP x.1, ()) := qz7 hn x.2.1
theorem q6t (hn : Fw n) {H : Pm k hk → Prop} (hH : Sub H) : ∃ out, qdl n (can H) = some (out, ()) ∧ (∀ p ∈ out, PK k p) ∧ (∀ x : Pm k hk, Cl (dn out) x ↔ H x) ∧ (∀ x : Pm k hk, dn out x → H x) ∧ 0 < out.length ∧ out.length ≤ 5041 := by
  have h0 := q6j hH
  have e0 : idx (can H) 0 = some (row (can H) 0) := qza (u := 0) h0
  have el : (((row (can H) 0).length : Nat) : Int) = (k : Int) := by rw [q6k hH]
  have eid := qz4 hn.fu k hk.1 hk.2
  obtain ⟨m0, e1, h1⟩ := q6r (hk := hk) hn.fu (l := [idP k]) (by simp) (fun p hp => by rw [List.mem_singleton] at hp; subst hp; exact (1 : Pm k hk).2)
  have hcl := q5r (H := H)
  obtain ⟨r, e, out, rfl, q1, q2, q3, q4, q5⟩ := qyy (f := qdk n) hn.fu
    (fun d => ∃ (i : Nat) (m : KS) (out : List (List Int)), d = (some m, can H, ((can H).length : Int), (i : Int), out, ()) ∧ i ≤ (can H).length ∧ KSet hk m (Cl (dn out)) ∧ (∀ p ∈ out, PK k p) ∧ (∀ x : Pm k hk, dn out x → H x) ∧ 0 < out.length ∧ out.length ≤ i + 1 ∧ ∀ x : Pm k hk, dn ((can H).take i) x → Cl (dn out) x)
    (fun d => (((can H).length : Int) - d.2.2.2.1).toNat)
    (fun r => ∃ out, r = .inl (out, ()) ∧ (∀ p ∈ out, PK k p) ∧ (∀ x : Pm k hk, Cl (dn out) x ↔ H x) ∧ (∀ x : Pm k hk, dn out x → H x) ∧ 0 < out.length ∧ out.length ≤ 5041)
    (d := (some m0, can H, ((can H).length : Int), 0, [idP k], ()))
    ⟨0, m0, [idP k], rfl, Nat.zero_le _, ⟨h1.1, fun x => by
      rw [h1.2]
      constructor
      · intro h; exact .gen h
      · intro h
        have one : ∀ y : Pm k hk, dn [idP k] y ↔ y = 1 := fun y => by
          unfold dn; rw [List.mem_singleton]; exact ⟨fun h => Pm.ext h, fun h => by rw [h]; rfl⟩
        rw [one]
        induction h with
        | one => rfl
        | step _ hq ih => rw [ih, (one _).1 hq, Grp.mul_one]⟩, fun p hp => by rw [List.mem_singleton] at hp; subst hp; exact (1 : Pm k hk).2, fun x hx => by
        have : x = 1 := Pm.ext (List.mem_singleton.1 hx)
        rw [this]; exact hH.one, by simp, by simp, fun x hx => absurd hx (q6i x)⟩ (by simp only; omega) (by
      rintro d ⟨i, m, out, rfl, p1, p2, p3, p4, p5, p6, p7⟩
      by_cases c : i < (can H).length
      · obtain ⟨x, ex, hx⟩ := q6g (hk := hk) q5q c
        have hHx : H x := q5t.1 hx
        have ek := q6s hn.fu x
        have elk := p2.look x
        by_cases c2 : Cl (dn out) x
        · rw [decide_eq_true c2] at elk
          refine .inl ⟨(some m, can H, ((can H).length : Int), ((i + 1 : Nat) : Int), out, ()), ?_, ⟨i + 1, m, out, rfl, c, p2, p3, p4, p5, by omega, fun y hy => ?_⟩, by simp only; omega⟩
          · simp (disch := first | assumption | omega) only [zA, zB, zC, zD, zE, zF, zG, qy8, qy2, qy3, zH, zI, dpos, dneg, zJ, zK, zL, zM, zN, zO, zP, qdk, qdj, qza, ex, ek, elk, up1]
          · rcases (q6h c ex y).1 hy with h | rfl
            · exact p7 y h
            · exact c2
        · rw [decide_eq_false c2] at elk
          have hP : ∀ p ∈ out ++ [x.1], PK k p := fun p hp => by
            rw [List.mem_append, List.mem_singleton] at hp
            rcases hp with hp | rfl
            · exact p3 p hp
            · exact x.2
          have hlen : (out ++ [x.1]).length = out.length + 1 := by simp
          have ec := q6q (hk := hk) hn hP (by omega) (by omega)
          obtain ⟨m', em, hm⟩ := q6r (hk := hk) hn.fu (l := can (hk := hk) (Cl (dn (out ++ [x.1])))) (by have := q5r (H := Cl (dn (hk := hk) (out ++ [x.1]))); omega) q5q
          have hl1 : ([x.1] : List (List Int)).length = 1 := rfl
          refine .inl ⟨(some m', can H, ((can H).length : Int), ((i + 1 : Nat) : Int), out ++ [x.1], ()), ?_, ⟨i + 1, m', out ++ [x.1], rfl, c, ⟨hm.1, fun y => by rw [hm.2, q5t]⟩, hP, fun y hy => ?_, by omega, by omega, fun y hy => ?_⟩, by simp only; omega⟩
          · simp (disch := first | assumption | omega) only [zA, zB, zC, zD, zE, zF, zG, qy8, qy2, qy3, zH, zI, dpos, dneg, zJ, zK, zL, zM, zN, zO, zP, qdk, qdj, qza, ex, ek, elk, ec, em, up1]
          · have hy : y.1 ∈ out ++ [x.1] := hy
            rw [List.mem_append, List.mem_singleton] at hy
            rcases hy with hy | hy
            · exact p4 y hy
            · rw [Pm.ext hy]; exact hHx
          · rcases (q6h c ex y).1 hy with h | rfl
            · exact (p7 y h).mono (fun z hz => .gen (List.mem_append_left _ hz))
            · exact .gen (show y.1 ∈ out ++ [y.1] by simp)
      · obtain rfl : i = (can H).length := by omega
        rw [List.take_length] at p7
        refine .inr ⟨.inl (out, ()), ?_, out, rfl, p3, fun x => ⟨fun h => h.le hH p4, fun h => p7 x (q5t.2 h)⟩, p4, p5, by omega⟩
        simp (disch := first | assumption | omega) only [zA, zB, zC, zD, zE, zF, zG, qy8, qy2, qy3, zH, zI, dpos, dneg, zJ, zK, zL, zM, zN, zO, zP, qdk, qdj])
  refine ⟨out, ?_, q1, q2, q3, q4, q5⟩
  simp (disch := first | assumption | omega) only [zA, zB, zC, zD, zE, zF, zG, qy8, qy2, qy3, zH, zI, dpos, dneg, zJ, zK, zL, zM, zN, zO, zP, qdl, e0, el, eid, e1, e]
theorem q6u (hn : Fu n) {l t1 t11 t17 : List (List Int)} (hl : ∀ p ∈ l, PK k p) (hll : l.length ≤ 1000000000) (p c : Pm k hk) {a12 a13 a18 a19 : Int} {S : Pm k hk → Prop} {met : Option KS} {gens all : List (List Int)} (h : Gw hk S met gens all) :
    ∃ met' gens' all', iterN (qds n) n (((), ((), ((), ()))), t1, l, p.1, c.1, t11, a12, a13, t17, a18, a19, l, (l.length : Int), 0, met, gens, all, ()) = some (.inl (((), ((), ((), ()))), t1, l, p.1, t11, a12, a13, t17, a18, a19, met', gens', all', ())) ∧ Gw hk (fun y => S y ∨ ∃ x, dn l x ∧ y = cj x c) met' gens' all' := by
  obtain ⟨r, e, met', gens', all', rfl, h2⟩ := qyy (f := qds n) hn
    (fun d => ∃ (i : Nat) (met : Option KS) (gens all : List (List Int)), d = (((), ((), ((), ()))), t1, l, p.1, c.1, t11, a12, a13, t17, a18, a19, l, (l.length : Int), (i : Int), met, gens, all, ()) ∧ i ≤ l.length ∧ Gw hk (fun y => S y ∨ ∃ x, dn (l.take i) x ∧ y = cj x c) met gens all)
    (fun d => ((l.length : Int) - d.2.2.2.2.2.2.2.2.2.2.2.2.2.1).toNat)
    (fun r => ∃ met' gens' all', r = .inl (((), ((), ((), ()))), t1, l, p.1, t11, a12, a13, t17, a18, a19, met', gens', all', ()) ∧ Gw hk (fun y => S y ∨ ∃ x, dn l x ∧ y = cj x c) met' gens' all')
    (d := (((), ((), ((), ()))), t1, l, p.1, c.1, t11, a12, a13, t17, a18, a19, l, (l.length : Int), 0, met, gens, all, ()))
    ⟨0, met, gens, all, rfl, Nat.zero_le _, by
      have : (fun y => S y ∨ ∃ x, dn (l.take 0) x ∧ y = cj x c) = S := funext fun y => propext ⟨fun h => h.elim id (fun ⟨x, hx, _⟩ => absurd hx (q6i x)), .inl⟩
      rw [this]; exact h⟩ (by simp only; omega) (by
      rintro d ⟨i, met, gens, all, rfl, h1, h2⟩
      by_cases c1 : i < l.length
      · obtain ⟨x, ex, hx⟩ := q6g (hk := hk) hl c1
        obtain ⟨met', gens', all', e, q⟩ := q50 hn h2 (cj x c)
        have ec := q6e hn c x
        refine .inl ⟨(((), ((), ((), ()))), t1, l, p.1, c.1, t11, a12, a13, t17, a18, a19, l, (l.length : Int), ((i + 1 : Nat) : Int), met', gens', all', ()), ?_, ⟨i + 1, met', gens', all', rfl, c1, ?_⟩, by simp only; omega⟩
        · simp (disch := first | assumption | omega) only [zA, zB, zC, zD, zE, zF, zG, qy8, qy2, qy3, zH, zI, dpos, dneg, zJ, zK, zL, zM, zN, zO, zP, qds, qdr, qza, ex, ec, e, up1]
        · have : (fun y => S y ∨ ∃ x, dn (l.take (i + 1)) x ∧ y = cj x c) = fun y => (S y ∨ ∃ x, dn (l.take i) x ∧ y = cj x c) ∨ y = cj x c := funext fun y => propext (by
            constructor
            · rintro (h | ⟨z, hz, rfl⟩)
              · exact .inl (.inl h)
              · rcases (q6h c1 ex z).1 hz with h | rfl
                · exact .inl (.inr ⟨z, h, rfl⟩)
                · exact .inr rfl
            · rintro ((h | ⟨z, hz, rfl⟩) | rfl)
              · exact .inl h
              · exact .inr ⟨z, (q6h c1 ex z).2 (.inl hz), rfl⟩
              · exact .inr ⟨x, (q6h c1 ex x).2 (.inr rfl), rfl⟩)
          rw [this]; exact q
      · obtain rfl : i = l.length := by omega
        rw [List.take_length] at h2
        refine .inr ⟨_, ?_, met, gens, all, rfl, h2⟩
        simp (disch := first | assumption | omega) only [zA, zB, zC, zD, zE, zF, zG, qy8, qy2, qy3, zH, zI, dpos, dneg, zJ, zK, zL, zM, zN, zO, zP, qds, qdr])
  exact ⟨met', gens', all', e, h2⟩
theorem q6v (hn : Fu n) {l G t11 : List (List Int)} (hl : ∀ p ∈ l, PK k p) (hll : l.length ≤ 1000000000) (hG : ∀ p ∈ G, PK k p) (hGl : G.length ≤ 1000000000) (p : Pm k hk) {a12 a13 : Int} {S : Pm k hk → Prop} {met : Option KS} {gens all : List (List Int)} (h : Gw hk S met gens all) :
    ∃ met' gens' all', iterN (qdu n) n (((), ((), ((), ()))), G, l, p.1, t11, a12, a13, G, (G.length : Int), 0, met, gens, all, ()) = some (.inl (((), ((), ((), ()))), G, l, t11, a12, a13, met', gens', all', ())) ∧ Gw hk (fun y => S y ∨ ∃ q x, dn G q ∧ dn l x ∧ y = cj x (cm p q)) met' gens' all' := by
  obtain ⟨r, e, met', gens', all', rfl, h2⟩ := qyy (f := qdu n) hn
    (fun d => ∃ (i : Nat) (met : Option KS) (gens all : List (List Int)), d = (((), ((), ((), ()))), G, l, p.1, t11, a12, a13, G, (G.length : Int), (i : Int), met, gens, all, ()) ∧ i ≤ G.length ∧ Gw hk (fun y => S y ∨ ∃ q x, dn (G.take i) q ∧ dn l x ∧ y = cj x (cm p q)) met gens all)
    (fun d => ((G.length : Int) - d.2.2.2.2.2.2.2.2.2.1).toNat)
    (fun r => ∃ met' gens' all', r = .inl (((), ((), ((), ()))), G, l, t11, a12, a13, met', gens', all', ()) ∧ Gw hk (fun y => S y ∨ ∃ q x, dn G q ∧ dn l x ∧ y = cj x (cm p q)) met' gens' all')
    (d := (((), ((), ((), ()))), G, l, p.1, t11, a12, a13, G, (G.length : Int), 0, met, gens, all, ()))
    ⟨0, met, gens, all, rfl, Nat.zero_le _, by
      have : (fun y => S y ∨ ∃ q x, dn (G.take 0) q ∧ dn l x ∧ y = cj x (cm p q)) = S := funext fun y => propext ⟨fun h => h.elim id (fun ⟨q, x, hx, _⟩ => absurd hx (q6i q)), .inl⟩
      rw [this]; exact h⟩ (by simp only; omega) (by
      rintro d ⟨i, met, gens, all, rfl, h1, h2⟩
      by_cases c1 : i < G.length
      · obtain ⟨q, eq, hq⟩ := q6g (hk := hk) hG c1
        have ec := q6d hn p q
        obtain ⟨met', gens', all', e, q5⟩ := q6u hn (t1 := G) (t11 := t11) (t17 := G) hl hll p (cm p q) (a12 := a12) (a13 := a13) (a18 := (G.length : Int)) (a19 := (i : Int)) h2
        refine .inl ⟨(((), ((), ((), ()))), G, l, p.1, t11, a12, a13, G, (G.length : Int), ((i + 1 : Nat) : Int), met', gens', all', ()), ?_, ⟨i + 1, met', gens', all', rfl, c1, ?_⟩, by simp only; omega⟩
        · simp (disch := first | assumption | omega) only [zA, zB, zC, zD, zE, zF, zG, qy8, qy2, qy3, zH, zI, dpos, dneg, zJ, zK, zL, zM, zN, zO, zP, qdu, qdt, qza, eq, ec, e, up1]
        · have : (fun y => S y ∨ ∃ q x, dn (G.take (i + 1)) q ∧ dn l x ∧ y = cj x (cm p q)) = fun y => (S y ∨ ∃ q x, dn (G.take i) q ∧ dn l x ∧ y = cj x (cm p q)) ∨ ∃ x, dn l x ∧ y = cj x (cm p q) := funext fun y => propext (by
            constructor
            · rintro (h | ⟨z, x, hz, hx, rfl⟩)
              · exact .inl (.inl h)
              · rcases (q6h c1 eq z).1 hz with h | rfl
                · exact .inl (.inr ⟨z, x, h, hx, rfl⟩)
                · exact .inr ⟨x, hx, rfl⟩
            · rintro ((h | ⟨z, x, hz, hx, rfl⟩) | ⟨x, hx, rfl⟩)
              · exact .inl h
              · exact .inr ⟨z, x, (q6h c1 eq z).2 (.inl hz), hx, rfl⟩
              · exact .inr ⟨q, x, (q6h c1 eq q).2 (.inr rfl), hx, rfl⟩)
          rw [this]; exact q5
      · obtain rfl : i = G.length := by omega
        rw [List.take_length] at h2
        refine .inr ⟨_, ?_, met, gens, all, rfl, h2⟩
        simp (disch := first | assumption | omega) only [zA, zB, zC, zD, zE, zF, zG, qy8, qy2, qy3, zH, zI, dpos, dneg, zJ, zK, zL, zM, zN, zO, zP, qdu, qdt])
  exact ⟨met', gens', all', e, h2⟩
theorem q6w (hn : Fu n) {l G : List (List Int)} (hl : ∀ p ∈ l, PK k p) (hll : l.length ≤ 1000000000) (hG : ∀ p ∈ G, PK k p) (hGl : G.length ≤ 1000000000) {met : Option KS} {gens all : List (List Int)} (h : Gw hk (fun _ => False) met gens all) :
    ∃ met' gens' all', iterN (qdw n) n (((), ((), ((), ()))), G, l, G, (G.length : Int), 0, met, gens, all, ()) = some (.inl (met', gens', all', ())) ∧ Gw hk (fun y => ∃ p q x, dn G p ∧ dn G q ∧ dn l x ∧ y = cj x (cm p q)) met' gens' all' := by
  obtain ⟨r, e, met', gens', all', rfl, h2⟩ := qyy (f := qdw n) hn
    (fun d => ∃ (i : Nat) (met : Option KS) (gens all : List (List Int)), d = (((), ((), ((), ()))), G, l, G, (G.length : Int), (i : Int), met, gens, all, ()) ∧ i ≤ G.length ∧ Gw hk (fun y => ∃ p q x, dn (G.take i) p ∧ dn G q ∧ dn l x ∧ y = cj x (cm p q)) met gens all)
    (fun d => ((G.length : Int) - d.2.2.2.2.2.1).toNat)
    (fun r => ∃ met' gens' all', r = .inl (met', gens', all', ()) ∧ Gw hk (fun y => ∃ p q x, dn G p ∧ dn G q ∧ dn l x ∧ y = cj x (cm p q)) met' gens' all')
    (d := (((), ((), ((), ()))), G, l, G, (G.length : Int), 0, met, gens, all, ()))
    ⟨0, met, gens, all, rfl, Nat.zero_le _, by
      have : (fun y => ∃ p q x, dn (G.take 0) p ∧ dn G q ∧ dn l x ∧ y = cj x (cm p q)) = fun _ => False := funext fun (y : Pm k hk) => propext ⟨fun ⟨p, q, x, hx, _⟩ => absurd hx (q6i p), False.elim⟩
      rw [this]; exact h⟩ (by simp only; omega) (by
      rintro d ⟨i, met, gens, all, rfl, h1, h2⟩
      by_cases c1 : i < G.length
      · obtain ⟨p, ep, hp⟩ := q6g (hk := hk) hG c1
        obtain ⟨met', gens', all', e, q5⟩ := q6v hn (t11 := G) hl hll hG hGl p (a12 := (G.length : Int)) (a13 := (i : Int)) h2
        refine .inl ⟨(((), ((), ((), ()))), G, l, G, (G.length : Int), ((i + 1 : Nat) : Int), met', gens', all', ()), ?_, ⟨i + 1, met', gens', all', rfl, c1, ?_⟩, by simp only; omega⟩
        · simp (disch := first | assumption | omega) only [zA, zB, zC, zD, zE, zF, zG, qy8, qy2, qy3, zH, zI, dpos, dneg, zJ, zK, zL, zM, zN, zO, zP, qdw, qdv, qza, ep, e, up1]
        · have : (fun y => ∃ p q x, dn (G.take (i + 1)) p ∧ dn G q ∧ dn l x ∧ y = cj x (cm p q)) = fun y => (∃ p q x, dn (G.take i) p ∧ dn G q ∧ dn l x ∧ y = cj x (cm p q)) ∨ ∃ q x, dn G q ∧ dn l x ∧ y = cj x (cm p q) := funext fun y => propext (by
            constructor
            · rintro ⟨z, q, x, hz, hq, hx, rfl⟩
              rcases (q6h c1 ep z).1 hz with h | rfl
              · exact .inl ⟨z, q, x, h, hq, hx, rfl⟩
              · exact .inr ⟨q, x, hq, hx, rfl⟩
            · rintro (⟨z, q, x, hz, hq, hx, rfl⟩ | ⟨q, x, hq, hx, rfl⟩)
              · exact ⟨z, q, x, (q6h c1 ep z).2 (.inl hz), hq, hx, rfl⟩
              · exact ⟨p, q, x, (q6h c1 ep p).2 (.inr rfl), hq, hx, rfl⟩)
          rw [this]; exact q5
      · obtain rfl : i = G.length := by omega
        rw [List.take_length] at h2
        refine .inr ⟨_, ?_, met, gens, all, rfl, h2⟩
        simp (disch := first | assumption | omega) only [zA, zB, zC, zD, zE, zF, zG, qy8, qy2, qy3, zH, zI, dpos, dneg, zJ, zK, zL, zM, zN, zO, zP, qdw, qdv])
  exact ⟨met', gens', all', e, h2⟩
theorem q6x (hn : Fw n) {H : Pm k hk → Prop} (hH : Sub H) : qdz n (can H) = some (can (Dr H), ()) := by
  obtain ⟨G, e1, q1, q2, q3, q4, q5⟩ := q6t hn hH
  have h0 := q6j hH
  have e0 : idx (can H) 0 = some (row (can H) 0) := qza (u := 0) h0
  have el : (((row (can H) 0).length : Nat) : Int) = (k : Int) := by rw [q6k hH]
  have eid := qz4 hn.fu k hk.1 hk.2
  have hcl := q5r (H := H)
  obtain ⟨met, e2, h2⟩ := Gw.start hn.fu hk
  obtain ⟨met', gens', all', e3, h3⟩ := q6w hn.fu (l := can H) q5q (by omega) q1 (by omega) h2
  have e4 := h3.sorted hn
  have e5 : can (hk := hk) (Cl (fun y => ∃ p q x, dn G p ∧ dn G q ∧ dn (can H) x ∧ y = cj x (cm p q))) = can (Dr H) := by
    have e6 : (fun y => ∃ p q x, dn G p ∧ dn G q ∧ dn (can H) x ∧ y = cj x (cm p q)) = fun y => ∃ a b x, dn G a ∧ dn G b ∧ Cl (dn G) x ∧ y = cj x (cm a b) := funext fun (y : Pm k hk) => propext (by
      constructor
      · rintro ⟨p, q, x, hp, hq, hx, rfl⟩; exact ⟨p, q, x, hp, hq, (q2 x).2 (q5t.1 hx), rfl⟩
      · rintro ⟨p, q, x, hp, hq, hx, rfl⟩; exact ⟨p, q, x, hp, hq, q5t.2 ((q2 x).1 hx), rfl⟩)
    have e7 : Cl (dn G) = H := funext fun x => propext (q2 x)
    rw [e6]
    refine q5s (fun x => ?_)
    rw [Dr.gens, e7]
  rw [e5] at e4
  simp (disch := first | assumption | omega) only [zA, zB, zC, zD, zE, zF, zG, qy8, qy2, qy3, zH, zI, dpos, dneg, zJ, zK, zL, zM, zN, zO, zP, qdz, e1, e0, el, qdy, eid, e2, qdx, e3, e4]
end Go.Proofs.Ytemejeiajekmcaa.V
namespace Go.Proofs.Ytemejeiajekmcaa.V
open Go Classical Grp
set_option linter.unusedVariables false
set_option linter.all false
variable {n : Nat} {k : Nat} {hk : 1 ≤ k ∧ k ≤ 7}
theorem q6y (hn : Fu n) (H : Pm k hk → Prop) : qc9 n (can H) = some (can H, ()) :=
  q0h hn _ (by have := q5r (H := H); omega) q54
theorem q6z (hn : Fw n) {H : Pm k hk → Prop} (hH : Sub H) : qd0 n (can H) = some (can (Dr H), 0, ()) := by
  simp (disch := first | assumption | omega) only [zA, zB, zC, zD, zE, zF, zG, qy8, qy2, qy3, zH, zI, dpos, dneg, zJ, zK, zL, zM, zN, zO, zP, qd0, q6p hn hH, q6x hn hH, q6y hn.fu]
noncomputable def ser : Nat → (Pm k hk → Prop) → List (List (List Int))
  | 0, _ => []
  | m + 1, H => if (can (Dr H)).length = (can H).length then [] else can (Dr H) :: ser m (Dr H)
theorem Dr.len {H : Pm k hk → Prop} (hH : Sub H) : (can (Dr H)).length ≤ (can H).length :=
  q0k can_asc.nodup (fun p hp => by
    obtain ⟨h, hp⟩ := q5o.1 hp
    exact q5o.2 ⟨h, Dr.le hH hp⟩)
theorem q60 : ∀ (m : Nat) (H : Pm k hk → Prop), (ser m H).length ≤ m
  | 0, _ => Nat.zero_le _
  | m + 1, H => by
    unfold ser
    by_cases c : (can (Dr H)).length = (can H).length
    · rw [if_pos c]; exact Nat.zero_le _
    · rw [if_neg c, List.length_cons]; have := q60 m (Dr H); omega
noncomputable def q61 (H : Pm k hk → Prop) : List (List (List Int)) := can H :: ser (can H).length H
theorem q62 (H : Pm k hk → Prop) : (q61 H).length ≤ 5041 := by
  unfold q61; rw [List.length_cons]
  have := q60 (can H).length H
  have := q5r (H := H); omega
theorem q63 {D O : Type} {f : D → Option (D ⊕ O)} (hn : Fu n) (st : (Pm k hk → Prop) → List (List (List Int)) → D) (r : List (List (List Int)) → O)
    (hstep : ∀ (H : Pm k hk → Prop) out, Sub H → out.length ≤ 5041 → out.getLast? = some (can H) → f (st H out) = if (can (Dr H)).length = (can H).length then some (.inr (r out)) else some (.inl (st (Dr H) (out ++ [can (Dr H)])))) {H : Pm k hk → Prop} (hH : Sub H) :
    iterN f n (st H [can H]) = some (r (q61 H)) := by
  obtain ⟨r', e, rfl⟩ := q5f (f := f) hn
    (fun (g : Nat × (Pm k hk → Prop)) d => ∃ out, d = st g.2 out ∧ Sub g.2 ∧ out ++ ser g.1 g.2 = q61 H ∧ (can g.2).length ≤ g.1 ∧ out.getLast? = some (can g.2))
    (fun g => g.1)
    (fun r' => r' = r (q61 H))
    ((can H).length, H) (d := st H [can H])
    ⟨[can H], rfl, hH, rfl, Nat.le_refl _, rfl⟩ (by simp only; have := q5r (H := H); omega) (by
      rintro ⟨m, K⟩ d ⟨out, rfl, h1, h2, h3, h5⟩
      have hs := hstep K out h1 (by
        have := q62 H
        rw [← h2, List.length_append] at this
        omega) h5
      have hp : 0 < (can K).length := q6j h1
      have h3 : (can K).length ≤ m := h3
      cases m with
      | zero => omega
      | succ m =>
        unfold ser at h2
        simp only at h2
        by_cases c : (can (Dr K)).length = (can K).length
        · rw [if_pos c] at hs h2
          rw [List.append_nil] at h2
          exact .inr ⟨_, hs, by rw [h2]⟩
        · rw [if_neg c] at hs h2
          have h4 : (can (Dr K)).length ≤ (can K).length := Dr.len h1
          exact .inl ⟨_, (m, Dr K), hs, ⟨_, rfl, Dr.sub K, by rw [List.append_assoc]; exact h2, show (can (Dr K)).length ≤ m by omega, by simp⟩, Nat.lt_succ_self m⟩)
  exact e
theorem q64 (hn : Fw n) {H : Pm k hk → Prop} (hH : Sub H) : qd3 n (can H) = some (q61 H, 0, ()) := by
  have e := q63 (f := qd2 n) hn.fu (fun K out => (can K, out, ())) (fun out => .inl (out, 0, ())) (fun K out hK ho _ => by
    have e1 := q6x hn hK
    have e2 := q6y hn.fu (Dr K)
    have hl : ([can (Dr K)] : List (List (List Int))).length = 1 := rfl
    by_cases c : (can (Dr K)).length = (can K).length
    · rw [if_pos c]
      simp (disch := first | assumption | omega) only [zA, zB, zC, zD, zE, zF, zG, qy8, qy2, qy3, zH, zI, dpos, dneg, zJ, zK, zL, zM, zN, zO, zP, qd2, qd1, e1]
    · rw [if_neg c]
      simp (disch := first | assumption | omega) only [zA, zB, zC, zD, zE, zF, zG, qy8, qy2, qy3, zH, zI, dpos, dneg, zJ, zK, zL, zM, zN, zO, zP, qd2, qd1, e1, e2]) hH
  simp (disch := first | assumption | omega) only [zA, zB, zC, zD, zE, zF, zG, qy8, qy2, qy3, zH, zI, dpos, dneg, zJ, zK, zL, zM, zN, zO, zP, qd3, q6p hn hH, q6y hn.fu, e]
theorem q65 {P : Nat → Prop} (h : ∀ n, Fw n → P n) : ∃ n, P n := ⟨_, h (1180591620717411303424 + 1099511627776) (Nat.le_refl _)⟩
end Go.Proofs.Ytemejeiajekmcaa.V
namespace Go.Proofs.Ytemejeiajekmcaa.V
open Go Classical Grp
set_option linter.unusedVariables false
set_option linter.all false
variable {n : Nat} {k : Nat} {hk : 1 ≤ k ∧ k ≤ 7}
theorem q66 {l : List (List Int)} {p : List Int} : p ∈ l ↔ ∃ i, i < l.length ∧ row l i = p := by
  constructor
  · intro h
    obtain ⟨i, hi, e⟩ := List.getElem_of_mem h
    exact ⟨i, hi, by unfold row; rw [List.getD_eq_getElem?_getD, List.getElem?_eq_getElem hi]; exact e⟩
  · rintro ⟨i, hi, rfl⟩; exact qy9 hi
theorem q67 : @qe0 = @qet := rfl
def Drn : Nat → (Pm k hk → Prop) → Pm k hk → Prop
  | 0, H => H
  | m + 1, H => Drn m (Dr H)
theorem Drn.sub : ∀ {m : Nat} {H : Pm k hk → Prop}, Sub H → Sub (Drn m H)
  | 0, _, h => h
  | m + 1, H, h => Drn.sub (m := m) (Dr.sub H)
theorem Drn.mono : ∀ {m : Nat} {H K : Pm k hk → Prop}, (∀ x, K x → H x) → ∀ x, Drn m K x → Drn m H x
  | 0, _, _, h => h
  | m + 1, _, _, h => Drn.mono (m := m) (fun x hx => Dr.mono h hx)
end Go.Proofs.Ytemejeiajekmcaa.V
namespace Go.Proofs.Ytemejeiajekmcaa.V
open Go Classical Grp
set_option linter.unusedVariables false
set_option linter.all false
variable {n : Nat} {k : Nat} {hk : 1 ≤ k ∧ k ≤ 7}
def eqL : List Int → List Int → Bool
  | [], [] => true
  | x :: a, y :: b => decide (x = y) && eqL a b
  | _, _ => false
theorem q68 : ∀ {a b}, eqL a b = true → a = b
  | [], [], _ => rfl
  | x :: a, y :: b, h => by
    simp only [eqL, Bool.and_eq_true, decide_eq_true_eq] at h
    rw [h.1, q68 h.2]
  | [], _ :: _, h => nomatch h
  | _ :: _, [], h => nomatch h
def inB (p : List Int) (L : List (List Int)) : Bool := L.any (eqL p)
theorem q69 {p L} (h : inB p L = true) : p ∈ L := by
  obtain ⟨q, hq, e⟩ := List.any_eq_true.1 h
  rw [q68 e]; exact hq
def ltB : List Int → List Int → Bool
  | [], [] => false
  | [], _ :: _ => true
  | _ :: _, [] => false
  | x :: a, y :: b => decide (x < y) || (decide (x = y) && ltB a b)
theorem q7a : ∀ {a b}, ltB a b = true → ltL a b
  | [], [], h => nomatch h
  | [], _ :: _, _ => trivial
  | _ :: _, [], h => nomatch h
  | x :: a, y :: b, h => by
    simp only [ltB, Bool.or_eq_true, Bool.and_eq_true, decide_eq_true_eq] at h
    exact h.imp id (fun h => ⟨h.1, q7a h.2⟩)
def ascB : List (List Int) → Bool
  | [] => true
  | [_] => true
  | x :: y :: r => ltB x y && ascB (y :: r)
theorem q7b : ∀ {l}, ascB l = true → Asc l
  | [], _ => List.Pairwise.nil
  | [x], _ => List.pairwise_singleton _ _
  | x :: y :: r, h => by
    simp only [ascB, Bool.and_eq_true] at h
    have ih := q7b h.2
    refine List.Pairwise.cons (fun z hz => ?_) ih
    rw [List.mem_cons] at hz
    rcases hz with rfl | hz
    · exact q7a h.1
    · exact q0t (q7a h.1) ((List.pairwise_cons.1 ih).1 z hz)
def mulC (p q : List Int) : List Int := p.map (fun x => q.getD x.toNat 0)
theorem q7c (p q : List Int) : mulP p q = mulC p q := by
  unfold mulP mulC
  apply List.ext_getElem
  · simp
  · intro i h1 h2
    have hi : i < p.length := by simpa using h2
    rw [qzd (f := fun i => rd q (rd p (i : Int))) (by simpa using hi), List.getElem_map, q1d hi]; rfl
def invC (p : List Int) : List Int := (List.range p.length).map (fun (i : Nat) => ((p.idxOf (i : Int) : Nat) : Int))
theorem q7d (p : List Int) : invP p = invC p := rfl
def cmC (a b : List Int) : List Int := mulC (mulC (invC a) (invC b)) (mulC a b)
theorem q7e (a b : Pm k hk) : (cm a b).1 = cmC a.1 b.1 := by
  show mulP (mulP (invP a.1) (invP b.1)) (mulP a.1 b.1) = _
  rw [q7c, q7c, q7c a.1, q7d, q7d]; rfl
def grow (gens : List (List Int)) : List (Nat × Nat) → List (List Int) → List (List Int)
  | [], acc => acc
  | (i, j) :: r, acc => grow gens r (acc ++ [mulC (acc.getD i []) (gens.getD j [])])
theorem q7f {gens : List (List Int)} (hG : ∀ g ∈ gens, PK k g) : ∀ (w : List (Nat × Nat)) (acc : List (List Int)), (w.all fun x => decide (x.2 < gens.length)) = true → (∀ i, i < w.length → (w.getD i (0, 0)).1 < acc.length + i) → (∀ p ∈ acc, upS (hk := hk) (Cl (dn gens)) p) → ∀ p ∈ grow gens w acc, upS (hk := hk) (Cl (dn gens)) p
  | [], acc, _, _, h, p, hp => h p hp
  | (i, j) :: r, acc, h1, h2, h, p, hp => by
    simp only [List.all_cons, Bool.and_eq_true, decide_eq_true_eq] at h1
    have hi : i < acc.length := by have := h2 0 (by simp); simpa using this
    refine q7f hG r _ h1.2 (fun a ha => ?_) (fun q hq => ?_) p hp
    · have := h2 (a + 1) (by simpa using ha)
      simp only [List.getD_cons_succ] at this
      rw [List.length_append]; simp only [List.length_cons, List.length_nil]; omega
    · rw [List.mem_append, List.mem_singleton] at hq
      rcases hq with hq | rfl
      · exact h q hq
      · have e1 : acc.getD i [] = row acc i := rfl
        have e2 : gens.getD j [] = row gens j := rfl
        rw [e1, e2]
        obtain ⟨ha, hc⟩ := h _ (qy9 hi)
        have hg := hG _ (qy9 h1.1)
        rw [← q7c]
        exact ⟨ha.mul hg, Cl.step (G := Pm k hk) (S := dn gens) (p := Pm.mk _ ha) (q := Pm.mk _ hg) hc (qy9 h1.1)⟩
def wOK (w : List (Nat × Nat)) : Bool := (List.range w.length).all fun i => Nat.blt ((w.getD i (0, 0)).1) (i + 1)
theorem q7g {gens L : List (List Int)} {w : List (Nat × Nat)} (hG : ∀ g ∈ gens, PK k g) (h1 : ascB L = true) (h2 : inB (idP k) L = true) (h3 : (L.all fun p => gens.all fun g => inB (mulC p g) L) = true)
    (h4 : (w.all fun x => decide (x.2 < gens.length)) = true) (h5 : wOK w = true) (h6 : (L.all fun p => inB p (grow gens w [idP k])) = true) : can (hk := hk) (Cl (dn gens)) = L := by
  refine Asc.ext can_asc (q7b h1) (fun p => ?_)
  rw [q5o]
  constructor
  · rintro ⟨hp, hc⟩
    have : ∀ x : Pm k hk, Cl (dn gens) x → x.1 ∈ L := fun x hx => by
      induction hx with
      | one => exact q69 h2
      | @step a g ha hg ih =>
        have := List.all_eq_true.1 (List.all_eq_true.1 h3 _ ih) g.1 hg
        have := q69 this
        rw [← q7c] at this
        exact this
    exact this ⟨p, hp⟩ hc
  · intro hp
    have := q69 (List.all_eq_true.1 h6 p hp)
    refine q7f hG w [idP k] h4 (fun i hi => ?_) (fun q hq => ?_) p this
    · have := List.all_eq_true.1 h5 i (List.mem_range.2 hi)
      have := Nat.le_of_ble_eq_true this
      simp only [List.length_cons, List.length_nil]; omega
    · rw [List.mem_singleton] at hq
      subst hq
      exact ⟨(1 : Pm k hk).2, .one⟩
theorem q7h {H : Pm k hk → Prop} {L M : List (List Int)} (hL : can H = L) (h1 : ascB M = true) (h2 : inB (idP k) M = true) (h3 : (M.all fun p => M.all fun g => inB (mulC p g) M) = true)
    (h4 : (L.all fun a => L.all fun b => inB (cmC a b) M) = true) (h5 : (M.all fun p => L.any fun a => L.any fun b => eqL p (cmC a b)) = true) : can (Dr H) = M := by
  have hHL : ∀ x : Pm k hk, H x ↔ x.1 ∈ L := fun x => by rw [← hL, q5p]
  have hm : ∀ {a b : Pm k hk}, dn M a → dn M b → dn M (a * b) := fun {a b} ha hb => by
    have := q69 (List.all_eq_true.1 (List.all_eq_true.1 h3 _ ha) _ hb)
    rw [← q7c] at this
    exact this
  have hone : dn M (1 : Pm k hk) := q69 h2
  have hs : Sub (dn M : Pm k hk → Prop) := ⟨hone, hm, q13 hone hm⟩
  refine Asc.ext can_asc (q7b h1) (fun p => ?_)
  rw [q5o]
  constructor
  · rintro ⟨hp, hc⟩
    refine Cl.le hs ?_ hc
    rintro _ ⟨a, b, ha, hb, rfl⟩
    have := q69 (List.all_eq_true.1 (List.all_eq_true.1 h4 _ ((hHL a).1 ha)) _ ((hHL b).1 hb))
    rw [← q7e] at this
    exact this
  · intro hp
    obtain ⟨a, ha, h⟩ := List.any_eq_true.1 (List.all_eq_true.1 h5 p hp)
    obtain ⟨b, hb, h⟩ := List.any_eq_true.1 h
    have e := q68 h
    have pa : PK k a := by rw [← hL] at ha; exact q5q a ha
    have pb : PK k b := by rw [← hL] at hb; exact q5q b hb
    have e2 := q7e (Pm.mk (hk := hk) a pa) (Pm.mk b pb)
    change _ = cmC a b at e2
    rw [e, ← e2]
    exact ⟨(cm (Pm.mk (hk := hk) a pa) (Pm.mk b pb)).2, .gen ⟨_, _, (hHL _).2 ha, (hHL _).2 hb, rfl⟩⟩
def aL60 : List (List Int) := [[0, 1, 2, 3, 4], [0, 1, 3, 4, 2], [0, 1, 4, 2, 3], [0, 2, 1, 4, 3], [0, 2, 3, 1, 4], [0, 2, 4, 3, 1], [0, 3, 1, 2, 4], [0, 3, 2, 4, 1], [0, 3, 4, 1, 2], [0, 4, 1, 3, 2], [0, 4, 2, 1, 3], [0, 4, 3, 2, 1], [1, 0, 2, 4, 3], [1, 0, 3, 2, 4], [1, 0, 4, 3, 2], [1, 2, 0, 3, 4], [1, 2, 3, 4, 0], [1, 2, 4, 0, 3], [1, 3, 0, 4, 2], [1, 3, 2, 0, 4], [1, 3, 4, 2, 0], [1, 4, 0, 2, 3], [1, 4, 2, 3, 0], [1, 4, 3, 0, 2], [2, 0, 1, 3, 4], [2, 0, 3, 4, 1], [2, 0, 4, 1, 3], [2, 1, 0, 4, 3], [2, 1, 3, 0, 4], [2, 1, 4, 3, 0], [2, 3, 0, 1, 4], [2, 3, 1, 4, 0], [2, 3, 4, 0, 1], [2, 4, 0, 3, 1], [2, 4, 1, 0, 3], [2, 4, 3, 1, 0], [3, 0, 1, 4, 2], [3, 0, 2, 1, 4], [3, 0, 4, 2, 1], [3, 1, 0, 2, 4], [3, 1, 2, 4, 0], [3, 1, 4, 0, 2], [3, 2, 0, 4, 1], [3, 2, 1, 0, 4], [3, 2, 4, 1, 0], [3, 4, 0, 1, 2], [3, 4, 1, 2, 0], [3, 4, 2, 0, 1], [4, 0, 1, 2, 3], [4, 0, 2, 3, 1], [4, 0, 3, 1, 2], [4, 1, 0, 3, 2], [4, 1, 2, 0, 3], [4, 1, 3, 2, 0], [4, 2, 0, 1, 3], [4, 2, 1, 3, 0], [4, 2, 3, 0, 1], [4, 3, 0, 2, 1], [4, 3, 1, 0, 2], [4, 3, 2, 1, 0]]
def aL24 : List (List Int) := [[0, 1, 2, 3], [0, 1, 3, 2], [0, 2, 1, 3], [0, 2, 3, 1], [0, 3, 1, 2], [0, 3, 2, 1], [1, 0, 2, 3], [1, 0, 3, 2], [1, 2, 0, 3], [1, 2, 3, 0], [1, 3, 0, 2], [1, 3, 2, 0], [2, 0, 1, 3], [2, 0, 3, 1], [2, 1, 0, 3], [2, 1, 3, 0], [2, 3, 0, 1], [2, 3, 1, 0], [3, 0, 1, 2], [3, 0, 2, 1], [3, 1, 0, 2], [3, 1, 2, 0], [3, 2, 0, 1], [3, 2, 1, 0]]
def aL12 : List (List Int) := [[0, 1, 2, 3], [0, 2, 3, 1], [0, 3, 1, 2], [1, 0, 3, 2], [1, 2, 0, 3], [1, 3, 2, 0], [2, 0, 1, 3], [2, 1, 3, 0], [2, 3, 0, 1], [3, 0, 2, 1], [3, 1, 0, 2], [3, 2, 1, 0]]
def aL4 : List (List Int) := [[0, 1, 2, 3], [1, 0, 3, 2], [2, 3, 0, 1], [3, 2, 1, 0]]
def aL1 : List (List Int) := [[0, 1, 2, 3]]
def aw60 : List (Nat × Nat) := [(0, 0), (0, 1), (1, 0), (1, 1), (2, 0), (2, 1), (3, 0), (3, 1), (4, 0), (4, 1), (5, 0), (5, 1), (6, 0), (7, 0), (7, 1), (8, 0), (8, 1), (9, 0), (9, 1), (10, 0), (11, 0), (12, 0), (12, 1), (13, 0), (13, 1), (14, 1), (15, 0), (16, 1), (17, 0), (18, 0), (19, 0), (19, 1), (20, 0), (20, 1), (21, 0), (21, 1), (22, 1), (25, 0), (25, 1), (26, 0), (27, 1), (28, 0), (28, 1), (29, 1), (30, 0), (30, 1), (34, 0), (36, 0), (37, 1), (38, 1), (40, 1), (41, 0), (41, 1), (44, 0), (47, 1), (48, 1), (51, 0), (51, 1), (54, 1)]
def aw24 : List (Nat × Nat) := [(0, 0), (0, 1), (1, 0), (1, 1), (2, 0), (3, 0), (3, 1), (4, 0), (5, 0), (5, 1), (6, 1), (7, 0), (8, 0), (8, 1), (9, 1), (11, 0), (12, 0), (12, 1), (13, 1), (15, 0), (16, 0), (16, 1), (17, 1)]
def ag5 : List (List Int) := [[1, 2, 3, 4, 0], [1, 2, 0, 3, 4]]
def ag4 : List (List Int) := [[1, 2, 3, 0], [1, 0, 2, 3]]
theorem hk5 : 1 ≤ 5 ∧ 5 ≤ 7 := by decide
theorem hk4 : 1 ≤ 4 ∧ 4 ≤ 7 := by decide
theorem pk5_0 : PK 5 [1, 2, 3, 4, 0] := q1e (by decide) (by decide) (show List.Perm _ (idP 5) from by decide)
theorem pk5_1 : PK 5 [1, 2, 0, 3, 4] := q1e (by decide) (by decide) (show List.Perm _ (idP 5) from by decide)
theorem q7i : ∀ g ∈ ag5, PK 5 g := fun g hg => by
  simp only [ag5, List.mem_cons, List.not_mem_nil, or_false] at hg
  rcases hg with rfl | rfl
  · exact pk5_0
  · exact pk5_1
theorem q7j : GV ag5 := ⟨by decide, by decide, fun i hi => by
  have h : ∀ j, j < 2 → PK 5 (row ag5 j) := fun j hj => q7i _ (qy9 hj)
  have h0 := h 0 (by decide)
  have h1 := h i hi
  exact ⟨h0.1, h1.1, by rw [h0.2, h1.2]⟩⟩
theorem pk4_0 : PK 4 [1, 2, 3, 0] := q1e (by decide) (by decide) (show List.Perm _ (idP 4) from by decide)
theorem pk4_1 : PK 4 [1, 0, 2, 3] := q1e (by decide) (by decide) (show List.Perm _ (idP 4) from by decide)
theorem q7k : ∀ g ∈ ag4, PK 4 g := fun g hg => by
  simp only [ag4, List.mem_cons, List.not_mem_nil, or_false] at hg
  rcases hg with rfl | rfl
  · exact pk4_0
  · exact pk4_1
theorem q7l : GV ag4 := ⟨by decide, by decide, fun i hi => by
  have h : ∀ j, j < 2 → PK 4 (row ag4 j) := fun j hj => q7k _ (qy9 hj)
  have h0 := h 0 (by decide)
  have h1 := h i hi
  exact ⟨h0.1, h1.1, by rw [h0.2, h1.2]⟩⟩
theorem a60 : can (hk := hk5) (Cl (dn ag5)) = aL60 := q7g (w := aw60) q7i (by kernel_rfl) (by kernel_rfl) (by kernel_rfl) (by kernel_rfl) (by kernel_rfl) (by kernel_rfl)
theorem a24 : can (hk := hk4) (Cl (dn ag4)) = aL24 := q7g (w := aw24) q7k (by kernel_rfl) (by kernel_rfl) (by kernel_rfl) (by kernel_rfl) (by kernel_rfl) (by kernel_rfl)
theorem a12 : can (hk := hk4) (Dr (Cl (dn ag4))) = aL12 := q7h a24 (by kernel_rfl) (by kernel_rfl) (by kernel_rfl) (by kernel_rfl) (by kernel_rfl)
theorem a4 : can (hk := hk4) (Dr (Dr (Cl (dn ag4)))) = aL4 := q7h a12 (by kernel_rfl) (by kernel_rfl) (by kernel_rfl) (by kernel_rfl) (by kernel_rfl)
theorem a1 : can (hk := hk4) (Dr (Dr (Dr (Cl (dn ag4))))) = aL1 := q7h a4 (by kernel_rfl) (by kernel_rfl) (by kernel_rfl) (by kernel_rfl) (by kernel_rfl)
theorem q7m : ∀ g : Pm 5 hk5, dn ag5 g → Dr (Cl (dn ag5)) g := by
  have key : ∀ (g : Pm 5 hk5) (a b : List Int), inB a aL60 = true → inB b aL60 = true → eqL g.1 (cmC a b) = true → Dr (Cl (dn ag5)) g := fun g a b ha hb h => by
    have ha := q69 ha
    have hb := q69 hb
    rw [← a60] at ha hb
    obtain ⟨pa, ha⟩ := q5o.1 ha
    obtain ⟨pb, hb⟩ := q5o.1 hb
    refine .gen ⟨⟨a, pa⟩, ⟨b, pb⟩, ha, hb, Pm.ext ?_⟩
    rw [q68 h]
    exact (q7e (Pm.mk a pa) (Pm.mk b pb)).symm
  intro g hg
  have hg : g.1 ∈ ag5 := hg
  simp only [ag5, List.mem_cons, List.not_mem_nil, or_false] at hg
  rcases hg with e | e
  · exact key g [0, 1, 4, 2, 3] [4, 3, 0, 2, 1] (by kernel_rfl) (by kernel_rfl) (by rw [e]; kernel_rfl)
  · exact key g [0, 2, 1, 4, 3] [2, 0, 1, 3, 4] (by kernel_rfl) (by kernel_rfl) (by rw [e]; kernel_rfl)
theorem a60d : can (hk := hk5) (Dr (Cl (dn ag5))) = aL60 := by
  rw [← a60]
  exact q5s (fun x => ⟨fun h => Dr.le (Cl.sub _) h, fun h => h.le (Dr.sub _) q7m⟩)
theorem q7n {m : Nat} {H : Pm k hk → Prop} (h : (can (Dr H)).length ≠ (can H).length) : ser (m + 1) H = can (Dr H) :: ser m (Dr H) := by
  show (if _ then _ else _) = _
  rw [if_neg h]
theorem q7o {m : Nat} {H : Pm k hk → Prop} (h : (can (Dr H)).length = (can H).length) : ser (m + 1) H = [] := by
  show (if _ then _ else _) = _
  rw [if_pos h]
theorem aser : q61 (hk := hk4) (Cl (dn ag4)) = [aL24, aL12, aL4, aL1] := by
  have l0 : aL24.length = 24 := rfl
  have l1 : aL12.length = 12 := rfl
  have l2 : aL4.length = 4 := rfl
  have l3 : aL1.length = 1 := rfl
  unfold q61
  have h4 : (can (hk := hk4) (Dr (Dr (Dr (Dr (Cl (dn ag4))))))).length = (can (hk := hk4) (Dr (Dr (Dr (Cl (dn ag4)))))).length := by
    have := Dr.len (hk := hk4) (H := Dr (Dr (Dr (Cl (dn ag4))))) (Dr.sub _)
    have h0 := q6j (hk := hk4) (H := Dr (Dr (Dr (Dr (Cl (dn ag4)))))) (Dr.sub _)
    rw [a1, l3] at this
    rw [a1, l3]; omega
  rw [show (can (hk := hk4) (Cl (dn ag4))).length = 20 + 1 + 1 + 1 + 1 by rw [a24]; rfl]
  rw [q7n (by rw [a12, a24, l0, l1]; decide), q7n (by rw [a4, a12, l1, l2]; decide), q7n (by rw [a1, a4, l2, l3]; decide), q7o h4, a24, a12, a4, a1]
theorem q7p (hn : Fw n) : qea n = some (true, ()) := by
  have c5 := q55 (hk := hk5) hn q7j q7i
  have d5 := q6z (hk := hk5) hn (H := Cl (dn ag5)) (Cl.sub _)
  have c4 := q55 (hk := hk4) hn q7l q7k
  have s4 := q64 (hk := hk4) hn (H := Cl (dn ag4)) (Cl.sub _)
  have sm := q56 (hk := hk5) hn.fu (Cl (dn ag5))
  rw [a60] at c5 d5 sm
  rw [a60d] at d5
  rw [a24] at c4 s4
  rw [aser] at s4
  unfold ag5 at c5
  unfold ag4 at c4
  have h0 : idx [aL24, aL12, aL4, aL1] 0 = some aL24 := rfl
  have h1 : idx [aL24, aL12, aL4, aL1] 1 = some aL12 := rfl
  have h2 : idx [aL24, aL12, aL4, aL1] 2 = some aL4 := rfl
  have h3 : idx [aL24, aL12, aL4, aL1] 3 = some aL1 := rfl
  have l : aL60.length = 60 := rfl
  have l0 : aL24.length = 24 := rfl
  have l1 : aL12.length = 12 := rfl
  have l2 : aL4.length = 4 := rfl
  have l3 : aL1.length = 1 := rfl
  simp (disch := first | assumption | omega) only [zA, zB, zC, zD, zE, zF, zG, qy8, qy2, qy3, zH, zI, dpos, dneg, zJ, zK, zL, zM, zN, zO, zP, qea, c5, d5, c4, s4, l, sm, h0, h1, h2, h3, l0, l1, l2, l3]
end Go.Proofs.Ytemejeiajekmcaa.V
namespace Go.Proofs.Ytemejeiajekmcaa.V
open Go Classical Grp
set_option linter.unusedVariables false
set_option linter.all false
end Go.Proofs.Ytemejeiajekmcaa.V
namespace Go.Proofs.Ytemejeiajekmcaa.V
open Go Classical Grp
set_option linter.unusedVariables false
set_option linter.all false
variable {n : Nat} {k : Nat} {hk : 1 ≤ k ∧ k ≤ 7}
end Go.Proofs.Ytemejeiajekmcaa.V
namespace Go.Proofs.Ytemejeiajekmcaa.V
open Go Classical Grp
set_option linter.unusedVariables false
set_option linter.all false
variable {n : Nat} {k : Nat} {hk : 1 ≤ k ∧ k ≤ 7}
theorem q7q (hn : Fu n) (p q : List Int) (hp : p.length ≤ 1000000000) : qgh n p q = some (decide (ltL p q), ()) := by
  have key := qyw (f := qgg n) hn (fun i => (p, q, (i : Int), ())) p.length (fun i => i < q.length ∧ rd p (i : Int) = rd q (i : Int)) (d := (p, q, 0, ())) (r := .inr (.inl (p, q, ()))) (r' := fun i => if i < q.length then .inl (decide (rd p (i : Int) < rd q (i : Int)), ()) else .inr (.inl (p, q, ()))) (by omega) rfl (fun i hi _ hp => by
      obtain ⟨h1, h2⟩ := hp
      simp (disch := first | assumption | omega) only [zA, zB, zC, zD, zE, zF, zG, qy8, qy2, qy3, zH, zI, dpos, dneg, zJ, zK, zL, zM, zN, zO, zP, qgg, qgf, qzb, h2, up1]) (fun i hi _ hp => by
      by_cases h1 : i < q.length
      · rw [if_pos h1]
        have h2 : rd p (i : Int) ≠ rd q (i : Int) := fun e => hp ⟨h1, e⟩
        simp (disch := first | assumption | omega) only [zA, zB, zC, zD, zE, zF, zG, qy8, qy2, qy3, zH, zI, dpos, dneg, zJ, zK, zL, zM, zN, zO, zP, qgg, qgf, qzb, up1]
      · rw [if_neg h1]
        simp (disch := first | assumption | omega) only [zA, zB, zC, zD, zE, zF, zG, qy8, qy2, qy3, zH, zI, dpos, dneg, zJ, zK, zL, zM, zN, zO, zP, qgg, qgf]) (fun _ => by
      simp (disch := first | assumption | omega) only [zA, zB, zC, zD, zE, zF, zG, qy8, qy2, qy3, zH, zI, dpos, dneg, zJ, zK, zL, zM, zN, zO, zP, qgg, qgf])
  rcases key with ⟨h, e⟩ | ⟨i, hi, hb, hp, e⟩
  · by_cases h1 : p.length < q.length
    · rw [decide_eq_true (q4u h1 (fun j hj => (h j hj).2))]
      simp (disch := first | assumption | omega) only [zA, zB, zC, zD, zE, zF, zG, qy8, qy2, qy3, zH, zI, dpos, dneg, zJ, zK, zL, zM, zN, zO, zP, qgh, e]
    · have hl : p.length = q.length := by
        by_cases h0 : p.length = 0
        · omega
        · have := (h (p.length - 1) (by omega)).1; omega
      have : p = q := q4t hl (fun i hi => (h i hi).2)
      subst this
      rw [decide_eq_false (q0s p)]
      simp (disch := first | assumption | omega) only [zA, zB, zC, zD, zE, zF, zG, qy8, qy2, qy3, zH, zI, dpos, dneg, zJ, zK, zL, zM, zN, zO, zP, qgh, e]
  · by_cases h1 : i < q.length
    · rw [if_pos h1] at e
      have h2 : rd p (i : Int) ≠ rd q (i : Int) := fun e => hp ⟨h1, e⟩
      by_cases h3 : rd p (i : Int) < rd q (i : Int)
      · rw [decide_eq_true h3] at e
        rw [decide_eq_true (q4s i hi h1 (fun j hj => (hb j hj).2) h3)]
        simp (disch := first | assumption | omega) only [zA, zB, zC, zD, zE, zF, zG, qy8, qy2, qy3, zH, zI, dpos, dneg, zJ, zK, zL, zM, zN, zO, zP, qgh, e]
      · rw [decide_eq_false h3] at e
        rw [decide_eq_false (q0v (q4s i h1 hi (fun j hj => ((hb j hj).2).symm) (by omega)))]
        simp (disch := first | assumption | omega) only [zA, zB, zC, zD, zE, zF, zG, qy8, qy2, qy3, zH, zI, dpos, dneg, zJ, zK, zL, zM, zN, zO, zP, qgh, e]
    · rw [if_neg h1] at e
      have : ltL q p := q4u (by omega) (fun j hj => ((hb j (by omega)).2).symm)
      rw [decide_eq_false (q0v this)]
      simp (disch := first | assumption | omega) only [zA, zB, zC, zD, zE, zF, zG, qy8, qy2, qy3, zH, zI, dpos, dneg, zJ, zK, zL, zM, zN, zO, zP, qgh, e]
theorem q7r (hn : Fu n) {l : List (List Int)} (hl : l.length ≤ 1000000000) (h0 : 0 < l.length) (hr : ∀ i, i < l.length → (row l i).length ≤ 1000000000) :
    iterN (qgn n) n (l, 1, ()) = some (if Asc l then .inr (.inl (l, ())) else .inl (false, ())) := by
  refine (qyv (f := qgn n) hn (fun i => (l, ((i + 1 : Nat) : Int), ())) (l.length - 1) (fun i => ltL (row l i) (row l (i + 1))) (d := (l, 1, ())) (r := .inr (.inl (l, ()))) (r' := .inl (false, ())) (by omega) rfl (fun i hi _ hp => ?_) (fun i hi _ hp => ?_) (fun _ => ?_)).trans (by
      congr 1
      have hiff : (∀ i, i < l.length - 1 → ltL (row l i) (row l (i + 1))) ↔ Asc l := by
        rw [q6m]
        constructor
        · intro h i hi h1
          have := h (i - 1) (by omega)
          rwa [show i - 1 + 1 = i by omega] at this
        · intro h i hi
          have := h (i + 1) (by omega) (by omega)
          simpa using this
      by_cases h : Asc l
      · rw [if_pos h, if_pos (hiff.2 h)]
      · rw [if_neg h, if_neg (fun h2 => h (hiff.1 h2))])
  · have hc := q7q hn (row l i) (row l (i + 1)) (hr _ (by omega))
    rw [decide_eq_true hp] at hc
    have w : IntKind.i64.wrap (((i + 1 : Nat) : Int) - 1) = (i : Int) := by rw [Srt.dn1 (by omega) (by omega)]; rfl
    simp (disch := first | assumption | omega) only [zA, zB, zC, zD, zE, zF, zG, qy8, qy2, qy3, zH, zI, dpos, dneg, zJ, zK, zL, zM, zN, zO, zP, qgn, qgm, w, qza, hc, up1]
  · have hc := q7q hn (row l i) (row l (i + 1)) (hr _ (by omega))
    rw [decide_eq_false hp] at hc
    have w : IntKind.i64.wrap (((i + 1 : Nat) : Int) - 1) = (i : Int) := by rw [Srt.dn1 (by omega) (by omega)]; rfl
    simp (disch := first | assumption | omega) only [zA, zB, zC, zD, zE, zF, zG, qy8, qy2, qy3, zH, zI, dpos, dneg, zJ, zK, zL, zM, zN, zO, zP, qgn, qgm, w, qza, hc]
  · have e : l.length - 1 + 1 = l.length := by omega
    rw [e]
    simp (disch := first | assumption | omega) only [zA, zB, zC, zD, zE, zF, zG, qy8, qy2, qy3, zH, zI, dpos, dneg, zJ, zK, zL, zM, zN, zO, zP, qgn, qgm]
theorem q7s (hn : Fu n) (l : List (List Int)) : ∃ b, qgo n l = some (b, ()) ∧ (b = true ↔ IsGrp l) := by
  have e1 := qzt hn l
  by_cases hv : GV l
  · rw [decide_eq_true hv] at e1
    obtain ⟨k, hk, hG⟩ := hv.pk
    have h5 := hv.2.1
    have e2 := q7r hn (l := l) (by omega) hv.1 (fun i hi => by have := (hG _ (qy9 hi)).2; omega)
    by_cases ha : Asc l
    · rw [if_pos ha] at e2
      have e0 : idx l 0 = some (row l 0) := qza (u := 0) hv.1
      have el : (((row l 0).length : Nat) : Int) = (k : Int) := by rw [(hG _ (qy9 hv.1)).2]
      have es := q5d hn hk.1 hk.2 (l := l) (by omega) hG
      have hid : PK k (idP k) := (1 : Pm k hk).2
      have hsub : IsGrp l ↔ (idP k ∈ l ∧ ∀ i, i < l.length → ∀ j, j < l.length → mulP (row l i) (row l j) ∈ l) := by
        constructor
        · rintro ⟨k', hk', H, hH, rfl⟩
          obtain rfl := (hG _ (qy9 (q6j hH))).uniq (q5q _ (qy9 (q6j hH)))
          refine ⟨q5p.2 hH.one, fun i hi j hj => ?_⟩
          obtain ⟨x, ex, hx⟩ := q6g (hk := hk) (q5q (H := H)) hi
          obtain ⟨y, ey, hy⟩ := q6g (hk := hk) (q5q (H := H)) hj
          rw [ex, ey]
          exact q5p.2 (hH.mul (q5t.1 hx) (q5t.1 hy))
        · rintro ⟨h1, h2⟩
          have hm : ∀ {a b : Pm k hk}, dn l a → dn l b → dn l (a * b) := fun {a b} ha hb => by
            obtain ⟨i, hi, ei⟩ := q66.1 ha
            obtain ⟨j, hj, ej⟩ := q66.1 hb
            have := h2 i hi j hj
            rw [ei, ej] at this
            exact this
          refine ⟨k, hk, dn l, ⟨h1, hm, q13 h1 hm⟩, ha.ext can_asc (fun p => ?_)⟩
          rw [q5o]
          exact ⟨fun h => ⟨hG p h, h⟩, fun ⟨_, h⟩ => h⟩
      have inner : ∀ (i : Nat), i < l.length → iterN (qgj n) n (l, (i : Int), 0, setT k (· ∈ l), ()) = some (if ∀ j, j < l.length → mulP (row l i) (row l j) ∈ l then .inr (.inl (l, (i : Int), setT k (· ∈ l), ())) else .inl (false, ())) := by
        intro i hi
        obtain ⟨x, ex, hx⟩ := q6g (hk := hk) hG hi
        refine (qyv (f := qgj n) hn (fun j => (l, (i : Int), (j : Int), setT k (· ∈ l), ())) l.length (fun j => mulP (row l i) (row l j) ∈ l) (r := .inr (.inl (l, (i : Int), setT k (· ∈ l), ()))) (r' := .inl (false, ())) (by omega) rfl (fun j hj _ hp => ?_) (fun j hj _ hp => ?_) (fun _ => ?_)).trans (by congr)
        · obtain ⟨y, ey, hy⟩ := q6g (hk := hk) hG hj
          have em := q5w hn x y
          have er := q6f hn (x * y)
          rw [ex, ey] at hp
          have eh := q5x (S := (· ∈ l)) (x * y).2 hp
          simp (disch := first | assumption | omega) only [zA, zB, zC, zD, zE, zF, zG, qy8, qy2, qy3, zH, zI, dpos, dneg, zJ, zK, zL, zM, zN, zO, zP, qgj, qgi, qza, ex, ey, em, er, eh, up1]
        · obtain ⟨y, ey, hy⟩ := q6g (hk := hk) hG hj
          have em := q5w hn x y
          have er := q6f hn (x * y)
          rw [ex, ey] at hp
          have eh := q5y (S := (· ∈ l)) (x * y).2 hp
          simp (disch := first | assumption | omega) only [zA, zB, zC, zD, zE, zF, zG, qy8, qy2, qy3, zH, zI, dpos, dneg, zJ, zK, zL, zM, zN, zO, zP, qgj, qgi, qza, ex, ey, em, er, eh, up1]
        · simp (disch := first | assumption | omega) only [zA, zB, zC, zD, zE, zF, zG, qy8, qy2, qy3, zH, zI, dpos, dneg, zJ, zK, zL, zM, zN, zO, zP, qgj, qgi]
      have outer : iterN (qgl n) n (l, 0, setT k (· ∈ l), ()) = some (if ∀ i, i < l.length → ∀ j, j < l.length → mulP (row l i) (row l j) ∈ l then .inr (.inl ()) else .inl (false, ())) := by
        refine (qyv (f := qgl n) hn (fun i => (l, (i : Int), setT k (· ∈ l), ())) l.length (fun i => ∀ j, j < l.length → mulP (row l i) (row l j) ∈ l) (d := (l, 0, setT k (· ∈ l), ())) (r := .inr (.inl ())) (r' := .inl (false, ())) (by omega) rfl (fun i hi _ hp => ?_) (fun i hi _ hp => ?_) (fun _ => ?_)).trans (by congr)
        · have e := inner i hi
          rw [if_pos hp] at e
          simp (disch := first | assumption | omega) only [zA, zB, zC, zD, zE, zF, zG, qy8, qy2, qy3, zH, zI, dpos, dneg, zJ, zK, zL, zM, zN, zO, zP, qgl, qgk, e, up1]
        · have e := inner i hi
          rw [if_neg hp] at e
          simp (disch := first | assumption | omega) only [zA, zB, zC, zD, zE, zF, zG, qy8, qy2, qy3, zH, zI, dpos, dneg, zJ, zK, zL, zM, zN, zO, zP, qgl, qgk, e]
        · simp (disch := first | assumption | omega) only [zA, zB, zC, zD, zE, zF, zG, qy8, qy2, qy3, zH, zI, dpos, dneg, zJ, zK, zL, zM, zN, zO, zP, qgl, qgk]
      by_cases c1 : idP k ∈ l
      · have ei := q5x (S := (· ∈ l)) hid c1
        rw [q5z] at ei
        have ei : idx (hasT k (· ∈ l)) 0 = some true := ei
        by_cases c2 : ∀ i, i < l.length → ∀ j, j < l.length → mulP (row l i) (row l j) ∈ l
        · rw [if_pos c2] at outer
          exact ⟨true, by simp (disch := first | assumption | omega) only [zA, zB, zC, zD, zE, zF, zG, qy8, qy2, qy3, zH, zI, dpos, dneg, zJ, zK, zL, zM, zN, zO, zP, qgo, e1, e2, e0, el, q67, es, ei, outer], fun _ => hsub.2 ⟨c1, c2⟩, fun _ => rfl⟩
        · rw [if_neg c2] at outer
          exact ⟨false, by simp (disch := first | assumption | omega) only [zA, zB, zC, zD, zE, zF, zG, qy8, qy2, qy3, zH, zI, dpos, dneg, zJ, zK, zL, zM, zN, zO, zP, qgo, e1, e2, e0, el, q67, es, ei, outer], (fun h => nomatch h), fun h => absurd (hsub.1 h).2 c2⟩
      · have ei := q5y (S := (· ∈ l)) hid c1
        rw [q5z] at ei
        have ei : idx (hasT k (· ∈ l)) 0 = some false := ei
        exact ⟨false, by simp (disch := first | assumption | omega) only [zA, zB, zC, zD, zE, zF, zG, qy8, qy2, qy3, zH, zI, dpos, dneg, zJ, zK, zL, zM, zN, zO, zP, qgo, e1, e2, e0, el, q67, es, ei], (fun h => nomatch h), fun h => absurd (hsub.1 h).1 c1⟩
    · rw [if_neg ha] at e2
      refine ⟨false, by simp (disch := first | assumption | omega) only [zA, zB, zC, zD, zE, zF, zG, qy8, qy2, qy3, zH, zI, dpos, dneg, zJ, zK, zL, zM, zN, zO, zP, qgo, e1, e2], (fun h => nomatch h), ?_⟩
      rintro ⟨k', hk', H, hH, rfl⟩
      exact absurd can_asc ha
  · rw [decide_eq_false hv] at e1
    refine ⟨false, by simp (disch := first | assumption | omega) only [zA, zB, zC, zD, zE, zF, zG, qy8, qy2, qy3, zH, zI, dpos, dneg, zJ, zK, zL, zM, zN, zO, zP, qgo, e1], (fun h => nomatch h), ?_⟩
    rintro ⟨k', hk', H, hH, rfl⟩
    exact absurd (q6l hH) hv
theorem q7t (hn : Fw n) (l : List (List Int)) (g : List Int) (al : qea n = some (true, ())) : qgp n l g = some (true, ()) := by
  have f := qzx hn.fu l 400 (by decide)
  by_cases h0 : (l.length : Int) ≤ 400 ∧ ∀ i, i < l.length → (row l i).length ≤ 100
  · rw [decide_eq_true h0] at f
    by_cases hg : 100 < g.length
    · simp (disch := first | assumption | omega) only [zA, zB, zC, zD, zE, zF, zG, qy8, qy2, qy3, zH, zI, dpos, dneg, zJ, zK, zL, zM, zN, zO, zP, qgp, f, al]
    obtain ⟨b, e1, h1⟩ := q7s hn.fu l
    obtain ⟨b', e2, h2⟩ := q6o hn l
    have hb : b' = b := by
      cases b with
      | true => exact h2.2 (h1.1 rfl)
      | false =>
        cases b' with
        | false => rfl
        | true => exact absurd (h1.2 (h2.1 rfl)) (by decide)
    subst hb
    cases b' with
    | true => simp (disch := first | assumption | omega) only [zA, zB, zC, zD, zE, zF, zG, qy8, qy2, qy3, zH, zI, dpos, dneg, zJ, zK, zL, zM, zN, zO, zP, qgp, f, e1, e2, al]
    | false =>
      have d1 : qd0 n l = some ([], 1, ()) := by simp (disch := first | assumption | omega) only [zA, zB, zC, zD, zE, zF, zG, qy8, qy2, qy3, zH, zI, dpos, dneg, zJ, zK, zL, zM, zN, zO, zP, qd0, e2]
      have d2 : qd3 n l = some ([], 1, ()) := by simp (disch := first | assumption | omega) only [zA, zB, zC, zD, zE, zF, zG, qy8, qy2, qy3, zH, zI, dpos, dneg, zJ, zK, zL, zM, zN, zO, zP, qd3, e2]
      have d3 : qex n l = some (false, 1, ()) := by
        have : ¬ (1 : Int) = 0 := by decide
        simp (disch := first | assumption | omega) only [zA, zB, zC, zD, zE, zF, zG, qy8, qy2, qy3, zH, zI, dpos, dneg, zJ, zK, zL, zM, zN, zO, zP, qex, d2]
      have d4 : qfd n l l = some (false, 1, ()) := by simp (disch := first | assumption | omega) only [zA, zB, zC, zD, zE, zF, zG, qy8, qy2, qy3, zH, zI, dpos, dneg, zJ, zK, zL, zM, zN, zO, zP, qfd, e2]
      have d5 : qfo n l = some ([], 1, ()) := by simp (disch := first | assumption | omega) only [zA, zB, zC, zD, zE, zF, zG, qy8, qy2, qy3, zH, zI, dpos, dneg, zJ, zK, zL, zM, zN, zO, zP, qfo, e2]
      have d6 : qfv n l = some ([], 1, ()) := by simp (disch := first | assumption | omega) only [zA, zB, zC, zD, zE, zF, zG, qy8, qy2, qy3, zH, zI, dpos, dneg, zJ, zK, zL, zM, zN, zO, zP, qfv, e2]
      have d7 : qge n l g = some ([], 1, ()) := by simp (disch := first | assumption | omega) only [zA, zB, zC, zD, zE, zF, zG, qy8, qy2, qy3, zH, zI, dpos, dneg, zJ, zK, zL, zM, zN, zO, zP, qge, qgd, e2]
      have w : IntKind.i64.wrap (IntKind.i64.wrap (IntKind.i64.wrap (IntKind.i64.wrap (((0 : Nat) : Int) + ((0 : Nat) : Int)) + ((0 : Nat) : Int)) + ((0 : Nat) : Int)) + ((0 : Nat) : Int)) = 0 := by decide
      simp (disch := first | assumption | omega) only [zA, zB, zC, zD, zE, zF, zG, qy8, qy2, qy3, zH, zI, dpos, dneg, zJ, zK, zL, zM, zN, zO, zP, qgp, f, e1, e2, d1, d2, d3, d4, d5, d6, d7, w, al]
  · rw [decide_eq_false h0] at f
    simp (disch := first | assumption | omega) only [zA, zB, zC, zD, zE, zF, zG, qy8, qy2, qy3, zH, zI, dpos, dneg, zJ, zK, zL, zM, zN, zO, zP, qgp, f, al]
end Go.Proofs.Ytemejeiajekmcaa.V
namespace Go.Proofs.Ytemejeiajekmcaa.V
open Go Classical Grp
theorem q7u (l : List (List Int)) (g : List Int) : ∃ n, qgp n l g = some (true, ()) := q65 fun n hn => q7t hn l g (q7p hn)
end Go.Proofs.Ytemejeiajekmcaa.V
