/- The law over the models, part 2. -/
import Derived.Test.YtemejeiajekmcaaPCountsa
namespace Go.Proofs.Ytemejeiajekmcaa.V
open Go Classical Grp
set_option linter.unusedVariables false
set_option linter.all false
variable {n : Nat} {k : Nat} {hk : 1 ≤ k ∧ k ≤ 7}
structure Gw (hk : 1 ≤ k ∧ k ≤ 7) (S : Pm k hk → Prop) (met : Option KS) (gens all : List (List Int)) : Prop where
  m : InvM k met all
  g : ∀ g ∈ gens, PK k g
  gl : gens.length + 1 ≤ all.length
  eq : ∀ x : Pm k hk, x.1 ∈ all ↔ Cl S x
  gs : ∀ x : Pm k hk, Cl (dn gens) x ↔ Cl S x
theorem InvM.nodup {met : Option KS} {all : List (List Int)} (h : InvM k met all) : all.Nodup ∧ ∀ p ∈ all, PK k p := by
  obtain ⟨m, _, _, _, h3, h4⟩ := h; exact ⟨h3, h4⟩
theorem Gw.few {S : Pm k hk → Prop} {met : Option KS} {gens all : List (List Int)} (h : Gw hk S met gens all) : all.length ≤ 5040 := q5f h.m.nodup.1 h.m.nodup.2 hk
theorem Cl.add {S : Pm k hk → Prop} {x y : Pm k hk} (hc : Cl S x) : Cl (fun y => S y ∨ y = x) y ↔ Cl S y :=
  ⟨Cl.mono (fun a ha => ha.elim (fun ha => .gen ha) (fun e => by rw [e]; exact hc)), Cl.mono (fun a ha => .gen (.inl ha))⟩
theorem q5n (hn : Fu n) {S : Pm k hk → Prop} {met : Option KS} {gens all : List (List Int)} (h : Gw hk S met gens all) (x : Pm k hk) :
    ∃ met' gens' all', qa5 n x.1 met gens all = some ((), (met', (gens', (all', ())))) ∧ Gw hk (fun y => S y ∨ y = x) met' gens' all' := by
  have hx := x.2
  have ek := qzj hn hx.1
  have el := h.m.look hx.1
  have hfew := h.few
  by_cases c : x.1 ∈ all
  · rw [decide_eq_true c] at el
    refine ⟨met, gens, all, ?_, h.m, h.g, h.gl, fun y => ?_, fun y => ?_⟩
    · simp (disch := first | assumption | omega) only [zA, zB, zC, zD, zE, zF, zG, qyj, qyd, qye, zH, zI, dpos, dneg, zJ, zK, zL, zM, zN, zO, zP, qa5, ek, el]
    · rw [Cl.add ((h.eq x).1 c)]; exact h.eq y
    · rw [Cl.add ((h.eq x).1 c)]; exact h.gs y
  · rw [decide_eq_false c] at el
    have hg' : ∀ g ∈ gens ++ [x.1], VP g ∧ g.length = k := fun g hg => by
      rw [List.mem_append, List.mem_singleton] at hg
      rcases hg with hg | rfl
      · exact h.g g hg
      · exact x.2
    have hgl := h.gl
    obtain ⟨met', ext, e, q1, q2, q3⟩ := qz3 hn (gens := gens ++ [x.1]) hg' (by rw [List.length_append]; simp only [List.length_cons, List.length_nil]; omega) h.m
    have gs' : ∀ y : Pm k hk, Cl (dn (gens ++ [x.1])) y ↔ Cl (fun y => S y ∨ y = x) y := fun y => by
      constructor
      · refine Cl.mono (fun a ha => ?_)
        have ha : a.1 ∈ gens ++ [x.1] := ha
        rw [List.mem_append, List.mem_singleton] at ha
        rcases ha with ha | ha
        · exact ((h.gs a).1 (.gen ha)).mono (fun b hb => .gen (.inl hb))
        · exact .gen (.inr (Pm.ext ha))
      · refine Cl.mono ?_
        rintro a (ha | rfl)
        · exact ((h.gs a).2 (.gen ha)).mono (fun b hb => .gen (List.mem_append_left _ hb))
        · exact .gen (show a.1 ∈ gens ++ [a.1] by simp)
    have hidm : idP k ∈ all := (h.eq 1).2 .one
    refine ⟨met', gens ++ [x.1], all ++ ext, ?_, q1, hg', ?_, fun y => ?_, gs'⟩
    · have hl1 : ([x.1] : List (List Int)).length = 1 := rfl
      simp (disch := first | assumption | omega) only [zA, zB, zC, zD, zE, zF, zG, qyj, qyd, qye, zH, zI, dpos, dneg, zJ, zK, zL, zM, zN, zO, zP, qa5, ek, el, e]
    · -- the new element is new
      have hxm : x.1 ∈ all ++ ext := by
        obtain ⟨i, hi, e⟩ := List.getElem_of_mem (List.mem_append_left ext hidm)
        have := q2 i hi gens.length (by simp)
        have r1 : row (all ++ ext) i = idP k := by unfold row; rw [List.getD_eq_getElem?_getD, List.getElem?_eq_getElem hi]; exact e
        have r2 : row (gens ++ [x.1]) gens.length = x.1 := by unfold row; rw [List.getD_eq_getElem?_getD, List.getElem?_append_right (Nat.le_refl _), Nat.sub_self]; rfl
        rw [r1, r2, q45 hx] at this
        exact this
      have : 1 ≤ ext.length := by
        rw [List.mem_append] at hxm
        rcases hxm with hxm | hxm
        · exact absurd hxm c
        · exact List.length_pos_of_mem hxm
      rw [List.length_append, List.length_append]
      simp only [List.length_cons, List.length_nil]; omega
    · constructor
      · intro hy
        have : ∀ p, Reach (gens ++ [x.1]) all p → ∃ hp : PK k p, Cl (fun y => S y ∨ y = x) (⟨p, hp⟩ : Pm k hk) := by
          intro p hp
          induction hp with
          | @base p hb =>
            have hp := h.m.nodup.2 _ hb
            exact ⟨hp, ((h.eq ⟨p, hp⟩).1 hb).mono (fun b hb => .gen (.inl hb))⟩
          | @step p g _ hq ih =>
            obtain ⟨hp, hc⟩ := ih
            have hgp := hg' g hq
            have := Cl.mul (G := Pm k hk) (S := fun y => S y ∨ y = x) (p := Pm.mk p hp) (q := Pm.mk g hgp) hc ((gs' _).1 (.gen hq))
            exact ⟨hp.mul hgp, this⟩
        obtain ⟨hp, hc⟩ := this y.1 (q3 y.1 hy)
        exact hc
      · intro hy
        replace hy := (gs' y).2 hy
        induction hy with
        | one => exact List.mem_append_left _ hidm
        | @step p g hc hq ih =>
          have hq : g.1 ∈ gens ++ [x.1] := hq
          obtain ⟨i, hi, e1⟩ := List.getElem_of_mem ih
          obtain ⟨j, hj, e2⟩ := List.getElem_of_mem hq
          have := q2 i hi j hj
          unfold row at this
          rw [List.getD_eq_getElem?_getD, List.getElem?_eq_getElem hi, List.getD_eq_getElem?_getD, List.getElem?_eq_getElem hj] at this
          simp only [Option.getD_some] at this
          rw [e1, e2] at this
          exact this
theorem q5o (hn : Fu n) {l : List (List Int)} (hl : l.length ≤ 1000000000) (h : ∀ p ∈ l, VP p) : ∃ m, qax n l = some (some m, ()) ∧ KOK m ∧ ∀ q, VP q → (keyP q ∈ m.map (·.1) ↔ q ∈ l) := by
  obtain ⟨r, e, m, rfl, h1, h2⟩ := qx9 (f := qaw n) hn
    (fun d => ∃ (i : Nat) (m : KS), d = (l, (l.length : Int), (i : Int), some m, ()) ∧ i ≤ l.length ∧ KOK m ∧ ∀ q, VP q → (keyP q ∈ m.map (·.1) ↔ q ∈ l.take i))
    (fun d => ((l.length : Int) - d.2.2.1).toNat)
    (fun r => ∃ m, r = .inl (some m, ()) ∧ KOK m ∧ ∀ q, VP q → (keyP q ∈ m.map (·.1) ↔ q ∈ l))
    (d := (l, (l.length : Int), 0, some [], ()))
    ⟨0, [], rfl, Nat.zero_le _, (fun x hx => nomatch hx), fun q _ => by simp⟩ (by simp only; omega) (by
      rintro d ⟨i, m, rfl, h1, h2, h3⟩
      by_cases c : i < l.length
      · have hv := h _ (qyk c)
        have ek := qzj hn hv
        obtain ⟨g1, g2⟩ := qzq h2 (qzo (row l i))
        refine .inl ⟨(l, (l.length : Int), ((i + 1 : Nat) : Int), some (mput (.arr 7 (.int .i8)) m (keyP (row l i)) true), ()), ?_, ⟨i + 1, _, rfl, c, g1, fun q hq => ?_⟩, by simp only; omega⟩
        · simp (disch := first | assumption | omega) only [zA, zB, zC, zD, zE, zF, zG, qyj, qyd, qye, zH, zI, dpos, dneg, zJ, zK, zL, zM, zN, zO, zP, qaw, qav, qyl, ek, up1]
        · rw [g2, h3 q hq, List.take_add_one, List.mem_append]
          have : l[i]?.toList = [row l i] := by unfold row; rw [List.getD_eq_getElem?_getD, List.getElem?_eq_getElem c]; rfl
          rw [this, List.mem_singleton]
          constructor
          · rintro (e | e)
            · exact .inr (qzm hq hv e)
            · exact .inl e
          · rintro (e | e)
            · exact .inr e
            · exact .inl (by rw [e])
      · obtain rfl : i = l.length := by omega
        rw [List.take_length] at h3
        refine .inr ⟨.inl (some m, ()), ?_, m, rfl, h2, h3⟩
        simp (disch := first | assumption | omega) only [zA, zB, zC, zD, zE, zF, zG, qyj, qyd, qye, zH, zI, dpos, dneg, zJ, zK, zL, zM, zN, zO, zP, qaw, qav])
  refine ⟨m, ?_, h1, h2⟩
  simp (disch := first | assumption | omega) only [zA, zB, zC, zD, zE, zF, zG, qyj, qyd, qye, zH, zI, dpos, dneg, zJ, zK, zL, zM, zN, zO, zP, qax, e]
theorem Gw.start (hn : Fu n) (hk : 1 ≤ k ∧ k ≤ 7) : ∃ met, qax n [idP k] = some (met, ()) ∧ Gw hk (fun _ => False) met [] [idP k] := by
  have hid : PK k (idP k) := (1 : Pm k hk).2
  obtain ⟨m, e, h1, h2⟩ := q5o hn (l := [idP k]) (by simp) (fun p hp => by rw [List.mem_singleton] at hp; subst hp; exact hid.1)
  have one : ∀ (S : Pm k hk → Prop), (∀ x, ¬ S x) → ∀ x, Cl S x ↔ x = 1 := fun S hS x => by
    constructor
    · intro h
      cases h with
      | one => rfl
      | step _ hq => exact absurd hq (hS _)
    · rintro rfl; exact .one
  refine ⟨some m, e, ⟨m, rfl, h1, h2, by simp, fun p hp => by rw [List.mem_singleton] at hp; subst hp; exact hid⟩, (fun g hg => nomatch hg), by simp, fun x => ?_, fun x => ?_⟩
  · rw [one _ (fun _ h => h), List.mem_singleton]
    exact ⟨fun h => Pm.ext h, fun h => by rw [h]; rfl⟩
  · rw [one _ (fun _ h => h), one _ (fun _ h => nomatch h)]
theorem q5p (hn : Fu n) {G : List (List Int)} (hG : ∀ g ∈ G, PK k g) (hGl : G.length ≤ 1000000000) {met : Option KS} (h : Gw hk (fun _ => False) met [] [idP k]) :
    ∃ met' gens' all', qa8 n G met [] [idP k] = some ((), (met', (gens', (all', ())))) ∧ Gw hk (dn G) met' gens' all' := by
  obtain ⟨r, e, met', gens', all', rfl, h1⟩ := qx9 (f := qa7 n) hn
    (fun d => ∃ (i : Nat) (met : Option KS) (gens all : List (List Int)), d = (((), ((), ((), ()))), G, (G.length : Int), (i : Int), met, gens, all, ()) ∧ i ≤ G.length ∧ Gw hk (dn (G.take i)) met gens all)
    (fun d => ((G.length : Int) - d.2.2.2.1).toNat)
    (fun r => ∃ met' gens' all', r = .inl (met', gens', all', ()) ∧ Gw hk (dn G) met' gens' all')
    (d := (((), ((), ((), ()))), G, (G.length : Int), 0, met, [], [idP k], ()))
    ⟨0, met, [], [idP k], rfl, Nat.zero_le _, by
      have : (dn (G.take 0) : Pm k hk → Prop) = fun _ => False := by funext x; apply propext; simp [dn]
      rw [this]; exact h⟩ (by simp only; omega) (by
      rintro d ⟨i, met, gens, all, rfl, h1, h2⟩
      by_cases c : i < G.length
      · obtain ⟨met', gens', all', e, q⟩ := q5n hn h2 ⟨row G i, hG _ (qyk c)⟩
        change qa5 n (row G i) met gens all = _ at e
        refine .inl ⟨(((), ((), ((), ()))), G, (G.length : Int), ((i + 1 : Nat) : Int), met', gens', all', ()), ?_, ⟨i + 1, met', gens', all', rfl, c, ?_⟩, by simp only; omega⟩
        · simp (disch := first | assumption | omega) only [zA, zB, zC, zD, zE, zF, zG, qyj, qyd, qye, zH, zI, dpos, dneg, zJ, zK, zL, zM, zN, zO, zP, qa7, qa6, qyl, e, up1]
        · have : (dn (G.take (i + 1)) : Pm k hk → Prop) = fun y => dn (G.take i) y ∨ y = ⟨row G i, hG _ (qyk c)⟩ := by
            funext y
            apply propext
            have e : G[i]?.toList = [row G i] := by unfold row; rw [List.getD_eq_getElem?_getD, List.getElem?_eq_getElem c]; rfl
            show y.1 ∈ G.take (i + 1) ↔ y.1 ∈ G.take i ∨ _
            rw [List.take_add_one, List.mem_append, e, List.mem_singleton]
            exact or_congr Iff.rfl ⟨fun h => Pm.ext h, fun h => by rw [h]⟩
          rw [this]; exact q
      · obtain rfl : i = G.length := by omega
        rw [List.take_length] at h2
        refine .inr ⟨.inl (met, gens, all, ()), ?_, met, gens, all, rfl, h2⟩
        simp (disch := first | assumption | omega) only [zA, zB, zC, zD, zE, zF, zG, qyj, qyd, qye, zH, zI, dpos, dneg, zJ, zK, zL, zM, zN, zO, zP, qa7, qa6])
  exact ⟨met', gens', all', by simp (disch := first | assumption | omega) only [zA, zB, zC, zD, zE, zF, zG, qyj, qyd, qye, zH, zI, dpos, dneg, zJ, zK, zL, zM, zN, zO, zP, qa8, e], h1⟩
theorem Gw.sorted (hn : Fw n) {S : Pm k hk → Prop} {met : Option KS} {gens all : List (List Int)} (h : Gw hk S met gens all) : qc3 n all = some (can (Cl S), ()) := by
  rw [q4g hn hk.1 hk.2 h.m.nodup.1 h.m.nodup.2]
  congr 2
  unfold can
  refine q0w hk.1 hk.2 (fun p hp => ?_)
  rw [h.eq ⟨p, hp⟩]
  exact ⟨fun h => ⟨hp, h⟩, fun ⟨_, h⟩ => h⟩
theorem q5q (hn : Fw n) {G : List (List Int)} (hG : ∀ g ∈ G, PK k g) (h0 : 0 < G.length) (hGl : G.length ≤ 1000000000) : qc4 n G = some (can (hk := hk) (Cl (dn G)), ()) := by
  have hr0 := hG _ (qyk h0)
  have e0 : idx G 0 = some (row G 0) := qyl (u := 0) h0
  have eid := qzg hn.fu k hk.1 hk.2
  obtain ⟨met, e1, h1⟩ := Gw.start hn.fu hk
  obtain ⟨met', gens', all', e2, h2⟩ := q5p hn.fu hG hGl h1
  have e3 := h2.sorted hn
  have el : (((row G 0).length : Nat) : Int) = (k : Int) := by rw [hr0.2]
  simp (disch := first | assumption | omega) only [zA, zB, zC, zD, zE, zF, zG, qyj, qyd, qye, zH, zI, dpos, dneg, zJ, zK, zL, zM, zN, zO, zP, qc4, e0, el, qa9, eid, e1, e2, e3]
theorem q5r {H : Pm k hk → Prop} : ∀ i, i < (can H).length → (row (can H) i).length ≤ 1000 := fun i hi => by
  have := (q5a _ (qyk hi)).2; omega
theorem q5s (hn : Fw n) {G : List (List Int)} (hv : GV G) (hG : ∀ g ∈ G, PK k g) : qda n G = some (can (hk := hk) (Cl (dn G)), 0, ()) := by
  have e1 := qy7 hn.fu G
  have e2 := q5q (hk := hk) hn hG hv.1 (by have := hv.2.1; omega)
  have e3 := qzt hn.fu (can (hk := hk) (Cl (dn G))) (by have := q5b (H := Cl (dn (hk := hk) G)); omega) q5r
  rw [decide_eq_true hv] at e1
  simp (disch := first | assumption | omega) only [zA, zB, zC, zD, zE, zF, zG, qyj, qyd, qye, zH, zI, dpos, dneg, zJ, zK, zL, zM, zN, zO, zP, qda, e1, e2, e3]
theorem GV.pk {G : List (List Int)} (hv : GV G) : ∃ k, (1 ≤ k ∧ k ≤ 7) ∧ ∀ g ∈ G, PK k g := by
  have h0 := (hv.2.2 0 hv.1)
  refine ⟨(row G 0).length, ⟨h0.1.1, h0.1.2.1⟩, fun g hg => ?_⟩
  obtain ⟨i, hi, e⟩ := List.getElem_of_mem hg
  have := hv.2.2 i hi
  unfold row at this ⊢
  rw [List.getD_eq_getElem?_getD (i := i), List.getElem?_eq_getElem hi] at this
  simp only [Option.getD_some] at this
  rw [e] at this
  exact ⟨this.2.1, this.2.2.symm⟩
theorem q5t (hn : Fu n) (H : Pm k hk → Prop) : qd9 n (can H) (can H) = some (true, ()) :=
  qzv hn _ (by have := q5b (H := H); omega) q5r
end Go.Proofs.Ytemejeiajekmcaa.V
namespace Go.Proofs.Ytemejeiajekmcaa.V
open Go Classical Grp
set_option linter.unusedVariables false
set_option linter.all false
variable {n : Nat} {k : Nat} {hk : 1 ≤ k ∧ k ≤ 7}
noncomputable def invTo (p : List Int) (i : Nat) : List Int := tab p.length (fun v => if p.idxOf (v : Int) < i then ((p.idxOf (v : Int) : Nat) : Int) else 0)
theorem q5u (p : List Int) : List.replicate p.length (0 : Int) = invTo p 0 := by
  rw [qys]; exact qyr (fun j hj => (if_neg (by omega)).symm)
theorem q5v {p : List Int} (hp : PK k p) {i v : Nat} (hi : i < k) (h : rd p (i : Int) = (v : Int)) : p.idxOf (v : Int) = i := by
  have hm : (v : Int) ∈ p := by rw [← h, q0p (by rw [hp.2]; exact hi)]; exact List.getElem_mem _
  have h1 := q41 hm
  exact hp.1.inj h1.1 (by rw [hp.2]; exact hi) (by rw [h1.2, h])
theorem q5w {p : List Int} (hp : PK k p) {i v : Nat} (hi : i < k) (h : rd p (i : Int) = (v : Int)) : (invTo p i).set v (i : Int) = invTo p (i + 1) := by
  have e := q5v hp hi h
  unfold invTo
  rw [qyq]
  refine qyr (fun j hj => ?_)
  by_cases c : j = v
  · subst c; rw [if_pos rfl, e, if_pos (by omega)]
  · rw [if_neg c]
    have : p.idxOf (j : Int) ≠ i := fun e2 => by
      have := (q41 (hp.memI (i := j) (by rw [← hp.2]; exact hj))).2
      rw [e2, h] at this; omega
    congr 1; apply propext; omega
theorem q5x {p : List Int} (hp : PK k p) : invTo p p.length = invP p :=
  qyr (fun j hj => if_pos (q41 (hp.memI (i := j) (by rw [← hp.2]; exact hj))).1)
theorem q5y (hn : Fu n) {p : List Int} (hp : PK k p) : qdo n p = some (invP p, ()) := by
  have h7 := hp.bd
  have hl := hp.2
  have g : iterN (qdn n) n (p, (p.length : Int), 0, List.replicate p.length 0, ()) = some (.inl (invP p, ())) := by
    refine qx5 hn (fun i => (p, (p.length : Int), (i : Int), invTo p i, ())) p.length (by omega) (by rw [q5u]; rfl) (fun i hi => ?_) ?_
    · obtain ⟨v, hv, e⟩ := hp.at (i := i) (by omega)
      have es := q5w hp (by omega) e
      have ei : idx (invTo p i) (v : Int) = some (if p.idxOf (v : Int) < i then ((p.idxOf (v : Int) : Nat) : Int) else 0) := qyu (by omega)
      simp (disch := first | assumption | omega) only [zA, zB, zC, zD, zE, zF, zG, qyj, qyd, qye, zH, zI, dpos, dneg, zJ, zK, zL, zM, zN, zO, zP, qdn, qdm, qym, e, ei, es, up1]
    · simp (disch := first | assumption | omega) only [zA, zB, zC, zD, zE, zF, zG, qyj, qyd, qye, zH, zI, dpos, dneg, zJ, zK, zL, zM, zN, zO, zP, qdn, qdm, q5x hp]
  simp (disch := first | assumption | omega) only [zA, zB, zC, zD, zE, zF, zG, qyj, qyd, qye, zH, zI, dpos, dneg, zJ, zK, zL, zM, zN, zO, zP, qdo, g]
theorem q5z (hn : Fu n) (x : Pm k hk) : qdo n x.1 = some ((x⁻¹).1, ()) := q5y hn x.2
theorem q50 (hn : Fu n) (x y : Pm k hk) : qdp n x.1 y.1 = some ((cm x y).1, ()) := by
  simp only [qdp, q5z hn, q5g hn, Option.bind_some]; rfl
theorem q51 (hn : Fu n) (p c : Pm k hk) : qdq n p.1 c.1 = some ((cj c p).1, ()) := by
  simp only [qdq, q5z hn, q5g hn, Option.bind_some]; rfl
theorem q52 {l : List (List Int)} (h : ∀ p ∈ l, PK k p) {i : Nat} (hi : i < l.length) : ∃ x : Pm k hk, row l i = x.1 ∧ dn l x := ⟨⟨row l i, h _ (qyk hi)⟩, rfl, qyk hi⟩
theorem q53 {l : List (List Int)} {i : Nat} (hi : i < l.length) {x : Pm k hk} (hx : row l i = x.1) (y : Pm k hk) : dn (l.take (i + 1)) y ↔ dn (l.take i) y ∨ y = x := by
  have e : l[i]?.toList = [x.1] := by rw [← hx]; unfold row; rw [List.getD_eq_getElem?_getD, List.getElem?_eq_getElem hi]; rfl
  show y.1 ∈ l.take (i + 1) ↔ y.1 ∈ l.take i ∨ _
  rw [List.take_add_one, List.mem_append, e, List.mem_singleton]
  exact or_congr Iff.rfl ⟨fun h => Pm.ext h, fun h => by rw [h]⟩
theorem q54 {l : List (List Int)} (y : Pm k hk) : ¬ dn (l.take 0) y := fun h => by unfold dn at h; simp at h
def IsGrp (l : List (List Int)) : Prop := ∃ (k : Nat) (hk : 1 ≤ k ∧ k ≤ 7) (H : Pm k hk → Prop), Sub H ∧ l = can H
theorem q55 {H : Pm k hk → Prop} (hH : Sub H) : 0 < (can H).length := List.length_pos_of_mem (q49.2 hH.one)
theorem q56 {H : Pm k hk → Prop} (hH : Sub H) : (row (can H) 0).length = k := (q5a _ (qyk (q55 hH))).2
theorem Cl.can {H : Pm k hk → Prop} (hH : Sub H) (x : Pm k hk) : Cl (dn (Go.Proofs.Ytemejeiajekmcaa.V.can H)) x ↔ H x := by
  have : (dn (Go.Proofs.Ytemejeiajekmcaa.V.can H) : Pm k hk → Prop) = H := funext fun x => propext q5e
  rw [this]; exact Cl.self hH
theorem q57 {H : Pm k hk → Prop} (hH : Sub H) : GV (can H) := by
  refine ⟨q55 hH, q5b, fun i hi => ?_⟩
  have h0 := q5a _ (qyk (q55 hH))
  have h1 := q5a _ (qyk hi)
  exact ⟨h0.1, h1.1, by rw [h0.2, h1.2]⟩
theorem PK.uniq {k k' : Nat} {p : List Int} (h : PK k p) (h' : PK k' p) : k = k' := by rw [← h.2, ← h'.2]
theorem q58 {l : List (List Int)} : Asc l ↔ ∀ i, i < l.length → 0 < i → ltL (row l (i - 1)) (row l i) := by
  have rg : ∀ (i : Nat) (h : i < l.length), row l i = l[i] := fun i h => by unfold row; rw [List.getD_eq_getElem?_getD, List.getElem?_eq_getElem h]; rfl
  constructor
  · intro h i hi h0
    rw [rg i hi, rg (i - 1) (by omega)]
    exact List.pairwise_iff_getElem.1 h (i - 1) i (by omega) hi (by omega)
  · intro h
    refine List.pairwise_iff_getElem.2 (fun i j hi hj hij => ?_)
    rw [← rg i hi, ← rg j hj]
    clear hi
    induction j with
    | zero => omega
    | succ j ih =>
      have := h (j + 1) hj (by omega)
      simp only [Nat.add_sub_cancel] at this
      by_cases e : i = j
      · rw [e]; exact this
      · exact qz5 (ih (by omega) (by omega)) this
theorem q59 (hn : Fu n) {l : List (List Int)} (hl : l.length ≤ 1000000000) (hr : ∀ i, i < l.length → (row l i).length ≤ 1000000000) :
    iterN (qdc n) n (l, (l.length : Int), 0, ()) = some (if Asc l then .inr (.inl (l, ())) else .inl (false, ())) := by
  refine (qx6 (f := qdc n) hn (fun i => (l, (l.length : Int), (i : Int), ())) l.length (fun i => 0 < i → ltL (row l (i - 1)) (row l i)) (d := (l, (l.length : Int), 0, ())) (r := .inr (.inl (l, ()))) (r' := .inl (false, ())) (by omega) rfl (fun i hi _ hp => ?_) (fun i hi _ hp => ?_) (fun _ => ?_)).trans (by
      congr 1
      by_cases h : Asc l
      · rw [if_pos h, if_pos (fun i hi h0 => q58.1 h i hi h0)]
      · rw [if_neg h, if_neg (fun h2 => h (q58.2 h2))])
  · by_cases c : 0 < i
    · have hc := q4d hn (row l (i - 1)) (row l i) (hr _ (by omega))
      rw [q38 (hp c)] at hc
      have z : ¬ (0 : Int) ≤ -1 := by decide
      simp (disch := first | assumption | omega) only [zA, zB, zC, zD, zE, zF, zG, qyj, qyd, qye, zH, zI, dpos, dneg, zJ, zK, zL, zM, zN, zO, zP, qdc, qdb, Srt.dn1, qyl, hc, up1]
    · obtain rfl : i = 0 := by omega
      simp (disch := first | assumption | omega) only [zA, zB, zC, zD, zE, zF, zG, qyj, qyd, qye, zH, zI, dpos, dneg, zJ, zK, zL, zM, zN, zO, zP, qdc, qdb, up1]
  · have c : 0 < i := Classical.byContradiction fun h => hp (fun h2 => absurd h2 h)
    have hc := q4d hn (row l (i - 1)) (row l i) (hr _ (by omega))
    have hge : 0 ≤ cmpL (row l (i - 1)) (row l i) := by
      have : ¬ cmpL (row l (i - 1)) (row l i) < 0 := fun h => hp (fun _ => q4b.1 h)
      omega
    simp (disch := first | assumption | omega) only [zA, zB, zC, zD, zE, zF, zG, qyj, qyd, qye, zH, zI, dpos, dneg, zJ, zK, zL, zM, zN, zO, zP, qdc, qdb, Srt.dn1, qyl, hc]
  · simp (disch := first | assumption | omega) only [zA, zB, zC, zD, zE, zF, zG, qyj, qyd, qye, zH, zI, dpos, dneg, zJ, zK, zL, zM, zN, zO, zP, qdc, qdb]
theorem q6a (hn : Fw n) (l : List (List Int)) : ∃ b, qdd n l = some (b, ()) ∧ (b = true ↔ IsGrp l) := by
  have e1 := qy7 hn.fu l
  by_cases hv : GV l
  · rw [decide_eq_true hv] at e1
    obtain ⟨k, hk, hG⟩ := hv.pk
    have e2 := q59 hn.fu (l := l) (by have := hv.2.1; omega) (fun i hi => by have := (hG _ (qyk hi)).2; omega)
    have e3 := q5q (hk := hk) hn hG hv.1 (by have := hv.2.1; omega)
    by_cases ha : Asc l
    · rw [if_pos ha] at e2
      refine ⟨decide (((can (hk := hk) (Cl (dn l))).length : Int) = (l.length : Int)), by simp (disch := first | assumption | omega) only [zA, zB, zC, zD, zE, zF, zG, qyj, qyd, qye, zH, zI, dpos, dneg, zJ, zK, zL, zM, zN, zO, zP, qdd, e1, e2, e3], ?_⟩
      rw [decide_eq_true_eq]
      constructor
      · intro h
        have hp := qz8 ha.nodup (L := can (hk := hk) (Cl (dn l))) (fun p hp => q48.2 ⟨hG p hp, .gen hp⟩) (by omega)
        refine ⟨k, hk, Cl (dn l), Cl.sub _, ha.ext can_asc (fun p => hp.mem_iff)⟩
      · rintro ⟨k', hk', H, hH, rfl⟩
        have h0 := qyk (q55 hH)
        obtain rfl := (hG _ h0).uniq (q5a _ h0)
        rw [q5c (Cl.can hH)]
    · rw [if_neg ha] at e2
      refine ⟨false, by simp (disch := first | assumption | omega) only [zA, zB, zC, zD, zE, zF, zG, qyj, qyd, qye, zH, zI, dpos, dneg, zJ, zK, zL, zM, zN, zO, zP, qdd, e1, e2], (fun h => nomatch h), ?_⟩
      rintro ⟨k', hk', H, hH, rfl⟩
      exact absurd can_asc ha
  · rw [decide_eq_false hv] at e1
    refine ⟨false, by simp (disch := first | assumption | omega) only [zA, zB, zC, zD, zE, zF, zG, qyj, qyd, qye, zH, zI, dpos, dneg, zJ, zK, zL, zM, zN, zO, zP, qdd, e1], (fun h => nomatch h), ?_⟩
    rintro ⟨k', hk', H, hH, rfl⟩
    exact absurd (q57 hH) hv
theorem q6b (hn : Fw n) {H : Pm k hk → Prop} (hH : Sub H) : qdd n (can H) = some (true, ()) := by
  obtain ⟨b, e, h⟩ := q6a hn (can H)
  rw [h.2 ⟨k, hk, H, hH, rfl⟩] at e
  exact e
theorem q6c (hn : Fw n) {G : List (List Int)} (hG : ∀ g ∈ G, PK k g) (h0 : 0 < G.length) (hGl : G.length ≤ 1000000000) : qdi n G = some ((can (hk := hk) (Cl (dn G)), ()), (G, ())) := by
  have hr0 := hG _ (qyk h0)
  have e0 : idx G 0 = some (row G 0) := qyl (u := 0) h0
  have eid := qzg hn.fu k hk.1 hk.2
  obtain ⟨met, e1, h1⟩ := Gw.start hn.fu hk
  obtain ⟨r, e2, met', gens', all', rfl, h2⟩ := qx9 (f := qdf n) hn.fu
    (fun d => ∃ (i : Nat) (met : Option KS) (gens all : List (List Int)), d = (((), ((), ((), ()))), (G.length : Int), (i : Int), met, gens, all, G, ()) ∧ i ≤ G.length ∧ Gw hk (dn (G.take i)) met gens all)
    (fun d => ((G.length : Int) - d.2.2.1).toNat)
    (fun r => ∃ met' gens' all', r = .inl (met', gens', all', G, ()) ∧ Gw hk (dn G) met' gens' all')
    (d := (((), ((), ((), ()))), (G.length : Int), 0, met, [], [idP k], G, ()))
    ⟨0, met, [], [idP k], rfl, Nat.zero_le _, by
      have : (dn (G.take 0) : Pm k hk → Prop) = fun _ => False := by funext x; apply propext; exact ⟨fun h => q54 x h, fun h => h.elim⟩
      rw [this]; exact h1⟩ (by simp only; omega) (by
      rintro d ⟨i, met, gens, all, rfl, h1, h2⟩
      by_cases c : i < G.length
      · obtain ⟨x, ex, hx⟩ := q52 (hk := hk) hG c
        obtain ⟨met', gens', all', e, q⟩ := q5n hn.fu h2 x
        refine .inl ⟨(((), ((), ((), ()))), (G.length : Int), ((i + 1 : Nat) : Int), met', gens', all', G, ()), ?_, ⟨i + 1, met', gens', all', rfl, c, ?_⟩, by simp only; omega⟩
        · simp (disch := first | assumption | omega) only [zA, zB, zC, zD, zE, zF, zG, qyj, qyd, qye, zH, zI, dpos, dneg, zJ, zK, zL, zM, zN, zO, zP, qdf, qde, qyl, ex, e, up1]
        · have : (dn (G.take (i + 1)) : Pm k hk → Prop) = fun y => dn (G.take i) y ∨ y = x := funext fun y => propext (q53 c ex y)
          rw [this]; exact q
      · obtain rfl : i = G.length := by omega
        rw [List.take_length] at h2
        refine .inr ⟨.inl (met, gens, all, G, ()), ?_, met, gens, all, rfl, h2⟩
        simp (disch := first | assumption | omega) only [zA, zB, zC, zD, zE, zF, zG, qyj, qyd, qye, zH, zI, dpos, dneg, zJ, zK, zL, zM, zN, zO, zP, qdf, qde])
  have e3 := h2.sorted hn
  have el : (((row G 0).length : Nat) : Int) = (k : Int) := by rw [hr0.2]
  simp (disch := first | assumption | omega) only [zA, zB, zC, zD, zE, zF, zG, qyj, qyd, qye, zH, zI, dpos, dneg, zJ, zK, zL, zM, zN, zO, zP, qdi, e0, el, qdh, eid, e1, qdg, e2, e3]
def KSet (hk : 1 ≤ k ∧ k ≤ 7) (m : KS) (S : Pm k hk → Prop) : Prop := KOK m ∧ ∀ x : Pm k hk, keyP x.1 ∈ m.map (·.1) ↔ S x
theorem KSet.look {m : KS} {S : Pm k hk → Prop} (h : KSet hk m S) (x : Pm k hk) : (mget (.arr 7 (.int .i8)) m (keyP x.1)).getD false = decide (S x) := by
  rw [qzp h.1 (qzo x.1)]
  by_cases c : S x
  · rw [if_pos ((h.2 x).2 c), decide_eq_true c]; rfl
  · rw [if_neg (fun e => c ((h.2 x).1 e)), decide_eq_false c]; rfl
theorem KSet.look_in {m : KS} {S : Pm k hk → Prop} (h : KSet hk m S) {x : Pm k hk} (hx : S x) : (mget (.arr 7 (.int .i8)) m (keyP x.1)).getD false = true := by rw [h.look, decide_eq_true hx]
theorem KSet.look_out {m : KS} {S : Pm k hk → Prop} (h : KSet hk m S) {x : Pm k hk} (hx : ¬ S x) : (mget (.arr 7 (.int .i8)) m (keyP x.1)).getD false = false := by rw [h.look, decide_eq_false hx]
theorem KSet.put {m : KS} {S : Pm k hk → Prop} (h : KSet hk m S) (x : Pm k hk) : KSet hk (mput (.arr 7 (.int .i8)) m (keyP x.1) true) (fun y => S y ∨ y = x) := by
  obtain ⟨g1, g2⟩ := qzq h.1 (qzo x.1)
  refine ⟨g1, fun y => ?_⟩
  rw [g2, h.2]
  exact ⟨fun h => h.elim (fun h => .inr (Pm.ext (qzm y.2.1 x.2.1 h))) .inl, fun h => h.elim .inr (fun h => .inl (by rw [h]))⟩
theorem KSet.nil : KSet hk [] (fun _ => False) := ⟨(fun x hx => nomatch hx), fun x => ⟨(fun h => nomatch h), fun h => h.elim⟩⟩
theorem q6d (hn : Fu n) {l : List (List Int)} (hl : l.length ≤ 1000000000) (h : ∀ p ∈ l, PK k p) : ∃ m, qax n l = some (some m, ()) ∧ KSet hk m (dn l) := by
  obtain ⟨m, e, h1, h2⟩ := q5o hn hl (fun p hp => (h p hp).1)
  exact ⟨m, e, h1, fun x => h2 x.1 x.2.1⟩
theorem q6e (hn : Fu n) (x : Pm k hk) : qau n x.1 = some (keyP x.1, ()) := qzj hn x.2.1
theorem q6f (hn : Fw n) {H : Pm k hk → Prop} (hH : Sub H) : ∃ out, qdl n (can H) = some (out, ()) ∧ (∀ p ∈ out, PK k p) ∧ (∀ x : Pm k hk, Cl (dn out) x ↔ H x) ∧ (∀ x : Pm k hk, dn out x → H x) ∧ 0 < out.length ∧ out.length ≤ 5041 := by
  have h0 := q55 hH
  have e0 : idx (can H) 0 = some (row (can H) 0) := qyl (u := 0) h0
  have el : (((row (can H) 0).length : Nat) : Int) = (k : Int) := by rw [q56 hH]
  have eid := qzg hn.fu k hk.1 hk.2
  obtain ⟨m0, e1, h1⟩ := q6d (hk := hk) hn.fu (l := [idP k]) (by simp) (fun p hp => by rw [List.mem_singleton] at hp; subst hp; exact (1 : Pm k hk).2)
  have hcl := q5b (H := H)
  obtain ⟨r, e, out, rfl, q1, q2, q3, q4, q5⟩ := qx9 (f := qdk n) hn.fu
    (fun d => ∃ (i : Nat) (m : KS) (out : List (List Int)), d = (some m, can H, ((can H).length : Int), (i : Int), out, ()) ∧ i ≤ (can H).length ∧ KSet hk m (Cl (dn out)) ∧ (∀ p ∈ out, PK k p) ∧ (∀ x : Pm k hk, dn out x → H x) ∧ 0 < out.length ∧ out.length ≤ i + 1 ∧ ∀ x : Pm k hk, dn ((can H).take i) x → Cl (dn out) x)
    (fun d => (((can H).length : Int) - d.2.2.2.1).toNat)
    (fun r => ∃ out, r = .inl (out, ()) ∧ (∀ p ∈ out, PK k p) ∧ (∀ x : Pm k hk, Cl (dn out) x ↔ H x) ∧ (∀ x : Pm k hk, dn out x → H x) ∧ 0 < out.length ∧ out.length ≤ 5041)
    (d := (some m0, can H, ((can H).length : Int), 0, [idP k], ()))
    ⟨0, m0, [idP k], rfl, Nat.zero_le _, ⟨h1.1, fun x => by
      rw [h1.2]
      constructor
      · intro h; exact .gen h
      · intro h
        have one : ∀ y : Pm k hk, dn [idP k] y ↔ y = 1 := fun y => by
          unfold dn; rw [List.mem_singleton]; exact ⟨fun h => Pm.ext h, fun h => by rw [h]; rfl⟩
        rw [one]
        induction h with
        | one => rfl
        | step _ hq ih => rw [ih, (one _).1 hq, Grp.mul_one]⟩, fun p hp => by rw [List.mem_singleton] at hp; subst hp; exact (1 : Pm k hk).2, fun x hx => by
        have : x = 1 := Pm.ext (List.mem_singleton.1 hx)
        rw [this]; exact hH.one, by simp, by simp, fun x hx => absurd hx (q54 x)⟩ (by simp only; omega) (by
      rintro d ⟨i, m, out, rfl, p1, p2, p3, p4, p5, p6, p7⟩
      by_cases c : i < (can H).length
      · obtain ⟨x, ex, hx⟩ := q52 (hk := hk) q5a c
        have hHx : H x := q5e.1 hx
        have ek := q6e hn.fu x
        have elk := p2.look x
        by_cases c2 : Cl (dn out) x
        · rw [decide_eq_true c2] at elk
          refine .inl ⟨(some m, can H, ((can H).length : Int), ((i + 1 : Nat) : Int), out, ()), ?_, ⟨i + 1, m, out, rfl, c, p2, p3, p4, p5, by omega, fun y hy => ?_⟩, by simp only; omega⟩
          · simp (disch := first | assumption | omega) only [zA, zB, zC, zD, zE, zF, zG, qyj, qyd, qye, zH, zI, dpos, dneg, zJ, zK, zL, zM, zN, zO, zP, qdk, qdj, qyl, ex, ek, elk, up1]
          · rcases (q53 c ex y).1 hy with h | rfl
            · exact p7 y h
            · exact c2
        · rw [decide_eq_false c2] at elk
          have hP : ∀ p ∈ out ++ [x.1], PK k p := fun p hp => by
            rw [List.mem_append, List.mem_singleton] at hp
            rcases hp with hp | rfl
            · exact p3 p hp
            · exact x.2
          have hlen : (out ++ [x.1]).length = out.length + 1 := by simp
          have ec := q6c (hk := hk) hn hP (by omega) (by omega)
          obtain ⟨m', em, hm⟩ := q6d (hk := hk) hn.fu (l := can (hk := hk) (Cl (dn (out ++ [x.1])))) (by have := q5b (H := Cl (dn (hk := hk) (out ++ [x.1]))); omega) q5a
          have hl1 : ([x.1] : List (List Int)).length = 1 := rfl
          refine .inl ⟨(some m', can H, ((can H).length : Int), ((i + 1 : Nat) : Int), out ++ [x.1], ()), ?_, ⟨i + 1, m', out ++ [x.1], rfl, c, ⟨hm.1, fun y => by rw [hm.2, q5e]⟩, hP, fun y hy => ?_, by omega, by omega, fun y hy => ?_⟩, by simp only; omega⟩
          · simp (disch := first | assumption | omega) only [zA, zB, zC, zD, zE, zF, zG, qyj, qyd, qye, zH, zI, dpos, dneg, zJ, zK, zL, zM, zN, zO, zP, qdk, qdj, qyl, ex, ek, elk, ec, em, up1]
          · have hy : y.1 ∈ out ++ [x.1] := hy
            rw [List.mem_append, List.mem_singleton] at hy
            rcases hy with hy | hy
            · exact p4 y hy
            · rw [Pm.ext hy]; exact hHx
          · rcases (q53 c ex y).1 hy with h | rfl
            · exact (p7 y h).mono (fun z hz => .gen (List.mem_append_left _ hz))
            · exact .gen (show y.1 ∈ out ++ [y.1] by simp)
      · obtain rfl : i = (can H).length := by omega
        rw [List.take_length] at p7
        refine .inr ⟨.inl (out, ()), ?_, out, rfl, p3, fun x => ⟨fun h => h.le hH p4, fun h => p7 x (q5e.2 h)⟩, p4, p5, by omega⟩
        simp (disch := first | assumption | omega) only [zA, zB, zC, zD, zE, zF, zG, qyj, qyd, qye, zH, zI, dpos, dneg, zJ, zK, zL, zM, zN, zO, zP, qdk, qdj])
  refine ⟨out, ?_, q1, q2, q3, q4, q5⟩
  simp (disch := first | assumption | omega) only [zA, zB, zC, zD, zE, zF, zG, qyj, qyd, qye, zH, zI, dpos, dneg, zJ, zK, zL, zM, zN, zO, zP, qdl, e0, el, eid, e1, e]
theorem q6g (hn : Fu n) {l t1 t11 t17 : List (List Int)} (hl : ∀ p ∈ l, PK k p) (hll : l.length ≤ 1000000000) (p c : Pm k hk) {a12 a13 a18 a19 : Int} {S : Pm k hk → Prop} {met : Option KS} {gens all : List (List Int)} (h : Gw hk S met gens all) :
    ∃ met' gens' all', iterN (qds n) n (((), ((), ((), ()))), t1, l, p.1, c.1, t11, a12, a13, t17, a18, a19, l, (l.length : Int), 0, met, gens, all, ()) = some (.inl (((), ((), ((), ()))), t1, l, p.1, t11, a12, a13, t17, a18, a19, met', gens', all', ())) ∧ Gw hk (fun y => S y ∨ ∃ x, dn l x ∧ y = cj x c) met' gens' all' := by
  obtain ⟨r, e, met', gens', all', rfl, h2⟩ := qx9 (f := qds n) hn
    (fun d => ∃ (i : Nat) (met : Option KS) (gens all : List (List Int)), d = (((), ((), ((), ()))), t1, l, p.1, c.1, t11, a12, a13, t17, a18, a19, l, (l.length : Int), (i : Int), met, gens, all, ()) ∧ i ≤ l.length ∧ Gw hk (fun y => S y ∨ ∃ x, dn (l.take i) x ∧ y = cj x c) met gens all)
    (fun d => ((l.length : Int) - d.2.2.2.2.2.2.2.2.2.2.2.2.2.1).toNat)
    (fun r => ∃ met' gens' all', r = .inl (((), ((), ((), ()))), t1, l, p.1, t11, a12, a13, t17, a18, a19, met', gens', all', ()) ∧ Gw hk (fun y => S y ∨ ∃ x, dn l x ∧ y = cj x c) met' gens' all')
    (d := (((), ((), ((), ()))), t1, l, p.1, c.1, t11, a12, a13, t17, a18, a19, l, (l.length : Int), 0, met, gens, all, ()))
    ⟨0, met, gens, all, rfl, Nat.zero_le _, by
      have : (fun y => S y ∨ ∃ x, dn (l.take 0) x ∧ y = cj x c) = S := funext fun y => propext ⟨fun h => h.elim id (fun ⟨x, hx, _⟩ => absurd hx (q54 x)), .inl⟩
      rw [this]; exact h⟩ (by simp only; omega) (by
      rintro d ⟨i, met, gens, all, rfl, h1, h2⟩
      by_cases c1 : i < l.length
      · obtain ⟨x, ex, hx⟩ := q52 (hk := hk) hl c1
        obtain ⟨met', gens', all', e, q⟩ := q5n hn h2 (cj x c)
        have ec := q51 hn c x
        refine .inl ⟨(((), ((), ((), ()))), t1, l, p.1, c.1, t11, a12, a13, t17, a18, a19, l, (l.length : Int), ((i + 1 : Nat) : Int), met', gens', all', ()), ?_, ⟨i + 1, met', gens', all', rfl, c1, ?_⟩, by simp only; omega⟩
        · simp (disch := first | assumption | omega) only [zA, zB, zC, zD, zE, zF, zG, qyj, qyd, qye, zH, zI, dpos, dneg, zJ, zK, zL, zM, zN, zO, zP, qds, qdr, qyl, ex, ec, e, up1]
        · have : (fun y => S y ∨ ∃ x, dn (l.take (i + 1)) x ∧ y = cj x c) = fun y => (S y ∨ ∃ x, dn (l.take i) x ∧ y = cj x c) ∨ y = cj x c := funext fun y => propext (by
            constructor
            · rintro (h | ⟨z, hz, rfl⟩)
              · exact .inl (.inl h)
              · rcases (q53 c1 ex z).1 hz with h | rfl
                · exact .inl (.inr ⟨z, h, rfl⟩)
                · exact .inr rfl
            · rintro ((h | ⟨z, hz, rfl⟩) | rfl)
              · exact .inl h
              · exact .inr ⟨z, (q53 c1 ex z).2 (.inl hz), rfl⟩
              · exact .inr ⟨x, (q53 c1 ex x).2 (.inr rfl), rfl⟩)
          rw [this]; exact q
      · obtain rfl : i = l.length := by omega
        rw [List.take_length] at h2
        refine .inr ⟨_, ?_, met, gens, all, rfl, h2⟩
        simp (disch := first | assumption | omega) only [zA, zB, zC, zD, zE, zF, zG, qyj, qyd, qye, zH, zI, dpos, dneg, zJ, zK, zL, zM, zN, zO, zP, qds, qdr])
  exact ⟨met', gens', all', e, h2⟩
theorem q6h (hn : Fu n) {l G t11 : List (List Int)} (hl : ∀ p ∈ l, PK k p) (hll : l.length ≤ 1000000000) (hG : ∀ p ∈ G, PK k p) (hGl : G.length ≤ 1000000000) (p : Pm k hk) {a12 a13 : Int} {S : Pm k hk → Prop} {met : Option KS} {gens all : List (List Int)} (h : Gw hk S met gens all) :
    ∃ met' gens' all', iterN (qdu n) n (((), ((), ((), ()))), G, l, p.1, t11, a12, a13, G, (G.length : Int), 0, met, gens, all, ()) = some (.inl (((), ((), ((), ()))), G, l, t11, a12, a13, met', gens', all', ())) ∧ Gw hk (fun y => S y ∨ ∃ q x, dn G q ∧ dn l x ∧ y = cj x (cm p q)) met' gens' all' := by
  obtain ⟨r, e, met', gens', all', rfl, h2⟩ := qx9 (f := qdu n) hn
    (fun d => ∃ (i : Nat) (met : Option KS) (gens all : List (List Int)), d = (((), ((), ((), ()))), G, l, p.1, t11, a12, a13, G, (G.length : Int), (i : Int), met, gens, all, ()) ∧ i ≤ G.length ∧ Gw hk (fun y => S y ∨ ∃ q x, dn (G.take i) q ∧ dn l x ∧ y = cj x (cm p q)) met gens all)
    (fun d => ((G.length : Int) - d.2.2.2.2.2.2.2.2.2.1).toNat)
    (fun r => ∃ met' gens' all', r = .inl (((), ((), ((), ()))), G, l, t11, a12, a13, met', gens', all', ()) ∧ Gw hk (fun y => S y ∨ ∃ q x, dn G q ∧ dn l x ∧ y = cj x (cm p q)) met' gens' all')
    (d := (((), ((), ((), ()))), G, l, p.1, t11, a12, a13, G, (G.length : Int), 0, met, gens, all, ()))
    ⟨0, met, gens, all, rfl, Nat.zero_le _, by
      have : (fun y => S y ∨ ∃ q x, dn (G.take 0) q ∧ dn l x ∧ y = cj x (cm p q)) = S := funext fun y => propext ⟨fun h => h.elim id (fun ⟨q, x, hx, _⟩ => absurd hx (q54 q)), .inl⟩
      rw [this]; exact h⟩ (by simp only; omega) (by
      rintro d ⟨i, met, gens, all, rfl, h1, h2⟩
      by_cases c1 : i < G.length
      · obtain ⟨q, eq, hq⟩ := q52 (hk := hk) hG c1
        have ec := q50 hn p q
        obtain ⟨met', gens', all', e, q5⟩ := q6g hn (t1 := G) (t11 := t11) (t17 := G) hl hll p (cm p q) (a12 := a12) (a13 := a13) (a18 := (G.length : Int)) (a19 := (i : Int)) h2
        refine .inl ⟨(((), ((), ((), ()))), G, l, p.1, t11, a12, a13, G, (G.length : Int), ((i + 1 : Nat) : Int), met', gens', all', ()), ?_, ⟨i + 1, met', gens', all', rfl, c1, ?_⟩, by simp only; omega⟩
        · simp (disch := first | assumption | omega) only [zA, zB, zC, zD, zE, zF, zG, qyj, qyd, qye, zH, zI, dpos, dneg, zJ, zK, zL, zM, zN, zO, zP, qdu, qdt, qyl, eq, ec, e, up1]
        · have : (fun y => S y ∨ ∃ q x, dn (G.take (i + 1)) q ∧ dn l x ∧ y = cj x (cm p q)) = fun y => (S y ∨ ∃ q x, dn (G.take i) q ∧ dn l x ∧ y = cj x (cm p q)) ∨ ∃ x, dn l x ∧ y = cj x (cm p q) := funext fun y => propext (by
            constructor
            · rintro (h | ⟨z, x, hz, hx, rfl⟩)
              · exact .inl (.inl h)
              · rcases (q53 c1 eq z).1 hz with h | rfl
                · exact .inl (.inr ⟨z, x, h, hx, rfl⟩)
                · exact .inr ⟨x, hx, rfl⟩
            · rintro ((h | ⟨z, x, hz, hx, rfl⟩) | ⟨x, hx, rfl⟩)
              · exact .inl h
              · exact .inr ⟨z, x, (q53 c1 eq z).2 (.inl hz), hx, rfl⟩
              · exact .inr ⟨q, x, (q53 c1 eq q).2 (.inr rfl), hx, rfl⟩)
          rw [this]; exact q5
      · obtain rfl : i = G.length := by omega
        rw [List.take_length] at h2
        refine .inr ⟨_, ?_, met, gens, all, rfl, h2⟩
        simp (disch := first | assumption | omega) only [zA, zB, zC, zD, zE, zF, zG, qyj, qyd, qye, zH, zI, dpos, dneg, zJ, zK, zL, zM, zN, zO, zP, qdu, qdt])
  exact ⟨met', gens', all', e, h2⟩
theorem q6i (hn : Fu n) {l G : List (List Int)} (hl : ∀ p ∈ l, PK k p) (hll : l.length ≤ 1000000000) (hG : ∀ p ∈ G, PK k p) (hGl : G.length ≤ 1000000000) {met : Option KS} {gens all : List (List Int)} (h : Gw hk (fun _ => False) met gens all) :
    ∃ met' gens' all', iterN (qdw n) n (((), ((), ((), ()))), G, l, G, (G.length : Int), 0, met, gens, all, ()) = some (.inl (met', gens', all', ())) ∧ Gw hk (fun y => ∃ p q x, dn G p ∧ dn G q ∧ dn l x ∧ y = cj x (cm p q)) met' gens' all' := by
  obtain ⟨r, e, met', gens', all', rfl, h2⟩ := qx9 (f := qdw n) hn
    (fun d => ∃ (i : Nat) (met : Option KS) (gens all : List (List Int)), d = (((), ((), ((), ()))), G, l, G, (G.length : Int), (i : Int), met, gens, all, ()) ∧ i ≤ G.length ∧ Gw hk (fun y => ∃ p q x, dn (G.take i) p ∧ dn G q ∧ dn l x ∧ y = cj x (cm p q)) met gens all)
    (fun d => ((G.length : Int) - d.2.2.2.2.2.1).toNat)
    (fun r => ∃ met' gens' all', r = .inl (met', gens', all', ()) ∧ Gw hk (fun y => ∃ p q x, dn G p ∧ dn G q ∧ dn l x ∧ y = cj x (cm p q)) met' gens' all')
    (d := (((), ((), ((), ()))), G, l, G, (G.length : Int), 0, met, gens, all, ()))
    ⟨0, met, gens, all, rfl, Nat.zero_le _, by
      have : (fun y => ∃ p q x, dn (G.take 0) p ∧ dn G q ∧ dn l x ∧ y = cj x (cm p q)) = fun _ => False := funext fun (y : Pm k hk) => propext ⟨fun ⟨p, q, x, hx, _⟩ => absurd hx (q54 p), False.elim⟩
      rw [this]; exact h⟩ (by simp only; omega) (by
      rintro d ⟨i, met, gens, all, rfl, h1, h2⟩
      by_cases c1 : i < G.length
      · obtain ⟨p, ep, hp⟩ := q52 (hk := hk) hG c1
        obtain ⟨met', gens', all', e, q5⟩ := q6h hn (t11 := G) hl hll hG hGl p (a12 := (G.length : Int)) (a13 := (i : Int)) h2
        refine .inl ⟨(((), ((), ((), ()))), G, l, G, (G.length : Int), ((i + 1 : Nat) : Int), met', gens', all', ()), ?_, ⟨i + 1, met', gens', all', rfl, c1, ?_⟩, by simp only; omega⟩
        · simp (disch := first | assumption | omega) only [zA, zB, zC, zD, zE, zF, zG, qyj, qyd, qye, zH, zI, dpos, dneg, zJ, zK, zL, zM, zN, zO, zP, qdw, qdv, qyl, ep, e, up1]
        · have : (fun y => ∃ p q x, dn (G.take (i + 1)) p ∧ dn G q ∧ dn l x ∧ y = cj x (cm p q)) = fun y => (∃ p q x, dn (G.take i) p ∧ dn G q ∧ dn l x ∧ y = cj x (cm p q)) ∨ ∃ q x, dn G q ∧ dn l x ∧ y = cj x (cm p q) := funext fun y => propext (by
            constructor
            · rintro ⟨z, q, x, hz, hq, hx, rfl⟩
              rcases (q53 c1 ep z).1 hz with h | rfl
              · exact .inl ⟨z, q, x, h, hq, hx, rfl⟩
              · exact .inr ⟨q, x, hq, hx, rfl⟩
            · rintro (⟨z, q, x, hz, hq, hx, rfl⟩ | ⟨q, x, hq, hx, rfl⟩)
              · exact ⟨z, q, x, (q53 c1 ep z).2 (.inl hz), hq, hx, rfl⟩
              · exact ⟨p, q, x, (q53 c1 ep p).2 (.inr rfl), hq, hx, rfl⟩)
          rw [this]; exact q5
      · obtain rfl : i = G.length := by omega
        rw [List.take_length] at h2
        refine .inr ⟨_, ?_, met, gens, all, rfl, h2⟩
        simp (disch := first | assumption | omega) only [zA, zB, zC, zD, zE, zF, zG, qyj, qyd, qye, zH, zI, dpos, dneg, zJ, zK, zL, zM, zN, zO, zP, qdw, qdv])
  exact ⟨met', gens', all', e, h2⟩
theorem q6j (hn : Fw n) {H : Pm k hk → Prop} (hH : Sub H) : qdz n (can H) = some (can (Dr H), ()) := by
  obtain ⟨G, e1, q1, q2, q3, q4, q5⟩ := q6f hn hH
  have h0 := q55 hH
  have e0 : idx (can H) 0 = some (row (can H) 0) := qyl (u := 0) h0
  have el : (((row (can H) 0).length : Nat) : Int) = (k : Int) := by rw [q56 hH]
  have eid := qzg hn.fu k hk.1 hk.2
  have hcl := q5b (H := H)
  obtain ⟨met, e2, h2⟩ := Gw.start hn.fu hk
  obtain ⟨met', gens', all', e3, h3⟩ := q6i hn.fu (l := can H) q5a (by omega) q1 (by omega) h2
  have e4 := h3.sorted hn
  have e5 : can (hk := hk) (Cl (fun y => ∃ p q x, dn G p ∧ dn G q ∧ dn (can H) x ∧ y = cj x (cm p q))) = can (Dr H) := by
    have e6 : (fun y => ∃ p q x, dn G p ∧ dn G q ∧ dn (can H) x ∧ y = cj x (cm p q)) = fun y => ∃ a b x, dn G a ∧ dn G b ∧ Cl (dn G) x ∧ y = cj x (cm a b) := funext fun (y : Pm k hk) => propext (by
      constructor
      · rintro ⟨p, q, x, hp, hq, hx, rfl⟩; exact ⟨p, q, x, hp, hq, (q2 x).2 (q5e.1 hx), rfl⟩
      · rintro ⟨p, q, x, hp, hq, hx, rfl⟩; exact ⟨p, q, x, hp, hq, q5e.2 ((q2 x).1 hx), rfl⟩)
    have e7 : Cl (dn G) = H := funext fun x => propext (q2 x)
    rw [e6]
    refine q5c (fun x => ?_)
    rw [Dr.gens, e7]
  rw [e5] at e4
  simp (disch := first | assumption | omega) only [zA, zB, zC, zD, zE, zF, zG, qyj, qyd, qye, zH, zI, dpos, dneg, zJ, zK, zL, zM, zN, zO, zP, qdz, e1, e0, el, qdy, eid, e2, qdx, e3, e4]
end Go.Proofs.Ytemejeiajekmcaa.V
namespace Go.Proofs.Ytemejeiajekmcaa.V
open Go Classical Grp
set_option linter.unusedVariables false
set_option linter.all false
variable {n : Nat} {k : Nat} {hk : 1 ≤ k ∧ k ≤ 7}
theorem q6k (hn : Fu n) (H : Pm k hk → Prop) : qc9 n (can H) = some (can H, ()) :=
  qzt hn _ (by have := q5b (H := H); omega) q5r
theorem q6l (hn : Fw n) {H : Pm k hk → Prop} (hH : Sub H) : qd0 n (can H) = some (can (Dr H), 0, ()) := by
  simp (disch := first | assumption | omega) only [zA, zB, zC, zD, zE, zF, zG, qyj, qyd, qye, zH, zI, dpos, dneg, zJ, zK, zL, zM, zN, zO, zP, qd0, q6b hn hH, q6j hn hH, q6k hn.fu]
noncomputable def ser : Nat → (Pm k hk → Prop) → List (List (List Int))
  | 0, _ => []
  | m + 1, H => if (can (Dr H)).length = (can H).length then [] else can (Dr H) :: ser m (Dr H)
theorem Dr.len {H : Pm k hk → Prop} (hH : Sub H) : (can (Dr H)).length ≤ (can H).length :=
  qzw can_asc.nodup (fun p hp => by
    obtain ⟨h, hp⟩ := q48.1 hp
    exact q48.2 ⟨h, Dr.le hH hp⟩)
theorem q6m : ∀ (m : Nat) (H : Pm k hk → Prop), (ser m H).length ≤ m
  | 0, _ => Nat.zero_le _
  | m + 1, H => by
    unfold ser
    by_cases c : (can (Dr H)).length = (can H).length
    · rw [if_pos c]; exact Nat.zero_le _
    · rw [if_neg c, List.length_cons]; have := q6m m (Dr H); omega
noncomputable def q6n (H : Pm k hk → Prop) : List (List (List Int)) := can H :: ser (can H).length H
theorem q6o (H : Pm k hk → Prop) : (q6n H).length ≤ 5041 := by
  unfold q6n; rw [List.length_cons]
  have := q6m (can H).length H
  have := q5b (H := H); omega
theorem q6p {D O : Type} {f : D → Option (D ⊕ O)} (hn : Fu n) (st : (Pm k hk → Prop) → List (List (List Int)) → D) (r : List (List (List Int)) → O)
    (hstep : ∀ (H : Pm k hk → Prop) out, Sub H → out.length ≤ 5041 → out.getLast? = some (can H) → f (st H out) = if (can (Dr H)).length = (can H).length then some (.inr (r out)) else some (.inl (st (Dr H) (out ++ [can (Dr H)])))) {H : Pm k hk → Prop} (hH : Sub H) :
    iterN f n (st H [can H]) = some (r (q6n H)) := by
  obtain ⟨r', e, rfl⟩ := q4z (f := f) hn
    (fun (g : Nat × (Pm k hk → Prop)) d => ∃ out, d = st g.2 out ∧ Sub g.2 ∧ out ++ ser g.1 g.2 = q6n H ∧ (can g.2).length ≤ g.1 ∧ out.getLast? = some (can g.2))
    (fun g => g.1)
    (fun r' => r' = r (q6n H))
    ((can H).length, H) (d := st H [can H])
    ⟨[can H], rfl, hH, rfl, Nat.le_refl _, rfl⟩ (by simp only; have := q5b (H := H); omega) (by
      rintro ⟨m, K⟩ d ⟨out, rfl, h1, h2, h3, h5⟩
      have hs := hstep K out h1 (by
        have := q6o H
        rw [← h2, List.length_append] at this
        omega) h5
      have hp : 0 < (can K).length := q55 h1
      have h3 : (can K).length ≤ m := h3
      cases m with
      | zero => omega
      | succ m =>
        unfold ser at h2
        simp only at h2
        by_cases c : (can (Dr K)).length = (can K).length
        · rw [if_pos c] at hs h2
          rw [List.append_nil] at h2
          exact .inr ⟨_, hs, by rw [h2]⟩
        · rw [if_neg c] at hs h2
          have h4 : (can (Dr K)).length ≤ (can K).length := Dr.len h1
          exact .inl ⟨_, (m, Dr K), hs, ⟨_, rfl, Dr.sub K, by rw [List.append_assoc]; exact h2, show (can (Dr K)).length ≤ m by omega, by simp⟩, Nat.lt_succ_self m⟩)
  exact e
theorem q6q (hn : Fw n) {H : Pm k hk → Prop} (hH : Sub H) : qd3 n (can H) = some (q6n H, 0, ()) := by
  have e := q6p (f := qd2 n) hn.fu (fun K out => (can K, out, ())) (fun out => .inl (out, 0, ())) (fun K out hK ho _ => by
    have e1 := q6j hn hK
    have e2 := q6k hn.fu (Dr K)
    have hl : ([can (Dr K)] : List (List (List Int))).length = 1 := rfl
    by_cases c : (can (Dr K)).length = (can K).length
    · rw [if_pos c]
      simp (disch := first | assumption | omega) only [zA, zB, zC, zD, zE, zF, zG, qyj, qyd, qye, zH, zI, dpos, dneg, zJ, zK, zL, zM, zN, zO, zP, qd2, qd1, e1]
    · rw [if_neg c]
      simp (disch := first | assumption | omega) only [zA, zB, zC, zD, zE, zF, zG, qyj, qyd, qye, zH, zI, dpos, dneg, zJ, zK, zL, zM, zN, zO, zP, qd2, qd1, e1, e2]) hH
  simp (disch := first | assumption | omega) only [zA, zB, zC, zD, zE, zF, zG, qyj, qyd, qye, zH, zI, dpos, dneg, zJ, zK, zL, zM, zN, zO, zP, qd3, q6b hn hH, q6k hn.fu, e]
theorem q6r (hn : Fu n) (gens : List (List Int)) : ∃ l b, qfb n gens = some (l, (b, ())) ∧ (b = true → GV gens ∧ gens.length ≤ 30 ∧ ∀ (k : Nat) (hk : 1 ≤ k ∧ k ≤ 7), (∀ g ∈ gens, PK k g) → l = can (hk := hk) (Cl (dn gens)) ∧ l.length ≤ 360) := by
  have f := qy8 hn gens 30 (by decide)
  by_cases h0 : (gens.length : Int) ≤ 30 ∧ ∀ i, i < gens.length → (row gens i).length ≤ 100
  · rw [decide_eq_true h0] at f
    have g := qy4 hn gens
    by_cases h1 : GV gens
    · rw [decide_eq_true h1] at g
      obtain ⟨k, hk, hG⟩ := h1.pk
      have e := q5m (hk := hk) hn hG h1.1 (by have := h1.2.1; omega)
      refine ⟨can (hk := hk) (Cl (dn gens)), decide (((can (hk := hk) (Cl (dn gens))).length : Int) ≤ 360), by simp (disch := first | assumption | omega) only [zA, zB, zC, zD, zE, zF, zG, qyj, qyd, qye, zH, zI, dpos, dneg, zJ, zK, zL, zM, zN, zO, zP, qfb, f, g, e], fun hb => ⟨h1, by omega, fun k' hk' hG' => ?_⟩⟩
      rw [decide_eq_true_eq] at hb
      have hr := qyk h1.1
      obtain rfl := (hG _ hr).uniq (hG' _ hr)
      exact ⟨rfl, by omega⟩
    · rw [decide_eq_false h1] at g
      exact ⟨[], false, by simp (disch := first | assumption | omega) only [zA, zB, zC, zD, zE, zF, zG, qyj, qyd, qye, zH, zI, dpos, dneg, zJ, zK, zL, zM, zN, zO, zP, qfb, f, g], fun h => nomatch h⟩
  · rw [decide_eq_false h0] at f
    exact ⟨[], false, by simp (disch := first | assumption | omega) only [zA, zB, zC, zD, zE, zF, zG, qyj, qyd, qye, zH, zI, dpos, dneg, zJ, zK, zL, zM, zN, zO, zP, qfb, f], fun h => nomatch h⟩
theorem q6s {P : Nat → Prop} (h : ∀ n, Fw n → P n) : ∃ n, P n := ⟨_, h (1180591620717411303424 + 1099511627776) (Nat.le_refl _)⟩
end Go.Proofs.Ytemejeiajekmcaa.V
namespace Go.Proofs.Ytemejeiajekmcaa.V
open Go Classical Grp
set_option linter.unusedVariables false
set_option linter.all false
variable {n : Nat} {k : Nat} {hk : 1 ≤ k ∧ k ≤ 7}
theorem q6t (hn : Fu n) (p q : List Int) (hp : p.length ≤ 1000000000) : qd6 n p q = some (decide (p = q), ()) := by
  by_cases hl : p.length = q.length
  · have g : iterN (qd5 n) n (p, q, 0, ()) = some (if ∀ i, i < p.length → rd p (i : Int) = rd q (i : Int) then .inr (.inl ()) else .inl (false, ())) := by
      refine (qx6 (f := qd5 n) hn (fun i => (p, q, (i : Int), ())) p.length (fun i => rd p (i : Int) = rd q (i : Int)) (d := (p, q, 0, ())) (r := .inr (.inl ())) (r' := .inl (false, ())) (by omega) rfl (fun i hi _ hp => ?_) (fun i hi _ hp => ?_) (fun _ => ?_)).trans (by congr)
      · simp (disch := first | assumption | omega) only [zA, zB, zC, zD, zE, zF, zG, qyj, qyd, qye, zH, zI, dpos, dneg, zJ, zK, zL, zM, zN, zO, zP, qd5, qd4, qym, hp, up1]
      · simp (disch := first | assumption | omega) only [zA, zB, zC, zD, zE, zF, zG, qyj, qyd, qye, zH, zI, dpos, dneg, zJ, zK, zL, zM, zN, zO, zP, qd5, qd4, qym, up1]
      · simp (disch := first | assumption | omega) only [zA, zB, zC, zD, zE, zF, zG, qyj, qyd, qye, zH, zI, dpos, dneg, zJ, zK, zL, zM, zN, zO, zP, qd5, qd4]
    by_cases e : p = q
    · rw [if_pos (fun i hi => by rw [e])] at g
      subst e
      simp (disch := first | assumption | omega) only [zA, zB, zC, zD, zE, zF, zG, qyj, qyd, qye, zH, zI, dpos, dneg, zJ, zK, zL, zM, zN, zO, zP, qd6, g]
    · rw [if_neg (fun h => e (q36 hl h))] at g
      rw [decide_eq_false e]
      simp (disch := first | assumption | omega) only [zA, zB, zC, zD, zE, zF, zG, qyj, qyd, qye, zH, zI, dpos, dneg, zJ, zK, zL, zM, zN, zO, zP, qd6, g]
  · rw [decide_eq_false (fun e => hl (by rw [e]))]
    simp (disch := first | assumption | omega) only [zA, zB, zC, zD, zE, zF, zG, qyj, qyd, qye, zH, zI, dpos, dneg, zJ, zK, zL, zM, zN, zO, zP, qd6]
theorem q6u (hn : Fu n) (p q : List Int) (hp : p.length ≤ 1000000000) : qfh n p q = some (decide (p = q), ()) := by
  by_cases hl : p.length = q.length
  · have g : iterN (qfg n) n (p, q, (p.length : Int), 0, ()) = some (if ∀ i, i < p.length → rd p (i : Int) = rd q (i : Int) then .inr (.inl ()) else .inl (false, ())) := by
      refine (qx6 (f := qfg n) hn (fun i => (p, q, (p.length : Int), (i : Int), ())) p.length (fun i => rd p (i : Int) = rd q (i : Int)) (d := (p, q, (p.length : Int), 0, ())) (r := .inr (.inl ())) (r' := .inl (false, ())) (by omega) rfl (fun i hi _ hp => ?_) (fun i hi _ hp => ?_) (fun _ => ?_)).trans (by congr)
      · simp (disch := first | assumption | omega) only [zA, zB, zC, zD, zE, zF, zG, qyj, qyd, qye, zH, zI, dpos, dneg, zJ, zK, zL, zM, zN, zO, zP, qfg, qff, qym, hp, up1]
      · simp (disch := first | assumption | omega) only [zA, zB, zC, zD, zE, zF, zG, qyj, qyd, qye, zH, zI, dpos, dneg, zJ, zK, zL, zM, zN, zO, zP, qfg, qff, qym, up1]
      · simp (disch := first | assumption | omega) only [zA, zB, zC, zD, zE, zF, zG, qyj, qyd, qye, zH, zI, dpos, dneg, zJ, zK, zL, zM, zN, zO, zP, qfg, qff]
    by_cases e : p = q
    · rw [if_pos (fun i hi => by rw [e])] at g
      subst e
      simp (disch := first | assumption | omega) only [zA, zB, zC, zD, zE, zF, zG, qyj, qyd, qye, zH, zI, dpos, dneg, zJ, zK, zL, zM, zN, zO, zP, qfh, g]
    · rw [if_neg (fun h => e (q36 hl h))] at g
      rw [decide_eq_false e]
      simp (disch := first | assumption | omega) only [zA, zB, zC, zD, zE, zF, zG, qyj, qyd, qye, zH, zI, dpos, dneg, zJ, zK, zL, zM, zN, zO, zP, qfh, g]
  · rw [decide_eq_false (fun e => hl (by rw [e]))]
    simp (disch := first | assumption | omega) only [zA, zB, zC, zD, zE, zF, zG, qyj, qyd, qye, zH, zI, dpos, dneg, zJ, zK, zL, zM, zN, zO, zP, qfh]
theorem q6v {l : List (List Int)} {p : List Int} : p ∈ l ↔ ∃ i, i < l.length ∧ row l i = p := by
  constructor
  · intro h
    obtain ⟨i, hi, e⟩ := List.getElem_of_mem h
    exact ⟨i, hi, by unfold row; rw [List.getD_eq_getElem?_getD, List.getElem?_eq_getElem hi]; exact e⟩
  · rintro ⟨i, hi, rfl⟩; exact qyk hi
theorem q6w (hn : Fu n) (l : List (List Int)) (p : List Int) (hl : l.length ≤ 1000000000) (hr : ∀ i, i < l.length → (row l i).length ≤ 1000000000) : qfe n l p = some (decide (p ∈ l), ()) := by
  have g : iterN (qfd n) n (l, p, 0, ()) = some (if ∀ i, i < l.length → row l i ≠ p then .inr (.inl ()) else .inl (true, ())) := by
    refine (qx6 (f := qfd n) hn (fun i => (l, p, (i : Int), ())) l.length (fun i => row l i ≠ p) (d := (l, p, 0, ())) (r := .inr (.inl ())) (r' := .inl (true, ())) (by omega) rfl (fun i hi _ hp => ?_) (fun i hi _ hp => ?_) (fun _ => ?_)).trans (by congr)
    · have e := q6t hn (row l i) p (hr i hi)
      rw [decide_eq_false hp] at e
      simp (disch := first | assumption | omega) only [zA, zB, zC, zD, zE, zF, zG, qyj, qyd, qye, zH, zI, dpos, dneg, zJ, zK, zL, zM, zN, zO, zP, qfd, qfc, qyl, e, up1]
    · have e := q6t hn (row l i) p (hr i hi)
      rw [decide_eq_true (Classical.not_not.1 hp)] at e
      simp (disch := first | assumption | omega) only [zA, zB, zC, zD, zE, zF, zG, qyj, qyd, qye, zH, zI, dpos, dneg, zJ, zK, zL, zM, zN, zO, zP, qfd, qfc, qyl, e, up1]
    · simp (disch := first | assumption | omega) only [zA, zB, zC, zD, zE, zF, zG, qyj, qyd, qye, zH, zI, dpos, dneg, zJ, zK, zL, zM, zN, zO, zP, qfd, qfc]
  by_cases h : p ∈ l
  · rw [decide_eq_true h]
    rw [if_neg (fun h2 => by obtain ⟨i, hi, e⟩ := q6v.1 h; exact h2 i hi e)] at g
    simp (disch := first | assumption | omega) only [zA, zB, zC, zD, zE, zF, zG, qyj, qyd, qye, zH, zI, dpos, dneg, zJ, zK, zL, zM, zN, zO, zP, qfe, g]
  · rw [decide_eq_false h]
    rw [if_pos (fun i hi e => h (q6v.2 ⟨i, hi, e⟩))] at g
    simp (disch := first | assumption | omega) only [zA, zB, zC, zD, zE, zF, zG, qyj, qyd, qye, zH, zI, dpos, dneg, zJ, zK, zL, zM, zN, zO, zP, qfe, g]
theorem q6x {H : Pm k hk → Prop} : ∀ i, i < (can H).length → (row (can H) i).length ≤ 1000000000 := fun i hi => by have := q5r i hi; omega
def Zt (H : Pm k hk → Prop) : Pm k hk → Prop := fun x => H x ∧ ∀ y, H y → x * y = y * x
theorem Pm.dec_eq {x y : Pm k hk} : x.1 = y.1 ↔ x = y := ⟨Pm.ext, fun h => by rw [h]⟩
theorem q6y (hn : Fu n) (q x : Pm k hk) : qfi n q.1 x.1 = some (!decide (x * q = q * x), ()) := by
  have e := q6u hn (x * q).1 (q * x).1 (by have := (x * q).2.2; omega)
  by_cases c : x * q = q * x
  · rw [decide_eq_true (Pm.dec_eq.2 c)] at e
    rw [decide_eq_true c]
    simp (disch := first | assumption | omega) only [zA, zB, zC, zD, zE, zF, zG, qyj, qyd, qye, zH, zI, dpos, dneg, zJ, zK, zL, zM, zN, zO, zP, qfi, q5g hn, e]
  · rw [decide_eq_false (fun h => c (Pm.dec_eq.1 h))] at e
    rw [decide_eq_false c]
    simp (disch := first | assumption | omega) only [zA, zB, zC, zD, zE, zF, zG, qyj, qyd, qye, zH, zI, dpos, dneg, zJ, zK, zL, zM, zN, zO, zP, qfi, q5g hn, e]
theorem q6z (hn : Fu n) {G : List (List Int)} (hG : ∀ p ∈ G, PK k p) (hGl : G.length ≤ 1000000000) (x : Pm k hk) : qfm n G (x.1, ()) = some (!decide (∀ q : Pm k hk, dn G q → x * q = q * x), ()) := by
  rcases qx7 (f := qfk n) hn (fun i => (G, (x.1, ()), (G.length : Int), (i : Int), ())) G.length (fun i => ∀ q : Pm k hk, row G i = q.1 → x * q = q * x) (d := (G, (x.1, ()), (G.length : Int), 0, ())) (r := .inr (.inl ())) (r' := fun i => .inl ((i : Int), ())) (by omega) rfl (fun i hi _ hp => by
      obtain ⟨q, eq, hq⟩ := q52 (hk := hk) hG hi
      have e := q6y hn q x
      rw [decide_eq_true (hp q eq)] at e
      simp (disch := first | assumption | omega) only [zA, zB, zC, zD, zE, zF, zG, qyj, qyd, qye, zH, zI, dpos, dneg, zJ, zK, zL, zM, zN, zO, zP, qfk, qfj, qyl, eq, e, up1]) (fun i hi _ hp => by
      obtain ⟨q, eq, hq⟩ := q52 (hk := hk) hG hi
      have e := q6y hn q x
      rw [decide_eq_false (fun h2 => hp (fun z hz => by
        have : z = q := Pm.ext (hz.symm.trans eq)
        rw [this]; exact h2))] at e
      simp (disch := first | assumption | omega) only [zA, zB, zC, zD, zE, zF, zG, qyj, qyd, qye, zH, zI, dpos, dneg, zJ, zK, zL, zM, zN, zO, zP, qfk, qfj, qyl, eq, e, up1]) (fun _ => by
      simp (disch := first | assumption | omega) only [zA, zB, zC, zD, zE, zF, zG, qyj, qyd, qye, zH, zI, dpos, dneg, zJ, zK, zL, zM, zN, zO, zP, qfk, qfj]) with ⟨ha, e⟩ | ⟨i, hi, _, hp, e⟩
  · have : ∀ q : Pm k hk, dn G q → x * q = q * x := fun q hq => by
      obtain ⟨i, hi, e⟩ := q6v.1 hq
      exact ha i hi q e
    rw [decide_eq_true this]
    have z : ¬ (0 : Int) ≤ -1 := by decide
    simp (disch := first | assumption | omega) only [zA, zB, zC, zD, zE, zF, zG, qyj, qyd, qye, zH, zI, dpos, dneg, zJ, zK, zL, zM, zN, zO, zP, qfm, qfl, e, z]
  · rw [decide_eq_false (fun h2 => hp (fun q eq => h2 q (show q.1 ∈ G from eq ▸ qyk hi)))]
    simp (disch := first | assumption | omega) only [zA, zB, zC, zD, zE, zF, zG, qyj, qyd, qye, zH, zI, dpos, dneg, zJ, zK, zL, zM, zN, zO, zP, qfm, qfl, e]
theorem q60 {α : Type} {l : List α} {i : Nat} (hi : i < l.length) (P : α → Bool) (x : α) (hx : l[i] = x) : (l.take (i + 1)).filter P = (l.take i).filter P ++ (if P x then [x] else []) := by
  rw [List.take_add_one, List.filter_append, List.getElem?_eq_getElem hi, hx]
  congr 1
  by_cases c : P x
  · simp [c]
  · simp [c]
theorem q61 {H : Pm k hk → Prop} {P : List Int → Bool} {K : Pm k hk → Prop} (h : ∀ x : Pm k hk, K x ↔ H x ∧ P x.1 = true) : (can H).filter P = can K :=
  Asc.ext (List.Pairwise.filter _ can_asc) can_asc (fun p => by
    rw [List.mem_filter, q48, q48]
    constructor
    · rintro ⟨⟨hp, hx⟩, c⟩; exact ⟨hp, (h ⟨p, hp⟩).2 ⟨hx, c⟩⟩
    · rintro ⟨hp, hx⟩; exact ⟨⟨hp, ((h ⟨p, hp⟩).1 hx).1⟩, ((h ⟨p, hp⟩).1 hx).2⟩)
theorem q62 {l : List (List Int)} {i : Nat} (h : i < l.length) : l[i] = row l i := by unfold row; rw [List.getD_eq_getElem?_getD, List.getElem?_eq_getElem h]; rfl
theorem q63 (hn : Fw n) {H : Pm k hk → Prop} (hH : Sub H) : qfp n (can H) = some (can (Zt H), 0, ()) := by
  have hl := q5b (H := H)
  obtain ⟨G, f1, q1, q2, q3, q4, q5⟩ := q6f hn hH
  let P : List Int → Bool := fun p => decide (∃ hp : PK k p, ∀ q : Pm k hk, dn G q → Pm.mk p hp * q = q * Pm.mk p hp)
  have hP : ∀ x : Pm k hk, P x.1 = decide (∀ q : Pm k hk, dn G q → x * q = q * x) := fun x => by
    by_cases c : ∀ q : Pm k hk, dn G q → x * q = q * x
    · rw [decide_eq_true c]; exact decide_eq_true ⟨x.2, c⟩
    · rw [decide_eq_false c]; exact decide_eq_false (fun ⟨_, h⟩ => c h)
  have g : iterN (qfo n) n (G, can H, ((can H).length : Int), 0, [], ()) = some (.inl ((can H).filter P, ())) := by
    refine qx5 hn.fu (fun i => (G, can H, ((can H).length : Int), (i : Int), ((can H).take i).filter P, ())) (can H).length (by omega) (by simp) (fun i hi => ?_) ?_
    · obtain ⟨x, ex, hx⟩ := q52 (hk := hk) (q5a (H := H)) hi
      have e := q6z hn.fu q1 (by omega) x
      have ft := q60 hi P x.1 (by rw [q62 hi, ex])
      have hlen : (((can H).take i).filter P).length ≤ 5040 := Nat.le_trans (List.length_filter_le _ _) (by rw [List.length_take]; omega)
      have ecl := qzr (n := n) x.1 (by have := x.2.2; omega)
      rw [hP x] at ft
      by_cases c : ∀ q : Pm k hk, dn G q → x * q = q * x
      · rw [decide_eq_true c] at e
        rw [decide_eq_true c, if_pos rfl] at ft
        rw [ft]
        have hl1 : ([x.1] : List (List Int)).length = 1 := rfl
        simp (disch := first | assumption | omega) only [zA, zB, zC, zD, zE, zF, zG, qyj, qyd, qye, zH, zI, dpos, dneg, zJ, zK, zL, zM, zN, zO, zP, qfo, qfn, qyl, ex, e, ecl, up1]
      · rw [decide_eq_false c] at e
        rw [decide_eq_false c, if_neg (by decide), List.append_nil] at ft
        rw [ft]
        simp (disch := first | assumption | omega) only [zA, zB, zC, zD, zE, zF, zG, qyj, qyd, qye, zH, zI, dpos, dneg, zJ, zK, zL, zM, zN, zO, zP, qfo, qfn, qyl, ex, e, up1]
    · rw [List.take_length]
      simp (disch := first | assumption | omega) only [zA, zB, zC, zD, zE, zF, zG, qyj, qyd, qye, zH, zI, dpos, dneg, zJ, zK, zL, zM, zN, zO, zP, qfo, qfn]
  have e2 : (can H).filter P = can (Zt H) := q61 (fun x => by
    rw [hP x, decide_eq_true_eq]
    exact and_congr Iff.rfl ⟨fun h q hq => h q (q3 q hq), fun h y hy => q1j h ((q2 y).2 hy)⟩)
  rw [e2] at g
  simp (disch := first | assumption | omega) only [zA, zB, zC, zD, zE, zF, zG, qyj, qyd, qye, zH, zI, dpos, dneg, zJ, zK, zL, zM, zN, zO, zP, qfp, q6b hn hH, f1, g]
def Drn : Nat → (Pm k hk → Prop) → Pm k hk → Prop
  | 0, H => H
  | m + 1, H => Drn m (Dr H)
theorem Drn.sub : ∀ {m : Nat} {H : Pm k hk → Prop}, Sub H → Sub (Drn m H)
  | 0, _, h => h
  | m + 1, H, h => Drn.sub (m := m) (Dr.sub H)
theorem Drn.mono : ∀ {m : Nat} {H K : Pm k hk → Prop}, (∀ x, K x → H x) → ∀ x, Drn m K x → Drn m H x
  | 0, _, _, h => h
  | m + 1, _, _, h => Drn.mono (m := m) (fun x hx => Dr.mono h hx)
theorem q64 {a b : Nat} (h : b ∣ a) : Int.tmod (a : Int) (b : Int) = 0 := by
  rw [Int.tmod_eq_emod_of_nonneg (by omega), ← Int.natCast_emod, Nat.mod_eq_zero_of_dvd h]; rfl
end Go.Proofs.Ytemejeiajekmcaa.V
namespace Go.Proofs.Ytemejeiajekmcaa.V
open Go Classical Grp
set_option linter.unusedVariables false
set_option linter.all false
variable {n : Nat} {k : Nat} {hk : 1 ≤ k ∧ k ≤ 7}
def eqL : List Int → List Int → Bool
  | [], [] => true
  | x :: a, y :: b => decide (x = y) && eqL a b
  | _, _ => false
theorem q65 : ∀ {a b}, eqL a b = true → a = b
  | [], [], _ => rfl
  | x :: a, y :: b, h => by
    simp only [eqL, Bool.and_eq_true, decide_eq_true_eq] at h
    rw [h.1, q65 h.2]
  | [], _ :: _, h => nomatch h
  | _ :: _, [], h => nomatch h
def inB (p : List Int) (L : List (List Int)) : Bool := L.any (eqL p)
theorem q66 {p L} (h : inB p L = true) : p ∈ L := by
  obtain ⟨q, hq, e⟩ := List.any_eq_true.1 h
  rw [q65 e]; exact hq
def ltB : List Int → List Int → Bool
  | [], [] => false
  | [], _ :: _ => true
  | _ :: _, [] => false
  | x :: a, y :: b => decide (x < y) || (decide (x = y) && ltB a b)
theorem q67 : ∀ {a b}, ltB a b = true → ltL a b
  | [], [], h => nomatch h
  | [], _ :: _, _ => trivial
  | _ :: _, [], h => nomatch h
  | x :: a, y :: b, h => by
    simp only [ltB, Bool.or_eq_true, Bool.and_eq_true, decide_eq_true_eq] at h
    exact h.imp id (fun h => ⟨h.1, q67 h.2⟩)
def ascB : List (List Int) → Bool
  | [] => true
  | [_] => true
  | x :: y :: r => ltB x y && ascB (y :: r)
theorem q68 : ∀ {l}, ascB l = true → Asc l
  | [], _ => List.Pairwise.nil
  | [x], _ => List.pairwise_singleton _ _
  | x :: y :: r, h => by
    simp only [ascB, Bool.and_eq_true] at h
    have ih := q68 h.2
    refine List.Pairwise.cons (fun z hz => ?_) ih
    rw [List.mem_cons] at hz
    rcases hz with rfl | hz
    · exact q67 h.1
    · exact qz5 (q67 h.1) ((List.pairwise_cons.1 ih).1 z hz)
def mulC (p q : List Int) : List Int := p.map (fun x => q.getD x.toNat 0)
theorem q69 (p q : List Int) : mulP p q = mulC p q := by
  unfold mulP mulC
  apply List.ext_getElem
  · simp
  · intro i h1 h2
    have hi : i < p.length := by simpa using h2
    rw [qyo (f := fun i => rd q (rd p (i : Int))) (by simpa using hi), List.getElem_map, q0p hi]; rfl
def invC (p : List Int) : List Int := (List.range p.length).map (fun (i : Nat) => ((p.idxOf (i : Int) : Nat) : Int))
theorem q7a (p : List Int) : invP p = invC p := rfl
def cmC (a b : List Int) : List Int := mulC (mulC (invC a) (invC b)) (mulC a b)
theorem q7b (a b : Pm k hk) : (cm a b).1 = cmC a.1 b.1 := by
  show mulP (mulP (invP a.1) (invP b.1)) (mulP a.1 b.1) = _
  rw [q69, q69, q69 a.1, q7a, q7a]; rfl
def grow (gens : List (List Int)) : List (Nat × Nat) → List (List Int) → List (List Int)
  | [], acc => acc
  | (i, j) :: r, acc => grow gens r (acc ++ [mulC (acc.getD i []) (gens.getD j [])])
theorem q7c {gens : List (List Int)} (hG : ∀ g ∈ gens, PK k g) : ∀ (w : List (Nat × Nat)) (acc : List (List Int)), (w.all fun x => decide (x.2 < gens.length)) = true → (∀ i, i < w.length → (w.getD i (0, 0)).1 < acc.length + i) → (∀ p ∈ acc, upS (hk := hk) (Cl (dn gens)) p) → ∀ p ∈ grow gens w acc, upS (hk := hk) (Cl (dn gens)) p
  | [], acc, _, _, h, p, hp => h p hp
  | (i, j) :: r, acc, h1, h2, h, p, hp => by
    simp only [List.all_cons, Bool.and_eq_true, decide_eq_true_eq] at h1
    have hi : i < acc.length := by have := h2 0 (by simp); simpa using this
    refine q7c hG r _ h1.2 (fun a ha => ?_) (fun q hq => ?_) p hp
    · have := h2 (a + 1) (by simpa using ha)
      simp only [List.getD_cons_succ] at this
      rw [List.length_append]; simp only [List.length_cons, List.length_nil]; omega
    · rw [List.mem_append, List.mem_singleton] at hq
      rcases hq with hq | rfl
      · exact h q hq
      · have e1 : acc.getD i [] = row acc i := rfl
        have e2 : gens.getD j [] = row gens j := rfl
        rw [e1, e2]
        obtain ⟨ha, hc⟩ := h _ (qyk hi)
        have hg := hG _ (qyk h1.1)
        rw [← q69]
        exact ⟨ha.mul hg, Cl.step (G := Pm k hk) (S := dn gens) (p := Pm.mk _ ha) (q := Pm.mk _ hg) hc (qyk h1.1)⟩
def wOK (w : List (Nat × Nat)) : Bool := (List.range w.length).all fun i => Nat.blt ((w.getD i (0, 0)).1) (i + 1)
theorem q7d {gens L : List (List Int)} {w : List (Nat × Nat)} (hG : ∀ g ∈ gens, PK k g) (h1 : ascB L = true) (h2 : inB (idP k) L = true) (h3 : (L.all fun p => gens.all fun g => inB (mulC p g) L) = true)
    (h4 : (w.all fun x => decide (x.2 < gens.length)) = true) (h5 : wOK w = true) (h6 : (L.all fun p => inB p (grow gens w [idP k])) = true) : can (hk := hk) (Cl (dn gens)) = L := by
  refine Asc.ext can_asc (q68 h1) (fun p => ?_)
  rw [q48]
  constructor
  · rintro ⟨hp, hc⟩
    have : ∀ x : Pm k hk, Cl (dn gens) x → x.1 ∈ L := fun x hx => by
      induction hx with
      | one => exact q66 h2
      | @step a g ha hg ih =>
        have := List.all_eq_true.1 (List.all_eq_true.1 h3 _ ih) g.1 hg
        have := q66 this
        rw [← q69] at this
        exact this
    exact this ⟨p, hp⟩ hc
  · intro hp
    have := q66 (List.all_eq_true.1 h6 p hp)
    refine q7c hG w [idP k] h4 (fun i hi => ?_) (fun q hq => ?_) p this
    · have := List.all_eq_true.1 h5 i (List.mem_range.2 hi)
      have := Nat.le_of_ble_eq_true this
      simp only [List.length_cons, List.length_nil]; omega
    · rw [List.mem_singleton] at hq
      subst hq
      exact ⟨(1 : Pm k hk).2, .one⟩
theorem q7e {H : Pm k hk → Prop} {L M : List (List Int)} (hL : can H = L) (h1 : ascB M = true) (h2 : inB (idP k) M = true) (h3 : (M.all fun p => M.all fun g => inB (mulC p g) M) = true)
    (h4 : (L.all fun a => L.all fun b => inB (cmC a b) M) = true) (h5 : (M.all fun p => L.any fun a => L.any fun b => eqL p (cmC a b)) = true) : can (Dr H) = M := by
  have hHL : ∀ x : Pm k hk, H x ↔ x.1 ∈ L := fun x => by rw [← hL, q49]
  have hm : ∀ {a b : Pm k hk}, dn M a → dn M b → dn M (a * b) := fun {a b} ha hb => by
    have := q66 (List.all_eq_true.1 (List.all_eq_true.1 h3 _ ha) _ hb)
    rw [← q69] at this
    exact this
  have hone : dn M (1 : Pm k hk) := q66 h2
  have hs : Sub (dn M : Pm k hk → Prop) := ⟨hone, hm, q1g hone hm⟩
  refine Asc.ext can_asc (q68 h1) (fun p => ?_)
  rw [q48]
  constructor
  · rintro ⟨hp, hc⟩
    refine Cl.le hs ?_ hc
    rintro _ ⟨a, b, ha, hb, rfl⟩
    have := q66 (List.all_eq_true.1 (List.all_eq_true.1 h4 _ ((hHL a).1 ha)) _ ((hHL b).1 hb))
    rw [← q7b] at this
    exact this
  · intro hp
    obtain ⟨a, ha, h⟩ := List.any_eq_true.1 (List.all_eq_true.1 h5 p hp)
    obtain ⟨b, hb, h⟩ := List.any_eq_true.1 h
    have e := q65 h
    have pa : PK k a := by rw [← hL] at ha; exact q5a a ha
    have pb : PK k b := by rw [← hL] at hb; exact q5a b hb
    have e2 := q7b (Pm.mk (hk := hk) a pa) (Pm.mk b pb)
    change _ = cmC a b at e2
    rw [e, ← e2]
    exact ⟨(cm (Pm.mk (hk := hk) a pa) (Pm.mk b pb)).2, .gen ⟨_, _, (hHL _).2 ha, (hHL _).2 hb, rfl⟩⟩
def aL60 : List (List Int) := [[0, 1, 2, 3, 4], [0, 1, 3, 4, 2], [0, 1, 4, 2, 3], [0, 2, 1, 4, 3], [0, 2, 3, 1, 4], [0, 2, 4, 3, 1], [0, 3, 1, 2, 4], [0, 3, 2, 4, 1], [0, 3, 4, 1, 2], [0, 4, 1, 3, 2], [0, 4, 2, 1, 3], [0, 4, 3, 2, 1], [1, 0, 2, 4, 3], [1, 0, 3, 2, 4], [1, 0, 4, 3, 2], [1, 2, 0, 3, 4], [1, 2, 3, 4, 0], [1, 2, 4, 0, 3], [1, 3, 0, 4, 2], [1, 3, 2, 0, 4], [1, 3, 4, 2, 0], [1, 4, 0, 2, 3], [1, 4, 2, 3, 0], [1, 4, 3, 0, 2], [2, 0, 1, 3, 4], [2, 0, 3, 4, 1], [2, 0, 4, 1, 3], [2, 1, 0, 4, 3], [2, 1, 3, 0, 4], [2, 1, 4, 3, 0], [2, 3, 0, 1, 4], [2, 3, 1, 4, 0], [2, 3, 4, 0, 1], [2, 4, 0, 3, 1], [2, 4, 1, 0, 3], [2, 4, 3, 1, 0], [3, 0, 1, 4, 2], [3, 0, 2, 1, 4], [3, 0, 4, 2, 1], [3, 1, 0, 2, 4], [3, 1, 2, 4, 0], [3, 1, 4, 0, 2], [3, 2, 0, 4, 1], [3, 2, 1, 0, 4], [3, 2, 4, 1, 0], [3, 4, 0, 1, 2], [3, 4, 1, 2, 0], [3, 4, 2, 0, 1], [4, 0, 1, 2, 3], [4, 0, 2, 3, 1], [4, 0, 3, 1, 2], [4, 1, 0, 3, 2], [4, 1, 2, 0, 3], [4, 1, 3, 2, 0], [4, 2, 0, 1, 3], [4, 2, 1, 3, 0], [4, 2, 3, 0, 1], [4, 3, 0, 2, 1], [4, 3, 1, 0, 2], [4, 3, 2, 1, 0]]
def aL24 : List (List Int) := [[0, 1, 2, 3], [0, 1, 3, 2], [0, 2, 1, 3], [0, 2, 3, 1], [0, 3, 1, 2], [0, 3, 2, 1], [1, 0, 2, 3], [1, 0, 3, 2], [1, 2, 0, 3], [1, 2, 3, 0], [1, 3, 0, 2], [1, 3, 2, 0], [2, 0, 1, 3], [2, 0, 3, 1], [2, 1, 0, 3], [2, 1, 3, 0], [2, 3, 0, 1], [2, 3, 1, 0], [3, 0, 1, 2], [3, 0, 2, 1], [3, 1, 0, 2], [3, 1, 2, 0], [3, 2, 0, 1], [3, 2, 1, 0]]
def aL12 : List (List Int) := [[0, 1, 2, 3], [0, 2, 3, 1], [0, 3, 1, 2], [1, 0, 3, 2], [1, 2, 0, 3], [1, 3, 2, 0], [2, 0, 1, 3], [2, 1, 3, 0], [2, 3, 0, 1], [3, 0, 2, 1], [3, 1, 0, 2], [3, 2, 1, 0]]
def aL4 : List (List Int) := [[0, 1, 2, 3], [1, 0, 3, 2], [2, 3, 0, 1], [3, 2, 1, 0]]
def aL1 : List (List Int) := [[0, 1, 2, 3]]
def aw60 : List (Nat × Nat) := [(0, 0), (0, 1), (1, 0), (1, 1), (2, 0), (2, 1), (3, 0), (3, 1), (4, 0), (4, 1), (5, 0), (5, 1), (6, 0), (7, 0), (7, 1), (8, 0), (8, 1), (9, 0), (9, 1), (10, 0), (11, 0), (12, 0), (12, 1), (13, 0), (13, 1), (14, 1), (15, 0), (16, 1), (17, 0), (18, 0), (19, 0), (19, 1), (20, 0), (20, 1), (21, 0), (21, 1), (22, 1), (25, 0), (25, 1), (26, 0), (27, 1), (28, 0), (28, 1), (29, 1), (30, 0), (30, 1), (34, 0), (36, 0), (37, 1), (38, 1), (40, 1), (41, 0), (41, 1), (44, 0), (47, 1), (48, 1), (51, 0), (51, 1), (54, 1)]
def aw24 : List (Nat × Nat) := [(0, 0), (0, 1), (1, 0), (1, 1), (2, 0), (3, 0), (3, 1), (4, 0), (5, 0), (5, 1), (6, 1), (7, 0), (8, 0), (8, 1), (9, 1), (11, 0), (12, 0), (12, 1), (13, 1), (15, 0), (16, 0), (16, 1), (17, 1)]
def ag5 : List (List Int) := [[1, 2, 3, 4, 0], [1, 2, 0, 3, 4]]
def ag4 : List (List Int) := [[1, 2, 3, 0], [1, 0, 2, 3]]
theorem hk5 : 1 ≤ 5 ∧ 5 ≤ 7 := by decide
theorem hk4 : 1 ≤ 4 ∧ 4 ≤ 7 := by decide
theorem pk5_0 : PK 5 [1, 2, 3, 4, 0] := q0q (by decide) (by decide) (show List.Perm _ (idP 5) from by decide)
theorem pk5_1 : PK 5 [1, 2, 0, 3, 4] := q0q (by decide) (by decide) (show List.Perm _ (idP 5) from by decide)
theorem q7f : ∀ g ∈ ag5, PK 5 g := fun g hg => by
  simp only [ag5, List.mem_cons, List.not_mem_nil, or_false] at hg
  rcases hg with rfl | rfl
  · exact pk5_0
  · exact pk5_1
theorem q7g : GV ag5 := ⟨by decide, by decide, fun i hi => by
  have h : ∀ j, j < 2 → PK 5 (row ag5 j) := fun j hj => q7f _ (qyk hj)
  have h0 := h 0 (by decide)
  have h1 := h i hi
  exact ⟨h0.1, h1.1, by rw [h0.2, h1.2]⟩⟩
theorem pk4_0 : PK 4 [1, 2, 3, 0] := q0q (by decide) (by decide) (show List.Perm _ (idP 4) from by decide)
theorem pk4_1 : PK 4 [1, 0, 2, 3] := q0q (by decide) (by decide) (show List.Perm _ (idP 4) from by decide)
theorem q7h : ∀ g ∈ ag4, PK 4 g := fun g hg => by
  simp only [ag4, List.mem_cons, List.not_mem_nil, or_false] at hg
  rcases hg with rfl | rfl
  · exact pk4_0
  · exact pk4_1
theorem q7i : GV ag4 := ⟨by decide, by decide, fun i hi => by
  have h : ∀ j, j < 2 → PK 4 (row ag4 j) := fun j hj => q7h _ (qyk hj)
  have h0 := h 0 (by decide)
  have h1 := h i hi
  exact ⟨h0.1, h1.1, by rw [h0.2, h1.2]⟩⟩
theorem a60 : can (hk := hk5) (Cl (dn ag5)) = aL60 := q7d (w := aw60) q7f (by kernel_rfl) (by kernel_rfl) (by kernel_rfl) (by kernel_rfl) (by kernel_rfl) (by kernel_rfl)
theorem a24 : can (hk := hk4) (Cl (dn ag4)) = aL24 := q7d (w := aw24) q7h (by kernel_rfl) (by kernel_rfl) (by kernel_rfl) (by kernel_rfl) (by kernel_rfl) (by kernel_rfl)
theorem a12 : can (hk := hk4) (Dr (Cl (dn ag4))) = aL12 := q7e a24 (by kernel_rfl) (by kernel_rfl) (by kernel_rfl) (by kernel_rfl) (by kernel_rfl)
theorem a4 : can (hk := hk4) (Dr (Dr (Cl (dn ag4)))) = aL4 := q7e a12 (by kernel_rfl) (by kernel_rfl) (by kernel_rfl) (by kernel_rfl) (by kernel_rfl)
theorem a1 : can (hk := hk4) (Dr (Dr (Dr (Cl (dn ag4))))) = aL1 := q7e a4 (by kernel_rfl) (by kernel_rfl) (by kernel_rfl) (by kernel_rfl) (by kernel_rfl)
theorem q7j : ∀ g : Pm 5 hk5, dn ag5 g → Dr (Cl (dn ag5)) g := by
  have key : ∀ (g : Pm 5 hk5) (a b : List Int), inB a aL60 = true → inB b aL60 = true → eqL g.1 (cmC a b) = true → Dr (Cl (dn ag5)) g := fun g a b ha hb h => by
    have ha := q66 ha
    have hb := q66 hb
    rw [← a60] at ha hb
    obtain ⟨pa, ha⟩ := q48.1 ha
    obtain ⟨pb, hb⟩ := q48.1 hb
    refine .gen ⟨⟨a, pa⟩, ⟨b, pb⟩, ha, hb, Pm.ext ?_⟩
    rw [q65 h]
    exact (q7b (Pm.mk a pa) (Pm.mk b pb)).symm
  intro g hg
  have hg : g.1 ∈ ag5 := hg
  simp only [ag5, List.mem_cons, List.not_mem_nil, or_false] at hg
  rcases hg with e | e
  · exact key g [0, 1, 4, 2, 3] [4, 3, 0, 2, 1] (by kernel_rfl) (by kernel_rfl) (by rw [e]; kernel_rfl)
  · exact key g [0, 2, 1, 4, 3] [2, 0, 1, 3, 4] (by kernel_rfl) (by kernel_rfl) (by rw [e]; kernel_rfl)
theorem a60d : can (hk := hk5) (Dr (Cl (dn ag5))) = aL60 := by
  rw [← a60]
  exact q5c (fun x => ⟨fun h => Dr.le (Cl.sub _) h, fun h => h.le (Dr.sub _) q7j⟩)
theorem q7k {m : Nat} {H : Pm k hk → Prop} (h : (can (Dr H)).length ≠ (can H).length) : ser (m + 1) H = can (Dr H) :: ser m (Dr H) := by
  show (if _ then _ else _) = _
  rw [if_neg h]
theorem q7l {m : Nat} {H : Pm k hk → Prop} (h : (can (Dr H)).length = (can H).length) : ser (m + 1) H = [] := by
  show (if _ then _ else _) = _
  rw [if_pos h]
theorem aser : q6n (hk := hk4) (Cl (dn ag4)) = [aL24, aL12, aL4, aL1] := by
  have l0 : aL24.length = 24 := rfl
  have l1 : aL12.length = 12 := rfl
  have l2 : aL4.length = 4 := rfl
  have l3 : aL1.length = 1 := rfl
  unfold q6n
  have h4 : (can (hk := hk4) (Dr (Dr (Dr (Dr (Cl (dn ag4))))))).length = (can (hk := hk4) (Dr (Dr (Dr (Cl (dn ag4)))))).length := by
    have := Dr.len (hk := hk4) (H := Dr (Dr (Dr (Cl (dn ag4))))) (Dr.sub _)
    have h0 := q55 (hk := hk4) (H := Dr (Dr (Dr (Dr (Cl (dn ag4)))))) (Dr.sub _)
    rw [a1, l3] at this
    rw [a1, l3]; omega
  rw [show (can (hk := hk4) (Cl (dn ag4))).length = 20 + 1 + 1 + 1 + 1 by rw [a24]; rfl]
  rw [q7k (by rw [a12, a24, l0, l1]; decide), q7k (by rw [a4, a12, l1, l2]; decide), q7k (by rw [a1, a4, l2, l3]; decide), q7l h4, a24, a12, a4, a1]
theorem q7m (hn : Fw n) : qea n = some (true, ()) := by
  have c5 := q5s (hk := hk5) hn q7g q7f
  have d5 := q6l (hk := hk5) hn (H := Cl (dn ag5)) (Cl.sub _)
  have c4 := q5s (hk := hk4) hn q7i q7h
  have s4 := q6q (hk := hk4) hn (H := Cl (dn ag4)) (Cl.sub _)
  have sm := q5t (hk := hk5) hn.fu (Cl (dn ag5))
  rw [a60] at c5 d5 sm
  rw [a60d] at d5
  rw [a24] at c4 s4
  rw [aser] at s4
  unfold ag5 at c5
  unfold ag4 at c4
  have h0 : idx [aL24, aL12, aL4, aL1] 0 = some aL24 := rfl
  have h1 : idx [aL24, aL12, aL4, aL1] 1 = some aL12 := rfl
  have h2 : idx [aL24, aL12, aL4, aL1] 2 = some aL4 := rfl
  have h3 : idx [aL24, aL12, aL4, aL1] 3 = some aL1 := rfl
  have l : aL60.length = 60 := rfl
  have l0 : aL24.length = 24 := rfl
  have l1 : aL12.length = 12 := rfl
  have l2 : aL4.length = 4 := rfl
  have l3 : aL1.length = 1 := rfl
  simp (disch := first | assumption | omega) only [zA, zB, zC, zD, zE, zF, zG, qyj, qyd, qye, zH, zI, dpos, dneg, zJ, zK, zL, zM, zN, zO, zP, qea, c5, d5, c4, s4, l, sm, h0, h1, h2, h3, l0, l1, l2, l3]
end Go.Proofs.Ytemejeiajekmcaa.V
namespace Go.Proofs.Ytemejeiajekmcaa.V
open Go Classical Grp
set_option linter.unusedVariables false
set_option linter.all false
end Go.Proofs.Ytemejeiajekmcaa.V
namespace Go.Proofs.Ytemejeiajekmcaa.V
open Go Classical Grp
set_option linter.unusedVariables false
set_option linter.all false
variable {n : Nat} {k : Nat} {hk : 1 ≤ k ∧ k ≤ 7}
def dne (H : Pm k hk → Prop) (l : List (List Int)) (i : Nat) : Pm k hk → Prop := fun y => ∃ x, dn (l.take i) x ∧ Cls H x y
noncomputable def clsOf (H : Pm k hk → Prop) (p : List Int) : List (List Int) := canon k (fun q => ∃ (hp : PK k p) (hq : PK k q), Cls H (Pm.mk p hp) (Pm.mk q hq))
theorem q7n (H : Pm k hk → Prop) (x : Pm k hk) : clsOf H x.1 = can (Cls H x) :=
  q0w hk.1 hk.2 (fun q hq => ⟨fun ⟨_, hq, h⟩ => ⟨hq, h⟩, fun ⟨hq, h⟩ => ⟨x.2, hq, h⟩⟩)
noncomputable def clsT (H : Pm k hk → Prop) (l : List (List Int)) : Nat → List (List (List Int))
  | 0 => []
  | i + 1 => if upS (dne H l i) (row l i) then clsT H l i else clsT H l i ++ [clsOf H (row l i)]
theorem q7o (H : Pm k hk → Prop) (l : List (List Int)) : ∀ i, (clsT H l i).length ≤ i
  | 0 => Nat.le_refl _
  | i + 1 => by
    have := q7o H l i
    unfold clsT
    by_cases c : upS (dne H l i) (row l i)
    · rw [if_pos c]; omega
    · rw [if_neg c, List.length_append]; simp only [List.length_cons, List.length_nil]; omega
theorem q7p {H : Pm k hk → Prop} {l : List (List Int)} {i : Nat} {x : Pm k hk} (ex : row l i = x.1) (h : dne H l i x) : clsT H l (i + 1) = clsT H l i := by
  have c : upS (dne H l i) (row l i) := by rw [ex]; exact ⟨x.2, h⟩
  show (if upS (dne H l i) (row l i) then _ else _) = _
  rw [if_pos c]
theorem q7q {H : Pm k hk → Prop} {l : List (List Int)} {i : Nat} {x : Pm k hk} (ex : row l i = x.1) (h : ¬ dne H l i x) : clsT H l (i + 1) = clsT H l i ++ [can (Cls H x)] := by
  have c : ¬ upS (dne H l i) (row l i) := by rw [ex]; exact fun ⟨_, h2⟩ => h h2
  show (if upS (dne H l i) (row l i) then _ else _) = _
  rw [if_neg c, ex, q7n]
theorem q7r {H : Pm k hk → Prop} {l : List (List Int)} {i : Nat} (hi : i < l.length) {x : Pm k hk} (ex : row l i = x.1) (y : Pm k hk) : dne H l (i + 1) y ↔ dne H l i y ∨ Cls H x y := by
  constructor
  · rintro ⟨z, hz, h⟩
    rcases (q53 hi ex z).1 hz with hz | rfl
    · exact .inl ⟨z, hz, h⟩
    · exact .inr h
  · rintro (⟨z, hz, h⟩ | h)
    · exact ⟨z, (q53 hi ex z).2 (.inl hz), h⟩
    · exact ⟨x, (q53 hi ex x).2 (.inr rfl), h⟩
theorem q7s {H : Pm k hk → Prop} (hH : Sub H) {l : List (List Int)} {i : Nat} (hi : i < l.length) {x : Pm k hk} (ex : row l i = x.1) (h : dne H l i x) : dne H l (i + 1) = dne H l i := by
  funext y
  apply propext
  rw [q7r hi ex]
  refine ⟨?_, .inl⟩
  rintro (h2 | h2)
  · exact h2
  · obtain ⟨z, hz, h3⟩ := h
    exact ⟨z, hz, h3.trans hH h2⟩
theorem q7t (H : Pm k hk → Prop) (l : List (List Int)) : dne H l 0 = fun _ => False := by
  funext y; apply propext; exact ⟨fun ⟨x, hx, _⟩ => absurd hx (q54 x), False.elim⟩
theorem q7u {H : Pm k hk → Prop} (hH : Sub H) {l : List (List Int)} {i : Nat} {x y : Pm k hk} (h : ¬ dne H l i x) (hy : Cls H x y) : ¬ dne H l i y := by
  rintro ⟨z, hz, h2⟩
  exact h ⟨z, hz, h2.trans hH (hy.symm hH)⟩
theorem q7v (hn : Fu n) {G : List (List Int)} (hG : ∀ p ∈ G, PK k p) (hGl : G.length ≤ 1000000000) {t : List (List Int)} {a b : Int} {out : List (List (List Int))} {D : Pm k hk → Prop} {m : KS} {cls : List (List Int)} {i : Nat} (hi : i < cls.length)
    (hm : KSet hk m (fun y => D y ∨ dn cls y)) (hnd : cls.Nodup) (hc : ∀ p ∈ cls, PK k p) :
    ∃ m' ext, iterN (qfr n) n (G, (i : Int), t, a, b, G, (G.length : Int), 0, some m, out, cls, ()) = some (.inl (G, (i : Int), t, a, b, some m', out, cls ++ ext, ())) ∧ KSet hk m' (fun y => D y ∨ dn (cls ++ ext) y) ∧ (cls ++ ext).Nodup ∧
      (∀ p ∈ ext, ∃ y g : Pm k hk, p = (cj g y).1 ∧ row cls i = y.1 ∧ dn G g) ∧ ∀ (y g : Pm k hk), row cls i = y.1 → dn G g → D (cj g y) ∨ dn (cls ++ ext) (cj g y) := by
  obtain ⟨y, ey, hy⟩ := q52 (hk := hk) hc hi
  obtain ⟨r, e, m', ext, rfl, q1, q2, q3, q4⟩ := qx9 (f := qfr n) hn
    (fun d => ∃ (j : Nat) (m' : KS) (ext : List (List Int)), d = (G, (i : Int), t, a, b, G, (G.length : Int), (j : Int), some m', out, cls ++ ext, ()) ∧ j ≤ G.length ∧ KSet hk m' (fun y => D y ∨ dn (cls ++ ext) y) ∧ (cls ++ ext).Nodup ∧
      (∀ p ∈ ext, ∃ g : Pm k hk, p = (cj g y).1 ∧ dn G g) ∧ ∀ g : Pm k hk, dn (G.take j) g → D (cj g y) ∨ dn (cls ++ ext) (cj g y))
    (fun d => ((G.length : Int) - d.2.2.2.2.2.2.2.1).toNat)
    (fun r => ∃ m' ext, r = .inl (G, (i : Int), t, a, b, some m', out, cls ++ ext, ()) ∧ KSet hk m' (fun y => D y ∨ dn (cls ++ ext) y) ∧ (cls ++ ext).Nodup ∧ (∀ p ∈ ext, ∃ g : Pm k hk, p = (cj g y).1 ∧ dn G g) ∧ ∀ g : Pm k hk, dn G g → D (cj g y) ∨ dn (cls ++ ext) (cj g y))
    (d := (G, (i : Int), t, a, b, G, (G.length : Int), 0, some m, out, cls, ()))
    ⟨0, m, [], by rw [List.append_nil]; rfl, Nat.zero_le _, by rw [List.append_nil]; exact hm, by rw [List.append_nil]; exact hnd, (fun p h => nomatch h), fun g hg => absurd hg (q54 g)⟩ (by simp only; omega) (by
      rintro d ⟨j, m', ext, rfl, h1, h2, h3, h4, h5⟩
      by_cases c : j < G.length
      · obtain ⟨g, eg, hg⟩ := q52 (hk := hk) hG c
        have ec := q51 hn y g
        have ek := q6e hn (cj g y)
        have hlen : i < (cls ++ ext).length := by rw [List.length_append]; omega
        have ei : idx (cls ++ ext) (i : Int) = some y.1 := by rw [qyl hlen, qz1 hi, ey]
        have hP : ∀ p ∈ cls ++ ext, PK k p := fun p hp => by
          rw [List.mem_append] at hp
          rcases hp with hp | hp
          · exact hc p hp
          · obtain ⟨g, e, _⟩ := h4 p hp
            rw [e]; exact (cj g y).2
        have hfew := q5f h3 hP hk
        rw [List.length_append] at hfew
        by_cases c2 : D (cj g y) ∨ dn (cls ++ ext) (cj g y)
        · have elk := h2.look_in c2
          refine .inl ⟨(G, (i : Int), t, a, b, G, (G.length : Int), ((j + 1 : Nat) : Int), some m', out, cls ++ ext, ()), ?_, ⟨j + 1, m', ext, rfl, c, h2, h3, h4, fun z hz => ?_⟩, by simp only; omega⟩
          · simp (disch := first | assumption | omega) only [zA, zB, zC, zD, zE, zF, zG, qyj, qyd, qye, zH, zI, dpos, dneg, zJ, zK, zL, zM, zN, zO, zP, qfr, qfq, qyl, eg, ei, ec, ek, elk, up1]
          · rcases (q53 c eg z).1 hz with hz | rfl
            · exact h5 z hz
            · exact c2
        · have elk := h2.look_out c2
          have hput := h2.put (cj g y)
          have hl1 : ([(cj g y).1] : List (List Int)).length = 1 := rfl
          refine .inl ⟨(G, (i : Int), t, a, b, G, (G.length : Int), ((j + 1 : Nat) : Int), some (mput (.arr 7 (.int .i8)) m' (keyP (cj g y).1) true), out, cls ++ (ext ++ [(cj g y).1]), ()), ?_, ⟨j + 1, _, _, rfl, c, ⟨hput.1, fun z => ?_⟩, ?_, fun p hp => ?_, fun z hz => ?_⟩, by simp only; omega⟩
          · rw [← List.append_assoc]
            simp (disch := first | assumption | omega) only [zA, zB, zC, zD, zE, zF, zG, qyj, qyd, qye, zH, zI, dpos, dneg, zJ, zK, zL, zM, zN, zO, zP, qfr, qfq, qyl, eg, ei, ec, ek, elk, up1]
          · rw [hput.2 z]
            show (D z ∨ z.1 ∈ cls ++ ext) ∨ z = cj g y ↔ D z ∨ z.1 ∈ cls ++ (ext ++ [(cj g y).1])
            rw [← List.append_assoc, List.mem_append (s := cls ++ ext), List.mem_singleton, or_assoc]
            exact or_congr Iff.rfl (or_congr Iff.rfl ⟨fun h => by rw [h], fun h => Pm.ext h⟩)
          · rw [← List.append_assoc, List.nodup_append]
            refine ⟨h3, by simp, fun a ha b hb e => ?_⟩
            rw [List.mem_singleton] at hb
            subst hb
            subst e
            exact c2 (.inr ha)
          · rw [List.mem_append, List.mem_singleton] at hp
            rcases hp with hp | rfl
            · exact h4 p hp
            · exact ⟨g, rfl, hg⟩
          · rcases (q53 c eg z).1 hz with hz | rfl
            · rcases h5 z hz with h | h
              · exact .inl h
              · refine .inr ?_
                unfold dn at h ⊢
                rw [← List.append_assoc]
                exact List.mem_append_left _ h
            · refine .inr ?_
              unfold dn
              simp
      · obtain rfl : j = G.length := by omega
        rw [List.take_length] at h5
        refine .inr ⟨_, ?_, m', ext, rfl, h2, h3, h4, h5⟩
        simp (disch := first | assumption | omega) only [zA, zB, zC, zD, zE, zF, zG, qyj, qyd, qye, zH, zI, dpos, dneg, zJ, zK, zL, zM, zN, zO, zP, qfr, qfq])
  refine ⟨m', ext, e, q1, q2, fun p hp => ?_, fun z g hz hg => ?_⟩
  · obtain ⟨g, e, hg⟩ := q3 p hp; exact ⟨y, g, e, ey, hg⟩
  · have : z = y := Pm.ext (hz.symm.trans ey)
    rw [this]; exact q4 g hg
theorem q7w (hn : Fu n) {H : Pm k hk → Prop} (hH : Sub H) {G : List (List Int)} (hG : ∀ p ∈ G, PK k p) (hGl : G.length ≤ 1000000000) (hGH : ∀ x : Pm k hk, Cl (dn G) x ↔ H x) {t : List (List Int)} {a b : Int} {out : List (List (List Int))} {D : Pm k hk → Prop} {m : KS} (x : Pm k hk)
    (hD : ∀ y, Cls H x y → ¬ D y) (hm : KSet hk m (fun y => D y ∨ y = x)) :
    ∃ m' cls, iterN (qft n) n (G, 0, t, a, b, some m, out, [x.1], ()) = some (.inl (G, t, a, b, some m', out, cls, ())) ∧ KSet hk m' (fun y => D y ∨ Cls H x y) ∧ cls.Nodup ∧ (∀ p ∈ cls, PK k p) ∧ ∀ y : Pm k hk, dn cls y ↔ Cls H x y := by
  obtain ⟨r, e, m', cls, rfl, q1, q2, q3, q4⟩ := qx9 (f := qft n) hn
    (fun d => ∃ (i : Nat) (m' : KS) (cls : List (List Int)), d = (G, (i : Int), t, a, b, some m', out, cls, ()) ∧ i ≤ cls.length ∧ KSet hk m' (fun y => D y ∨ dn cls y) ∧ cls.Nodup ∧ (∀ p ∈ cls, upS (Cls H x) p) ∧ dn cls x ∧ ∀ (y g : Pm k hk), (∃ j, j < i ∧ row cls j = y.1) → dn G g → dn cls (cj g y))
    (fun d => 5041 - d.2.1.toNat)
    (fun r => ∃ m' cls, r = .inl (G, t, a, b, some m', out, cls, ()) ∧ KSet hk m' (fun y => D y ∨ Cls H x y) ∧ cls.Nodup ∧ (∀ p ∈ cls, PK k p) ∧ ∀ y : Pm k hk, dn cls y ↔ Cls H x y)
    (d := (G, 0, t, a, b, some m, out, [x.1], ()))
    ⟨0, m, [x.1], rfl, Nat.zero_le _, ⟨hm.1, fun y => by
      rw [hm.2 y]
      show D y ∨ y = x ↔ D y ∨ y.1 ∈ [x.1]
      rw [List.mem_singleton]
      exact or_congr Iff.rfl ⟨fun h => by rw [h], fun h => Pm.ext h⟩⟩, by simp, fun p hp => by
      rw [List.mem_singleton] at hp; subst hp; exact ⟨x.2, Cls.refl hH x⟩, by simp [dn], fun y g ⟨j, hj, _⟩ => by omega⟩ (by simp only; omega) (by
      rintro d ⟨i, m', cls, rfl, h1, h2, h3, h4, h5, h6⟩
      have hP : ∀ p ∈ cls, PK k p := fun p hp => (h4 p hp).1
      have hfew := q5f h3 hP hk
      by_cases c : i < cls.length
      · obtain ⟨m2, ext, e, r1, r2, r3, r4⟩ := q7v hn hG hGl (t := t) (a := a) (b := b) (out := out) c h2 h3 hP
        have hext : ∀ p ∈ ext, upS (Cls H x) p := fun p hp => by
          obtain ⟨y, g, rfl, ey, hg⟩ := r3 p hp
          obtain ⟨_, hc⟩ := h4 _ (qyk c)
          have hc : Cls H x y := by
            have : (⟨row cls i, hP _ (qyk c)⟩ : Pm k hk) = y := Pm.ext ey
            rw [← this]; exact hc
          exact ⟨(cj g y).2, hc.trans hH ⟨g, (hGH g).1 (.gen hg), rfl⟩⟩
        refine .inl ⟨(G, ((i + 1 : Nat) : Int), t, a, b, some m2, out, cls ++ ext, ()), ?_, ⟨i + 1, m2, cls ++ ext, rfl, by rw [List.length_append]; omega, r1, r2, fun p hp => ?_, List.mem_append_left _ h5, fun y g ⟨j, hj, ey⟩ hg => ?_⟩, by simp only [Int.toNat_natCast]; omega⟩
        · simp (disch := first | assumption | omega) only [zA, zB, zC, zD, zE, zF, zG, qyj, qyd, qye, zH, zI, dpos, dneg, zJ, zK, zL, zM, zN, zO, zP, qft, qfs, e, up1]
        · rw [List.mem_append] at hp
          exact hp.elim (h4 p) (hext p)
        · by_cases ej : j = i
          · subst ej
            rw [qz1 c] at ey
            rcases r4 y g ey hg with h | h
            · obtain ⟨_, hc⟩ := h4 _ (qyk c)
              have hc : Cls H x y := by
                have : (⟨row cls j, hP _ (qyk c)⟩ : Pm k hk) = y := Pm.ext ey
                rw [← this]; exact hc
              exact absurd h (hD _ (hc.trans hH ⟨g, (hGH g).1 (.gen hg), rfl⟩))
            · exact h
          · rw [qz1 (by omega)] at ey
            exact List.mem_append_left _ (h6 y g ⟨j, by omega, ey⟩ hg)
      · obtain rfl : i = cls.length := by omega
        have key : ∀ y : Pm k hk, dn cls y ↔ Cls H x y := fun y => by
          constructor
          · intro hy
            obtain ⟨_, hc⟩ := h4 y.1 hy
            exact hc
          · rintro ⟨c, hc, rfl⟩
            replace hc := (hGH c).2 hc
            induction hc with
            | one => rw [q06]; exact h5
            | @step p q _ hq ih =>
              rw [← cj_cj]
              obtain ⟨j, hj, ej⟩ := q6v.1 (ih)
              exact h6 _ _ ⟨j, hj, ej⟩ hq
        refine .inr ⟨.inl (G, t, a, b, some m', out, cls, ()), ?_, m', cls, rfl, ⟨h2.1, fun y => by rw [h2.2 y]; exact or_congr Iff.rfl (key y)⟩, h3, hP, key⟩
        simp (disch := first | assumption | omega) only [zA, zB, zC, zD, zE, zF, zG, qyj, qyd, qye, zH, zI, dpos, dneg, zJ, zK, zL, zM, zN, zO, zP, qft, qfs])
  exact ⟨m', cls, e, q1, q2, q3, q4⟩
theorem q7x (hn : Fw n) {H : Pm k hk → Prop} (hH : Sub H) : qfw n (can H) = some (clsT H (can H) (can H).length, 0, ()) := by
  have hl := q5b (H := H)
  obtain ⟨G, f1, q1, q2, q3, q4, q5⟩ := q6f hn hH
  obtain ⟨r, e, rfl⟩ := qx9 (f := qfv n) hn.fu
    (fun d => ∃ (i : Nat) (m : KS), d = (G, can H, ((can H).length : Int), (i : Int), some m, clsT H (can H) i, ()) ∧ i ≤ (can H).length ∧ KSet hk m (dne H (can H) i))
    (fun d => (((can H).length : Int) - d.2.2.2.1).toNat)
    (fun r => r = .inl (clsT H (can H) (can H).length, ()))
    (d := (G, can H, ((can H).length : Int), 0, some [], [], ()))
    ⟨0, [], rfl, Nat.zero_le _, by rw [q7t]; exact KSet.nil⟩ (by simp only; omega) (by
      rintro d ⟨i, m, rfl, h1, h2⟩
      by_cases c : i < (can H).length
      · obtain ⟨x, ex, hx⟩ := q52 (hk := hk) (q5a (H := H)) c
        have ek := q6e hn.fu x
        have elk := h2.look x
        have hcl := q7o H (can H) i
        by_cases c2 : dne H (can H) i x
        · rw [decide_eq_true c2] at elk
          refine .inl ⟨(G, can H, ((can H).length : Int), ((i + 1 : Nat) : Int), some m, clsT H (can H) (i + 1), ()), ?_, ⟨i + 1, m, rfl, c, by rw [q7s hH c ex c2]; exact h2⟩, by simp only; omega⟩
          rw [q7p ex c2]
          simp (disch := first | assumption | omega) only [zA, zB, zC, zD, zE, zF, zG, qyj, qyd, qye, zH, zI, dpos, dneg, zJ, zK, zL, zM, zN, zO, zP, qfv, qfu, qyl, ex, ek, elk, up1]
        · rw [decide_eq_false c2] at elk
          obtain ⟨m', cls, e, r1, r2, r3, r4⟩ := q7w hn.fu hH q1 (by omega) q2 (t := can H) (a := ((can H).length : Int)) (b := (i : Int)) (out := clsT H (can H) i) x (fun y hy => q7u hH c2 hy) (h2.put x)
          have e3 := q4g hn hk.1 hk.2 r2 r3
          have e4 : canon k (· ∈ cls) = can (Cls H x) := q0w hk.1 hk.2 (fun p hp => ⟨fun h => ⟨hp, (r4 ⟨p, hp⟩).1 h⟩, fun ⟨hp, h⟩ => (r4 ⟨p, hp⟩).2 h⟩)
          rw [e4] at e3
          have e5 := q6k hn.fu (Cls H x)
          refine .inl ⟨(G, can H, ((can H).length : Int), ((i + 1 : Nat) : Int), some m', clsT H (can H) (i + 1), ()), ?_, ⟨i + 1, m', rfl, c, r1.1, fun y => by rw [r1.2 y]; exact (q7r c ex y).symm⟩, by simp only; omega⟩
          rw [q7q ex c2]
          have hl1 : ([can (Cls H x)] : List (List (List Int))).length = 1 := rfl
          simp (disch := first | assumption | omega) only [zA, zB, zC, zD, zE, zF, zG, qyj, qyd, qye, zH, zI, dpos, dneg, zJ, zK, zL, zM, zN, zO, zP, qfv, qfu, qyl, ex, ek, elk, e, e3, e5, up1]
      · obtain rfl : i = (can H).length := by omega
        refine .inr ⟨_, ?_, rfl⟩
        simp (disch := first | assumption | omega) only [zA, zB, zC, zD, zE, zF, zG, qyj, qyd, qye, zH, zI, dpos, dneg, zJ, zK, zL, zM, zN, zO, zP, qfv, qfu])
  simp (disch := first | assumption | omega) only [zA, zB, zC, zD, zE, zF, zG, qyj, qyd, qye, zH, zI, dpos, dneg, zJ, zK, zL, zM, zN, zO, zP, qfw, q6b hn hH, f1, e]
theorem q7y (H : Pm k hk → Prop) {l : List (List Int)} (hl : ∀ p ∈ l, PK k p) : ∀ i, i ≤ l.length → ∀ c ∈ clsT H l i, ∃ x : Pm k hk, dn l x ∧ c = can (Cls H x)
  | 0, _, _, h => nomatch h
  | i + 1, hi, c, h => by
    obtain ⟨x, ex, hx⟩ := q52 (hk := hk) hl (i := i) (by omega)
    by_cases c2 : dne H l i x
    · rw [q7p ex c2] at h; exact q7y H hl i (by omega) c h
    · rw [q7q ex c2, List.mem_append, List.mem_singleton] at h
      rcases h with h | rfl
      · exact q7y H hl i (by omega) c h
      · exact ⟨x, hx, rfl⟩
end Go.Proofs.Ytemejeiajekmcaa.V
namespace Go.Proofs.Ytemejeiajekmcaa.V
open Go Classical Grp
set_option linter.unusedVariables false
set_option linter.all false
variable {n : Nat} {k : Nat} {hk : 1 ≤ k ∧ k ≤ 7}
def Cm (H : Pm k hk → Prop) : Pm k hk → Prop := fun y => ∃ a b, H a ∧ H b ∧ y = cm a b
def Wd (H : Pm k hk → Prop) : Nat → Pm k hk → Prop
  | 0, x => x = 1
  | m + 1, x => ∃ y c, Wd H m y ∧ Cm H c ∧ x = y * c
def Lv (H : Pm k hk → Prop) (m : Nat) (x : Pm k hk) : Prop := Wd H m x ∧ ∀ j, j < m → ¬ Wd H j x
theorem least {P : Nat → Prop} : ∀ m, P m → ∃ j, j ≤ m ∧ P j ∧ ∀ i, i < j → ¬ P i := by
  intro m
  induction m using Nat.strongRecOn with
  | ind m ih =>
    intro h
    by_cases c : ∃ i, i < m ∧ P i
    · obtain ⟨i, hi, hp⟩ := c
      obtain ⟨j, h1, h2, h3⟩ := ih i hi hp
      exact ⟨j, by omega, h2, h3⟩
    · exact ⟨m, Nat.le_refl _, h, fun i hi hp => c ⟨i, hi, hp⟩⟩
theorem Lv.uniq {H : Pm k hk → Prop} {a b : Nat} {x : Pm k hk} (h1 : Lv H a x) (h2 : Lv H b x) : a = b := by
  rcases Nat.lt_trichotomy a b with h | h | h
  · exact absurd h1.1 (h2.2 a h)
  · exact h
  · exact absurd h2.1 (h1.2 b h)
theorem Lv.zero (H : Pm k hk → Prop) : Lv H 0 (1 : Pm k hk) := ⟨rfl, fun j hj => by omega⟩
theorem Lv.of_zero {H : Pm k hk → Prop} {x : Pm k hk} (h : Lv H 0 x) : x = 1 := h.1
theorem Lv.pred {H : Pm k hk → Prop} {m : Nat} {x : Pm k hk} (h : Lv H (m + 1) x) : ∃ y c, Lv H m y ∧ Cm H c ∧ x = y * c := by
  obtain ⟨⟨y, c, hy, hc, e⟩, hmin⟩ := h
  exact ⟨y, c, ⟨hy, fun j hj hw => hmin (j + 1) (by omega) ⟨y, c, hw, hc, e⟩⟩, hc, e⟩
theorem Lv.next {H : Pm k hk → Prop} {m : Nat} {y c : Pm k hk} (h : Lv H m y) (hc : Cm H c) : ∃ j, j ≤ m + 1 ∧ Lv H j (y * c) := by
  obtain ⟨j, h1, h2, h3⟩ := least (P := fun j => Wd H j (y * c)) (m + 1) ⟨y, c, h.1, hc, rfl⟩
  exact ⟨j, h1, h2, h3⟩
theorem Wd.dr {H : Pm k hk → Prop} : ∀ {m : Nat} {x : Pm k hk}, Wd H m x → Dr H x
  | 0, x, h => by
    have h : x = 1 := h
    rw [h]; exact .one
  | m + 1, x, ⟨y, c, hy, hc, e⟩ => by rw [e]; exact .step (Wd.dr hy) hc
theorem Lv.dr {H : Pm k hk → Prop} {m : Nat} {x : Pm k hk} (h : Lv H m x) : Dr H x := h.1.dr
theorem Dr.lv {H : Pm k hk → Prop} {x : Pm k hk} (h : Dr H x) : ∃ m, Lv H m x := by
  induction h with
  | one => exact ⟨0, Lv.zero H⟩
  | step _ hq ih =>
    obtain ⟨m, hm⟩ := ih
    obtain ⟨j, _, hj⟩ := hm.next hq
    exact ⟨j, hj⟩
end Go.Proofs.Ytemejeiajekmcaa.V
namespace Go.Proofs.Ytemejeiajekmcaa.V
open Go Classical Grp
set_option linter.unusedVariables false
set_option linter.all false
variable {n : Nat} {k : Nat} {hk : 1 ≤ k ∧ k ≤ 7}
abbrev K7 : Ty := .arr 7 (.int .i8)
def KL {β : Type} (m : List (List Int × β)) : Prop := ∀ x ∈ m, x.1.length = 7
theorem KL.put {β : Type} : ∀ {m : List (List Int × β)} {q : List Int} {z : β}, KL m → q.length = 7 → KL (mput K7 m q z)
  | [], q, z, _, hq, x, hx => by
    simp only [mput, List.mem_singleton] at hx
    subst hx; exact hq
  | y :: m, q, z, h, hq, x, hx => by
    simp only [mput] at hx
    cases he : eqV K7 q y.1 with
    | true =>
      rw [he] at hx
      simp only [cond_true, List.mem_cons] at hx
      rcases hx with rfl | hx
      · exact hq
      · exact h x (by simp [hx])
    | false =>
      rw [he] at hx
      simp only [cond_false, List.mem_cons] at hx
      rcases hx with rfl | hx
      · exact h _ (by simp)
      · exact KL.put (fun w hw => h w (by simp [hw])) hq x hx
theorem eqk {a b : List Int} (ha : a.length = 7) (hb : b.length = 7) : (eqV K7 a b = true ↔ a = b) := qzn (by rw [ha, hb])
theorem q7z {β : Type} : ∀ {m : List (List Int × β)} {q : List Int} {z : β}, KL m → q.length = 7 → mget K7 (mput K7 m q z) q = some z
  | [], q, z, _, hq => by simp only [mput, mget, (eqk hq hq).2 rfl, cond_true]
  | y :: m, q, z, h, hq => by
    simp only [mput]
    cases he : eqV K7 q y.1 with
    | true => simp only [cond_true, mget, (eqk hq hq).2 rfl]
    | false =>
      simp only [cond_false, mget, he]
      exact q7z (fun w hw => h w (by simp [hw])) hq
theorem q70 {β : Type} : ∀ {m : List (List Int × β)} {q q' : List Int} {z : β}, KL m → q.length = 7 → q'.length = 7 → q ≠ q' → mget K7 (mput K7 m q z) q' = mget K7 m q'
  | [], q, q', z, _, hq, hq', hne => by
    have : eqV K7 q' q = false := by
      cases h : eqV K7 q' q with
      | false => rfl
      | true => exact absurd ((eqk hq' hq).1 h).symm hne
    simp only [mput, mget, this, cond_false]
  | y :: m, q, q', z, h, hq, hq', hne => by
    have hy := h y (by simp)
    have hf : eqV K7 q' q = false := by
      cases h : eqV K7 q' q with
      | false => rfl
      | true => exact absurd ((eqk hq' hq).1 h).symm hne
    simp only [mput]
    cases he : eqV K7 q y.1 with
    | true =>
      have e := (eqk hq hy).1 he
      rw [e] at hf
      simp only [cond_true, mget]
      rw [e, hf]
      rfl
    | false =>
      simp only [cond_false, mget]
      rw [q70 (fun w hw => h w (by simp [hw])) hq hq' hne]
structure PI (H : Pm k hk → Prop) (S : Pm k hk → Prop) (m : List (List Int × List (List Int))) (all : List (List Int)) : Prop where
  kl : KL m
  nd : all.Nodup
  pk : ∀ p ∈ all, PK k p
  mem : ∀ x : Pm k hk, dn all x ↔ S x
  yes : ∀ x : Pm k hk, S x → ∃ a b : Pm k hk, H a ∧ H b ∧ x = cm a b ∧ mget K7 m (keyP x.1) = some [a.1, b.1]
  no : ∀ x : Pm k hk, ¬ S x → mget K7 m (keyP x.1) = none
theorem q71 (hn : Fu n) {H : Pm k hk → Prop} {g : List Int} {t : List (List Int)} {a b : Int} (x : Pm k hk) (hx : H x) {S : Pm k hk → Prop} {m : List (List Int × List (List Int))} {all : List (List Int)} (h : PI H S m all) :
    ∃ m' all', iterN (qf7 n) n (can H, g, x.1, t, a, b, can H, ((can H).length : Int), 0, some m, all, ()) = some (.inl (can H, g, t, a, b, some m', all', ())) ∧ PI H (fun y => S y ∨ ∃ z, H z ∧ y = cm x z) m' all' := by
  have hl := q5b (H := H)
  obtain ⟨r, e, m', all', rfl, q⟩ := qx9 (f := qf7 n) hn
    (fun d => ∃ (j : Nat) (m' : List (List Int × List (List Int))) (all' : List (List Int)), d = (can H, g, x.1, t, a, b, can H, ((can H).length : Int), (j : Int), some m', all', ()) ∧ j ≤ (can H).length ∧ PI H (fun y => S y ∨ ∃ z, dn ((can H).take j) z ∧ y = cm x z) m' all')
    (fun d => (((can H).length : Int) - d.2.2.2.2.2.2.2.2.1).toNat)
    (fun r => ∃ m' all', r = .inl (can H, g, t, a, b, some m', all', ()) ∧ PI H (fun y => S y ∨ ∃ z, H z ∧ y = cm x z) m' all')
    (d := (can H, g, x.1, t, a, b, can H, ((can H).length : Int), 0, some m, all, ()))
    ⟨0, m, all, rfl, Nat.zero_le _, by
      have : (fun y => S y ∨ ∃ z, dn ((can H).take 0) z ∧ y = cm x z) = S := funext fun y => propext ⟨fun h => h.elim id (fun ⟨z, hz, _⟩ => absurd hz (q54 z)), .inl⟩
      rw [this]; exact h⟩ (by simp only; omega) (by
      rintro d ⟨j, m', all', rfl, h1, h2⟩
      by_cases c : j < (can H).length
      · obtain ⟨y, ey, hy⟩ := q52 (hk := hk) (q5a (H := H)) c
        have hHy : H y := q5e.1 hy
        have ec := q50 hn x y
        have ek := q6e hn (cm x y)
        have hfew := q5f h2.nd h2.pk hk
        have hstep : ∀ z, (S z ∨ ∃ w, dn ((can H).take (j + 1)) w ∧ z = cm x w) ↔ (S z ∨ ∃ w, dn ((can H).take j) w ∧ z = cm x w) ∨ z = cm x y := fun z => by
          constructor
          · rintro (h | ⟨w, hw, rfl⟩)
            · exact .inl (.inl h)
            · rcases (q53 c ey w).1 hw with hw | rfl
              · exact .inl (.inr ⟨w, hw, rfl⟩)
              · exact .inr rfl
          · rintro ((h | ⟨w, hw, rfl⟩) | rfl)
            · exact .inl h
            · exact .inr ⟨w, (q53 c ey w).2 (.inl hw), rfl⟩
            · exact .inr ⟨y, (q53 c ey y).2 (.inr rfl), rfl⟩
        have ei : idx (can H) (j : Int) = some y.1 := by rw [qyl c, ey]
        by_cases c2 : S (cm x y) ∨ ∃ z, dn ((can H).take j) z ∧ cm x y = cm x z
        · obtain ⟨a1, b1, ha1, hb1, _, eg⟩ := h2.yes _ c2
          have en : nes a1.1 = some () := by
            have hl1 := a1.2.2
            have hk1 := hk.1
            cases h : a1.1 with
            | nil => rw [h] at hl1; simp at hl1; omega
            | cons => rfl
          have eo : ((some m').bind fun l => mget K7 l (keyP (cm x y).1)) = some [a1.1, b1.1] := eg
          have ex0 : idx [a1.1, b1.1] 0 = some a1.1 := rfl
          refine .inl ⟨(can H, g, x.1, t, a, b, can H, ((can H).length : Int), ((j + 1 : Nat) : Int), some m', all', ()), ?_, ⟨j + 1, m', all', rfl, c, ?_⟩, by simp only; omega⟩
          · simp (disch := first | assumption | omega) only [zA, zB, zC, zD, zE, zF, zG, qyj, qyd, qye, zH, zI, dpos, dneg, zJ, zK, zL, zM, zN, zO, zP, qf7, qf6, ei, ec, ek, eo, oel, ex0, en, up1]
          · have : (fun z => S z ∨ ∃ w, dn ((can H).take (j + 1)) w ∧ z = cm x w) = fun z => S z ∨ ∃ w, dn ((can H).take j) w ∧ z = cm x w := funext fun z => propext (by
              rw [hstep z]
              exact ⟨fun h => h.elim id (fun e => by rw [e]; exact c2), .inl⟩)
            rw [this]; exact h2
        · have eo : ((some m').bind fun l => mget K7 l (keyP (cm x y).1)) = none := h2.no _ c2
          have hk7 := qzo (cm x y).1
          refine .inl ⟨(can H, g, x.1, t, a, b, can H, ((can H).length : Int), ((j + 1 : Nat) : Int), some (mput K7 m' (keyP (cm x y).1) [x.1, y.1]), all' ++ [(cm x y).1], ()), ?_, ⟨j + 1, _, _, rfl, c, ⟨h2.kl.put hk7, ?_, fun p hp => ?_, fun z => ?_, fun z hz => ?_, fun z hz => ?_⟩⟩, by simp only; omega⟩
          · have hl1 : ([(cm x y).1] : List (List Int)).length = 1 := rfl
            simp (disch := first | assumption | omega) only [zA, zB, zC, zD, zE, zF, zG, qyj, qyd, qye, zH, zI, dpos, dneg, zJ, zK, zL, zM, zN, zO, zP, qf7, qf6, ei, ec, ek, eo, oel, up1]
          · rw [List.nodup_append]
            refine ⟨h2.nd, by simp, fun p hp q hq e => ?_⟩
            rw [List.mem_singleton] at hq
            subst hq; subst e
            exact c2 ((h2.mem (cm x y)).1 hp)
          · rw [List.mem_append, List.mem_singleton] at hp
            rcases hp with hp | rfl
            · exact h2.pk p hp
            · exact (cm x y).2
          · rw [hstep z]
            show z.1 ∈ all' ++ [(cm x y).1] ↔ _
            rw [List.mem_append, List.mem_singleton]
            exact or_congr (h2.mem z) ⟨fun h => Pm.ext h, fun h => by rw [h]⟩
          · by_cases ez : z = cm x y
            · subst ez
              exact ⟨x, y, hx, hHy, rfl, q7z h2.kl hk7⟩
            · rcases (hstep z).1 hz with hz | hz
              · obtain ⟨a1, b1, p1, p2, p3, p4⟩ := h2.yes z hz
                refine ⟨a1, b1, p1, p2, p3, ?_⟩
                rw [q70 h2.kl hk7 (qzo z.1) (fun e => ez (Pm.ext (qzm z.2.1 (cm x y).2.1 e.symm))), p4]
              · exact absurd hz ez
          · have hz' : ¬ ((S z ∨ ∃ w, dn ((can H).take j) w ∧ z = cm x w) ∨ z = cm x y) := fun h => hz ((hstep z).2 h)
            have ez : z ≠ cm x y := fun e => hz' (.inr e)
            rw [q70 h2.kl hk7 (qzo z.1) (fun e => ez (Pm.ext (qzm z.2.1 (cm x y).2.1 e.symm)))]
            exact h2.no z (fun h => hz' (.inl h))
      · obtain rfl : j = (can H).length := by omega
        rw [List.take_length] at h2
        have : (fun z => S z ∨ ∃ w, dn (can H) w ∧ z = cm x w) = fun z => S z ∨ ∃ w, H w ∧ z = cm x w := by
          rw [show (dn (can H) : Pm k hk → Prop) = H from funext fun z => propext q5e]
        rw [this] at h2
        refine .inr ⟨_, ?_, m', all', rfl, h2⟩
        simp (disch := first | assumption | omega) only [zA, zB, zC, zD, zE, zF, zG, qyj, qyd, qye, zH, zI, dpos, dneg, zJ, zK, zL, zM, zN, zO, zP, qf7, qf6])
  exact ⟨m', all', e, q⟩
theorem q72 (hn : Fu n) (H : Pm k hk → Prop) (g : List Int) :
    ∃ m all, iterN (qgd n) n (can H, g, can H, ((can H).length : Int), 0, some [], [], ()) = some (.inl (g, some m, all, ())) ∧ PI H (Cm H) m all := by
  have hl := q5b (H := H)
  obtain ⟨r, e, m, all, rfl, q⟩ := qx9 (f := qgd n) hn
    (fun d => ∃ (i : Nat) (m : List (List Int × List (List Int))) (all : List (List Int)), d = (can H, g, can H, ((can H).length : Int), (i : Int), some m, all, ()) ∧ i ≤ (can H).length ∧ PI H (fun y => ∃ x z, dn ((can H).take i) x ∧ H z ∧ y = cm x z) m all)
    (fun d => (((can H).length : Int) - d.2.2.2.2.1).toNat)
    (fun r => ∃ m all, r = .inl (g, some m, all, ()) ∧ PI H (Cm H) m all)
    (d := (can H, g, can H, ((can H).length : Int), 0, some [], [], ()))
    ⟨0, [], [], rfl, Nat.zero_le _, ⟨(fun x hx => nomatch hx), by simp, (fun p hp => nomatch hp), fun x => ⟨(fun h => nomatch h), fun ⟨a, _, ha, _⟩ => absurd ha (q54 a)⟩, fun x ⟨a, _, ha, _⟩ => absurd ha (q54 a), fun _ _ => rfl⟩⟩ (by simp only; omega) (by
      rintro d ⟨i, m, all, rfl, h1, h2⟩
      by_cases c : i < (can H).length
      · obtain ⟨x, ex, hx⟩ := q52 (hk := hk) (q5a (H := H)) c
        obtain ⟨m', all', e, q⟩ := q71 hn (g := g) (t := can H) (a := ((can H).length : Int)) (b := (i : Int)) x (q5e.1 hx) h2
        refine .inl ⟨(can H, g, can H, ((can H).length : Int), ((i + 1 : Nat) : Int), some m', all', ()), ?_, ⟨i + 1, m', all', rfl, c, ?_⟩, by simp only; omega⟩
        · simp (disch := first | assumption | omega) only [zA, zB, zC, zD, zE, zF, zG, qyj, qyd, qye, zH, zI, dpos, dneg, zJ, zK, zL, zM, zN, zO, zP, qgd, qgc, qyl, ex, e, up1]
        · have : (fun y => ∃ x z, dn ((can H).take (i + 1)) x ∧ H z ∧ y = cm x z) = fun y => (∃ x z, dn ((can H).take i) x ∧ H z ∧ y = cm x z) ∨ ∃ z, H z ∧ y = cm x z := funext fun y => propext (by
            constructor
            · rintro ⟨a, z, ha, hz, rfl⟩
              rcases (q53 c ex a).1 ha with ha | rfl
              · exact .inl ⟨a, z, ha, hz, rfl⟩
              · exact .inr ⟨z, hz, rfl⟩
            · rintro (⟨a, z, ha, hz, rfl⟩ | ⟨z, hz, rfl⟩)
              · exact ⟨a, z, (q53 c ex a).2 (.inl ha), hz, rfl⟩
              · exact ⟨x, z, (q53 c ex x).2 (.inr rfl), hz, rfl⟩)
          rw [this]; exact q
      · obtain rfl : i = (can H).length := by omega
        rw [List.take_length] at h2
        have : (fun y => ∃ x z, dn (can H) x ∧ H z ∧ y = cm x z) = Cm H := by
          rw [show (dn (can H) : Pm k hk → Prop) = H from funext fun z => propext q5e]; rfl
        rw [this] at h2
        refine .inr ⟨_, ?_, m, all, rfl, h2⟩
        simp (disch := first | assumption | omega) only [zA, zB, zC, zD, zE, zF, zG, qyj, qyd, qye, zH, zI, dpos, dneg, zJ, zK, zL, zM, zN, zO, zP, qgd, qgc])
  exact ⟨m, all, e, q⟩
abbrev TT (k : Nat) (hk : 1 ≤ k ∧ k ≤ 7) := List (Pm k hk × Nat × Int)
def stp (T : TT k hk) : List (List Int × (Int × Unit)) := T.map fun t => (t.1.1, (t.2.2, ()))
structure J (H : Pm k hk → Prop) (T : TT k hk) : Prop where
  z : ∃ r, T = ((1 : Pm k hk), 0, -1) :: r
  nd : (T.map (·.1)).Nodup
  lv : ∀ t ∈ T, Lv H t.2.1 t.1
  up : T.Pairwise (fun s t => s.2.1 ≤ t.2.1)
  fr : ∀ (j : Nat) (t : Pm k hk × Nat × Int), T[j]? = some t → 0 < j → ∃ (f : Nat) (s : Pm k hk × Nat × Int) (c : Pm k hk), t.2.2 = (f : Int) ∧ f < j ∧ T[f]? = some s ∧ t.2.1 = s.2.1 + 1 ∧ Cm H c ∧ t.1 = s.1 * c
def Ex (H : Pm k hk → Prop) (T : TT k hk) (i : Nat) : Prop := ∀ (j : Nat) (t : Pm k hk × Nat × Int), j < i → T[j]? = some t → ∀ c, Cm H c → t.1 * c ∈ T.map (·.1)
theorem J.full {H : Pm k hk → Prop} {T : TT k hk} (h : J H T) {i : Nat} (hx : Ex H T i) : ∀ m, (∀ (j : Nat) (t : Pm k hk × Nat × Int), i ≤ j → T[j]? = some t → m ≤ t.2.1) → ∀ y, Lv H m y → y ∈ T.map (·.1)
  | 0, _, y, hy => by
    obtain ⟨r, e⟩ := h.z
    rw [hy.of_zero, e]; simp
  | m + 1, hm, y, hy => by
    obtain ⟨z, c, hz, hc, rfl⟩ := hy.pred
    have hzT := h.full hx m (fun j t h1 h2 => by have := hm j t h1 h2; omega) z hz
    obtain ⟨t, ht, e⟩ := List.mem_map.1 hzT
    obtain ⟨j, hj, ej⟩ := List.getElem_of_mem ht
    have ej' : T[j]? = some t := by rw [List.getElem?_eq_getElem hj, ej]
    subst e
    have hl := (h.lv t ht).uniq hz
    rcases Nat.lt_or_ge j i with g | g
    · exact hx j t g ej' c hc
    · have := hm j t g ej'; omega
theorem J.few {H : Pm k hk → Prop} {T : TT k hk} (h : J H T) : T.length ≤ 5040 := by
  have := q5f (l := (T.map (·.1)).map (·.1)) (q1f (fun (a b : Pm k hk) => Pm.ext) h.nd) (fun p hp => by
    obtain ⟨x, _, rfl⟩ := List.mem_map.1 hp
    exact x.2) hk
  simpa using this
theorem J.snoc {H : Pm k hk → Prop} {T : TT k hk} (h : J H T) {i : Nat} {s : Pm k hk × Nat × Int} (hs : T[i]? = some s) {c : Pm k hk} (hc : Cm H c) (hn : s.1 * c ∉ T.map (·.1)) (hl : Lv H (s.2.1 + 1) (s.1 * c)) (hmax : ∀ t ∈ T, t.2.1 ≤ s.2.1 + 1) :
    J H (T ++ [(s.1 * c, s.2.1 + 1, (i : Int))]) := by
  have hi : i < T.length := by
    rcases Nat.lt_or_ge i T.length with g | g
    · exact g
    · rw [List.getElem?_eq_none g] at hs; cases hs
  refine ⟨?_, ?_, fun t ht => ?_, ?_, fun j t hj h0 => ?_⟩
  · obtain ⟨r, e⟩ := h.z
    exact ⟨r ++ [(s.1 * c, s.2.1 + 1, (i : Int))], by rw [e]; rfl⟩
  · rw [List.map_append, List.nodup_append]
    refine ⟨h.nd, by simp, fun a ha b hb e => ?_⟩
    simp only [List.map_cons, List.map_nil, List.mem_singleton] at hb
    subst hb; subst e
    exact hn ha
  · rw [List.mem_append, List.mem_singleton] at ht
    rcases ht with ht | rfl
    · exact h.lv t ht
    · exact hl
  · rw [List.pairwise_append]
    refine ⟨h.up, List.pairwise_singleton _ _, fun a ha b hb => ?_⟩
    rw [List.mem_singleton] at hb
    subst hb
    exact hmax a ha
  · rcases Nat.lt_or_ge j T.length with g | g
    · rw [List.getElem?_append_left g] at hj
      obtain ⟨f, s', c', e1, e2, e3, e4, e5, e6⟩ := h.fr j t hj h0
      exact ⟨f, s', c', e1, e2, by rw [List.getElem?_append_left (by omega)]; exact e3, e4, e5, e6⟩
    · rw [List.getElem?_append_right g] at hj
      have hj0 : j - T.length = 0 := by
        rcases Nat.eq_zero_or_pos (j - T.length) with g2 | g2
        · exact g2
        · rw [List.getElem?_eq_none (by simp only [List.length_cons, List.length_nil]; omega)] at hj; cases hj
      rw [hj0] at hj
      obtain rfl := Option.some.inj hj
      exact ⟨i, s, c, rfl, by omega, by rw [List.getElem?_append_left hi]; exact hs, rfl, hc, rfl⟩
theorem q73 {T : TT k hk} {j : Nat} {t : Pm k hk × Nat × Int} (h : T[j]? = some t) : idx (stp T) (j : Int) = some (t.1.1, (t.2.2, ())) := by
  unfold idx stp
  rw [if_pos (by omega), Int.toNat_natCast, List.getElem?_map, h]; rfl
theorem q74 (T : TT k hk) : (stp T).length = T.length := by unfold stp; simp
theorem q75 (T U : TT k hk) : stp (T ++ U) = stp T ++ stp U := by unfold stp; simp
theorem q76 (hn : Fu n) {H : Pm k hk → Prop} {g : List Int} {pm : Option (List (List Int × List (List Int)))} {all : List (List Int)} (hall : ∀ p ∈ all, PK k p) (hal : all.length ≤ 5040) (hC : ∀ x : Pm k hk, dn all x ↔ Cm H x) {i : Nat} {T : TT k hk} {s : Pm k hk × Nat × Int} (h : J H T) (hs : T[i]? = some s) (hx : Ex H T i) (hmax : ∀ t ∈ T, t.2.1 ≤ s.2.1 + 1) {met : KS} (hm : KSet hk met (fun y => y ∈ T.map (·.1))) :
    ∃ met' U, iterN (qf5 n) n (g, (i : Int), (all.length : Int), 0, pm, all, stp T, some met, ()) = some (.inl (g, (i : Int), pm, all, stp (T ++ U), some met', ())) ∧ J H (T ++ U) ∧ Ex H (T ++ U) (i + 1) ∧ (∀ t ∈ T ++ U, t.2.1 ≤ s.2.1 + 1) ∧ KSet hk met' (fun y => y ∈ (T ++ U).map (·.1)) := by
  have hi : i < T.length := by
    rcases Nat.lt_or_ge i T.length with g | g
    · exact g
    · rw [List.getElem?_eq_none g] at hs; cases hs
  have hlow : ∀ (U : TT k hk), J H (T ++ U) → ∀ (j : Nat) (t : Pm k hk × Nat × Int), i ≤ j → (T ++ U)[j]? = some t → s.2.1 ≤ t.2.1 := fun U hJ j t hij hj => by
    have hs' : (T ++ U)[i]? = some s := by rw [List.getElem?_append_left hi]; exact hs
    by_cases e : i = j
    · subst e; rw [hs'] at hj; obtain rfl := Option.some.inj hj; exact Nat.le_refl _
    · have hjl : j < (T ++ U).length := by
        rcases Nat.lt_or_ge j (T ++ U).length with g | g
        · exact g
        · rw [List.getElem?_eq_none g] at hj; cases hj
      have hil : i < (T ++ U).length := by omega
      have := List.pairwise_iff_getElem.1 hJ.up i j hil hjl (by omega)
      rw [List.getElem?_eq_getElem hjl] at hj
      rw [List.getElem?_eq_getElem hil] at hs'
      rw [Option.some.inj hj, Option.some.inj hs'] at this
      exact this
  have hxU : ∀ (U : TT k hk), Ex H (T ++ U) i := fun U j t hj ht c hc => by
    rw [List.getElem?_append_left (by omega)] at ht
    have := hx j t hj ht c hc
    rw [List.map_append]; exact List.mem_append_left _ this
  obtain ⟨r, e, met', U, rfl, q1, q2, q3, q4⟩ := qx9 (f := qf5 n) hn
    (fun d => ∃ (j : Nat) (met' : KS) (U : TT k hk), d = (g, (i : Int), (all.length : Int), (j : Int), pm, all, stp (T ++ U), some met', ()) ∧ j ≤ all.length ∧ J H (T ++ U) ∧ (∀ t ∈ T ++ U, t.2.1 ≤ s.2.1 + 1) ∧ KSet hk met' (fun y => y ∈ (T ++ U).map (·.1)) ∧ ∀ c, dn (all.take j) c → s.1 * c ∈ (T ++ U).map (·.1))
    (fun d => ((all.length : Int) - d.2.2.2.1).toNat)
    (fun r => ∃ met' U, r = .inl (g, (i : Int), pm, all, stp (T ++ U), some met', ()) ∧ J H (T ++ U) ∧ (∀ t ∈ T ++ U, t.2.1 ≤ s.2.1 + 1) ∧ KSet hk met' (fun y => y ∈ (T ++ U).map (·.1)) ∧ ∀ c, dn all c → s.1 * c ∈ (T ++ U).map (·.1))
    (d := (g, (i : Int), (all.length : Int), 0, pm, all, stp T, some met, ()))
    ⟨0, met, [], by rw [List.append_nil]; rfl, Nat.zero_le _, by rw [List.append_nil]; exact h, by rw [List.append_nil]; exact hmax, by rw [List.append_nil]; exact hm, fun c hc => absurd hc (q54 c)⟩ (by simp only; omega) (by
      rintro d ⟨j, met', U, rfl, h1, h2, h3, h4, h5⟩
      by_cases c1 : j < all.length
      · obtain ⟨c, ec, hc⟩ := q52 (hk := hk) hall c1
        have hCc := (hC c).1 hc
        have ei : idx (stp (T ++ U)) (i : Int) = some (s.1.1, (s.2.2, ())) := q73 (by rw [List.getElem?_append_left hi]; exact hs)
        have em := q5g hn s.1 c
        have ek := q6e hn (s.1 * c)
        have hfew := h2.few
        have hsl := q74 (T ++ U)
        by_cases c2 : s.1 * c ∈ (T ++ U).map (·.1)
        · have elk := h4.look_in c2
          refine .inl ⟨(g, (i : Int), (all.length : Int), ((j + 1 : Nat) : Int), pm, all, stp (T ++ U), some met', ()), ?_, ⟨j + 1, met', U, rfl, c1, h2, h3, h4, fun z hz => ?_⟩, by simp only; omega⟩
          · simp (disch := first | assumption | omega) only [zA, zB, zC, zD, zE, zF, zG, qyj, qyd, qye, zH, zI, dpos, dneg, zJ, zK, zL, zM, zN, zO, zP, qf5, qf4, qyl, ec, ei, em, ek, elk, up1]
          · rcases (q53 c1 ec z).1 hz with hz | rfl
            · exact h5 z hz
            · exact c2
        · have elk := h4.look_out c2
          have hput := h4.put (s.1 * c)
          obtain ⟨l, hl, hlv⟩ := (h2.lv s (List.mem_append_left _ (List.mem_of_getElem? hs))).next hCc
          have hl1 : l = s.2.1 + 1 := by
            rcases Nat.lt_or_ge l (s.2.1 + 1) with g | g
            · exact absurd (h2.full (hxU U) l (fun j t h1 h3 => by have := hlow U h2 j t h1 h3; omega) _ hlv) c2
            · omega
          rw [hl1] at hlv
          have hs' : (T ++ U)[i]? = some s := by rw [List.getElem?_append_left hi]; exact hs
          have hJ := h2.snoc hs' hCc c2 hlv h3
          have ea : stp (T ++ U) ++ [((s.1 * c).1, ((i : Int), ()))] = stp (T ++ (U ++ [(s.1 * c, s.2.1 + 1, (i : Int))])) := by
            rw [← List.append_assoc, q75 (T ++ U)]; rfl
          refine .inl ⟨(g, (i : Int), (all.length : Int), ((j + 1 : Nat) : Int), pm, all, stp (T ++ (U ++ [(s.1 * c, s.2.1 + 1, (i : Int))])), some (mput (.arr 7 (.int .i8)) met' (keyP (s.1 * c).1) true), ()), ?_, ⟨j + 1, _, _, rfl, c1, by rw [← List.append_assoc]; exact hJ, fun t ht => ?_, ⟨hput.1, fun z => ?_⟩, fun z hz => ?_⟩, by simp only; omega⟩
          · rw [← ea]
            have hl2 : ([((s.1 * c).1, ((i : Int), ()))] : List (List Int × (Int × Unit))).length = 1 := rfl
            simp (disch := first | assumption | omega) only [zA, zB, zC, zD, zE, zF, zG, qyj, qyd, qye, zH, zI, dpos, dneg, zJ, zK, zL, zM, zN, zO, zP, qf5, qf4, qyl, ec, ei, em, ek, elk, up1]
          · rw [← List.append_assoc, List.mem_append, List.mem_singleton] at ht
            rcases ht with ht | rfl
            · exact h3 t ht
            · exact Nat.le_refl _
          · rw [hput.2 z]
            show z ∈ (T ++ U).map (·.1) ∨ z = s.1 * c ↔ z ∈ (T ++ (U ++ [(s.1 * c, s.2.1 + 1, (i : Int))])).map (·.1)
            rw [← List.append_assoc, List.map_append (l₁ := T ++ U), List.mem_append]
            simp only [List.map_cons, List.map_nil, List.mem_singleton]
          · rw [← List.append_assoc, List.map_append (l₁ := T ++ U), List.mem_append]
            rcases (q53 c1 ec z).1 hz with hz | rfl
            · exact .inl (h5 z hz)
            · exact .inr (by simp)
      · obtain rfl : j = all.length := by omega
        rw [List.take_length] at h5
        refine .inr ⟨_, ?_, met', U, rfl, h2, h3, h4, h5⟩
        simp (disch := first | assumption | omega) only [zA, zB, zC, zD, zE, zF, zG, qyj, qyd, qye, zH, zI, dpos, dneg, zJ, zK, zL, zM, zN, zO, zP, qf5, qf4])
  refine ⟨met', U, e, q1, fun j t hj ht c hc => ?_, q2, q3⟩
  by_cases ej : j = i
  · subst ej
    rw [List.getElem?_append_left hi] at ht
    rw [hs] at ht
    obtain rfl := Option.some.inj ht
    exact q4 c ((hC c).2 hc)
  · exact hxU U j t (by omega) ht c hc
theorem q77 (hn : Fu n) {H : Pm k hk → Prop} (g : Pm k hk) (hg : Dr H g) {pm : Option (List (List Int × List (List Int)))} {all : List (List Int)} (hall : ∀ p ∈ all, PK k p) (hal : all.length ≤ 5040) (hC : ∀ x : Pm k hk, dn all x ↔ Cm H x) {met : KS} (hm : KSet hk met (dn [idP k])) :
    ∃ T : TT k hk, iterN (qgb n) n (g.1, 0, pm, all, [(idP k, (-1, ()))], some met, ()) = some (.inl (g.1, pm, stp T, ())) ∧ J H T ∧ g ∈ T.map (·.1) := by
  have hJ0 : J H ([((1 : Pm k hk), 0, -1)] : TT k hk) := ⟨⟨[], rfl⟩, by simp, fun t ht => by
    rw [List.mem_singleton] at ht; subst ht; exact Lv.zero H, List.pairwise_singleton _ _, fun j t hj h0 => by
    rw [List.getElem?_eq_none (by simp only [List.length_cons, List.length_nil]; omega)] at hj; cases hj⟩
  obtain ⟨r, e, T, rfl, q1, q2⟩ := qx9 (f := qgb n) hn
    (fun d => ∃ (i : Nat) (T : TT k hk) (met : KS), d = (g.1, (i : Int), pm, all, stp T, some met, ()) ∧ i ≤ T.length ∧ J H T ∧ Ex H T i ∧ KSet hk met (fun y => y ∈ T.map (·.1)) ∧ ∀ s, T[i]? = some s → ∀ t ∈ T, t.2.1 ≤ s.2.1 + 1)
    (fun d => 5041 - d.2.1.toNat)
    (fun r => ∃ T : TT k hk, r = .inl (g.1, pm, stp T, ()) ∧ J H T ∧ g ∈ T.map (·.1))
    (d := (g.1, 0, pm, all, [(idP k, (-1, ()))], some met, ()))
    ⟨0, [((1 : Pm k hk), 0, -1)], met, rfl, by simp, hJ0, fun j t hj => by omega, ⟨hm.1, fun x => by
      rw [hm.2 x]
      show x.1 ∈ [idP k] ↔ x ∈ [(1 : Pm k hk)]
      rw [List.mem_singleton, List.mem_singleton]
      exact ⟨fun h => Pm.ext h, fun h => by rw [h]; rfl⟩⟩, fun s hs t ht => by
        rw [List.mem_singleton] at ht; subst ht; exact Nat.zero_le _⟩ (by simp only; omega) (by
      rintro d ⟨i, T, met, rfl, h1, h2, h3, h4, h5⟩
      have ek := q6e hn g
      have hfew := h2.few
      by_cases c1 : g ∈ T.map (·.1)
      · have elk := h4.look_in c1
        refine .inr ⟨.inl (g.1, pm, stp T, ()), ?_, T, rfl, h2, c1⟩
        simp (disch := first | assumption | omega) only [zA, zB, zC, zD, zE, zF, zG, qyj, qyd, qye, zH, zI, dpos, dneg, zJ, zK, zL, zM, zN, zO, zP, qgb, qga, ek, elk]
      · have elk := h4.look_out c1
        have hi : i < T.length := by
          rcases Nat.lt_or_ge i T.length with g2 | g2
          · exact g2
          · exfalso
            obtain ⟨m, hlm⟩ := Dr.lv hg
            exact c1 (h2.full h3 m (fun j t hj ht => by
              rw [List.getElem?_eq_none (by omega)] at ht; cases ht) g hlm)
        have hs : T[i]? = some T[i] := List.getElem?_eq_getElem hi
        obtain ⟨met', U, e, r1, r2, r3, r4⟩ := q76 hn (g := g.1) (pm := pm) hall hal hC h2 hs h3 (h5 _ hs) h4
        refine .inl ⟨(g.1, ((i + 1 : Nat) : Int), pm, all, stp (T ++ U), some met', ()), ?_, ⟨i + 1, T ++ U, met', rfl, by rw [List.length_append]; omega, r1, r2, r4, fun s hs' t ht => ?_⟩, by simp only [Int.toNat_natCast]; omega⟩
        · simp (disch := first | assumption | omega) only [zA, zB, zC, zD, zE, zF, zG, qyj, qyd, qye, zH, zI, dpos, dneg, zJ, zK, zL, zM, zN, zO, zP, qgb, qga, ek, elk, e, up1]
        · have h6 := r3 t ht
          have hil : i < (T ++ U).length := by rw [List.length_append]; omega
          have hjl : i + 1 < (T ++ U).length := by
            rcases Nat.lt_or_ge (i + 1) (T ++ U).length with g | g
            · exact g
            · rw [List.getElem?_eq_none g] at hs'; cases hs'
          have := List.pairwise_iff_getElem.1 r1.up i (i + 1) hil hjl (by omega)
          rw [List.getElem?_eq_getElem hjl] at hs'
          rw [Option.some.inj hs', List.getElem_append_left hi] at this
          omega)
  exact ⟨T, e, q1, q2⟩
inductive PGood (H : Pm k hk → Prop) : List (List (List Int)) → Pm k hk → Prop where
  | nil : PGood H [] 1
  | snoc {ps : List (List (List Int))} {y a b : Pm k hk} (h : PGood H ps y) (ha : H a) (hb : H b) : PGood H (ps ++ [[a.1, b.1]]) (y * cm a b)
theorem q78 (hn : Fu n) {H : Pm k hk → Prop} {m : List (List Int × List (List Int))} {all : List (List Int)} (hP : PI H (Cm H) m all) {T : TT k hk} (hJ : J H T) {g : Pm k hk} {i l : Nat} (hi : ∃ f, T[i]? = some (g, l, f)) :
    ∃ out, iterN (qf9 n) n ((i : Int), some m, stp T, [], ()) = some (.inl (out, ())) ∧ out.length = l ∧ PGood H out.reverse g := by
  obtain ⟨r, e, out, rfl, q1, q2⟩ := qx9 (f := qf9 n) hn
    (fun d => ∃ (j : Nat) (t : Pm k hk × Nat × Int) (out : List (List (List Int))), d = ((j : Int), some m, stp T, out, ()) ∧ T[j]? = some t ∧ out.length + t.2.1 = l ∧ j ≤ i ∧ ∀ ps, PGood H ps t.1 → PGood H (ps ++ out.reverse) g)
    (fun d => d.1.toNat)
    (fun r => ∃ out, r = .inl (out, ()) ∧ out.length = l ∧ PGood H out.reverse g)
    (d := ((i : Int), some m, stp T, [], ()))
    (by
      obtain ⟨f, hf⟩ := hi
      exact ⟨i, _, [], rfl, hf, by simp, Nat.le_refl _, fun ps h => by rw [List.reverse_nil, List.append_nil]; exact h⟩) (by
      obtain ⟨f, hf⟩ := hi
      have : i < T.length := by
        rcases Nat.lt_or_ge i T.length with g | g
        · exact g
        · rw [List.getElem?_eq_none g] at hf; cases hf
      have := hJ.few
      simp only [Int.toNat_natCast]; omega) (by
      rintro d ⟨j, t, out, rfl, h1, h2, h3, h4⟩
      have ei := q73 h1
      have hjl : j < T.length := by
        rcases Nat.lt_or_ge j T.length with g | g
        · exact g
        · rw [List.getElem?_eq_none g] at h1; cases h1
      have hfew := hJ.few
      by_cases c0 : j = 0
      · subst c0
        obtain ⟨r, er⟩ := hJ.z
        rw [er] at h1
        obtain rfl := Option.some.inj h1
        have hz : ¬ (0 : Int) ≤ -1 := by decide
        refine .inr ⟨.inl (out, ()), ?_, out, rfl, by simpa using h2, by simpa using h4 [] .nil⟩
        simp (disch := first | assumption | omega) only [zA, zB, zC, zD, zE, zF, zG, qyj, qyd, qye, zH, zI, dpos, dneg, zJ, zK, zL, zM, zN, zO, zP, qf9, qf8, ei, hz]
      · obtain ⟨f, s, c, e1, e2, e3, e4, e5, e6⟩ := hJ.fr j t h1 (by omega)
        obtain ⟨a, b, ha, hb, hc, eg⟩ := hP.yes c e5
        have ef := q73 e3
        rw [e1] at ei
        have einv := q5z hn s.1
        have em := q5g hn (s.1⁻¹) t.1
        have ec : s.1⁻¹ * t.1 = c := by rw [e6, q0x]
        rw [ec] at em
        have ek := q6e hn c
        have eo : (mget K7 m (keyP c.1)).getD (List.replicate 2 ([] : List Int)) = [a.1, b.1] := by rw [eg]; rfl
        have x0 : idx [a.1, b.1] 0 = some a.1 := rfl
        have x1 : idx [a.1, b.1] 1 = some b.1 := rfl
        have c1 := qzr (n := n) a.1 (by have := a.2.2; omega)
        have c2 := qzr (n := n) b.1 (by have := b.2.2; omega)
        have hl1 : ([[a.1, b.1]] : List (List (List Int))).length = 1 := rfl
        have hll : l ≤ 5040 ∨ True := .inr trivial
        have hol : out.length ≤ 5040 := by
          have hb : ∀ (j : Nat) (t : Pm k hk × Nat × Int), T[j]? = some t → t.2.1 ≤ j := by
            intro j
            induction j using Nat.strongRecOn with
            | ind j ih =>
              intro t ht
              by_cases cj : j = 0
              · subst cj
                obtain ⟨r, er⟩ := hJ.z
                rw [er] at ht
                obtain rfl := Option.some.inj ht
                exact Nat.le_refl _
              · obtain ⟨f, s, c, _, g2, g3, g4, _⟩ := hJ.fr j t ht (by omega)
                have := ih f g2 s g3
                omega
          obtain ⟨f', hf'⟩ := hi
          have := hb i _ hf'
          have hil : i < T.length := by
            rcases Nat.lt_or_ge i T.length with g | g
            · exact g
            · rw [List.getElem?_eq_none g] at hf'; cases hf'
          simp only at this
          omega
        refine .inl ⟨((f : Int), some m, stp T, out ++ [[a.1, b.1]], ()), ?_, ⟨f, s, _, rfl, e3, by rw [List.length_append]; simp only [List.length_cons, List.length_nil]; omega, by omega, fun ps hps => ?_⟩, by simp only [Int.toNat_natCast]; omega⟩
        · have hge : (0 : Int) ≤ (f : Int) := by omega
          simp (disch := first | assumption | omega) only [zA, zB, zC, zD, zE, zF, zG, qyj, qyd, qye, zH, zI, dpos, dneg, zJ, zK, zL, zM, zN, zO, zP, qf9, qf8, ei, ef, einv, em, ek, eo, x0, x1, c1, c2]
        · rw [List.reverse_append, List.reverse_singleton, ← List.append_assoc]
          refine h4 _ ?_
          rw [e6, hc]
          exact .snoc hps ha hb)
  exact ⟨out, e, q1, q2⟩
theorem q79 (hn : Fu n) (l : List (List (List Int))) (hl : l.length ≤ 1000000) : qf3 n l = some ((), (l.reverse, ())) := by
  have key : ∀ (i : Nat), i ≤ l.length → tab l.length (fun j => if j < i ∨ l.length - i ≤ j then l.getD (l.length - 1 - j) [] else l.getD j []) = tab l.length (fun j => if j < i ∨ l.length - i ≤ j then l.getD (l.length - 1 - j) [] else l.getD j []) := fun _ _ => rfl
  have e0 : l = tab l.length (fun j => if j < 0 ∨ l.length - 0 ≤ j then l.getD (l.length - 1 - j) [] else l.getD j []) := by
    have : tab l.length (fun j => l.getD j []) = l := Srt.tab_getD_self
    rw [← this]
    conv => lhs; rw [this]
    rw [this]
    conv => lhs; rw [← this]
    exact qyr (fun j hj => by rw [if_neg (by omega)])
  obtain ⟨r, e, rfl⟩ := qx9 (f := qf2 n) hn
    (fun d => ∃ i : Nat, d = ((i : Int), ((l.length : Int) - 1 - (i : Int)), tab l.length (fun j => if j < i ∨ l.length - i ≤ j then l.getD (l.length - 1 - j) [] else l.getD j []), ()) ∧ 2 * i ≤ l.length + 1)
    (fun d => (d.2.1 + 1 - d.1 + 1).toNat)
    (fun r => r = .inl (l.reverse, ()))
    (d := (0, ((l.length : Int) - 1), l, ()))
    ⟨0, by rw [← e0]; simp, by omega⟩ (by simp only; omega) (by
      rintro d ⟨i, rfl, h1⟩
      by_cases c : (i : Int) < (l.length : Int) - 1 - (i : Int)
      · have hj : ((l.length : Int) - 1 - (i : Int)) = ((l.length - 1 - i : Nat) : Int) := by omega
        rw [hj]
        have w1 : IntKind.i64.wrap (((l.length - 1 - i : Nat) : Int) - 1) = ((l.length - 1 - i - 1 : Nat) : Int) := Srt.dn1 (by omega) (by omega)
        refine .inl ⟨(((i + 1 : Nat) : Int), ((l.length : Int) - 1 - ((i + 1 : Nat) : Int)), tab l.length (fun j => if j < i + 1 ∨ l.length - (i + 1) ≤ j then l.getD (l.length - 1 - j) [] else l.getD j []), ()), ?_, ⟨i + 1, rfl, by omega⟩, by simp only; omega⟩
        have e2 : tab l.length (Srt.swp (fun j => if j < i ∨ l.length - i ≤ j then l.getD (l.length - 1 - j) [] else l.getD j []) i (l.length - 1 - i)) = tab l.length (fun j => if j < i + 1 ∨ l.length - (i + 1) ≤ j then l.getD (l.length - 1 - j) [] else l.getD j []) := qyr (fun j hjl => by
          unfold Srt.swp
          by_cases g1 : j = i
          · subst g1
            rw [if_pos rfl]
            dsimp only
            rw [if_neg (by omega), if_pos (by omega)]
          · rw [if_neg g1]
            by_cases g2 : j = l.length - 1 - i
            · subst g2
              rw [if_pos rfl]
              dsimp only
              rw [if_neg (by omega), if_pos (by omega)]
              congr 1; omega
            · rw [if_neg g2]
              dsimp only
              by_cases g3 : j < i ∨ l.length - i ≤ j
              · rw [if_pos g3, if_pos (by omega)]
              · rw [if_neg g3, if_neg (by omega)])
        have hx : ((l.length : Int) - 1 - ((i + 1 : Nat) : Int)) = ((l.length - 1 - i - 1 : Nat) : Int) := by omega
        rw [hx, ← e2]
        generalize (fun j => if j < i ∨ l.length - i ≤ j then l.getD (l.length - 1 - j) [] else l.getD j []) = F
        simp (disch := first | assumption | omega) only [zA, zB, zC, zD, zE, zF, zG, qyj, qyd, qye, zH, zI, dpos, dneg, zJ, zK, zL, zM, zN, zO, zP, qf2, qf1, qyu, Srt.idx_set, Srt.set_swp, up1, w1]
      · refine .inr ⟨_, ?_, rfl⟩
        have e2 : tab l.length (fun j => if j < i ∨ l.length - i ≤ j then l.getD (l.length - 1 - j) [] else l.getD j []) = l.reverse := by
          apply List.ext_getElem
          · simp
          · intro j h2 h3
            have hjl : j < l.length := by simpa using h2
            rw [qyo, List.getElem_reverse]
            by_cases g : j < i ∨ l.length - i ≤ j
            · rw [if_pos g, List.getD_eq_getElem?_getD, List.getElem?_eq_getElem (by omega)]; rfl
            · rw [if_neg g, List.getD_eq_getElem?_getD, List.getElem?_eq_getElem hjl]
              have : l.length - 1 - j = j := by omega
              simp only [Option.getD_some]
              congr 1; omega
        rw [e2]
        simp (disch := first | assumption | omega) only [zA, zB, zC, zD, zE, zF, zG, qyj, qyd, qye, zH, zI, dpos, dneg, zJ, zK, zL, zM, zN, zO, zP, qf2, qf1])
  have w : IntKind.i64.wrap ((l.length : Int) - 1) = (l.length : Int) - 1 := qyc (by omega) (by omega)
  simp (disch := first | assumption | omega) only [zA, zB, zC, zD, zE, zF, zG, qyj, qyd, qye, zH, zI, dpos, dneg, zJ, zK, zL, zM, zN, zO, zP, qf3, w, e]
theorem q8a (hn : Fu n) {H : Pm k hk → Prop} {T : TT k hk} (hJ : J H T) (g : Pm k hk) (hg : g ∈ T.map (·.1)) : ∃ i : Nat, qf0 n (stp T) (g.1, ()) = some ((i : Int), ()) ∧ ∃ l f, T[i]? = some (g, l, f) := by
  have hfew := hJ.few
  have hsl := q74 T
  rcases qx7 (f := qfz n) hn (fun i => (stp T, (g.1, ()), ((stp T).length : Int), (i : Int), ())) T.length (fun i => ∀ t, T[i]? = some t → t.1 ≠ g) (d := (stp T, (g.1, ()), ((stp T).length : Int), 0, ())) (r := .inr (.inl ())) (r' := fun i => .inl ((i : Int), ())) (by omega) rfl (fun i hi _ hp => by
      have ht : T[i]? = some T[i] := List.getElem?_eq_getElem hi
      have ei := q73 ht
      have e := q6u hn T[i].1.1 g.1 (by have := T[i].1.2.2; omega)
      rw [decide_eq_false (fun h => hp _ ht (Pm.ext h))] at e
      simp (disch := first | assumption | omega) only [zA, zB, zC, zD, zE, zF, zG, qyj, qyd, qye, zH, zI, dpos, dneg, zJ, zK, zL, zM, zN, zO, zP, qfz, qfy, ei, qfx, e, up1]) (fun i hi _ hp => by
      have ht : T[i]? = some T[i] := List.getElem?_eq_getElem hi
      have ei := q73 ht
      have e := q6u hn T[i].1.1 g.1 (by have := T[i].1.2.2; omega)
      have : T[i].1 = g := Classical.byContradiction fun h => hp (fun t h2 => by
        rw [ht] at h2; obtain rfl := Option.some.inj h2; exact h)
      rw [decide_eq_true (by rw [this])] at e
      simp (disch := first | assumption | omega) only [zA, zB, zC, zD, zE, zF, zG, qyj, qyd, qye, zH, zI, dpos, dneg, zJ, zK, zL, zM, zN, zO, zP, qfz, qfy, ei, qfx, e]) (fun _ => by
      simp (disch := first | assumption | omega) only [zA, zB, zC, zD, zE, zF, zG, qyj, qyd, qye, zH, zI, dpos, dneg, zJ, zK, zL, zM, zN, zO, zP, qfz, qfy]) with ⟨ha, e⟩ | ⟨i, hi, _, hp, e⟩
  · exfalso
    obtain ⟨t, ht, et⟩ := List.mem_map.1 hg
    obtain ⟨i, hi, ei⟩ := List.getElem_of_mem ht
    exact ha i hi t (by rw [List.getElem?_eq_getElem hi, ei]) et
  · have ht : T[i]? = some T[i] := List.getElem?_eq_getElem hi
    have : T[i].1 = g := Classical.byContradiction fun h => hp (fun t h2 => by
      rw [ht] at h2; obtain rfl := Option.some.inj h2; exact h)
    refine ⟨i, by simp (disch := first | assumption | omega) only [zA, zB, zC, zD, zE, zF, zG, qyj, qyd, qye, zH, zI, dpos, dneg, zJ, zK, zL, zM, zN, zO, zP, qf0, e], T[i].2.1, T[i].2.2, ?_⟩
    rw [ht, ← this]
theorem q8b (hn : Fw n) {H : Pm k hk → Prop} (hH : Sub H) (g : Pm k hk) (hg : H g) :
    (¬ Dr H g ∧ qgf n (can H) g.1 = some ([], 6, ())) ∨ ∃ m ps, Lv H m g ∧ qgf n (can H) g.1 = some (ps, 0, ()) ∧ ps.length = m ∧ PGood H ps g := by
  have hl := q5b (H := H)
  have ev := q6b hn hH
  have pv := qy1 hn.fu g.1
  rw [decide_eq_true g.2.1] at pv
  have e0 : idx (can H) 0 = some (row (can H) 0) := qyl (u := 0) (q55 hH)
  have ell : g.1.length = (row (can H) 0).length := by rw [q56 hH]; exact g.2.2
  obtain ⟨m1, s1, h1⟩ := q6d (hk := hk) hn.fu (l := can H) (by omega) q5a
  have lk1 := h1.look_in (x := g) (q5e.2 hg)
  have ek := q6e hn.fu g
  have ed := q6j hn hH
  obtain ⟨m2, s2, h2⟩ := q6d (hk := hk) hn.fu (l := can (Dr H)) (by have := q5b (H := Dr H); omega) q5a
  by_cases c : Dr H g
  · have lk2 := h2.look_in (x := g) (q5e.2 c)
    obtain ⟨mp, all, e1, hP⟩ := q72 hn.fu H g.1
    have eid := qzg hn.fu k hk.1 hk.2
    have el : ((g.1.length : Nat) : Int) = (k : Int) := by rw [g.2.2]
    obtain ⟨m3, s3, h3⟩ := q6d (hk := hk) hn.fu (l := [idP k]) (by simp) (fun p hp => by rw [List.mem_singleton] at hp; subst hp; exact (1 : Pm k hk).2)
    obtain ⟨T, e2, hJ, hgT⟩ := q77 hn.fu g c (pm := some mp) hP.pk (q5f hP.nd hP.pk hk) hP.mem h3
    obtain ⟨i, e3, l, f, hi⟩ := q8a hn.fu hJ g hgT
    obtain ⟨out, e4, hol, hgd⟩ := q78 hn.fu hP hJ ⟨f, hi⟩
    have hlv := hJ.lv _ (List.mem_of_getElem? hi)
    have hfew := hJ.few
    have hll : l ≤ 5040 := by
      have hb : ∀ (j : Nat) (t : Pm k hk × Nat × Int), T[j]? = some t → t.2.1 ≤ j := by
        intro j
        induction j using Nat.strongRecOn with
        | ind j ih =>
          intro t ht
          by_cases cj : j = 0
          · subst cj
            obtain ⟨r, er⟩ := hJ.z
            rw [er] at ht
            obtain rfl := Option.some.inj ht
            exact Nat.le_refl _
          · obtain ⟨f, s, c, _, g2, g3, g4, _⟩ := hJ.fr j t ht (by omega)
            have := ih f g2 s g3
            omega
      have h6 := hb i _ hi
      have hil : i < T.length := by
        rcases Nat.lt_or_ge i T.length with g | g
        · exact g
        · rw [List.getElem?_eq_none g] at hi; cases hi
      simp only at h6
      omega
    have er := q79 hn.fu out (by omega)
    refine .inr ⟨l, out.reverse, hlv, ?_, by rw [List.length_reverse, hol], hgd⟩
    have elg : (((row (can H) 0).length : Nat) : Int) = (k : Int) := by rw [q56 hH]
    simp (disch := first | assumption | omega) only [zA, zB, zC, zD, zE, zF, zG, qyj, qyd, qye, zH, zI, dpos, dneg, zJ, zK, zL, zM, zN, zO, zP, qgf, qge, ev, pv, e0, ell, s1, ek, lk1, ed, s2, lk2, e1, elg, eid, s3, e2, e3, e4, er]
  · have lk2 := h2.look_out (x := g) (fun h => c (q5e.1 h))
    refine .inl ⟨c, ?_⟩
    simp (disch := first | assumption | omega) only [zA, zB, zC, zD, zE, zF, zG, qyj, qyd, qye, zH, zI, dpos, dneg, zJ, zK, zL, zM, zN, zO, zP, qgf, qge, ev, pv, e0, ell, s1, ek, lk1, ed, s2, lk2]
end Go.Proofs.Ytemejeiajekmcaa.V
namespace Go.Proofs.Ytemejeiajekmcaa.V
open Go Classical Grp
set_option linter.unusedVariables false
set_option linter.all false
variable {n : Nat} {k : Nat} {hk : 1 ≤ k ∧ k ≤ 7}
end Go.Proofs.Ytemejeiajekmcaa.V
namespace Go.Proofs.Ytemejeiajekmcaa.V
open Go Classical Grp
set_option linter.unusedVariables false
set_option linter.all false
variable {n : Nat} {k : Nat} {hk : 1 ≤ k ∧ k ≤ 7}
def cen : List (List (List Int)) → List (List Int)
  | [] => []
  | c :: r => if c.length = 1 then c.getD 0 [] :: cen r else cen r
theorem q8c (c : List (List Int)) (r : List (List (List Int))) : cen (c :: r) = if c.length = 1 then c.getD 0 [] :: cen r else cen r := rfl
theorem q8d : ∀ (a b : List (List (List Int))), cen (a ++ b) = cen a ++ cen b
  | [], b => rfl
  | c :: a, b => by
    rw [List.cons_append, q8c, q8c, q8d a b]
    by_cases h : c.length = 1
    · rw [if_pos h, if_pos h]; rfl
    · rw [if_neg h, if_neg h]
theorem q8e {H : Pm k hk → Prop} (hH : Sub H) {x : Pm k hk} : (can (Cls H x)).length = 1 ↔ ∀ c, H c → x * c = c * x := by
  constructor
  · intro h c hc
    obtain ⟨a, e⟩ := List.length_eq_one_iff.1 h
    have h1 := q49.2 (Cls.refl hH x)
    have h2 := q49.2 (show Cls H x (cj c x) from ⟨c, hc, rfl⟩)
    rw [e, List.mem_singleton] at h1 h2
    exact q1d.1 (Pm.ext (h2.trans h1.symm))
  · intro h
    have : can (Cls H x) = [x.1] := Asc.ext can_asc (List.pairwise_singleton _ _) (fun p => by
      rw [List.mem_singleton, q48]
      constructor
      · rintro ⟨hp, c, hc, e⟩
        rw [q1d.2 (h c hc)] at e
        exact congrArg Subtype.val e
      · rintro rfl; exact ⟨x.2, Cls.refl hH x⟩)
    rw [this]; rfl
theorem q8f {H : Pm k hk → Prop} (hH : Sub H) {x : Pm k hk} (h : ∀ c, H c → x * c = c * x) : can (Cls H x) = [x.1] := Asc.ext can_asc (List.pairwise_singleton _ _) (fun p => by
  rw [List.mem_singleton, q48]
  constructor
  · rintro ⟨hp, c, hc, e⟩
    rw [q1d.2 (h c hc)] at e
    exact congrArg Subtype.val e
  · rintro rfl; exact ⟨x.2, Cls.refl hH x⟩)
theorem q8g {H : Pm k hk → Prop} (hH : Sub H) (P : List Int → Bool) (hP : ∀ x : Pm k hk, P x.1 = true ↔ ∀ c, H c → x * c = c * x) : ∀ i, i ≤ (can H).length → cen (clsT H (can H) i) = ((can H).take i).filter P
  | 0, _ => by simp [clsT, cen]
  | i + 1, hi => by
    have ih := q8g hH P hP i (by omega)
    obtain ⟨x, ex, hx⟩ := q52 (hk := hk) (q5a (H := H)) (i := i) (by omega)
    rw [q60 (i := i) (by omega) P x.1 (by rw [q62 (by omega), ex]), ← ih]
    by_cases c2 : dne H (can H) i x
    · rw [q7p ex c2]
      have : ¬ P x.1 = true := fun h => by
        obtain ⟨z, hz, hc⟩ := c2
        have hc := hc.symm hH
        obtain ⟨c, hc, e⟩ := hc
        rw [q1d.2 ((hP x).1 h c hc)] at e
        subst e
        have hz : z.1 ∈ (can H).take i := hz
        obtain ⟨j, hj, ej⟩ := List.getElem_of_mem hz
        rw [List.length_take] at hj
        rw [List.getElem_take] at ej
        have hn := List.pairwise_iff_getElem.1 (can_asc (H := H)).nodup j i (by omega) (by omega) (by omega)
        exact hn (by rw [ej, q62 (by omega), ex])
      rw [if_neg this, List.append_nil]
    · rw [q7q ex c2, q8d]
      congr 1
      by_cases h : P x.1 = true
      · rw [if_pos h, q8f hH ((hP x).1 h)]; rfl
      · rw [if_neg h]
        have : ¬ (can (Cls H x)).length = 1 := fun h2 => h ((hP x).2 ((q8e hH).1 h2))
        show (if (can (Cls H x)).length = 1 then _ else _) = _
        rw [if_neg this]; rfl
theorem q8h {H : Pm k hk → Prop} (hH : Sub H) : cen (clsT H (can H) (can H).length) = can (Zt H) := by
  let P : List Int → Bool := fun p => decide (∃ hp : PK k p, ∀ q : Pm k hk, H q → Pm.mk p hp * q = q * Pm.mk p hp)
  have hP : ∀ x : Pm k hk, P x.1 = true ↔ ∀ q : Pm k hk, H q → x * q = q * x := fun x => by
    show decide _ = true ↔ _
    rw [decide_eq_true_eq]
    exact ⟨fun ⟨_, h⟩ => h, fun h => ⟨x.2, h⟩⟩
  rw [q8g hH P hP _ (Nat.le_refl _), List.take_length]
  exact q61 (fun x => by rw [hP x]; exact Iff.rfl)
end Go.Proofs.Ytemejeiajekmcaa.V
namespace Go.Proofs.Ytemejeiajekmcaa.V
open Go Classical Grp
set_option linter.unusedVariables false
set_option linter.all false
variable {n : Nat} {k : Nat} {hk : 1 ≤ k ∧ k ≤ 7}
def sumL : List (List (List Int)) → Nat
  | [] => 0
  | c :: r => c.length + sumL r
theorem q8i (c : List (List Int)) (r : List (List (List Int))) : sumL (c :: r) = c.length + sumL r := rfl
theorem q8j : ∀ a b, sumL (a ++ b) = sumL a + sumL b
  | [], b => by simp [sumL]
  | c :: a, b => by rw [List.cons_append, q8i, q8i, q8j a b]; omega
theorem q8k {S T : Pm k hk → Prop} (h : ∀ x, S x → ¬ T x) : (can (fun x => S x ∨ T x)).length = (can S).length + (can T).length := by
  have : (can (fun x => S x ∨ T x)).Perm (can S ++ can T) := qz9 can_asc.nodup (by
    rw [List.nodup_append]
    refine ⟨can_asc.nodup, can_asc.nodup, fun a ha b hb e => ?_⟩
    subst e
    obtain ⟨_, h1⟩ := q48.1 ha
    obtain ⟨_, h2⟩ := q48.1 hb
    exact h _ h1 h2) (fun p => by
    rw [List.mem_append, q48, q48, q48]
    constructor
    · rintro ⟨hp, h | h⟩
      · exact .inl ⟨hp, h⟩
      · exact .inr ⟨hp, h⟩
    · rintro (⟨hp, h⟩ | ⟨hp, h⟩)
      · exact ⟨hp, .inl h⟩
      · exact ⟨hp, .inr h⟩)
  rw [this.length_eq, List.length_append]
theorem q8l {H : Pm k hk → Prop} (hH : Sub H) : ∀ i, i ≤ (can H).length → sumL (clsT H (can H) i) = (can (dne H (can H) i)).length
  | 0, _ => by
    rw [q7t]
    have : can (fun _ : Pm k hk => False) = [] := by
      apply List.eq_nil_iff_forall_not_mem.2
      intro p hp
      obtain ⟨_, h⟩ := q48.1 hp
      exact h
    rw [this]; rfl
  | i + 1, hi => by
    have ih := q8l hH i (by omega)
    obtain ⟨x, ex, hx⟩ := q52 (hk := hk) (q5a (H := H)) (i := i) (by omega)
    by_cases c2 : dne H (can H) i x
    · rw [q7p ex c2, q7s hH (by omega) ex c2, ih]
    · rw [q7q ex c2, q8j, ih, q5c (q7r (by omega) ex), q8k (fun y hy hc => q7u hH c2 hc hy)]
      simp [sumL]
theorem q8m {H : Pm k hk → Prop} (hH : Sub H) : sumL (clsT H (can H) (can H).length) = (can H).length := by
  rw [q8l hH _ (Nat.le_refl _)]
  congr 1
  refine q5c (fun y => ?_)
  unfold dne
  rw [List.take_length]
  constructor
  · rintro ⟨x, hx, c, hc, rfl⟩; exact hH.cj hc (q5e.1 hx)
  · intro hy; exact ⟨y, q5e.2 hy, Cls.refl hH y⟩
theorem q8n (X : List (List (List Int))) (i : Nat) : sumL (X.take i) ≤ sumL X := by
  have := q8j (X.take i) (X.drop i)
  rw [List.take_append_drop] at this; omega
theorem q8o : ∀ (X : List (List (List Int))), (cen X).length ≤ X.length
  | [] => Nat.le_refl _
  | c :: r => by
    rw [q8c]
    have := q8o r
    by_cases h : c.length = 1
    · rw [if_pos h]; simp only [List.length_cons]; omega
    · rw [if_neg h]; simp only [List.length_cons]; omega
theorem q8p (hn : Fu n) {H : Pm k hk → Prop} (hH : Sub H) {d : List (List Int)} :
    iterN (qgj n) n (can H, clsT H (can H) (can H).length, can (Zt H), d, 0, 0, 0, ()) = some (.inr (.inl (can H, can (Zt H), d, ((can H).length : Int), ((can (Zt H)).length : Int), ()))) := by
  have hcl := q5b (H := H)
  have hxl := q7o H (can H) (can H).length
  have hzl := q5b (H := Zt H)
  have hsum := q8m hH
  have hcen := q8h hH
  have hmem := q7y H (q5a (H := H)) _ (Nat.le_refl _)
  generalize hX : clsT H (can H) (can H).length = X at *
  obtain ⟨r, e, rfl⟩ := qx9 (f := qgj n) hn
    (fun s => ∃ (i : Nat), s = (can H, X, can (Zt H), d, ((sumL (X.take i) : Nat) : Int), (((cen (X.take i)).length : Nat) : Int), (i : Int), ()) ∧ i ≤ X.length)
    (fun s => ((X.length : Int) - s.2.2.2.2.2.2.1).toNat)
    (fun r => r = .inr (.inl (can H, can (Zt H), d, ((can H).length : Int), ((can (Zt H)).length : Int), ())))
    (d := (can H, X, can (Zt H), d, 0, 0, 0, ()))
    ⟨0, rfl, Nat.zero_le _⟩ (by simp only; omega) (by
      rintro s ⟨i, rfl, h1⟩
      by_cases c : i < X.length
      · have ei : idx X (i : Int) = some (X.getD i []) := qyb [] c
        have hm : X.getD i [] ∈ X := by rw [List.getD_eq_getElem?_getD, List.getElem?_eq_getElem c]; exact List.getElem_mem c
        have et : X.take (i + 1) = X.take i ++ [X.getD i []] := by
          rw [List.take_add_one, List.getElem?_eq_getElem c, List.getD_eq_getElem?_getD, List.getElem?_eq_getElem c]; rfl
        obtain ⟨x, hx, ex⟩ := hmem _ hm
        have hHx : H x := q5e.1 hx
        have s1 := q8n X i
        have s2 := q8n X (i + 1)
        rw [et, q8j] at s2
        have s3 := q8o (X.take i)
        rw [List.length_take] at s3
        have hpos : 0 < (can (Cls H x)).length := List.length_pos_of_mem (q49.2 (Cls.refl hH x))
        have hdiv : Int.tmod ((can H).length : Int) ((can (Cls H x)).length : Int) = 0 := q64 (by rw [q5d, q5d]; exact q1i hH x)
        have hz : ¬ ((can (Cls H x)).length : Int) = 0 := by omega
        simp only [sumL, Nat.add_zero] at s2
        rw [ex] at ei et s2
        have wa : IntKind.i64.wrap (((sumL (X.take i) : Nat) : Int) + ((can (Cls H x)).length : Int)) = ((sumL (X.take (i + 1)) : Nat) : Int) := by
          rw [Srt.addN (by omega), et, q8j]; simp [sumL]
        by_cases c1 : (can (Cls H x)).length = 1
        · have hcen1 := (q8e hH).1 c1
          have eh := q8f hH hcen1
          have x0 : idx (can (Cls H x)) 0 = some x.1 := by rw [eh]; rfl
          have ii := q6w hn (can (Zt H)) x.1 (by omega) q6x
          rw [decide_eq_true (q49.2 (show Zt H x from ⟨hHx, hcen1⟩))] at ii
          have wc : (((cen (X.take i)).length + 1 : Nat) : Int) = (((cen (X.take (i + 1))).length : Nat) : Int) := by
            rw [et, q8d, List.length_append, q8c, if_pos c1]; rfl
          refine .inl ⟨(can H, X, can (Zt H), d, ((sumL (X.take (i + 1)) : Nat) : Int), (((cen (X.take (i + 1))).length : Nat) : Int), ((i + 1 : Nat) : Int), ()), ?_, ⟨i + 1, rfl, c⟩, by simp only; omega⟩
          rw [← wc]
          have hz2 : ¬ ((1 : Nat) : Int) = 0 := by decide
          have hd1 : Int.tmod ((can H).length : Int) ((1 : Nat) : Int) = 0 := by rw [c1] at hdiv; exact hdiv
          rw [c1] at wa
          simp (disch := first | assumption | omega) only [zA, zB, zC, zD, zE, zF, zG, qyj, qyd, qye, zH, zI, dpos, dneg, zJ, zK, zL, zM, zN, zO, zP, qgj, qgi, ei, c1, hz2, hd1, x0, ii, wa, up1]
        · have wc : (((cen (X.take i)).length : Nat) : Int) = (((cen (X.take (i + 1))).length : Nat) : Int) := by
            rw [et, q8d, List.length_append, q8c, if_neg c1]; rfl
          refine .inl ⟨(can H, X, can (Zt H), d, ((sumL (X.take (i + 1)) : Nat) : Int), (((cen (X.take (i + 1))).length : Nat) : Int), ((i + 1 : Nat) : Int), ()), ?_, ⟨i + 1, rfl, c⟩, by simp only; omega⟩
          rw [← wc]
          simp (disch := first | assumption | omega) only [zA, zB, zC, zD, zE, zF, zG, qyj, qyd, qye, zH, zI, dpos, dneg, zJ, zK, zL, zM, zN, zO, zP, qgj, qgi, ei, hz, hdiv, wa, up1]
      · obtain rfl : i = X.length := by omega
        rw [List.take_length, hsum, hcen]
        refine .inr ⟨_, ?_, rfl⟩
        simp (disch := first | assumption | omega) only [zA, zB, zC, zD, zE, zF, zG, qyj, qyd, qye, zH, zI, dpos, dneg, zJ, zK, zL, zM, zN, zO, zP, qgj, qgi])
  exact e
theorem q8q (hn : Fw n) {H : Pm k hk → Prop} (hH : Sub H) {z : List (List Int)} {a b : Int} :
    iterN (qgh n) n (can H, z, can (Dr H), a, b, 0, 0, ()) = some (.inr (.inl (can H, z, can (Dr H), a, b, ((can (Dr H)).length : Int), ()))) := by
  have hcl := q5b (H := H)
  have hdl := q5b (H := Dr H)
  let P : List Int → Bool := fun p => decide (p ∈ can (Dr H))
  have hPd : (can H).filter P = can (Dr H) := q61 (fun x => by
    show Dr H x ↔ H x ∧ decide (x.1 ∈ can (Dr H)) = true
    rw [decide_eq_true_eq, q49]
    exact ⟨fun h => ⟨Dr.le hH h, h⟩, fun h => h.2⟩)
  obtain ⟨r, e, rfl⟩ := qx9 (f := qgh n) hn.fu
    (fun s => ∃ (i : Nat), s = (can H, z, can (Dr H), a, b, (((((can H).take i).filter P).length : Nat) : Int), (i : Int), ()) ∧ i ≤ (can H).length)
    (fun s => (((can H).length : Int) - s.2.2.2.2.2.2.1).toNat)
    (fun r => r = .inr (.inl (can H, z, can (Dr H), a, b, ((can (Dr H)).length : Int), ())))
    (d := (can H, z, can (Dr H), a, b, 0, 0, ()))
    ⟨0, by simp, Nat.zero_le _⟩ (by simp only; omega) (by
      rintro s ⟨i, rfl, h1⟩
      by_cases c : i < (can H).length
      · obtain ⟨x, ex, hx⟩ := q52 (hk := hk) (q5a (H := H)) c
        have ei : idx (can H) (i : Int) = some x.1 := by rw [qyl c, ex]
        have ft := q60 c P x.1 (by rw [q62 c, ex])
        have hlen : (((can H).take i).filter P).length ≤ 5040 := Nat.le_trans (List.length_filter_le _ _) (by rw [List.length_take]; omega)
        have ii := q6w hn.fu (can (Dr H)) x.1 (by omega) q6x
        rcases q8b hn hH x (q5e.1 hx) with ⟨hnd, ep⟩ | ⟨m, ps, hlv, ep, _, _⟩
        · have hno : x.1 ∉ can (Dr H) := fun h => hnd (q49.1 h)
          have hPx : P x.1 = false := decide_eq_false hno
          rw [decide_eq_false hno] at ii
          rw [hPx, if_neg (by decide), List.append_nil] at ft
          refine .inl ⟨(can H, z, can (Dr H), a, b, (((((can H).take (i + 1)).filter P).length : Nat) : Int), ((i + 1 : Nat) : Int), ()), ?_, ⟨i + 1, rfl, c⟩, by simp only; omega⟩
          rw [ft]
          have z6 : ¬ (6 : Int) = 0 := by decide
          simp (disch := first | assumption | omega) only [zA, zB, zC, zD, zE, zF, zG, qyj, qyd, qye, zH, zI, dpos, dneg, zJ, zK, zL, zM, zN, zO, zP, qgh, qgg, ei, ep, ii, up1]
        · have hyes : x.1 ∈ can (Dr H) := q49.2 hlv.dr
          have hPx : P x.1 = true := decide_eq_true hyes
          rw [decide_eq_true hyes] at ii
          rw [hPx, if_pos rfl] at ft
          refine .inl ⟨(can H, z, can (Dr H), a, b, (((((can H).take (i + 1)).filter P).length : Nat) : Int), ((i + 1 : Nat) : Int), ()), ?_, ⟨i + 1, rfl, c⟩, by simp only; omega⟩
          rw [ft, List.length_append]
          have o1 : ([x.1] : List (List Int)).length = 1 := rfl
          rw [o1]
          simp (disch := first | assumption | omega) only [zA, zB, zC, zD, zE, zF, zG, qyj, qyd, qye, zH, zI, dpos, dneg, zJ, zK, zL, zM, zN, zO, zP, qgh, qgg, ei, ep, ii, up1]
      · obtain rfl : i = (can H).length := by omega
        rw [List.take_length, hPd]
        refine .inr ⟨_, ?_, rfl⟩
        simp (disch := first | assumption | omega) only [zA, zB, zC, zD, zE, zF, zG, qyj, qyd, qye, zH, zI, dpos, dneg, zJ, zK, zL, zM, zN, zO, zP, qgh, qgg])
  exact e
theorem q8r (hn : Fw n) (gens : List (List Int)) (al : qea n = some (true, ())) : qgk n gens = some (true, ()) := by
  obtain ⟨l, b, e, hb⟩ := q6r hn.fu gens
  cases b with
  | false => simp (disch := first | assumption | omega) only [zA, zB, zC, zD, zE, zF, zG, qyj, qyd, qye, zH, zI, dpos, dneg, zJ, zK, zL, zM, zN, zO, zP, qgk, e, al]
  | true =>
    by_cases hg : 120 < l.length
    · simp (disch := first | assumption | omega) only [zA, zB, zC, zD, zE, zF, zG, qyj, qyd, qye, zH, zI, dpos, dneg, zJ, zK, zL, zM, zN, zO, zP, qgk, e, al]
    obtain ⟨hv, _, hc⟩ := hb rfl
    obtain ⟨k, hk, hG⟩ := hv.pk
    obtain ⟨rfl, _⟩ := hc k hk hG
    have hH := Cl.sub (dn (hk := hk) gens)
    generalize Cl (dn (hk := hk) gens) = H at *
    simp (disch := first | assumption | omega) only [zA, zB, zC, zD, zE, zF, zG, qyj, qyd, qye, zH, zI, dpos, dneg, zJ, zK, zL, zM, zN, zO, zP, qgk, e, q7x hn hH, q63 hn hH, q6l hn hH, q8p hn.fu hH, q8q hn hH, al]
theorem q8s (a : List (List Int)) : ∃ n, qgk n a = some (true, ()) := q6s fun n hn => q8r hn a (q7m hn)
end Go.Proofs.Ytemejeiajekmcaa.V
