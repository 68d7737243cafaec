/- The law over the models, part 2. -/
import Derived.Test.YtemejeiajekmcaaPLawsa
namespace Go.Proofs.Ytemejeiajekmcaa.V
open Go Classical Grp
set_option linter.unusedVariables false
set_option linter.all false
variable {n : Nat} {k : Nat} {hk : 1 ≤ k ∧ k ≤ 7}
structure Gw (hk : 1 ≤ k ∧ k ≤ 7) (S : Pm k hk → Prop) (met : Option KS) (gens all : List (List Int)) : Prop where
  m : InvM k met all
  g : ∀ g ∈ gens, PK k g
  gl : gens.length + 1 ≤ all.length
  eq : ∀ x : Pm k hk, x.1 ∈ all ↔ Cl S x
  gs : ∀ x : Pm k hk, Cl (dn gens) x ↔ Cl S x
theorem InvM.nodup {met : Option KS} {all : List (List Int)} (h : InvM k met all) : all.Nodup ∧ ∀ p ∈ all, PK k p := by
  obtain ⟨m, _, _, _, h3, h4⟩ := h; exact ⟨h3, h4⟩
theorem Gw.few {S : Pm k hk → Prop} {met : Option KS} {gens all : List (List Int)} (h : Gw hk S met gens all) : all.length ≤ 5040 := q4k h.m.nodup.1 h.m.nodup.2 hk
theorem Cl.add {S : Pm k hk → Prop} {x y : Pm k hk} (hc : Cl S x) : Cl (fun y => S y ∨ y = x) y ↔ Cl S y :=
  ⟨Cl.mono (fun a ha => ha.elim (fun ha => .gen ha) (fun e => by rw [e]; exact hc)), Cl.mono (fun a ha => .gen (.inl ha))⟩
theorem q4s (hn : Fu n) {S : Pm k hk → Prop} {met : Option KS} {gens all : List (List Int)} (h : Gw hk S met gens all) (x : Pm k hk) :
    ∃ met' gens' all', qb6 n x.1 met gens all = some ((), (met', (gens', (all', ())))) ∧ Gw hk (fun y => S y ∨ y = x) met' gens' all' := by
  have hx := x.2
  have ek := qyj hn hx.1
  have el := h.m.look hx.1
  have hfew := h.few
  by_cases c : x.1 ∈ all
  · rw [decide_eq_true c] at el
    refine ⟨met, gens, all, ?_, h.m, h.g, h.gl, fun y => ?_, fun y => ?_⟩
    · simp (disch := first | assumption | omega) only [zA, zB, zC, zD, zE, zF, zG, qxi, qxc, qxd, zH, zI, dpos, dneg, zJ, zK, zL, zM, zN, zO, zP, qb6, ek, el]
    · rw [Cl.add ((h.eq x).1 c)]; exact h.eq y
    · rw [Cl.add ((h.eq x).1 c)]; exact h.gs y
  · rw [decide_eq_false c] at el
    have hg' : ∀ g ∈ gens ++ [x.1], VP g ∧ g.length = k := fun g hg => by
      rw [List.mem_append, List.mem_singleton] at hg
      rcases hg with hg | rfl
      · exact h.g g hg
      · exact x.2
    have hgl := h.gl
    obtain ⟨met', ext, e, q1, q2, q3⟩ := qy3 hn (gens := gens ++ [x.1]) hg' (by rw [List.length_append]; simp only [List.length_cons, List.length_nil]; omega) h.m
    have gs' : ∀ y : Pm k hk, Cl (dn (gens ++ [x.1])) y ↔ Cl (fun y => S y ∨ y = x) y := fun y => by
      constructor
      · refine Cl.mono (fun a ha => ?_)
        have ha : a.1 ∈ gens ++ [x.1] := ha
        rw [List.mem_append, List.mem_singleton] at ha
        rcases ha with ha | ha
        · exact ((h.gs a).1 (.gen ha)).mono (fun b hb => .gen (.inl hb))
        · exact .gen (.inr (Pm.ext ha))
      · refine Cl.mono ?_
        rintro a (ha | rfl)
        · exact ((h.gs a).2 (.gen ha)).mono (fun b hb => .gen (List.mem_append_left _ hb))
        · exact .gen (show a.1 ∈ gens ++ [a.1] by simp)
    have hidm : idP k ∈ all := (h.eq 1).2 .one
    refine ⟨met', gens ++ [x.1], all ++ ext, ?_, q1, hg', ?_, fun y => ?_, gs'⟩
    · have hl1 : ([x.1] : List (List Int)).length = 1 := rfl
      simp (disch := first | assumption | omega) only [zA, zB, zC, zD, zE, zF, zG, qxi, qxc, qxd, zH, zI, dpos, dneg, zJ, zK, zL, zM, zN, zO, zP, qb6, ek, el, e]
    · -- the new element is new
      have hxm : x.1 ∈ all ++ ext := by
        obtain ⟨i, hi, e⟩ := List.getElem_of_mem (List.mem_append_left ext hidm)
        have := q2 i hi gens.length (by simp)
        have r1 : row (all ++ ext) i = idP k := by unfold row; rw [List.getD_eq_getElem?_getD, List.getElem?_eq_getElem hi]; exact e
        have r2 : row (gens ++ [x.1]) gens.length = x.1 := by unfold row; rw [List.getD_eq_getElem?_getD, List.getElem?_append_right (Nat.le_refl _), Nat.sub_self]; rfl
        rw [r1, r2, q4a hx] at this
        exact this
      have : 1 ≤ ext.length := by
        rw [List.mem_append] at hxm
        rcases hxm with hxm | hxm
        · exact absurd hxm c
        · exact List.length_pos_of_mem hxm
      rw [List.length_append, List.length_append]
      simp only [List.length_cons, List.length_nil]; omega
    · constructor
      · intro hy
        have : ∀ p, Reach (gens ++ [x.1]) all p → ∃ hp : PK k p, Cl (fun y => S y ∨ y = x) (⟨p, hp⟩ : Pm k hk) := by
          intro p hp
          induction hp with
          | @base p hb =>
            have hp := h.m.nodup.2 _ hb
            exact ⟨hp, ((h.eq ⟨p, hp⟩).1 hb).mono (fun b hb => .gen (.inl hb))⟩
          | @step p g _ hq ih =>
            obtain ⟨hp, hc⟩ := ih
            have hgp := hg' g hq
            have := Cl.mul (G := Pm k hk) (S := fun y => S y ∨ y = x) (p := Pm.mk p hp) (q := Pm.mk g hgp) hc ((gs' _).1 (.gen hq))
            exact ⟨hp.mul hgp, this⟩
        obtain ⟨hp, hc⟩ := this y.1 (q3 y.1 hy)
        exact hc
      · intro hy
        replace hy := (gs' y).2 hy
        induction hy with
        | one => exact List.mem_append_left _ hidm
        | @step p g hc hq ih =>
          have hq : g.1 ∈ gens ++ [x.1] := hq
          obtain ⟨i, hi, e1⟩ := List.getElem_of_mem ih
          obtain ⟨j, hj, e2⟩ := List.getElem_of_mem hq
          have := q2 i hi j hj
          unfold row at this
          rw [List.getD_eq_getElem?_getD, List.getElem?_eq_getElem hi, List.getD_eq_getElem?_getD, List.getElem?_eq_getElem hj] at this
          simp only [Option.getD_some] at this
          rw [e1, e2] at this
          exact this
theorem q4t (hn : Fu n) {l : List (List Int)} (hl : l.length ≤ 1000000000) (h : ∀ p ∈ l, VP p) : ∃ m, qby n l = some (some m, ()) ∧ KOK m ∧ ∀ q, VP q → (keyP q ∈ m.map (·.1) ↔ q ∈ l) := by
  obtain ⟨r, e, m, rfl, h1, h2⟩ := qw8 (f := qbx n) hn
    (fun d => ∃ (i : Nat) (m : KS), d = (l, (l.length : Int), (i : Int), some m, ()) ∧ i ≤ l.length ∧ KOK m ∧ ∀ q, VP q → (keyP q ∈ m.map (·.1) ↔ q ∈ l.take i))
    (fun d => ((l.length : Int) - d.2.2.1).toNat)
    (fun r => ∃ m, r = .inl (some m, ()) ∧ KOK m ∧ ∀ q, VP q → (keyP q ∈ m.map (·.1) ↔ q ∈ l))
    (d := (l, (l.length : Int), 0, some [], ()))
    ⟨0, [], rfl, Nat.zero_le _, (fun x hx => nomatch hx), fun q _ => by simp⟩ (by simp only; omega) (by
      rintro d ⟨i, m, rfl, h1, h2, h3⟩
      by_cases c : i < l.length
      · have hv := h _ (qxj c)
        have ek := qyj hn hv
        obtain ⟨g1, g2⟩ := qyq h2 (qyo (row l i))
        refine .inl ⟨(l, (l.length : Int), ((i + 1 : Nat) : Int), some (mput (.arr 7 (.int .i8)) m (keyP (row l i)) true), ()), ?_, ⟨i + 1, _, rfl, c, g1, fun q hq => ?_⟩, by simp only; omega⟩
        · simp (disch := first | assumption | omega) only [zA, zB, zC, zD, zE, zF, zG, qxi, qxc, qxd, zH, zI, dpos, dneg, zJ, zK, zL, zM, zN, zO, zP, qbx, qbw, qxk, ek, up1]
        · rw [g2, h3 q hq, List.take_add_one, List.mem_append]
          have : l[i]?.toList = [row l i] := by unfold row; rw [List.getD_eq_getElem?_getD, List.getElem?_eq_getElem c]; rfl
          rw [this, List.mem_singleton]
          constructor
          · rintro (e | e)
            · exact .inr (qym hq hv e)
            · exact .inl e
          · rintro (e | e)
            · exact .inr e
            · exact .inl (by rw [e])
      · obtain rfl : i = l.length := by omega
        rw [List.take_length] at h3
        refine .inr ⟨.inl (some m, ()), ?_, m, rfl, h2, h3⟩
        simp (disch := first | assumption | omega) only [zA, zB, zC, zD, zE, zF, zG, qxi, qxc, qxd, zH, zI, dpos, dneg, zJ, zK, zL, zM, zN, zO, zP, qbx, qbw])
  refine ⟨m, ?_, h1, h2⟩
  simp (disch := first | assumption | omega) only [zA, zB, zC, zD, zE, zF, zG, qxi, qxc, qxd, zH, zI, dpos, dneg, zJ, zK, zL, zM, zN, zO, zP, qby, e]
theorem Gw.start (hn : Fu n) (hk : 1 ≤ k ∧ k ≤ 7) : ∃ met, qby n [idP k] = some (met, ()) ∧ Gw hk (fun _ => False) met [] [idP k] := by
  have hid : PK k (idP k) := (1 : Pm k hk).2
  obtain ⟨m, e, h1, h2⟩ := q4t hn (l := [idP k]) (by simp) (fun p hp => by rw [List.mem_singleton] at hp; subst hp; exact hid.1)
  have one : ∀ (S : Pm k hk → Prop), (∀ x, ¬ S x) → ∀ x, Cl S x ↔ x = 1 := fun S hS x => by
    constructor
    · intro h
      cases h with
      | one => rfl
      | step _ hq => exact absurd hq (hS _)
    · rintro rfl; exact .one
  refine ⟨some m, e, ⟨m, rfl, h1, h2, by simp, fun p hp => by rw [List.mem_singleton] at hp; subst hp; exact hid⟩, (fun g hg => nomatch hg), by simp, fun x => ?_, fun x => ?_⟩
  · rw [one _ (fun _ h => h), List.mem_singleton]
    exact ⟨fun h => Pm.ext h, fun h => by rw [h]; rfl⟩
  · rw [one _ (fun _ h => h), one _ (fun _ h => nomatch h)]
theorem q4u (hn : Fu n) {G : List (List Int)} (hG : ∀ g ∈ G, PK k g) (hGl : G.length ≤ 1000000000) {met : Option KS} (h : Gw hk (fun _ => False) met [] [idP k]) :
    ∃ met' gens' all', qb9 n G met [] [idP k] = some ((), (met', (gens', (all', ())))) ∧ Gw hk (dn G) met' gens' all' := by
  obtain ⟨r, e, met', gens', all', rfl, h1⟩ := qw8 (f := qb8 n) hn
    (fun d => ∃ (i : Nat) (met : Option KS) (gens all : List (List Int)), d = (((), ((), ((), ()))), G, (G.length : Int), (i : Int), met, gens, all, ()) ∧ i ≤ G.length ∧ Gw hk (dn (G.take i)) met gens all)
    (fun d => ((G.length : Int) - d.2.2.2.1).toNat)
    (fun r => ∃ met' gens' all', r = .inl (met', gens', all', ()) ∧ Gw hk (dn G) met' gens' all')
    (d := (((), ((), ((), ()))), G, (G.length : Int), 0, met, [], [idP k], ()))
    ⟨0, met, [], [idP k], rfl, Nat.zero_le _, by
      have : (dn (G.take 0) : Pm k hk → Prop) = fun _ => False := by funext x; apply propext; simp [dn]
      rw [this]; exact h⟩ (by simp only; omega) (by
      rintro d ⟨i, met, gens, all, rfl, h1, h2⟩
      by_cases c : i < G.length
      · obtain ⟨met', gens', all', e, q⟩ := q4s hn h2 ⟨row G i, hG _ (qxj c)⟩
        change qb6 n (row G i) met gens all = _ at e
        refine .inl ⟨(((), ((), ((), ()))), G, (G.length : Int), ((i + 1 : Nat) : Int), met', gens', all', ()), ?_, ⟨i + 1, met', gens', all', rfl, c, ?_⟩, by simp only; omega⟩
        · simp (disch := first | assumption | omega) only [zA, zB, zC, zD, zE, zF, zG, qxi, qxc, qxd, zH, zI, dpos, dneg, zJ, zK, zL, zM, zN, zO, zP, qb8, qb7, qxk, e, up1]
        · have : (dn (G.take (i + 1)) : Pm k hk → Prop) = fun y => dn (G.take i) y ∨ y = ⟨row G i, hG _ (qxj c)⟩ := by
            funext y
            apply propext
            have e : G[i]?.toList = [row G i] := by unfold row; rw [List.getD_eq_getElem?_getD, List.getElem?_eq_getElem c]; rfl
            show y.1 ∈ G.take (i + 1) ↔ y.1 ∈ G.take i ∨ _
            rw [List.take_add_one, List.mem_append, e, List.mem_singleton]
            exact or_congr Iff.rfl ⟨fun h => Pm.ext h, fun h => by rw [h]⟩
          rw [this]; exact q
      · obtain rfl : i = G.length := by omega
        rw [List.take_length] at h2
        refine .inr ⟨.inl (met, gens, all, ()), ?_, met, gens, all, rfl, h2⟩
        simp (disch := first | assumption | omega) only [zA, zB, zC, zD, zE, zF, zG, qxi, qxc, qxd, zH, zI, dpos, dneg, zJ, zK, zL, zM, zN, zO, zP, qb8, qb7])
  exact ⟨met', gens', all', by simp (disch := first | assumption | omega) only [zA, zB, zC, zD, zE, zF, zG, qxi, qxc, qxd, zH, zI, dpos, dneg, zJ, zK, zL, zM, zN, zO, zP, qb9, e], h1⟩
theorem Gw.sorted (hn : Fw n) {S : Pm k hk → Prop} {met : Option KS} {gens all : List (List Int)} (h : Gw hk S met gens all) : qd4 n all = some (can (Cl S), ()) := by
  rw [q3l hn hk.1 hk.2 h.m.nodup.1 h.m.nodup.2]
  congr 2
  unfold can
  refine qzw hk.1 hk.2 (fun p hp => ?_)
  rw [h.eq ⟨p, hp⟩]
  exact ⟨fun h => ⟨hp, h⟩, fun ⟨_, h⟩ => h⟩
theorem q4v (hn : Fw n) {G : List (List Int)} (hG : ∀ g ∈ G, PK k g) (h0 : 0 < G.length) (hGl : G.length ≤ 1000000000) : qd5 n G = some (can (hk := hk) (Cl (dn G)), ()) := by
  have hr0 := hG _ (qxj h0)
  have e0 : idx G 0 = some (row G 0) := qxk (u := 0) h0
  have eid := qyg hn.fu k hk.1 hk.2
  obtain ⟨met, e1, h1⟩ := Gw.start hn.fu hk
  obtain ⟨met', gens', all', e2, h2⟩ := q4u hn.fu hG hGl h1
  have e3 := h2.sorted hn
  have el : (((row G 0).length : Nat) : Int) = (k : Int) := by rw [hr0.2]
  simp (disch := first | assumption | omega) only [zA, zB, zC, zD, zE, zF, zG, qxi, qxc, qxd, zH, zI, dpos, dneg, zJ, zK, zL, zM, zN, zO, zP, qd5, e0, el, qca, eid, e1, e2, e3]
theorem q4w {H : Pm k hk → Prop} : ∀ i, i < (can H).length → (row (can H) i).length ≤ 1000 := fun i hi => by
  have := (q4f _ (qxj hi)).2; omega
theorem q4x (hn : Fw n) {G : List (List Int)} (hv : GV G) (hG : ∀ g ∈ G, PK k g) : qeb n G = some (can (hk := hk) (Cl (dn G)), 0, ()) := by
  have e1 := qx7 hn.fu G
  have e2 := q4v (hk := hk) hn hG hv.1 (by have := hv.2.1; omega)
  have e3 := qyt hn.fu (can (hk := hk) (Cl (dn G))) (by have := q4g (H := Cl (dn (hk := hk) G)); omega) q4w
  rw [decide_eq_true hv] at e1
  simp (disch := first | assumption | omega) only [zA, zB, zC, zD, zE, zF, zG, qxi, qxc, qxd, zH, zI, dpos, dneg, zJ, zK, zL, zM, zN, zO, zP, qeb, e1, e2, e3]
theorem GV.pk {G : List (List Int)} (hv : GV G) : ∃ k, (1 ≤ k ∧ k ≤ 7) ∧ ∀ g ∈ G, PK k g := by
  have h0 := (hv.2.2 0 hv.1)
  refine ⟨(row G 0).length, ⟨h0.1.1, h0.1.2.1⟩, fun g hg => ?_⟩
  obtain ⟨i, hi, e⟩ := List.getElem_of_mem hg
  have := hv.2.2 i hi
  unfold row at this ⊢
  rw [List.getD_eq_getElem?_getD (i := i), List.getElem?_eq_getElem hi] at this
  simp only [Option.getD_some] at this
  rw [e] at this
  exact ⟨this.2.1, this.2.2.symm⟩
theorem q4y (hn : Fu n) (H : Pm k hk → Prop) : qfa n (can H) (can H) = some (true, ()) :=
  qyv hn _ (by have := q4g (H := H); omega) q4w
end Go.Proofs.Ytemejeiajekmcaa.V
namespace Go.Proofs.Ytemejeiajekmcaa.V
open Go Classical Grp
set_option linter.unusedVariables false
set_option linter.all false
variable {n : Nat} {k : Nat} {hk : 1 ≤ k ∧ k ≤ 7}
noncomputable def invTo (p : List Int) (i : Nat) : List Int := tab p.length (fun v => if p.idxOf (v : Int) < i then ((p.idxOf (v : Int) : Nat) : Int) else 0)
theorem q4z (p : List Int) : List.replicate p.length (0 : Int) = invTo p 0 := by
  rw [qxr]; exact qxq (fun j hj => (if_neg (by omega)).symm)
theorem q40 {p : List Int} (hp : PK k p) {i v : Nat} (hi : i < k) (h : rd p (i : Int) = (v : Int)) : p.idxOf (v : Int) = i := by
  have hm : (v : Int) ∈ p := by rw [← h, qzp (by rw [hp.2]; exact hi)]; exact List.getElem_mem _
  have h1 := q36 hm
  exact hp.1.inj h1.1 (by rw [hp.2]; exact hi) (by rw [h1.2, h])
theorem q41 {p : List Int} (hp : PK k p) {i v : Nat} (hi : i < k) (h : rd p (i : Int) = (v : Int)) : (invTo p i).set v (i : Int) = invTo p (i + 1) := by
  have e := q40 hp hi h
  unfold invTo
  rw [qxp]
  refine qxq (fun j hj => ?_)
  by_cases c : j = v
  · subst c; rw [if_pos rfl, e, if_pos (by omega)]
  · rw [if_neg c]
    have : p.idxOf (j : Int) ≠ i := fun e2 => by
      have := (q36 (hp.memI (i := j) (by rw [← hp.2]; exact hj))).2
      rw [e2, h] at this; omega
    congr 1; apply propext; omega
theorem q42 {p : List Int} (hp : PK k p) : invTo p p.length = invP p :=
  qxq (fun j hj => if_pos (q36 (hp.memI (i := j) (by rw [← hp.2]; exact hj))).1)
theorem q43 (hn : Fu n) {p : List Int} (hp : PK k p) : qep n p = some (invP p, ()) := by
  have h7 := hp.bd
  have hl := hp.2
  have g : iterN (qeo n) n (p, (p.length : Int), 0, List.replicate p.length 0, ()) = some (.inl (invP p, ())) := by
    refine qw4 hn (fun i => (p, (p.length : Int), (i : Int), invTo p i, ())) p.length (by omega) (by rw [q4z]; rfl) (fun i hi => ?_) ?_
    · obtain ⟨v, hv, e⟩ := hp.at (i := i) (by omega)
      have es := q41 hp (by omega) e
      have ei : idx (invTo p i) (v : Int) = some (if p.idxOf (v : Int) < i then ((p.idxOf (v : Int) : Nat) : Int) else 0) := qxt (by omega)
      simp (disch := first | assumption | omega) only [zA, zB, zC, zD, zE, zF, zG, qxi, qxc, qxd, zH, zI, dpos, dneg, zJ, zK, zL, zM, zN, zO, zP, qeo, qen, qxl, e, ei, es, up1]
    · simp (disch := first | assumption | omega) only [zA, zB, zC, zD, zE, zF, zG, qxi, qxc, qxd, zH, zI, dpos, dneg, zJ, zK, zL, zM, zN, zO, zP, qeo, qen, q42 hp]
  simp (disch := first | assumption | omega) only [zA, zB, zC, zD, zE, zF, zG, qxi, qxc, qxd, zH, zI, dpos, dneg, zJ, zK, zL, zM, zN, zO, zP, qep, g]
theorem q44 (hn : Fu n) (x : Pm k hk) : qep n x.1 = some ((x⁻¹).1, ()) := q43 hn x.2
theorem q45 (hn : Fu n) (x y : Pm k hk) : qeq n x.1 y.1 = some ((cm x y).1, ()) := by
  simp only [qeq, q44 hn, q4l hn, Option.bind_some]; rfl
theorem q46 (hn : Fu n) (p c : Pm k hk) : qer n p.1 c.1 = some ((cj c p).1, ()) := by
  simp only [qer, q44 hn, q4l hn, Option.bind_some]; rfl
theorem q47 {l : List (List Int)} (h : ∀ p ∈ l, PK k p) {i : Nat} (hi : i < l.length) : ∃ x : Pm k hk, row l i = x.1 ∧ dn l x := ⟨⟨row l i, h _ (qxj hi)⟩, rfl, qxj hi⟩
theorem q48 {l : List (List Int)} {i : Nat} (hi : i < l.length) {x : Pm k hk} (hx : row l i = x.1) (y : Pm k hk) : dn (l.take (i + 1)) y ↔ dn (l.take i) y ∨ y = x := by
  have e : l[i]?.toList = [x.1] := by rw [← hx]; unfold row; rw [List.getD_eq_getElem?_getD, List.getElem?_eq_getElem hi]; rfl
  show y.1 ∈ l.take (i + 1) ↔ y.1 ∈ l.take i ∨ _
  rw [List.take_add_one, List.mem_append, e, List.mem_singleton]
  exact or_congr Iff.rfl ⟨fun h => Pm.ext h, fun h => by rw [h]⟩
theorem q49 {l : List (List Int)} (y : Pm k hk) : ¬ dn (l.take 0) y := fun h => by unfold dn at h; simp at h
def IsGrp (l : List (List Int)) : Prop := ∃ (k : Nat) (hk : 1 ≤ k ∧ k ≤ 7) (H : Pm k hk → Prop), Sub H ∧ l = can H
theorem q5a {H : Pm k hk → Prop} (hH : Sub H) : 0 < (can H).length := List.length_pos_of_mem (q4e.2 hH.one)
theorem q5b {H : Pm k hk → Prop} (hH : Sub H) : (row (can H) 0).length = k := (q4f _ (qxj (q5a hH))).2
theorem Cl.can {H : Pm k hk → Prop} (hH : Sub H) (x : Pm k hk) : Cl (dn (Go.Proofs.Ytemejeiajekmcaa.V.can H)) x ↔ H x := by
  have : (dn (Go.Proofs.Ytemejeiajekmcaa.V.can H) : Pm k hk → Prop) = H := funext fun x => propext q4j
  rw [this]; exact Cl.self hH
theorem q5c {H : Pm k hk → Prop} (hH : Sub H) : GV (can H) := by
  refine ⟨q5a hH, q4g, fun i hi => ?_⟩
  have h0 := q4f _ (qxj (q5a hH))
  have h1 := q4f _ (qxj hi)
  exact ⟨h0.1, h1.1, by rw [h0.2, h1.2]⟩
theorem PK.uniq {k k' : Nat} {p : List Int} (h : PK k p) (h' : PK k' p) : k = k' := by rw [← h.2, ← h'.2]
theorem q5d {l : List (List Int)} : Asc l ↔ ∀ i, i < l.length → 0 < i → ltL (row l (i - 1)) (row l i) := by
  have rg : ∀ (i : Nat) (h : i < l.length), row l i = l[i] := fun i h => by unfold row; rw [List.getD_eq_getElem?_getD, List.getElem?_eq_getElem h]; rfl
  constructor
  · intro h i hi h0
    rw [rg i hi, rg (i - 1) (by omega)]
    exact List.pairwise_iff_getElem.1 h (i - 1) i (by omega) hi (by omega)
  · intro h
    refine List.pairwise_iff_getElem.2 (fun i j hi hj hij => ?_)
    rw [← rg i hi, ← rg j hj]
    clear hi
    induction j with
    | zero => omega
    | succ j ih =>
      have := h (j + 1) hj (by omega)
      simp only [Nat.add_sub_cancel] at this
      by_cases e : i = j
      · rw [e]; exact this
      · exact qy5 (ih (by omega) (by omega)) this
theorem q5e (hn : Fu n) {l : List (List Int)} (hl : l.length ≤ 1000000000) (hr : ∀ i, i < l.length → (row l i).length ≤ 1000000000) :
    iterN (qed n) n (l, (l.length : Int), 0, ()) = some (if Asc l then .inr (.inl (l, ())) else .inl (false, ())) := by
  refine (qw5 (f := qed n) hn (fun i => (l, (l.length : Int), (i : Int), ())) l.length (fun i => 0 < i → ltL (row l (i - 1)) (row l i)) (d := (l, (l.length : Int), 0, ())) (r := .inr (.inl (l, ()))) (r' := .inl (false, ())) (by omega) rfl (fun i hi _ hp => ?_) (fun i hi _ hp => ?_) (fun _ => ?_)).trans (by
      congr 1
      by_cases h : Asc l
      · rw [if_pos h, if_pos (fun i hi h0 => q5d.1 h i hi h0)]
      · rw [if_neg h, if_neg (fun h2 => h (q5d.2 h2))])
  · by_cases c : 0 < i
    · have hc := q3i hn (row l (i - 1)) (row l i) (hr _ (by omega))
      rw [q3d (hp c)] at hc
      have z : ¬ (0 : Int) ≤ -1 := by decide
      simp (disch := first | assumption | omega) only [zA, zB, zC, zD, zE, zF, zG, qxi, qxc, qxd, zH, zI, dpos, dneg, zJ, zK, zL, zM, zN, zO, zP, qed, qec, Srt.dn1, qxk, hc, up1]
    · obtain rfl : i = 0 := by omega
      simp (disch := first | assumption | omega) only [zA, zB, zC, zD, zE, zF, zG, qxi, qxc, qxd, zH, zI, dpos, dneg, zJ, zK, zL, zM, zN, zO, zP, qed, qec, up1]
  · have c : 0 < i := Classical.byContradiction fun h => hp (fun h2 => absurd h2 h)
    have hc := q3i hn (row l (i - 1)) (row l i) (hr _ (by omega))
    have hge : 0 ≤ cmpL (row l (i - 1)) (row l i) := by
      have : ¬ cmpL (row l (i - 1)) (row l i) < 0 := fun h => hp (fun _ => q3g.1 h)
      omega
    simp (disch := first | assumption | omega) only [zA, zB, zC, zD, zE, zF, zG, qxi, qxc, qxd, zH, zI, dpos, dneg, zJ, zK, zL, zM, zN, zO, zP, qed, qec, Srt.dn1, qxk, hc]
  · simp (disch := first | assumption | omega) only [zA, zB, zC, zD, zE, zF, zG, qxi, qxc, qxd, zH, zI, dpos, dneg, zJ, zK, zL, zM, zN, zO, zP, qed, qec]
theorem q5f (hn : Fw n) (l : List (List Int)) : ∃ b, qee n l = some (b, ()) ∧ (b = true ↔ IsGrp l) := by
  have e1 := qx7 hn.fu l
  by_cases hv : GV l
  · rw [decide_eq_true hv] at e1
    obtain ⟨k, hk, hG⟩ := hv.pk
    have e2 := q5e hn.fu (l := l) (by have := hv.2.1; omega) (fun i hi => by have := (hG _ (qxj hi)).2; omega)
    have e3 := q4v (hk := hk) hn hG hv.1 (by have := hv.2.1; omega)
    by_cases ha : Asc l
    · rw [if_pos ha] at e2
      refine ⟨decide (((can (hk := hk) (Cl (dn l))).length : Int) = (l.length : Int)), by simp (disch := first | assumption | omega) only [zA, zB, zC, zD, zE, zF, zG, qxi, qxc, qxd, zH, zI, dpos, dneg, zJ, zK, zL, zM, zN, zO, zP, qee, e1, e2, e3], ?_⟩
      rw [decide_eq_true_eq]
      constructor
      · intro h
        have hp := qy8 ha.nodup (L := can (hk := hk) (Cl (dn l))) (fun p hp => q4d.2 ⟨hG p hp, .gen hp⟩) (by omega)
        refine ⟨k, hk, Cl (dn l), Cl.sub _, ha.ext can_asc (fun p => hp.mem_iff)⟩
      · rintro ⟨k', hk', H, hH, rfl⟩
        have h0 := qxj (q5a hH)
        obtain rfl := (hG _ h0).uniq (q4f _ h0)
        rw [q4h (Cl.can hH)]
    · rw [if_neg ha] at e2
      refine ⟨false, by simp (disch := first | assumption | omega) only [zA, zB, zC, zD, zE, zF, zG, qxi, qxc, qxd, zH, zI, dpos, dneg, zJ, zK, zL, zM, zN, zO, zP, qee, e1, e2], (fun h => nomatch h), ?_⟩
      rintro ⟨k', hk', H, hH, rfl⟩
      exact absurd can_asc ha
  · rw [decide_eq_false hv] at e1
    refine ⟨false, by simp (disch := first | assumption | omega) only [zA, zB, zC, zD, zE, zF, zG, qxi, qxc, qxd, zH, zI, dpos, dneg, zJ, zK, zL, zM, zN, zO, zP, qee, e1], (fun h => nomatch h), ?_⟩
    rintro ⟨k', hk', H, hH, rfl⟩
    exact absurd (q5c hH) hv
theorem q5g (hn : Fw n) {H : Pm k hk → Prop} (hH : Sub H) : qee n (can H) = some (true, ()) := by
  obtain ⟨b, e, h⟩ := q5f hn (can H)
  rw [h.2 ⟨k, hk, H, hH, rfl⟩] at e
  exact e
theorem q5h (hn : Fw n) {G : List (List Int)} (hG : ∀ g ∈ G, PK k g) (h0 : 0 < G.length) (hGl : G.length ≤ 1000000000) : qej n G = some ((can (hk := hk) (Cl (dn G)), ()), (G, ())) := by
  have hr0 := hG _ (qxj h0)
  have e0 : idx G 0 = some (row G 0) := qxk (u := 0) h0
  have eid := qyg hn.fu k hk.1 hk.2
  obtain ⟨met, e1, h1⟩ := Gw.start hn.fu hk
  obtain ⟨r, e2, met', gens', all', rfl, h2⟩ := qw8 (f := qeg n) hn.fu
    (fun d => ∃ (i : Nat) (met : Option KS) (gens all : List (List Int)), d = (((), ((), ((), ()))), (G.length : Int), (i : Int), met, gens, all, G, ()) ∧ i ≤ G.length ∧ Gw hk (dn (G.take i)) met gens all)
    (fun d => ((G.length : Int) - d.2.2.1).toNat)
    (fun r => ∃ met' gens' all', r = .inl (met', gens', all', G, ()) ∧ Gw hk (dn G) met' gens' all')
    (d := (((), ((), ((), ()))), (G.length : Int), 0, met, [], [idP k], G, ()))
    ⟨0, met, [], [idP k], rfl, Nat.zero_le _, by
      have : (dn (G.take 0) : Pm k hk → Prop) = fun _ => False := by funext x; apply propext; exact ⟨fun h => q49 x h, fun h => h.elim⟩
      rw [this]; exact h1⟩ (by simp only; omega) (by
      rintro d ⟨i, met, gens, all, rfl, h1, h2⟩
      by_cases c : i < G.length
      · obtain ⟨x, ex, hx⟩ := q47 (hk := hk) hG c
        obtain ⟨met', gens', all', e, q⟩ := q4s hn.fu h2 x
        refine .inl ⟨(((), ((), ((), ()))), (G.length : Int), ((i + 1 : Nat) : Int), met', gens', all', G, ()), ?_, ⟨i + 1, met', gens', all', rfl, c, ?_⟩, by simp only; omega⟩
        · simp (disch := first | assumption | omega) only [zA, zB, zC, zD, zE, zF, zG, qxi, qxc, qxd, zH, zI, dpos, dneg, zJ, zK, zL, zM, zN, zO, zP, qeg, qef, qxk, ex, e, up1]
        · have : (dn (G.take (i + 1)) : Pm k hk → Prop) = fun y => dn (G.take i) y ∨ y = x := funext fun y => propext (q48 c ex y)
          rw [this]; exact q
      · obtain rfl : i = G.length := by omega
        rw [List.take_length] at h2
        refine .inr ⟨.inl (met, gens, all, G, ()), ?_, met, gens, all, rfl, h2⟩
        simp (disch := first | assumption | omega) only [zA, zB, zC, zD, zE, zF, zG, qxi, qxc, qxd, zH, zI, dpos, dneg, zJ, zK, zL, zM, zN, zO, zP, qeg, qef])
  have e3 := h2.sorted hn
  have el : (((row G 0).length : Nat) : Int) = (k : Int) := by rw [hr0.2]
  simp (disch := first | assumption | omega) only [zA, zB, zC, zD, zE, zF, zG, qxi, qxc, qxd, zH, zI, dpos, dneg, zJ, zK, zL, zM, zN, zO, zP, qej, e0, el, qei, eid, e1, qeh, e2, e3]
def KSet (hk : 1 ≤ k ∧ k ≤ 7) (m : KS) (S : Pm k hk → Prop) : Prop := KOK m ∧ ∀ x : Pm k hk, keyP x.1 ∈ m.map (·.1) ↔ S x
theorem KSet.look {m : KS} {S : Pm k hk → Prop} (h : KSet hk m S) (x : Pm k hk) : (mget (.arr 7 (.int .i8)) m (keyP x.1)).getD false = decide (S x) := by
  rw [qyp h.1 (qyo x.1)]
  by_cases c : S x
  · rw [if_pos ((h.2 x).2 c), decide_eq_true c]; rfl
  · rw [if_neg (fun e => c ((h.2 x).1 e)), decide_eq_false c]; rfl
theorem q5i (hn : Fu n) {l : List (List Int)} (hl : l.length ≤ 1000000000) (h : ∀ p ∈ l, PK k p) : ∃ m, qby n l = some (some m, ()) ∧ KSet hk m (dn l) := by
  obtain ⟨m, e, h1, h2⟩ := q4t hn hl (fun p hp => (h p hp).1)
  exact ⟨m, e, h1, fun x => h2 x.1 x.2.1⟩
theorem q5j (hn : Fu n) (x : Pm k hk) : qbv n x.1 = some (keyP x.1, ()) := qyj hn x.2.1
theorem q5k (hn : Fw n) {H : Pm k hk → Prop} (hH : Sub H) : ∃ out, qem n (can H) = some (out, ()) ∧ (∀ p ∈ out, PK k p) ∧ (∀ x : Pm k hk, Cl (dn out) x ↔ H x) ∧ (∀ x : Pm k hk, dn out x → H x) ∧ 0 < out.length ∧ out.length ≤ 5041 := by
  have h0 := q5a hH
  have e0 : idx (can H) 0 = some (row (can H) 0) := qxk (u := 0) h0
  have el : (((row (can H) 0).length : Nat) : Int) = (k : Int) := by rw [q5b hH]
  have eid := qyg hn.fu k hk.1 hk.2
  obtain ⟨m0, e1, h1⟩ := q5i (hk := hk) hn.fu (l := [idP k]) (by simp) (fun p hp => by rw [List.mem_singleton] at hp; subst hp; exact (1 : Pm k hk).2)
  have hcl := q4g (H := H)
  obtain ⟨r, e, out, rfl, q1, q2, q3, q4, q5⟩ := qw8 (f := qel n) hn.fu
    (fun d => ∃ (i : Nat) (m : KS) (out : List (List Int)), d = (some m, can H, ((can H).length : Int), (i : Int), out, ()) ∧ i ≤ (can H).length ∧ KSet hk m (Cl (dn out)) ∧ (∀ p ∈ out, PK k p) ∧ (∀ x : Pm k hk, dn out x → H x) ∧ 0 < out.length ∧ out.length ≤ i + 1 ∧ ∀ x : Pm k hk, dn ((can H).take i) x → Cl (dn out) x)
    (fun d => (((can H).length : Int) - d.2.2.2.1).toNat)
    (fun r => ∃ out, r = .inl (out, ()) ∧ (∀ p ∈ out, PK k p) ∧ (∀ x : Pm k hk, Cl (dn out) x ↔ H x) ∧ (∀ x : Pm k hk, dn out x → H x) ∧ 0 < out.length ∧ out.length ≤ 5041)
    (d := (some m0, can H, ((can H).length : Int), 0, [idP k], ()))
    ⟨0, m0, [idP k], rfl, Nat.zero_le _, ⟨h1.1, fun x => by
      rw [h1.2]
      constructor
      · intro h; exact .gen h
      · intro h
        have one : ∀ y : Pm k hk, dn [idP k] y ↔ y = 1 := fun y => by
          unfold dn; rw [List.mem_singleton]; exact ⟨fun h => Pm.ext h, fun h => by rw [h]; rfl⟩
        rw [one]
        induction h with
        | one => rfl
        | step _ hq ih => rw [ih, (one _).1 hq, Grp.mul_one]⟩, fun p hp => by rw [List.mem_singleton] at hp; subst hp; exact (1 : Pm k hk).2, fun x hx => by
        have : x = 1 := Pm.ext (List.mem_singleton.1 hx)
        rw [this]; exact hH.one, by simp, by simp, fun x hx => absurd hx (q49 x)⟩ (by simp only; omega) (by
      rintro d ⟨i, m, out, rfl, p1, p2, p3, p4, p5, p6, p7⟩
      by_cases c : i < (can H).length
      · obtain ⟨x, ex, hx⟩ := q47 (hk := hk) q4f c
        have hHx : H x := q4j.1 hx
        have ek := q5j hn.fu x
        have elk := p2.look x
        by_cases c2 : Cl (dn out) x
        · rw [decide_eq_true c2] at elk
          refine .inl ⟨(some m, can H, ((can H).length : Int), ((i + 1 : Nat) : Int), out, ()), ?_, ⟨i + 1, m, out, rfl, c, p2, p3, p4, p5, by omega, fun y hy => ?_⟩, by simp only; omega⟩
          · simp (disch := first | assumption | omega) only [zA, zB, zC, zD, zE, zF, zG, qxi, qxc, qxd, zH, zI, dpos, dneg, zJ, zK, zL, zM, zN, zO, zP, qel, qek, qxk, ex, ek, elk, up1]
          · rcases (q48 c ex y).1 hy with h | rfl
            · exact p7 y h
            · exact c2
        · rw [decide_eq_false c2] at elk
          have hP : ∀ p ∈ out ++ [x.1], PK k p := fun p hp => by
            rw [List.mem_append, List.mem_singleton] at hp
            rcases hp with hp | rfl
            · exact p3 p hp
            · exact x.2
          have hlen : (out ++ [x.1]).length = out.length + 1 := by simp
          have ec := q5h (hk := hk) hn hP (by omega) (by omega)
          obtain ⟨m', em, hm⟩ := q5i (hk := hk) hn.fu (l := can (hk := hk) (Cl (dn (out ++ [x.1])))) (by have := q4g (H := Cl (dn (hk := hk) (out ++ [x.1]))); omega) q4f
          have hl1 : ([x.1] : List (List Int)).length = 1 := rfl
          refine .inl ⟨(some m', can H, ((can H).length : Int), ((i + 1 : Nat) : Int), out ++ [x.1], ()), ?_, ⟨i + 1, m', out ++ [x.1], rfl, c, ⟨hm.1, fun y => by rw [hm.2, q4j]⟩, hP, fun y hy => ?_, by omega, by omega, fun y hy => ?_⟩, by simp only; omega⟩
          · simp (disch := first | assumption | omega) only [zA, zB, zC, zD, zE, zF, zG, qxi, qxc, qxd, zH, zI, dpos, dneg, zJ, zK, zL, zM, zN, zO, zP, qel, qek, qxk, ex, ek, elk, ec, em, up1]
          · have hy : y.1 ∈ out ++ [x.1] := hy
            rw [List.mem_append, List.mem_singleton] at hy
            rcases hy with hy | hy
            · exact p4 y hy
            · rw [Pm.ext hy]; exact hHx
          · rcases (q48 c ex y).1 hy with h | rfl
            · exact (p7 y h).mono (fun z hz => .gen (List.mem_append_left _ hz))
            · exact .gen (show y.1 ∈ out ++ [y.1] by simp)
      · obtain rfl : i = (can H).length := by omega
        rw [List.take_length] at p7
        refine .inr ⟨.inl (out, ()), ?_, out, rfl, p3, fun x => ⟨fun h => h.le hH p4, fun h => p7 x (q4j.2 h)⟩, p4, p5, by omega⟩
        simp (disch := first | assumption | omega) only [zA, zB, zC, zD, zE, zF, zG, qxi, qxc, qxd, zH, zI, dpos, dneg, zJ, zK, zL, zM, zN, zO, zP, qel, qek])
  refine ⟨out, ?_, q1, q2, q3, q4, q5⟩
  simp (disch := first | assumption | omega) only [zA, zB, zC, zD, zE, zF, zG, qxi, qxc, qxd, zH, zI, dpos, dneg, zJ, zK, zL, zM, zN, zO, zP, qem, e0, el, eid, e1, e]
theorem q5l (hn : Fu n) {l t1 t11 t17 : List (List Int)} (hl : ∀ p ∈ l, PK k p) (hll : l.length ≤ 1000000000) (p c : Pm k hk) {a12 a13 a18 a19 : Int} {S : Pm k hk → Prop} {met : Option KS} {gens all : List (List Int)} (h : Gw hk S met gens all) :
    ∃ met' gens' all', iterN (qet n) n (((), ((), ((), ()))), t1, l, p.1, c.1, t11, a12, a13, t17, a18, a19, l, (l.length : Int), 0, met, gens, all, ()) = some (.inl (((), ((), ((), ()))), t1, l, p.1, t11, a12, a13, t17, a18, a19, met', gens', all', ())) ∧ Gw hk (fun y => S y ∨ ∃ x, dn l x ∧ y = cj x c) met' gens' all' := by
  obtain ⟨r, e, met', gens', all', rfl, h2⟩ := qw8 (f := qet n) hn
    (fun d => ∃ (i : Nat) (met : Option KS) (gens all : List (List Int)), d = (((), ((), ((), ()))), t1, l, p.1, c.1, t11, a12, a13, t17, a18, a19, l, (l.length : Int), (i : Int), met, gens, all, ()) ∧ i ≤ l.length ∧ Gw hk (fun y => S y ∨ ∃ x, dn (l.take i) x ∧ y = cj x c) met gens all)
    (fun d => ((l.length : Int) - d.2.2.2.2.2.2.2.2.2.2.2.2.2.1).toNat)
    (fun r => ∃ met' gens' all', r = .inl (((), ((), ((), ()))), t1, l, p.1, t11, a12, a13, t17, a18, a19, met', gens', all', ()) ∧ Gw hk (fun y => S y ∨ ∃ x, dn l x ∧ y = cj x c) met' gens' all')
    (d := (((), ((), ((), ()))), t1, l, p.1, c.1, t11, a12, a13, t17, a18, a19, l, (l.length : Int), 0, met, gens, all, ()))
    ⟨0, met, gens, all, rfl, Nat.zero_le _, by
      have : (fun y => S y ∨ ∃ x, dn (l.take 0) x ∧ y = cj x c) = S := funext fun y => propext ⟨fun h => h.elim id (fun ⟨x, hx, _⟩ => absurd hx (q49 x)), .inl⟩
      rw [this]; exact h⟩ (by simp only; omega) (by
      rintro d ⟨i, met, gens, all, rfl, h1, h2⟩
      by_cases c1 : i < l.length
      · obtain ⟨x, ex, hx⟩ := q47 (hk := hk) hl c1
        obtain ⟨met', gens', all', e, q⟩ := q4s hn h2 (cj x c)
        have ec := q46 hn c x
        refine .inl ⟨(((), ((), ((), ()))), t1, l, p.1, c.1, t11, a12, a13, t17, a18, a19, l, (l.length : Int), ((i + 1 : Nat) : Int), met', gens', all', ()), ?_, ⟨i + 1, met', gens', all', rfl, c1, ?_⟩, by simp only; omega⟩
        · simp (disch := first | assumption | omega) only [zA, zB, zC, zD, zE, zF, zG, qxi, qxc, qxd, zH, zI, dpos, dneg, zJ, zK, zL, zM, zN, zO, zP, qet, qes, qxk, ex, ec, e, up1]
        · have : (fun y => S y ∨ ∃ x, dn (l.take (i + 1)) x ∧ y = cj x c) = fun y => (S y ∨ ∃ x, dn (l.take i) x ∧ y = cj x c) ∨ y = cj x c := funext fun y => propext (by
            constructor
            · rintro (h | ⟨z, hz, rfl⟩)
              · exact .inl (.inl h)
              · rcases (q48 c1 ex z).1 hz with h | rfl
                · exact .inl (.inr ⟨z, h, rfl⟩)
                · exact .inr rfl
            · rintro ((h | ⟨z, hz, rfl⟩) | rfl)
              · exact .inl h
              · exact .inr ⟨z, (q48 c1 ex z).2 (.inl hz), rfl⟩
              · exact .inr ⟨x, (q48 c1 ex x).2 (.inr rfl), rfl⟩)
          rw [this]; exact q
      · obtain rfl : i = l.length := by omega
        rw [List.take_length] at h2
        refine .inr ⟨_, ?_, met, gens, all, rfl, h2⟩
        simp (disch := first | assumption | omega) only [zA, zB, zC, zD, zE, zF, zG, qxi, qxc, qxd, zH, zI, dpos, dneg, zJ, zK, zL, zM, zN, zO, zP, qet, qes])
  exact ⟨met', gens', all', e, h2⟩
theorem q5m (hn : Fu n) {l G t11 : List (List Int)} (hl : ∀ p ∈ l, PK k p) (hll : l.length ≤ 1000000000) (hG : ∀ p ∈ G, PK k p) (hGl : G.length ≤ 1000000000) (p : Pm k hk) {a12 a13 : Int} {S : Pm k hk → Prop} {met : Option KS} {gens all : List (List Int)} (h : Gw hk S met gens all) :
    ∃ met' gens' all', iterN (qev n) n (((), ((), ((), ()))), G, l, p.1, t11, a12, a13, G, (G.length : Int), 0, met, gens, all, ()) = some (.inl (((), ((), ((), ()))), G, l, t11, a12, a13, met', gens', all', ())) ∧ Gw hk (fun y => S y ∨ ∃ q x, dn G q ∧ dn l x ∧ y = cj x (cm p q)) met' gens' all' := by
  obtain ⟨r, e, met', gens', all', rfl, h2⟩ := qw8 (f := qev n) hn
    (fun d => ∃ (i : Nat) (met : Option KS) (gens all : List (List Int)), d = (((), ((), ((), ()))), G, l, p.1, t11, a12, a13, G, (G.length : Int), (i : Int), met, gens, all, ()) ∧ i ≤ G.length ∧ Gw hk (fun y => S y ∨ ∃ q x, dn (G.take i) q ∧ dn l x ∧ y = cj x (cm p q)) met gens all)
    (fun d => ((G.length : Int) - d.2.2.2.2.2.2.2.2.2.1).toNat)
    (fun r => ∃ met' gens' all', r = .inl (((), ((), ((), ()))), G, l, t11, a12, a13, met', gens', all', ()) ∧ Gw hk (fun y => S y ∨ ∃ q x, dn G q ∧ dn l x ∧ y = cj x (cm p q)) met' gens' all')
    (d := (((), ((), ((), ()))), G, l, p.1, t11, a12, a13, G, (G.length : Int), 0, met, gens, all, ()))
    ⟨0, met, gens, all, rfl, Nat.zero_le _, by
      have : (fun y => S y ∨ ∃ q x, dn (G.take 0) q ∧ dn l x ∧ y = cj x (cm p q)) = S := funext fun y => propext ⟨fun h => h.elim id (fun ⟨q, x, hx, _⟩ => absurd hx (q49 q)), .inl⟩
      rw [this]; exact h⟩ (by simp only; omega) (by
      rintro d ⟨i, met, gens, all, rfl, h1, h2⟩
      by_cases c1 : i < G.length
      · obtain ⟨q, eq, hq⟩ := q47 (hk := hk) hG c1
        have ec := q45 hn p q
        obtain ⟨met', gens', all', e, q5⟩ := q5l hn (t1 := G) (t11 := t11) (t17 := G) hl hll p (cm p q) (a12 := a12) (a13 := a13) (a18 := (G.length : Int)) (a19 := (i : Int)) h2
        refine .inl ⟨(((), ((), ((), ()))), G, l, p.1, t11, a12, a13, G, (G.length : Int), ((i + 1 : Nat) : Int), met', gens', all', ()), ?_, ⟨i + 1, met', gens', all', rfl, c1, ?_⟩, by simp only; omega⟩
        · simp (disch := first | assumption | omega) only [zA, zB, zC, zD, zE, zF, zG, qxi, qxc, qxd, zH, zI, dpos, dneg, zJ, zK, zL, zM, zN, zO, zP, qev, qeu, qxk, eq, ec, e, up1]
        · have : (fun y => S y ∨ ∃ q x, dn (G.take (i + 1)) q ∧ dn l x ∧ y = cj x (cm p q)) = fun y => (S y ∨ ∃ q x, dn (G.take i) q ∧ dn l x ∧ y = cj x (cm p q)) ∨ ∃ x, dn l x ∧ y = cj x (cm p q) := funext fun y => propext (by
            constructor
            · rintro (h | ⟨z, x, hz, hx, rfl⟩)
              · exact .inl (.inl h)
              · rcases (q48 c1 eq z).1 hz with h | rfl
                · exact .inl (.inr ⟨z, x, h, hx, rfl⟩)
                · exact .inr ⟨x, hx, rfl⟩
            · rintro ((h | ⟨z, x, hz, hx, rfl⟩) | ⟨x, hx, rfl⟩)
              · exact .inl h
              · exact .inr ⟨z, x, (q48 c1 eq z).2 (.inl hz), hx, rfl⟩
              · exact .inr ⟨q, x, (q48 c1 eq q).2 (.inr rfl), hx, rfl⟩)
          rw [this]; exact q5
      · obtain rfl : i = G.length := by omega
        rw [List.take_length] at h2
        refine .inr ⟨_, ?_, met, gens, all, rfl, h2⟩
        simp (disch := first | assumption | omega) only [zA, zB, zC, zD, zE, zF, zG, qxi, qxc, qxd, zH, zI, dpos, dneg, zJ, zK, zL, zM, zN, zO, zP, qev, qeu])
  exact ⟨met', gens', all', e, h2⟩
theorem q5n (hn : Fu n) {l G : List (List Int)} (hl : ∀ p ∈ l, PK k p) (hll : l.length ≤ 1000000000) (hG : ∀ p ∈ G, PK k p) (hGl : G.length ≤ 1000000000) {met : Option KS} {gens all : List (List Int)} (h : Gw hk (fun _ => False) met gens all) :
    ∃ met' gens' all', iterN (qex n) n (((), ((), ((), ()))), G, l, G, (G.length : Int), 0, met, gens, all, ()) = some (.inl (met', gens', all', ())) ∧ Gw hk (fun y => ∃ p q x, dn G p ∧ dn G q ∧ dn l x ∧ y = cj x (cm p q)) met' gens' all' := by
  obtain ⟨r, e, met', gens', all', rfl, h2⟩ := qw8 (f := qex n) hn
    (fun d => ∃ (i : Nat) (met : Option KS) (gens all : List (List Int)), d = (((), ((), ((), ()))), G, l, G, (G.length : Int), (i : Int), met, gens, all, ()) ∧ i ≤ G.length ∧ Gw hk (fun y => ∃ p q x, dn (G.take i) p ∧ dn G q ∧ dn l x ∧ y = cj x (cm p q)) met gens all)
    (fun d => ((G.length : Int) - d.2.2.2.2.2.1).toNat)
    (fun r => ∃ met' gens' all', r = .inl (met', gens', all', ()) ∧ Gw hk (fun y => ∃ p q x, dn G p ∧ dn G q ∧ dn l x ∧ y = cj x (cm p q)) met' gens' all')
    (d := (((), ((), ((), ()))), G, l, G, (G.length : Int), 0, met, gens, all, ()))
    ⟨0, met, gens, all, rfl, Nat.zero_le _, by
      have : (fun y => ∃ p q x, dn (G.take 0) p ∧ dn G q ∧ dn l x ∧ y = cj x (cm p q)) = fun _ => False := funext fun (y : Pm k hk) => propext ⟨fun ⟨p, q, x, hx, _⟩ => absurd hx (q49 p), False.elim⟩
      rw [this]; exact h⟩ (by simp only; omega) (by
      rintro d ⟨i, met, gens, all, rfl, h1, h2⟩
      by_cases c1 : i < G.length
      · obtain ⟨p, ep, hp⟩ := q47 (hk := hk) hG c1
        obtain ⟨met', gens', all', e, q5⟩ := q5m hn (t11 := G) hl hll hG hGl p (a12 := (G.length : Int)) (a13 := (i : Int)) h2
        refine .inl ⟨(((), ((), ((), ()))), G, l, G, (G.length : Int), ((i + 1 : Nat) : Int), met', gens', all', ()), ?_, ⟨i + 1, met', gens', all', rfl, c1, ?_⟩, by simp only; omega⟩
        · simp (disch := first | assumption | omega) only [zA, zB, zC, zD, zE, zF, zG, qxi, qxc, qxd, zH, zI, dpos, dneg, zJ, zK, zL, zM, zN, zO, zP, qex, qew, qxk, ep, e, up1]
        · have : (fun y => ∃ p q x, dn (G.take (i + 1)) p ∧ dn G q ∧ dn l x ∧ y = cj x (cm p q)) = fun y => (∃ p q x, dn (G.take i) p ∧ dn G q ∧ dn l x ∧ y = cj x (cm p q)) ∨ ∃ q x, dn G q ∧ dn l x ∧ y = cj x (cm p q) := funext fun y => propext (by
            constructor
            · rintro ⟨z, q, x, hz, hq, hx, rfl⟩
              rcases (q48 c1 ep z).1 hz with h | rfl
              · exact .inl ⟨z, q, x, h, hq, hx, rfl⟩
              · exact .inr ⟨q, x, hq, hx, rfl⟩
            · rintro (⟨z, q, x, hz, hq, hx, rfl⟩ | ⟨q, x, hq, hx, rfl⟩)
              · exact ⟨z, q, x, (q48 c1 ep z).2 (.inl hz), hq, hx, rfl⟩
              · exact ⟨p, q, x, (q48 c1 ep p).2 (.inr rfl), hq, hx, rfl⟩)
          rw [this]; exact q5
      · obtain rfl : i = G.length := by omega
        rw [List.take_length] at h2
        refine .inr ⟨_, ?_, met, gens, all, rfl, h2⟩
        simp (disch := first | assumption | omega) only [zA, zB, zC, zD, zE, zF, zG, qxi, qxc, qxd, zH, zI, dpos, dneg, zJ, zK, zL, zM, zN, zO, zP, qex, qew])
  exact ⟨met', gens', all', e, h2⟩
theorem q5o (hn : Fw n) {H : Pm k hk → Prop} (hH : Sub H) : qe0 n (can H) = some (can (Dr H), ()) := by
  obtain ⟨G, e1, q1, q2, q3, q4, q5⟩ := q5k hn hH
  have h0 := q5a hH
  have e0 : idx (can H) 0 = some (row (can H) 0) := qxk (u := 0) h0
  have el : (((row (can H) 0).length : Nat) : Int) = (k : Int) := by rw [q5b hH]
  have eid := qyg hn.fu k hk.1 hk.2
  have hcl := q4g (H := H)
  obtain ⟨met, e2, h2⟩ := Gw.start hn.fu hk
  obtain ⟨met', gens', all', e3, h3⟩ := q5n hn.fu (l := can H) q4f (by omega) q1 (by omega) h2
  have e4 := h3.sorted hn
  have e5 : can (hk := hk) (Cl (fun y => ∃ p q x, dn G p ∧ dn G q ∧ dn (can H) x ∧ y = cj x (cm p q))) = can (Dr H) := by
    have e6 : (fun y => ∃ p q x, dn G p ∧ dn G q ∧ dn (can H) x ∧ y = cj x (cm p q)) = fun y => ∃ a b x, dn G a ∧ dn G b ∧ Cl (dn G) x ∧ y = cj x (cm a b) := funext fun (y : Pm k hk) => propext (by
      constructor
      · rintro ⟨p, q, x, hp, hq, hx, rfl⟩; exact ⟨p, q, x, hp, hq, (q2 x).2 (q4j.1 hx), rfl⟩
      · rintro ⟨p, q, x, hp, hq, hx, rfl⟩; exact ⟨p, q, x, hp, hq, q4j.2 ((q2 x).1 hx), rfl⟩)
    have e7 : Cl (dn G) = H := funext fun x => propext (q2 x)
    rw [e6]
    refine q4h (fun x => ?_)
    rw [Dr.gens, e7]
  rw [e5] at e4
  simp (disch := first | assumption | omega) only [zA, zB, zC, zD, zE, zF, zG, qxi, qxc, qxd, zH, zI, dpos, dneg, zJ, zK, zL, zM, zN, zO, zP, qe0, e1, e0, el, qez, eid, e2, qey, e3, e4]
end Go.Proofs.Ytemejeiajekmcaa.V
namespace Go.Proofs.Ytemejeiajekmcaa.V
open Go Classical Grp
set_option linter.unusedVariables false
set_option linter.all false
variable {n : Nat} {k : Nat} {hk : 1 ≤ k ∧ k ≤ 7}
theorem q5p (hn : Fu n) (H : Pm k hk → Prop) : qea n (can H) = some (can H, ()) :=
  qyt hn _ (by have := q4g (H := H); omega) q4w
theorem q5q (hn : Fw n) {H : Pm k hk → Prop} (hH : Sub H) : qe1 n (can H) = some (can (Dr H), 0, ()) := by
  simp (disch := first | assumption | omega) only [zA, zB, zC, zD, zE, zF, zG, qxi, qxc, qxd, zH, zI, dpos, dneg, zJ, zK, zL, zM, zN, zO, zP, qe1, q5g hn hH, q5o hn hH, q5p hn.fu]
noncomputable def ser : Nat → (Pm k hk → Prop) → List (List (List Int))
  | 0, _ => []
  | m + 1, H => if (can (Dr H)).length = (can H).length then [] else can (Dr H) :: ser m (Dr H)
theorem Dr.len {H : Pm k hk → Prop} (hH : Sub H) : (can (Dr H)).length ≤ (can H).length :=
  qyw can_asc.nodup (fun p hp => by
    obtain ⟨h, hp⟩ := q4d.1 hp
    exact q4d.2 ⟨h, Dr.le hH hp⟩)
theorem q5r : ∀ (m : Nat) (H : Pm k hk → Prop), (ser m H).length ≤ m
  | 0, _ => Nat.zero_le _
  | m + 1, H => by
    unfold ser
    by_cases c : (can (Dr H)).length = (can H).length
    · rw [if_pos c]; exact Nat.zero_le _
    · rw [if_neg c, List.length_cons]; have := q5r m (Dr H); omega
noncomputable def q5s (H : Pm k hk → Prop) : List (List (List Int)) := can H :: ser (can H).length H
theorem q5t (H : Pm k hk → Prop) : (q5s H).length ≤ 5041 := by
  unfold q5s; rw [List.length_cons]
  have := q5r (can H).length H
  have := q4g (H := H); omega
theorem q5u {D O : Type} {f : D → Option (D ⊕ O)} (hn : Fu n) (st : (Pm k hk → Prop) → List (List (List Int)) → D) (r : List (List (List Int)) → O)
    (hstep : ∀ (H : Pm k hk → Prop) out, Sub H → out.length ≤ 5041 → f (st H out) = if (can (Dr H)).length = (can H).length then some (.inr (r out)) else some (.inl (st (Dr H) (out ++ [can (Dr H)])))) {H : Pm k hk → Prop} (hH : Sub H) :
    iterN f n (st H [can H]) = some (r (q5s H)) := by
  obtain ⟨r', e, rfl⟩ := q34 (f := f) hn
    (fun (g : Nat × (Pm k hk → Prop)) d => ∃ out, d = st g.2 out ∧ Sub g.2 ∧ out ++ ser g.1 g.2 = q5s H ∧ (can g.2).length ≤ g.1)
    (fun g => g.1)
    (fun r' => r' = r (q5s H))
    ((can H).length, H) (d := st H [can H])
    ⟨[can H], rfl, hH, rfl, Nat.le_refl _⟩ (by simp only; have := q4g (H := H); omega) (by
      rintro ⟨m, K⟩ d ⟨out, rfl, h1, h2, h3⟩
      have hs := hstep K out h1 (by
        have := q5t H
        rw [← h2, List.length_append] at this
        omega)
      have hp : 0 < (can K).length := q5a h1
      have h3 : (can K).length ≤ m := h3
      cases m with
      | zero => omega
      | succ m =>
        unfold ser at h2
        simp only at h2
        by_cases c : (can (Dr K)).length = (can K).length
        · rw [if_pos c] at hs h2
          rw [List.append_nil] at h2
          exact .inr ⟨_, hs, by rw [h2]⟩
        · rw [if_neg c] at hs h2
          have h4 : (can (Dr K)).length ≤ (can K).length := Dr.len h1
          exact .inl ⟨_, (m, Dr K), hs, ⟨_, rfl, Dr.sub K, by rw [List.append_assoc]; exact h2, show (can (Dr K)).length ≤ m by omega⟩, Nat.lt_succ_self m⟩)
  exact e
theorem q5v (hn : Fw n) {H : Pm k hk → Prop} (hH : Sub H) : qe4 n (can H) = some (q5s H, 0, ()) := by
  have e := q5u (f := qe3 n) hn.fu (fun K out => (can K, out, ())) (fun out => .inl (out, 0, ())) (fun K out hK ho => by
    have e1 := q5o hn hK
    have e2 := q5p hn.fu (Dr K)
    have hl : ([can (Dr K)] : List (List (List Int))).length = 1 := rfl
    by_cases c : (can (Dr K)).length = (can K).length
    · rw [if_pos c]
      simp (disch := first | assumption | omega) only [zA, zB, zC, zD, zE, zF, zG, qxi, qxc, qxd, zH, zI, dpos, dneg, zJ, zK, zL, zM, zN, zO, zP, qe3, qe2, e1]
    · rw [if_neg c]
      simp (disch := first | assumption | omega) only [zA, zB, zC, zD, zE, zF, zG, qxi, qxc, qxd, zH, zI, dpos, dneg, zJ, zK, zL, zM, zN, zO, zP, qe3, qe2, e1, e2]) hH
  simp (disch := first | assumption | omega) only [zA, zB, zC, zD, zE, zF, zG, qxi, qxc, qxd, zH, zI, dpos, dneg, zJ, zK, zL, zM, zN, zO, zP, qe4, q5g hn hH, q5p hn.fu, e]
theorem q5w (H : Pm k hk → Prop) : ∃ l, idx (q5s H) (IntKind.i64.wrap (((q5s H).length : Int) - 1)) = some l ∧ l ∈ q5s H := by
  have h1 : 1 ≤ (q5s H).length := by unfold q5s; rw [List.length_cons]; omega
  have h2 := q5t H
  rw [Srt.dn1 h1 (by omega)]
  have hlt : (q5s H).length - 1 < (q5s H).length := by omega
  refine ⟨(q5s H)[(q5s H).length - 1], ?_, List.getElem_mem _⟩
  unfold idx
  rw [if_pos (by omega), Int.toNat_natCast, List.getElem?_eq_getElem hlt]
noncomputable def solv (H : Pm k hk → Prop) : Bool := decide ((((q5s H).getLast?.getD []).length : Int) = 1)
theorem q5x {H : Pm k hk → Prop} {l} (h : idx (q5s H) (IntKind.i64.wrap (((q5s H).length : Int) - 1)) = some l) : decide ((l.length : Int) = 1) = solv H := by
  have h1 : 1 ≤ (q5s H).length := by unfold q5s; rw [List.length_cons]; omega
  have h2 := q5t H
  rw [Srt.dn1 h1 (by omega)] at h
  unfold idx at h
  rw [if_pos (by omega), Int.toNat_natCast] at h
  unfold solv
  rw [List.getLast?_eq_getElem?, h]
  rfl
theorem q5y (hn : Fw n) {H : Pm k hk → Prop} (hH : Sub H) : qfp n (can H) = some (solv H, 0, ()) := by
  obtain ⟨l, e, hl⟩ := q5w H
  simp (disch := first | assumption | omega) only [zA, zB, zC, zD, zE, zF, zG, qxi, qxc, qxd, zH, zI, dpos, dneg, zJ, zK, zL, zM, zN, zO, zP, qfp, q5v hn hH, e, q5x e]
theorem q5z (hn : Fu n) (gens : List (List Int)) : ∃ l b, qbd n gens = some (l, (b, ())) ∧ (b = true → GV gens ∧ gens.length ≤ 30 ∧ ∀ (k : Nat) (hk : 1 ≤ k ∧ k ≤ 7), (∀ g ∈ gens, PK k g) → l = can (hk := hk) (Cl (dn gens)) ∧ l.length ≤ 360) := by
  have f := qx8 hn gens 30 (by decide)
  by_cases h0 : (gens.length : Int) ≤ 30 ∧ ∀ i, i < gens.length → (row gens i).length ≤ 100
  · rw [decide_eq_true h0] at f
    have g := qx4 hn gens
    by_cases h1 : GV gens
    · rw [decide_eq_true h1] at g
      obtain ⟨k, hk, hG⟩ := h1.pk
      have e := q4r (hk := hk) hn hG h1.1 (by have := h1.2.1; omega)
      refine ⟨can (hk := hk) (Cl (dn gens)), decide (((can (hk := hk) (Cl (dn gens))).length : Int) ≤ 360), by simp (disch := first | assumption | omega) only [zA, zB, zC, zD, zE, zF, zG, qxi, qxc, qxd, zH, zI, dpos, dneg, zJ, zK, zL, zM, zN, zO, zP, qbd, f, g, e], fun hb => ⟨h1, by omega, fun k' hk' hG' => ?_⟩⟩
      rw [decide_eq_true_eq] at hb
      have hr := qxj h1.1
      obtain rfl := (hG _ hr).uniq (hG' _ hr)
      exact ⟨rfl, by omega⟩
    · rw [decide_eq_false h1] at g
      exact ⟨[], false, by simp (disch := first | assumption | omega) only [zA, zB, zC, zD, zE, zF, zG, qxi, qxc, qxd, zH, zI, dpos, dneg, zJ, zK, zL, zM, zN, zO, zP, qbd, f, g], fun h => nomatch h⟩
  · rw [decide_eq_false h0] at f
    exact ⟨[], false, by simp (disch := first | assumption | omega) only [zA, zB, zC, zD, zE, zF, zG, qxi, qxc, qxd, zH, zI, dpos, dneg, zJ, zK, zL, zM, zN, zO, zP, qbd, f], fun h => nomatch h⟩
theorem q50 {P : Nat → Prop} (h : ∀ n, Fw n → P n) : ∃ n, P n := ⟨_, h (1180591620717411303424 + 1099511627776) (Nat.le_refl _)⟩
end Go.Proofs.Ytemejeiajekmcaa.V
namespace Go.Proofs.Ytemejeiajekmcaa.V
open Go Classical Grp
set_option linter.unusedVariables false
set_option linter.all false
variable {n : Nat} {k : Nat} {hk : 1 ≤ k ∧ k ≤ 7}
theorem q51 (hn : Fu n) (p q : List Int) (hp : p.length ≤ 1000000000) : qfs n p q = some (decide (p = q), ()) := by
  by_cases hl : p.length = q.length
  · have g : iterN (qfr n) n (p, q, (p.length : Int), 0, ()) = some (if ∀ i, i < p.length → rd p (i : Int) = rd q (i : Int) then .inr (.inl ()) else .inl (false, ())) := by
      refine (qw5 (f := qfr n) hn (fun i => (p, q, (p.length : Int), (i : Int), ())) p.length (fun i => rd p (i : Int) = rd q (i : Int)) (d := (p, q, (p.length : Int), 0, ())) (r := .inr (.inl ())) (r' := .inl (false, ())) (by omega) rfl (fun i hi _ hp => ?_) (fun i hi _ hp => ?_) (fun _ => ?_)).trans (by congr)
      · simp (disch := first | assumption | omega) only [zA, zB, zC, zD, zE, zF, zG, qxi, qxc, qxd, zH, zI, dpos, dneg, zJ, zK, zL, zM, zN, zO, zP, qfr, qfq, qxl, hp, up1]
      · simp (disch := first | assumption | omega) only [zA, zB, zC, zD, zE, zF, zG, qxi, qxc, qxd, zH, zI, dpos, dneg, zJ, zK, zL, zM, zN, zO, zP, qfr, qfq, qxl, up1]
      · simp (disch := first | assumption | omega) only [zA, zB, zC, zD, zE, zF, zG, qxi, qxc, qxd, zH, zI, dpos, dneg, zJ, zK, zL, zM, zN, zO, zP, qfr, qfq]
    by_cases e : p = q
    · rw [if_pos (fun i hi => by rw [e])] at g
      subst e
      simp (disch := first | assumption | omega) only [zA, zB, zC, zD, zE, zF, zG, qxi, qxc, qxd, zH, zI, dpos, dneg, zJ, zK, zL, zM, zN, zO, zP, qfs, g]
    · rw [if_neg (fun h => e (q3b hl h))] at g
      rw [decide_eq_false e]
      simp (disch := first | assumption | omega) only [zA, zB, zC, zD, zE, zF, zG, qxi, qxc, qxd, zH, zI, dpos, dneg, zJ, zK, zL, zM, zN, zO, zP, qfs, g]
  · rw [decide_eq_false (fun e => hl (by rw [e]))]
    simp (disch := first | assumption | omega) only [zA, zB, zC, zD, zE, zF, zG, qxi, qxc, qxd, zH, zI, dpos, dneg, zJ, zK, zL, zM, zN, zO, zP, qfs]
theorem q52 {l : List (List Int)} {p : List Int} : p ∈ l ↔ ∃ i, i < l.length ∧ row l i = p := by
  constructor
  · intro h
    obtain ⟨i, hi, e⟩ := List.getElem_of_mem h
    exact ⟨i, hi, by unfold row; rw [List.getD_eq_getElem?_getD, List.getElem?_eq_getElem hi]; exact e⟩
  · rintro ⟨i, hi, rfl⟩; exact qxj hi
theorem q53 : @qfe = @qby := rfl
theorem q54 (hn : Fu n) {m : KS} {H : Pm k hk → Prop} (h : KSet hk m H) (x : Pm k hk) : qff n x.1 (some m) = some (!decide (H x), ()) := by
  have e := h.look x
  by_cases c : H x
  · rw [decide_eq_true c] at e ⊢
    simp (disch := first | assumption | omega) only [zA, zB, zC, zD, zE, zF, zG, qxi, qxc, qxd, zH, zI, dpos, dneg, zJ, zK, zL, zM, zN, zO, zP, qff, q5j hn x, e]
  · rw [decide_eq_false c] at e ⊢
    simp (disch := first | assumption | omega) only [zA, zB, zC, zD, zE, zF, zG, qxi, qxc, qxd, zH, zI, dpos, dneg, zJ, zK, zL, zM, zN, zO, zP, qff, q5j hn x, e]
theorem q55 (hn : Fu n) {m : KS} {H K : Pm k hk → Prop} (h : KSet hk m H) : qfj n (can K) (some m, ()) = some (!decide (∀ x, K x → H x), ()) := by
  have hl := q4g (H := K)
  rcases qw6 (f := qfh n) hn (fun i => (can K, (some m, ()), ((can K).length : Int), (i : Int), ())) (can K).length (fun i => ∀ x : Pm k hk, row (can K) i = x.1 → H x) (d := (can K, (some m, ()), ((can K).length : Int), 0, ())) (r := .inr (.inl ())) (r' := fun i => .inl ((i : Int), ())) (by omega) rfl (fun i hi _ hp => by
      obtain ⟨x, ex, hx⟩ := q47 (hk := hk) (q4f (H := K)) hi
      have e := q54 hn h x
      rw [decide_eq_true (hp x ex)] at e
      simp (disch := first | assumption | omega) only [zA, zB, zC, zD, zE, zF, zG, qxi, qxc, qxd, zH, zI, dpos, dneg, zJ, zK, zL, zM, zN, zO, zP, qfh, qfg, qxk, ex, e, up1]) (fun i hi _ hp => by
      obtain ⟨x, ex, hx⟩ := q47 (hk := hk) (q4f (H := K)) hi
      have e := q54 hn h x
      rw [decide_eq_false (fun h2 => hp (fun z hz => by
        have : z = x := Pm.ext (hz.symm.trans ex)
        rw [this]; exact h2))] at e
      simp (disch := first | assumption | omega) only [zA, zB, zC, zD, zE, zF, zG, qxi, qxc, qxd, zH, zI, dpos, dneg, zJ, zK, zL, zM, zN, zO, zP, qfh, qfg, qxk, ex, e, up1]) (fun _ => by
      simp (disch := first | assumption | omega) only [zA, zB, zC, zD, zE, zF, zG, qxi, qxc, qxd, zH, zI, dpos, dneg, zJ, zK, zL, zM, zN, zO, zP, qfh, qfg]) with ⟨ha, e⟩ | ⟨i, hi, _, hp, e⟩
  · have : ∀ x, K x → H x := fun x hx => by
      obtain ⟨i, hi, e⟩ := q52.1 (q4e.2 hx)
      exact ha i hi x e
    rw [decide_eq_true this]
    have z : ¬ (0 : Int) ≤ -1 := by decide
    simp (disch := first | assumption | omega) only [zA, zB, zC, zD, zE, zF, zG, qxi, qxc, qxd, zH, zI, dpos, dneg, zJ, zK, zL, zM, zN, zO, zP, qfj, qfi, e, z]
  · rw [decide_eq_false (fun h2 => hp (fun x ex => h2 x (q4e.1 (ex ▸ qxj hi))))]
    simp (disch := first | assumption | omega) only [zA, zB, zC, zD, zE, zF, zG, qxi, qxc, qxd, zH, zI, dpos, dneg, zJ, zK, zL, zM, zN, zO, zP, qfj, qfi, e]
theorem q56 (hn : Fw n) {H K : Pm k hk → Prop} (hH : Sub H) (hK : Sub K) : qfo n (can H) (can K) = some (if ∀ x, K x → H x then (decide (Norm H K), 0, ()) else (false, 2, ())) := by
  have hl := q4g (H := H)
  have hl' := q4g (H := K)
  have e0 : idx (can H) 0 = some (row (can H) 0) := qxk (u := 0) (q5a hH)
  have e1 : idx (can K) 0 = some (row (can K) 0) := qxk (u := 0) (q5a hK)
  have hll : (row (can H) 0).length = (row (can K) 0).length := by rw [q5b hH, q5b hK]
  obtain ⟨m1, s1, h1⟩ := q5i (hk := hk) hn.fu (l := can H) (by omega) q4f
  obtain ⟨m2, s2, h2⟩ := q5i (hk := hk) hn.fu (l := can K) (by omega) q4f
  have h1 : KSet hk m1 H := ⟨h1.1, fun x => (h1.2 x).trans q4j⟩
  have h2 : KSet hk m2 K := ⟨h2.1, fun x => (h2.2 x).trans q4j⟩
  have ec := q55 hn.fu (K := K) h1
  by_cases c : ∀ x, K x → H x
  · rw [if_pos c]
    rw [decide_eq_true c] at ec
    obtain ⟨G, f1, q1, q2, q3, q4, q5⟩ := q5k hn hH
    obtain ⟨G', f1', q1', q2', q3', q4', q5'⟩ := q5k hn hK
    have inner : ∀ (x : Pm k hk) (a : List (List Int)) (b d : Int), iterN (qfl n) n (can K, some m2, x.1, a, b, d, G', (G'.length : Int), 0, ()) = some (if ∀ j, j < G'.length → ∀ y : Pm k hk, row G' j = y.1 → K (cj x y) then .inr (.inl (can K, some m2, a, b, d, ())) else .inl (false, 0, ())) := by
      intro x a b d
      refine (qw5 (f := qfl n) hn.fu (fun j => (can K, some m2, x.1, a, b, d, G', (G'.length : Int), (j : Int), ())) G'.length (fun j => ∀ y : Pm k hk, row G' j = y.1 → K (cj x y)) (r := .inr (.inl (can K, some m2, a, b, d, ()))) (r' := .inl (false, 0, ())) (by omega) rfl (fun j hj _ hp => ?_) (fun j hj _ hp => ?_) (fun _ => ?_)).trans (by congr)
      · obtain ⟨y, ey, hy⟩ := q47 (hk := hk) q1' hj
        have ec := q46 hn.fu y x
        have el := h2.look (cj x y)
        rw [decide_eq_true (hp y ey)] at el
        simp (disch := first | assumption | omega) only [zA, zB, zC, zD, zE, zF, zG, qxi, qxc, qxd, zH, zI, dpos, dneg, zJ, zK, zL, zM, zN, zO, zP, qfl, qfk, qxk, ey, ec, q5j hn.fu, el, up1]
      · obtain ⟨y, ey, hy⟩ := q47 (hk := hk) q1' hj
        have ec := q46 hn.fu y x
        have el := h2.look (cj x y)
        rw [decide_eq_false (fun h => hp (fun z hz => by
          have : z = y := Pm.ext (hz.symm.trans ey)
          rw [this]; exact h))] at el
        simp (disch := first | assumption | omega) only [zA, zB, zC, zD, zE, zF, zG, qxi, qxc, qxd, zH, zI, dpos, dneg, zJ, zK, zL, zM, zN, zO, zP, qfl, qfk, qxk, ey, ec, q5j hn.fu, el, up1]
      · simp (disch := first | assumption | omega) only [zA, zB, zC, zD, zE, zF, zG, qxi, qxc, qxd, zH, zI, dpos, dneg, zJ, zK, zL, zM, zN, zO, zP, qfl, qfk]
    have outer : iterN (qfn n) n (can K, some m2, G, (G.length : Int), 0, ()) = some (if ∀ i, i < G.length → ∀ x : Pm k hk, row G i = x.1 → ∀ j, j < G'.length → ∀ y : Pm k hk, row G' j = y.1 → K (cj x y) then .inr (.inl ()) else .inl (false, 0, ())) := by
      refine (qw5 (f := qfn n) hn.fu (fun i => (can K, some m2, G, (G.length : Int), (i : Int), ())) G.length (fun i => ∀ x : Pm k hk, row G i = x.1 → ∀ j, j < G'.length → ∀ y : Pm k hk, row G' j = y.1 → K (cj x y)) (d := (can K, some m2, G, (G.length : Int), 0, ())) (r := .inr (.inl ())) (r' := .inl (false, 0, ())) (by omega) rfl (fun i hi _ hp => ?_) (fun i hi _ hp => ?_) (fun _ => ?_)).trans (by congr)
      · obtain ⟨x, ex, hx⟩ := q47 (hk := hk) q1 hi
        have e := inner x G (G.length : Int) (i : Int)
        rw [if_pos (hp x ex)] at e
        simp (disch := first | assumption | omega) only [zA, zB, zC, zD, zE, zF, zG, qxi, qxc, qxd, zH, zI, dpos, dneg, zJ, zK, zL, zM, zN, zO, zP, qfn, qfm, qxk, ex, f1', e, up1]
      · obtain ⟨x, ex, hx⟩ := q47 (hk := hk) q1 hi
        have e := inner x G (G.length : Int) (i : Int)
        rw [if_neg (fun h => hp (fun z hz => by
          have : z = x := Pm.ext (hz.symm.trans ex)
          rw [this]; exact h))] at e
        simp (disch := first | assumption | omega) only [zA, zB, zC, zD, zE, zF, zG, qxi, qxc, qxd, zH, zI, dpos, dneg, zJ, zK, zL, zM, zN, zO, zP, qfn, qfm, qxk, ex, f1', e]
      · simp (disch := first | assumption | omega) only [zA, zB, zC, zD, zE, zF, zG, qxi, qxc, qxd, zH, zI, dpos, dneg, zJ, zK, zL, zM, zN, zO, zP, qfn, qfm]
    have hiff : (∀ i, i < G.length → ∀ x : Pm k hk, row G i = x.1 → ∀ j, j < G'.length → ∀ y : Pm k hk, row G' j = y.1 → K (cj x y)) ↔ Norm H K := by
      constructor
      · intro h
        have := q0i (S := dn G) (T := dn G') (N := K) hK (fun p hp => (q2' p).2 hp) (fun c p hc hp => by
          obtain ⟨i, hi, e1⟩ := q52.1 hc
          obtain ⟨j, hj, e2⟩ := q52.1 hp
          exact h i hi c e1 j hj p e2)
        exact fun c p hc hp => this c p ((q2 c).2 hc) hp
      · intro h i hi x ex j hj y ey
        exact h x y (q3 x (show x.1 ∈ G from ex ▸ qxj hi)) (q3' y (show y.1 ∈ G' from ey ▸ qxj hj))
    by_cases c2 : Norm H K
    · rw [if_pos (hiff.2 c2)] at outer
      rw [decide_eq_true c2]
      simp (disch := first | assumption | omega) only [zA, zB, zC, zD, zE, zF, zG, qxi, qxc, qxd, zH, zI, dpos, dneg, zJ, zK, zL, zM, zN, zO, zP, qfo, q5g hn hH, q5g hn hK, q53, s1, s2, e0, e1, hll, ec, f1, outer]
    · rw [if_neg (fun h => c2 (hiff.1 h))] at outer
      rw [decide_eq_false c2]
      simp (disch := first | assumption | omega) only [zA, zB, zC, zD, zE, zF, zG, qxi, qxc, qxd, zH, zI, dpos, dneg, zJ, zK, zL, zM, zN, zO, zP, qfo, q5g hn hH, q5g hn hK, q53, s1, s2, e0, e1, hll, ec, f1, outer]
  · rw [if_neg c]
    rw [decide_eq_false c] at ec
    simp (disch := first | assumption | omega) only [zA, zB, zC, zD, zE, zF, zG, qxi, qxc, qxd, zH, zI, dpos, dneg, zJ, zK, zL, zM, zN, zO, zP, qfo, q5g hn hH, q5g hn hK, q53, s1, s2, e0, e1, hll, ec]
def Zt (H : Pm k hk → Prop) : Pm k hk → Prop := fun x => H x ∧ ∀ y, H y → x * y = y * x
theorem Pm.dec_eq {x y : Pm k hk} : x.1 = y.1 ↔ x = y := ⟨Pm.ext, fun h => by rw [h]⟩
theorem q57 (hn : Fu n) (q x : Pm k hk) : qft n q.1 x.1 = some (!decide (x * q = q * x), ()) := by
  have e := q51 hn (x * q).1 (q * x).1 (by have := (x * q).2.2; omega)
  by_cases c : x * q = q * x
  · rw [decide_eq_true (Pm.dec_eq.2 c)] at e
    rw [decide_eq_true c]
    simp (disch := first | assumption | omega) only [zA, zB, zC, zD, zE, zF, zG, qxi, qxc, qxd, zH, zI, dpos, dneg, zJ, zK, zL, zM, zN, zO, zP, qft, q4l hn, e]
  · rw [decide_eq_false (fun h => c (Pm.dec_eq.1 h))] at e
    rw [decide_eq_false c]
    simp (disch := first | assumption | omega) only [zA, zB, zC, zD, zE, zF, zG, qxi, qxc, qxd, zH, zI, dpos, dneg, zJ, zK, zL, zM, zN, zO, zP, qft, q4l hn, e]
theorem q58 (hn : Fu n) {G : List (List Int)} (hG : ∀ p ∈ G, PK k p) (hGl : G.length ≤ 1000000000) (x : Pm k hk) : qfx n G (x.1, ()) = some (!decide (∀ q : Pm k hk, dn G q → x * q = q * x), ()) := by
  rcases qw6 (f := qfv n) hn (fun i => (G, (x.1, ()), (G.length : Int), (i : Int), ())) G.length (fun i => ∀ q : Pm k hk, row G i = q.1 → x * q = q * x) (d := (G, (x.1, ()), (G.length : Int), 0, ())) (r := .inr (.inl ())) (r' := fun i => .inl ((i : Int), ())) (by omega) rfl (fun i hi _ hp => by
      obtain ⟨q, eq, hq⟩ := q47 (hk := hk) hG hi
      have e := q57 hn q x
      rw [decide_eq_true (hp q eq)] at e
      simp (disch := first | assumption | omega) only [zA, zB, zC, zD, zE, zF, zG, qxi, qxc, qxd, zH, zI, dpos, dneg, zJ, zK, zL, zM, zN, zO, zP, qfv, qfu, qxk, eq, e, up1]) (fun i hi _ hp => by
      obtain ⟨q, eq, hq⟩ := q47 (hk := hk) hG hi
      have e := q57 hn q x
      rw [decide_eq_false (fun h2 => hp (fun z hz => by
        have : z = q := Pm.ext (hz.symm.trans eq)
        rw [this]; exact h2))] at e
      simp (disch := first | assumption | omega) only [zA, zB, zC, zD, zE, zF, zG, qxi, qxc, qxd, zH, zI, dpos, dneg, zJ, zK, zL, zM, zN, zO, zP, qfv, qfu, qxk, eq, e, up1]) (fun _ => by
      simp (disch := first | assumption | omega) only [zA, zB, zC, zD, zE, zF, zG, qxi, qxc, qxd, zH, zI, dpos, dneg, zJ, zK, zL, zM, zN, zO, zP, qfv, qfu]) with ⟨ha, e⟩ | ⟨i, hi, _, hp, e⟩
  · have : ∀ q : Pm k hk, dn G q → x * q = q * x := fun q hq => by
      obtain ⟨i, hi, e⟩ := q52.1 hq
      exact ha i hi q e
    rw [decide_eq_true this]
    have z : ¬ (0 : Int) ≤ -1 := by decide
    simp (disch := first | assumption | omega) only [zA, zB, zC, zD, zE, zF, zG, qxi, qxc, qxd, zH, zI, dpos, dneg, zJ, zK, zL, zM, zN, zO, zP, qfx, qfw, e, z]
  · rw [decide_eq_false (fun h2 => hp (fun q eq => h2 q (show q.1 ∈ G from eq ▸ qxj hi)))]
    simp (disch := first | assumption | omega) only [zA, zB, zC, zD, zE, zF, zG, qxi, qxc, qxd, zH, zI, dpos, dneg, zJ, zK, zL, zM, zN, zO, zP, qfx, qfw, e]
theorem q59 {α : Type} {l : List α} {i : Nat} (hi : i < l.length) (P : α → Bool) (x : α) (hx : l[i] = x) : (l.take (i + 1)).filter P = (l.take i).filter P ++ (if P x then [x] else []) := by
  rw [List.take_add_one, List.filter_append, List.getElem?_eq_getElem hi, hx]
  congr 1
  by_cases c : P x
  · simp [c]
  · simp [c]
theorem q6a {H : Pm k hk → Prop} {P : List Int → Bool} {K : Pm k hk → Prop} (h : ∀ x : Pm k hk, K x ↔ H x ∧ P x.1 = true) : (can H).filter P = can K :=
  Asc.ext (List.Pairwise.filter _ can_asc) can_asc (fun p => by
    rw [List.mem_filter, q4d, q4d]
    constructor
    · rintro ⟨⟨hp, hx⟩, c⟩; exact ⟨hp, (h ⟨p, hp⟩).2 ⟨hx, c⟩⟩
    · rintro ⟨hp, hx⟩; exact ⟨⟨hp, ((h ⟨p, hp⟩).1 hx).1⟩, ((h ⟨p, hp⟩).1 hx).2⟩)
theorem q6b {l : List (List Int)} {i : Nat} (h : i < l.length) : l[i] = row l i := by unfold row; rw [List.getD_eq_getElem?_getD, List.getElem?_eq_getElem h]; rfl
theorem q6c (hn : Fw n) {H : Pm k hk → Prop} (hH : Sub H) : qf0 n (can H) = some (can (Zt H), 0, ()) := by
  have hl := q4g (H := H)
  obtain ⟨G, f1, q1, q2, q3, q4, q5⟩ := q5k hn hH
  let P : List Int → Bool := fun p => decide (∃ hp : PK k p, ∀ q : Pm k hk, dn G q → Pm.mk p hp * q = q * Pm.mk p hp)
  have hP : ∀ x : Pm k hk, P x.1 = decide (∀ q : Pm k hk, dn G q → x * q = q * x) := fun x => by
    by_cases c : ∀ q : Pm k hk, dn G q → x * q = q * x
    · rw [decide_eq_true c]; exact decide_eq_true ⟨x.2, c⟩
    · rw [decide_eq_false c]; exact decide_eq_false (fun ⟨_, h⟩ => c h)
  have g : iterN (qfz n) n (G, can H, ((can H).length : Int), 0, [], ()) = some (.inl ((can H).filter P, ())) := by
    refine qw4 hn.fu (fun i => (G, can H, ((can H).length : Int), (i : Int), ((can H).take i).filter P, ())) (can H).length (by omega) (by simp) (fun i hi => ?_) ?_
    · obtain ⟨x, ex, hx⟩ := q47 (hk := hk) (q4f (H := H)) hi
      have e := q58 hn.fu q1 (by omega) x
      have ft := q59 hi P x.1 (by rw [q6b hi, ex])
      have hlen : (((can H).take i).filter P).length ≤ 5040 := Nat.le_trans (List.length_filter_le _ _) (by rw [List.length_take]; omega)
      have ecl := qyr (n := n) x.1 (by have := x.2.2; omega)
      rw [hP x] at ft
      by_cases c : ∀ q : Pm k hk, dn G q → x * q = q * x
      · rw [decide_eq_true c] at e
        rw [decide_eq_true c, if_pos rfl] at ft
        rw [ft]
        have hl1 : ([x.1] : List (List Int)).length = 1 := rfl
        simp (disch := first | assumption | omega) only [zA, zB, zC, zD, zE, zF, zG, qxi, qxc, qxd, zH, zI, dpos, dneg, zJ, zK, zL, zM, zN, zO, zP, qfz, qfy, qxk, ex, e, ecl, up1]
      · rw [decide_eq_false c] at e
        rw [decide_eq_false c, if_neg (by decide), List.append_nil] at ft
        rw [ft]
        simp (disch := first | assumption | omega) only [zA, zB, zC, zD, zE, zF, zG, qxi, qxc, qxd, zH, zI, dpos, dneg, zJ, zK, zL, zM, zN, zO, zP, qfz, qfy, qxk, ex, e, up1]
    · rw [List.take_length]
      simp (disch := first | assumption | omega) only [zA, zB, zC, zD, zE, zF, zG, qxi, qxc, qxd, zH, zI, dpos, dneg, zJ, zK, zL, zM, zN, zO, zP, qfz, qfy]
  have e2 : (can H).filter P = can (Zt H) := q6a (fun x => by
    rw [hP x, decide_eq_true_eq]
    exact and_congr Iff.rfl ⟨fun h q hq => h q (q3 q hq), fun h y hy => q0l h ((q2 y).2 hy)⟩)
  rw [e2] at g
  simp (disch := first | assumption | omega) only [zA, zB, zC, zD, zE, zF, zG, qxi, qxc, qxd, zH, zI, dpos, dneg, zJ, zK, zL, zM, zN, zO, zP, qf0, q5g hn hH, f1, g]
def Drn : Nat → (Pm k hk → Prop) → Pm k hk → Prop
  | 0, H => H
  | m + 1, H => Drn m (Dr H)
theorem Drn.sub : ∀ {m : Nat} {H : Pm k hk → Prop}, Sub H → Sub (Drn m H)
  | 0, _, h => h
  | m + 1, H, h => Drn.sub (m := m) (Dr.sub H)
theorem Drn.mono : ∀ {m : Nat} {H K : Pm k hk → Prop}, (∀ x, K x → H x) → ∀ x, Drn m K x → Drn m H x
  | 0, _, _, h => h
  | m + 1, _, _, h => Drn.mono (m := m) (fun x hx => Dr.mono h hx)
theorem Drn.fix : ∀ {m : Nat} {H : Pm k hk → Prop}, (∀ x, H x → Dr H x) → ∀ x, H x → Drn m H x
  | 0, _, _, _, hx => hx
  | m + 1, H, h, x, hx => Drn.fix (m := m) (fun y hy => Dr.mono h hy) x (h x hx)
theorem Drn.add : ∀ {a b : Nat} {H : Pm k hk → Prop}, Drn (a + b) H = Drn b (Drn a H)
  | 0, b, H => by rw [Nat.zero_add]; rfl
  | a + 1, b, H => by rw [Nat.add_right_comm]; exact Drn.add (a := a)
theorem q6d {H : Pm k hk → Prop} (hH : Sub H) : (can H).length = 1 ↔ ∀ x, H x → x = 1 := by
  constructor
  · intro h x hx
    obtain ⟨a, e⟩ := List.length_eq_one_iff.1 h
    have h1 := q4e.2 hx
    have h2 := q4e.2 hH.one
    rw [e, List.mem_singleton] at h1 h2
    exact Pm.ext (h1.trans h2.symm)
  · intro h
    have : can H = [idP k] := Asc.ext can_asc (List.pairwise_singleton _ _) (fun p => by
      rw [List.mem_singleton, q4d]
      constructor
      · rintro ⟨hp, hx⟩; exact congrArg Subtype.val (h _ hx)
      · rintro rfl; exact ⟨(1 : Pm k hk).2, hH.one⟩)
    rw [this]; rfl
theorem q6e {H K : Pm k hk → Prop} (h : ∀ x, K x → H x) (hl : (can K).length = (can H).length) : ∀ x, H x → K x := fun x hx => by
  have hp := qy8 (can_asc (H := K)).nodup (L := can H) (fun p hp => by
    obtain ⟨hp, hx⟩ := q4d.1 hp
    exact q4d.2 ⟨hp, h _ hx⟩) (by omega)
  exact q4e.1 (hp.symm.subset (q4e.2 hx))
theorem q6f : ∀ (m : Nat) (H : Pm k hk → Prop), Sub H → (can H).length ≤ m → ∃ j, (can H :: ser m H).getLast? = some (can (Drn j H)) ∧ ∀ x, Drn j H x → Dr (Drn j H) x
  | 0, H, hH, h => by have := q5a hH; omega
  | m + 1, H, hH, h => by
    unfold ser
    by_cases c : (can (Dr H)).length = (can H).length
    · rw [if_pos c]
      exact ⟨0, rfl, q6e (fun x hx => Dr.le hH hx) c⟩
    · rw [if_neg c]
      have := Dr.len hH
      obtain ⟨j, e, hj⟩ := q6f m (Dr H) (Dr.sub H) (by omega)
      exact ⟨j + 1, by rw [List.getLast?_cons_cons]; exact e, hj⟩
theorem q6g {H : Pm k hk → Prop} (hH : Sub H) : solv H = true ↔ ∃ m, ∀ x, Drn m H x → x = 1 := by
  obtain ⟨j, e, hj⟩ := q6f (can H).length H hH (Nat.le_refl _)
  unfold solv q5s
  rw [e, decide_eq_true_eq]
  show ((can (Drn j H)).length : Int) = 1 ↔ _
  have h1 : ((can (Drn j H)).length : Int) = 1 ↔ (can (Drn j H)).length = 1 := by omega
  rw [h1, q6d (Drn.sub hH)]
  constructor
  · exact fun h => ⟨j, h⟩
  · rintro ⟨m, h⟩ x hx
    have h2 := Drn.fix (m := m) hj x hx
    rw [← Drn.add] at h2
    have : ∀ (a b : Nat) (K : Pm k hk → Prop), Sub K → ∀ x, Drn (a + b) K x → Drn a K x := by
      intro a b K hK
      rw [Drn.add]
      have hs : Sub (Drn a K) := Drn.sub hK
      generalize Drn a K = K' at hs
      induction b generalizing K' with
      | zero => exact fun x h => h
      | succ b ih => exact fun x h => Dr.le hs (ih (Dr K') (Dr.sub _) x h)
    rw [Nat.add_comm] at h2
    exact h x (this m j H hH x h2)
theorem q6h {H K : Pm k hk → Prop} (hH : Sub H) (hK : Sub K) (h : ∀ x, K x → H x) (hs : solv H = true) : solv K = true := by
  obtain ⟨m, hm⟩ := (q6g hH).1 hs
  exact (q6g hK).2 ⟨m, fun x hx => hm x (Drn.mono h x hx)⟩
theorem q6i {a b : Nat} (h : b ∣ a) : Int.tmod (a : Int) (b : Int) = 0 := by
  rw [Int.tmod_eq_emod_of_nonneg (by omega), ← Int.natCast_emod, Nat.mod_eq_zero_of_dvd h]; rfl
theorem q6j {H K : Pm k hk → Prop} (hH : Sub H) (hK : Sub K) (h : ∀ a, K a → H a) : (can K).length ∣ (can H).length := by
  rw [q4i, q4i]; exact q0k hH hK h
theorem q6k {H : Pm k hk → Prop} (hH : Sub H) : decide (((can (Dr H)).length : Int) = 1) = decide (((can (Zt H)).length : Int) = ((can H).length : Int)) := by
  have hi : (can (Dr H)).length = 1 ↔ (can (Zt H)).length = (can H).length := by
    rw [q6d (Dr.sub H)]
    constructor
    · intro h
      rw [q4h (H := Zt H) (K := H) (fun x => ⟨fun hx => hx.1, fun hx => ⟨hx, fun y hy => q0e.1 (h _ (.gen ⟨x, y, hx, hy, rfl⟩))⟩⟩)]
    · intro h x hx
      have hz := q6e (K := Zt H) (H := H) (fun x hx => hx.1) h
      refine Cl.le (H := fun x : Pm k hk => x = (1 : Pm k hk)) ⟨rfl, ?_, ?_⟩ ?_ hx
      · rintro a b rfl rfl; exact Grp.one_mul 1
      · rintro a rfl; exact qz4
      · rintro _ ⟨a, b, ha, hb, rfl⟩
        exact q0e.2 ((hz a ha).2 b hb)
  by_cases c : (can (Dr H)).length = 1
  · rw [decide_eq_true (by omega : ((can (Dr H)).length : Int) = 1)]
    have := hi.1 c
    rw [decide_eq_true (by omega)]
  · rw [decide_eq_false (by omega : ¬ ((can (Dr H)).length : Int) = 1)]
    have : ¬ (can (Zt H)).length = (can H).length := fun h => c (hi.2 h)
    rw [decide_eq_false (by omega)]
theorem q6l (hn : Fw n) (gens : List (List Int)) (many : Int) (al : qfb n = some (true, ())) : qf1 n gens many = some (true, ()) := by
  obtain ⟨l, b, e, hb⟩ := q5z hn.fu gens
  cases b with
  | false => simp (disch := first | assumption | omega) only [zA, zB, zC, zD, zE, zF, zG, qxi, qxc, qxd, zH, zI, dpos, dneg, zJ, zK, zL, zM, zN, zO, zP, qf1, e, al]
  | true =>
    obtain ⟨hv, hl30, hc⟩ := hb rfl
    obtain ⟨k, hk, hG⟩ := hv.pk
    obtain ⟨rfl, _⟩ := hc k hk hG
    have hH := Cl.sub (dn (hk := hk) gens)
    have c1 := q4x (hk := hk) hn hv hG
    have hpos := hv.1
    obtain ⟨m, em, hm1, hm2⟩ : ∃ m : Nat, IntKind.i64.wrap (1 + Int.tmod (if many > (0 : Int) then many else (0 : Int)) (gens.length : Int)) = (m : Int) ∧ 1 ≤ m ∧ m ≤ gens.length := by
      generalize ha : (if many > (0 : Int) then many else (0 : Int)) = a
      have ha0 : 0 ≤ a := by rw [← ha]; by_cases c : many > 0 <;> simp [c]; omega
      obtain ⟨a, rfl⟩ : ∃ a' : Nat, a = (a' : Int) := ⟨a.toNat, by omega⟩
      have hlt : a % gens.length < gens.length := Nat.mod_lt _ hpos
      refine ⟨1 + a % gens.length, ?_, by omega, by omega⟩
      rw [Int.tmod_eq_emod_of_nonneg (by omega), ← Int.natCast_emod, show (1 : Int) = ((1 : Nat) : Int) from rfl, Srt.addN (by omega)]
    have hsub : subs gens 0 m = gens.take m := q3v gens m
    have hvp : GV (gens.take m) := by
      have hlen : (gens.take m).length = m := by rw [List.length_take]; omega
      refine ⟨by omega, by rw [hlen]; have := hv.2.1; omega, fun i hi => ?_⟩
      have hr : ∀ i, i < (gens.take m).length → row (gens.take m) i = row gens i := fun i hi => by
        unfold row
        rw [List.getD_eq_getElem?_getD, List.getD_eq_getElem?_getD, List.getElem?_take_of_lt (by omega)]
      rw [hr i hi, hr 0 (by omega)]
      exact hv.2.2 i (by omega)
    have hGp : ∀ g ∈ gens.take m, PK k g := fun g hg => hG g (List.mem_of_mem_take hg)
    have c3 := q4x (hk := hk) hn hvp hGp
    have hK := Cl.sub (dn (hk := hk) (gens.take m))
    have hKH : ∀ x, Cl (dn (hk := hk) (gens.take m)) x → Cl (dn (hk := hk) gens) x := fun x hx => hx.mono (fun a ha => .gen (List.mem_of_mem_take ha))
    generalize Cl (dn (hk := hk) gens) = H at *
    generalize Cl (dn (hk := hk) (gens.take m)) = K at *
    have c2 := q4x (hk := hk) hn (q5c hH) q4f
    rw [q4h (Cl.can hH)] at c2
    have c4 := q5q hn hH
    have d1 := q6i (q6j hH hK hKH)
    have d2 := q6i (q6j hH (Dr.sub H) (fun a ha => Dr.le hH ha))
    have p1 := q5a hK
    have p2 := q5a (Dr.sub H)
    have nn := q56 hn hH (Dr.sub H)
    rw [if_pos (fun x hx => Dr.le hH hx), decide_eq_true (Dr.norm hH)] at nn
    have s1 := q5y hn hH
    have s2 := q5y hn hK
    have cc := q6c hn hH
    have ci := q6k hH
    have eb : (decide (((can (Zt H)).length : Int) = ((can H).length : Int)) == decide (((can (Zt H)).length : Int) = ((can H).length : Int))) = true := beq_self_eq_true _
    have sm : solv K = true ∨ solv H = false := by
      by_cases c : solv H = true
      · exact .inl (q6h hH hK hKH c)
      · exact .inr (by simpa using c)
    have z1 : ¬ ((can K).length : Int) = 0 := by omega
    have z2 : ¬ ((can (Dr H)).length : Int) = 0 := by omega
    have z3 : ¬ ((gens.length : Nat) : Int) = 0 := by omega
    rcases sm with sm | sm
    · rw [sm] at s2
      simp (disch := first | assumption | omega) only [zA, zB, zC, zD, zE, zF, zG, qxi, qxc, qxd, zH, zI, dpos, dneg, zJ, zK, zL, zM, zN, zO, zP, qf1, e, c1, c2, z3, em, hsub, c3, c4, q4y hn.fu, z1, d1, z2, d2, nn, s1, s2, cc, ci, al]
    · rw [sm] at s1
      by_cases sk : solv K = true
      · rw [sk] at s2
        simp (disch := first | assumption | omega) only [zA, zB, zC, zD, zE, zF, zG, qxi, qxc, qxd, zH, zI, dpos, dneg, zJ, zK, zL, zM, zN, zO, zP, qf1, e, c1, c2, z3, em, hsub, c3, c4, q4y hn.fu, z1, d1, z2, d2, nn, s1, s2, cc, ci, al]
      · have sk : solv K = false := by simpa using sk
        rw [sk] at s2
        simp (disch := first | assumption | omega) only [zA, zB, zC, zD, zE, zF, zG, qxi, qxc, qxd, zH, zI, dpos, dneg, zJ, zK, zL, zM, zN, zO, zP, qf1, e, c1, c2, z3, em, hsub, c3, c4, q4y hn.fu, z1, d1, z2, d2, nn, s1, s2, cc, ci, al]
theorem q6m (a : List (List Int)) (m : Int) : ∃ n, qf1 n a m = some (true, ()) := q50 fun n hn => q6l hn a m (qxv hn.fu)
end Go.Proofs.Ytemejeiajekmcaa.V
