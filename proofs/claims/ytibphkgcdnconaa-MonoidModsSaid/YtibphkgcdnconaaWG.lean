/- Regions whose order is drawn: every order comes to the same. -/
import Derived.Test.YtibphkgcdnconaaWF
namespace Go.Proofs.Ytibphkgcdnconaa.V
open Go
set_option linter.unusedVariables false
set_option linter.all false
section
variable {E : Env} {Z0 : Ctx E.io} {w0 : World} {ns nt : Nat} {R : Type} {r : R} {Q : Exit → Act → World → Prop} {ops : Array Oper}
theorem fix_same {st : Sm} {d : Nat} {mv : MV} (h : st.tm d = mv) : st.fix d mv = st := by
  obtain ⟨tm, lk, ns, nt⟩ := st
  simp only [Sm.fix, Sm.mk.injEq, and_true]
  funext i
  by_cases e : i = d
  · subst e; rw [beq_self_]; exact h.symm
  · rw [beq_ne_ e]; rfl
def effRun (E : Env) (ops : Array Oper) (o : Oper) (h : OH) (st : Sm) : Option (MV × Ups) :=
  (opD E ops o h st (fun m u => some (m, u))).bind fun p => bif p.2.all (fun u => h.wr.elem u.1 && (Nat.blt u.1 st.ns && okU E u)) then some p else none
def eff (E : Env) (ops : Array Oper) (o : Oper) (h : OH) (st : Sm) : Option (MV × Ups) :=
  match o.guard with
  | none => effRun E ops o h st
  | some (j, want) => match (ops[j]?).bind (·.dst) with
    | some d => match st.tm d with
      | .val .bool v => if v = want then effRun E ops o h st else some (.tn, [])
      | .tn => some (.tn, [])
      | _ => none
    | none => none
theorem evRunD_eff {o : Oper} {h : OH} {st : Sm} {K : Sm → Option R} : evRunD E ops o h st K = (effRun E ops o h st).bind fun p => K (st.app o.dst p.1 p.2) := by
  unfold evRunD effRun
  rw [opD_bind]
  simp only [B2]
  cases (opD E ops o h st S2) with
  | none => rfl
  | some p =>
    simp only [Option.bind_some]
    cases p.2.all (fun u => h.wr.elem u.1 && (Nat.blt u.1 st.ns && okU E u)) <;> rfl
theorem evOpD_eff {o : Oper} {h : OH} {st : Sm} {K : Sm → Option R} : evOpD E ops o h st K = (eff E ops o h st).bind fun p => K (st.app o.dst p.1 p.2) := by
  unfold evOpD eff
  cases hg : o.guard with
  | none => exact evRunD_eff
  | some jw =>
    obtain ⟨j, want⟩ := jw
    simp only []
    cases hd : (ops[j]?).bind (·.dst) with
    | none => rfl
    | some d =>
      simp only []
      split
      · rename_i v hv
        simp only [hv]
        cases v <;> cases want <;> simp only [cond_true, cond_false, if_true, if_false, reduceCtorEq, fix_same hv, evRunD_eff, Option.bind_some]
      · rename_i hv
        simp only [hv, Option.bind_some]
      · rename_i hne hne2
        split
        · rename_i v hv
          exact (hne v hv).elim
        · rename_i hv
          exact (hne2 hv).elim
        · rfl
theorem effRun_congr {o : Oper} {h : OH} {st st2 : Sm} (ht : ∀ t, t ∈ o.looksAt ops → st.tm t = st2.tm t) (hl : ∀ s, h.rd.elem s = true → st.look s = st2.look s) (hn : st.ns = st2.ns) : effRun E ops o h st = effRun E ops o h st2 := by
  unfold effRun
  have e1 : restrE (o.looksAt ops) h.rd st = restrE (o.looksAt ops) h.rd st2 := by
    funext x
    cases x with
    | tmp t =>
      simp only [restrE]
      cases hb : (o.looksAt ops).elem t with
      | false => rfl
      | true => rw [ht t (List.elem_iff.1 hb)]
    | _ => rfl
  have e2 : restr h.rd st.look = restr h.rd st2.look := by
    funext s
    simp only [restr]
    cases hb : h.rd.elem s with
    | false => rfl
    | true => rw [hl s hb]
  have e3 : restrT (o.looksAt ops) st = restrT (o.looksAt ops) st2 := by
    funext x
    cases x with
    | tmp t =>
      simp only [restrT]
      cases hb : (o.looksAt ops).elem t with
      | false => rfl
      | true => rw [ht t (List.elem_iff.1 hb)]
    | _ => rfl
  simp only [opD, e1, e2, e3, hn]
theorem eff_congr {o : Oper} {h : OH} {st st2 : Sm} (ht : ∀ t, t ∈ o.looksAt ops → st.tm t = st2.tm t) (hl : ∀ s, h.rd.elem s = true → st.look s = st2.look s) (hn : st.ns = st2.ns) : eff E ops o h st = eff E ops o h st2 := by
  unfold eff
  rw [effRun_congr ht hl hn]
  split
  · rfl
  · rename_i j want hg
    split
    · rename_i d hd
      rw [ht d (by unfold Oper.looksAt; simp only [hg, hd, Option.toList, List.mem_append, List.mem_singleton, or_true])]
    · rfl
theorem eff_keys {o : Oper} {h : OH} {st : Sm} {p : MV × Ups} (he : eff E ops o h st = some p) : ∀ s, h.wr.elem s = false → p.2.lookup s = none := by
  have run : ∀ {p : MV × Ups}, effRun E ops o h st = some p → ∀ s, h.wr.elem s = false → p.2.lookup s = none := by
    intro p hp s hs
    obtain ⟨q, _, hq⟩ := bind_some_ hp
    obtain ⟨hb, hq⟩ := cond_some hq
    obtain rfl := Option.some.inj hq
    rw [List.lookup_eq_none_iff]
    intro u hu
    have h3 := (List.all_eq_true.1 hb) u hu
    simp only [Bool.and_eq_true] at h3
    simp only [beq_eq_false_iff_ne, ne_eq, bne_iff_ne]
    intro e
    rw [← e, hs] at h3; cases h3.1
  unfold eff at he
  split at he
  · exact run he
  · split at he
    · split at he
      · split at he
        · exact run he
        · obtain rfl := Option.some.inj he
          intro s _; rfl
      · obtain rfl := Option.some.inj he
        intro s _; rfl
      · cases he
    · cases he
theorem app_tm {st : Sm} {d : Option Tmp} {mv : MV} {us : Ups} {t : Nat} (h : d ≠ some t) : (st.app d mv us).tm t = st.tm t := by
  cases d with
  | none => rfl
  | some d =>
    simp only [Sm.app]
    rw [put_tm, if_neg (fun e => h (by rw [e]))]
theorem app_look {st : Sm} {d : Option Tmp} {mv : MV} {us : Ups} {s : Nat} : (st.app d mv us).look s = us.look st.look s := by
  cases d <;> rfl
theorem app_ns {st : Sm} {d : Option Tmp} {mv : MV} {us : Ups} : (st.app d mv us).ns = st.ns ∧ (st.app d mv us).nt = st.nt := by
  cases d <;> exact ⟨rfl, rfl⟩
theorem sm_ext {a b : Sm} (h1 : ∀ t, a.tm t = b.tm t) (h2 : ∀ s, a.look s = b.look s) (h3 : a.ns = b.ns ∧ a.nt = b.nt) : a = b := by
  obtain ⟨_, _, _, _⟩ := a
  obtain ⟨_, _, _, _⟩ := b
  simp only [Sm.mk.injEq]
  exact ⟨funext h1, funext h2, h3⟩
theorem elem_disj {l k : List Nat} (h : disjN l k = true) {s : Nat} (hs : k.elem s = true) : l.elem s = false := by
  cases hb : l.elem s with
  | false => rfl
  | true =>
    have := (List.all_eq_true.1 h) s (List.elem_iff.1 hb)
    rw [hs] at this; cases this
theorem commute {oi oj : Oper} {hi hj : OH} (hw2 : hj.wr.all (fun x => hj.rd.elem x) = true) (hi_ : indepB ops oi hi oj hj = true) {st : Sm} {p q : MV × Ups} (h1 : eff E ops oi hi st = some p) (h2 : eff E ops oj hj (st.app oi.dst p.1 p.2) = some q) :
    eff E ops oj hj st = some q ∧ eff E ops oi hi (st.app oj.dst q.1 q.2) = some p ∧ (st.app oi.dst p.1 p.2).app oj.dst q.1 q.2 = (st.app oj.dst q.1 q.2).app oi.dst p.1 p.2 := by
  simp only [indepB, Bool.and_eq_true] at hi_
  obtain ⟨⟨ha, d1⟩, d2⟩ := hi_
  obtain ⟨a1, a2, a3⟩ := Oper.apart_spec ha
  have kp := eff_keys h1
  have kq := eff_keys h2
  have e1 : eff E ops oj hj (st.app oi.dst p.1 p.2) = eff E ops oj hj st := eff_congr (fun t ht => app_tm (fun e => a1 t e ht)) (fun s hs => by
    rw [app_look]; simp only [Ups.look, kp s (elem_disj d1 hs)]) app_ns.1
  rw [e1] at h2
  have e2 : eff E ops oi hi (st.app oj.dst q.1 q.2) = eff E ops oi hi st := eff_congr (fun t ht => app_tm (fun e => a3 t e ht)) (fun s hs => by
    rw [app_look]; simp only [Ups.look, kq s (elem_disj d2 hs)]) app_ns.1
  refine ⟨h2, e2.trans h1, sm_ext (fun t => ?_) (fun s => ?_) ⟨?_, ?_⟩⟩
  · by_cases c1 : oj.dst = some t
    · have c2 : oi.dst ≠ some t := fun e => a2 t e c1
      rw [app_tm c2]
      rw [c1]
      simp only [Sm.app]
      rw [put_tm, put_tm, if_pos rfl, if_pos rfl]
      cases oi.dst <;> rfl
    · rw [app_tm c1]
      by_cases c2 : oi.dst = some t
      · rw [c2]
        simp only [Sm.app]
        rw [put_tm, put_tm, if_pos rfl, if_pos rfl]
        cases oj.dst <;> rfl
      · rw [app_tm c2, app_tm c2, app_tm c1]
  · rw [app_look, app_look]
    simp only [Ups.look]
    cases c1 : q.2.lookup s with
    | none =>
      simp only [app_look, Ups.look, c1]
    | some S =>
      have c2 : p.2.lookup s = none := kp s (elem_disj d1 (by
        cases hb : hj.wr.elem s with
        | true =>
          exact (List.all_eq_true.1 hw2) s (List.elem_iff.1 hb)
        | false => rw [kq s hb] at c1; cases c1))
      simp only [app_look, Ups.look, c1, c2]
  · rw [app_ns.1, app_ns.1, app_ns.1, app_ns.1]
  · rw [app_ns.2, app_ns.2, app_ns.2, app_ns.2]
end
end Go.Proofs.Ytibphkgcdnconaa.V
