/- The operations on memory, continued: fields. -/
import Derived.Test.YtibphkgcdnconaaVO
namespace Go.Proofs.Ytibphkgcdnconaa.V
open Go
set_option linter.unusedVariables false
set_option linter.all false
section
variable {E : Env} {o : Oper} {a : Act} {w : World} {Z : Bs} {sl : Nat → Option Slot} {hdr : Nat → Value} {fp : Nat → Bs} {mv : MV}
theorem one_cells {v : Value} (h : v.oneCell' = true) : Cells 1 [v] := ⟨rfl, fun u hu => by obtain rfl := List.mem_singleton.1 hu; exact h⟩
theorem fld_ok {tt : TypeId → Option (Ty × Nat)} : ∀ (i : Nat) {t : Ty} {v : t.den} {m : Mk} {f : Bs} {ks : List Value} {b o' off : Nat} {fs : List Field} {d : Dyn}, getFld t v i = some d → Rep Z w t m v f ks → At w b o' ks → Fields tt fs t off →
    ∃ fl m' f' off' ks', fs[i]? = some fl ∧ fl.offset = off + off' ∧ (∃ n, tt fl.type = some (d.1, n)) ∧ Rep Z w d.1 m' d.2 f' ks' ∧ (∀ k, f' k → f k) ∧ At w b (o' + off') ks' ∧ subc w t ks (fldP i) = some ks' ∧
      (∀ here, addrOf w t ks here (fldP i) = here.map fun h => (h.1, h.2 + off')) ∧ getP t v (fldP i) = some d ∧ tyP t (fldP i) = some d.1
  | 0, .pair ta tb, v, m, f, ks, b, o', off, fl :: fs, d, h, ⟨c1, c2, f1, f2, e, r1, r2, s1, s2, _⟩, hat, ⟨h1, h2, _⟩ => by
    simp only [getFld, Option.some.injEq] at h
    subst h; subst e
    obtain ⟨a1, a2⟩ := At.app.1 hat
    refine ⟨fl, m.l, f1, 0, c1, rfl, h1, h2, r1, s1, a1, ?_, fun here => ?_, ?_, ?_⟩
    · simp only [fldP, subc]; rw [← r1.len, List.take_left] <;> (cases ta <;> rfl)
    · simp only [fldP, addrOf] <;> (cases ta <;> cases here <;> rfl)
    · simp only [fldP, getP] <;> (cases ta <;> rfl)
    · simp only [fldP, tyP] <;> (cases ta <;> rfl)
  | i + 1, .pair ta tb, v, m, f, ks, b, o', off, fl :: fs, d, h, ⟨c1, c2, f1, f2, e, r1, r2, s1, s2, _⟩, hat, ⟨h1, h2, h3⟩ => by
    subst e
    obtain ⟨a1, a2⟩ := At.app.1 hat
    obtain ⟨fl', m', f', off', ks', g1, g2, g3, g4, g5, g6, g7, g8, g9, g10⟩ := fld_ok i (t := tb) h r2 a2 h3
    refine ⟨fl', m', f', ta.size + off', ks', by simpa using g1, by rw [g2]; omega, g3, g4, fun k hk => s2 k (g5 k hk), by rw [← r1.len, ← Nat.add_assoc]; exact g6, ?_, fun here => ?_, g9, g10⟩
    · simp only [fldP, subc]; rw [← r1.len, List.drop_left]; exact g7
    · simp only [fldP, addrOf]; rw [← r1.len, List.drop_left, g8]; cases here <;> simp [Nat.add_assoc]
  | 0, .pair _ _, _, _, _, _, _, _, _, [], _, _, _, _, h | _ + 1, .pair _ _, _, _, _, _, _, _, _, [], _, _, _, _, h => h.elim
  | 0, .bool, _, _, _, _, _, _, _, _, _, h, _, _, _ | 0, .int _, _, _, _, _, _, _, _, _, _, h, _, _, _ | 0, .str, _, _, _, _, _, _, _, _, _, h, _, _, _ | 0, .unit, _, _, _, _, _, _, _, _, _, h, _, _, _ | 0, .arr _ _, _, _, _, _, _, _, _, _, _, h, _, _, _ | 0, .sl _, _, _, _, _, _, _, _, _, _, h, _, _, _ | 0, .mp _ _, _, _, _, _, _, _, _, _, _, h, _, _, _ | 0, .ex _ _ _, _, _, _, _, _, _, _, _, _, h, _, _, _ => by cases h
  | _ + 1, .bool, _, _, _, _, _, _, _, _, _, h, _, _, _ | _ + 1, .int _, _, _, _, _, _, _, _, _, _, h, _, _, _ | _ + 1, .str, _, _, _, _, _, _, _, _, _, h, _, _, _ | _ + 1, .unit, _, _, _, _, _, _, _, _, _, h, _, _, _ | _ + 1, .arr _ _, _, _, _, _, _, _, _, _, _, h, _, _, _ | _ + 1, .sl _, _, _, _, _, _, _, _, _, _, h, _, _, _ | _ + 1, .mp _ _, _, _, _, _, _, _, _, _, _, h, _, _, _ | _ + 1, .ex _ _ _, _, _, _, _, _, _, _, _, _, h, _, _, _ => by cases h
theorem mkP_fld : ∀ (i : Nat) {t : Ty} {v : t.den} {m : Mk} {d : Dyn}, getFld t v i = some d → ∃ m', mkP t m (fldP i) = some m'
  | 0, .pair ta tb, v, m, d, h => ⟨m.l, by simp only [fldP, mkP] <;> (cases ta <;> rfl)⟩
  | i + 1, .pair ta tb, v, m, d, h => mkP_fld i (t := tb) h
  | 0, .bool, _, _, _, h | 0, .int _, _, _, _, h | 0, .str, _, _, _, h | 0, .unit, _, _, _, h | 0, .arr _ _, _, _, _, h | 0, .sl _, _, _, _, h | 0, .mp _ _, _, _, _, h | 0, .ex _ _ _, _, _, _, h => by cases h
  | _ + 1, .bool, _, _, _, h | _ + 1, .int _, _, _, _, h | _ + 1, .str, _, _, _, h | _ + 1, .unit, _, _, _, h | _ + 1, .arr _ _, _, _, _, h | _ + 1, .sl _, _, _, _, h | _ + 1, .mp _ _, _, _, _, h | _ + 1, .ex _ _ _, _, _, _, h => by cases h
theorem getFld_pair {t : Ty} {v : t.den} {i : Nat} {d : Dyn} (h : getFld t v i = some d) : ∃ ta tb, t = .pair ta tb := by
  cases t <;> cases i <;> first | exact ⟨_, _, rfl⟩ | cases h
theorem run_field_ {e : TypeId} {fs : Array Field} {fl : Field} {i : Nat} {t : Ty} {n : Nat} (hu : E.P.underlying e = some (.struct fs)) (hf : fs.toList[i]? = some fl) (hT : TyOK E fl.type t n) (hs : t.size ≠ 0) (b o' : Nat) :
    (Instr.fieldAt e (.pointer (some ⟨b, o', none⟩)) i).run E.P w = .ok (.pointer (some ⟨b, o' + fl.offset, none⟩)) w := by
  have hf' : fs[i]? = some fl := by rw [← Array.getElem?_toList]; exact hf
  simp [Instr.fieldAt, run_underlying hu, hf', Instr.sureAddr, fieldPlace, hT.size, hs, add_none]
theorem fieldAddr_ok (hE : TTok E) (H : HR Z w sl hdr fp) {e : TypeId} {x : Operand} {i s hv cv : Nat} {po : Option Path} {t : Ty} {v : t.den} {d : Dyn} (ho : o.op = .fieldAddr e x i) (hx : RelV Z w sl hdr fp (.adr s hv cv po t v) (a.eval x)) (ht : tyB2 E e t = true)
    (hg : getFld t v i = some d) (hs : d.1.size ≠ 0) (hc : (lookC sl s hv cv).isSome = true) : OpOK E o a w Z sl hdr fp (.adr s hv cv (po.map (· ++ fldP i)) d.1 d.2) (Ups.look [] sl) := by
  obtain ⟨nb, hT⟩ := tyB2_ok hE ht
  obtain ⟨ta, tb, rfl⟩ := getFld_pair hg
  obtain ⟨fs, hu, hfs⟩ := hT.desc
  rcases hx with h0 | ⟨cs, hr, he⟩
  · cases h0
  obtain ⟨hcl, S, h1, h2, h3⟩ := hr
  obtain ⟨c, hlk⟩ := Option.isSome_iff_exists.1 hc
  have e2 := lookC_some hlk
  rw [h1] at e2; obtain rfl := Option.some.inj e2
  obtain ⟨b, o', ks, hcs, hat, hbz, hz, ⟨m, f, hrep, hf, hfz⟩, hp⟩ := (h3 rfl).2 rfl c rfl
  obtain ⟨fl, m', f', off', ks', g1, g2, ⟨n', g3⟩, g4, g5, g6, g7, g8, g9, g10⟩ := fld_ok i hg hrep hat hfs
  have hev : a.eval x = .pointer (some ⟨b, o', none⟩) := by rw [he, hcs]; rfl
  have hoff : fl.offset = off' := by rw [g2]; omega
  have hrun : (execOp a.eval o).run E.P w = .ok (.value (.pointer (some ⟨b, o' + off', none⟩))) w := by
    unfold execOp; rw [ho]
    simp only [Sem.run_bind, hev, run_field_ (w := w) hu g1 (hE _ _ _ g3) hs b o', hoff, Result.andThen_ok, Sem.run_pure]
  refine .same H hrun (.inr ⟨_, ⟨one_cells rfl, _, h1, Nat.le_refl _, fun _ => ⟨Nat.le_refl _, fun _ c' hc' => ?_⟩⟩, rfl⟩)
  obtain rfl := Option.some.inj hc'
  refine ⟨b, o' + off', ks', rfl, g6, hbz, hz, ⟨m', f', g4, fun k hk => hf k (g5 k hk), fun h k hk => hfz h k (g5 k hk)⟩, fun p hp0 => ?_⟩
  cases po with
  | none => cases hp0
  | some q =>
    obtain rfl := Option.some.inj hp0
    obtain ⟨⟨q1, q2⟩, q3⟩ := hp q rfl
    refine ⟨⟨by rw [getP_app q _ q1]; exact g9, fun how => ?_⟩, fun how => ?_⟩
    · obtain ⟨q4, m0, q5⟩ := q2 how
      obtain ⟨m1, q6⟩ := mkP_fld i (m := m0) hg
      exact ⟨by rw [(subc_app q _ q4 (getP_ty q1)).1]; exact g7, m1, by rw [mkP_app q _ q5 (getP_ty q1)]; exact q6⟩
    · obtain ⟨q4, m0, q5⟩ := q2 how
      rw [(subc_app q _ q4 (getP_ty q1)).2, g8, q3 how]; rfl
theorem fieldAddr_im_ok (hE : TTok E) (H : HR Z w sl hdr fp) {e : TypeId} {x : Operand} {i : Nat} {t : Ty} {v : t.den} {d : Dyn} (ho : o.op = .fieldAddr e x i) (hx : RelV Z w sl hdr fp (.iadr t v) (a.eval x)) (ht : tyB2 E e t = true)
    (hg : getFld t v i = some d) (hs : d.1.size ≠ 0) : OpOK E o a w Z sl hdr fp (.iadr d.1 d.2) (Ups.look [] sl) := by
  obtain ⟨nb, hT⟩ := tyB2_ok hE ht
  obtain ⟨ta, tb, rfl⟩ := getFld_pair hg
  obtain ⟨fs, hu, hfs⟩ := hT.desc
  rcases hx with h0 | ⟨cs, ⟨b, o', ks, hcs, hat, hz, hrep⟩, he⟩
  · cases h0
  obtain ⟨fl, m', f', off', ks', g1, g2, ⟨n', g3⟩, g4, g5, g6, g7, g8, g9, g10⟩ := fld_ok i hg hrep hat hfs
  have hev : a.eval x = .pointer (some ⟨b, o', none⟩) := by rw [he, hcs]; rfl
  have hoff : fl.offset = off' := by rw [g2]; omega
  have hrun : (execOp a.eval o).run E.P w = .ok (.value (.pointer (some ⟨b, o' + off', none⟩))) w := by
    unfold execOp; rw [ho]
    simp only [Sem.run_bind, hev, run_field_ (w := w) hu g1 (hE _ _ _ g3) hs b o', hoff, Result.andThen_ok, Sem.run_pure]
  exact .same H hrun (.inr ⟨_, ⟨b, o' + off', ks', rfl, g6, hz, g4.none (fun k hk => (g5 k hk).elim)⟩, rfl⟩)
theorem run_part_ {e : TypeId} {t : Ty} {n : Nat} (hT : TyOK E e t n) {cs : List Value} {off : Nat} (hl : off + t.size ≤ cs.length) : (part e cs.toArray off).run E.P w = .ok (t.val ((cs.drop off).take t.size)) w := by
  simp only [part, Sem.run_bind, hT.agg, Result.andThen_ok]
  cases ha : t.agg with
  | true =>
    simp only [if_true, Sem.run_bind, hT.size, Result.andThen_ok, Sem.run_pure, Ty.val, ha, cond_true, cond_false]
    congr 2
    apply Array.ext'
    simp [List.extract_eq_take_drop]
  | false =>
    have h1 := Ty.size_one ha
    rw [h1] at hl ⊢
    have hlt : off < cs.length := by omega
    simp only [Bool.false_eq_true, if_false, List.getElem?_toArray, List.getElem?_eq_getElem hlt, Sem.run_pure, Ty.val, ha, cond_true, cond_false]
    rw [List.drop_eq_getElem_cons hlt]; rfl
theorem getFld_ok {tt : TypeId → Option (Ty × Nat)} : ∀ (i : Nat) {t : Ty} {u d : MV} {cs : List Value} {off : Nat} {fs : List Field}, fits t u = true → u.getFld i = some d → RelC Z w sl hdr fp u cs → Fields tt fs t off →
    ∃ fl ti off', fs[i]? = some fl ∧ fl.offset = off + off' ∧ (∃ n, tt fl.type = some (ti, n)) ∧ off' + ti.size ≤ cs.length ∧ RelC Z w sl hdr fp d ((cs.drop off').take ti.size) ∧ d.agg = ti.agg ∧ ∃ n, d.sz = some n
  | 0, .pair ta tb, .pr u v, d, cs, off, fl :: fs, hf, h, ⟨c1, c2, e, h1, h2⟩, ⟨g1, g2, g3⟩ => by
    simp only [fits, Bool.and_eq_true] at hf
    obtain ⟨⟨f1, f2⟩, f3⟩ := hf
    simp only [MV.getFld, Option.some.injEq] at h
    subst h; subst e
    have hl : c1.length = ta.size := by
      split at f1
      · rename_i n hn; rw [(out_cells h1 hn).1]; exact Nat.eq_of_beq_eq_true f1
      · cases f1
    refine ⟨fl, ta, 0, rfl, g1, g2, by rw [List.length_append]; omega, ?_, by simpa using f2, by split at f1 <;> first | exact ⟨_, by assumption⟩ | cases f1⟩
    rw [List.drop_zero, ← hl, List.take_left]; exact h1
  | i + 1, .pair ta tb, .pr u v, d, cs, off, fl :: fs, hf, h, ⟨c1, c2, e, h1, h2⟩, ⟨g1, g2, g3⟩ => by
    simp only [fits, Bool.and_eq_true] at hf
    obtain ⟨⟨f1, f2⟩, f3⟩ := hf
    subst e
    have hl : c1.length = ta.size := by
      split at f1
      · rename_i n hn; rw [(out_cells h1 hn).1]; exact Nat.eq_of_beq_eq_true f1
      · cases f1
    obtain ⟨fl', ti, off', k1, k2, k3, k4, k5, k6⟩ := getFld_ok i f3 h h2 g3
    refine ⟨fl', ti, ta.size + off', by simpa using k1, by rw [k2]; omega, k3, by rw [List.length_append]; omega, ?_, k6⟩
    rw [← hl, ← List.drop_drop, List.drop_left]; exact k5
  | 0, .pair ta tb, .val (.pair ta' tb') x, d, cs, off, fl :: fs, hf, h, ⟨c1, c2, f1, f2, e, r1, r2, s1, s2, _⟩, ⟨g1, g2, g3⟩ => by
    simp only [fits, Bool.and_eq_true, decide_eq_true_eq] at hf
    obtain ⟨rfl, rfl⟩ := hf
    simp only [MV.getFld, Option.some.injEq] at h
    subst h; subst e
    refine ⟨fl, ta', 0, rfl, g1, g2, by rw [List.length_append, r1.len]; omega, ?_, rfl, _, rfl⟩
    rw [List.drop_zero, ← r1.len, List.take_left]; exact r1.none (fun k hk => (s1 k hk).elim)
  | i + 1, .pair ta tb, .val (.pair ta' tb') x, d, cs, off, fl :: fs, hf, h, ⟨c1, c2, f1, f2, e, r1, r2, s1, s2, _⟩, ⟨g1, g2, g3⟩ => by
    simp only [fits, Bool.and_eq_true, decide_eq_true_eq] at hf
    obtain ⟨rfl, rfl⟩ := hf
    subst e
    have h2 : RelC Z w sl hdr fp (.val tb' x.2) c2 := r2.none (fun k hk => (s2 k hk).elim)
    have hfit : fits tb' (.val tb' x.2) = true ∨ ∃ z, tb' = z ∧ (MV.val tb' x.2).getFld i = some d := .inr ⟨tb', rfl, h⟩
    have hft : fits tb' (.val tb' x.2) = true := by
      cases tb' <;> first | rfl | (simp [fits]; done) | (cases i <;> simp [MV.getFld] at h)
    obtain ⟨fl', ti, off', k1, k2, k3, k4, k5, k6⟩ := getFld_ok i hft h h2 g3
    refine ⟨fl', ti, ta'.size + off', by simpa using k1, by rw [k2]; omega, k3, by rw [List.length_append, r1.len]; omega, ?_, k6⟩
    rw [← r1.len, ← List.drop_drop, List.drop_left]; exact k5
  | _, .pair _ _, _, _, _, _, [], _, _, _, h => h.elim
  | _, .pair _ _, .dead, _, _, _, _, hf, _, _, _ | _, .pair _ _, .nil, _, _, _, _, hf, _, _, _ | _, .pair _ _, .root _ _, _, _, _, _, hf, _, _, _ | _, .pair _ _, .view _ _ _ _ _ _, _, _, _, _, hf, _, _, _ | _, .pair _ _, .adr _ _ _ _ _ _, _, _, _, _, hf, _, _, _ | _, .pair _ _, .iadr _ _, _, _, _, _, hf, _, _, _ | _, .pair _ _, .pend _ _ _ _ _ _, _, _, _, _, hf, _, _, _ | _, .pair _ _, .icl _, _, _, _, _, hf, _, _, _ | _, .pair _ _, .nv _ _ _, _, _, _, _, hf, _, _, _ | _, .pair _ _, .ptr _ _ _, _, _, _, _, hf, _, _, _ | _, .pair _ _, .un, _, _, _, _, hf, _, _, _ | _, .pair _ _, .tc _ _, _, _, _, _, hf, _, _, _ | _, .pair _ _, .tn, _, _, _, _, hf, _, _, _ | _, .pair _ _, .fn _ _, _, _, _, _, hf, _, _, _ => by cases hf
  | _, .pair _ _, .val .bool _, _, _, _, _, hf, _, _, _ | _, .pair _ _, .val (.int _) _, _, _, _, _, hf, _, _, _ | _, .pair _ _, .val .str _, _, _, _, _, hf, _, _, _ | _, .pair _ _, .val .unit _, _, _, _, _, hf, _, _, _ | _, .pair _ _, .val (.arr _ _) _, _, _, _, _, hf, _, _, _ | _, .pair _ _, .val (.sl _) _, _, _, _, _, hf, _, _, _ | _, .pair _ _, .val (.mp _ _) _, _, _, _, _, hf, _, _, _ | _, .pair _ _, .val (.ex _ _ _) _, _, _, _, _, hf, _, _, _ => by cases hf
  | _, .bool, _, _, _, _, _, hf, _, _, _ | _, .int _, _, _, _, _, _, hf, _, _, _ | _, .str, _, _, _, _, _, hf, _, _, _ | _, .arr _ _, _, _, _, _, _, hf, _, _, _ | _, .sl _, _, _, _, _, _, hf, _, _, _ | _, .mp _ _, _, _, _, _, _, hf, _, _, _ | _, .ex _ _ _, _, _, _, _, _, hf, _, _, _ => by cases hf
  | i, .unit, u, d, _, _, _, hf, h, _, _ => by
    cases u <;> first | (cases hf; done) | skip
    · rename_i t' y _
      cases t' <;> first | (cases hf; done) | (cases i <;> cases h)
    · cases i <;> cases h
theorem field_ok (hE : TTok E) (H : HR Z w sl hdr fp) {e : TypeId} {x : Operand} {i nb : Nat} {t : Ty} {u d : MV} (ho : o.op = .field e x i) (hx : RelV Z w sl hdr fp u (a.eval x)) (hT : TyOK E e t nb) (hf : fits t u = true) (hg : u.getFld i = some d) :
    OpOK E o a w Z sl hdr fp d (Ups.look [] sl) := by
  rcases hx with rfl | ⟨cs, hr, he⟩
  · cases i <;> cases hg
  have hdesc : ∃ fs, E.P.underlying e = some (.struct fs) ∧ Fields E.tt fs.toList t 0 := by
    have := hT.desc
    cases t <;> first | exact this | (cases u <;> cases hf)
  obtain ⟨fs, hu, hfs⟩ := hdesc
  obtain ⟨fl, ti, off', g1, g2, ⟨n, g3⟩, g4, g5, g6, nz, g7⟩ := getFld_ok i hf hg hr hfs
  have hagg : u.out cs = .agg cs.toArray := by
    cases u <;> first | (cases i <;> cases hg; done) | rfl | skip
    · rename_i t' x'
      cases t' <;> first | rfl | (cases i <;> cases hg)
  have hf' : fs[i]? = some fl := by rw [← Array.getElem?_toList]; exact g1
  have hoff : fl.offset = off' := by rw [g2]; omega
  have hrun : (execOp a.eval o).run E.P w = .ok (.value (ti.val ((cs.drop off').take ti.size))) w := by
    unfold execOp; rw [ho]
    simp only [Instr.field, he, hagg, Sem.run_bind, run_underlying hu, Result.andThen_ok, hf', asAgg, Sem.run_pure, hoff, run_part_ (w := w) (hE _ _ _ g3) g4]
  refine .same H hrun (.inr ⟨_, g5, ?_⟩)
  simp only [Ty.val, ← g6]
  cases d <;> first | (cases g7; done) | rfl
end
end Go.Proofs.Ytibphkgcdnconaa.V
