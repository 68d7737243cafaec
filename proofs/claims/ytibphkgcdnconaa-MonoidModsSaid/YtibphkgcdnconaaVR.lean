/- Append, continued. -/
import Derived.Test.YtibphkgcdnconaaVQ
namespace Go.Proofs.Ytibphkgcdnconaa.V
open Go
set_option linter.unusedVariables false
set_option linter.all false
section
variable {E : Env} {o : Oper} {a : Act} {w : World} {Z : Bs} {sl : Nat → Option Slot} {hdr : Nat → Value} {fp : Nat → Bs} {mv : MV}
/-- A slice's cells can be read. -/
def Has (w : World) (A : Option Addr) (n : Nat) (cs : List Value) : Prop := (n = 0 ∧ cs = []) ∨ ∃ b o, A = some ⟨b, o, none⟩ ∧ At w b o cs
theorem first_ok {P : Program} {A : Option Addr} {n size c : Nat} {cs : List Value} (hl : cs.length = n * size) (h : Has w A n cs) : (Builtin.firstCells size n (.slice A n c)).run P w = .ok cs.toArray w := by
  rcases h with ⟨rfl, rfl⟩ | ⟨b, o, rfl, h⟩
  · cases A with
    | none => rfl
    | some A => simp [Builtin.firstCells, loadCells, loadCellsFrom]
  · refine run_firstCells_some w size n _ n c cs hl (fun j v hj => ?_)
    rw [add_none, ← hj]
    have hlt : j < cs.length := by
      rcases Nat.lt_or_ge j cs.length with h' | h'
      · exact h'
      · rw [List.getElem?_eq_none h'] at hj; cases hj
    exact h j hlt
theorem first_ok' {P : Program} {A : Option Addr} {n size c l : Nat} {cs : List Value} (hl : cs.length = n * size) (h : Has w A n cs) : (Builtin.firstCells size n (.slice A l c)).run P w = .ok cs.toArray w := by
  have := first_ok (P := P) (c := c) hl h
  cases A <;> exact this
theorem run_app_fit {ty tid e : TypeId} {t : Ty} {nb : Nat} (hu : E.P.underlying tid = some (.slice e)) (hT : TyOK E e t nb) {A B : Option Addr} {sLen n sCap c : Nat} {news : List Value} (hl : news.length = n * t.size) (hB : Has w B n news) (hroom : sLen + n ≤ sCap) {w' : World}
    (hs : (n = 0 ∧ w' = w) ∨ ∃ b o, A = some ⟨b, o, none⟩ ∧ (storeCells ⟨b, o + sLen * t.size, none⟩ news).run E.P w = .ok () w') :
    (Builtin.append_ #[tid, tid] ty #[.slice A sLen sCap, .slice B n c]).run E.P w = .ok (.slice A (sLen + n) sCap) w' := by
  have hf := first_ok (P := E.P) (c := c) hl hB
  rcases hs with ⟨rfl, rfl⟩ | ⟨b, o, rfl, hs⟩
  · have hroom' : sLen ≤ sCap := by omega
    have hn : news = [] := List.eq_nil_of_length_eq_zero (by simpa using hl)
    subst hn
    cases A <;> simp [Builtin.append_, run_underlying hu, hT.size, Builtin.lenOf, hroom', hf, storeCells]
  · simp [Builtin.append_, run_underlying hu, hT.size, Builtin.lenOf, hroom, hf, add_none, hs]
theorem run_app_grow {ty tid e : TypeId} {t : Ty} {nb : Nat} (hu : E.P.underlying tid = some (.slice e)) (hT : TyOK E e t nb) {A B : Option Addr} {sLen n sCap c : Nat} {olds news : List Value} (ho : olds.length = sLen * t.size) (hA : Has w A sLen olds) (hl : news.length = n * t.size) (hB : Has w B n news) (hg : sCap < sLen + n)
    (h63 : sLen + n ≤ 9223372036854775807) (hfit : (sLen + n) * nb ≤ 140737488355328) :
    ∃ z : List Value, z.length = (grownCap w (sLen + n) sCap e - (sLen + n)) * t.size ∧
    (Builtin.append_ #[tid, tid] ty #[.slice A sLen sCap, .slice B n c]).run E.P w = .ok (.slice (some ⟨w.heap.size, 0, none⟩) (sLen + n) (grownCap w (sLen + n) sCap e)) (w.drew.alloc (.cells ((olds ++ news) ++ z).toArray e)) := by
  obtain ⟨i, z, i1, i2, i3, i4, i5⟩ := hT.info
  have hn : ¬ (sLen + n ≤ sCap) := by omega
  have h63' : ¬ (9223372036854775807 < ((sLen : Int) + (n : Int))) := by omega
  have h48 := growslice_fits hg hfit
  have h48' : ¬ (281474976710656 < Builtin.nextslicecap (sLen + n) sCap * i.bytes) := by rw [i3]; omega
  have hZ : z.cells.size = t.size := by rw [← Array.length_toList, i5, t.zcells_len]
  have hf : (Builtin.firstCells t.size n (.slice B n c)).run E.P w.drew = .ok news.toArray w.drew := first_ok (w := w.drew) hl hB
  have hfo : (Builtin.firstCells t.size sLen (.slice A sLen sCap)).run E.P w.drew = .ok olds.toArray w.drew := first_ok (w := w.drew) ho hA
  refine ⟨(Builtin.zeroCells z.cells (grownCap w (sLen + n) sCap e - (sLen + n))).toList, by rw [Array.length_toList, size_zeroCells, hZ], ?_⟩
  simp [Builtin.append_, run_underlying hu, sizeOf, typeInfo, zeroValue, i1, i2, i4, Builtin.lenOf, hn, h63', h48', Question.forced, hf, hfo, newRow, grownCap]
  congr 2
  apply Array.ext'
  simp [List.append_assoc]
theorem has_row {t : Ty} {xs : List t.den} {A : Option Addr} {ks : List Value} {R : t.den → Bs → List Value → Prop} {f : Bs} (hi : Inline R xs f ks) (h : xs = [] ∨ ∃ b o, A = some ⟨b, o, none⟩ ∧ At w b o ks) : Has w A xs.length ks := by
  rcases h with rfl | h
  · exact .inl ⟨rfl, hi⟩
  · exact .inr h
theorem has_drew {A : Option Addr} {n : Nat} {cs : List Value} (h : Has w A n cs) : Has w.drew A n cs := h
theorem lenB_ok {n : Nat} (h : lenB n = true) : n ≤ 68719476736 := Nat.le_of_ble_eq_true h
/-- Append onto an empty slice without room: into slot n. -/
theorem app_new {tid e ty : TypeId} {t : Ty} {nb : Nat} {m : Mk} {ys : List t.den} {us : Ups} {Z' : Bs} {fp' : Nat → Bs} {F : Bs} {cs : List Value} {v : Value} (S : Src Z w sl hdr fp us Z' fp' t m ys F cs v) (hu : E.P.underlying tid = some (.slice e)) (hT : TyOK E e t nb) (hb : ys.length * nb ≤ 70368744177664) (hlen : ys.length ≤ 70368744177664)
    {A : Option Addr} {n : Nat} {S0 : Slot} (hs : us.look sl n = some S0) :
    ∃ v' w' hdr' fp2, (Builtin.append_ #[tid, tid] ty #[.slice A 0 0, v]).run E.P w = .ok v' w' ∧ HR Z' w' (put (us.look sl) n ⟨S0.hv + 1, 0, some ⟨.sl t, .ow m, ys⟩⟩) hdr' fp2 ∧
      Trans Z' w (us.look sl) hdr fp' Z' w' (put (us.look sl) n ⟨S0.hv + 1, 0, some ⟨.sl t, .ow m, ys⟩⟩) hdr' fp2 ∧ hdr' n = v' ∧ v'.oneCell' = true := by
  obtain ⟨B, c, rfl, hB⟩ := S.val
  have hl := Inline.len (fun x f c h => Rep.len h) S.inl
  by_cases h0 : ys.length = 0
  · have hy : ys = [] := List.eq_nil_of_length_eq_zero h0
    subst hy
    have hcs : cs = [] := S.inl
    have hrun := run_app_fit (E := E) (w := w) (ty := ty) (w' := w) (A := A) (B := B) (sLen := 0) (n := 0) (sCap := 0) (c := c) (news := []) hu hT (by simp) (.inl ⟨rfl, rfl⟩) (by omega) (.inl ⟨rfl, rfl⟩)
    obtain ⟨fp2, _, _, H2, T2⟩ := step_set S.hr hs ⟨.sl t, .ow m, []⟩ (.slice A 0 0) none_ ⟨A, 0, rfl, .inl ⟨rfl, rfl⟩⟩ (.inl ⟨t, rfl⟩) (fun _ h => h.elim) 0
    exact ⟨_, w, _, fp2, hrun, H2, T2, by simp, rfl⟩
  · obtain ⟨z, hz, hrun⟩ := run_app_grow (E := E) (w := w) (ty := ty) (A := A) (B := B) (sLen := 0) (n := ys.length) (sCap := 0) (c := c) (olds := []) (news := cs) hu hT (by simp) (.inl ⟨rfl, rfl⟩) hl (has_row S.inl hB) (by omega) (by omega) (by rw [Nat.zero_add]; omega)
    have hdw := step_drew S.hr
    have hge := grownCap_ge w (0 + ys.length) 0 e
    have hi' : Inline (fun x f c => Rep Z' w.drew t m x f c) ys F cs := Inline.mono (fun x f c h => h.keep (w := w) (w' := w.drew) (fun b hb => ⟨hb, rfl⟩) (fun _ _ => rfl)) (fun _ h => h) S.inl
    obtain ⟨fp2, H2, T2⟩ := new_row hdw.1 hs t m ys F cs z e (grownCap w (0 + ys.length) 0 e) hi' (fun b hb => by obtain ⟨r, h1, h2⟩ := S.hand b hb; exact ⟨r, h1, .inr h2⟩) (by omega) (by
      rw [List.length_append, hl, hz, ← Nat.add_mul]; exact Nat.mul_le_mul_right _ (by omega))
    refine ⟨_, _, _, fp2, hrun, ?_, hdw.2.comp T2, by simp, rfl⟩
    simpa using H2
end
end Go.Proofs.Ytibphkgcdnconaa.V
