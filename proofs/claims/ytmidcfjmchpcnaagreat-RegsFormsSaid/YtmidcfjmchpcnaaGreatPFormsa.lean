/- The law over the models, part 1. -/
import Derived.Test.YtmidcfjmchpcnaaGreatVc
import Derived.Test.YtmidcfjmchpcnaaGreatMForms
import Derived.KernelRfl
import Derived.Test.YtmidcfjmchpcnaaGreatVc
namespace Go.Proofs.YtmidcfjmchpcnaaGreat.V
open Go
set_option linter.unusedVariables false
set_option linter.all false
def Fu (n : Nat) : Prop := 1180591620717411303424 ≤ n
theorem Fu.le {n m : Nat} (h : Fu n) (hm : m < 1180591620717411303424) : m < n := Nat.lt_of_lt_of_le hm h
theorem qw8 {D O : Type} {f : D → Option (D ⊕ O)} (inv : Nat → D) {r : O} : ∀ (k i n : Nat), (∀ j, i ≤ j → j < i + k → f (inv j) = some (.inl (inv (j + 1)))) → f (inv (i + k)) = some (.inr r) → k < n → iterN f n (inv i) = some r
  | 0, i, n + 1, _, he, _ => by
    rw [Nat.add_zero] at he
    simp [iterN, he]
  | k + 1, i, n + 1, hs, he, hn => by
    simp only [iterN, hs i (Nat.le_refl _) (by omega), Option.bind_some, Sum.elim_inl]
    exact qw8 inv k (i + 1) n (fun j h1 h2 => hs j (by omega) (by omega)) (by rw [show i + 1 + k = i + (k + 1) by omega]; exact he) (by omega)
theorem qw9 {D O : Type} {f : D → Option (D ⊕ O)} {n : Nat} (hn : Fu n) (inv : Nat → D) (m : Nat) {d : D} {r : O} (hm : m < 1180591620717411303424) (hd : d = inv 0) (hs : ∀ i, i < m → f (inv i) = some (.inl (inv (i + 1)))) (he : f (inv m) = some (.inr r)) : iterN f n d = some r := by
  subst hd
  exact qw8 inv m 0 n (fun j _ h => hs j (by omega)) (by rw [Nat.zero_add]; exact he) (hn.le hm)
theorem qxa {D O : Type} {f : D → Option (D ⊕ O)} {n : Nat} (hn : Fu n) (inv : Nat → D) (m : Nat) (P : Nat → Prop) {d : D} {r r' : O} (hm : m < 1180591620717411303424) (hd : d = inv 0) (hs : ∀ i, i < m → (∀ j, j < i → P j) → P i → f (inv i) = some (.inl (inv (i + 1))))
    (hb : ∀ i, i < m → (∀ j, j < i → P j) → ¬ P i → f (inv i) = some (.inr r')) (he : (∀ i, i < m → P i) → f (inv m) = some (.inr r)) : iterN f n d = some (@ite _ (∀ i, i < m → P i) (Classical.propDecidable _) r r') := by
  classical
  subst hd
  by_cases h : ∀ i, i < m → P i
  · rw [if_pos h]
    exact qw9 hn inv m hm rfl (fun i hi => hs i hi (fun j hj => h j (by omega)) (h i hi)) (he h)
  · rw [if_neg h]
    have hex : ∃ k, k < m ∧ (∀ j, j < k → P j) ∧ ¬ P k := by
      refine Classical.byContradiction fun hc => h ?_
      intro i
      induction i using Nat.strongRecOn with
      | ind i ih =>
        intro hi
        refine Classical.byContradiction fun hp => hc ⟨i, hi, fun j hj => ih j hj (by omega), hp⟩
    obtain ⟨k, hk, h1, h2⟩ := hex
    exact qw9 hn inv k (by omega) rfl (fun i hi => hs i (by omega) (fun j hj => h1 j (by omega)) (h1 i hi)) (hb k hk h1 h2)
theorem qxb {D O : Type} {f : D → Option (D ⊕ O)} {n : Nat} (hn : Fu n) (inv : Nat → D) (m : Nat) (P : Nat → Prop) {d : D} {r : O} {r' : Nat → O} (hm : m < 1180591620717411303424) (hd : d = inv 0) (hs : ∀ i, i < m → (∀ j, j < i → P j) → P i → f (inv i) = some (.inl (inv (i + 1))))
    (hb : ∀ i, i < m → (∀ j, j < i → P j) → ¬ P i → f (inv i) = some (.inr (r' i))) (he : (∀ i, i < m → P i) → f (inv m) = some (.inr r)) : ((∀ i, i < m → P i) ∧ iterN f n d = some r) ∨ ∃ i, i < m ∧ (∀ j, j < i → P j) ∧ ¬ P i ∧ iterN f n d = some (r' i) := by
  classical
  subst hd
  by_cases h : ∀ i, i < m → P i
  · exact .inl ⟨h, qw9 hn inv m hm rfl (fun i hi => hs i hi (fun j hj => h j (by omega)) (h i hi)) (he h)⟩
  · have hex : ∃ k, k < m ∧ (∀ j, j < k → P j) ∧ ¬ P k := by
      refine Classical.byContradiction fun hc => h ?_
      intro i
      induction i using Nat.strongRecOn with
      | ind i ih =>
        intro hi
        refine Classical.byContradiction fun hp => hc ⟨i, hi, fun j hj => ih j hj (by omega), hp⟩
    obtain ⟨k, hk, h1, h2⟩ := hex
    exact .inr ⟨k, hk, h1, h2, qw9 hn inv k (by omega) rfl (fun i hi => hs i (by omega) (fun j hj => h1 j (by omega)) (h1 i hi)) (hb k hk h1 h2)⟩
theorem qxc {D O : Type} {f : D → Option (D ⊕ O)} (I : D → Prop) (μ : D → Nat) (Q : O → Prop) (hs : ∀ d, I d → (∃ d', f d = some (.inl d') ∧ I d' ∧ μ d' < μ d) ∨ ∃ r, f d = some (.inr r) ∧ Q r) : ∀ (n : Nat) (d : D), I d → μ d < n → ∃ r, iterN f n d = some r ∧ Q r
  | 0, d, _, h => by omega
  | n + 1, d, hI, h => by
    rcases hs d hI with ⟨d', e, h1, h2⟩ | ⟨r, e, h1⟩
    · obtain ⟨r, q1, q2⟩ := qxc I μ Q hs n d' h1 (by omega)
      exact ⟨r, by simp only [iterN, e, Option.bind_some, Sum.elim_inl, q1], q2⟩
    · exact ⟨r, by simp only [iterN, e, Option.bind_some, Sum.elim_inr], h1⟩
theorem qxd {D O : Type} {f : D → Option (D ⊕ O)} {n : Nat} (hn : Fu n) (I : D → Prop) (μ : D → Nat) (Q : O → Prop) {d : D} (hd : I d) (hm : μ d < 1180591620717411303424) (hs : ∀ d, I d → (∃ d', f d = some (.inl d') ∧ I d' ∧ μ d' < μ d) ∨ ∃ r, f d = some (.inr r) ∧ Q r) : ∃ r, iterN f n d = some r ∧ Q r :=
  qxc I μ Q hs n d hd (hn.le hm)
theorem qxe {α : Type} {xs : List α} {i : Int} (d : α) (h0 : 0 ≤ i) (h1 : i < (xs.length : Int)) : idx xs i = some (xs.getD i.toNat d) := by
  unfold idx
  rw [if_pos h0, List.getD_eq_getElem?_getD, List.getElem?_eq_getElem (by omega)]; rfl
theorem qxf {x : Int} (h0 : -9223372036854775808 ≤ x) (h1 : x < 9223372036854775808) : IntKind.i64.wrap x = x := by
  have e : (2 : Int) ^ IntKind.i64.bits = 18446744073709551616 := by decide
  have e3 : (2 : Int) ^ (IntKind.i64.bits - 1) = 9223372036854775808 := by decide
  have e4 : IntKind.i64.signed = true := rfl
  simp only [IntKind.wrap, e, e3, e4, Bool.true_and, decide_eq_true_eq]
  by_cases h : 0 ≤ x
  · rw [Int.emod_eq_of_lt (by omega) (by omega)]; rw [if_neg (by omega)]
  · have : x % 18446744073709551616 = x + 18446744073709551616 := by omega
    rw [this, if_pos (by omega)]; omega
theorem up1 {i : Nat} (h : i < 4611686018427387904) : IntKind.i64.wrap ((i : Int) + 1) = ((i + 1 : Nat) : Int) := by
  rw [qxf (by omega) (by omega)]; omega
theorem qxg {n : Nat} (h : n ≤ 68719476736) : lenB n = true := by simp [lenB, h]
theorem qxh : ∀ p : Path, sameP p p = true
  | [] => rfl
  | .f1 :: p => qxh p
  | .f2 :: p => qxh p
  | .el i :: p => by simp [sameP, qxh p]
theorem zA {α : Type _} {β : Type _} (a : α) (f : α → Option β) : Option.bind (some a) f = f a := rfl
theorem zB {α : Type _} {β : Type _} {γ : Type _} (f : α → γ) (g : β → γ) (x : α) : Sum.elim f g (.inl x) = f x := rfl
theorem zC {α : Type _} {β : Type _} {γ : Type _} (f : α → γ) (g : β → γ) (x : β) : Sum.elim f g (.inr x) = g x := rfl
theorem zD {α : Sort _} (a b : α) : cond true a b = a := rfl
theorem zE {α : Sort _} (a b : α) : cond false a b = b := rfl
theorem zF : (!true) = false := rfl
theorem zG : (!false) = true := rfl
theorem zH (h : Decidable True) : @decide True h = true := decide_true h
theorem zI (h : Decidable False) : @decide False h = false := decide_false h
theorem zJ {α : Type _} [BEq α] [ReflBEq α] (a : α) : (a == a) = true := beq_self_eq_true a
theorem zK : (true = false) = False := Bool.true_eq_false
theorem zL : (false = true) = False := Bool.false_eq_true
theorem zM (n : Nat) : Int.toNat (n : Int) = n := Int.toNat_natCast n
theorem zN {α : Type _} {a b : List α} : (a ++ b).length = a.length + b.length := List.length_append
theorem zO {α : Type _} {a : α} {b : List α} : (a :: b).length = b.length + 1 := List.length_cons
theorem zP {α : Type _} : ([] : List α).length = 0 := List.length_nil
@[congr] theorem qxi {α β : Type} {x y : Option α} {f : α → Option β} (h : x = y) : Option.bind x f = Option.bind y f := by rw [h]
@[congr] theorem qxj {α : Type} {c d : Bool} {a b : α} (h : c = d) : cond c a b = cond d a b := by rw [h]
@[congr] theorem qxk {α β γ : Type} {f : α → γ} {g : β → γ} {x y : α ⊕ β} (h : x = y) : Sum.elim f g x = Sum.elim f g y := by rw [h]
@[congr] theorem qxl {R : Type} {b c : Bool} {k : Option R} (h : b = c) : chk b k = chk c k := by rw [h]
theorem qxm {R : Type} {k : Option R} : chk true k = k := rfl
theorem dpos {p : Prop} [Decidable p] (h : p) : decide p = true := decide_eq_true h
theorem dneg {p : Prop} [Decidable p] (h : ¬ p) : decide p = false := decide_eq_false h
def row (g : List (List Int)) (u : Nat) : List Int := g.getD u []
def rd (l : List Int) (i : Int) : Int := l.getD i.toNat 0
theorem qxn {l : List Int} {i : Int} (h0 : 0 ≤ i) (h : i < (l.length : Int)) : idx l i = some (rd l i) := qxe 0 h0 h
def tab {α : Type} (n : Nat) (f : Nat → α) : List α := (List.range n).map f
@[simp] theorem qxo {α : Type} (n : Nat) (f : Nat → α) : (tab n f).length = n := by simp [tab]
theorem qxp {α : Type} {n : Nat} {f : Nat → α} {i : Nat} (h : i < (tab n f).length) : (tab n f)[i] = f i := by simp [tab]
theorem qxq {α : Type} {n : Nat} {f : Nat → α} {i : Nat} {x : α} : (tab n f).set i x = tab n (fun j => if j = i then x else f j) := by
  apply List.ext_getElem
  · simp
  · intro j h1 h2
    rw [qxp, List.getElem_set]
    by_cases e : i = j
    · subst e; simp
    · rw [if_neg e, if_neg (fun h => e h.symm), qxp]
theorem qxr {α : Type} {n : Nat} {f g : Nat → α} (h : ∀ i, i < n → f i = g i) : tab n f = tab n g := by
  unfold tab
  exact List.map_congr_left (fun i hi => h i (List.mem_range.1 hi))
theorem qxs {α : Type} (n : Nat) (x : α) : List.replicate n x = tab n (fun _ => x) := by
  apply List.ext_getElem
  · simp
  · intro j h1 h2
    rw [qxp]; simp
end Go.Proofs.YtmidcfjmchpcnaaGreat.V
namespace Go.Proofs.YtmidcfjmchpcnaaGreat.V
open Go
set_option linter.unusedVariables false
set_option linter.all false
abbrev Stv := (Int × (Int × (Int × (Int × (Int × ((List (Bool × (Int × Unit))) × Unit)))))) × Unit
abbrev Stm := Rose Stv
abbrev Trm := Int × (List Int × Unit)
abbrev Prg := (Int × (Int × Unit)) × (Int × (Int × (List (List Trm) × (List Stm × Unit))))
def Fk (k n : Nat) : Prop := 1180591620717411303424 + k ≤ n
theorem Fk.fu {k n : Nat} (h : Fk k n) : Fu n := by unfold Fk at h; unfold Fu; omega
theorem Fk.down {k n : Nat} (h : Fk (k + 1) n) : ∃ m, n = m + 1 ∧ Fk k m := ⟨n - 1, by unfold Fk at h; omega, by unfold Fk at h ⊢; omega⟩
theorem Fk.le {k j n : Nat} (h : Fk k n) (hj : j ≤ k) : Fk j n := by unfold Fk at h ⊢; omega
def args (r : Stm) : List (Bool × (Int × Unit)) := r.val.1.2.2.2.2.2.1
def LnR (r : Stm) : Prop := RAll (fun v n => v.1.2.2.2.2.2.1.length ≤ 140737488351232 ∧ n ≤ 140737488351232) r
def Ln (l : List Stm) : Prop := l.length ≤ 140737488351232 ∧ ∀ r ∈ l, LnR r
theorem Ln.kid {l : List Stm} (h : Ln l) {r : Stm} (hr : r ∈ l) : (args r).length ≤ 140737488351232 ∧ Ln r.kids := by
  cases h.2 r hr with
  | mk h1 h2 => exact ⟨h1.1, h1.2, h2⟩
def Dp : Nat → List Stm → Prop
  | 0, _ => False
  | k + 1, l => ∀ r ∈ l, Dp k r.kids
def cnt : Nat → List Stm → Nat
  | 0, _ => 0
  | k + 1, l => l.length + (l.map fun r => (args r).length / 4 + cnt k r.kids).sum
theorem qxt {l : List Stm} {i : Nat} (h : i < l.length) : ∃ r, idx l (i : Int) = some r ∧ l[i]? = some r ∧ r ∈ l :=
  ⟨l[i], by unfold idx; rw [if_pos (by omega), Int.toNat_natCast, List.getElem?_eq_getElem h], List.getElem?_eq_getElem h, List.getElem_mem h⟩
theorem qxu {α : Type} {f : α → Nat} {l : List α} {i : Nat} {r : α} (h : l[i]? = some r) : ((l.take (i + 1)).map f).sum = ((l.take i).map f).sum + f r := by
  rw [List.take_add_one, h]; simp
theorem qxv {α : Type} {f : α → Nat} : ∀ (l : List α) (i : Nat), ((l.take i).map f).sum ≤ (l.map f).sum
  | [], _ => by simp
  | a :: l, 0 => by simp
  | a :: l, i + 1 => by simp only [List.take_succ_cons, List.map_cons, List.sum_cons]; have := qxv (f := f) l i; omega
theorem qxw : ∀ (k : Nat) {n : Nat} {l : List Stm} {c L : Nat}, Fk (k + 1) n → k + L = 71 → Ln l → c ≤ 3000 →
    (∃ c' : Int, qad n l (L : Int) (c : Int) = some ((true, ()), (c', ()))) ∨ (qad n l (L : Int) (c : Int) = some ((false, ()), (((c + cnt k l : Nat) : Int), ())) ∧ Dp k l ∧ c + cnt k l ≤ 3000) := by
  intro k
  induction k with
  | zero =>
    intro n l c L hn hL hl hc
    obtain ⟨m, rfl, hm⟩ := hn.down
    obtain rfl : L = 71 := by omega
    have hw : IntKind.i64.wrap ((c : Int) + (l.length : Int)) = ((c + l.length : Nat) : Int) := by rw [qxf (by omega) (by have := hl.1; omega)]; omega
    refine .inl ⟨((c + l.length : Nat) : Int), ?_⟩
    by_cases h3 : c + l.length ≤ 3000
    · simp (disch := first | assumption | omega) only [zA, zB, zC, zD, zE, zF, zG, qxm, qxg, qxh, zH, zI, dpos, dneg, zJ, zK, zL, zM, zN, zO, zP, qad, qac, hw]
    · simp (disch := first | assumption | omega) only [zA, zB, zC, zD, zE, zF, zG, qxm, qxg, qxh, zH, zI, dpos, dneg, zJ, zK, zL, zM, zN, zO, zP, qad, qac, hw]
  | succ k ih =>
    intro n l c L hn hL hl hc
    obtain ⟨m, rfl, hm⟩ := hn.down
    have hw : IntKind.i64.wrap ((c : Int) + (l.length : Int)) = ((c + l.length : Nat) : Int) := by rw [qxf (by omega) (by have := hl.1; omega)]; omega
    by_cases h3 : c + l.length ≤ 3000
    · let f : Stm → Nat := fun r => (args r).length / 4 + cnt k r.kids
      have loop := qxd (f := qab (qad m) m) hm.fu
        (fun d => ∃ (i : Nat), d = (l, (L : Int), (i : Int), ((c + l.length + ((l.take i).map f).sum : Nat) : Int), ()) ∧ i ≤ l.length ∧ c + l.length + ((l.take i).map f).sum ≤ 3000 ∧ ∀ r ∈ l.take i, Dp k r.kids)
        (fun d => ((l.length : Int) - d.2.2.1).toNat)
        (fun r => (∃ c' : Int, r = .inl (true, c', ())) ∨ (r = .inr (.inl (((c + cnt (k + 1) l : Nat) : Int), ())) ∧ Dp (k + 1) l ∧ c + cnt (k + 1) l ≤ 3000))
        (d := (l, (L : Int), 0, ((c + l.length : Nat) : Int), ()))
        ⟨0, by simp, Nat.zero_le _, by simpa using h3, by simp⟩ (by simp only; omega) (by
          rintro d ⟨i, rfl, h1, h2, h4⟩
          by_cases ci : i < l.length
          · obtain ⟨r, er, er', hr⟩ := qxt ci
            obtain ⟨ha, hk⟩ := hl.kid hr
            have e1 : Int.tdiv ((args r).length : Int) 4 = (((args r).length / 4 : Nat) : Int) := by rw [Int.tdiv_eq_ediv_of_nonneg (by omega)]; omega
            have e2 : IntKind.i64.wrap (((args r).length / 4 : Nat) : Int) = (((args r).length / 4 : Nat) : Int) := qxf (by omega) (by omega)
            have e3 : IntKind.i64.wrap (((c + l.length + ((l.take i).map f).sum : Nat) : Int) + (((args r).length / 4 : Nat) : Int)) = ((c + l.length + ((l.take i).map f).sum + (args r).length / 4 : Nat) : Int) := by rw [qxf (by omega) (by omega)]; omega
            by_cases h5 : c + l.length + ((l.take i).map f).sum + (args r).length / 4 ≤ 3000
            · have e4 : IntKind.i64.wrap ((L : Int) + 1) = ((L + 1 : Nat) : Int) := up1 (by omega)
              rcases ih (n := m) (l := r.kids) (c := c + l.length + ((l.take i).map f).sum + (args r).length / 4) (L := L + 1) hm (by omega) hk h5 with ⟨c', e⟩ | ⟨e, g1, g2⟩
              · refine .inr ⟨_, ?_, .inl ⟨c', rfl⟩⟩
                unfold args at e1 e2 e3 h5 e
                simp (disch := first | assumption | omega) only [zA, zB, zC, zD, zE, zF, zG, qxm, qxg, qxh, zH, zI, dpos, dneg, zJ, zK, zL, zM, zN, zO, zP, qab, qaa, er, e1, e2, e3, e4, e]
              · have hs : ((l.take (i + 1)).map f).sum = ((l.take i).map f).sum + ((args r).length / 4 + cnt k r.kids) := qxu er'
                refine .inl ⟨(l, (L : Int), ((i + 1 : Nat) : Int), ((c + l.length + ((l.take i).map f).sum + (args r).length / 4 + cnt k r.kids : Nat) : Int), ()), ?_, ⟨i + 1, ?_, ci, ?_, ?_⟩, by simp only; omega⟩
                · unfold args at e1 e2 e3 h5 e
                  simp (disch := first | assumption | omega) only [zA, zB, zC, zD, zE, zF, zG, qxm, qxg, qxh, zH, zI, dpos, dneg, zJ, zK, zL, zM, zN, zO, zP, qab, qaa, er, e1, e2, e3, e4, e, up1]
                  rfl
                · rw [hs]; simp only [Prod.mk.injEq, true_and, and_true]; omega
                · rw [hs]; omega
                · intro q hq
                  rw [List.take_add_one, er'] at hq
                  rcases List.mem_append.1 hq with hq | hq
                  · exact h4 q hq
                  · simp at hq; subst hq; exact g1
            · refine .inr ⟨_, ?_, .inl ⟨((c + l.length + ((l.take i).map f).sum + (args r).length / 4 : Nat) : Int), rfl⟩⟩
              unfold args at e1 e2 e3 h5
              simp (disch := first | assumption | omega) only [zA, zB, zC, zD, zE, zF, zG, qxm, qxg, qxh, zH, zI, dpos, dneg, zJ, zK, zL, zM, zN, zO, zP, qab, qaa, er, e1, e2, e3]
              rfl
          · obtain rfl : i = l.length := by omega
            rw [List.take_length] at h2 h4 ⊢
            have hcn : cnt (k + 1) l = l.length + (l.map f).sum := rfl
            refine .inr ⟨_, ?_, .inr ⟨rfl, h4, by omega⟩⟩
            simp (disch := first | assumption | omega) only [zA, zB, zC, zD, zE, zF, zG, qxm, qxg, qxh, zH, zI, dpos, dneg, zJ, zK, zL, zM, zN, zO, zP, qab, qaa]
            rw [hcn, Nat.add_assoc])
      obtain ⟨r, e, h⟩ := loop
      rcases h with ⟨c', rfl⟩ | ⟨rfl, g1, g2⟩
      · refine .inl ⟨c', ?_⟩
        simp (disch := first | assumption | omega) only [zA, zB, zC, zD, zE, zF, zG, qxm, qxg, qxh, zH, zI, dpos, dneg, zJ, zK, zL, zM, zN, zO, zP, qad, qac, hw, e]
      · refine .inr ⟨?_, g1, g2⟩
        simp (disch := first | assumption | omega) only [zA, zB, zC, zD, zE, zF, zG, qxm, qxg, qxh, zH, zI, dpos, dneg, zJ, zK, zL, zM, zN, zO, zP, qad, qac, hw, e]
    · refine .inl ⟨((c + l.length : Nat) : Int), ?_⟩
      simp (disch := first | assumption | omega) only [zA, zB, zC, zD, zE, zF, zG, qxm, qxg, qxh, zH, zI, dpos, dneg, zJ, zK, zL, zM, zN, zO, zP, qad, qac, hw]
theorem qxx {k : Nat} {l : List Stm} {r : Stm} (hr : r ∈ l) : l.length + (args r).length / 4 + cnt k r.kids ≤ cnt (k + 1) l := by
  have : ∀ {l : List Stm}, r ∈ l → (args r).length / 4 + cnt k r.kids ≤ (l.map fun r => (args r).length / 4 + cnt k r.kids).sum := by
    intro l
    induction l with
    | nil => intro h; cases h
    | cons a l ih =>
      intro h
      simp only [List.map_cons, List.sum_cons]
      rcases List.mem_cons.1 h with rfl | h
      · omega
      · have := ih h; omega
  have := this hr
  simp only [cnt]; omega
theorem qxy {k : Nat} {l : List Stm} : l.length ≤ cnt (k + 1) l := by simp only [cnt]; omega
structure Sma (k B : Nat) (l : List Stm) : Prop where
  dp : Dp k l
  ct : cnt k l ≤ B
theorem Sma.pos {k B : Nat} {l : List Stm} (h : Sma k B l) : ∃ j, k = j + 1 := by
  cases k with
  | zero => exact h.dp.elim
  | succ j => exact ⟨j, rfl⟩
theorem Sma.len {k B : Nat} {l : List Stm} (h : Sma k B l) : l.length ≤ B := by
  obtain ⟨j, rfl⟩ := h.pos
  exact Nat.le_trans qxy h.ct
theorem Sma.kid {k B : Nat} {l : List Stm} (h : Sma (k + 1) B l) {r : Stm} (hr : r ∈ l) : Sma k B r.kids ∧ (args r).length ≤ 4 * B + 3 := by
  have h1 := qxx (k := k) hr
  have h2 := h.ct
  exact ⟨⟨h.dp r hr, by omega⟩, by omega⟩
theorem qxz (r : Stm) {ks : List Stm} (h : ks = r.kids) : (Rose.node ((r.val.1.1, (r.val.1.2.1, (r.val.1.2.2.1, (r.val.1.2.2.2.1, (r.val.1.2.2.2.2.1, ((([] : List (Bool × (Int × Unit))) ++ r.val.1.2.2.2.2.2.1), ())))))), ()) ks : Stm) = r := by
  subst h
  cases r with
  | node v ks => rfl
theorem qx0 : ∀ (k : Nat) {n B : Nat} {l : List Stm}, Fk k n → Sma k B l → B ≤ 1000000000 → qfr n l = some (l, ()) := by
  intro k
  induction k with
  | zero => intro n B l _ h _; exact h.dp.elim
  | succ k ih =>
    intro n B l hn h hB
    obtain ⟨m, rfl, hm⟩ := hn.down
    have hlen := h.len
    have loop := qw9 (f := qfp (qfr m) m) hm.fu (fun i => (l, (i : Int), l.take i, ())) l.length (d := (l, 0, [], ())) (r := .inl (l, ())) (by omega) rfl (by
      intro i hi
      obtain ⟨r, er, er', hr⟩ := qxt hi
      obtain ⟨h1, h2⟩ := h.kid hr
      have e := ih hm h1 hB
      have e2 : (args r).length = r.val.1.2.2.2.2.2.1.length := rfl
      have e3 : (l.take i).length = i := by rw [List.length_take]; omega
      simp (disch := first | assumption | omega) only [zA, zB, zC, zD, zE, zF, zG, qxm, qxg, qxh, zH, zI, dpos, dneg, zJ, zK, zL, zM, zN, zO, zP, qfp, qfo, er, e, up1, e3]
      rw [List.take_add_one, er']
      exact congrArg (fun x => some (Sum.inl (l, ((i + 1 : Nat) : Int), l.take i ++ [x], ()))) (qxz r rfl)) (by
      simp (disch := first | assumption | omega) only [zA, zB, zC, zD, zE, zF, zG, qxm, qxg, qxh, zH, zI, dpos, dneg, zJ, zK, zL, zM, zN, zO, zP, qfp, qfo, List.take_length])
    simp (disch := first | assumption | omega) only [zA, zB, zC, zD, zE, zF, zG, qxm, qxg, qxh, zH, zI, dpos, dneg, zJ, zK, zL, zM, zN, zO, zP, qfr, qfq, loop]
def psz (p : List Trm) : Nat := (p.map fun t => 1 + t.2.1.length).sum
def pss (l : List (List Trm)) : Nat := (l.map psz).sum
def LnP (l : List (List Trm)) : Prop := l.length ≤ 140737488351232 ∧ ∀ p ∈ l, p.length ≤ 140737488351232 ∧ ∀ t ∈ p, t.2.1.length ≤ 140737488351232
theorem qx1 {α : Type} {l : List α} {i : Nat} (h : i < l.length) : ∃ r, idx l (i : Int) = some r ∧ l[i]? = some r ∧ r ∈ l :=
  ⟨l[i], by unfold idx; rw [if_pos (by omega), Int.toNat_natCast, List.getElem?_eq_getElem h], List.getElem?_eq_getElem h, List.getElem_mem h⟩
theorem qx2 {α : Type} {f : α → Nat} {l : List α} {a : α} (h : a ∈ l) : f a ≤ (l.map f).sum := by
  induction l with
  | nil => cases h
  | cons b l ih =>
    simp only [List.map_cons, List.sum_cons]
    rcases List.mem_cons.1 h with rfl | h
    · omega
    · have := ih h; omega
theorem qx3 (p : List Trm) : p.length ≤ psz p := by
  induction p with
  | nil => simp [psz]
  | cons a l ih => simp only [psz, List.map_cons, List.sum_cons, List.length_cons] at ih ⊢; omega
theorem qx4 {n B : Nat} {p : Prg} (hn : Fk 71 n) (hs : Sma 71 B p.2.2.2.2.1) (hB : B ≤ 1000000000) (h1 : p.2.2.2.1.length ≤ 1000000) (h2 : pss p.2.2.2.1 ≤ 1000000) : qfw n p = some (p, ()) := by
  obtain ⟨F, R, I, P, S, ⟨⟩⟩ := p
  have e0 := qx0 71 hn hs hB
  have inner : ∀ (i : Nat) (q : List Trm) (t2 o : Prg), idx P (i : Int) = some q → q ∈ P → iterN (qft n) n ((F, R, I, P, S, ()), (i : Int), 0, t2, o, [], ()) = some (.inl ((F, R, I, P, S, ()), (i : Int), t2, o, q, ())) := by
    intro i q t2 o eq hq
    have hl : psz q ≤ pss P := qx2 hq
    have hl2 := qx3 q
    replace h2 : pss P ≤ 1000000 := h2
    refine qw9 (f := qft n) hn.fu (fun k => ((F, R, I, P, S, ()), (i : Int), (k : Int), t2, o, q.take k, ())) q.length (by omega) rfl (fun k hk => ?_) ?_
    · obtain ⟨t, et, et', ht⟩ := qx1 hk
      have h3 : 1 + t.2.1.length ≤ psz q := qx2 (f := fun t : Trm => 1 + t.2.1.length) ht
      have e3 : (q.take k).length = k := by rw [List.length_take]; omega
      simp (disch := first | assumption | omega) only [zA, zB, zC, zD, zE, zF, zG, qxm, qxg, qxh, zH, zI, dpos, dneg, zJ, zK, zL, zM, zN, zO, zP, qft, qfs, eq, et, up1, e3]
      rw [List.take_add_one, et']; rfl
    · simp (disch := first | assumption | omega) only [zA, zB, zC, zD, zE, zF, zG, qxm, qxg, qxh, zH, zI, dpos, dneg, zJ, zK, zL, zM, zN, zO, zP, qft, qfs, eq, List.take_length]
  have loop := qw9 (f := qfv n) hn.fu (fun i => ((F, R, I, P, S, ()), (i : Int), (((0 : Int), ((0 : Int), ())), ((0 : Int), ((0 : Int), (([] : List (List Trm)), (([] : List Stm), ()))))), ((F, R, I, P.take i, S, ()) : Prg), ())) P.length
    (d := ((F, R, I, P, S, ()), 0, (((0 : Int), ((0 : Int), ())), ((0 : Int), ((0 : Int), (([] : List (List Trm)), (([] : List Stm), ()))))), (F, R, I, [], S, ()), ())) (r := .inl ((((0 : Int), ((0 : Int), ())), ((0 : Int), ((0 : Int), (([] : List (List Trm)), (([] : List Stm), ()))))), (F, R, I, P, S, ()), ())) (by replace h1 : P.length ≤ 1000000 := h1; omega) rfl (by
      intro i hi
      replace h1 : P.length ≤ 1000000 := h1
      obtain ⟨q, eq, eq', hq⟩ := qx1 hi
      have e := inner i q (((0 : Int), ((0 : Int), ())), ((0 : Int), ((0 : Int), (([] : List (List Trm)), (([] : List Stm), ()))))) (F, R, I, P.take i, S, ()) eq hq
      have e3 : (P.take i).length = i := by rw [List.length_take]; omega
      simp (disch := first | assumption | omega) only [zA, zB, zC, zD, zE, zF, zG, qxm, qxg, qxh, zH, zI, dpos, dneg, zJ, zK, zL, zM, zN, zO, zP, qfv, qfu, e, up1, e3]
      rw [List.take_add_one, eq']; rfl) (by
      simp (disch := first | assumption | omega) only [zA, zB, zC, zD, zE, zF, zG, qxm, qxg, qxh, zH, zI, dpos, dneg, zJ, zK, zL, zM, zN, zO, zP, qfv, qfu, List.take_length])
  simp (disch := first | assumption | omega) only [zA, zB, zC, zD, zE, zF, zG, qxm, qxg, qxh, zH, zI, dpos, dneg, zJ, zK, zL, zM, zN, zO, zP, qfw, e0, loop]
theorem qx5 {q : List Trm} {k : Nat} {t : Trm} (h : q[k]? = some t) : psz (q.take (k + 1)) = psz (q.take k) + (1 + t.2.1.length) := qxu h
theorem qx6 {P : List (List Trm)} {i : Nat} {q : List Trm} (h : P[i]? = some q) : pss (P.take (i + 1)) = pss (P.take i) + psz q := qxu h
structure Nar (p : Prg) : Prop where
  body : Sma 71 3000 p.2.2.2.2.1
  polys : p.2.2.2.1.length ≤ 1100
  size : pss p.2.2.2.1 ≤ 20000
theorem qx7 {n : Nat} {p : Prg} (hn : Fk 72 n) (hl : Ln p.2.2.2.2.1) (hp : LnP p.2.2.2.1) : qai n p = some (true, ()) ∨ (qai n p = some (false, ()) ∧ Nar p) := by
  by_cases c1 : p.2.2.2.1.length ≤ 1100
  · rcases qxw 71 (c := 0) (L := 0) hn rfl hl (by omega) with ⟨c', e⟩ | ⟨e, g1, g2⟩
    · refine .inl ?_
      replace e : qad n p.2.2.2.2.1 0 0 = some ((true, ()), c', ()) := e
      simp (disch := first | assumption | omega) only [zA, zB, zC, zD, zE, zF, zG, qxm, qxg, qxh, zH, zI, dpos, dneg, zJ, zK, zL, zM, zN, zO, zP, qai, e]
    · replace e : qad n p.2.2.2.2.1 0 0 = some ((false, ()), ((0 + cnt 71 p.2.2.2.2.1 : Nat) : Int), ()) := e
      have inner : ∀ (i c0 : Nat) (q : List Trm), idx p.2.2.2.1 (i : Int) = some q → q ∈ p.2.2.2.1 → c0 ≤ 140737488400000 → ∃ c, iterN (qaf n) n (p, (i : Int), 0, (c0 : Int), ()) = some (.inl (p, (i : Int), ((c : Nat) : Int), ())) ∧ c ≤ 140737488400000 ∧ (c ≤ 20000 → c0 ≤ 20000 ∧ c = c0 + psz q) := by
        intro i c0 q eq hq h0
        obtain ⟨hq1, hq2⟩ := hp.2 q hq
        obtain ⟨r, e, c, rfl, h1, h2⟩ := qxd (f := qaf n) hn.fu
          (fun d => ∃ (k c : Nat), d = (p, (i : Int), (k : Int), (c : Int), ()) ∧ k ≤ q.length ∧ c ≤ 140737488400000 ∧ (c ≤ 20000 → c0 ≤ 20000 ∧ c = c0 + psz (q.take k)))
          (fun d => ((q.length : Int) - d.2.2.1).toNat)
          (fun r => ∃ c : Nat, r = .inl (p, (i : Int), (c : Int), ()) ∧ c ≤ 140737488400000 ∧ (c ≤ 20000 → c0 ≤ 20000 ∧ c = c0 + psz q))
          (d := (p, (i : Int), 0, (c0 : Int), ())) ⟨0, c0, rfl, Nat.zero_le _, h0, fun h => ⟨h, by simp [psz]⟩⟩ (by simp only; omega) (by
            rintro d ⟨k, c, rfl, h1, h2, h3⟩
            by_cases ck : k < q.length
            · by_cases cc : c ≤ 20000
              · obtain ⟨t, et, et', ht⟩ := qx1 ck
                have hE := hq2 t ht
                have w1 : IntKind.i64.wrap (1 + (t.2.1.length : Int)) = ((1 + t.2.1.length : Nat) : Int) := by rw [qxf (by omega) (by omega)]; omega
                have w2 : IntKind.i64.wrap ((c : Int) + ((1 + t.2.1.length : Nat) : Int)) = ((c + (1 + t.2.1.length) : Nat) : Int) := by rw [qxf (by omega) (by omega)]; omega
                refine .inl ⟨(p, (i : Int), ((k + 1 : Nat) : Int), ((c + (1 + t.2.1.length) : Nat) : Int), ()), ?_, ⟨k + 1, _, rfl, ck, by omega, fun h => ?_⟩, by simp only; omega⟩
                · simp (disch := first | assumption | omega) only [zA, zB, zC, zD, zE, zF, zG, qxm, qxg, qxh, zH, zI, dpos, dneg, zJ, zK, zL, zM, zN, zO, zP, qaf, qae, eq, et, w1, w2, up1]
                · obtain ⟨g1, g2⟩ := h3 cc
                  exact ⟨g1, by rw [qx5 et']; omega⟩
              · refine .inr ⟨_, ?_, c, rfl, h2, fun h => absurd h cc⟩
                simp (disch := first | assumption | omega) only [zA, zB, zC, zD, zE, zF, zG, qxm, qxg, qxh, zH, zI, dpos, dneg, zJ, zK, zL, zM, zN, zO, zP, qaf, qae, eq]
            · obtain rfl : k = q.length := by omega
              rw [List.take_length] at h3
              refine .inr ⟨_, ?_, c, rfl, h2, h3⟩
              simp (disch := first | assumption | omega) only [zA, zB, zC, zD, zE, zF, zG, qxm, qxg, qxh, zH, zI, dpos, dneg, zJ, zK, zL, zM, zN, zO, zP, qaf, qae, eq])
        exact ⟨c, e, h1, h2⟩
      obtain ⟨r, el, c, rfl, h1, h2⟩ := qxd (f := qah n) hn.fu
        (fun d => ∃ (i c : Nat), d = (p, (i : Int), (c : Int), ()) ∧ i ≤ p.2.2.2.1.length ∧ c ≤ 140737488400000 ∧ (c ≤ 20000 → c = pss (p.2.2.2.1.take i)))
        (fun d => ((p.2.2.2.1.length : Int) - d.2.1).toNat)
        (fun r => ∃ c : Nat, r = .inl ((c : Int), ()) ∧ c ≤ 140737488400000 ∧ (c ≤ 20000 → c = pss p.2.2.2.1))
        (d := (p, 0, 0, ())) ⟨0, 0, rfl, Nat.zero_le _, by omega, fun _ => by simp [pss]⟩ (by simp only; omega) (by
          rintro d ⟨i, c, rfl, h1, h2, h3⟩
          by_cases ci : i < p.2.2.2.1.length
          · obtain ⟨q, eq, eq', hq⟩ := qx1 ci
            obtain ⟨c', e', g1, g2⟩ := inner i c q eq hq h2
            refine .inl ⟨(p, ((i + 1 : Nat) : Int), (c' : Int), ()), ?_, ⟨i + 1, c', rfl, ci, g1, fun h => ?_⟩, by simp only; omega⟩
            · simp (disch := first | assumption | omega) only [zA, zB, zC, zD, zE, zF, zG, qxm, qxg, qxh, zH, zI, dpos, dneg, zJ, zK, zL, zM, zN, zO, zP, qah, qag, e', up1]
            · obtain ⟨k1, k2⟩ := g2 h
              rw [qx6 eq', k2, h3 k1]
          · obtain rfl : i = p.2.2.2.1.length := by omega
            rw [List.take_length] at h3
            refine .inr ⟨_, ?_, c, rfl, h2, h3⟩
            simp (disch := first | assumption | omega) only [zA, zB, zC, zD, zE, zF, zG, qxm, qxg, qxh, zH, zI, dpos, dneg, zJ, zK, zL, zM, zN, zO, zP, qah, qag])
      by_cases cc : c ≤ 20000
      · refine .inr ⟨?_, ⟨g1, by omega⟩, c1, by rw [← h2 cc]; exact cc⟩
        simp (disch := first | assumption | omega) only [zA, zB, zC, zD, zE, zF, zG, qxm, qxg, qxh, zH, zI, dpos, dneg, zJ, zK, zL, zM, zN, zO, zP, qai, e, el]
      · refine .inl ?_
        simp (disch := first | assumption | omega) only [zA, zB, zC, zD, zE, zF, zG, qxm, qxg, qxh, zH, zI, dpos, dneg, zJ, zK, zL, zM, zN, zO, zP, qai, e, el]
  · refine .inl ?_
    simp (disch := first | assumption | omega) only [zA, zB, zC, zD, zE, zF, zG, qxm, qxg, qxh, zH, zI, dpos, dneg, zJ, zK, zL, zM, zN, zO, zP, qai]
end Go.Proofs.YtmidcfjmchpcnaaGreat.V
namespace Go.Proofs.YtmidcfjmchpcnaaGreat.V
open Go Classical
set_option linter.unusedVariables false
set_option linter.all false
def pr (N : Nat) : Prop := ∀ d : Nat, 2 ≤ d → d * d ≤ N → N % d ≠ 0
theorem qx8 {d : Nat} (h : d ≤ 65537) : IntKind.i64.wrap ((d : Int) * (d : Int)) = ((d * d : Nat) : Int) := by
  have h1 : d * d ≤ 65537 * 65537 := Nat.mul_le_mul h h
  rw [← Int.natCast_mul, qxf (by omega) (by omega)]
theorem qx9 (a b : Nat) : Int.tmod (a : Int) (b : Int) = ((a % b : Nat) : Int) := rfl
theorem qya {n N : Nat} (hn : Fu n) (h1 : 2 ≤ N) (h2 : N ≤ 65536) : qao n (N : Int) = some (decide (pr N), ()) := by
  obtain ⟨r, e, h⟩ := qxd (f := qan n) hn
    (fun d => ∃ i : Nat, d = ((N : Int), (i : Int), ()) ∧ 2 ≤ i ∧ i ≤ N + 1 ∧ ∀ j, 2 ≤ j → j < i → N % j ≠ 0)
    (fun d => ((N : Int) + 1 - d.2.1).toNat)
    (fun r => (r = .inl (false, ()) ∧ ¬ pr N) ∨ (r = .inr (.inl ((N : Int), ())) ∧ pr N))
    (d := ((N : Int), 2, ())) ⟨2, rfl, by omega, by omega, fun j h h' => by omega⟩ (by simp only; omega) (by
      rintro d ⟨i, rfl, h3, h4, h5⟩
      have w := qx8 (d := i) (by omega)
      by_cases c : i * i ≤ N
      · have c' : ((i * i : Nat) : Int) ≤ (N : Int) := by exact_mod_cast c
        have hi : i ≤ N := Nat.le_trans (Nat.le_mul_of_pos_right i (by omega)) c
        by_cases c2 : N % i = 0
        · refine .inr ⟨_, ?_, .inl ⟨rfl, fun hp => hp i h3 c c2⟩⟩
          have e2 : Int.tmod (N : Int) (i : Int) = 0 := by rw [qx9, c2]; rfl
          simp (disch := first | assumption | omega) only [zA, zB, zC, zD, zE, zF, zG, qxm, qxg, qxh, zH, zI, dpos, dneg, zJ, zK, zL, zM, zN, zO, zP, qan, qam, w, e2]
        · refine .inl ⟨((N : Int), ((i + 1 : Nat) : Int), ()), ?_, ⟨i + 1, rfl, by omega, by omega, fun j hj hj' => ?_⟩, by simp only; omega⟩
          · have e2 : ¬ Int.tmod (N : Int) (i : Int) = 0 := by rw [qx9]; omega
            simp (disch := first | assumption | omega) only [zA, zB, zC, zD, zE, zF, zG, qxm, qxg, qxh, zH, zI, dpos, dneg, zJ, zK, zL, zM, zN, zO, zP, qan, qam, w, up1]
          · rcases Nat.lt_or_ge j i with h | h
            · exact h5 j hj h
            · obtain rfl : j = i := by omega
              exact c2
      · have c' : ¬ ((i * i : Nat) : Int) ≤ (N : Int) := by intro h; exact c (by exact_mod_cast h)
        refine .inr ⟨_, ?_, .inr ⟨rfl, fun d hd hd2 => h5 d hd ?_⟩⟩
        · simp (disch := first | assumption | omega) only [zA, zB, zC, zD, zE, zF, zG, qxm, qxg, qxh, zH, zI, dpos, dneg, zJ, zK, zL, zM, zN, zO, zP, qan, qam, w]
        · rcases Nat.lt_or_ge d i with h | h
          · exact h
          · exact absurd (Nat.le_trans (Nat.mul_le_mul h h) hd2) c)
  rcases h with ⟨rfl, h⟩ | ⟨rfl, h⟩
  · simp (disch := first | assumption | omega) only [zA, zB, zC, zD, zE, zF, zG, qxm, qxg, qxh, zH, zI, dpos, dneg, zJ, zK, zL, zM, zN, zO, zP, qao, e]
  · simp (disch := first | assumption | omega) only [zA, zB, zC, zD, zE, zF, zG, qxm, qxg, qxh, zH, zI, dpos, dneg, zJ, zK, zL, zM, zN, zO, zP, qao, e]
theorem qyb {n N : Nat} (hn : Fu n) (h1 : 2 ≤ N) (h2 : N ≤ 65536) : qd9 n (N : Int) = some (decide (pr N), ()) := by
  obtain ⟨r, e, h⟩ := qxd (f := qd8 n) hn
    (fun d => ∃ i : Nat, d = ((N : Int), (i : Int), ()) ∧ 2 ≤ i ∧ i ≤ N + 1 ∧ ∀ j, 2 ≤ j → j < i → N % j ≠ 0)
    (fun d => ((N : Int) + 1 - d.2.1).toNat)
    (fun r => (r = .inl (false, ()) ∧ ¬ pr N) ∨ (r = .inr (.inl ()) ∧ pr N))
    (d := ((N : Int), 2, ())) ⟨2, rfl, by omega, by omega, fun j h h' => by omega⟩ (by simp only; omega) (by
      rintro d ⟨i, rfl, h3, h4, h5⟩
      have w := qx8 (d := i) (by omega)
      by_cases c : i * i ≤ N
      · have c' : ((i * i : Nat) : Int) ≤ (N : Int) := by exact_mod_cast c
        have hi : i ≤ N := Nat.le_trans (Nat.le_mul_of_pos_right i (by omega)) c
        by_cases c2 : N % i = 0
        · refine .inr ⟨_, ?_, .inl ⟨rfl, fun hp => hp i h3 c c2⟩⟩
          have e2 : Int.tmod (N : Int) (i : Int) = 0 := by rw [qx9, c2]; rfl
          simp (disch := first | assumption | omega) only [zA, zB, zC, zD, zE, zF, zG, qxm, qxg, qxh, zH, zI, dpos, dneg, zJ, zK, zL, zM, zN, zO, zP, qd8, qd7, w, e2]
        · refine .inl ⟨((N : Int), ((i + 1 : Nat) : Int), ()), ?_, ⟨i + 1, rfl, by omega, by omega, fun j hj hj' => ?_⟩, by simp only; omega⟩
          · have e2 : ¬ Int.tmod (N : Int) (i : Int) = 0 := by rw [qx9]; omega
            simp (disch := first | assumption | omega) only [zA, zB, zC, zD, zE, zF, zG, qxm, qxg, qxh, zH, zI, dpos, dneg, zJ, zK, zL, zM, zN, zO, zP, qd8, qd7, w, up1]
          · rcases Nat.lt_or_ge j i with h | h
            · exact h5 j hj h
            · obtain rfl : j = i := by omega
              exact c2
      · have c' : ¬ ((i * i : Nat) : Int) ≤ (N : Int) := by intro h; exact c (by exact_mod_cast h)
        refine .inr ⟨_, ?_, .inr ⟨rfl, fun d hd hd2 => h5 d hd ?_⟩⟩
        · simp (disch := first | assumption | omega) only [zA, zB, zC, zD, zE, zF, zG, qxm, qxg, qxh, zH, zI, dpos, dneg, zJ, zK, zL, zM, zN, zO, zP, qd8, qd7, w]
        · rcases Nat.lt_or_ge d i with h | h
          · exact h
          · exact absurd (Nat.le_trans (Nat.mul_le_mul h h) hd2) c)
  rcases h with ⟨rfl, h⟩ | ⟨rfl, h⟩
  · simp (disch := first | assumption | omega) only [zA, zB, zC, zD, zE, zF, zG, qxm, qxg, qxh, zH, zI, dpos, dneg, zJ, zK, zL, zM, zN, zO, zP, qd9, e]
  · simp (disch := first | assumption | omega) only [zA, zB, zC, zD, zE, zF, zG, qxm, qxg, qxh, zH, zI, dpos, dneg, zJ, zK, zL, zM, zN, zO, zP, qd9, e]
abbrev Fld := Int × (Int × Unit)
structure FV (f : Fld) : Prop where
  p1 : 2 ≤ f.1
  p2 : f.1 ≤ 65536
  m1 : 1 ≤ f.2.1
  m2 : f.2.1 ≤ 16
  two : 1 < f.2.1 → f.1 = 2
  prm : pr f.1.toNat
theorem qyc {n : Nat} (hn : Fu n) (f : Fld) : qap n f = some (decide (FV f), ()) := by
  by_cases h1 : f.1 < 2
  · rw [decide_eq_false (fun h => absurd h.p1 (by omega))]; simp (disch := first | assumption | omega) only [zA, zB, zC, zD, zE, zF, zG, qxm, qxg, qxh, zH, zI, dpos, dneg, zJ, zK, zL, zM, zN, zO, zP, qap]
  by_cases h2 : 65536 < f.1
  · rw [decide_eq_false (fun h => absurd h.p2 (by omega))]; simp (disch := first | assumption | omega) only [zA, zB, zC, zD, zE, zF, zG, qxm, qxg, qxh, zH, zI, dpos, dneg, zJ, zK, zL, zM, zN, zO, zP, qap]
  by_cases h3 : f.2.1 < 1
  · rw [decide_eq_false (fun h => absurd h.m1 (by omega))]; simp (disch := first | assumption | omega) only [zA, zB, zC, zD, zE, zF, zG, qxm, qxg, qxh, zH, zI, dpos, dneg, zJ, zK, zL, zM, zN, zO, zP, qap]
  by_cases h4 : 16 < f.2.1
  · rw [decide_eq_false (fun h => absurd h.m2 (by omega))]; simp (disch := first | assumption | omega) only [zA, zB, zC, zD, zE, zF, zG, qxm, qxg, qxh, zH, zI, dpos, dneg, zJ, zK, zL, zM, zN, zO, zP, qap]
  have e := qya (n := n) (N := f.1.toNat) hn (by omega) (by omega)
  rw [Int.toNat_of_nonneg (by omega)] at e
  by_cases h5 : 1 < f.2.1
  · by_cases h6 : f.1 = 2
    · have : decide (FV f) = decide (pr f.1.toNat) := by
        by_cases c : pr f.1.toNat
        · rw [decide_eq_true c, decide_eq_true (⟨by omega, by omega, by omega, by omega, fun _ => h6, c⟩ : FV f)]
        · rw [decide_eq_false c, decide_eq_false (fun h : FV f => c h.prm)]
      rw [this]
      simp (disch := first | assumption | omega) only [zA, zB, zC, zD, zE, zF, zG, qxm, qxg, qxh, zH, zI, dpos, dneg, zJ, zK, zL, zM, zN, zO, zP, qap, e]
    · rw [decide_eq_false (fun h : FV f => h6 (h.two h5))]
      simp (disch := first | assumption | omega) only [zA, zB, zC, zD, zE, zF, zG, qxm, qxg, qxh, zH, zI, dpos, dneg, zJ, zK, zL, zM, zN, zO, zP, qap]
  · have : decide (FV f) = decide (pr f.1.toNat) := by
      by_cases c : pr f.1.toNat
      · rw [decide_eq_true c, decide_eq_true (⟨by omega, by omega, by omega, by omega, fun h => absurd h h5, c⟩ : FV f)]
      · rw [decide_eq_false c, decide_eq_false (fun h : FV f => c h.prm)]
    rw [this]
    simp (disch := first | assumption | omega) only [zA, zB, zC, zD, zE, zF, zG, qxm, qxg, qxh, zH, zI, dpos, dneg, zJ, zK, zL, zM, zN, zO, zP, qap, e]
def qF (f : Fld) : Int := if 1 < f.2.1 then 2 ^ f.2.1.toNat else f.1
theorem qyd {M : Int} (h1 : 1 ≤ M) (h2 : M ≤ 16) : IntKind.i64.wrap ((1 : Int) * 2 ^ (min M.toNat IntKind.i64.bits)) = 2 ^ M.toNat ∧ (2 : Int) ^ M.toNat ≤ 65536 ∧ (2 : Int) ≤ 2 ^ M.toNat := by
  obtain ⟨k, rfl⟩ : ∃ k : Nat, M = (k : Int) := ⟨M.toNat, by omega⟩
  have h1 : 1 ≤ k := by omega
  have h2 : k ≤ 16 := by omega
  rw [Int.toNat_natCast]
  have e : min k IntKind.i64.bits = k := Nat.min_eq_left (by have : IntKind.i64.bits = 64 := rfl; omega)
  have a1 : (2 : Nat) ^ k ≤ 2 ^ 16 := Nat.pow_le_pow_right (by omega) h2
  have a2 : (2 : Nat) ^ 1 ≤ 2 ^ k := Nat.pow_le_pow_right (by omega) h1
  have e3 : (2 : Int) ^ k = ((2 ^ k : Nat) : Int) := by rw [Int.natCast_pow]; rfl
  rw [e, Int.one_mul, e3]
  refine ⟨qxf (by omega) (by omega), by omega, by omega⟩
theorem qye {f : Fld} (h : FV f) : 2 ≤ qF f ∧ qF f ≤ 65536 := by
  unfold qF
  by_cases c : 1 < f.2.1
  · rw [if_pos c]; exact ⟨(qyd h.m1 h.m2).2.2, (qyd h.m1 h.m2).2.1⟩
  · rw [if_neg c]; exact ⟨h.p1, h.p2⟩
theorem qyf {n : Nat} (hn : Fu n) {f : Fld} (h : FV f) : qar n f = some (qF f, ()) := by
  have e := qyc hn f
  rw [decide_eq_true h] at e
  have hm := h.m1
  unfold qF
  by_cases c : 1 < f.2.1
  · have w := (qyd h.m1 h.m2).1
    rw [if_pos c]
    simp (disch := first | assumption | omega) only [zA, zB, zC, zD, zE, zF, zG, qxm, qxg, qxh, zH, zI, dpos, dneg, zJ, zK, zL, zM, zN, zO, zP, qar, e, w]
  · rw [if_neg c]
    simp (disch := first | assumption | omega) only [zA, zB, zC, zD, zE, zF, zG, qxm, qxg, qxh, zH, zI, dpos, dneg, zJ, zK, zL, zM, zN, zO, zP, qar, e]
theorem qyg {n : Nat} (hn : Fu n) (f : Fld) : qea n f = some (decide (FV f), ()) := by
  by_cases h1 : f.1 < 2
  · rw [decide_eq_false (fun h => absurd h.p1 (by omega))]; simp (disch := first | assumption | omega) only [zA, zB, zC, zD, zE, zF, zG, qxm, qxg, qxh, zH, zI, dpos, dneg, zJ, zK, zL, zM, zN, zO, zP, qea, qd9]
  by_cases h2 : 65536 < f.1
  · rw [decide_eq_false (fun h => absurd h.p2 (by omega))]; simp (disch := first | assumption | omega) only [zA, zB, zC, zD, zE, zF, zG, qxm, qxg, qxh, zH, zI, dpos, dneg, zJ, zK, zL, zM, zN, zO, zP, qea, qd9]
  have e := qyb (n := n) (N := f.1.toNat) hn (by omega) (by omega)
  rw [Int.toNat_of_nonneg (by omega)] at e
  by_cases c : pr f.1.toNat
  · rw [decide_eq_true c] at e
    by_cases h3 : f.2.1 < 1
    · rw [decide_eq_false (fun h => absurd h.m1 (by omega))]; simp (disch := first | assumption | omega) only [zA, zB, zC, zD, zE, zF, zG, qxm, qxg, qxh, zH, zI, dpos, dneg, zJ, zK, zL, zM, zN, zO, zP, qea, e]
    by_cases h4 : 16 < f.2.1
    · rw [decide_eq_false (fun h => absurd h.m2 (by omega))]; simp (disch := first | assumption | omega) only [zA, zB, zC, zD, zE, zF, zG, qxm, qxg, qxh, zH, zI, dpos, dneg, zJ, zK, zL, zM, zN, zO, zP, qea, e]
    by_cases h5 : 1 < f.2.1
    · by_cases h6 : f.1 = 2
      · rw [decide_eq_true (⟨by omega, by omega, by omega, by omega, fun _ => h6, c⟩ : FV f)]
        have w := qyd (M := f.2.1) (by omega) (by omega)
        have w2 := w.2.1
        have h7 : ¬ f.2.1 = 1 := by omega
        replace w := w.1
        simp (disch := first | assumption | omega) only [zA, zB, zC, zD, zE, zF, zG, qxm, qxg, qxh, zH, zI, dpos, dneg, zJ, zK, zL, zM, zN, zO, zP, qea, e, w]
      · rw [decide_eq_false (fun h : FV f => h6 (h.two h5))]
        simp (disch := first | assumption | omega) only [zA, zB, zC, zD, zE, zF, zG, qxm, qxg, qxh, zH, zI, dpos, dneg, zJ, zK, zL, zM, zN, zO, zP, qea, e]
    · rw [decide_eq_true (⟨by omega, by omega, by omega, by omega, fun h => absurd h h5, c⟩ : FV f)]
      have h7 : f.2.1 = 1 := by omega
      simp (disch := first | assumption | omega) only [zA, zB, zC, zD, zE, zF, zG, qxm, qxg, qxh, zH, zI, dpos, dneg, zJ, zK, zL, zM, zN, zO, zP, qea, e]
  · rw [decide_eq_false c] at e
    rw [decide_eq_false (fun h : FV f => c h.prm)]
    simp (disch := first | assumption | omega) only [zA, zB, zC, zD, zE, zF, zG, qxm, qxg, qxh, zH, zI, dpos, dneg, zJ, zK, zL, zM, zN, zO, zP, qea, e]
end Go.Proofs.YtmidcfjmchpcnaaGreat.V
namespace Go.Proofs.YtmidcfjmchpcnaaGreat.V
open Go Classical
set_option linter.unusedVariables false
set_option linter.all false
def Plt (a b : List Int) : Prop := ∃ i, i < a.length ∧ (∀ j, j < i → rd a (j : Int) = rd b (j : Int)) ∧ rd a (i : Int) < rd b (i : Int)
theorem Plt.first {a b : List Int} {i : Nat} (hi : i < a.length) (h : ∀ j, j < i → rd a (j : Int) = rd b (j : Int)) (hne : rd a (i : Int) ≠ rd b (i : Int)) : Plt a b ↔ rd a (i : Int) < rd b (i : Int) := by
  constructor
  · rintro ⟨k, hk, h1, h2⟩
    rcases Nat.lt_trichotomy k i with c | rfl | c
    · have := h k c; omega
    · exact h2
    · exact absurd (h1 i c) hne
  · intro h2; exact ⟨i, hi, h, h2⟩
theorem qyh {a b : List Int} (h : ∀ j, j < a.length → rd a (j : Int) = rd b (j : Int)) : ¬ Plt a b := by
  rintro ⟨k, hk, h1, h2⟩
  have := h k hk; omega
theorem qyi {n : Nat} (hn : Fu n) {a b : List Int} (hl : a.length = b.length) (hB : a.length ≤ 1000000) : qeq n a b = some (decide (Plt a b), ()) := by
  rcases qxb (f := qep n) hn (fun i => (a, b, (i : Int), ())) a.length (fun i => rd a (i : Int) = rd b (i : Int)) (d := (a, b, 0, ()))
    (r := .inr (.inl ())) (r' := fun i => .inl (decide (rd a (i : Int) < rd b (i : Int)), ())) (by omega) rfl (by
      intro i hi _ h
      have e1 : idx a (i : Int) = some (rd a (i : Int)) := qxn (by omega) (by omega)
      have e2 : idx b (i : Int) = some (rd b (i : Int)) := qxn (by omega) (by omega)
      simp (disch := first | assumption | omega) only [zA, zB, zC, zD, zE, zF, zG, qxm, qxg, qxh, zH, zI, dpos, dneg, zJ, zK, zL, zM, zN, zO, zP, qep, qeo, e1, e2, h, up1]) (by
      intro i hi _ h
      have e1 : idx a (i : Int) = some (rd a (i : Int)) := qxn (by omega) (by omega)
      have e2 : idx b (i : Int) = some (rd b (i : Int)) := qxn (by omega) (by omega)
      simp (disch := first | assumption | omega) only [zA, zB, zC, zD, zE, zF, zG, qxm, qxg, qxh, zH, zI, dpos, dneg, zJ, zK, zL, zM, zN, zO, zP, qep, qeo, e1, e2]) (by
      intro _
      simp (disch := first | assumption | omega) only [zA, zB, zC, zD, zE, zF, zG, qxm, qxg, qxh, zH, zI, dpos, dneg, zJ, zK, zL, zM, zN, zO, zP, qep, qeo]) with ⟨h, e⟩ | ⟨i, hi, h1, h2, e⟩
  · rw [decide_eq_false (qyh h)]
    simp (disch := first | assumption | omega) only [zA, zB, zC, zD, zE, zF, zG, qxm, qxg, qxh, zH, zI, dpos, dneg, zJ, zK, zL, zM, zN, zO, zP, qeq, e]
  · have : decide (Plt a b) = decide (rd a (i : Int) < rd b (i : Int)) := by
      have := Plt.first hi h1 h2
      by_cases c : rd a (i : Int) < rd b (i : Int)
      · rw [decide_eq_true c, decide_eq_true (this.2 c)]
      · rw [decide_eq_false c, decide_eq_false (fun h => c (this.1 h))]
    rw [this]
    simp (disch := first | assumption | omega) only [zA, zB, zC, zD, zE, zF, zG, qxm, qxg, qxh, zH, zI, dpos, dneg, zJ, zK, zL, zM, zN, zO, zP, qeq, e]
theorem qyj {n : Nat} (x y : Int) : qat n x y = some (if x < y then -1 else if y < x then 1 else 0, ()) := by
  by_cases c : x < y
  · rw [if_pos c]; simp (disch := first | assumption | omega) only [zA, zB, zC, zD, zE, zF, zG, qxm, qxg, qxh, zH, zI, dpos, dneg, zJ, zK, zL, zM, zN, zO, zP, qat, qas]
  · rw [if_neg c]
    by_cases c2 : y < x
    · rw [if_pos c2]; simp (disch := first | assumption | omega) only [zA, zB, zC, zD, zE, zF, zG, qxm, qxg, qxh, zH, zI, dpos, dneg, zJ, zK, zL, zM, zN, zO, zP, qat, qas]
    · rw [if_neg c2]; simp (disch := first | assumption | omega) only [zA, zB, zC, zD, zE, zF, zG, qxm, qxg, qxh, zH, zI, dpos, dneg, zJ, zK, zL, zM, zN, zO, zP, qat, qas]
theorem qyk {n : Nat} (hn : Fu n) {a b : List Int} (hl : a.length = b.length) (hB : a.length ≤ 1000000) : ∃ r : Int, qaw n a b = some (r, ()) ∧ (0 ≤ r ↔ ¬ Plt a b) := by
  rcases qxb (f := qav n) hn (fun i => (a, b, a, (a.length : Int), (i : Int), ())) a.length (fun i => rd a (i : Int) = rd b (i : Int)) (d := (a, b, a, (a.length : Int), 0, ()))
    (r := .inr (.inl (a, b, ()))) (r' := fun i => .inl ((if rd a (i : Int) < rd b (i : Int) then -1 else if rd b (i : Int) < rd a (i : Int) then 1 else 0), ())) (by omega) rfl (by
      intro i hi _ h
      have e1 : idx a (i : Int) = some (rd a (i : Int)) := qxn (by omega) (by omega)
      have e2 : idx b (i : Int) = some (rd b (i : Int)) := qxn (by omega) (by omega)
      have e3 : qat n (rd b (i : Int)) (rd b (i : Int)) = some (0, ()) := by rw [qyj, if_neg (by omega), if_neg (by omega)]
      simp (disch := first | assumption | omega) only [zA, zB, zC, zD, zE, zF, zG, qxm, qxg, qxh, zH, zI, dpos, dneg, zJ, zK, zL, zM, zN, zO, zP, qav, qau, e1, e2, h, e3, up1]) (by
      intro i hi _ h
      have e1 : idx a (i : Int) = some (rd a (i : Int)) := qxn (by omega) (by omega)
      have e2 : idx b (i : Int) = some (rd b (i : Int)) := qxn (by omega) (by omega)
      have hne : ¬ (if rd a (i : Int) < rd b (i : Int) then -1 else if rd b (i : Int) < rd a (i : Int) then 1 else 0 : Int) = 0 := by
        by_cases c : rd a (i : Int) < rd b (i : Int)
        · rw [if_pos c]; omega
        · rw [if_neg c, if_pos (by omega)]; omega
      simp (disch := first | assumption | omega) only [zA, zB, zC, zD, zE, zF, zG, qxm, qxg, qxh, zH, zI, dpos, dneg, zJ, zK, zL, zM, zN, zO, zP, qav, qau, e1, e2, qyj]) (by
      intro _
      simp (disch := first | assumption | omega) only [zA, zB, zC, zD, zE, zF, zG, qxm, qxg, qxh, zH, zI, dpos, dneg, zJ, zK, zL, zM, zN, zO, zP, qav, qau]) with ⟨h, e⟩ | ⟨i, hi, h1, h2, e⟩
  · refine ⟨0, ?_, fun _ => qyh h, fun _ => by omega⟩
    have : ¬ (a.length : Int) < (b.length : Int) := by omega
    simp (disch := first | assumption | omega) only [zA, zB, zC, zD, zE, zF, zG, qxm, qxg, qxh, zH, zI, dpos, dneg, zJ, zK, zL, zM, zN, zO, zP, qaw, e]
  · refine ⟨_, by simp (disch := first | assumption | omega) only [zA, zB, zC, zD, zE, zF, zG, qxm, qxg, qxh, zH, zI, dpos, dneg, zJ, zK, zL, zM, zN, zO, zP, qaw, e]; rfl, ?_⟩
    rw [Plt.first hi h1 h2]
    by_cases c : rd a (i : Int) < rd b (i : Int)
    · rw [if_pos c]; exact ⟨fun h => by omega, fun h => absurd c h⟩
    · rw [if_neg c]
      by_cases c2 : rd b (i : Int) < rd a (i : Int)
      · rw [if_pos c2]; exact ⟨fun _ => c, fun _ => by omega⟩
      · rw [if_neg c2]; exact ⟨fun _ => c, fun _ => by omega⟩
def EV (e : List Int) : Prop := ∀ j, j < e.length → 0 ≤ rd e (j : Int) ∧ rd e (j : Int) ≤ 65535
theorem qyl {n : Nat} (hn : Fu n) {e : List Int} (hB : e.length ≤ 1000000) : qa2 n e = some (!decide (EV e), ()) := by
  rcases qxb (f := qa0 n) hn (fun i => (e, (), (e.length : Int), (i : Int), ())) e.length (fun j => 0 ≤ rd e (j : Int) ∧ rd e (j : Int) ≤ 65535) (d := (e, (), (e.length : Int), 0, ()))
    (r := .inr (.inl ())) (r' := fun i => .inl ((i : Int), ())) (by omega) rfl (by
      rintro i hi _ ⟨h1, h2⟩
      have e1 : idx e (i : Int) = some (rd e (i : Int)) := qxn (by omega) (by omega)
      simp (disch := first | assumption | omega) only [zA, zB, zC, zD, zE, zF, zG, qxm, qxg, qxh, zH, zI, dpos, dneg, zJ, zK, zL, zM, zN, zO, zP, qa0, qaz, qay, e1, up1]) (by
      intro i hi _ h
      have e1 : idx e (i : Int) = some (rd e (i : Int)) := qxn (by omega) (by omega)
      by_cases c : rd e (i : Int) < 0
      · simp (disch := first | assumption | omega) only [zA, zB, zC, zD, zE, zF, zG, qxm, qxg, qxh, zH, zI, dpos, dneg, zJ, zK, zL, zM, zN, zO, zP, qa0, qaz, qay, e1]
      · have c2 : 65535 < rd e (i : Int) := by omega
        simp (disch := first | assumption | omega) only [zA, zB, zC, zD, zE, zF, zG, qxm, qxg, qxh, zH, zI, dpos, dneg, zJ, zK, zL, zM, zN, zO, zP, qa0, qaz, qay, e1]) (by
      intro _
      simp (disch := first | assumption | omega) only [zA, zB, zC, zD, zE, zF, zG, qxm, qxg, qxh, zH, zI, dpos, dneg, zJ, zK, zL, zM, zN, zO, zP, qa0, qaz]) with ⟨h, e'⟩ | ⟨i, hi, h1, h2, e'⟩
  · rw [decide_eq_true (show EV e from h)]
    simp (disch := first | assumption | omega) only [zA, zB, zC, zD, zE, zF, zG, qxm, qxg, qxh, zH, zI, dpos, dneg, zJ, zK, zL, zM, zN, zO, zP, qa2, qa1, e']
  · rw [decide_eq_false (fun h : EV e => h2 (h i hi))]
    simp (disch := first | assumption | omega) only [zA, zB, zC, zD, zE, zF, zG, qxm, qxg, qxh, zH, zI, dpos, dneg, zJ, zK, zL, zM, zN, zO, zP, qa2, qa1, e']
def TV (q : Int) (nv : Nat) (p : List Trm) (i : Nat) : Prop := ∀ t, p[i]? = some t → (1 ≤ t.1 ∧ t.1 < q ∧ t.2.1.length = nv) ∧ (∀ s, 0 < i → p[i - 1]? = some s → Plt s.2.1 t.2.1) ∧ EV t.2.1
structure PV (q : Int) (nv : Nat) (p : List Trm) : Prop where
  vars : nv ≤ 80
  len : p.length ≤ 20000
  all : ∀ i, i < p.length → TV q nv p i
theorem down1 {i : Nat} (h : i < 4611686018427387904) (h0 : 0 < i) : IntKind.i64.wrap ((i : Int) - 1) = ((i - 1 : Nat) : Int) := by
  rw [qxf (by omega) (by omega)]; omega
theorem qym {n : Nat} (hn : Fu n) {f : Fld} (hf : FV f) {nv : Nat} {p : List Trm} (hB : ∀ t ∈ p, t.2.1.length ≤ 1000000) : qa5 n f (nv : Int) p = some (decide (PV (qF f) nv p), ()) := by
  have eo := qyf hn hf
  have hq := qye hf
  have hq0 : ¬ qF f = 0 := by omega
  by_cases h1 : 80 < nv
  · rw [decide_eq_false (fun h => absurd h.vars (by omega))]
    simp (disch := first | assumption | omega) only [zA, zB, zC, zD, zE, zF, zG, qxm, qxg, qxh, zH, zI, dpos, dneg, zJ, zK, zL, zM, zN, zO, zP, qa5, eo]
  by_cases h2 : 20000 < p.length
  · rw [decide_eq_false (fun h => absurd h.len (by omega))]
    simp (disch := first | assumption | omega) only [zA, zB, zC, zD, zE, zF, zG, qxm, qxg, qxh, zH, zI, dpos, dneg, zJ, zK, zL, zM, zN, zO, zP, qa5, eo]
  have loop := qxa (f := qa4 n) hn (fun i => ((nv : Int), p, qF f, p, (p.length : Int), (i : Int), ())) p.length (fun i => TV (qF f) nv p i)
    (d := ((nv : Int), p, qF f, p, (p.length : Int), 0, ())) (r := .inr (.inl ())) (r' := .inl (false, ())) (by omega) rfl (by
      intro i hi hpre h
      obtain ⟨t, et, et', ht⟩ := qx1 hi
      obtain ⟨⟨g1, g2, g3⟩, g4, g5⟩ := h t et'
      have ec := qyl hn (hB t ht)
      rw [decide_eq_true g5] at ec
      have g3' : (t.2.1.length : Int) = (nv : Int) := by omega
      by_cases c0 : i = 0
      · subst c0
        simp (disch := first | assumption | omega) only [zA, zB, zC, zD, zE, zF, zG, qxm, qxg, qxh, zH, zI, dpos, dneg, zJ, zK, zL, zM, zN, zO, zP, qa4, qa3, et, ec, up1]
      · obtain ⟨s, es, es', hs⟩ := qx1 (l := p) (i := i - 1) (by omega)
        have hsl : s.2.1.length = t.2.1.length := by rw [((hpre (i - 1) (by omega)) s es').1.2.2, g3]
        obtain ⟨r, er, hr⟩ := qyk hn hsl (hB s hs)
        have hr0 : ¬ 0 ≤ r := fun h => hr.1 h (g4 s (by omega) es')
        have w := down1 (i := i) (by omega) (by omega)
        simp (disch := first | assumption | omega) only [zA, zB, zC, zD, zE, zF, zG, qxm, qxg, qxh, zH, zI, dpos, dneg, zJ, zK, zL, zM, zN, zO, zP, qa4, qa3, et, es, ec, up1, w, qax, er]) (by
      intro i hi hpre h
      obtain ⟨t, et, et', ht⟩ := qx1 hi
      have ec := qyl hn (hB t ht)
      by_cases g1 : t.1 < 1
      · simp (disch := first | assumption | omega) only [zA, zB, zC, zD, zE, zF, zG, qxm, qxg, qxh, zH, zI, dpos, dneg, zJ, zK, zL, zM, zN, zO, zP, qa4, qa3, et]
      by_cases g2 : qF f ≤ t.1
      · simp (disch := first | assumption | omega) only [zA, zB, zC, zD, zE, zF, zG, qxm, qxg, qxh, zH, zI, dpos, dneg, zJ, zK, zL, zM, zN, zO, zP, qa4, qa3, et]
      by_cases g3 : (t.2.1.length : Int) = (nv : Int)
      · by_cases c0 : i = 0
        · subst c0
          have g5 : ¬ EV t.2.1 := fun g5 => h (fun t' e' => by
            rw [et'] at e'; obtain rfl := Option.some.inj e'
            exact ⟨⟨by omega, by omega, by omega⟩, fun s h0 => absurd h0 (by omega), g5⟩)
          rw [decide_eq_false g5] at ec
          simp (disch := first | assumption | omega) only [zA, zB, zC, zD, zE, zF, zG, qxm, qxg, qxh, zH, zI, dpos, dneg, zJ, zK, zL, zM, zN, zO, zP, qa4, qa3, et, ec]
        · obtain ⟨s, es, es', hs⟩ := qx1 (l := p) (i := i - 1) (by omega)
          have hsl : s.2.1.length = t.2.1.length := by rw [((hpre (i - 1) (by omega)) s es').1.2.2]; omega
          obtain ⟨r, er, hr⟩ := qyk hn hsl (hB s hs)
          have w := down1 (i := i) (by omega) (by omega)
          by_cases hr0 : 0 ≤ r
          · simp (disch := first | assumption | omega) only [zA, zB, zC, zD, zE, zF, zG, qxm, qxg, qxh, zH, zI, dpos, dneg, zJ, zK, zL, zM, zN, zO, zP, qa4, qa3, et, es, w, qax, er]
          · have g5 : ¬ EV t.2.1 := fun g5 => h (fun t' e' => by
              rw [et'] at e'; obtain rfl := Option.some.inj e'
              refine ⟨⟨by omega, by omega, by omega⟩, fun s' h0 e2 => ?_, g5⟩
              rw [es'] at e2; obtain rfl := Option.some.inj e2
              exact Classical.byContradiction fun hp => hr0 (hr.2 hp))
            rw [decide_eq_false g5] at ec
            simp (disch := first | assumption | omega) only [zA, zB, zC, zD, zE, zF, zG, qxm, qxg, qxh, zH, zI, dpos, dneg, zJ, zK, zL, zM, zN, zO, zP, qa4, qa3, et, es, ec, w, qax, er]
      · simp (disch := first | assumption | omega) only [zA, zB, zC, zD, zE, zF, zG, qxm, qxg, qxh, zH, zI, dpos, dneg, zJ, zK, zL, zM, zN, zO, zP, qa4, qa3, et]) (by
      intro _
      simp (disch := first | assumption | omega) only [zA, zB, zC, zD, zE, zF, zG, qxm, qxg, qxh, zH, zI, dpos, dneg, zJ, zK, zL, zM, zN, zO, zP, qa4, qa3])
  have h3 : ¬ (nv : Int) < 0 := by omega
  by_cases c : ∀ i, i < p.length → TV (qF f) nv p i
  · rw [if_pos c] at loop
    rw [decide_eq_true (⟨by omega, by omega, c⟩ : PV (qF f) nv p)]
    simp (disch := first | assumption | omega) only [zA, zB, zC, zD, zE, zF, zG, qxm, qxg, qxh, zH, zI, dpos, dneg, zJ, zK, zL, zM, zN, zO, zP, qa5, eo, loop]
  · rw [if_neg c] at loop
    rw [decide_eq_false (fun h : PV (qF f) nv p => c h.all)]
    simp (disch := first | assumption | omega) only [zA, zB, zC, zD, zE, zF, zG, qxm, qxg, qxh, zH, zI, dpos, dneg, zJ, zK, zL, zM, zN, zO, zP, qa5, eo, loop]
def nvp (p : List Trm) : Nat := match p with
  | [] => 0
  | t :: _ => t.2.1.length
theorem qyn {n : Nat} (p : List Trm) : qaq n p = some ((nvp p : Int), (!p.isEmpty, ())) := by
  cases p with
  | nil => rfl
  | cons t p =>
    have e : idx (t :: p) 0 = some t := rfl
    have h : ¬ ((t :: p).length : Int) = 0 := by simp only [List.length_cons]; omega
    simp only [qaq, e, dneg h, zE, zA]
    rfl
abbrev Ari := Int × (Int × (Int × (Int × Unit)))
theorem qyo {n : Nat} (hn : Fu n) (x : Ari) {p : List Trm} (hB : ∀ t ∈ p, t.2.1.length ≤ 1000000) (hp : p.length ≤ 1000000) : ∃ v : Int, qev n x p = some (v, (decide (PV x.2.2.1 (nvp p) p), ())) ∧ (PV x.2.2.1 (nvp p) p → v = if p = [] then -1 else (nvp p : Int)) := by
  cases p with
  | nil => exact ⟨-1, by rw [decide_eq_true (⟨by simp [nvp], by simp, fun i h => by simp at h⟩ : PV x.2.2.1 (nvp []) [])]; rfl, fun _ => rfl⟩
  | cons t0 p0 =>
    generalize hpp : t0 :: p0 = p at hB hp ⊢
    have e0 : idx p 0 = some t0 := by rw [← hpp]; rfl
    have hne : ¬ (p.length : Int) = 0 := by rw [← hpp]; simp only [List.length_cons]; omega
    have hv : nvp p = t0.2.1.length := by rw [← hpp]; rfl
    have hnil : p ≠ [] := by rw [← hpp]; exact List.cons_ne_nil _ _
    rw [if_neg hnil, hv]
    by_cases h1 : 80 < t0.2.1.length
    · refine ⟨0, ?_, fun h => absurd h.vars (by omega)⟩
      rw [decide_eq_false (fun h => absurd h.vars (by omega))]
      simp (disch := first | assumption | omega) only [zA, zB, zC, zD, zE, zF, zG, qxm, qxg, qxh, zH, zI, dpos, dneg, zJ, zK, zL, zM, zN, zO, zP, qev, e0]
    by_cases h2 : 20000 < p.length
    · refine ⟨0, ?_, fun h => absurd h.len (by omega)⟩
      rw [decide_eq_false (fun h => absurd h.len (by omega))]
      simp (disch := first | assumption | omega) only [zA, zB, zC, zD, zE, zF, zG, qxm, qxg, qxh, zH, zI, dpos, dneg, zJ, zK, zL, zM, zN, zO, zP, qev, e0]
    let nv := t0.2.1.length
    have inner : ∀ (i : Nat) (t : Trm), idx p (i : Int) = some t → t.2.1.length = nv → iterN (qes n) n (p, x, (nv : Int), (i : Int), 0, ()) = some (if EV t.2.1 then .inr (.inl (p, x, (nv : Int), (i : Int), ())) else .inl (0, false, ())) := by
      intro i t et hl
      rcases qxb (f := qes n) hn (fun k => (p, x, (nv : Int), (i : Int), (k : Int), ())) nv (fun j => 0 ≤ rd t.2.1 (j : Int) ∧ rd t.2.1 (j : Int) ≤ 65535) (d := (p, x, (nv : Int), (i : Int), 0, ()))
        (r := .inr (.inl (p, x, (nv : Int), (i : Int), ()))) (r' := fun _ => .inl (0, false, ())) (by omega) rfl (by
          rintro k hk _ ⟨h1, h2⟩
          have e1 : idx t.2.1 (k : Int) = some (rd t.2.1 (k : Int)) := qxn (by omega) (by omega)
          simp (disch := first | assumption | omega) only [zA, zB, zC, zD, zE, zF, zG, qxm, qxg, qxh, zH, zI, dpos, dneg, zJ, zK, zL, zM, zN, zO, zP, qes, qer, et, e1, up1]) (by
          intro k hk _ h
          have e1 : idx t.2.1 (k : Int) = some (rd t.2.1 (k : Int)) := qxn (by omega) (by omega)
          by_cases c : rd t.2.1 (k : Int) < 0
          · simp (disch := first | assumption | omega) only [zA, zB, zC, zD, zE, zF, zG, qxm, qxg, qxh, zH, zI, dpos, dneg, zJ, zK, zL, zM, zN, zO, zP, qes, qer, et, e1]
          · have c2 : 65535 < rd t.2.1 (k : Int) := by omega
            simp (disch := first | assumption | omega) only [zA, zB, zC, zD, zE, zF, zG, qxm, qxg, qxh, zH, zI, dpos, dneg, zJ, zK, zL, zM, zN, zO, zP, qes, qer, et, e1]) (by
          intro _
          simp (disch := first | assumption | omega) only [zA, zB, zC, zD, zE, zF, zG, qxm, qxg, qxh, zH, zI, dpos, dneg, zJ, zK, zL, zM, zN, zO, zP, qes, qer]) with ⟨h, e⟩ | ⟨k, hk, h1, h2, e⟩
      · rw [if_pos (show EV t.2.1 from fun j hj => h j (by omega))]; exact e
      · rw [if_neg (fun h : EV t.2.1 => h2 (h k (by omega)))]; exact e
    have loop := qxa (f := qeu n) hn (fun i => (p, x, (nv : Int), (i : Int), ())) p.length (fun i => TV x.2.2.1 nv p i)
      (d := (p, x, (nv : Int), 0, ())) (r := .inr (.inl ((nv : Int), ()))) (r' := .inl (0, false, ())) (by omega) rfl (by
        intro i hi hpre h
        obtain ⟨t, et, et', ht⟩ := qx1 hi
        obtain ⟨⟨g1, g2, g3⟩, g4, g5⟩ := h t et'
        have ei := inner i t et g3
        rw [if_pos g5] at ei
        have g3' : (t.2.1.length : Int) = (nv : Int) := by omega
        have q1 : ¬ t.1 < 1 := by omega
        have q2 : ¬ x.2.2.1 ≤ t.1 := by omega
        by_cases c0 : i = 0
        · subst c0
          simp (disch := first | assumption | omega) only [zA, zB, zC, zD, zE, zF, zG, qxm, qxg, qxh, zH, zI, dpos, dneg, zJ, zK, zL, zM, zN, zO, zP, qeu, qet, et, ei, up1]
        · obtain ⟨s, es, es', hs⟩ := qx1 (l := p) (i := i - 1) (by omega)
          have hsl : s.2.1.length = t.2.1.length := by rw [((hpre (i - 1) (by omega)) s es').1.2.2, g3]
          have er := qyi hn hsl (hB s hs)
          rw [decide_eq_true (g4 s (by omega) es')] at er
          have w := down1 (i := i) (by omega) (by omega)
          have q3 : (0 : Int) < (i : Int) := by omega
          simp (disch := first | assumption | omega) only [zA, zB, zC, zD, zE, zF, zG, qxm, qxg, qxh, zH, zI, dpos, dneg, zJ, zK, zL, zM, zN, zO, zP, qeu, qet, et, es, ei, up1, w, er]) (by
        intro i hi hpre h
        obtain ⟨t, et, et', ht⟩ := qx1 hi
        by_cases g3 : (t.2.1.length : Int) = (nv : Int)
        · by_cases g1 : t.1 < 1
          · simp (disch := first | assumption | omega) only [zA, zB, zC, zD, zE, zF, zG, qxm, qxg, qxh, zH, zI, dpos, dneg, zJ, zK, zL, zM, zN, zO, zP, qeu, qet, et]
          by_cases g2 : x.2.2.1 ≤ t.1
          · simp (disch := first | assumption | omega) only [zA, zB, zC, zD, zE, zF, zG, qxm, qxg, qxh, zH, zI, dpos, dneg, zJ, zK, zL, zM, zN, zO, zP, qeu, qet, et]
          have ei := inner i t et (by omega)
          by_cases c0 : i = 0
          · subst c0
            have g5 : ¬ EV t.2.1 := fun g5 => h (fun t' e' => by
              rw [et'] at e'; obtain rfl := Option.some.inj e'
              exact ⟨⟨by omega, by omega, by omega⟩, fun s h0 => absurd h0 (by omega), g5⟩)
            rw [if_neg g5] at ei
            simp (disch := first | assumption | omega) only [zA, zB, zC, zD, zE, zF, zG, qxm, qxg, qxh, zH, zI, dpos, dneg, zJ, zK, zL, zM, zN, zO, zP, qeu, qet, et, ei]
          · obtain ⟨s, es, es', hs⟩ := qx1 (l := p) (i := i - 1) (by omega)
            have hsl : s.2.1.length = t.2.1.length := by rw [((hpre (i - 1) (by omega)) s es').1.2.2]; omega
            have er := qyi hn hsl (hB s hs)
            have w := down1 (i := i) (by omega) (by omega)
            have q3 : (0 : Int) < (i : Int) := by omega
            by_cases hr0 : Plt s.2.1 t.2.1
            · have g5 : ¬ EV t.2.1 := fun g5 => h (fun t' e' => by
                rw [et'] at e'; obtain rfl := Option.some.inj e'
                refine ⟨⟨by omega, by omega, by omega⟩, fun s' h0 e2 => ?_, g5⟩
                rw [es'] at e2; obtain rfl := Option.some.inj e2
                exact hr0)
              rw [if_neg g5] at ei
              rw [decide_eq_true hr0] at er
              simp (disch := first | assumption | omega) only [zA, zB, zC, zD, zE, zF, zG, qxm, qxg, qxh, zH, zI, dpos, dneg, zJ, zK, zL, zM, zN, zO, zP, qeu, qet, et, es, ei, w, er]
            · rw [decide_eq_false hr0] at er
              simp (disch := first | assumption | omega) only [zA, zB, zC, zD, zE, zF, zG, qxm, qxg, qxh, zH, zI, dpos, dneg, zJ, zK, zL, zM, zN, zO, zP, qeu, qet, et, es, w, er]
        · simp (disch := first | assumption | omega) only [zA, zB, zC, zD, zE, zF, zG, qxm, qxg, qxh, zH, zI, dpos, dneg, zJ, zK, zL, zM, zN, zO, zP, qeu, qet, et]) (by
        intro _
        simp (disch := first | assumption | omega) only [zA, zB, zC, zD, zE, zF, zG, qxm, qxg, qxh, zH, zI, dpos, dneg, zJ, zK, zL, zM, zN, zO, zP, qeu, qet])
    by_cases c : ∀ i, i < p.length → TV x.2.2.1 nv p i
    · rw [if_pos c] at loop
      refine ⟨(nv : Int), ?_, fun _ => rfl⟩
      rw [decide_eq_true (⟨by omega, by omega, c⟩ : PV x.2.2.1 nv p)]
      change iterN (qeu n) n (p, x, (t0.2.1.length : Int), 0, ()) = _ at loop
      simp (disch := first | assumption | omega) only [zA, zB, zC, zD, zE, zF, zG, qxm, qxg, qxh, zH, zI, dpos, dneg, zJ, zK, zL, zM, zN, zO, zP, qev, e0, loop]
    · rw [if_neg c] at loop
      refine ⟨0, ?_, fun h => absurd h.all c⟩
      rw [decide_eq_false (fun h : PV x.2.2.1 nv p => c h.all)]
      change iterN (qeu n) n (p, x, (t0.2.1.length : Int), 0, ()) = _ at loop
      simp (disch := first | assumption | omega) only [zA, zB, zC, zD, zE, zF, zG, qxm, qxg, qxh, zH, zI, dpos, dneg, zJ, zK, zL, zM, zN, zO, zP, qev, e0, loop]
end Go.Proofs.YtmidcfjmchpcnaaGreat.V
namespace Go.Proofs.YtmidcfjmchpcnaaGreat.V
open Go
set_option linter.unusedVariables false
set_option linter.all false
theorem md2 (m : Nat) : qem (m + 400) 2 = some (7, ()) := by kernel_rfl
theorem md3 (m : Nat) : qem (m + 400) 3 = some (11, ()) := by kernel_rfl
theorem md4 (m : Nat) : qem (m + 400) 4 = some (19, ()) := by kernel_rfl
theorem md5 (m : Nat) : qem (m + 400) 5 = some (37, ()) := by kernel_rfl
theorem md6 (m : Nat) : qem (m + 400) 6 = some (67, ()) := by kernel_rfl
theorem md7 (m : Nat) : qem (m + 400) 7 = some (131, ()) := by kernel_rfl
theorem md8 (m : Nat) : qem (m + 400) 8 = some (283, ()) := by kernel_rfl
theorem md9 (m : Nat) : qem (m + 400) 9 = some (515, ()) := by kernel_rfl
theorem md10 (m : Nat) : qem (m + 400) 10 = some (1033, ()) := by kernel_rfl
theorem md11 (m : Nat) : qem (m + 400) 11 = some (2053, ()) := by kernel_rfl
theorem md12 (m : Nat) : qem (m + 400) 12 = some (4105, ()) := by kernel_rfl
theorem md13 (m : Nat) : qem (m + 400) 13 = some (8219, ()) := by kernel_rfl
theorem md14 (m : Nat) : qem (m + 400) 14 = some (16417, ()) := by kernel_rfl
theorem md15 (m : Nat) : qem (m + 400) 15 = some (32771, ()) := by kernel_rfl
theorem md16 (m : Nat) : qem (m + 400) 16 = some (65579, ()) := by kernel_rfl
end Go.Proofs.YtmidcfjmchpcnaaGreat.V
namespace Go.Proofs.YtmidcfjmchpcnaaGreat.V
open Go Classical
set_option linter.unusedVariables false
set_option linter.all false
def md (M : Int) : Int := ([7, 11, 19, 37, 67, 131, 283, 515, 1033, 2053, 4105, 8219, 16417, 32771, 65579] : List Int).getD (M - 2).toNat 0
theorem qyp {n : Nat} (hn : Fu n) {M : Int} (h1 : 2 ≤ M) (h2 : M ≤ 16) : qem n M = some (md M, ()) := by
  obtain ⟨m, rfl⟩ : ∃ m, n = m + 400 := ⟨n - 400, by unfold Fu at hn; omega⟩
  clear hn
  have hc : M = 2 ∨ M = 3 ∨ M = 4 ∨ M = 5 ∨ M = 6 ∨ M = 7 ∨ M = 8 ∨ M = 9 ∨ M = 10 ∨ M = 11 ∨ M = 12 ∨ M = 13 ∨ M = 14 ∨ M = 15 ∨ M = 16 := by omega
  rcases hc with rfl | rfl | rfl | rfl | rfl | rfl | rfl | rfl | rfl | rfl | rfl | rfl | rfl | rfl | rfl
  · exact md2 m
  · exact md3 m
  · exact md4 m
  · exact md5 m
  · exact md6 m
  · exact md7 m
  · exact md8 m
  · exact md9 m
  · exact md10 m
  · exact md11 m
  · exact md12 m
  · exact md13 m
  · exact md14 m
  · exact md15 m
  · exact md16 m
def arF (f : Fld) : Ari := if f.2.1 = 1 then (f.1, (1, (f.1, (0, ())))) else (2, (f.2.1, (2 ^ f.2.1.toNat, (md f.2.1, ()))))
theorem arF_q {f : Fld} (h : FV f) : (arF f).2.2.1 = qF f := by
  have h1 := h.m1
  unfold arF qF
  by_cases c : f.2.1 = 1
  · rw [if_pos c, if_neg (by omega)]
  · rw [if_neg c, if_pos (by omega)]
theorem qyq {n : Nat} (hn : Fu n) {f : Fld} (h : FV f) : qen n f = some (arF f, ()) := by
  have h1 := h.m1
  have h2 := h.m2
  unfold arF
  by_cases c : f.2.1 = 1
  · rw [if_pos c]
    simp (disch := first | assumption | omega) only [zA, zB, zC, zD, zE, zF, zG, qxm, qxg, qxh, zH, zI, dpos, dneg, zJ, zK, zL, zM, zN, zO, zP, qen, c]
  · rw [if_neg c]
    have e := qyp hn (M := f.2.1) (by omega) (by omega)
    have w := (qyd (M := f.2.1) (by omega) (by omega)).1
    simp (disch := first | assumption | omega) only [zA, zB, zC, zD, zE, zF, zG, qxm, qxg, qxh, zH, zI, dpos, dneg, zJ, zK, zL, zM, zN, zO, zP, qen, e, w]
end Go.Proofs.YtmidcfjmchpcnaaGreat.V
namespace Go.Proofs.YtmidcfjmchpcnaaGreat.V
open Go
set_option linter.unusedVariables false
set_option linter.all false
theorem qyr (m : Nat) : qd6 (m + 200) = some (true, ()) := by kernel_rfl
end Go.Proofs.YtmidcfjmchpcnaaGreat.V
namespace Go.Proofs.YtmidcfjmchpcnaaGreat.V
open Go Classical
set_option linter.unusedVariables false
set_option linter.all false
abbrev Rfr := Bool × (Int × Unit)
def kind (r : Stm) : Int := r.val.1.1
def tgt (r : Stm) : Int := r.val.1.2.1
def cof (r : Stm) : Int := r.val.1.2.2.1
def pol (r : Stm) : Int := r.val.1.2.2.2.1
def num (r : Stm) : Int := r.val.1.2.2.2.2.1
def RfV (p : Prg) (t : Int) (a : Rfr) : Prop := 0 ≤ a.2.1 ∧ (a.1 = true → a.2.1 < p.2.2.1) ∧ (a.1 = false → a.2.1 < p.2.1 ∧ a.2.1 ≠ t)
structure AddV (q : Int) (p : Prg) (r : Stm) : Prop where
  k0 : kind r = 0
  n0 : num r = 0
  b0 : r.kids = []
  t0 : 0 ≤ tgt r
  t1 : tgt r < p.2.1
  c0 : 0 ≤ cof r
  c1 : cof r < q
  p0 : 0 ≤ pol r
  p1 : pol r < (p.2.2.2.1.length : Int)
  a0 : (args r).length ≤ 80
  v : ∀ z, p.2.2.2.1[(pol r).toNat]? = some z → z ≠ [] → nvp z = (args r).length
  rs : ∀ a ∈ args r, RfV p (tgt r) a
structure SclV (q : Int) (p : Prg) (r : Stm) : Prop where
  k0 : kind r = 1
  p0 : pol r = 0
  n0 : num r = 0
  a0 : args r = []
  b0 : r.kids = []
  t0 : 0 ≤ tgt r
  t1 : tgt r < p.2.1
  c0 : 0 ≤ cof r
  c1 : cof r < q
  c2 : cof r ≠ 0
structure LpV (r : Stm) : Prop where
  k0 : kind r = 2
  t0 : tgt r = 0
  c0 : cof r = 0
  p0 : pol r = 0
  a0 : args r = []
  n0 : 0 ≤ num r
  n1 : num r ≤ 2000000
def OV (q : Int) (p : Prg) : Nat → List Stm → Prop
  | 0, l => ∀ r ∈ l, AddV q p r ∨ SclV q p r
  | e + 1, l => ∀ r ∈ l, AddV q p r ∨ SclV q p r ∨ (LpV r ∧ OV q p e r.kids)
theorem qys {n : Nat} (hn : Fu n) {l : List Rfr} (hl : l.length ≤ 1000000000000) {p : Prg} {x y : Int × (Int × Unit)} {s : Int × (Int × (Int × (Int × (Int × ((List (Bool × (Int × Unit))) × (List Stm × Unit))))))} :
    qbc n l ((p, x), (((p, y), ()), (s, ()))) = some (!decide (∀ a ∈ l, RfV p s.2.1 a), ()) := by
  let d : Rfr := (false, (0, ()))
  have hstep : ∀ (i : Nat) (a : Rfr), idx l (i : Int) = some a → qa8 n a (p, x) ((p, y), ()) s = some (!decide (RfV p s.2.1 a), ()) := by
    rintro i ⟨b, m, ⟨⟩⟩ e
    cases b with
    | true =>
      by_cases c1 : m < 0
      · rw [decide_eq_false (fun h : RfV p s.2.1 (true, (m, ())) => absurd h.1 (by simp only; omega))]
        simp (disch := first | assumption | omega) only [zA, zB, zC, zD, zE, zF, zG, qxm, qxg, qxh, zH, zI, dpos, dneg, zJ, zK, zL, zM, zN, zO, zP, qa8]
      by_cases c2 : p.2.2.1 ≤ m
      · rw [decide_eq_false (fun h : RfV p s.2.1 (true, (m, ())) => absurd (h.2.1 rfl) (by simp only; omega))]
        simp (disch := first | assumption | omega) only [zA, zB, zC, zD, zE, zF, zG, qxm, qxg, qxh, zH, zI, dpos, dneg, zJ, zK, zL, zM, zN, zO, zP, qa8]
      have hR : RfV p s.2.1 (true, (m, ())) := ⟨by simp only; omega, (fun _ => by simp only; omega), (fun h => by cases h)⟩
      rw [decide_eq_true hR]
      simp (disch := first | assumption | omega) only [zA, zB, zC, zD, zE, zF, zG, qxm, qxg, qxh, zH, zI, dpos, dneg, zJ, zK, zL, zM, zN, zO, zP, qa8]
    | false =>
      by_cases c1 : 0 ≤ m
      · by_cases c2 : m < p.2.1
        · by_cases c3 : m = s.2.1
          · rw [decide_eq_false (fun h : RfV p s.2.1 (false, (m, ())) => (h.2.2 rfl).2 c3)]
            simp (disch := first | assumption | omega) only [zA, zB, zC, zD, zE, zF, zG, qxm, qxg, qxh, zH, zI, dpos, dneg, zJ, zK, zL, zM, zN, zO, zP, qa8, qa6]
          · have hR : RfV p s.2.1 (false, (m, ())) := ⟨c1, (fun h => by cases h), (fun _ => ⟨c2, c3⟩)⟩
            rw [decide_eq_true hR]
            simp (disch := first | assumption | omega) only [zA, zB, zC, zD, zE, zF, zG, qxm, qxg, qxh, zH, zI, dpos, dneg, zJ, zK, zL, zM, zN, zO, zP, qa8, qa6]
        · rw [decide_eq_false (fun h : RfV p s.2.1 (false, (m, ())) => c2 (h.2.2 rfl).1)]
          simp (disch := first | assumption | omega) only [zA, zB, zC, zD, zE, zF, zG, qxm, qxg, qxh, zH, zI, dpos, dneg, zJ, zK, zL, zM, zN, zO, zP, qa8, qa6]
      · rw [decide_eq_false (fun h : RfV p s.2.1 (false, (m, ())) => c1 h.1)]
        simp (disch := first | assumption | omega) only [zA, zB, zC, zD, zE, zF, zG, qxm, qxg, qxh, zH, zI, dpos, dneg, zJ, zK, zL, zM, zN, zO, zP, qa8, qa6]
  rcases qxb (f := qba n) hn (fun i => (l, ((p, x), (((p, y), ()), (s, ()))), (l.length : Int), (i : Int), ())) l.length (fun i => ∀ a, l[i]? = some a → RfV p s.2.1 a) (d := (l, ((p, x), (((p, y), ()), (s, ()))), (l.length : Int), 0, ()))
    (r := .inr (.inl ())) (r' := fun i => .inl ((i : Int), ())) (by omega) rfl (by
      intro i hi _ h
      obtain ⟨a, ea, ea', ha⟩ := qx1 hi
      have e := hstep i a ea
      rw [decide_eq_true (h a ea')] at e
      simp (disch := first | assumption | omega) only [zA, zB, zC, zD, zE, zF, zG, qxm, qxg, qxh, zH, zI, dpos, dneg, zJ, zK, zL, zM, zN, zO, zP, qba, qa9, ea, e, up1]) (by
      intro i hi _ h
      obtain ⟨a, ea, ea', ha⟩ := qx1 hi
      have e := hstep i a ea
      rw [decide_eq_false (fun hr => h (fun a' e' => by rw [ea'] at e'; obtain rfl := Option.some.inj e'; exact hr))] at e
      simp (disch := first | assumption | omega) only [zA, zB, zC, zD, zE, zF, zG, qxm, qxg, qxh, zH, zI, dpos, dneg, zJ, zK, zL, zM, zN, zO, zP, qba, qa9, ea, e]) (by
      intro _
      simp (disch := first | assumption | omega) only [zA, zB, zC, zD, zE, zF, zG, qxm, qxg, qxh, zH, zI, dpos, dneg, zJ, zK, zL, zM, zN, zO, zP, qba, qa9]) with ⟨h, e⟩ | ⟨i, hi, h1, h2, e⟩
  · have : ∀ a ∈ l, RfV p s.2.1 a := fun a ha => by
      obtain ⟨i, hi⟩ := List.mem_iff_getElem?.1 ha
      exact h i (List.getElem?_eq_some_iff.1 hi).1 a hi
    rw [decide_eq_true this]
    simp (disch := first | assumption | omega) only [zA, zB, zC, zD, zE, zF, zG, qxm, qxg, qxh, zH, zI, dpos, dneg, zJ, zK, zL, zM, zN, zO, zP, qbc, qbb, e]
  · have : ¬ ∀ a ∈ l, RfV p s.2.1 a := fun h => h2 (fun a ha => h a (List.mem_of_getElem? ha))
    rw [decide_eq_false this]
    simp (disch := first | assumption | omega) only [zA, zB, zC, zD, zE, zF, zG, qxm, qxg, qxh, zH, zI, dpos, dneg, zJ, zK, zL, zM, zN, zO, zP, qbc, qbb, e]
theorem qyt {n : Nat} (i : Int) (p : Prg) (x : Int × (Int × Unit)) : qa6 n i (p, x) = some (decide (0 ≤ i ∧ i < p.2.1), ()) := by
  by_cases c : 0 ≤ i
  · by_cases c2 : i < p.2.1
    · rw [decide_eq_true ⟨c, c2⟩]; simp (disch := first | assumption | omega) only [zA, zB, zC, zD, zE, zF, zG, qxm, qxg, qxh, zH, zI, dpos, dneg, zJ, zK, zL, zM, zN, zO, zP, qa6]
    · rw [decide_eq_false (fun h => c2 h.2)]; simp (disch := first | assumption | omega) only [zA, zB, zC, zD, zE, zF, zG, qxm, qxg, qxh, zH, zI, dpos, dneg, zJ, zK, zL, zM, zN, zO, zP, qa6]
  · rw [decide_eq_false (fun h => c h.1)]; simp (disch := first | assumption | omega) only [zA, zB, zC, zD, zE, zF, zG, qxm, qxg, qxh, zH, zI, dpos, dneg, zJ, zK, zL, zM, zN, zO, zP, qa6]
theorem qyu {n : Nat} (a : Int) (p : Prg) (x q : Int) : qa7 n (p, (x, (q, ()))) a = some (decide (0 ≤ a ∧ a < q), ()) := by
  by_cases c : 0 ≤ a
  · by_cases c2 : a < q
    · rw [decide_eq_true ⟨c, c2⟩]; simp (disch := first | assumption | omega) only [zA, zB, zC, zD, zE, zF, zG, qxm, qxg, qxh, zH, zI, dpos, dneg, zJ, zK, zL, zM, zN, zO, zP, qa7]
    · rw [decide_eq_false (fun h => c2 h.2)]; simp (disch := first | assumption | omega) only [zA, zB, zC, zD, zE, zF, zG, qxm, qxg, qxh, zH, zI, dpos, dneg, zJ, zK, zL, zM, zN, zO, zP, qa7]
  · rw [decide_eq_false (fun h => c h.1)]; simp (disch := first | assumption | omega) only [zA, zB, zC, zD, zE, zF, zG, qxm, qxg, qxh, zH, zI, dpos, dneg, zJ, zK, zL, zM, zN, zO, zP, qa7]
def qyv (q : Int) (p : Prg) (K : Prop) (r : Stm) : Prop := AddV q p r ∨ SclV q p r ∨ (LpV r ∧ K)
theorem good0 {q : Int} {p : Prg} {K : Prop} {r : Stm} (h : kind r = 0) : qyv q p K r ↔ AddV q p r :=
  ⟨fun g => g.elim id fun g => g.elim (fun g => absurd (h.symm.trans g.k0) (by omega)) fun g => absurd (h.symm.trans g.1.k0) (by omega), .inl⟩
theorem good1 {q : Int} {p : Prg} {K : Prop} {r : Stm} (h : kind r = 1) : qyv q p K r ↔ SclV q p r :=
  ⟨fun g => g.elim (fun g => absurd (h.symm.trans g.k0) (by omega)) fun g => g.elim id fun g => absurd (h.symm.trans g.1.k0) (by omega), fun g => .inr (.inl g)⟩
theorem good2 {q : Int} {p : Prg} {K : Prop} {r : Stm} (h : kind r = 2) : qyv q p K r ↔ LpV r ∧ K :=
  ⟨fun g => g.elim (fun g => absurd (h.symm.trans g.k0) (by omega)) fun g => g.elim (fun g => absurd (h.symm.trans g.k0) (by omega)) id, fun g => .inr (.inr g)⟩
theorem qyw (m : Nat) : qbl (m + 1) = qbd (qbl m) (qbm m) (qbn m) (qbo m) (qbp m) m := rfl
theorem qyx (m : Nat) : qbm (m + 1) = qbe (qbl m) (qbm m) (qbn m) (qbo m) (qbp m) m := rfl
theorem qyy (m : Nat) : qbn (m + 1) = qbh (qbl m) (qbm m) (qbn m) (qbo m) (qbp m) m := rfl
theorem qyz (m : Nat) : qbo (m + 1) = qbi (qbl m) (qbm m) (qbn m) (qbo m) (qbp m) m := rfl
theorem qy0 (m : Nat) : qbp (m + 1) = qbj (qbl m) (qbm m) (qbn m) (qbo m) (qbp m) m := rfl
theorem qy1 {m : Nat} (hm : Fu m) {q : Int} {p : Prg} {r : Stm} {d left left' : Nat} {K : Prop} (hd : d ≤ 1000) (ha : (args r).length ≤ 1000000000)
    (hk : LpV r → qbp m r.kids ((d + 1 : Nat) : Int) (p, ((left : Int), (q, ()))) = some ((decide K, ()), ((p, ((left' : Int), (q, ()))), ()))) :
    qbl (m + 1) r (d : Int) (p, ((left : Int), (q, ()))) = some ((decide (qyv q p K r), ()), ((p, (((if LpV r then left' else left : Nat) : Int), (q, ()))), ())) := by
  have w : IntKind.i64.wrap ((d : Int) + 1) = ((d + 1 : Nat) : Int) := up1 (by omega)
  by_cases k0 : r.val.1.1 = 0
  · have hL : ¬ LpV r := fun h => absurd (k0.symm.trans h.k0) (by omega)
    rw [if_neg hL, show decide (qyv q p K r) = decide (AddV q p r) from decide_eq_decide.2 (good0 k0), qyw]
    replace ha : r.val.1.2.2.2.2.2.1.length ≤ 1000000000 := ha
    by_cases c1 : r.val.1.2.2.2.2.1 = 0
    · by_cases c2 : 0 < (r.kids.length : Int)
      · rw [decide_eq_false (fun h => by have := h.b0; rw [this] at c2; simp at c2)]
        simp (disch := first | assumption | omega) only [zA, zB, zC, zD, zE, zF, zG, qxm, qxg, qxh, zH, zI, dpos, dneg, zJ, zK, zL, zM, zN, zO, zP, qbd]
      by_cases c3 : 0 ≤ r.val.1.2.1 ∧ r.val.1.2.1 < p.2.1
      · by_cases c4 : 0 ≤ r.val.1.2.2.1 ∧ r.val.1.2.2.1 < q
        · by_cases c5 : r.val.1.2.2.2.1 < 0
          · rw [decide_eq_false (fun h => absurd (show 0 ≤ r.val.1.2.2.2.1 from h.p0) (by omega))]
            simp (disch := first | assumption | omega) only [zA, zB, zC, zD, zE, zF, zG, qxm, qxg, qxh, zH, zI, dpos, dneg, zJ, zK, zL, zM, zN, zO, zP, qbd, qyt, qyu]
          by_cases c6 : (p.2.2.2.1.length : Int) ≤ r.val.1.2.2.2.1
          · rw [decide_eq_false (fun h => absurd (show r.val.1.2.2.2.1 < _ from h.p1) (by omega))]
            simp (disch := first | assumption | omega) only [zA, zB, zC, zD, zE, zF, zG, qxm, qxg, qxh, zH, zI, dpos, dneg, zJ, zK, zL, zM, zN, zO, zP, qbd, qyt, qyu]
          by_cases c7 : 80 < (r.val.1.2.2.2.2.2.1.length : Int)
          · rw [decide_eq_false (fun h => absurd (show r.val.1.2.2.2.2.2.1.length ≤ 80 from h.a0) (by omega))]
            simp (disch := first | assumption | omega) only [zA, zB, zC, zD, zE, zF, zG, qxm, qxg, qxh, zH, zI, dpos, dneg, zJ, zK, zL, zM, zN, zO, zP, qbd, qyt, qyu]
          obtain ⟨z, ez, ez', hz⟩ := qx1 (l := p.2.2.2.1) (i := r.val.1.2.2.2.1.toNat) (by omega)
          rw [Int.toNat_of_nonneg (by omega)] at ez
          have er := qys hm (l := r.val.1.2.2.2.2.2.1) (by omega) (p := p) (x := ((left : Int), (q, ()))) (y := ((left : Int), (q, ()))) (s := (r.val.1.1, (r.val.1.2.1, (r.val.1.2.2.1, (r.val.1.2.2.2.1, (r.val.1.2.2.2.2.1, (r.val.1.2.2.2.2.2.1, (r.kids, ()))))))))
          by_cases c8 : z ≠ [] → nvp z = r.val.1.2.2.2.2.2.1.length
          · have hadd : AddV q p r ↔ ∀ a ∈ r.val.1.2.2.2.2.2.1, RfV p r.val.1.2.1 a :=
              ⟨fun h => h.rs, fun h => ⟨k0, c1, List.length_eq_zero_iff.1 (by omega), c3.1, c3.2, c4.1, c4.2, by show 0 ≤ r.val.1.2.2.2.1; omega, by show r.val.1.2.2.2.1 < _; omega, by show r.val.1.2.2.2.2.2.1.length ≤ 80; omega, fun z' e h' => by
                change p.2.2.2.1[r.val.1.2.2.2.1.toNat]? = some z' at e
                rw [ez'] at e; obtain rfl := Option.some.inj e; exact c8 h', h⟩⟩
            rw [show decide (AddV q p r) = decide (∀ a ∈ r.val.1.2.2.2.2.2.1, RfV p r.val.1.2.1 a) from decide_eq_decide.2 hadd]
            by_cases c9 : z = []
            · subst c9
              by_cases c10 : ∀ a ∈ r.val.1.2.2.2.2.2.1, RfV p r.val.1.2.1 a
              · rw [decide_eq_true c10] at er
                simp (disch := first | assumption | omega) only [zA, zB, zC, zD, zE, zF, zG, qxm, qxg, qxh, zH, zI, dpos, dneg, zJ, zK, zL, zM, zN, zO, zP, qbd, qyt, qyu, ez, qyn, List.isEmpty, er]
              · rw [decide_eq_false c10] at er
                simp (disch := first | assumption | omega) only [zA, zB, zC, zD, zE, zF, zG, qxm, qxg, qxh, zH, zI, dpos, dneg, zJ, zK, zL, zM, zN, zO, zP, qbd, qyt, qyu, ez, qyn, List.isEmpty, er]
            · have c11 := c8 c9
              have ee : z.isEmpty = false := by cases z with
                | nil => exact absurd rfl c9
                | cons _ _ => rfl
              have c12 : (nvp z : Int) = (r.val.1.2.2.2.2.2.1.length : Int) := by omega
              by_cases c10 : ∀ a ∈ r.val.1.2.2.2.2.2.1, RfV p r.val.1.2.1 a
              · rw [decide_eq_true c10] at er
                simp (disch := first | assumption | omega) only [zA, zB, zC, zD, zE, zF, zG, qxm, qxg, qxh, zH, zI, dpos, dneg, zJ, zK, zL, zM, zN, zO, zP, qbd, qyt, qyu, ez, qyn, ee, er]
              · rw [decide_eq_false c10] at er
                simp (disch := first | assumption | omega) only [zA, zB, zC, zD, zE, zF, zG, qxm, qxg, qxh, zH, zI, dpos, dneg, zJ, zK, zL, zM, zN, zO, zP, qbd, qyt, qyu, ez, qyn, ee, er]
          · rw [decide_eq_false (fun h => c8 (fun h' => h.v z ez' h'))]
            have c9 : z ≠ [] := fun h => c8 (fun h' => absurd h h')
            have c11 : ¬ nvp z = r.val.1.2.2.2.2.2.1.length := fun h => c8 (fun _ => h)
            have ee : z.isEmpty = false := by cases z with
              | nil => exact absurd rfl c9
              | cons _ _ => rfl
            have c12 : ¬ (nvp z : Int) = (r.val.1.2.2.2.2.2.1.length : Int) := by omega
            simp (disch := first | assumption | omega) only [zA, zB, zC, zD, zE, zF, zG, qxm, qxg, qxh, zH, zI, dpos, dneg, zJ, zK, zL, zM, zN, zO, zP, qbd, qyt, qyu, ez, qyn, ee]
        · rw [decide_eq_false (fun h => c4 ⟨h.c0, h.c1⟩)]
          simp (disch := first | assumption | omega) only [zA, zB, zC, zD, zE, zF, zG, qxm, qxg, qxh, zH, zI, dpos, dneg, zJ, zK, zL, zM, zN, zO, zP, qbd, qyt, qyu]
      · rw [decide_eq_false (fun h => c3 ⟨h.t0, h.t1⟩)]
        simp (disch := first | assumption | omega) only [zA, zB, zC, zD, zE, zF, zG, qxm, qxg, qxh, zH, zI, dpos, dneg, zJ, zK, zL, zM, zN, zO, zP, qbd, qyt]
    · rw [decide_eq_false (fun h => c1 h.n0)]
      simp (disch := first | assumption | omega) only [zA, zB, zC, zD, zE, zF, zG, qxm, qxg, qxh, zH, zI, dpos, dneg, zJ, zK, zL, zM, zN, zO, zP, qbd]
  by_cases k1 : r.val.1.1 = 1
  · have hL : ¬ LpV r := fun h => absurd (k1.symm.trans h.k0) (by omega)
    rw [if_neg hL, show decide (qyv q p K r) = decide (SclV q p r) from decide_eq_decide.2 (good1 k1), qyw]
    by_cases c1 : r.val.1.2.2.2.1 = 0
    · by_cases c2 : r.val.1.2.2.2.2.1 = 0
      · by_cases c3 : (r.val.1.2.2.2.2.2.1.length : Int) = 0
        · by_cases c4 : (r.kids.length : Int) = 0
          · by_cases c5 : 0 ≤ r.val.1.2.1 ∧ r.val.1.2.1 < p.2.1
            · by_cases c6 : 0 ≤ r.val.1.2.2.1 ∧ r.val.1.2.2.1 < q
              · by_cases c7 : r.val.1.2.2.1 = 0
                · rw [decide_eq_false (fun h => h.c2 c7)]
                  simp (disch := first | assumption | omega) only [zA, zB, zC, zD, zE, zF, zG, qxm, qxg, qxh, zH, zI, dpos, dneg, zJ, zK, zL, zM, zN, zO, zP, qbd, qyt, qyu]
                · have hS : SclV q p r := ⟨k1, c1, c2, List.length_eq_zero_iff.1 (by show r.val.1.2.2.2.2.2.1.length = 0; omega), List.length_eq_zero_iff.1 (by show r.kids.length = 0; omega), c5.1, c5.2, c6.1, c6.2, c7⟩
                  rw [decide_eq_true hS]
                  simp (disch := first | assumption | omega) only [zA, zB, zC, zD, zE, zF, zG, qxm, qxg, qxh, zH, zI, dpos, dneg, zJ, zK, zL, zM, zN, zO, zP, qbd, qyt, qyu]
              · rw [decide_eq_false (fun h => c6 ⟨h.c0, h.c1⟩)]
                simp (disch := first | assumption | omega) only [zA, zB, zC, zD, zE, zF, zG, qxm, qxg, qxh, zH, zI, dpos, dneg, zJ, zK, zL, zM, zN, zO, zP, qbd, qyt, qyu]
            · rw [decide_eq_false (fun h => c5 ⟨h.t0, h.t1⟩)]
              simp (disch := first | assumption | omega) only [zA, zB, zC, zD, zE, zF, zG, qxm, qxg, qxh, zH, zI, dpos, dneg, zJ, zK, zL, zM, zN, zO, zP, qbd, qyt, qyu]
          · rw [decide_eq_false (fun h => c4 (by have := h.b0; rw [this]; rfl))]
            simp (disch := first | assumption | omega) only [zA, zB, zC, zD, zE, zF, zG, qxm, qxg, qxh, zH, zI, dpos, dneg, zJ, zK, zL, zM, zN, zO, zP, qbd, qyt, qyu]
        · rw [decide_eq_false (fun h => c3 (by have := h.a0; change r.val.1.2.2.2.2.2.1 = [] at this; rw [this]; rfl))]
          simp (disch := first | assumption | omega) only [zA, zB, zC, zD, zE, zF, zG, qxm, qxg, qxh, zH, zI, dpos, dneg, zJ, zK, zL, zM, zN, zO, zP, qbd, qyt, qyu]
      · rw [decide_eq_false (fun h => c2 h.n0)]
        simp (disch := first | assumption | omega) only [zA, zB, zC, zD, zE, zF, zG, qxm, qxg, qxh, zH, zI, dpos, dneg, zJ, zK, zL, zM, zN, zO, zP, qbd, qyt, qyu]
    · rw [decide_eq_false (fun h => c1 h.p0)]
      simp (disch := first | assumption | omega) only [zA, zB, zC, zD, zE, zF, zG, qxm, qxg, qxh, zH, zI, dpos, dneg, zJ, zK, zL, zM, zN, zO, zP, qbd, qyt, qyu]
  by_cases k2 : r.val.1.1 = 2
  · rw [show decide (qyv q p K r) = decide (LpV r ∧ K) from decide_eq_decide.2 (good2 k2), qyw]
    by_cases cL : LpV r
    · rw [if_pos cL]
      have e := hk cL
      have c1 : r.val.1.2.1 = 0 := cL.t0
      have c2 : r.val.1.2.2.1 = 0 := cL.c0
      have c3 : r.val.1.2.2.2.1 = 0 := cL.p0
      have c4 : r.val.1.2.2.2.2.2.1 = [] := cL.a0
      have c5 : 0 ≤ r.val.1.2.2.2.2.1 := cL.n0
      have c6 : r.val.1.2.2.2.2.1 ≤ 2000000 := cL.n1
      replace e : qbp m r.kids ((d + 1 : Nat) : Int) (p, ((left : Int), (q, ()))) = _ := e
      have hKK : decide (LpV r ∧ K) = decide K := decide_eq_decide.2 ⟨fun h => h.2, fun h => ⟨cL, h⟩⟩
      rw [hKK]
      have c4' : (r.val.1.2.2.2.2.2.1.length : Int) = 0 := by rw [c4]; rfl
      simp (disch := first | assumption | omega) only [zA, zB, zC, zD, zE, zF, zG, qxm, qxg, qxh, zH, zI, dpos, dneg, zJ, zK, zL, zM, zN, zO, zP, qbd, w, e]
    · rw [if_neg cL, decide_eq_false (fun h => cL h.1)]
      by_cases c1 : r.val.1.2.1 = 0
      · by_cases c2 : r.val.1.2.2.1 = 0
        · by_cases c3 : r.val.1.2.2.2.1 = 0
          · by_cases c4 : (r.val.1.2.2.2.2.2.1.length : Int) = 0
            · by_cases c5 : 0 ≤ r.val.1.2.2.2.2.1
              · have c6 : ¬ r.val.1.2.2.2.2.1 ≤ 2000000 := fun c6 => cL ⟨k2, c1, c2, c3, List.length_eq_zero_iff.1 (by show r.val.1.2.2.2.2.2.1.length = 0; omega), c5, c6⟩
                simp (disch := first | assumption | omega) only [zA, zB, zC, zD, zE, zF, zG, qxm, qxg, qxh, zH, zI, dpos, dneg, zJ, zK, zL, zM, zN, zO, zP, qbd]
              · simp (disch := first | assumption | omega) only [zA, zB, zC, zD, zE, zF, zG, qxm, qxg, qxh, zH, zI, dpos, dneg, zJ, zK, zL, zM, zN, zO, zP, qbd]
            · simp (disch := first | assumption | omega) only [zA, zB, zC, zD, zE, zF, zG, qxm, qxg, qxh, zH, zI, dpos, dneg, zJ, zK, zL, zM, zN, zO, zP, qbd]
          · simp (disch := first | assumption | omega) only [zA, zB, zC, zD, zE, zF, zG, qxm, qxg, qxh, zH, zI, dpos, dneg, zJ, zK, zL, zM, zN, zO, zP, qbd]
        · simp (disch := first | assumption | omega) only [zA, zB, zC, zD, zE, zF, zG, qxm, qxg, qxh, zH, zI, dpos, dneg, zJ, zK, zL, zM, zN, zO, zP, qbd]
      · simp (disch := first | assumption | omega) only [zA, zB, zC, zD, zE, zF, zG, qxm, qxg, qxh, zH, zI, dpos, dneg, zJ, zK, zL, zM, zN, zO, zP, qbd]
  · have hL : ¬ LpV r := fun h => k2 h.k0
    rw [if_neg hL, decide_eq_false (fun g : qyv q p K r => g.elim (fun g => k0 g.k0) fun g => g.elim (fun g => k1 g.k0) fun g => k2 g.1.k0), qyw]
    simp (disch := first | assumption | omega) only [zA, zB, zC, zD, zE, zF, zG, qxm, qxg, qxh, zH, zI, dpos, dneg, zJ, zK, zL, zM, zN, zO, zP, qbd]
theorem qy2 {q : Int} {p : Prg} {d : Nat} (hd : d ≤ 60) {l : List Stm} : OV q p (60 - d) l ↔ ∀ r ∈ l, qyv q p (d + 1 ≤ 60 ∧ OV q p (60 - (d + 1)) r.kids) r := by
  rcases Nat.lt_or_ge d 60 with h | h
  · obtain ⟨e, he⟩ : ∃ e, 60 - d = e + 1 := ⟨60 - d - 1, by omega⟩
    have he' : 60 - (d + 1) = e := by omega
    rw [he, he']
    constructor
    · intro H r hr
      rcases H r hr with g | g | g
      · exact .inl g
      · exact .inr (.inl g)
      · exact .inr (.inr ⟨g.1, by omega, g.2⟩)
    · intro H r hr
      rcases H r hr with g | g | g
      · exact .inl g
      · exact .inr (.inl g)
      · exact .inr (.inr ⟨g.1, g.2.2⟩)
  · obtain rfl : d = 60 := by omega
    constructor
    · intro H r hr
      rcases H r hr with g | g
      · exact .inl g
      · exact .inr (.inl g)
    · intro H r hr
      rcases H r hr with g | g | g
      · exact .inl g
      · exact .inr g
      · exact absurd g.2.1 (by omega)
theorem qy3 {q : Int} {p : Prg} : ∀ (k : Nat) {n B : Nat} {l : List Stm} {d left : Nat}, Fk (5 * k) n → Sma k B l → B ≤ left → left ≤ 200000 → d ≤ 61 →
    ∃ left' : Nat, qbp n l (d : Int) (p, ((left : Int), (q, ()))) = some ((decide (d ≤ 60 ∧ OV q p (60 - d) l), ()), ((p, ((left' : Int), (q, ()))), ())) ∧ left ≤ left' + cnt k l ∧ left' ≤ left := by
  intro k
  induction k with
  | zero => intro n B l d left _ h; exact h.dp.elim
  | succ k ih =>
    intro n B l d left hn hs hB hleft hd
    obtain ⟨m, rfl, hm⟩ : ∃ m, n = m + 5 ∧ Fk (5 * k) m := ⟨n - 5, by unfold Fk at hn; omega, by unfold Fk at hn ⊢; omega⟩
    have hlen := hs.len
    have hfu : Fu m := hm.fu
    have hcl : l.length ≤ cnt (k + 1) l := qxy
    have w : IntKind.i64.wrap ((left : Int) - (l.length : Int)) = ((left - l.length : Nat) : Int) := by rw [qxf (by omega) (by omega)]; omega
    by_cases h61 : d ≤ 60
    · let f : Stm → Nat := fun r => (args r).length / 4 + cnt k r.kids
      let K : Stm → Prop := fun r => d + 1 ≤ 60 ∧ OV q p (60 - (d + 1)) r.kids
      have hc0 : cnt (k + 1) l = l.length + (l.map f).sum := rfl
      have hct := hs.ct
      obtain ⟨r, el, hr⟩ := qxd (f := qbg (qbl (m + 2)) (qbm (m + 2)) (qbn (m + 2)) (qbo (m + 2)) (qbp (m + 2)) (m + 2)) (n := m + 2) (by unfold Fu at hfu ⊢; omega)
        (fun z => ∃ i lf : Nat, z = (l, ((), ((d : Int), ())), (l.length : Int), (i : Int), (p, ((lf : Int), (q, ()))), ()) ∧ i ≤ l.length ∧ (∀ r ∈ l.take i, qyv q p (K r) r) ∧ left - l.length ≤ lf + ((l.take i).map f).sum ∧ lf ≤ left)
        (fun z => ((l.length : Int) - z.2.2.2.1).toNat)
        (fun r => ∃ lf : Nat, left - l.length ≤ lf + (l.map f).sum ∧ lf ≤ left ∧ ((∃ i : Nat, r = .inl ((i : Int), (p, ((lf : Int), (q, ()))), ()) ∧ ¬ ∀ r ∈ l, qyv q p (K r) r) ∨ (r = .inr (.inl ((p, ((lf : Int), (q, ()))), ())) ∧ ∀ r ∈ l, qyv q p (K r) r)))
        (d := (l, ((), ((d : Int), ())), (l.length : Int), 0, (p, (((left - l.length : Nat) : Int), (q, ()))), ()))
        ⟨0, left - l.length, rfl, Nat.zero_le _, by simp, by simp, by omega⟩ (by simp only; omega) (by
          rintro z ⟨i, lf, rfl, h1, h2, h3, h4⟩
          by_cases ci : i < l.length
          · obtain ⟨r, er, er', hr⟩ := qxt ci
            obtain ⟨hk1, hk2⟩ := hs.kid hr
            have hsum : ((l.take (i + 1)).map f).sum = ((l.take i).map f).sum + f r := qxu er'
            have hsl : ((l.take (i + 1)).map f).sum ≤ (l.map f).sum := qxv l (i + 1)
            have hfr : f r = (args r).length / 4 + cnt k r.kids := rfl
            obtain ⟨l2, e2, g1, g2⟩ := ih (n := m) (l := r.kids) (d := d + 1) (left := lf) (B := cnt k r.kids) hm ⟨hk1.dp, Nat.le_refl _⟩ (by omega) (by omega) (by omega)
            have es := qy1 (m := m) hfu (q := q) (p := p) (r := r) (d := d) (left := lf) (left' := l2) (K := K r) (by omega) (by omega) (fun _ => by rw [e2, show decide (d + 1 ≤ 60 ∧ OV q p (60 - (d + 1)) r.kids) = @decide (K r) (propDecidable (K r)) from decide_eq_decide.2 Iff.rfl])
            have eta : (Rose.node ((r.val.1.1, (r.val.1.2.1, (r.val.1.2.2.1, (r.val.1.2.2.2.1, (r.val.1.2.2.2.2.1, (r.val.1.2.2.2.2.2.1, ())))))), ()) r.kids : Stm) = r := by
              cases r with
              | node v ks => rfl
            have e1 : qbm (m + 2) r (d : Int) (p, ((lf : Int), (q, ()))) = some ((!decide (qyv q p (K r) r), ()), ((p, (((if LpV r then l2 else lf : Nat) : Int), (q, ()))), ())) := by
              rw [qyx]
              simp (disch := first | assumption | omega) only [zA, zB, zC, zD, zE, zF, zG, qxm, qxg, qxh, zH, zI, dpos, dneg, zJ, zK, zL, zM, zN, zO, zP, qbe, eta, es]
            have hl2 : (if LpV r then l2 else lf) ≤ lf ∧ lf ≤ (if LpV r then l2 else lf) + cnt k r.kids := by
              by_cases c : LpV r
              · rw [if_pos c]; exact ⟨g2, g1⟩
              · rw [if_neg c]; omega
            generalize (if LpV r then l2 else lf) = l3 at e1 hl2
            by_cases cg : qyv q p (K r) r
            · rw [decide_eq_true cg] at e1
              refine .inl ⟨(l, ((), ((d : Int), ())), (l.length : Int), ((i + 1 : Nat) : Int), (p, ((l3 : Int), (q, ()))), ()), ?_, ⟨i + 1, l3, rfl, ci, ?_, by omega, by omega⟩, by simp only; omega⟩
              · simp (disch := first | assumption | omega) only [zA, zB, zC, zD, zE, zF, zG, qxm, qxg, qxh, zH, zI, dpos, dneg, zJ, zK, zL, zM, zN, zO, zP, qbg, qbf, er, e1, up1]
              · intro x hx
                rw [List.take_add_one, er'] at hx
                rcases List.mem_append.1 hx with hx | hx
                · exact h2 x hx
                · simp at hx; subst hx; exact cg
            · rw [decide_eq_false cg] at e1
              refine .inr ⟨.inl ((i : Int), (p, ((l3 : Int), (q, ()))), ()), ?_, l3, by omega, by omega, .inl ⟨i, rfl, fun H => cg (H r hr)⟩⟩
              simp (disch := first | assumption | omega) only [zA, zB, zC, zD, zE, zF, zG, qxm, qxg, qxh, zH, zI, dpos, dneg, zJ, zK, zL, zM, zN, zO, zP, qbg, qbf, er, e1]
          · obtain rfl : i = l.length := by omega
            rw [List.take_length] at h2 h3
            refine .inr ⟨.inr (.inl ((p, ((lf : Int), (q, ()))), ())), ?_, lf, h3, h4, .inr ⟨rfl, h2⟩⟩
            simp (disch := first | assumption | omega) only [zA, zB, zC, zD, zE, zF, zG, qxm, qxg, qxh, zH, zI, dpos, dneg, zJ, zK, zL, zM, zN, zO, zP, qbg, qbf])
      obtain ⟨lf, g1, g2, hr⟩ := hr
      have hOV := qy2 (q := q) (p := p) h61 (l := l)
      have hl0 : ¬ ((left - l.length : Nat) : Int) < 0 := by omega
      rcases hr with ⟨i, rfl, hb⟩ | ⟨rfl, hg⟩
      · refine ⟨lf, ?_, by omega, g2⟩
        rw [decide_eq_false (fun h => hb (hOV.1 h.2))]
        have e3 : qbn (m + 3) l ((), ((d : Int), ())) (p, (((left - l.length : Nat) : Int), (q, ()))) = some (((i : Int), ()), ((p, ((lf : Int), (q, ()))), ())) := by
          rw [qyy]; simp (disch := first | assumption | omega) only [zA, zB, zC, zD, zE, zF, zG, qxm, qxg, qxh, zH, zI, dpos, dneg, zJ, zK, zL, zM, zN, zO, zP, qbh, el]
        have e4 : qbo (m + 4) l ((), ((d : Int), ())) (p, (((left - l.length : Nat) : Int), (q, ()))) = some ((true, ()), ((p, ((lf : Int), (q, ()))), ())) := by
          rw [qyz]; simp (disch := first | assumption | omega) only [zA, zB, zC, zD, zE, zF, zG, qxm, qxg, qxh, zH, zI, dpos, dneg, zJ, zK, zL, zM, zN, zO, zP, qbi, e3]
        rw [qy0]
        simp (disch := first | assumption | omega) only [zA, zB, zC, zD, zE, zF, zG, qxm, qxg, qxh, zH, zI, dpos, dneg, zJ, zK, zL, zM, zN, zO, zP, qbj, w, e4]
      · refine ⟨lf, ?_, by omega, g2⟩
        rw [decide_eq_true ⟨h61, hOV.2 hg⟩]
        have e3 : qbn (m + 3) l ((), ((d : Int), ())) (p, (((left - l.length : Nat) : Int), (q, ()))) = some ((-1, ()), ((p, ((lf : Int), (q, ()))), ())) := by
          rw [qyy]; simp (disch := first | assumption | omega) only [zA, zB, zC, zD, zE, zF, zG, qxm, qxg, qxh, zH, zI, dpos, dneg, zJ, zK, zL, zM, zN, zO, zP, qbh, el]
        have e4 : qbo (m + 4) l ((), ((d : Int), ())) (p, (((left - l.length : Nat) : Int), (q, ()))) = some ((false, ()), ((p, ((lf : Int), (q, ()))), ())) := by
          rw [qyz]; simp (disch := first | assumption | omega) only [zA, zB, zC, zD, zE, zF, zG, qxm, qxg, qxh, zH, zI, dpos, dneg, zJ, zK, zL, zM, zN, zO, zP, qbi, e3]
        rw [qy0]
        simp (disch := first | assumption | omega) only [zA, zB, zC, zD, zE, zF, zG, qxm, qxg, qxh, zH, zI, dpos, dneg, zJ, zK, zL, zM, zN, zO, zP, qbj, w, e4]
    · refine ⟨left - l.length, ?_, by omega, by omega⟩
      rw [decide_eq_false (fun h => h61 h.1), qy0]
      simp (disch := first | assumption | omega) only [zA, zB, zC, zD, zE, zF, zG, qxm, qxg, qxh, zH, zI, dpos, dneg, zJ, zK, zL, zM, zN, zO, zP, qbj, w]
end Go.Proofs.YtmidcfjmchpcnaaGreat.V
namespace Go.Proofs.YtmidcfjmchpcnaaGreat.V
open Go Classical
set_option linter.unusedVariables false
set_option linter.all false
structure VPr (p : Prg) : Prop where
  f : FV p.1
  r1 : 1 ≤ p.2.1
  r2 : p.2.1 ≤ 64
  i1 : 0 ≤ p.2.2.1
  i2 : p.2.2.1 ≤ 64
  len : p.2.2.2.1.length ≤ 1000
  polys : ∀ i, i < p.2.2.2.1.length → ∀ z, p.2.2.2.1[i]? = some z → PV (qF p.1) (nvp z) z
  body : OV (qF p.1) p 60 p.2.2.2.2.1
theorem qy4 {P : List (List Trm)} (h : pss P ≤ 1000000) {z : List Trm} (hz : z ∈ P) : z.length ≤ 1000000 ∧ ∀ t ∈ z, t.2.1.length ≤ 1000000 := by
  have h1 : psz z ≤ pss P := qx2 hz
  refine ⟨by have := qx3 z; omega, fun t ht => ?_⟩
  have h3 : 1 + t.2.1.length ≤ psz z := qx2 (f := fun t : Trm => 1 + t.2.1.length) ht
  omega
theorem qy5 {n B : Nat} {p : Prg} (hn : Fk 355 n) (hs : Sma 71 B p.2.2.2.2.1) (hB : B ≤ 200000) (hP : pss p.2.2.2.1 ≤ 1000000) : qbs n p = some (decide (VPr p), ()) := by
  have hf := qyc hn.fu p.1
  by_cases c1 : FV p.1
  · rw [decide_eq_true c1] at hf
    by_cases c2 : p.2.1 < 1
    · rw [decide_eq_false (fun h => absurd h.r1 (by omega))]; simp (disch := first | assumption | omega) only [zA, zB, zC, zD, zE, zF, zG, qxm, qxg, qxh, zH, zI, dpos, dneg, zJ, zK, zL, zM, zN, zO, zP, qbs, hf]
    by_cases c3 : 64 < p.2.1
    · rw [decide_eq_false (fun h => absurd h.r2 (by omega))]; simp (disch := first | assumption | omega) only [zA, zB, zC, zD, zE, zF, zG, qxm, qxg, qxh, zH, zI, dpos, dneg, zJ, zK, zL, zM, zN, zO, zP, qbs, hf]
    by_cases c4 : p.2.2.1 < 0
    · rw [decide_eq_false (fun h => absurd h.i1 (by omega))]; simp (disch := first | assumption | omega) only [zA, zB, zC, zD, zE, zF, zG, qxm, qxg, qxh, zH, zI, dpos, dneg, zJ, zK, zL, zM, zN, zO, zP, qbs, hf]
    by_cases c5 : 64 < p.2.2.1
    · rw [decide_eq_false (fun h => absurd h.i2 (by omega))]; simp (disch := first | assumption | omega) only [zA, zB, zC, zD, zE, zF, zG, qxm, qxg, qxh, zH, zI, dpos, dneg, zJ, zK, zL, zM, zN, zO, zP, qbs, hf]
    by_cases c6 : 1000 < p.2.2.2.1.length
    · rw [decide_eq_false (fun h => absurd h.len (by omega))]; simp (disch := first | assumption | omega) only [zA, zB, zC, zD, zE, zF, zG, qxm, qxg, qxh, zH, zI, dpos, dneg, zJ, zK, zL, zM, zN, zO, zP, qbs, hf]
    have c6' : ¬ (1000 : Int) < (p.2.2.2.1.length : Int) := by omega
    have loop := qxa (f := qbr n) hn.fu (fun i => (p, p.2.2.2.1, (p.2.2.2.1.length : Int), (i : Int), ())) p.2.2.2.1.length (fun i => ∀ z, p.2.2.2.1[i]? = some z → PV (qF p.1) (nvp z) z)
      (d := (p, p.2.2.2.1, (p.2.2.2.1.length : Int), 0, ())) (r := .inr (.inl (p, ()))) (r' := .inl (false, ())) (by omega) rfl (by
        intro i hi _ h
        obtain ⟨z, ez, ez', hz⟩ := qx1 hi
        have e := qym hn.fu c1 (nv := nvp z) (p := z) (qy4 hP hz).2
        rw [decide_eq_true (h z ez')] at e
        simp (disch := first | assumption | omega) only [zA, zB, zC, zD, zE, zF, zG, qxm, qxg, qxh, zH, zI, dpos, dneg, zJ, zK, zL, zM, zN, zO, zP, qbr, qbq, ez, qyn, e, up1]) (by
        intro i hi _ h
        obtain ⟨z, ez, ez', hz⟩ := qx1 hi
        have e := qym hn.fu c1 (nv := nvp z) (p := z) (qy4 hP hz).2
        rw [decide_eq_false (fun hv => h (fun z' e' => by rw [ez'] at e'; obtain rfl := Option.some.inj e'; exact hv))] at e
        simp (disch := first | assumption | omega) only [zA, zB, zC, zD, zE, zF, zG, qxm, qxg, qxh, zH, zI, dpos, dneg, zJ, zK, zL, zM, zN, zO, zP, qbr, qbq, ez, qyn, e]) (by
        intro _
        simp (disch := first | assumption | omega) only [zA, zB, zC, zD, zE, zF, zG, qxm, qxg, qxh, zH, zI, dpos, dneg, zJ, zK, zL, zM, zN, zO, zP, qbr, qbq])
    by_cases c7 : ∀ i, i < p.2.2.2.1.length → ∀ z, p.2.2.2.1[i]? = some z → PV (qF p.1) (nvp z) z
    · rw [if_pos c7] at loop
      obtain ⟨l', e, _, _⟩ := qy3 (q := qF p.1) (p := p) 71 (l := p.2.2.2.2.1) (d := 0) (left := 200000) hn hs hB (by omega) (by omega)
      have eo := qyf hn.fu c1
      have hv : decide (VPr p) = decide (0 ≤ 60 ∧ OV (qF p.1) p (60 - 0) p.2.2.2.2.1) := decide_eq_decide.2 ⟨fun h => ⟨by omega, h.body⟩, fun h => ⟨c1, by omega, by omega, by omega, by omega, by omega, c7, h.2⟩⟩
      rw [hv]
      replace e : qbp n p.2.2.2.2.1 0 (p, (200000, (qF p.1, ()))) = _ := e
      simp (disch := first | assumption | omega) only [zA, zB, zC, zD, zE, zF, zG, qxm, qxg, qxh, zH, zI, dpos, dneg, zJ, zK, zL, zM, zN, zO, zP, qbs, hf, loop, eo, e]
    · rw [if_neg c7] at loop
      rw [decide_eq_false (fun h => c7 h.polys)]
      simp (disch := first | assumption | omega) only [zA, zB, zC, zD, zE, zF, zG, qxm, qxg, qxh, zH, zI, dpos, dneg, zJ, zK, zL, zM, zN, zO, zP, qbs, hf, loop]
  · rw [decide_eq_false c1] at hf
    rw [decide_eq_false (fun h => c1 h.f)]
    simp (disch := first | assumption | omega) only [zA, zB, zC, zD, zE, zF, zG, qxm, qxg, qxh, zH, zI, dpos, dneg, zJ, zK, zL, zM, zN, zO, zP, qbs, hf]
end Go.Proofs.YtmidcfjmchpcnaaGreat.V
namespace Go.Proofs.YtmidcfjmchpcnaaGreat.V
open Go Classical
set_option linter.unusedVariables false
set_option linter.all false
def Ld : Nat → List Stm → Prop
  | 0, l => ∀ r ∈ l, kind r ≠ 2
  | e + 1, l => ∀ r ∈ l, kind r = 2 → Ld e r.kids
theorem qy6 {l : List Stm} {i : Nat} {r : Stm} (h : l[i]? = some r) (P : Stm → Prop) : (∀ x ∈ l.take (i + 1), P x) ↔ (∀ x ∈ l.take i, P x) ∧ P r := by
  rw [List.take_add_one, h]
  constructor
  · intro H; exact ⟨fun x hx => H x (List.mem_append_left _ hx), H r (List.mem_append_right _ (by simp))⟩
  · rintro ⟨h1, h2⟩ x hx
    rcases List.mem_append.1 hx with hx | hx
    · exact h1 x hx
    · simp at hx; subst hx; exact h2
theorem qy7 (a b : Nat) : (if ((a : Nat) : Int) > ((b : Nat) : Int) then ((a : Nat) : Int) else ((b : Nat) : Int)) = ((max a b : Nat) : Int) := by
  by_cases h : (a : Int) > (b : Int)
  · rw [if_pos h]; omega
  · rw [if_neg h]; omega
theorem qy8 : ∀ (k : Nat) {n B : Nat} {l : List Stm} {L : Nat}, Fk k n → Sma k B l → B ≤ 200000 → L ≤ 1000 →
    ∃ c d : Nat, qez n l (L : Int) = some ((c : Int), ((d : Int), ())) ∧ c ≤ cnt k l ∧ d ≤ L ∧ ∀ e, e < L → (d ≤ e ↔ Ld e l) := by
  intro k
  induction k with
  | zero => intro n B l L _ h; exact h.dp.elim
  | succ k ih =>
    intro n B l L hn hs hB hL
    obtain ⟨m, rfl, hm⟩ := hn.down
    have hlen := hs.len
    have hct := hs.ct
    let f : Stm → Nat := fun r => (args r).length / 4 + cnt k r.kids
    have hc0 : cnt (k + 1) l = l.length + (l.map f).sum := rfl
    cases L with
    | zero =>
      have loop := qw9 (f := qex (qez m) m) hm.fu (fun i => (l, (0 : Int), (l.length : Int), (0 : Int), (i : Int), ())) 0 (d := (l, (0 : Int), (l.length : Int), (0 : Int), 0, ())) (r := .inl ((l.length : Int), 0, ())) (by omega) rfl (fun i h => absurd h (by omega)) (by
        by_cases c : (0 : Int) < (l.length : Int)
        · simp (disch := first | assumption | omega) only [zA, zB, zC, zD, zE, zF, zG, qxm, qxg, qxh, zH, zI, dpos, dneg, zJ, zK, zL, zM, zN, zO, zP, qex, qew]
        · simp (disch := first | assumption | omega) only [zA, zB, zC, zD, zE, zF, zG, qxm, qxg, qxh, zH, zI, dpos, dneg, zJ, zK, zL, zM, zN, zO, zP, qex, qew])
      refine ⟨l.length, 0, ?_, by omega, by omega, fun e he => absurd he (by omega)⟩
      show qez (m + 1) l 0 = _
      simp (disch := first | assumption | omega) only [zA, zB, zC, zD, zE, zF, zG, qxm, qxg, qxh, zH, zI, dpos, dneg, zJ, zK, zL, zM, zN, zO, zP, qez, qey, loop]
      rfl
    | succ L =>
      obtain ⟨r, el, c, d, rfl, g1, g2, g3⟩ := qxd (f := qex (qez m) m) hm.fu
        (fun z => ∃ i c d : Nat, z = (l, ((L + 1 : Nat) : Int), (c : Int), (d : Int), (i : Int), ()) ∧ i ≤ l.length ∧ c ≤ l.length + ((l.take i).map f).sum ∧ d ≤ L + 1 ∧ ∀ e, e < L + 1 → (d ≤ e ↔ Ld e (l.take i)))
        (fun z => ((l.length : Int) - z.2.2.2.2.1).toNat)
        (fun r => ∃ c d : Nat, r = .inl ((c : Int), (d : Int), ()) ∧ c ≤ l.length + (l.map f).sum ∧ d ≤ L + 1 ∧ ∀ e, e < L + 1 → (d ≤ e ↔ Ld e l))
        (d := (l, ((L + 1 : Nat) : Int), (l.length : Int), 0, 0, ()))
        ⟨0, l.length, 0, rfl, Nat.zero_le _, by simp, by omega, fun e _ => by cases e <;> simp [Ld]⟩ (by simp only; omega) (by
          rintro z ⟨i, c, d, rfl, h1, h2, h3, h4⟩
          have q1 : (0 : Int) < ((L + 1 : Nat) : Int) := by omega
          have hsl : ((l.take i).map f).sum ≤ (l.map f).sum := qxv l i
          by_cases ci : i < l.length
          · obtain ⟨r, er, er', hr⟩ := qxt ci
            obtain ⟨hk1, hk2⟩ := hs.kid hr
            have hsum : ((l.take (i + 1)).map f).sum = ((l.take i).map f).sum + f r := qxu er'
            have hsl2 : ((l.take (i + 1)).map f).sum ≤ (l.map f).sum := qxv l (i + 1)
            have hfr : f r = (args r).length / 4 + cnt k r.kids := rfl
            have q2 : (c : Int) ≤ 200000 := by omega
            by_cases k2 : r.val.1.1 = 2
            · obtain ⟨c', d', e, g1, g2, g3⟩ := ih (L := L) hm hk1 hB (by omega)
              have w1 : IntKind.i64.wrap (((L + 1 : Nat) : Int) - 1) = (L : Int) := by rw [qxf (by omega) (by omega)]; omega
              have w2 : IntKind.i64.wrap ((c : Int) + (c' : Int)) = ((c + c' : Nat) : Int) := by rw [qxf (by omega) (by omega)]; omega
              have w3 : IntKind.i64.wrap ((d' : Int) + 1) = ((d' + 1 : Nat) : Int) := up1 (by omega)
              have w4 := qy7 (d' + 1) d
              refine .inl ⟨(l, ((L + 1 : Nat) : Int), ((c + c' : Nat) : Int), ((max (d' + 1) d : Nat) : Int), ((i + 1 : Nat) : Int), ()), ?_, ⟨i + 1, _, _, rfl, ci, by omega, by omega, fun e he => ?_⟩, by simp only; omega⟩
              · simp (disch := first | assumption | omega) only [zA, zB, zC, zD, zE, zF, zG, qxm, qxg, qxh, zH, zI, dpos, dneg, zJ, zK, zL, zM, zN, zO, zP, qex, qew, er, w1, e, w2, w3, w4, up1]
              · rw [Nat.max_le, h4 e he]
                cases e with
                | zero =>
                  constructor
                  · rintro ⟨h, _⟩; omega
                  · intro H
                    have := ((qy6 er' (fun x => kind x ≠ 2)).1 H).2
                    exact absurd k2 this
                | succ e =>
                  have h5 := g3 e (by omega)
                  constructor
                  · rintro ⟨h, h'⟩
                    exact (qy6 er' (fun x => kind x = 2 → Ld e x.kids)).2 ⟨h', fun _ => h5.1 (by omega)⟩
                  · intro H
                    obtain ⟨H1, H2⟩ := (qy6 er' (fun x => kind x = 2 → Ld e x.kids)).1 H
                    exact ⟨by have := h5.2 (H2 k2); omega, H1⟩
            · refine .inl ⟨(l, ((L + 1 : Nat) : Int), (c : Int), (d : Int), ((i + 1 : Nat) : Int), ()), ?_, ⟨i + 1, _, _, rfl, ci, by omega, h3, fun e he => ?_⟩, by simp only; omega⟩
              · simp (disch := first | assumption | omega) only [zA, zB, zC, zD, zE, zF, zG, qxm, qxg, qxh, zH, zI, dpos, dneg, zJ, zK, zL, zM, zN, zO, zP, qex, qew, er, up1]
              · rw [h4 e he]
                cases e with
                | zero => exact ⟨fun H => (qy6 er' (fun x => kind x ≠ 2)).2 ⟨H, k2⟩, fun H => ((qy6 er' (fun x => kind x ≠ 2)).1 H).1⟩
                | succ e => exact ⟨fun H => (qy6 er' (fun x => kind x = 2 → Ld e x.kids)).2 ⟨H, fun h => absurd h k2⟩, fun H => ((qy6 er' (fun x => kind x = 2 → Ld e x.kids)).1 H).1⟩
          · obtain rfl : i = l.length := by omega
            rw [List.take_length] at h2 h4
            refine .inr ⟨.inl ((c : Int), (d : Int), ()), ?_, c, d, rfl, h2, h3, h4⟩
            simp (disch := first | assumption | omega) only [zA, zB, zC, zD, zE, zF, zG, qxm, qxg, qxh, zH, zI, dpos, dneg, zJ, zK, zL, zM, zN, zO, zP, qex, qew])
      refine ⟨c, d, ?_, by omega, g2, g3⟩
      simp (disch := first | assumption | omega) only [zA, zB, zC, zD, zE, zF, zG, qxm, qxg, qxh, zH, zI, dpos, dneg, zJ, zK, zL, zM, zN, zO, zP, qez, qey, el]
def vsP (P : List (List Trm)) : List Int := P.map fun z => if z = [] then -1 else (nvp z : Int)
theorem qy9 {n : Nat} (x : Ari) (a : Int) : qe0 n x a = some (decide (0 ≤ a ∧ a < x.2.2.1), ()) := by
  by_cases c : 0 ≤ a
  · by_cases c2 : a < x.2.2.1
    · rw [decide_eq_true ⟨c, c2⟩]; simp (disch := first | assumption | omega) only [zA, zB, zC, zD, zE, zF, zG, qxm, qxg, qxh, zH, zI, dpos, dneg, zJ, zK, zL, zM, zN, zO, zP, qe0]
    · rw [decide_eq_false (fun h => c2 h.2)]; simp (disch := first | assumption | omega) only [zA, zB, zC, zD, zE, zF, zG, qxm, qxg, qxh, zH, zI, dpos, dneg, zJ, zK, zL, zM, zN, zO, zP, qe0]
  · rw [decide_eq_false (fun h => c h.1)]; simp (disch := first | assumption | omega) only [zA, zB, zC, zD, zE, zF, zG, qxm, qxg, qxh, zH, zI, dpos, dneg, zJ, zK, zL, zM, zN, zO, zP, qe0]
theorem qza {n : Nat} (hn : Fu n) {p : Prg} {s : Int × (Int × (Int × (Int × (Int × ((List (Bool × (Int × Unit))) × (List Stm × Unit))))))} (hl : s.2.2.2.2.2.1.length ≤ 1000000000000) :
    iterN (qe2 n) n (p, s, 0, ()) = some (if ∀ a ∈ s.2.2.2.2.2.1, RfV p s.2.1 a then .inr (.inl ()) else .inl (false, ())) := by
  have loop := qxa (f := qe2 n) hn (fun i => (p, s, (i : Int), ())) s.2.2.2.2.2.1.length (fun i => ∀ a, s.2.2.2.2.2.1[i]? = some a → RfV p s.2.1 a)
    (d := (p, s, 0, ())) (r := .inr (.inl ())) (r' := .inl (false, ())) (by omega) rfl (by
      intro i hi _ h
      obtain ⟨⟨b, m, ⟨⟩⟩, ea, ea', ha⟩ := qx1 hi
      obtain ⟨g1, g2, g3⟩ := h _ ea'
      replace g1 : 0 ≤ m := g1
      cases b with
      | true =>
        have g4 : m < p.2.2.1 := g2 rfl
        simp (disch := first | assumption | omega) only [zA, zB, zC, zD, zE, zF, zG, qxm, qxg, qxh, zH, zI, dpos, dneg, zJ, zK, zL, zM, zN, zO, zP, qe2, qe1, ea, up1]
      | false =>
        have g4 : m < p.2.1 := (g3 rfl).1
        have g5 : ¬ m = s.2.1 := (g3 rfl).2
        simp (disch := first | assumption | omega) only [zA, zB, zC, zD, zE, zF, zG, qxm, qxg, qxh, zH, zI, dpos, dneg, zJ, zK, zL, zM, zN, zO, zP, qe2, qe1, ea, up1]) (by
      intro i hi _ h
      obtain ⟨⟨b, m, ⟨⟩⟩, ea, ea', ha⟩ := qx1 hi
      have h' : ¬ RfV p s.2.1 (b, (m, ())) := fun hr => h (fun a' e' => by rw [ea'] at e'; obtain rfl := Option.some.inj e'; exact hr)
      by_cases c1 : m < 0
      · simp (disch := first | assumption | omega) only [zA, zB, zC, zD, zE, zF, zG, qxm, qxg, qxh, zH, zI, dpos, dneg, zJ, zK, zL, zM, zN, zO, zP, qe2, qe1, ea]
      cases b with
      | true =>
        have g4 : p.2.2.1 ≤ m := by
          refine Classical.byContradiction fun hh => h' ⟨by show 0 ≤ m; omega, (fun _ => by show m < _; omega), (fun h => by cases h)⟩
        simp (disch := first | assumption | omega) only [zA, zB, zC, zD, zE, zF, zG, qxm, qxg, qxh, zH, zI, dpos, dneg, zJ, zK, zL, zM, zN, zO, zP, qe2, qe1, ea]
      | false =>
        by_cases c2 : p.2.1 ≤ m
        · simp (disch := first | assumption | omega) only [zA, zB, zC, zD, zE, zF, zG, qxm, qxg, qxh, zH, zI, dpos, dneg, zJ, zK, zL, zM, zN, zO, zP, qe2, qe1, ea]
        · have g5 : m = s.2.1 := by
            refine Classical.byContradiction fun hh => h' ⟨by show 0 ≤ m; omega, (fun h => by cases h), (fun _ => ⟨by show m < _; omega, hh⟩)⟩
          simp (disch := first | assumption | omega) only [zA, zB, zC, zD, zE, zF, zG, qxm, qxg, qxh, zH, zI, dpos, dneg, zJ, zK, zL, zM, zN, zO, zP, qe2, qe1, ea]) (by
      intro _
      simp (disch := first | assumption | omega) only [zA, zB, zC, zD, zE, zF, zG, qxm, qxg, qxh, zH, zI, dpos, dneg, zJ, zK, zL, zM, zN, zO, zP, qe2, qe1])
  by_cases c : ∀ a ∈ s.2.2.2.2.2.1, RfV p s.2.1 a
  · rw [if_pos (fun i hi a ha => c a (List.mem_of_getElem? ha))] at loop
    rw [if_pos c]; exact loop
  · rw [if_neg (fun h => c (fun a ha => by
      obtain ⟨i, hi⟩ := List.mem_iff_getElem?.1 ha
      exact h i (List.getElem?_eq_some_iff.1 hi).1 a hi))] at loop
    rw [if_neg c]; exact loop
theorem qzb {P : List (List Trm)} {i : Nat} {z : List Trm} (h : P[i]? = some z) : idx (vsP P) (i : Int) = some (if z = [] then -1 else (nvp z : Int)) := by
  unfold idx vsP
  rw [if_pos (by omega), Int.toNat_natCast, List.getElem?_map, h]; rfl
theorem qzc {n : Nat} (hn : Fu n) {q : Int} {p : Prg} {x : Ari} (hx : x.2.2.1 = q) (hv : ∀ z ∈ p.2.2.2.1, nvp z ≤ 80) {r : Stm} (ha : r.val.1.2.2.2.2.2.1.length ≤ 1000000000) (k0 : r.val.1.1 = 0) :
    qe3 n p x (vsP p.2.2.2.1) r = some (decide (AddV q p r), ()) := by
  subst hx
  have hvl : (vsP p.2.2.2.1).length = p.2.2.2.1.length := by simp [vsP]
  by_cases c1 : r.val.1.2.1 < 0
  · rw [decide_eq_false (fun h => absurd h.t0 (by unfold tgt; omega))]; simp (disch := first | assumption | omega) only [zA, zB, zC, zD, zE, zF, zG, qxm, qxg, qxh, zH, zI, dpos, dneg, zJ, zK, zL, zM, zN, zO, zP, qe3]
  by_cases c2 : p.2.1 ≤ r.val.1.2.1
  · rw [decide_eq_false (fun h => absurd h.t1 (by unfold tgt; omega))]; simp (disch := first | assumption | omega) only [zA, zB, zC, zD, zE, zF, zG, qxm, qxg, qxh, zH, zI, dpos, dneg, zJ, zK, zL, zM, zN, zO, zP, qe3]
  by_cases c3 : 0 ≤ r.val.1.2.2.1 ∧ r.val.1.2.2.1 < x.2.2.1
  · by_cases c4 : r.val.1.2.2.2.1 < 0
    · rw [decide_eq_false (fun h => absurd h.p0 (by unfold pol; omega))]; simp (disch := first | assumption | omega) only [zA, zB, zC, zD, zE, zF, zG, qxm, qxg, qxh, zH, zI, dpos, dneg, zJ, zK, zL, zM, zN, zO, zP, qe3, qy9]
    by_cases c5 : ((vsP p.2.2.2.1).length : Int) ≤ r.val.1.2.2.2.1
    · rw [decide_eq_false (fun h => absurd h.p1 (by unfold pol; omega))]; simp (disch := first | assumption | omega) only [zA, zB, zC, zD, zE, zF, zG, qxm, qxg, qxh, zH, zI, dpos, dneg, zJ, zK, zL, zM, zN, zO, zP, qe3, qy9]
    by_cases c6 : r.val.1.2.2.2.2.1 = 0
    · by_cases c7 : (0 : Int) < (r.kids.length : Int)
      · rw [decide_eq_false (fun h => by have := h.b0; rw [this] at c7; simp at c7)]; simp (disch := first | assumption | omega) only [zA, zB, zC, zD, zE, zF, zG, qxm, qxg, qxh, zH, zI, dpos, dneg, zJ, zK, zL, zM, zN, zO, zP, qe3, qy9]
      · obtain ⟨z, ez, ez', hz⟩ := qx1 (l := p.2.2.2.1) (i := r.val.1.2.2.2.1.toNat) (by omega)
        have ev := qzb ez'
        rw [Int.toNat_of_nonneg (by omega)] at ev
        have hz80 := hv z hz
        have er := qza hn (p := p) (s := (r.val.1.1, (r.val.1.2.1, (r.val.1.2.2.1, (r.val.1.2.2.2.1, (r.val.1.2.2.2.2.1, (r.val.1.2.2.2.2.2.1, (r.kids, ())))))))) (by show r.val.1.2.2.2.2.2.1.length ≤ _; omega)
        have hadd : (r.val.1.2.2.2.2.2.1.length ≤ 80 ∧ (z ≠ [] → nvp z = r.val.1.2.2.2.2.2.1.length)) → (AddV x.2.2.1 p r ↔ ∀ a ∈ r.val.1.2.2.2.2.2.1, RfV p r.val.1.2.1 a) := fun hh =>
          ⟨fun h => h.rs, fun h => ⟨k0, c6, List.length_eq_zero_iff.1 (by omega), by unfold tgt; omega, by unfold tgt; omega, c3.1, c3.2, by unfold pol; omega, by unfold pol; omega, hh.1, fun z' e h' => by
            change p.2.2.2.1[r.val.1.2.2.2.1.toNat]? = some z' at e
            rw [ez'] at e; obtain rfl := Option.some.inj e; exact hh.2 h', h⟩⟩
        by_cases c8 : z = []
        · rw [if_pos c8] at ev
          have q1 : ¬ (0 : Int) ≤ -1 := by omega
          by_cases c9 : r.val.1.2.2.2.2.2.1.length ≤ 80
          · rw [show decide (AddV x.2.2.1 p r) = decide (∀ a ∈ r.val.1.2.2.2.2.2.1, RfV p r.val.1.2.1 a) from decide_eq_decide.2 (hadd ⟨c9, fun h => absurd c8 h⟩)]
            by_cases c10 : ∀ a ∈ r.val.1.2.2.2.2.2.1, RfV p r.val.1.2.1 a
            · rw [if_pos c10] at er
              rw [decide_eq_true c10]
              simp (disch := first | assumption | omega) only [zA, zB, zC, zD, zE, zF, zG, qxm, qxg, qxh, zH, zI, dpos, dneg, zJ, zK, zL, zM, zN, zO, zP, qe3, qy9, ev, er]
            · rw [if_neg c10] at er
              rw [decide_eq_false c10]
              simp (disch := first | assumption | omega) only [zA, zB, zC, zD, zE, zF, zG, qxm, qxg, qxh, zH, zI, dpos, dneg, zJ, zK, zL, zM, zN, zO, zP, qe3, qy9, ev, er]
          · rw [decide_eq_false (fun h => c9 h.a0)]
            simp (disch := first | assumption | omega) only [zA, zB, zC, zD, zE, zF, zG, qxm, qxg, qxh, zH, zI, dpos, dneg, zJ, zK, zL, zM, zN, zO, zP, qe3, qy9, ev]
        · rw [if_neg c8] at ev
          by_cases c9 : (r.val.1.2.2.2.2.2.1.length : Int) = (nvp z : Int)
          · rw [show decide (AddV x.2.2.1 p r) = decide (∀ a ∈ r.val.1.2.2.2.2.2.1, RfV p r.val.1.2.1 a) from decide_eq_decide.2 (hadd ⟨by omega, fun _ => by omega⟩)]
            by_cases c10 : ∀ a ∈ r.val.1.2.2.2.2.2.1, RfV p r.val.1.2.1 a
            · rw [if_pos c10] at er
              rw [decide_eq_true c10]
              simp (disch := first | assumption | omega) only [zA, zB, zC, zD, zE, zF, zG, qxm, qxg, qxh, zH, zI, dpos, dneg, zJ, zK, zL, zM, zN, zO, zP, qe3, qy9, ev, er]
            · rw [if_neg c10] at er
              rw [decide_eq_false c10]
              simp (disch := first | assumption | omega) only [zA, zB, zC, zD, zE, zF, zG, qxm, qxg, qxh, zH, zI, dpos, dneg, zJ, zK, zL, zM, zN, zO, zP, qe3, qy9, ev, er]
          · rw [decide_eq_false (fun h => c9 (by have := h.v z ez' c8; unfold args at this; omega))]
            simp (disch := first | assumption | omega) only [zA, zB, zC, zD, zE, zF, zG, qxm, qxg, qxh, zH, zI, dpos, dneg, zJ, zK, zL, zM, zN, zO, zP, qe3, qy9, ev]
    · rw [decide_eq_false (fun h => c6 h.n0)]; simp (disch := first | assumption | omega) only [zA, zB, zC, zD, zE, zF, zG, qxm, qxg, qxh, zH, zI, dpos, dneg, zJ, zK, zL, zM, zN, zO, zP, qe3, qy9]
  · rw [decide_eq_false (fun h => c3 ⟨h.c0, h.c1⟩)]; simp (disch := first | assumption | omega) only [zA, zB, zC, zD, zE, zF, zG, qxm, qxg, qxh, zH, zI, dpos, dneg, zJ, zK, zL, zM, zN, zO, zP, qe3, qy9]
end Go.Proofs.YtmidcfjmchpcnaaGreat.V
namespace Go.Proofs.YtmidcfjmchpcnaaGreat.V
open Go Classical
set_option linter.unusedVariables false
set_option linter.all false
def SV (q : Int) (p : Prg) : Nat → List Stm → Prop
  | 0, _ => False
  | k + 1, l => ∀ r ∈ l, qyv q p (SV q p k r.kids) r
theorem qzd (r : Stm) : (Rose.node ((r.val.1.1, (r.val.1.2.1, (r.val.1.2.2.1, (r.val.1.2.2.2.1, (r.val.1.2.2.2.2.1, (r.val.1.2.2.2.2.2.1, ())))))), ()) r.kids : Stm) = r := by
  cases r with
  | node v ks => rfl
theorem qze {q : Int} {p : Prg} {x : Ari} (hx : x.2.2.1 = q) (hv : ∀ z ∈ p.2.2.2.1, nvp z ≤ 80) : ∀ (k : Nat) {n B : Nat} {l : List Stm}, Fk k n → Sma k B l → B ≤ 200000 → qe7 n p x (vsP p.2.2.2.1) l = some (decide (SV q p k l), ()) := by
  intro k
  induction k with
  | zero => intro n B l _ h; exact h.dp.elim
  | succ k ih =>
    intro n B l hn hs hB
    obtain ⟨m, rfl, hm⟩ := hn.down
    have hlen := hs.len
    have key : ∀ (i : Nat), i < l.length → (∀ r, l[i]? = some r → qyv q p (SV q p k r.kids) r) ∧ qe5 (qe7 m) m (vsP p.2.2.2.1, l, p, x, (i : Int), ()) = some (.inl (vsP p.2.2.2.1, l, p, x, ((i + 1 : Nat) : Int), ())) ∨ (¬ ∀ r, l[i]? = some r → qyv q p (SV q p k r.kids) r) ∧ qe5 (qe7 m) m (vsP p.2.2.2.1, l, p, x, (i : Int), ()) = some (.inr (.inl (false, ()))) := by
      intro i hi
      obtain ⟨r, er, er', hr⟩ := qxt hi
      obtain ⟨hk1, hk2⟩ := hs.kid hr
      have hiff : (∀ r, l[i]? = some r → qyv q p (SV q p k r.kids) r) ↔ qyv q p (SV q p k r.kids) r :=
        ⟨fun h => h r er', fun h r' e' => by rw [er'] at e'; obtain rfl := Option.some.inj e'; exact h⟩
      rw [hiff]
      have eta := qzd r
      have hal : r.val.1.2.2.2.2.2.1.length ≤ 1000000000 := by unfold args at hk2; omega
      by_cases k0 : r.val.1.1 = 0
      · have e := qzc hm.fu hx hv hal k0
        rw [good0 k0]
        by_cases c : AddV q p r
        · rw [decide_eq_true c] at e
          refine .inl ⟨c, ?_⟩
          simp (disch := first | assumption | omega) only [zA, zB, zC, zD, zE, zF, zG, qxm, qxg, qxh, zH, zI, dpos, dneg, zJ, zK, zL, zM, zN, zO, zP, qe5, qe4, er, eta, e, up1]
        · rw [decide_eq_false c] at e
          refine .inr ⟨c, ?_⟩
          simp (disch := first | assumption | omega) only [zA, zB, zC, zD, zE, zF, zG, qxm, qxg, qxh, zH, zI, dpos, dneg, zJ, zK, zL, zM, zN, zO, zP, qe5, qe4, er, eta, e]
      by_cases k1 : r.val.1.1 = 1
      · rw [good1 k1]
        subst hx
        by_cases c1 : r.val.1.2.1 < 0
        · refine .inr ⟨fun h => absurd h.t0 (by unfold tgt; omega), ?_⟩; simp (disch := first | assumption | omega) only [zA, zB, zC, zD, zE, zF, zG, qxm, qxg, qxh, zH, zI, dpos, dneg, zJ, zK, zL, zM, zN, zO, zP, qe5, qe4, er]
        by_cases c2 : p.2.1 ≤ r.val.1.2.1
        · refine .inr ⟨fun h => absurd h.t1 (by unfold tgt; omega), ?_⟩; simp (disch := first | assumption | omega) only [zA, zB, zC, zD, zE, zF, zG, qxm, qxg, qxh, zH, zI, dpos, dneg, zJ, zK, zL, zM, zN, zO, zP, qe5, qe4, er]
        by_cases c3 : 0 ≤ r.val.1.2.2.1 ∧ r.val.1.2.2.1 < x.2.2.1
        · by_cases c4 : r.val.1.2.2.1 = 0
          · refine .inr ⟨fun h => h.c2 c4, ?_⟩; simp (disch := first | assumption | omega) only [zA, zB, zC, zD, zE, zF, zG, qxm, qxg, qxh, zH, zI, dpos, dneg, zJ, zK, zL, zM, zN, zO, zP, qe5, qe4, er, qy9]
          by_cases c5 : r.val.1.2.2.2.1 = 0
          · by_cases c6 : r.val.1.2.2.2.2.1 = 0
            · by_cases c7 : (0 : Int) < (r.val.1.2.2.2.2.2.1.length : Int)
              · refine .inr ⟨fun h => by have := h.a0; unfold args at this; rw [this] at c7; simp at c7, ?_⟩; simp (disch := first | assumption | omega) only [zA, zB, zC, zD, zE, zF, zG, qxm, qxg, qxh, zH, zI, dpos, dneg, zJ, zK, zL, zM, zN, zO, zP, qe5, qe4, er, qy9]
              by_cases c8 : (0 : Int) < (r.kids.length : Int)
              · refine .inr ⟨fun h => by have := h.b0; rw [this] at c8; simp at c8, ?_⟩; simp (disch := first | assumption | omega) only [zA, zB, zC, zD, zE, zF, zG, qxm, qxg, qxh, zH, zI, dpos, dneg, zJ, zK, zL, zM, zN, zO, zP, qe5, qe4, er, qy9]
              refine .inl ⟨⟨k1, c5, c6, List.length_eq_zero_iff.1 (by unfold args; omega), List.length_eq_zero_iff.1 (by omega), by unfold tgt; omega, by unfold tgt; omega, c3.1, c3.2, c4⟩, ?_⟩
              simp (disch := first | assumption | omega) only [zA, zB, zC, zD, zE, zF, zG, qxm, qxg, qxh, zH, zI, dpos, dneg, zJ, zK, zL, zM, zN, zO, zP, qe5, qe4, er, qy9, up1]
            · refine .inr ⟨fun h => c6 h.n0, ?_⟩; simp (disch := first | assumption | omega) only [zA, zB, zC, zD, zE, zF, zG, qxm, qxg, qxh, zH, zI, dpos, dneg, zJ, zK, zL, zM, zN, zO, zP, qe5, qe4, er, qy9]
          · refine .inr ⟨fun h => c5 h.p0, ?_⟩; simp (disch := first | assumption | omega) only [zA, zB, zC, zD, zE, zF, zG, qxm, qxg, qxh, zH, zI, dpos, dneg, zJ, zK, zL, zM, zN, zO, zP, qe5, qe4, er, qy9]
        · refine .inr ⟨fun h => c3 ⟨h.c0, h.c1⟩, ?_⟩; simp (disch := first | assumption | omega) only [zA, zB, zC, zD, zE, zF, zG, qxm, qxg, qxh, zH, zI, dpos, dneg, zJ, zK, zL, zM, zN, zO, zP, qe5, qe4, er, qy9]
      by_cases k2 : r.val.1.1 = 2
      · rw [good2 k2]
        have e := ih hm hk1 hB
        by_cases c1 : r.val.1.2.2.2.2.1 < 0
        · refine .inr ⟨fun h => absurd h.1.n0 (by unfold num; omega), ?_⟩; simp (disch := first | assumption | omega) only [zA, zB, zC, zD, zE, zF, zG, qxm, qxg, qxh, zH, zI, dpos, dneg, zJ, zK, zL, zM, zN, zO, zP, qe5, qe4, er]
        by_cases c2 : 2000000 < r.val.1.2.2.2.2.1
        · refine .inr ⟨fun h => absurd h.1.n1 (by unfold num; omega), ?_⟩; simp (disch := first | assumption | omega) only [zA, zB, zC, zD, zE, zF, zG, qxm, qxg, qxh, zH, zI, dpos, dneg, zJ, zK, zL, zM, zN, zO, zP, qe5, qe4, er]
        by_cases c3 : r.val.1.2.1 = 0
        · by_cases c4 : r.val.1.2.2.1 = 0
          · by_cases c5 : r.val.1.2.2.2.1 = 0
            · by_cases c6 : (0 : Int) < (r.val.1.2.2.2.2.2.1.length : Int)
              · refine .inr ⟨fun h => by have := h.1.a0; unfold args at this; rw [this] at c6; simp at c6, ?_⟩; simp (disch := first | assumption | omega) only [zA, zB, zC, zD, zE, zF, zG, qxm, qxg, qxh, zH, zI, dpos, dneg, zJ, zK, zL, zM, zN, zO, zP, qe5, qe4, er]
              have hL : LpV r := ⟨k2, c3, c4, c5, List.length_eq_zero_iff.1 (by unfold args; omega), by unfold num; omega, by unfold num; omega⟩
              by_cases c7 : SV q p k r.kids
              · rw [decide_eq_true c7] at e
                refine .inl ⟨⟨hL, c7⟩, ?_⟩
                simp (disch := first | assumption | omega) only [zA, zB, zC, zD, zE, zF, zG, qxm, qxg, qxh, zH, zI, dpos, dneg, zJ, zK, zL, zM, zN, zO, zP, qe5, qe4, er, e, up1]
              · rw [decide_eq_false c7] at e
                refine .inr ⟨fun h => c7 h.2, ?_⟩
                simp (disch := first | assumption | omega) only [zA, zB, zC, zD, zE, zF, zG, qxm, qxg, qxh, zH, zI, dpos, dneg, zJ, zK, zL, zM, zN, zO, zP, qe5, qe4, er, e]
            · refine .inr ⟨fun h => c5 h.1.p0, ?_⟩; simp (disch := first | assumption | omega) only [zA, zB, zC, zD, zE, zF, zG, qxm, qxg, qxh, zH, zI, dpos, dneg, zJ, zK, zL, zM, zN, zO, zP, qe5, qe4, er]
          · refine .inr ⟨fun h => c4 h.1.c0, ?_⟩; simp (disch := first | assumption | omega) only [zA, zB, zC, zD, zE, zF, zG, qxm, qxg, qxh, zH, zI, dpos, dneg, zJ, zK, zL, zM, zN, zO, zP, qe5, qe4, er]
        · refine .inr ⟨fun h => c3 h.1.t0, ?_⟩; simp (disch := first | assumption | omega) only [zA, zB, zC, zD, zE, zF, zG, qxm, qxg, qxh, zH, zI, dpos, dneg, zJ, zK, zL, zM, zN, zO, zP, qe5, qe4, er]
      · refine .inr ⟨fun g : qyv q p (SV q p k r.kids) r => g.elim (fun g => k0 g.k0) fun g => g.elim (fun g => k1 g.k0) fun g => k2 g.1.k0, ?_⟩
        simp (disch := first | assumption | omega) only [zA, zB, zC, zD, zE, zF, zG, qxm, qxg, qxh, zH, zI, dpos, dneg, zJ, zK, zL, zM, zN, zO, zP, qe5, qe4, er]
    have loop := qxa (f := qe5 (qe7 m) m) hm.fu (fun i => (vsP p.2.2.2.1, l, p, x, (i : Int), ())) l.length (fun i => ∀ r, l[i]? = some r → qyv q p (SV q p k r.kids) r)
      (d := (vsP p.2.2.2.1, l, p, x, 0, ())) (r := .inr (.inl ())) (r' := .inl (false, ())) (by omega) rfl
      (fun i hi _ h => (key i hi).elim (fun g => g.2) fun g => absurd h g.1) (fun i hi _ h => (key i hi).elim (fun g => absurd g.1 h) fun g => g.2) (by
        intro _
        simp (disch := first | assumption | omega) only [zA, zB, zC, zD, zE, zF, zG, qxm, qxg, qxh, zH, zI, dpos, dneg, zJ, zK, zL, zM, zN, zO, zP, qe5, qe4])
    by_cases c : SV q p (k + 1) l
    · rw [if_pos (fun i hi r hr => c r (List.mem_of_getElem? hr))] at loop
      rw [decide_eq_true c]
      simp (disch := first | assumption | omega) only [zA, zB, zC, zD, zE, zF, zG, qxm, qxg, qxh, zH, zI, dpos, dneg, zJ, zK, zL, zM, zN, zO, zP, qe7, qe6, loop]
    · rw [if_neg (fun h => c (fun r hr => by
        obtain ⟨i, hi⟩ := List.mem_iff_getElem?.1 hr
        exact h i (List.getElem?_eq_some_iff.1 hi).1 r hi))] at loop
      rw [decide_eq_false c]
      simp (disch := first | assumption | omega) only [zA, zB, zC, zD, zE, zF, zG, qxm, qxg, qxh, zH, zI, dpos, dneg, zJ, zK, zL, zM, zN, zO, zP, qe7, qe6, loop]
theorem SV_OV {q : Int} {p : Prg} : ∀ (k e : Nat) {l : List Stm}, Dp k l → (OV q p e l ↔ SV q p k l ∧ Ld e l) := by
  intro k
  induction k with
  | zero => intro e l h; exact h.elim
  | succ k ih =>
    intro e l h
    cases e with
    | zero =>
      constructor
      · intro H
        refine ⟨fun r hr => ?_, fun r hr hk => ?_⟩
        · rcases H r hr with g | g
          · exact .inl g
          · exact .inr (.inl g)
        · rcases H r hr with g | g
          · exact absurd (hk.symm.trans g.k0) (by omega)
          · exact absurd (hk.symm.trans g.k0) (by omega)
      · rintro ⟨H1, H2⟩ r hr
        rcases H1 r hr with g | g | g
        · exact .inl g
        · exact .inr g
        · exact absurd g.1.k0 (H2 r hr)
    | succ e =>
      constructor
      · intro H
        refine ⟨fun r hr => ?_, fun r hr hk => ?_⟩
        · rcases H r hr with g | g | g
          · exact .inl g
          · exact .inr (.inl g)
          · exact .inr (.inr ⟨g.1, ((ih e (h r hr)).1 g.2).1⟩)
        · rcases H r hr with g | g | g
          · exact absurd (hk.symm.trans g.k0) (by omega)
          · exact absurd (hk.symm.trans g.k0) (by omega)
          · exact ((ih e (h r hr)).1 g.2).2
      · rintro ⟨H1, H2⟩ r hr
        rcases H1 r hr with g | g | g
        · exact .inl g
        · exact .inr (.inl g)
        · exact .inr (.inr ⟨g.1, (ih e (h r hr)).2 ⟨g.2, H2 r hr g.1.k0⟩⟩)
theorem qzf {l : List Int} : tab l.length (fun j => l.getD j 0) = l := by
  apply List.ext_getElem
  · simp
  · intro j h1 h2
    rw [qxp, List.getD_eq_getElem?_getD, List.getElem?_eq_getElem h2]; rfl
theorem qzg {n B : Nat} {p : Prg} (hn : Fk 71 n) (hs : Sma 71 B p.2.2.2.2.1) (hB : B ≤ 200000) (hP : pss p.2.2.2.1 ≤ 1000000) : qfa n p = some (decide (VPr p), ()) := by
  have hf := qyg hn.fu p.1
  by_cases c1 : FV p.1
  · rw [decide_eq_true c1] at hf
    by_cases c2 : p.2.1 < 1
    · rw [decide_eq_false (fun h => absurd h.r1 (by omega))]; simp (disch := first | assumption | omega) only [zA, zB, zC, zD, zE, zF, zG, qxm, qxg, qxh, zH, zI, dpos, dneg, zJ, zK, zL, zM, zN, zO, zP, qfa, hf]
    by_cases c3 : 64 < p.2.1
    · rw [decide_eq_false (fun h => absurd h.r2 (by omega))]; simp (disch := first | assumption | omega) only [zA, zB, zC, zD, zE, zF, zG, qxm, qxg, qxh, zH, zI, dpos, dneg, zJ, zK, zL, zM, zN, zO, zP, qfa, hf]
    by_cases c4 : p.2.2.1 < 0
    · rw [decide_eq_false (fun h => absurd h.i1 (by omega))]; simp (disch := first | assumption | omega) only [zA, zB, zC, zD, zE, zF, zG, qxm, qxg, qxh, zH, zI, dpos, dneg, zJ, zK, zL, zM, zN, zO, zP, qfa, hf]
    by_cases c5 : 64 < p.2.2.1
    · rw [decide_eq_false (fun h => absurd h.i2 (by omega))]; simp (disch := first | assumption | omega) only [zA, zB, zC, zD, zE, zF, zG, qxm, qxg, qxh, zH, zI, dpos, dneg, zJ, zK, zL, zM, zN, zO, zP, qfa, hf]
    by_cases c6 : 1000 < p.2.2.2.1.length
    · rw [decide_eq_false (fun h => absurd h.len (by omega))]; simp (disch := first | assumption | omega) only [zA, zB, zC, zD, zE, zF, zG, qxm, qxg, qxh, zH, zI, dpos, dneg, zJ, zK, zL, zM, zN, zO, zP, qfa, hf]
    have c6' : ¬ (1000 : Int) < (p.2.2.2.1.length : Int) := by omega
    have eo := qyq hn.fu c1
    have hq := arF_q c1
    let v := vsP p.2.2.2.1
    have hvl : v.length = p.2.2.2.1.length := by simp [v, vsP]
    have hPlt : p.2.2.2.1.length < 1180591620717411303424 := by
      have : p.2.2.2.1.length ≤ 1000 := by omega
      omega
    let inv : Nat → List Int := fun i => tab p.2.2.2.1.length (fun j => if j < i then v.getD j 0 else 0)
    have loop := qxa (f := qe9 n) hn.fu (fun i => (p, (i : Int), arF p.1, inv i, ())) p.2.2.2.1.length (fun i => ∀ z, p.2.2.2.1[i]? = some z → PV (qF p.1) (nvp z) z)
      (d := (p, 0, arF p.1, List.replicate p.2.2.2.1.length 0, ())) (r := .inr (.inl (p, arF p.1, v, ()))) (r' := .inl (false, ())) hPlt (by rw [qxs]; rfl) (by
        intro i hi _ h
        obtain ⟨z, ez, ez', hz⟩ := qx1 hi
        obtain ⟨w, e, hw⟩ := qyo hn.fu (arF p.1) (qy4 hP hz).2 (qy4 hP hz).1
        rw [hq] at e hw
        rw [decide_eq_true (h z ez')] at e
        have hw' := hw (h z ez')
        have hil : (inv i).length = p.2.2.2.1.length := by simp [inv]
        have ei : idx (inv i) (i : Int) = some (rd (inv i) (i : Int)) := qxn (by omega) (by omega)
        have eset : (inv i).set i w = inv (i + 1) := by
          rw [show inv i = tab p.2.2.2.1.length (fun j => if j < i then v.getD j 0 else 0) from rfl, qxq]
          refine qxr fun j hj => ?_
          have hvi : v.getD i 0 = w := by
            rw [hw']
            show (vsP p.2.2.2.1).getD i 0 = _
            rw [List.getD_eq_getElem?_getD, vsP, List.getElem?_map, ez']; rfl
          by_cases c : j = i
          · subst c; rw [if_pos rfl, if_pos (by omega), hvi]
          · rw [if_neg c]
            by_cases c' : j < i
            · rw [if_pos c', if_pos (by omega)]
            · rw [if_neg c', if_neg (by omega)]
        simp (disch := first | assumption | omega) only [zA, zB, zC, zD, zE, zF, zG, qxm, qxg, qxh, zH, zI, dpos, dneg, zJ, zK, zL, zM, zN, zO, zP, qe9, qe8, ez, e, ei, up1, eset]) (by
        intro i hi _ h
        obtain ⟨z, ez, ez', hz⟩ := qx1 hi
        obtain ⟨w, e, hw⟩ := qyo hn.fu (arF p.1) (qy4 hP hz).2 (qy4 hP hz).1
        rw [hq] at e
        rw [decide_eq_false (fun hv => h (fun z' e' => by rw [ez'] at e'; obtain rfl := Option.some.inj e'; exact hv))] at e
        simp (disch := first | assumption | omega) only [zA, zB, zC, zD, zE, zF, zG, qxm, qxg, qxh, zH, zI, dpos, dneg, zJ, zK, zL, zM, zN, zO, zP, qe9, qe8, ez, e]) (by
        intro _
        have : inv p.2.2.2.1.length = v := by
          rw [show inv p.2.2.2.1.length = tab p.2.2.2.1.length (fun j => if j < p.2.2.2.1.length then v.getD j 0 else 0) from rfl]
          rw [qxr (g := fun j => v.getD j 0) (fun j hj => if_pos hj), ← hvl, qzf]
        simp (disch := first | assumption | omega) only [zA, zB, zC, zD, zE, zF, zG, qxm, qxg, qxh, zH, zI, dpos, dneg, zJ, zK, zL, zM, zN, zO, zP, qe9, qe8, this])
    by_cases c7 : ∀ i, i < p.2.2.2.1.length → ∀ z, p.2.2.2.1[i]? = some z → PV (qF p.1) (nvp z) z
    · rw [if_pos c7] at loop
      obtain ⟨c, d, ec, g1, g2, g3⟩ := qy8 71 (L := 61) hn hs hB (by omega)
      replace ec : qez n p.2.2.2.2.1 61 = _ := ec
      have hc : (c : Int) ≤ 200000 := by have := hs.ct; omega
      have eb := qze (x := arF p.1) hq (p := p) (fun z hz => by
        obtain ⟨i, hi⟩ := List.mem_iff_getElem?.1 hz
        exact (c7 i (List.getElem?_eq_some_iff.1 hi).1 z hi).vars) 71 hn hs hB
      have hso := SV_OV (q := qF p.1) (p := p) 71 60 hs.dp
      have h60 := g3 60 (by omega)
      by_cases c8 : d ≤ 60
      · have hv : decide (VPr p) = decide (SV (qF p.1) p 71 p.2.2.2.2.1) := decide_eq_decide.2 ⟨fun h => (hso.1 h.body).1, fun h => ⟨c1, by omega, by omega, by omega, by omega, by omega, c7, hso.2 ⟨h, h60.1 c8⟩⟩⟩
        rw [hv]
        have c9 : (d : Int) ≤ 60 := by omega
        simp (disch := first | assumption | omega) only [zA, zB, zC, zD, zE, zF, zG, qxm, qxg, qxh, zH, zI, dpos, dneg, zJ, zK, zL, zM, zN, zO, zP, qfa, hf, eo, loop, ec]
        rw [eb]; rfl
      · rw [decide_eq_false (fun h : VPr p => c8 (h60.2 (hso.1 h.body).2))]
        have c9 : ¬ (d : Int) ≤ 60 := by omega
        simp (disch := first | assumption | omega) only [zA, zB, zC, zD, zE, zF, zG, qxm, qxg, qxh, zH, zI, dpos, dneg, zJ, zK, zL, zM, zN, zO, zP, qfa, hf, eo, loop, ec]
    · rw [if_neg c7] at loop
      rw [decide_eq_false (fun h : VPr p => c7 h.polys)]
      simp (disch := first | assumption | omega) only [zA, zB, zC, zD, zE, zF, zG, qxm, qxg, qxh, zH, zI, dpos, dneg, zJ, zK, zL, zM, zN, zO, zP, qfa, hf, eo, loop]
  · rw [decide_eq_false c1] at hf
    rw [decide_eq_false (fun h => c1 h.f)]
    simp (disch := first | assumption | omega) only [zA, zB, zC, zD, zE, zF, zG, qxm, qxg, qxh, zH, zI, dpos, dneg, zJ, zK, zL, zM, zN, zO, zP, qfa, hf]
end Go.Proofs.YtmidcfjmchpcnaaGreat.V
namespace Go.Proofs.YtmidcfjmchpcnaaGreat.V
open Go Classical
set_option linter.unusedVariables false
set_option linter.all false
def stp : Nat → List Stm → Nat
  | 0, _ => 0
  | k + 1, l => (l.map fun r => if kind r = 2 then stp k r.kids * (num r).toNat else 1).sum
def sat (a : Nat) : Nat := min a 1099511627777
def Lps : Nat → List Stm → Prop
  | 0, _ => True
  | k + 1, l => ∀ r ∈ l, kind r = 2 → (0 ≤ num r ∧ num r ≤ 2000000) ∧ Lps k r.kids
theorem qzh (a b : Nat) : sat (sat a + b) = sat (a + b) := by unfold sat; omega
theorem qzi (a b : Nat) : sat (sat a + sat b) = sat (a + b) := by unfold sat; omega
theorem qzj {a N : Nat} (hN : 0 < N) : (1099511627776 / N < sat a → sat (a * N) = 1099511627777) ∧ (¬ 1099511627776 / N < sat a → sat a * N = sat (a * N) ∧ sat a * N ≤ 1099511627776) := by
  constructor
  · intro h
    have h1 : 1099511627776 < sat a * N := (Nat.div_lt_iff_lt_mul hN).1 h
    have h2 : sat a * N ≤ a * N := Nat.mul_le_mul_right N (Nat.min_le_left _ _)
    generalize sat a * N = x at h1 h2
    generalize a * N = y at h2 ⊢
    unfold sat; omega
  · intro h
    have h1 : sat a * N ≤ 1099511627776 := (Nat.le_div_iff_mul_le hN).1 (Nat.le_of_not_lt h)
    have h3 : sat a ≤ sat a * N := Nat.le_mul_of_pos_right _ hN
    have h4 : sat a = a := by
      generalize sat a * N = x at h1 h3
      unfold sat at h3 ⊢; omega
    rw [h4] at h1 ⊢
    generalize a * N = y at h1 ⊢
    exact ⟨by unfold sat; omega, h1⟩
theorem qzk {a N : Nat} (hs : 0 < sat a) : (1099511627777 / sat a < N → sat (a * N) = 1099511627777) ∧ (¬ 1099511627777 / sat a < N → sat a * N = sat (a * N) ∧ sat a * N ≤ 1099511627777) := by
  constructor
  · intro h
    have h1 : 1099511627777 < N * sat a := (Nat.div_lt_iff_lt_mul hs).1 h
    rw [Nat.mul_comm] at h1
    have h2 : sat a * N ≤ a * N := Nat.mul_le_mul_right N (Nat.min_le_left _ _)
    generalize sat a * N = x at h1 h2
    generalize a * N = y at h2 ⊢
    unfold sat; omega
  · intro h
    have h1 : N * sat a ≤ 1099511627777 := (Nat.le_div_iff_mul_le hs).1 (Nat.le_of_not_lt h)
    rw [Nat.mul_comm] at h1
    by_cases c : a < 1099511627777
    · have h4 : sat a = a := by unfold sat; omega
      rw [h4] at h1 ⊢
      generalize a * N = y at h1 ⊢
      exact ⟨by unfold sat; omega, h1⟩
    · have h4 : sat a = 1099511627777 := by unfold sat; omega
      rw [h4] at h1 ⊢
      have h5 : N ≤ 1 := by omega
      rcases Nat.le_one_iff_eq_zero_or_eq_one.1 h5 with rfl | rfl
      · exact ⟨by simp [sat], by omega⟩
      · exact ⟨by rw [Nat.mul_one, Nat.mul_one, h4], by omega⟩
theorem qzl (a b : Nat) : (if ((1099511627777 : Int) < ((a + b : Nat) : Int)) then (1099511627777 : Int) else ((a + b : Nat) : Int)) = ((sat (a + b) : Nat) : Int) := by
  unfold sat
  by_cases h : (1099511627777 : Int) < ((a + b : Nat) : Int)
  · rw [if_pos h]; omega
  · rw [if_neg h]; omega
theorem qzm (a : Nat) : sat a ≤ 1099511627777 := by unfold sat; omega
theorem qzn : ∀ (k : Nat) {n B : Nat} {l : List Stm}, Fk k n → Sma k B l → B ≤ 1000000 → Lps k l → qbw n l = some (((sat (stp k l) : Nat) : Int), ()) := by
  intro k
  induction k with
  | zero => intro n B l _ h; exact h.dp.elim
  | succ k ih =>
    intro n B l hn hs hB hl
    obtain ⟨m, rfl, hm⟩ := hn.down
    have hlen := hs.len
    let f : Stm → Nat := fun r => if kind r = 2 then stp k r.kids * (num r).toNat else 1
    have loop := qw9 (f := qbu (qbw m) m) hm.fu (fun i => (((sat ((l.take i).map f).sum : Nat) : Int), l, (l.length : Int), (i : Int), ())) l.length (d := (0, l, (l.length : Int), 0, ())) (r := .inl (((sat (stp (k + 1) l) : Nat) : Int), ())) (by omega) (by simp [sat]) (by
      intro i hi
      obtain ⟨r, er, er', hr⟩ := qxt hi
      obtain ⟨hk1, hk2⟩ := hs.kid hr
      have hsum : ((l.take (i + 1)).map f).sum = ((l.take i).map f).sum + f r := qxu er'
      rw [hsum]
      generalize ((l.take i).map f).sum = c
      have hc := qzm c
      by_cases k2 : r.val.1.1 = 2
      · obtain ⟨⟨n0, n1⟩, hl2⟩ := hl r hr k2
        have e := ih hm hk1 hB hl2
        have hfr : f r = stp k r.kids * (num r).toNat := if_pos k2
        rw [hfr]
        generalize stp k r.kids = a at e
        have ha := qzm a
        obtain ⟨N, hN⟩ : ∃ N : Nat, num r = (N : Int) := ⟨(num r).toNat, by omega⟩
        rw [hN, Int.toNat_natCast]
        unfold num at hN n1 n0
        rw [hN] at n1
        by_cases cN : 0 < N
        · have q0 : (0 : Int) < (N : Int) := by omega
          have q1 : ¬ (N : Int) = 0 := by omega
          have w1 : IntKind.i64.wrap (Int.tdiv 1099511627776 (N : Int)) = ((1099511627776 / N : Nat) : Int) := by
            have : Int.tdiv 1099511627776 (N : Int) = ((1099511627776 / N : Nat) : Int) := rfl
            have h2 : 1099511627776 / N ≤ 1099511627776 := Nat.div_le_self _ _
            rw [this]
            generalize 1099511627776 / N = y at h2 ⊢
            exact qxf (by omega) (by omega)
          obtain ⟨g1, g2⟩ := qzj (a := a) cN
          by_cases c3 : 1099511627776 / N < sat a
          · have c3' : ((1099511627776 / N : Nat) : Int) < ((sat a : Nat) : Int) := by exact_mod_cast c3
            have w2 : IntKind.i64.wrap (((sat c : Nat) : Int) + 1099511627777) = ((sat c + 1099511627777 : Nat) : Int) := by rw [qxf (by omega) (by omega)]; omega
            have w3 := qzl (sat c) 1099511627777
            have w4 : sat (sat c + 1099511627777) = sat (c + a * N) := by rw [← g1 c3, qzi]
            rw [w4] at w3
            simp (disch := first | assumption | omega) only [zA, zB, zC, zD, zE, zF, zG, qxm, qxg, qxh, zH, zI, dpos, dneg, zJ, zK, zL, zM, zN, zO, zP, qbu, qbt, er, e, hN, w1, w2, w3, up1]
          · have c3' : ¬ ((1099511627776 / N : Nat) : Int) < ((sat a : Nat) : Int) := by intro h; exact c3 (by exact_mod_cast h)
            obtain ⟨g3, g4⟩ := g2 c3
            have w5 : IntKind.i64.wrap (((sat a : Nat) : Int) * (N : Int)) = ((sat (a * N) : Nat) : Int) := by
              rw [← g3, ← Int.natCast_mul]
              generalize sat a * N = y at g4 ⊢
              exact qxf (by omega) (by omega)
            have hx := qzm (a * N)
            have w2 : IntKind.i64.wrap (((sat c : Nat) : Int) + ((sat (a * N) : Nat) : Int)) = ((sat c + sat (a * N) : Nat) : Int) := by rw [qxf (by omega) (by omega)]; omega
            have w3 := qzl (sat c) (sat (a * N))
            rw [qzi] at w3
            simp (disch := first | assumption | omega) only [zA, zB, zC, zD, zE, zF, zG, qxm, qxg, qxh, zH, zI, dpos, dneg, zJ, zK, zL, zM, zN, zO, zP, qbu, qbt, er, e, hN, w1, w5, w2, w3, up1]
        · obtain rfl : N = 0 := by omega
          have w5 : IntKind.i64.wrap (((sat a : Nat) : Int) * ((0 : Nat) : Int)) = ((0 : Nat) : Int) := by rw [Int.natCast_zero, Int.mul_zero]; rfl
          have w2 : IntKind.i64.wrap (((sat c : Nat) : Int) + ((0 : Nat) : Int)) = ((sat c + 0 : Nat) : Int) := by rw [qxf (by omega) (by omega)]; omega
          have w3 := qzl (sat c) 0
          rw [qzh] at w3
          have q0 : ¬ (0 : Int) < ((0 : Nat) : Int) := by omega
          rw [Nat.mul_zero]
          simp (disch := first | assumption | omega) only [zA, zB, zC, zD, zE, zF, zG, qxm, qxg, qxh, zH, zI, dpos, dneg, zJ, zK, zL, zM, zN, zO, zP, qbu, qbt, er, e, hN, w5, w2, w3, up1]
      · have hfr : f r = 1 := if_neg k2
        rw [hfr]
        have w2 : IntKind.i64.wrap (((sat c : Nat) : Int) + 1) = ((sat c + 1 : Nat) : Int) := up1 (by omega)
        have w3 := qzl (sat c) 1
        rw [qzh] at w3
        simp (disch := first | assumption | omega) only [zA, zB, zC, zD, zE, zF, zG, qxm, qxg, qxh, zH, zI, dpos, dneg, zJ, zK, zL, zM, zN, zO, zP, qbu, qbt, er, w2, w3, up1]) (by
      rw [List.take_length]
      simp (disch := first | assumption | omega) only [zA, zB, zC, zD, zE, zF, zG, qxm, qxg, qxh, zH, zI, dpos, dneg, zJ, zK, zL, zM, zN, zO, zP, qbu, qbt]
      rfl)
    simp (disch := first | assumption | omega) only [zA, zB, zC, zD, zE, zF, zG, qxm, qxg, qxh, zH, zI, dpos, dneg, zJ, zK, zL, zM, zN, zO, zP, qbw, qbv, loop]
theorem qzo {k : Nat} {l : List Stm} {i : Nat} {r : Stm} (h : l[i]? = some r) (h2 : kind r = 2) : stp k r.kids * (num r).toNat ≤ stp (k + 1) l := by
  have : (fun r : Stm => if kind r = 2 then stp k r.kids * (num r).toNat else 1) r ≤ stp (k + 1) l := qx2 (f := fun r : Stm => if kind r = 2 then stp k r.kids * (num r).toNat else 1) (List.mem_of_getElem? h)
  simpa [h2] using this
theorem qzp : ∀ (k : Nat) {n B : Nat} {l : List Stm}, Fk k n → Sma k B l → B ≤ 1000000 → Lps k l → qfe n l = some (((sat (stp k l) : Nat) : Int), ()) := by
  intro k
  induction k with
  | zero => intro n B l _ h; exact h.dp.elim
  | succ k ih =>
    intro n B l hn hs hB hl
    obtain ⟨m, rfl, hm⟩ := hn.down
    have hlen := hs.len
    let f : Stm → Nat := fun r => if kind r = 2 then stp k r.kids * (num r).toNat else 1
    let G : Stm → Prop := fun r => kind r = 2 → 0 < sat (stp k r.kids) → ¬ 1099511627777 / sat (stp k r.kids) < (num r).toNat
    have hbad : ∀ (i : Nat) (r : Stm), l[i]? = some r → ¬ G r → sat (stp (k + 1) l) = 1099511627777 := by
      intro i r hi hG
      have h2 : kind r = 2 ∧ 0 < sat (stp k r.kids) ∧ 1099511627777 / sat (stp k r.kids) < (num r).toNat := by
        refine Classical.byContradiction fun hc => hG fun h1 h2 h3 => hc ⟨h1, h2, h3⟩
      have h3 := (qzk h2.2.1).1 h2.2.2
      have h4 := qzo (k := k) hi h2.1
      generalize stp k r.kids * (num r).toNat = y at h3 h4
      unfold sat at h3 ⊢; omega
    rcases qxb (f := qfc (qfe m) m) hm.fu (fun i => (l, ((sat ((l.take i).map f).sum : Nat) : Int), (i : Int), ())) l.length (fun i => ∀ r, l[i]? = some r → G r) (d := (l, 0, 0, ()))
      (r := .inr (.inl (((sat (stp (k + 1) l) : Nat) : Int), ()))) (r' := fun _ => .inl (1099511627777, ())) (by omega) (by simp [sat]) (by
      intro i hi _ hG
      obtain ⟨r, er, er', hr⟩ := qxt hi
      obtain ⟨hk1, hk2⟩ := hs.kid hr
      have hsum : ((l.take (i + 1)).map f).sum = ((l.take i).map f).sum + f r := qxu er'
      rw [hsum]
      generalize ((l.take i).map f).sum = c
      have hc := qzm c
      by_cases k2 : r.val.1.1 = 2
      · obtain ⟨⟨n0, n1⟩, hl2⟩ := hl r hr k2
        have e := ih hm hk1 hB hl2
        have hfr : f r = stp k r.kids * (num r).toNat := if_pos k2
        have hG' := hG r er' k2
        rw [hfr]
        generalize stp k r.kids = a at e hG'
        have ha := qzm a
        obtain ⟨N, hN⟩ : ∃ N : Nat, num r = (N : Int) := ⟨(num r).toNat, by omega⟩
        rw [hN, Int.toNat_natCast] at hG' ⊢
        unfold num at hN n1 n0
        rw [hN] at n1
        by_cases cs : 0 < sat a
        · have q0 : (0 : Int) < ((sat a : Nat) : Int) := by omega
          have q1 : ¬ ((sat a : Nat) : Int) = 0 := by omega
          have w1 : IntKind.i64.wrap (Int.tdiv 1099511627777 ((sat a : Nat) : Int)) = ((1099511627777 / sat a : Nat) : Int) := by
            have : Int.tdiv 1099511627777 ((sat a : Nat) : Int) = ((1099511627777 / sat a : Nat) : Int) := rfl
            have h2 : 1099511627777 / sat a ≤ 1099511627777 := Nat.div_le_self _ _
            rw [this]
            generalize 1099511627777 / sat a = y at h2 ⊢
            exact qxf (by omega) (by omega)
          have c3 := hG' cs
          have c3' : ¬ ((1099511627777 / sat a : Nat) : Int) < (N : Int) := by intro h; exact c3 (by exact_mod_cast h)
          obtain ⟨g3, g4⟩ := (qzk cs).2 c3
          have w5 : IntKind.i64.wrap (((sat a : Nat) : Int) * (N : Int)) = ((sat (a * N) : Nat) : Int) := by
            rw [← g3, ← Int.natCast_mul]
            generalize sat a * N = y at g4 ⊢
            exact qxf (by omega) (by omega)
          have hx := qzm (a * N)
          have w2 : IntKind.i64.wrap (((sat c : Nat) : Int) + ((sat (a * N) : Nat) : Int)) = ((sat c + sat (a * N) : Nat) : Int) := by rw [qxf (by omega) (by omega)]; omega
          have w3 := qzl (sat c) (sat (a * N))
          rw [qzi] at w3
          simp (disch := first | assumption | omega) only [zA, zB, zC, zD, zE, zF, zG, qxm, qxg, qxh, zH, zI, dpos, dneg, zJ, zK, zL, zM, zN, zO, zP, qfc, qfb, er, e, hN, w1, w5, w2, w3, up1]
        · have h0 : sat a = 0 := by omega
          have ha0 : a = 0 := by unfold sat at h0; omega
          subst ha0
          have w5 : IntKind.i64.wrap (((sat 0 : Nat) : Int) * (N : Int)) = ((0 : Nat) : Int) := by
            rw [h0, Int.natCast_zero, Int.zero_mul]; rfl
          have w2 : IntKind.i64.wrap (((sat c : Nat) : Int) + ((0 : Nat) : Int)) = ((sat c + 0 : Nat) : Int) := by rw [qxf (by omega) (by omega)]; omega
          have w3 := qzl (sat c) 0
          rw [qzh] at w3
          have q0 : ¬ (0 : Int) < ((sat 0 : Nat) : Int) := by omega
          rw [Nat.zero_mul]
          simp (disch := first | assumption | omega) only [zA, zB, zC, zD, zE, zF, zG, qxm, qxg, qxh, zH, zI, dpos, dneg, zJ, zK, zL, zM, zN, zO, zP, qfc, qfb, er, e, hN, w5, w2, w3, up1]
      · have hfr : f r = 1 := if_neg k2
        rw [hfr]
        have w2 : IntKind.i64.wrap (((sat c : Nat) : Int) + 1) = ((sat c + 1 : Nat) : Int) := up1 (by omega)
        have w3 := qzl (sat c) 1
        rw [qzh] at w3
        simp (disch := first | assumption | omega) only [zA, zB, zC, zD, zE, zF, zG, qxm, qxg, qxh, zH, zI, dpos, dneg, zJ, zK, zL, zM, zN, zO, zP, qfc, qfb, er, w2, w3, up1]) (by
      intro i hi _ hG
      obtain ⟨r, er, er', hr⟩ := qxt hi
      obtain ⟨hk1, hk2⟩ := hs.kid hr
      have h2 : kind r = 2 ∧ 0 < sat (stp k r.kids) ∧ 1099511627777 / sat (stp k r.kids) < (num r).toNat := by
        refine Classical.byContradiction fun hc => hG fun r' e' h1 h2 h3 => ?_
        rw [er'] at e'; obtain rfl := Option.some.inj e'
        exact hc ⟨h1, h2, h3⟩
      obtain ⟨k2, cs, c3⟩ := h2
      obtain ⟨⟨n0, n1⟩, hl2⟩ := hl r hr k2
      have e := ih hm hk1 hB hl2
      generalize stp k r.kids = a at e cs c3
      have ha := qzm a
      obtain ⟨N, hN⟩ : ∃ N : Nat, num r = (N : Int) := ⟨(num r).toNat, by omega⟩
      rw [hN, Int.toNat_natCast] at c3
      unfold num at hN
      unfold kind at k2
      have q0 : (0 : Int) < ((sat a : Nat) : Int) := by omega
      have q1 : ¬ ((sat a : Nat) : Int) = 0 := by omega
      have w1 : IntKind.i64.wrap (Int.tdiv 1099511627777 ((sat a : Nat) : Int)) = ((1099511627777 / sat a : Nat) : Int) := by
        have : Int.tdiv 1099511627777 ((sat a : Nat) : Int) = ((1099511627777 / sat a : Nat) : Int) := rfl
        have h2 : 1099511627777 / sat a ≤ 1099511627777 := Nat.div_le_self _ _
        rw [this]
        generalize 1099511627777 / sat a = y at h2 ⊢
        exact qxf (by omega) (by omega)
      have c3' : ((1099511627777 / sat a : Nat) : Int) < (N : Int) := by exact_mod_cast c3
      simp (disch := first | assumption | omega) only [zA, zB, zC, zD, zE, zF, zG, qxm, qxg, qxh, zH, zI, dpos, dneg, zJ, zK, zL, zM, zN, zO, zP, qfc, qfb, er, e, hN, w1]) (by
      intro _
      rw [List.take_length]
      simp (disch := first | assumption | omega) only [zA, zB, zC, zD, zE, zF, zG, qxm, qxg, qxh, zH, zI, dpos, dneg, zJ, zK, zL, zM, zN, zO, zP, qfc, qfb]
      rfl) with ⟨h, e⟩ | ⟨i, hi, h1, h2, e⟩
    · simp (disch := first | assumption | omega) only [zA, zB, zC, zD, zE, zF, zG, qxm, qxg, qxh, zH, zI, dpos, dneg, zJ, zK, zL, zM, zN, zO, zP, qfe, qfd, e]
    · obtain ⟨r, er, er', hr⟩ := qxt hi
      rw [hbad i r er' (fun hg => h2 (fun r' e' => by rw [er'] at e'; obtain rfl := Option.some.inj e'; exact hg))]
      simp (disch := first | assumption | omega) only [zA, zB, zC, zD, zE, zF, zG, qxm, qxg, qxh, zH, zI, dpos, dneg, zJ, zK, zL, zM, zN, zO, zP, qfe, qfd, e]
      rfl
end Go.Proofs.YtmidcfjmchpcnaaGreat.V
namespace Go.Proofs.YtmidcfjmchpcnaaGreat.V
open Go Classical
set_option linter.unusedVariables false
set_option linter.all false
theorem qzq (n : Nat) (x : Int) : qfi n x = qfz n x := rfl
theorem qzr {n : Nat} (hn : Fu n) {N : Int} (h1 : N ≤ 2147483648) : ∃ b : Nat, qfz n N = some ((b : Int), ()) ∧ b ≤ 31 := by
  obtain ⟨r, e, b, rfl, h⟩ := qxd (f := qfy n) hn (fun d => ∃ b : Nat, d = (N, (b : Int), ()) ∧ b ≤ 31) (fun d => (31 - d.2.1).toNat) (fun r => ∃ b : Nat, r = .inl ((b : Int), ()) ∧ b ≤ 31)
    (d := (N, 0, ())) ⟨0, rfl, by omega⟩ (by simp only; omega) (by
      rintro d ⟨b, rfl, hb⟩
      have e0 : min b IntKind.i64.bits = b := Nat.min_eq_left (by have : IntKind.i64.bits = 64 := rfl; omega)
      have a1 : (2 : Nat) ^ b ≤ 2 ^ 31 := Nat.pow_le_pow_right (by omega) hb
      have e3 : (2 : Int) ^ b = ((2 ^ b : Nat) : Int) := by rw [Int.natCast_pow]; rfl
      have w : IntKind.i64.wrap ((1 : Int) * 2 ^ (min (Int.toNat (b : Int)) IntKind.i64.bits)) = ((2 ^ b : Nat) : Int) := by
        rw [Int.toNat_natCast, e0, Int.one_mul, e3]
        generalize 2 ^ b = y at a1 ⊢
        exact qxf (by omega) (by omega)
      rw [Int.toNat_natCast] at w
      by_cases c : ((2 ^ b : Nat) : Int) < N
      · have hb2 : b < 31 := by
          refine Classical.byContradiction fun hh => ?_
          obtain rfl : b = 31 := by omega
          omega
        refine .inl ⟨(N, ((b + 1 : Nat) : Int), ()), ?_, ⟨b + 1, rfl, by omega⟩, by simp only; omega⟩
        simp (disch := first | assumption | omega) only [zA, zB, zC, zD, zE, zF, zG, qxm, qxg, qxh, zH, zI, dpos, dneg, zJ, zK, zL, zM, zN, zO, zP, qfy, qfx, w, up1]
      · refine .inr ⟨.inl ((b : Int), ()), ?_, b, rfl, hb⟩
        simp (disch := first | assumption | omega) only [zA, zB, zC, zD, zE, zF, zG, qxm, qxg, qxh, zH, zI, dpos, dneg, zJ, zK, zL, zM, zN, zO, zP, qfy, qfx, w])
  exact ⟨b, by simp (disch := first | assumption | omega) only [zA, zB, zC, zD, zE, zF, zG, qxm, qxg, qxh, zH, zI, dpos, dneg, zJ, zK, zL, zM, zN, zO, zP, qfz, e], h⟩
noncomputable def bl (n : Nat) (N : Int) : Nat := if h : ∃ b : Nat, qfz n N = some ((b : Int), ()) ∧ b ≤ 31 then Classical.choose h else 0
theorem qzs {n : Nat} (hn : Fu n) {N : Int} (h1 : N ≤ 2147483648) : qfz n N = some ((bl n N : Int), ()) ∧ bl n N ≤ 31 := by
  have h := qzr hn h1
  unfold bl
  rw [dif_pos h]
  exact Classical.choose_spec h
theorem qzt : ∀ (k : Nat) {n B : Nat} {l : List Stm}, Fk k n → Sma k B l → B ≤ 1000000 → k ≤ 1000 → Lps k l → ∃ v : Nat, qf4 n l = some ((v : Int), ()) ∧ qfm n l = some ((v : Int), ()) ∧ v ≤ 31 * k := by
  intro k
  induction k with
  | zero => intro n B l _ h; exact h.dp.elim
  | succ k ih =>
    intro n B l hn hs hB hk hl
    obtain ⟨m, rfl, hm⟩ := hn.down
    have hlen := hs.len
    have key : ∀ j, j ≤ l.length → ∃ v : Nat → Nat, v 0 = 0 ∧ (∀ i, i ≤ j → v i ≤ 31 * (k + 1)) ∧ ∀ i, i < j → qf2 (qf4 m) m ((v i : Int), l, (l.length : Int), (i : Int), ()) = some (.inl ((v (i + 1) : Int), l, (l.length : Int), ((i + 1 : Nat) : Int), ())) ∧ qfk (qfm m) m (l, (v i : Int), (i : Int), ()) = some (.inl (l, (v (i + 1) : Int), ((i + 1 : Nat) : Int), ())) := by
      intro j
      induction j with
      | zero => intro _; exact ⟨fun _ => 0, rfl, fun i hi => Nat.zero_le _, fun i hi => absurd hi (by omega)⟩
      | succ j ihj =>
        intro hj
        obtain ⟨v, v0, vb, vs⟩ := ihj (by omega)
        obtain ⟨r, er, er', hr⟩ := qxt (show j < l.length by omega)
        obtain ⟨hk1, hk2⟩ := hs.kid hr
        have step : ∃ w : Nat, w ≤ 31 * (k + 1) ∧ qf2 (qf4 m) m ((v j : Int), l, (l.length : Int), (j : Int), ()) = some (.inl ((w : Int), l, (l.length : Int), ((j + 1 : Nat) : Int), ())) ∧ qfk (qfm m) m (l, (v j : Int), (j : Int), ()) = some (.inl (l, (w : Int), ((j + 1 : Nat) : Int), ())) := by
          have vj := vb j (Nat.le_refl _)
          by_cases k2 : r.val.1.1 = 2
          · obtain ⟨⟨n0, n1⟩, hl2⟩ := hl r hr k2
            obtain ⟨o, e1, e2, ho⟩ := ih hm hk1 hB (by omega) hl2
            unfold num at n0 n1
            have wN : IntKind.i64.wrap (r.val.1.2.2.2.2.1 + 1) = r.val.1.2.2.2.2.1 + 1 := qxf (by omega) (by omega)
            obtain ⟨b1, b2⟩ := qzs hm.fu (N := r.val.1.2.2.2.2.1 + 1) (by omega)
            generalize bl m (r.val.1.2.2.2.2.1 + 1) = b at b1 b2
            have w2 : IntKind.i64.wrap ((b : Int) + (o : Int)) = ((b + o : Nat) : Int) := by rw [qxf (by omega) (by omega)]; omega
            have w3 := qy7 (b + o) (v j)
            refine ⟨max (b + o) (v j), by omega, ?_, ?_⟩
            · simp (disch := first | assumption | omega) only [zA, zB, zC, zD, zE, zF, zG, qxm, qxg, qxh, zH, zI, dpos, dneg, zJ, zK, zL, zM, zN, zO, zP, qf2, qf1, er, qf0, wN, b1, e1, w2, w3, up1]
            · simp (disch := first | assumption | omega) only [zA, zB, zC, zD, zE, zF, zG, qxm, qxg, qxh, zH, zI, dpos, dneg, zJ, zK, zL, zM, zN, zO, zP, qfk, qfj, er, qzq, wN, b1, e2, w2, w3, up1]
          · refine ⟨v j, vj, ?_, ?_⟩
            · simp (disch := first | assumption | omega) only [zA, zB, zC, zD, zE, zF, zG, qxm, qxg, qxh, zH, zI, dpos, dneg, zJ, zK, zL, zM, zN, zO, zP, qf2, qf1, er, up1]
            · simp (disch := first | assumption | omega) only [zA, zB, zC, zD, zE, zF, zG, qxm, qxg, qxh, zH, zI, dpos, dneg, zJ, zK, zL, zM, zN, zO, zP, qfk, qfj, er, up1]
        obtain ⟨w, hw, s1, s2⟩ := step
        refine ⟨fun i => if i = j + 1 then w else v i, by simp only; rw [if_neg (by omega)]; exact v0, fun i hi => ?_, fun i hi => ?_⟩
        · simp only
          by_cases c : i = j + 1
          · rw [if_pos c]; exact hw
          · rw [if_neg c]; exact vb i (by omega)
        · simp only
          rw [if_neg (show ¬ i = j + 1 by omega)]
          by_cases c : i = j
          · subst c
            rw [if_pos rfl]; exact ⟨s1, s2⟩
          · rw [if_neg (show ¬ i + 1 = j + 1 by omega)]
            exact vs i (by omega)
    obtain ⟨v, v0, vb, vs⟩ := key l.length (Nat.le_refl _)
    have l1 := qw9 (f := qf2 (qf4 m) m) hm.fu (fun i => ((v i : Int), l, (l.length : Int), (i : Int), ())) l.length (d := (0, l, (l.length : Int), 0, ())) (r := .inl ((v l.length : Int), ())) (by omega) (by rw [v0]; rfl) (fun i hi => (vs i hi).1) (by
      simp (disch := first | assumption | omega) only [zA, zB, zC, zD, zE, zF, zG, qxm, qxg, qxh, zH, zI, dpos, dneg, zJ, zK, zL, zM, zN, zO, zP, qf2, qf1])
    have l2 := qw9 (f := qfk (qfm m) m) hm.fu (fun i => (l, (v i : Int), (i : Int), ())) l.length (d := (l, 0, 0, ())) (r := .inl ((v l.length : Int), ())) (by omega) (by rw [v0]; rfl) (fun i hi => (vs i hi).2) (by
      simp (disch := first | assumption | omega) only [zA, zB, zC, zD, zE, zF, zG, qxm, qxg, qxh, zH, zI, dpos, dneg, zJ, zK, zL, zM, zN, zO, zP, qfk, qfj])
    refine ⟨v l.length, ?_, ?_, vb _ (Nat.le_refl _)⟩
    · simp (disch := first | assumption | omega) only [zA, zB, zC, zD, zE, zF, zG, qxm, qxg, qxh, zH, zI, dpos, dneg, zJ, zK, zL, zM, zN, zO, zP, qf4, qf3, l1]
    · simp (disch := first | assumption | omega) only [zA, zB, zC, zD, zE, zF, zG, qxm, qxg, qxh, zH, zI, dpos, dneg, zJ, zK, zL, zM, zN, zO, zP, qfm, qfl, l2]
end Go.Proofs.YtmidcfjmchpcnaaGreat.V
namespace Go.Proofs.YtmidcfjmchpcnaaGreat.V
open Go Classical
set_option linter.unusedVariables false
set_option linter.all false
theorem qzu {q : Int} {p : Prg} : ∀ (k e : Nat) {l : List Stm}, OV q p e l → Lps k l := by
  intro k
  induction k with
  | zero => intro e l _; trivial
  | succ k ih =>
    intro e l h r hr k2
    cases e with
    | zero =>
      rcases h r hr with g | g
      · exact absurd (k2.symm.trans g.k0) (by omega)
      · exact absurd (k2.symm.trans g.k0) (by omega)
    | succ e =>
      rcases h r hr with g | g | g
      · exact absurd (k2.symm.trans g.k0) (by omega)
      · exact absurd (k2.symm.trans g.k0) (by omega)
      · exact ⟨⟨g.1.n0, g.1.n1⟩, ih e g.2⟩
theorem qzv {p : Prg} (hl : Ln p.2.2.2.2.1) (hp : LnP p.2.2.2.1) : ∃ n, qf6 n p = some (true, ()) := by
  obtain ⟨n, hn, m, hm⟩ : ∃ n, Fk 1000 n ∧ ∃ m, n = m + 200 := ⟨1180591620717411304424, by unfold Fk; omega, 1180591620717411304224, rfl⟩
  have ea : qd6 n = some (true, ()) := by rw [hm]; exact qyr m
  clear hm
  refine ⟨n, ?_⟩
  rcases qx7 (hn.le (by omega)) hl hp with e | ⟨e, hN⟩
  · simp (disch := first | assumption | omega) only [zA, zB, zC, zD, zE, zF, zG, qxm, qxg, qxh, zH, zI, dpos, dneg, zJ, zK, zL, zM, zN, zO, zP, qf6, e, ea]
  have hs := hN.body
  have hP : pss p.2.2.2.1 ≤ 1000000 := by have := hN.size; omega
  have ec := qx4 (hn.le (show 71 ≤ 1000 by omega)) hs (by omega) (by have := hN.polys; omega) hP
  have e1 := qy5 (hn.le (show 355 ≤ 1000 by omega)) hs (by omega) hP
  have e2 := qzg (hn.le (show 71 ≤ 1000 by omega)) hs (by omega) hP
  by_cases c : VPr p
  · rw [decide_eq_true c] at e1 e2
    have hL := qzu 71 60 c.body
    have s1 := qzn 71 (hn.le (show 71 ≤ 1000 by omega)) hs (by omega) hL
    have s2 := qzp 71 (hn.le (show 71 ≤ 1000 by omega)) hs (by omega) hL
    obtain ⟨v, o1, o2, hv⟩ := qzt 71 (hn.le (show 71 ≤ 1000 by omega)) hs (by omega) (by omega) hL
    have eo := qyf hn.fu c.f
    have eO := qyq hn.fu c.f
    have hq := arF_q c.f
    obtain ⟨b1, b2⟩ := qzs hn.fu (N := qF p.1) (by have := (qye c.f).2; omega)
    generalize sat (stp 71 p.2.2.2.2.1) = s at s1 s2
    by_cases c2 : (1099511627776 : Int) < (s : Int)
    · simp (disch := first | assumption | omega) only [zA, zB, zC, zD, zE, zF, zG, qxm, qxg, qxh, zH, zI, dpos, dneg, zJ, zK, zL, zM, zN, zO, zP, qf6, e, ea, ec, e1, e2, qff, s2, qfn, o2, eO, qzq, hq, b1, qbx, s1, qf5, zJ]
      rfl
    · simp (disch := first | assumption | omega) only [zA, zB, zC, zD, zE, zF, zG, qxm, qxg, qxh, zH, zI, dpos, dneg, zJ, zK, zL, zM, zN, zO, zP, qf6, e, ea, ec, e1, e2, qff, s2, qfn, o2, eO, qzq, hq, b1, qbx, s1, qf5, o1, eo, zJ]
      rfl
  · rw [decide_eq_false c] at e1 e2
    simp (disch := first | assumption | omega) only [zA, zB, zC, zD, zE, zF, zG, qxm, qxg, qxh, zH, zI, dpos, dneg, zJ, zK, zL, zM, zN, zO, zP, qf6, e, ea, ec, e1, e2, qbx, qf5]
    rfl
end Go.Proofs.YtmidcfjmchpcnaaGreat.V
namespace Go.Proofs.YtmidcfjmchpcnaaGreat.V
open Go Classical
set_option linter.unusedVariables false
set_option linter.all false
def TyStv : Ty := .pair (.int .i64) (.pair (.int .i64) (.pair (.int .i64) (.pair (.int .i64) (.pair (.int .i64) (.pair (.sl (.pair .bool (.pair (.int .i64) .unit))) .unit)))))
def TyPrg : Ty := .pair (.pair (.int .i64) (.pair (.int .i64) .unit)) (.pair (.int .i64) (.pair (.int .i64) (.pair (.sl (.sl (.pair (.int .i64) (.pair (.sl (.int .i64)) .unit)))) (.pair (.sl (.ex .tree TyStv .unit)) .unit))))
theorem qzw {r : Stm} (h : RAll (fun (v : Stv) n => Wf TyStv v.1 ∧ Wf .unit v.2 ∧ n ≤ 140737488351232) r) : LnR r := by
  induction h with
  | mk h1 h2 ih => exact .mk ⟨h1.1.2.2.2.2.2.1.1, h1.2.2⟩ ih
theorem ln_of {p : Prg} (h : Wf TyPrg p) : Ln p.2.2.2.2.1 ∧ LnP p.2.2.2.1 :=
  ⟨⟨h.2.2.2.2.1.1, fun r hr => qzw (h.2.2.2.2.1.2 r hr)⟩, ⟨h.2.2.2.1.1, fun z hz => ⟨(h.2.2.2.1.2 z hz).1, fun t ht => ((h.2.2.2.1.2 z hz).2 t ht).2.1.1⟩⟩⟩
theorem qzx (p : Prg) (h : Wf TyPrg p) : ∃ n, qf6 n p = some (true, ()) := qzv (ln_of h).1 (ln_of h).2
end Go.Proofs.YtmidcfjmchpcnaaGreat.V
