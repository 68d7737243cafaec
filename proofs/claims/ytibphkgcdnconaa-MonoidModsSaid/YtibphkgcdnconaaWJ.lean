/- What an argument reads as: out of its reading as data come a plain value, its representation in memory (shared), and its bounds. -/
import Derived.SizedLaws
import Derived.ChangeArms
import Derived.ChangeSlices
import Derived.Test.YtibphkgcdnconaaWI
namespace Go.Proofs.Ytibphkgcdnconaa.V
open Go Go.RowKit
set_option linter.unusedVariables false
set_option linter.all false
def Ty.plain : Ty → Bool
  | .bool | .int _ | .str | .unit => true
  | .sl t => t.plain && Nat.blt 0 t.size
  | .pair a b => a.plain && b.plain
  | _ => false
/-- Bounds of what is read. -/
def Wf : (t : Ty) → t.den → Prop
  | .bool, _ => True
  | .int k, n => (Lit.int k n).wf = true
  | .str, s => s.size ≤ 140737488351232
  | .unit, _ => True
  | .sl t, xs => xs.length ≤ 140737488351232 ∧ ∀ x ∈ xs, Wf t x
  | .pair a b, x => Wf a x.1 ∧ Wf b x.2
  | .arr _ _, _ => True
  | .mp _ _, _ => True
  | .ex _ _ _, _ => True
def Old (w : World) : Bs := fun b => b < w.heap.size
def OpnV (P : Program) (t : Ty) (tid : TypeId) : Prop :=
  ∀ {H : Type} {enc : TypeId × Value → H} {w : World} {sp : Nat → Bool} {hd : Bool} {fuel : Nat} {cs : List Value} {x : DataW H × List MemPlace},
    DataW.trod enc P w 0 sp hd fuel tid cs = some x → (∀ n ∈ DataW.weights P tid x.1, n ≤ reachBytes) → ∃ a : t.den, Rep (Old w) w t .im a none_ cs ∧ Wf t a
theorem opnV_int {P : Program} {t : TypeId} {k : IntKind} (hu : P.underlying t = some (.int k)) : OpnV P (.int k) t := by
  intro H enc w sp hd fuel cs x h _
  cases fuel with
  | zero => simp [DataW.trod] at h
  | succ n =>
    suffices hh : ∃ b, cs = [.int k b] ∧ (Lit.int k b).wf = true by
      obtain ⟨b, rfl, hb⟩ := hh
      exact ⟨b, rfl, hb⟩
    unfold DataW.trod at h
    rw [hu] at h
    split at h <;> simp_all
theorem opnV_bool {P : Program} {t : TypeId} (hu : P.underlying t = some .bool) : OpnV P .bool t := by
  intro H enc w sp hd fuel cs x h _
  cases fuel with
  | zero => simp [DataW.trod] at h
  | succ n =>
    suffices hh : ∃ b, cs = [.bool b] by
      obtain ⟨b, rfl⟩ := hh
      exact ⟨b, rfl, trivial⟩
    unfold DataW.trod at h
    rw [hu] at h
    split at h
    all_goals first
      | exact ⟨_, rfl⟩
      | simp_all
theorem opnV_str {P : Program} {t : TypeId} (hu : P.underlying t = some .string) : OpnV P .str t := by
  intro H enc w sp hd fuel cs x h hw
  cases fuel with
  | zero => simp [DataW.trod] at h
  | succ n =>
    suffices hh : ∃ b, cs = [.string b] ∧ x.1 = .lit (.string b.data.toList) by
      obtain ⟨b, rfl, hx⟩ := hh
      refine ⟨b, rfl, ?_⟩
      have := hw b.data.toList.length (by rw [hx]; simp [DataW.weights])
      rw [Array.length_toList] at this
      have h2 : reachBytes = 140737488351232 := by decide
      show b.size ≤ _
      have h3 : b.size = b.data.size := rfl
      omega
    unfold DataW.trod at h
    rw [hu] at h
    split at h
    all_goals first
      | (simp only [Option.ite_none_right_eq_some, Option.some.injEq] at h; obtain ⟨_, rfl⟩ := h; exact ⟨_, rfl, rfl⟩)
      | simp_all
theorem cells_get {w : World} {a : Addr} {n : Nat} {c : List Value} (h : w.cells? 0 a n = some c) : c.length = n ∧ ∀ j, j < n → w.cell? (a.add j) = c[j]? := by
  unfold World.cells? at h
  split at h
  · have hl : ∀ {l : List Nat} {r : List Value}, l.mapM (fun i => w.cell? (a.add i)) = some r → r.length = l.length := by
      intro l
      induction l with
      | nil => intro r h; simp at h; subst h; rfl
      | cons x l ih =>
        intro r h
        rw [List.mapM_cons] at h
        obtain ⟨y, _, h⟩ := bind_some_ h
        obtain ⟨z, hz, h⟩ := bind_some_ h
        obtain rfl := Option.some.inj h
        simp [ih hz]
    refine ⟨by rw [hl h, List.length_range], fun j hj => mapM_some_get h j j (by rw [List.getElem?_range hj])⟩
  · cases h
theorem opnV_sl {P : Program} {t : Ty} {e tid : TypeId} {nb : Nat} (hu : P.underlying tid = some (.slice e)) (hsz : P.cellsOf e = t.size) (hB : P.bytesOf e = nb) (hpos : 0 < t.size) (hnb : 0 < nb) (he : OpnV P t e) : OpnV P (.sl t) tid := by
  intro H enc w sp hd fuel cs x h hw
  rcases DataW.trod_slice hu h with ⟨rfl, rfl⟩ | ⟨a, len, cap, elems, rest, n, _, rfl, rfl, hb, hl, hm, hlen, hel, _, _⟩
  · exact ⟨([] : List t.den), ⟨none, 0, rfl, Nat.le_refl _, .inl rfl⟩, Nat.zero_le _, fun x hx => by cases hx⟩
  · have hbd : (elems.length + rest.length) * nb ≤ reachBytes := hw ((elems.length + rest.length) * nb) (by simp [DataW.weights, hu, hB])
    have hall : ∀ i, i < len → ∃ (a' : t.den) (c : List Value), w.cells? 0 (a.add (i * t.size)) t.size = some c ∧ Rep (Old w) w t .im a' none_ c ∧ Wf t a' := by
      intro i hi
      have hx := hel i hi
      obtain ⟨y, hy⟩ : ∃ y, elems[i]? = some y := ⟨elems[i]'(by omega), List.getElem?_eq_getElem (by omega)⟩
      rw [hy, hsz] at hx
      obtain ⟨c, hc1, hc2⟩ := Option.bind_eq_some_iff.1 hx
      have hmem : y ∈ elems := List.mem_of_getElem? hy
      have hwy : ∀ n ∈ DataW.weights P e y.1, n ≤ reachBytes := by
        intro n hn
        refine hw n ?_
        simp only [DataW.weights, hu, List.mem_cons, List.mem_append]
        refine Or.inr (Or.inl ?_)
        have gen : ∀ l : List (DataW H), y.1 ∈ l → n ∈ DataW.weightsAll P e l := by
          intro l hl'
          induction l with
          | nil => cases hl'
          | cons z r ih =>
            simp only [DataW.weightsAll, List.mem_append]
            rcases List.mem_cons.1 hl' with h1 | h1
            · rw [← h1]; exact Or.inl hn
            · exact Or.inr (ih h1)
        exact gen _ (List.mem_map.2 ⟨y, hmem, rfl⟩)
      obtain ⟨a', hk, hwf⟩ := he hc2 hwy
      exact ⟨a', c, hc1, hk, hwf⟩
    have hch : ∀ m, m ≤ len → ∃ xs : List t.den, xs.length = m ∧ ∀ i y, xs[i]? = some y → ∃ c, w.cells? 0 (a.add (i * t.size)) t.size = some c ∧ Rep (Old w) w t .im y none_ c ∧ Wf t y := by
      intro m
      induction m with
      | zero => intro _; exact ⟨[], rfl, by simp⟩
      | succ m ih =>
        intro hm'
        obtain ⟨xs, hxl, hxs⟩ := ih (by omega)
        obtain ⟨y, c, h1, h2, h3⟩ := hall m (by omega)
        refine ⟨xs ++ [y], by simp [hxl], fun i z hz => ?_⟩
        rcases Nat.lt_or_ge i m with hi | hi
        · rw [List.getElem?_append_left (by omega)] at hz
          exact hxs i z hz
        · have : i = m := by
            have := (List.getElem?_eq_some_iff.1 hz).1
            simp at this; omega
          subst this
          rw [List.getElem?_append_right (by omega)] at hz
          simp [hxl] at hz
          subst hz
          exact ⟨c, h1, h2, h3⟩
    obtain ⟨xs, hxl, hxs⟩ := hch len (Nat.le_refl _)
    have hbound : xs.length ≤ 140737488351232 := by
      have h2 : reachBytes = 140737488351232 := by decide
      have h3 : xs.length ≤ (elems.length + rest.length) * nb := Nat.le_trans (by omega) (Nat.le_mul_of_pos_right _ hnb)
      omega
    have hwfs : ∀ x ∈ xs, Wf t x := fun y hy => by
      obtain ⟨i, hi⟩ := List.mem_iff_getElem?.1 hy
      obtain ⟨_, _, _, h3⟩ := hxs i y hi
      exact h3
    by_cases h0 : xs = []
    · subst h0
      simp only [List.length_nil] at hxl
      subst hxl
      exact ⟨([] : List t.den), ⟨some a, cap, rfl, Nat.zero_le _, .inl rfl⟩, hbound, hwfs⟩
    · have hlen0 : 0 < xs.length := List.length_pos_iff.2 h0
      have first : ∃ v, w.cell? a = some v := by
        obtain ⟨c, h1, _⟩ := hxs 0 _ (List.getElem?_eq_getElem hlen0)
        obtain ⟨g1, g2⟩ := cells_get h1
        have := g2 0 hpos
        have hadd : (a.add (0 * t.size)).add 0 = a := by simp [Addr.add]
        rw [hadd, List.getElem?_eq_getElem (by omega)] at this
        exact ⟨_, this⟩
      obtain ⟨b, o, spot⟩ := a
      obtain ⟨v0, hv0⟩ := first
      have hs0 : spot = none ∧ b < w.heap.size := by
        unfold World.cell? at hv0
        split at hv0
        · rename_i c _ _ hc
          cases spot with
          | none =>
            refine ⟨rfl, ?_⟩
            rcases Nat.lt_or_ge b w.heap.size with h | h
            · exact h
            · rw [Array.getElem?_eq_none h] at hc; cases hc
          | some s => simp at hv0
        · cases hv0
      obtain ⟨rfl, hblt⟩ := hs0
      have hc : ∀ i, ∃ c : List Value, ∀ y, xs[i]? = some y → w.cells? 0 ((⟨b, o, none⟩ : Addr).add (i * t.size)) t.size = some c ∧ Rep (Old w) w t .im y none_ c := fun i => by
        cases hy : xs[i]? with
        | none => exact ⟨[], fun y h => by cases h⟩
        | some y =>
          obtain ⟨c, h1, h2, _⟩ := hxs i y hy
          exact ⟨c, fun z hz => by obtain rfl := Option.some.inj hz; exact ⟨h1, h2⟩⟩
      obtain ⟨css, hcss⟩ := Classical.axiomOfChoice hc
      refine ⟨xs, ⟨some ⟨b, o, none⟩, cap, by rw [hxl], by omega, .inr ⟨b, o, rfl, hblt, fun _ => none_, css, fun i y hy => ?_, fun i j k hk => hk.elim⟩⟩, hbound, hwfs⟩
      obtain ⟨h1, h2⟩ := hcss i y hy
      obtain ⟨g1, g2⟩ := cells_get h1
      refine ⟨h2, g1, fun j hj => ?_, fun k hk => hk.elim⟩
      rw [← g2 j hj, add_none, add_none]
theorem TyOK.cells {E : Env} {tid : TypeId} {t : Ty} {n : Nat} (h : TyOK E tid t n) : E.P.cellsOf tid = t.size ∧ E.P.bytesOf tid = n := by
  obtain ⟨i, z, h1, h2, h3, _⟩ := h.info
  simp [Program.cellsOf, Program.bytesOf, h1, h2, h3]
def OpnVF (P : Program) (t : Ty) (fs : List Field) (off : Nat) : Prop :=
  ∀ {H : Type} {enc : TypeId × Value → H} {w : World} {sp : Nat → Bool} {hd : Bool} {fuel : Nat} {cs : List Value} {xs : List (DataW H × List MemPlace)},
    cs.length = off + t.size → xs.length = fs.length →
    (∀ (i : Nat) (f : Field), fs[i]? = some f → DataW.trod enc P w 0 sp hd fuel f.type ((cs.drop f.offset).take (P.cellsOf f.type)) = xs[i]?) →
    (∀ n ∈ DataW.weightsEach P (fs.map (·.type)) (xs.map (·.1)), n ≤ reachBytes) → ∃ a : t.den, Rep (Old w) w t .im a none_ (cs.drop off) ∧ Wf t a
theorem opn_ty {E : Env} (hT : TTok E) (hpos : ∀ tid t n, E.tt tid = some (t, n) → 0 < t.size → 0 < n) : ∀ (t : Ty), t.plain = true → (∀ {tid : TypeId} {nb : Nat}, TyOK E tid t nb → OpnV E.P t tid) ∧ (∀ {fs : List Field} {off : Nat}, Fields E.tt fs t off → OpnVF E.P t fs off) := by
  intro t
  have st : ∀ {t : Ty} {tid : TypeId}, (∃ fs, E.P.underlying tid = some (.struct fs) ∧ Fields E.tt fs.toList t 0) → E.P.cellsOf tid = t.size → (∀ {fs : List Field} {off : Nat}, Fields E.tt fs t off → OpnVF E.P t fs off) → OpnV E.P t tid := by
    rintro t tid ⟨fs, hu, hf⟩ hc hF H enc w sp hd fuel cs x hx hw
    obtain ⟨xs, n, _, rfl, hl, hxl, hfs⟩ := DataW.trod_struct hu hx
    have := hF hf (cs := cs) (xs := xs) (enc := enc) (sp := sp) (hd := hd) (w := w) (fuel := n) (by rw [hl, hc]; omega) (by rw [hxl]; simp) (fun i f hi => hfs i f (by simpa using hi)) (fun n hn => hw n (by
      simp only [DataW.weights, hu]
      exact hn))
    exact this
  induction t with
  | bool => intro _; exact ⟨fun h => opnV_bool h.desc, fun {fs off} h => by cases fs <;> cases h⟩
  | int k => intro _; exact ⟨fun h => opnV_int h.desc, fun {fs off} h => by cases fs <;> cases h⟩
  | str => intro _; exact ⟨fun h => opnV_str h.desc, fun {fs off} h => by cases fs <;> cases h⟩
  | unit =>
    intro _
    have hB : ∀ {fs : List Field} {off : Nat}, Fields E.tt fs .unit off → OpnVF E.P .unit fs off := by
      intro fs off _ H enc w sp hd fuel cs xs hl _ _ _
      exact ⟨(), List.length_eq_zero_iff.1 (by rw [List.length_drop, hl]; simp [Ty.size]), trivial⟩
    exact ⟨fun h => st h.desc h.cells.1 hB, hB⟩
  | pair a b ih1 ih2 =>
    intro hp
    simp only [Ty.plain, Bool.and_eq_true] at hp
    have hB : ∀ {fs : List Field} {off : Nat}, Fields E.tt fs (.pair a b) off → OpnVF E.P (.pair a b) fs off := by
      intro fs off hf
      cases fs with
      | nil => exact hf.elim
      | cons f fs =>
        obtain ⟨ho, ⟨n, hn⟩, hfs⟩ := hf
        intro H enc w sp hd fuel cs xs hl hxl hfi hw
        have hTa := hT _ _ _ hn
        cases xs with
        | nil => simp at hxl
        | cons y r =>
          have h0 := hfi 0 f rfl
          simp only [List.getElem?_cons_zero] at h0
          rw [ho, hTa.cells.1] at h0
          have hl' : cs.length = off + (a.size + b.size) := hl
          obtain ⟨x1, r1, w1⟩ := (ih1 hp.1).1 hTa h0 (fun n hn => hw n (by simp only [List.map_cons, DataW.weightsEach, List.mem_append]; exact Or.inl hn))
          obtain ⟨x2, r2, w2⟩ := (ih2 hp.2).2 hfs (cs := cs) (xs := r) (fuel := fuel) (enc := enc) (sp := sp) (hd := hd) (w := w) (by omega) (by simpa using hxl) (fun i g hg => by
            have := hfi (i + 1) g (by simpa using hg)
            simpa using this) (fun n hn => hw n (by simp only [List.map_cons, DataW.weightsEach, List.mem_append]; exact Or.inr hn))
          refine ⟨(x1, x2), ⟨_, _, none_, none_, ?_, r1, r2, fun _ h => h, fun _ h => h, fun _ h => h.elim⟩, w1, w2⟩
          rw [← List.drop_drop, List.take_append_drop]
    exact ⟨fun h => st h.desc h.cells.1 hB, hB⟩
  | sl t ih =>
    intro hp
    simp only [Ty.plain, Bool.and_eq_true] at hp
    refine ⟨fun {tid nb} h => ?_, fun {fs off} h => by cases fs <;> cases h⟩
    obtain ⟨e, n, hu, hn⟩ := h.desc
    have hTe := hT _ _ _ hn
    have hsz : 0 < t.size := Nat.lt_of_succ_le (Nat.le_of_ble_eq_true hp.2)
    have he : OpnV E.P t e := (ih hp.1).1 hTe
    intro H enc w sp hd fuel cs x hx hw
    exact opnV_sl hu hTe.cells.1 hTe.cells.2 hsz (hpos _ _ _ hn hsz) he hx hw
  | arr n t _ => intro hp; cases hp
  | mp k v _ _ => intro hp; cases hp
  | ex k a b _ _ => intro hp; cases hp
end Go.Proofs.Ytibphkgcdnconaa.V
