/- Monoids: the maximal subgroups: what the program's 'groups' come to, and the laws about them. -/
import Derived.Test.YtibphkgcdnconaaPB
import Derived.Test.YtibphkgcdnconaaQMonx5
import Derived.Test.YtibphkgcdnconaaQMonx6
namespace Go.Proofs.Ytibphkgcdnconaa.PureM
open Go Go.RowKit Go.Proofs.Ytibphkgcdnconaa.QMon Go.Proofs.YtibphkgcdnconaaW.PrintWords Go.Proofs.YtibphkgcdnconaaW.PrintLast Go.Proofs.YtibphkgcdnconaaW.PrintMore Go.Proofs.YtibphkgcdnconaaX
open Classical
set_option linter.unusedVariables false
set_option linter.unusedSimpArgs false

theorem any_loop {F : Nat → Nat → Option Int} {P : Nat → Prop} (n : Nat) (hyes : ∀ i, i < n → P i → Ev (fun k => F k i) (i : Int)) (hno : ∀ i, i < n → ¬ P i → ∀ r, Ev (fun k => F k (i + 1)) r → Ev (fun k => F k i) r)
    (hend : Ev (fun k => F k n) (-1)) (b : Bool) (hb : b = true ↔ ∃ i, i < n ∧ P i) : Ev (fun k => (F k 0).bind fun t => some (decide (t ≥ 0))) b := by
  by_cases h : ∃ i, i < n ∧ P i
  · rw [hb.2 h]
    obtain ⟨i, h1, h2, h3⟩ := first_bad (n := n) (P := fun j => ¬ P j) (fun z => by obtain ⟨i, hi, hp⟩ := h; exact z i hi hp)
    have hi := loop_go (F := F) (r := (i : Int)) i (fun j hj hn => hno j (by omega) (h3 j hj) _ hn) (hyes i h1 (Classical.not_not.1 h2)) 0 (by omega)
    refine Ev.bind hi (Ev.ret (decide_eq_true (by omega)))
  · have hf : b = false := by
      cases e : b with
      | false => rfl
      | true => exact absurd (hb.1 e) h
    rw [hf]
    have hi := loop_go (F := F) (r := (-1 : Int)) n (fun j hj hn => hno j hj (fun z => h ⟨j, hj, z⟩) _ hn) hend 0 (by omega)
    exact Ev.bind hi (Ev.ret (by decide))

def ints (l : List Nat) : List Int := l.map (fun a : Nat => (a : Int))
@[simp] theorem ints_length (l : List Nat) : (ints l).length = l.length := by simp [ints]
theorem rd_ints {l : List Nat} {i : Nat} (h : i < l.length) : rd (ints l) (i : Int) = ((l[i] : Nat) : Int) := by
  rw [rd_lt (by simpa using h)]; simp [ints]
theorem ints_append (l l' : List Nat) : ints (l ++ l') = ints l ++ ints l' := by simp [ints]

/-! ### subgroups -/
def locP (m : List (List Int)) (x a : Nat) : Prop := mu m a x = a ∧ mu m x a = a
noncomputable def loc (m : List (List Int)) (x : Nat) : List Nat := (List.range m.length).filter (fun a => decide (locP m x a))
def invP (m : List (List Int)) (x a : Nat) : Prop := ∃ c, c ∈ loc m x ∧ mu m a c = x ∧ mu m c a = x
noncomputable def unit (m : List (List Int)) (x : Nat) : List Nat := (loc m x).filter (fun a => decide (invP m x a))
noncomputable def idem (m : List (List Int)) : List Nat := (List.range m.length).filter (fun x => decide (mu m x x = x))
noncomputable def grp (m : List (List Int)) : List (List Int) := (idem m).map (fun x => ints (unit m x))
theorem loc_len (m : List (List Int)) (x : Nat) : (loc m x).length ≤ m.length := by
  have := List.length_filter_le (fun a => decide (locP m x a)) (List.range m.length)
  rw [List.length_range] at this; exact this
theorem unit_len (m : List (List Int)) (x : Nat) : (unit m x).length ≤ m.length :=
  Nat.le_trans (List.length_filter_le _ _) (loc_len m x)
theorem idem_len (m : List (List Int)) : (idem m).length ≤ m.length := by
  have := List.length_filter_le (fun x => decide (mu m x x = x)) (List.range m.length)
  rw [List.length_range] at this; exact this
theorem mem_loc {m : List (List Int)} {x a : Nat} : a ∈ loc m x ↔ a < m.length ∧ locP m x a := by
  unfold loc; simp [List.mem_filter]
theorem mem_unit {m : List (List Int)} {x a : Nat} : a ∈ unit m x ↔ a < m.length ∧ locP m x a ∧ invP m x a := by
  unfold unit; rw [List.mem_filter, mem_loc]; simp [and_assoc]
theorem mem_idem {m : List (List Int)} {x : Nat} : x ∈ idem m ↔ x < m.length ∧ mu m x x = x := by
  unfold idem; simp [List.mem_filter]
theorem filter_snoc (p : Nat → Bool) (i : Nat) : (List.range (i + 1)).filter p = (List.range i).filter p ++ (if p i = true then [i] else []) := by
  rw [List.range_succ, List.filter_append]
  congr 1
  by_cases h : p i = true
  · simp [h]
  · simp [h]
theorem take_snoc {α : Type} (l : List α) {i : Nat} (h : i < l.length) : l.take (i + 1) = l.take i ++ [l[i]] := by
  rw [List.take_add_one]; simp [List.getElem?_eq_getElem h]

/-! ### groups -/
theorem g1_ev (m : List (List Int)) (h : TV m) {c a x : Nat} (hc : c < m.length) (ha : a < m.length) :
    monoid_groups_1.f (c : Int) m (a : Int) (x : Int) = some (decide (mu m a c = x ∧ mu m c a = x)) := by
  unfold monoid_groups_1.f
  rw [if_pos (by omega), if_pos (by omega), if_pos (by omega), rd_row, if_pos (by rw [h.len ha]; omega), h.at ha hc]
  by_cases e : mu m a c = x
  · rw [if_pos (by omega), if_pos (by omega), rd_row, if_pos (by rw [h.len hc]; omega), h.at hc ha]
    congr 1
    by_cases e2 : mu m c a = x
    · rw [decide_eq_true ⟨e, e2⟩, e2]; simp
    · rw [decide_eq_false (fun z => e2 z.2)]; simp; omega
  · rw [if_neg (by omega), decide_eq_false (fun z => e z.1)]
theorem contains1_ev (m : List (List Int)) (h : TV m) {a x : Nat} (ha : a < m.length) :
    Ev (fun k => slices_ContainsFunc_int_int_at_monoid_groups_1.f k (ints (loc m x)) m (a : Int) (x : Int)) (decide (invP m x a)) := by
  have hn := h.2.1
  have hl := loc_len m x
  have e : decide (invP m x a) = true ↔ (∃ i, i < (loc m x).length ∧ ∃ hi : i < (loc m x).length, mu m a (loc m x)[i] = x ∧ mu m (loc m x)[i] a = x) := by
    rw [decide_eq_true_iff]
    constructor
    · rintro ⟨c, hc, h1⟩
      obtain ⟨i, hi, e⟩ := List.getElem_of_mem hc
      exact ⟨i, hi, hi, by rw [e]; exact h1⟩
    · rintro ⟨i, hi, hi', h1⟩
      exact ⟨_, List.getElem_mem hi, h1⟩
  unfold slices_ContainsFunc_int_int_at_monoid_groups_1.f slices_IndexFunc_int_int_at_monoid_groups_1.f
  rw [ints_length]
  refine any_loop (F := fun k i => slices_IndexFunc_int_int_at_monoid_groups_1.l0 k (ints (loc m x)) ((loc m x).length : Int) ((i : Nat) : Int) m (a : Int) (x : Int)) (loc m x).length (fun i hi hp => ?_) (fun i hi hp r hr => ?_) ?_ _ e
  · have hc := (mem_loc.1 (List.getElem_mem hi)).1
    refine Ev.step (fun k => by rw [slices_IndexFunc_int_int_at_monoid_groups_1.l0]) ?_
    refine Ev.pos (by omega) ?_
    refine Ev.pos (by omega) ?_
    refine Ev.pos (by rw [ints_length]; omega) ?_
    rw [rd_ints hi, g1_ev m h hc ha]
    obtain ⟨_, hp⟩ := hp
    rw [decide_eq_true hp]
    exact Ev.sb (Ev.pos rfl (Ev.ret rfl))
  · have hc := (mem_loc.1 (List.getElem_mem hi)).1
    refine Ev.step (fun k => by rw [slices_IndexFunc_int_int_at_monoid_groups_1.l0]) ?_
    refine Ev.pos (by omega) ?_
    refine Ev.pos (by omega) ?_
    refine Ev.pos (by rw [ints_length]; omega) ?_
    rw [rd_ints hi, g1_ev m h hc ha, decide_eq_false (fun z => hp ⟨hi, z⟩), up1 (by omega)]
    exact Ev.sb (Ev.neg (by simp) hr)
  · refine Ev.step (fun k => by rw [slices_IndexFunc_int_int_at_monoid_groups_1.l0]) ?_
    exact Ev.neg (by omega) (Ev.ret rfl)
theorem groups_l2 (m : List (List Int)) (h : TV m) {x : Nat} (hx : x < m.length) (out : List (List Int)) (ho : out.length ≤ 120) (r : List (List Int))
    (hr : Ev (fun k => monoid_groups.l0 k (out ++ [ints (unit m x)]) (m.length : Int) ((x + 1 : Nat) : Int) m) r) :
    Ev (fun k => monoid_groups.l2 k out (ints (loc m x)) ([] : List Int) (m.length : Int) (x : Int) (ints (loc m x)) ((ints (loc m x)).length : Int) 0 m (x : Int)) r := by
  have hn := h.2.1
  have hl := loc_len m x
  have hq := loop_go (F := fun k i => monoid_groups.l2 k out (ints (loc m x)) (ints (((loc m x).take i).filter (fun a => decide (invP m x a)))) (m.length : Int) (x : Int) (ints (loc m x)) ((ints (loc m x)).length : Int) ((i : Nat) : Int) m (x : Int)) (r := r) (loc m x).length (fun i hi hnx => ?_) ?_ 0 (by omega)
  · exact hq
  · have hc := (mem_loc.1 (List.getElem_mem hi)).1
    refine Ev.step (fun k => by rw [monoid_groups.l2]) ?_
    rw [ints_length]
    refine Ev.pos (by omega) ?_
    refine Ev.pos (by omega) ?_
    refine Ev.pos (by omega) ?_
    rw [rd_ints hi]
    refine Ev.bind (contains1_ev m h hc) ?_
    rw [up1 (by omega)]
    rw [ints_length, take_snoc _ hi, List.filter_append] at hnx
    by_cases hp : invP m x (loc m x)[i]
    · rw [decide_eq_true hp]
      refine Ev.pos rfl ?_
      refine Ev.pos ?_ ?_
      · have := List.length_filter_le (fun a => decide (invP m x a)) ((loc m x).take i)
        rw [List.length_take] at this
        rw [ints_length]; omega
      · have e : ([(loc m x)[i]]).filter (fun a => decide (invP m x a)) = [(loc m x)[i]] := by simp [hp]
        rw [e, ints_append] at hnx
        exact hnx
    · rw [decide_eq_false hp]
      refine Ev.neg (by simp) ?_
      have e : ([(loc m x)[i]]).filter (fun a => decide (invP m x a)) = [] := by simp [hp]
      rw [e, List.append_nil] at hnx
      exact hnx
  · refine Ev.step (fun k => by rw [monoid_groups.l2]) ?_
    rw [ints_length]
    refine Ev.neg (by omega) ?_
    refine Ev.pos (by omega) ?_
    rw [List.take_length, up1 (by omega)]
    exact hr
theorem groups_l1 (m : List (List Int)) (h : TV m) {x : Nat} (hx : x < m.length) (out : List (List Int)) (ho : out.length ≤ 120) (r : List (List Int))
    (hr : Ev (fun k => monoid_groups.l0 k (out ++ [ints (unit m x)]) (m.length : Int) ((x + 1 : Nat) : Int) m) r) :
    Ev (fun k => monoid_groups.l1 k out ([] : List Int) (m.length : Int) (x : Int) (m.length : Int) 0 m (x : Int)) r := by
  have hn := h.2.1
  have hq := loop_go (F := fun k i => monoid_groups.l1 k out (ints ((List.range i).filter (fun a => decide (locP m x a)))) (m.length : Int) (x : Int) (m.length : Int) ((i : Nat) : Int) m (x : Int)) (r := r) m.length (fun i hi hnx => ?_) ?_ 0 (by omega)
  · exact hq
  · refine Ev.step (fun k => by rw [monoid_groups.l1]) ?_
    simp only [rd_row, h.at hi hx, h.at hx hi, h.len hi, h.len hx]
    refine Ev.pos (by omega) ?_
    refine Ev.pos (by omega) ?_
    refine Ev.pos (by omega) ?_
    refine Ev.pos (by omega) ?_
    refine Ev.pos (by omega) ?_
    rw [up1 (by omega)]
    rw [filter_snoc] at hnx
    have hlen := List.length_filter_le (fun a => decide (locP m x a)) (List.range i)
    rw [List.length_range] at hlen
    by_cases c1 : mu m i x = i
    · refine Ev.pos (by omega) ?_
      refine Ev.pos (by omega) ?_
      refine Ev.pos (by omega) ?_
      by_cases c2 : mu m x i = i
      · refine Ev.pos (by omega) ?_
        refine Ev.pos (by rw [ints_length]; omega) ?_
        rw [if_pos (decide_eq_true (show locP m x i from ⟨c1, c2⟩)), ints_append] at hnx
        exact hnx
      · refine Ev.neg (by omega) ?_
        rw [if_neg (by simp [locP, c2]), List.append_nil] at hnx
        exact hnx
    · refine Ev.neg (by omega) ?_
      rw [if_neg (by simp [locP, c1]), List.append_nil] at hnx
      exact hnx
  · refine Ev.step (fun k => by rw [monoid_groups.l1]) ?_
    refine Ev.neg (by omega) ?_
    exact groups_l2 m h hx out ho r hr
theorem groups_ev (m : List (List Int)) (h : TV m) : Ev (fun k => monoid_groups.f k m) (grp m) := by
  have hn := h.2.1
  unfold monoid_groups.f
  have hq := loop_go (F := fun k i => monoid_groups.l0 k (((List.range i).filter (fun x => decide (mu m x x = x))).map (fun x => ints (unit m x))) (m.length : Int) ((i : Nat) : Int) m) (r := grp m) m.length (fun i hi hnx => ?_) ?_ 0 (by omega)
  · exact hq
  · refine Ev.step (fun k => by rw [monoid_groups.l0]) ?_
    refine Ev.pos (by omega) ?_
    refine Ev.pos (by omega) ?_
    refine Ev.pos (by omega) ?_
    refine Ev.pos (by rw [rd_row, h.len hi]; omega) ?_
    rw [rd_row, h.at hi hi, up1 (by omega)]
    rw [filter_snoc] at hnx
    have hlen := List.length_filter_le (fun x => decide (mu m x x = x)) (List.range i)
    rw [List.length_range] at hlen
    by_cases c1 : mu m i i = i
    · refine Ev.pos (by omega) ?_
      rw [if_pos (decide_eq_true c1), List.map_append] at hnx
      exact groups_l1 m h hi _ (by rw [List.length_map]; omega) _ hnx
    · refine Ev.neg (by omega) ?_
      rw [if_neg (by simp [c1]), List.append_nil] at hnx
      exact hnx
  · refine Ev.step (fun k => by rw [monoid_groups.l0]) ?_
    exact Ev.neg (by omega) (Ev.ret rfl)
theorem Groups_ev (m : List (List Int)) (h : VM m) : Ev (fun k => monoid_Groups.f k m) (grp m, 0) := by
  unfold monoid_Groups.f
  refine Ev.bind (ownValid_ev m) ?_
  rw [decide_eq_true h]
  refine Ev.pos rfl ?_
  exact Ev.bind (groups_ev m h.1) (Ev.ret rfl)

/-! ### laws -/
theorem VM.ass {m : List (List Int)} (h : VM m) {a b c : Nat} (ha : a < m.length) (hb : b < m.length) (hc : c < m.length) : mu m (mu m a b) c = mu m a (mu m b c) := (h.2 a ha).2 b hb c hc
/-- Its inverse, too, is in the subgroup. -/
theorem unit_inv {m : List (List Int)} {x a : Nat} (h : a ∈ unit m x) : ∃ c, c ∈ unit m x ∧ mu m a c = x ∧ mu m c a = x := by
  obtain ⟨h1, h2, c, hc, h3, h4⟩ := mem_unit.1 h
  obtain ⟨hc1, hc2⟩ := mem_loc.1 hc
  exact ⟨c, mem_unit.2 ⟨hc1, hc2, a, mem_loc.2 ⟨h1, h2⟩, h4, h3⟩, h3, h4⟩
theorem unit_self {m : List (List Int)} {x : Nat} (hx : x < m.length) (hi : mu m x x = x) : x ∈ unit m x :=
  mem_unit.2 ⟨hx, ⟨hi, hi⟩, x, mem_loc.2 ⟨hx, hi, hi⟩, hi, hi⟩
theorem unit_mul {m : List (List Int)} (h : VM m) {x a b : Nat} (hx : x < m.length) (hi : mu m x x = x) (ha : a ∈ unit m x) (hb : b ∈ unit m x) : mu m a b ∈ unit m x := by
  obtain ⟨a1, ⟨a2, a3⟩, _⟩ := mem_unit.1 ha
  obtain ⟨b1, ⟨b2, b3⟩, _⟩ := mem_unit.1 hb
  obtain ⟨c, hc, c3, c4⟩ := unit_inv ha
  obtain ⟨d, hd, d3, d4⟩ := unit_inv hb
  obtain ⟨c1, ⟨c5, c6⟩, _⟩ := mem_unit.1 hc
  obtain ⟨d1, ⟨d5, d6⟩, _⟩ := mem_unit.1 hd
  have hab := h.1.lt a1 b1
  have hdc := h.1.lt d1 c1
  refine mem_unit.2 ⟨hab, ⟨?_, ?_⟩, mu m d c, mem_loc.2 ⟨hdc, ?_, ?_⟩, ?_, ?_⟩
  · rw [h.ass a1 b1 hx, b2]
  · rw [← h.ass hx a1 b1, a3]
  · rw [h.ass d1 c1 hx, c5]
  · rw [← h.ass hx d1 c1, d6]
  · rw [h.ass a1 b1 hdc, ← h.ass b1 d1 c1, d3, c6, c3]
  · rw [h.ass d1 c1 hab, ← h.ass c1 a1 b1, c4, b3, d4]
theorem unit_idem {m : List (List Int)} (h : VM m) {x a : Nat} (hx : x < m.length) (ha : a ∈ unit m x) (he : mu m a a = a) : a = x := by
  obtain ⟨a1, ⟨a2, a3⟩, _⟩ := mem_unit.1 ha
  obtain ⟨c, hc, c3, c4⟩ := unit_inv ha
  obtain ⟨c1, _, _⟩ := mem_unit.1 hc
  have := h.ass a1 a1 c1
  rw [he, c3, a2] at this
  exact this.symm
theorem unit_one {m : List (List Int)} (h : VM m) {x y a : Nat} (hx : x < m.length) (hy : y < m.length) (ha : a ∈ unit m x) (hb : a ∈ unit m y) : x = y := by
  obtain ⟨a1, ⟨a2, a3⟩, _⟩ := mem_unit.1 ha
  obtain ⟨_, ⟨b2, b3⟩, _⟩ := mem_unit.1 hb
  obtain ⟨c, hc, c3, c4⟩ := unit_inv ha
  obtain ⟨d, hd, d3, d4⟩ := unit_inv hb
  obtain ⟨c1, _, _⟩ := mem_unit.1 hc
  obtain ⟨d1, _, _⟩ := mem_unit.1 hd
  have e1 : mu m y x = x := by
    have := h.ass hy a1 c1
    rw [b3, c3] at this; exact this.symm
  have e2 : mu m y x = y := by
    have := h.ass d1 a1 hx
    rw [d4, a2, d4] at this; exact this
  rw [← e1, e2]
theorem range_lt (n : Nat) : (List.range n).Pairwise (· < ·) := List.pairwise_lt_range
theorem unit_lt (m : List (List Int)) (x : Nat) : (unit m x).Pairwise (· < ·) := by
  unfold unit loc
  exact ((range_lt _).filter _).filter _
theorem idem_lt (m : List (List Int)) : (idem m).Pairwise (· < ·) := by
  unfold idem
  exact (range_lt _).filter _
end Go.Proofs.Ytibphkgcdnconaa.PureM
