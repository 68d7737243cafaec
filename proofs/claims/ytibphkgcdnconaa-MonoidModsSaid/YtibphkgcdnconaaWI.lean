/- A table of types, checked. -/
import Derived.Test.YtibphkgcdnconaaWE
namespace Go.Proofs.Ytibphkgcdnconaa.V
open Go
set_option linter.unusedVariables false
set_option linter.all false
abbrev Tab := List (TypeId × Ty × Nat)
def Tab.tt : Tab → TypeId → Option (Ty × Nat)
  | [], _ => none
  | c :: l, i => bif Nat.beq i c.1 then some c.2 else Tab.tt l i
def cellB : Value → Value → Bool
  | .bool a, .bool b => a == b
  | .int k n, .int k' n' => decide (k = k') && decide (n = n')
  | .string a, .string b => a.data.toList.isEmpty && b.data.toList.isEmpty
  | .slice none 0 0, .slice none 0 0 => true
  | .map none, .map none => true
  | .pointer none, .pointer none => true
  | .nilIface, .nilIface => true
  | _, _ => false
def cellsB : List Value → List Value → Bool
  | [], [] => true
  | a :: l, b :: k => cellB a b && cellsB l k
  | _, _ => false
theorem cellB_eq {a b : Value} (h : cellB a b = true) : a = b := by
  unfold cellB at h
  split at h
  · rw [eq_of_beq h]
  · simp only [Bool.and_eq_true, decide_eq_true_eq] at h; rw [h.1, h.2]
  · rename_i a b
    simp only [Bool.and_eq_true, List.isEmpty_iff, Array.toList_eq_nil_iff] at h
    obtain ⟨a⟩ := a
    obtain ⟨b⟩ := b
    simp only at h
    rw [h.1, h.2]
  · rfl
  · rfl
  · rfl
  · rfl
  · cases h
theorem cellsB_eq : ∀ {a b : List Value}, cellsB a b = true → a = b
  | [], [], _ => rfl
  | a :: l, b :: k, h => by
    simp only [cellsB, Bool.and_eq_true] at h
    rw [cellB_eq h.1, cellsB_eq h.2]
  | [], _ :: _, h => by cases h
  | _ :: _, [], h => by cases h
def isT (T : Tab) (e : TypeId) (t : Ty) : Bool :=
  match T.tt e with
  | some (t', _) => decide (t' = t)
  | none => false
theorem isT_ok {T : Tab} {e : TypeId} {t : Ty} (h : isT T e t = true) : ∃ n, T.tt e = some (t, n) := by
  unfold isT at h
  split at h
  · rename_i t' n e; obtain rfl := of_decide_eq_true h; exact ⟨n, e⟩
  · cases h
def fieldsB (T : Tab) : List Field → Ty → Nat → Bool
  | [], .unit, _ => true
  | f :: fs, .pair a b, off => Nat.beq f.offset off && isT T f.type a && fieldsB T fs b (off + a.size)
  | _, _, _ => false
theorem fieldsB_ok {T : Tab} : ∀ {fs : List Field} {t : Ty} {off : Nat}, fieldsB T fs t off = true → Fields T.tt fs t off
  | [], t, off, h => by cases t <;> first | exact trivial | cases h
  | f :: fs, t, off, h => by
    cases t with
    | pair a b =>
      simp only [fieldsB, Bool.and_eq_true] at h
      exact ⟨Nat.eq_of_beq_eq_true h.1.1, isT_ok h.1.2, fieldsB_ok h.2⟩
    | _ => cases h
def descB (P : Program) (T : Tab) (tid : TypeId) (t : Ty) : Bool :=
  match P.underlying tid, t with
  | some .bool, .bool => true
  | some (.int k), .int k' => decide (k = k')
  | some .string, .str => true
  | some (.slice e), .sl t => isT T e t
  | some (.map e f), .mp k v => isT T e k && isT T f v
  | some (.struct fs), .ex .tree a b => isChain a && fieldsB T fs.toList (unTy (.ex .tree a b)) 0
  | some (.pointer e), .ex .ptr a _ => isT T e a
  | some (.interface _), .ex (.ifc i j) a b => isT T i a && isT T j b
  | some (.array l e), .arr n t => decide (l = n) && isT T e t
  | some (.struct fs), .pair a b => fieldsB T fs.toList (.pair a b) 0
  | some (.struct fs), .unit => fieldsB T fs.toList .unit 0
  | _, _ => false
def aggB : Value → Bool → Bool
  | .agg _, b => b
  | v, b => !b && v.oneCell'
theorem aggB_val {z : Value} {t : Ty} (h : aggB z t.agg = true) (hc : z.cells.toList = t.zcells) : z = t.val t.zcells := by
  unfold Ty.val
  unfold aggB at h
  split at h
  · rename_i cs b e
    rw [h, ← hc]; rfl
  · simp only [Bool.and_eq_true, Bool.not_eq_true'] at h
    rw [h.1, ← hc, cells_single h.2]; rfl
def entB (P : Program) (T : Tab) (c : TypeId × Ty × Nat) : Bool :=
  descB P T c.1 c.2.1 && Nat.ble c.2.2 1024 && (match P.info? c.1 with
    | some i => Nat.beq i.size c.2.1.size && Nat.beq i.bytes c.2.2 && (match i.zero with
      | some z => cellsB z.cells.toList c.2.1.zcells && aggB z c.2.1.agg
      | none => false)
    | none => false)
theorem descB_ok {P : Program} {T : Tab} {Γ : FuncId → Arg → List SlotC → Option CallRes} {io : Nat} {tid : TypeId} {t : Ty} (h : descB P T tid t = true) : Desc ⟨P, T.tt, Γ, io⟩ tid t := by
  unfold descB at h
  split at h
  · rename_i e; exact e
  · rename_i e; obtain rfl := of_decide_eq_true h; exact e
  · rename_i e; exact e
  · rename_i e; obtain ⟨n, h⟩ := isT_ok h; exact ⟨_, n, e, h⟩
  · rename_i e
    simp only [Bool.and_eq_true] at h
    obtain ⟨n, h1⟩ := isT_ok h.1
    obtain ⟨m, h2⟩ := isT_ok h.2
    exact ⟨_, _, n, m, e, h1, h2⟩
  · rename_i e; simp only [Bool.and_eq_true] at h; exact ⟨h.1, _, e, fieldsB_ok h.2⟩
  · rename_i e; obtain ⟨n, h⟩ := isT_ok h; exact ⟨_, n, e, h⟩
  · rename_i e
    simp only [Bool.and_eq_true] at h
    obtain ⟨n, h1⟩ := isT_ok h.1
    obtain ⟨m, h2⟩ := isT_ok h.2
    exact ⟨_, n, m, e, h1, h2⟩
  · rename_i e
    simp only [Bool.and_eq_true] at h
    obtain rfl := of_decide_eq_true h.1
    obtain ⟨n, h1⟩ := isT_ok h.2
    exact ⟨_, n, e, h1⟩
  · rename_i e; exact ⟨_, e, fieldsB_ok h⟩
  · rename_i e; exact ⟨_, e, fieldsB_ok h⟩
  · cases h
theorem ttOK {P : Program} {T : Tab} (h : T.all (entB P T) = true) (Γ : FuncId → Arg → List SlotC → Option CallRes) (io : Nat) : TTok ⟨P, T.tt, Γ, io⟩ := by
  intro tid t n ht
  have mem : ∀ {l : Tab}, Tab.tt l tid = some (t, n) → (tid, t, n) ∈ l := by
    intro l
    induction l with
    | nil => intro h; cases h
    | cons c l ih =>
      intro h
      simp only [Tab.tt] at h
      cases hb : Nat.beq tid c.1 with
      | true =>
        rw [hb] at h
        have e := Nat.eq_of_beq_eq_true hb
        obtain ⟨a, b⟩ := c
        simp only [cond_true, Option.some.injEq] at h e
        subst h; subst e
        simp
      | false => rw [hb] at h; exact List.mem_cons_of_mem _ (ih h)
  have he := (List.all_eq_true.1 h) _ (mem ht)
  simp only [entB, Bool.and_eq_true] at he
  obtain ⟨⟨h1, h2⟩, h3⟩ := he
  split at h3
  · rename_i i hi
    simp only [Bool.and_eq_true] at h3
    obtain ⟨⟨h3, h4⟩, h5⟩ := h3
    split at h5
    · rename_i z hz
      simp only [Bool.and_eq_true] at h5
      refine ⟨⟨i, z, hi, Nat.eq_of_beq_eq_true h3, Nat.eq_of_beq_eq_true h4, hz, cellsB_eq h5.1⟩, descB_ok h1, Nat.le_of_ble_eq_true h2, fun i' z' e1 e2 => ?_⟩
      rw [hi] at e1; obtain rfl := Option.some.inj e1
      rw [hz] at e2; obtain rfl := Option.some.inj e2
      exact aggB_val h5.2 (cellsB_eq h5.1)
    · cases h5
  · cases h3
theorem all_cons {α : Type _} {p : α → Prop} {a : α} {l : List α} (h : p a) (h2 : ∀ x ∈ l, p x) : ∀ x ∈ a :: l, p x := fun x hx => (List.mem_cons.1 hx).elim (fun e => e ▸ h) (h2 x)
end Go.Proofs.Ytibphkgcdnconaa.V
