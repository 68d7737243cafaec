/- The operations on numbers, truth values and parts of values. -/
import Derived.Test.YtibphkgcdnconaaVG
import Derived.Laws.Entries
import Derived.Laws.Small
namespace Go.Proofs.Ytibphkgcdnconaa.V
open Go
set_option linter.unusedVariables false
set_option linter.all false
def Fields (tt : TypeId → Option (Ty × Nat)) : List Field → Ty → Nat → Prop
  | [], .unit, _ => True
  | f :: fs, .pair a b, off => f.offset = off ∧ (∃ n, tt f.type = some (a, n)) ∧ Fields tt fs b (off + a.size)
  | _, _, _ => False
def Desc (E : Env) (tid : TypeId) : Ty → Prop
  | .bool => E.P.underlying tid = some .bool
  | .int k => E.P.underlying tid = some (.int k)
  | .str => E.P.underlying tid = some .string
  | .sl t => ∃ e n, E.P.underlying tid = some (.slice e) ∧ E.tt e = some (t, n)
  | .mp k v => ∃ e f n m, E.P.underlying tid = some (.map e f) ∧ E.tt e = some (k, n) ∧ E.tt f = some (v, m)
  | .arr l t => ∃ e n, E.P.underlying tid = some (.array l e) ∧ E.tt e = some (t, n)
  | .ex .tree a b => isChain a = true ∧ ∃ fs, E.P.underlying tid = some (.struct fs) ∧ Fields E.tt fs.toList (unTy (.ex .tree a b)) 0
  | .ex .ptr a _ => ∃ e n, E.P.underlying tid = some (.pointer e) ∧ E.tt e = some (a, n)
  | .ex (.ifc i j) a b => ∃ ms n m, E.P.underlying tid = some (.interface ms) ∧ E.tt i = some (a, n) ∧ E.tt j = some (b, m)
  | t => ∃ fs, E.P.underlying tid = some (.struct fs) ∧ Fields E.tt fs.toList t 0
structure TyOK (E : Env) (tid : TypeId) (t : Ty) (bytes : Nat) : Prop where
  info : ∃ i z, E.P.info? tid = some i ∧ i.size = t.size ∧ i.bytes = bytes ∧ i.zero = some z ∧ z.cells.toList = t.zcells
  desc : Desc E tid t
  small : bytes ≤ 1024
  zv : ∀ i z, E.P.info? tid = some i → i.zero = some z → z = t.val t.zcells
def TTok (E : Env) : Prop := ∀ tid t n, E.tt tid = some (t, n) → TyOK E tid t n
theorem TyOK.size {E : Env} {tid : TypeId} {t : Ty} {n : Nat} (h : TyOK E tid t n) (w : World) : (sizeOf tid).run E.P w = .ok t.size w := by
  obtain ⟨i, z, h1, h2, _⟩ := h.info
  simp [sizeOf, typeInfo, h1, h2]
theorem TyOK.agg {E : Env} {tid : TypeId} {t : Ty} {n : Nat} (h : TyOK E tid t n) (w : World) : (isAgg tid).run E.P w = .ok t.agg w := by
  have hd := h.desc
  cases t <;> simp only [Desc] at hd
  case bool | int | str => simp [isAgg, run_underlying hd, Ty.agg]
  case sl t => obtain ⟨e, n, hu, _⟩ := hd; simp [isAgg, run_underlying hu, Ty.agg]
  case mp k v => obtain ⟨e, f, n, m, hu, _⟩ := hd; simp [isAgg, run_underlying hu, Ty.agg]
  case arr l t => obtain ⟨e, n, hu, _⟩ := hd; simp [isAgg, run_underlying hu, Ty.agg]
  case unit => obtain ⟨fs, hu, _⟩ := hd; simp [isAgg, run_underlying hu, Ty.agg]
  case pair a b => obtain ⟨fs, hu, _⟩ := hd; simp [isAgg, run_underlying hu, Ty.agg]
  case ex k a b =>
    cases k with
    | tree => obtain ⟨_, fs, hu, _⟩ := hd; simp [isAgg, run_underlying hu, Ty.agg]
    | ptr => obtain ⟨_, _, hu, _⟩ := hd; simp [isAgg, run_underlying hu, Ty.agg]
    | ifc i j => obtain ⟨_, _, _, hu, _⟩ := hd; simp [isAgg, run_underlying hu, Ty.agg]
theorem TyOK.zero {E : Env} {tid : TypeId} {t : Ty} {n : Nat} (h : TyOK E tid t n) (w : World) : ∃ z, (zeroValue tid).run E.P w = .ok z w ∧ z.cells.toList = t.zcells := by
  obtain ⟨i, z, h1, h2, h3, h4, h5⟩ := h.info
  exact ⟨z, by simp [zeroValue, typeInfo, h1, h4], h5⟩
theorem TyOK.un {E : Env} {tid : TypeId} {t : Ty} {n : Nat} (h : TyOK E tid t n) : TyOK E tid (unTy t) n := by
  unfold unTy
  split
  · rename_i a b
    obtain ⟨hc, fs, hu, hf⟩ := h.desc
    obtain ⟨c1, c2, _⟩ := un_cells (b := b) hc
    obtain ⟨i, z, h1, h2, h3, h4, h5⟩ := h.info
    refine ⟨⟨i, z, h1, h2.trans c2.symm, h3, h4, h5.trans c1.symm⟩, ?_, h.small, fun i z h1 h2 => by
      have h3 : (unTy (.ex .tree a b)).val (unTy (.ex .tree a b)).zcells = (Ty.ex .tree a b).val (Ty.ex .tree a b).zcells := by
        rw [c1]; simp only [Ty.val, (un_cells (b := b) hc).2.2]; rfl
      exact (h.zv i z h1 h2).trans h3.symm⟩
    have : ∃ x y, unTy (.ex .tree a b) = .pair x y := by cases a <;> first | exact ⟨_, _, rfl⟩ | cases hc
    obtain ⟨x, y, e⟩ := this
    rw [e] at hf
    show Desc E tid (unTy (.ex .tree a b))
    rw [e]
    exact ⟨fs, hu, hf⟩
  · exact h
theorem tyB2_ok {E : Env} (hE : TTok E) {tid : TypeId} {t : Ty} (h : tyB2 E tid t = true) : ∃ n, TyOK E tid t n := by
  unfold tyB2 at h
  split at h
  · rename_i t' n e
    simp only [Bool.or_eq_true, decide_eq_true_eq] at h
    rcases h with rfl | rfl
    · exact ⟨n, hE _ _ _ e⟩
    · exact ⟨n, (hE _ _ _ e).un⟩
  · cases h
theorem tyB_ok {E : Env} (hE : TTok E) {tid : TypeId} {t : Ty} (h : tyB E tid t = true) : ∃ n, TyOK E tid t n := by
  unfold tyB at h
  split at h
  · rename_i t' n e
    obtain rfl := of_decide_eq_true h
    exact ⟨n, hE _ _ _ e⟩
  · cases h
def OpOK (E : Env) (o : Oper) (a : Act) (w : World) (Z : Bs) (sl : Nat → Option Slot) (hdr : Nat → Value) (fp : Nat → Bs) (mv : MV) (sl' : Nat → Option Slot) : Prop :=
  ∀ (next : Act → World → Prop) (Q : Exit → Act → World → Prop), (∀ v w' Z' hdr' fp', HR Z' w' sl' hdr' fp' → Trans Z w sl hdr fp Z' w' sl' hdr' fp' → RelV Z' w' sl' hdr' fp' mv v → next (a.put o.dst v) w') → o.wp E.P a w next Q
section
variable {E : Env} {o : Oper} {a : Act} {w : World} {Z : Bs} {sl : Nat → Option Slot} {hdr : Nat → Value} {fp : Nat → Bs} {mv : MV}
theorem OpOK.val {v : Value} {w' : World} {Z' : Bs} {sl' : Nat → Option Slot} {hdr' : Nat → Value} {fp' : Nat → Bs} (hr : (execOp a.eval o).run E.P w = .ok (.value v) w') (H : HR Z' w' sl' hdr' fp') (T : Trans Z w sl hdr fp Z' w' sl' hdr' fp') (R : RelV Z' w' sl' hdr' fp' mv v) :
    OpOK E o a w Z sl hdr fp mv sl' := by
  intro next Q h
  unfold Oper.wp
  rw [hr]
  exact h _ _ _ _ _ H T R
theorem OpOK.skip {w' : World} {Z' : Bs} {sl' : Nat → Option Slot} {hdr' : Nat → Value} {fp' : Nat → Bs} (hr : (execOp a.eval o).run E.P w = .ok .skip w') (H : HR Z' w' sl' hdr' fp') (T : Trans Z w sl hdr fp Z' w' sl' hdr' fp') :
    OpOK E o a w Z sl hdr fp .dead sl' := by
  intro next Q h
  unfold Oper.wp
  rw [hr]
  exact h _ _ _ _ _ H T (.inl rfl)
theorem OpOK.same {v : Value} (H : HR Z w sl hdr fp) (hr : (execOp a.eval o).run E.P w = .ok (.value v) w) (R : RelV Z w sl hdr fp mv v) : OpOK E o a w Z sl hdr fp mv (Ups.look [] sl) :=
  OpOK.val hr H (Trans.refl _ _ _ _ _) R
theorem RelV.int {k : IntKind} {n : Int} {v : Value} (h : RelV Z w sl hdr fp (.val (.int k) n) v) : v = .int k n := by
  rcases h with h | ⟨cs, h, e⟩
  · cases h
  · rw [e, show cs = _ from h]; rfl
theorem RelV.bool {b : Bool} {v : Value} (h : RelV Z w sl hdr fp (.val .bool b) v) : v = .bool b := by
  rcases h with h | ⟨cs, h, e⟩
  · cases h
  · rw [e, show cs = _ from h]; rfl
theorem RelV.str {s : ByteArray} {v : Value} (h : RelV Z w sl hdr fp (.val .str s) v) : v = .string s := by
  rcases h with h | ⟨cs, h, e⟩
  · cases h
  · rw [e, show cs = _ from h]; rfl
theorem relV_int (k : IntKind) (n : Int) : RelV Z w sl hdr fp (.val (.int k) n) (.int k n) := .inr ⟨[.int k n], rfl, rfl⟩
theorem relV_bool (b : Bool) : RelV Z w sl hdr fp (.val .bool b) (.bool b) := .inr ⟨[.bool b], rfl, rfl⟩
theorem relV_str (s : ByteArray) : RelV Z w sl hdr fp (.val .str s) (.string s) := .inr ⟨[.string s], rfl, rfl⟩

theorem int_beq (a b : Int) : (a == b) = decide (a = b) := by
  by_cases h : a = b <;> simp [h]
theorem intBin_ok {op : BinOp} {k : IntKind} {x y : Int} {xt : TypeId} {ox oy : Operand} (hs : op ≠ .shl ∧ op ≠ .shr ∧ op ≠ .quo ∧ op ≠ .rem) (h : intBin op k x y = some mv) :
    ∃ v, (do eqGuard op xt ox oy (.int k x) (.int k y); binOp op xt (.int k x) (.int k y) : Sem Value).run E.P w = .ok v w ∧ RelV Z w sl hdr fp mv v := by
  have hg : ∀ op, (eqGuard op xt ox oy (.int k x) (.int k y)).run E.P w = .ok () w := by intro op; cases op <;> rfl
  cases op <;> simp only [intBin, Option.some.injEq, reduceCtorEq] at h <;> (try subst h) <;>
    first
    | exact absurd rfl hs.1
    | exact absurd rfl hs.2.1
    | exact absurd rfl hs.2.2.1
    | exact absurd rfl hs.2.2.2
    | (refine ⟨.int k (k.wrap (BitVec.ofInt k.bits x &&& ~~~BitVec.ofInt k.bits y).toNat), ?_, relV_int _ _⟩; simp only [Sem.run_bind, hg, Result.andThen_ok, binOp, ne_eq, not_true, if_false, Op.intBits, Sem.run_pure]; done)
    | (refine ⟨_, by simp [hg, binOp, Op.intArith, Op.intBits, Op.intCmp]; rfl, ?_⟩; first | exact relV_int _ _ | exact relV_bool _)
theorem chk_some {R : Type} {b : Bool} {k : Option R} {r : R} (h : chk b k = some r) : b = true ∧ k = some r := by
  cases b <;> simp_all [chk]
theorem cond_some {R : Type} {b : Bool} {k : Option R} {r : R} (h : (bif b then k else none) = some r) : b = true ∧ k = some r := by
  cases b <;> simp_all
theorem bin_ok (hE : TTok E) {op : BinOp} {xt yt : TypeId} {x y : Operand} {m1 m2 : MV} {us : Ups} (H : HR Z w sl hdr fp) (ho : o.op = .binOp op xt x y yt) (hx : RelV Z w sl hdr fp m1 (a.eval x)) (hy : RelV Z w sl hdr fp m2 (a.eval y))
    (h : binK E xt op m1 m2 (fun m u => some (m, u)) = some (mv, us)) : OpOK E o a w Z sl hdr fp mv (us.look sl) := by
  have key : ∀ v, (do eqGuard op xt x y (a.eval x) (a.eval y); binOp op xt (a.eval x) (a.eval y) : Sem Value).run E.P w = .ok v w → (execOp a.eval o).run E.P w = .ok (.value v) w := by
    intro v hv
    unfold execOp
    rw [ho]
    simp only [Sem.run_bind] at hv ⊢
    rw [hv]; rfl
  unfold binK at h
  split at h
  · rename_i k n k' n'
    rw [hx.int, hy.int] at key
    have hg : ∀ op, (eqGuard op xt x y (.int k n) (.int k' n')).run E.P w = .ok () w := by intro op; cases op <;> rfl
    split at h
    · cases hb : decide (n' < 0) with
      | true => rw [hb] at h; cases h
      | false =>
        rw [hb] at h
        simp only [cond_false, Option.some.injEq, Prod.mk.injEq] at h
        obtain ⟨rfl, rfl⟩ := h
        refine .same H (key _ (by have := of_decide_eq_false hb; simp [hg, binOp, Op.shift, this])) (relV_int _ _)
    · cases hb : decide (n' < 0) with
      | true => rw [hb] at h; cases h
      | false =>
        rw [hb] at h
        simp only [cond_false, Option.some.injEq, Prod.mk.injEq] at h
        obtain ⟨rfl, rfl⟩ := h
        refine .same H (key _ (by have := of_decide_eq_false hb; simp [hg, binOp, Op.shift, this])) (relV_int _ _)
    · split at h
      · rename_i hk; subst hk
        cases hb : decide (n' = 0) with
        | true => rw [hb] at h; cases h
        | false =>
          rw [hb] at h
          simp only [cond_false, Option.some.injEq, Prod.mk.injEq] at h
          obtain ⟨rfl, rfl⟩ := h
          refine .same H (key _ (by have := of_decide_eq_false hb; simp [hg, binOp, Op.intDiv, this])) (relV_int _ _)
      · cases h
    · split at h
      · rename_i hk; subst hk
        cases hb : decide (n' = 0) with
        | true => rw [hb] at h; cases h
        | false =>
          rw [hb] at h
          simp only [cond_false, Option.some.injEq, Prod.mk.injEq] at h
          obtain ⟨rfl, rfl⟩ := h
          refine .same H (key _ (by have := of_decide_eq_false hb; simp [hg, binOp, Op.intDiv, this])) (relV_int _ _)
      · cases h
    · rename_i h1 h2 h3 h4
      split at h
      · rename_i hk; subst hk
        split at h
        · rename_i v hv
          simp only [Option.some.injEq, Prod.mk.injEq] at h
          obtain ⟨rfl, rfl⟩ := h
          obtain ⟨u, q1, q2⟩ := intBin_ok (E := E) (xt := xt) (ox := x) (oy := y) (w := w) (Z := Z) (sl := sl) (hdr := hdr) (fp := fp) ⟨fun e => h1 e, fun e => h2 e, fun e => h3 e, fun e => h4 e⟩ hv
          exact .same H (key _ q1) q2
        · cases h
      · cases h
  · rename_i n n'
    rw [hx.bool, hy.bool] at key
    obtain ⟨hb, h⟩ := cond_some h
    obtain ⟨nb, hT⟩ := tyB_ok hE hb
    have hu : E.P.underlying xt = some .bool := hT.desc
    split at h
    · simp only [Option.some.injEq, Prod.mk.injEq] at h
      obtain ⟨rfl, rfl⟩ := h
      have hg : (eqGuard .eql xt x y (.bool n) (.bool n')).run E.P w = .ok () w := rfl
      refine .same H (key _ (by simp only [Sem.run_bind, hg, Result.andThen_ok, run_eql_bool w xt n n' hu])) (relV_bool _)
    · simp only [Option.some.injEq, Prod.mk.injEq] at h
      obtain ⟨rfl, rfl⟩ := h
      have hg : (eqGuard .neq xt x y (.bool n) (.bool n')).run E.P w = .ok () w := rfl
      refine .same H (key _ (by simp only [Sem.run_bind, hg, Result.andThen_ok, run_neq_bool w xt n n' hu])) (relV_bool _)
    · cases h
  · rename_i n n'
    rw [hx.str, hy.str] at key
    have hg : ∀ op, (eqGuard op xt x y (.string n) (.string n')).run E.P w = .ok () w := by intro op; cases op <;> rfl
    split at h
    · simp only [Option.some.injEq, Prod.mk.injEq] at h
      obtain ⟨rfl, rfl⟩ := h
      exact .same H (key _ (by simp only [Sem.run_bind, hg, Result.andThen_ok]; rfl)) (relV_bool _)
    · simp only [Option.some.injEq, Prod.mk.injEq] at h
      obtain ⟨rfl, rfl⟩ := h
      exact .same H (key _ (by simp only [Sem.run_bind, hg, Result.andThen_ok]; rfl)) (relV_bool _)
    · obtain ⟨hc, h⟩ := chk_some h
      have hc := Nat.le_of_ble_eq_true hc
      simp only [Option.some.injEq, Prod.mk.injEq] at h
      obtain ⟨rfl, rfl⟩ := h
      refine .same H (key (.string (n ++ n')) ?_) (relV_str _)
      have hm : IntKind.i64.max = 9223372036854775807 := rfl
      have hn : ¬ (((n.size + n'.size : Nat) : Int) > IntKind.i64.max) := by rw [hm]; omega
      simp only [Sem.run_bind, hg, Result.andThen_ok, binOp, Op.stringOp, if_neg hn, Sem.run_pure]
    · cases h
  · cases h
end
end Go.Proofs.Ytibphkgcdnconaa.V
