/- Maps. -/
import Derived.WideKeyRuns
import Derived.Test.YtibphkgcdnconaaVX2
namespace Go.Proofs.Ytibphkgcdnconaa.V
open Go
set_option linter.unusedVariables false
set_option linter.all false
section
variable {E : Env} {o : Oper} {a : Act} {w : World} {Z : Bs} {sl : Nat → Option Slot} {hdr : Nat → Value} {fp : Nat → Bs} {mv : MV} {ρ : Operand → MV}
def mget (k : Ty) {β : Type} : List (k.den × β) → k.den → Option β
  | [], _ => none
  | p :: r, y => bif eqV k y p.1 then some p.2 else mget k r y
def mput (k : Ty) {β : Type} : List (k.den × β) → k.den → β → List (k.den × β)
  | [], y, z => [(y, z)]
  | p :: r, y, z => bif eqV k y p.1 then (y, z) :: r else p :: mput k r y z
/-- Types of keys: numbers, truth values, strings, arrays of these. -/
def keyT (E : Env) : Nat → TypeId → Bool
  | 0, _ => false
  | n + 1, e => match E.tt e with
    | some (.bool, _) | some (.int _, _) | some (.str, _) => true
    | some (.arr _ _, _) => (match E.P.underlying e with
      | some (.array _ el) => keyT E n el
      | _ => false)
    | _ => false
theorem keyT_eqT : ∀ (n : Nat) {e : TypeId}, keyT E n e = true → eqT E n e = true
  | 0, _, h => by cases h
  | n + 1, e, h => by
    unfold keyT at h
    unfold eqT
    split at h
    · rename_i h0; rw [h0]
    · rename_i h0; rw [h0]
    · rename_i h0; rw [h0]
    · rename_i h0
      rw [h0]
      split at h
      · rename_i h1; simp only [h1]; exact keyT_eqT n h
      · cases h
    · cases h
theorem eqV_eq : ∀ {t : Ty} {Z : Bs} {w : World} {m m' : Mk} {x y : t.den} {f g : Bs} {c1 c2 : List Value} {n : Nat} {e : TypeId} {nb : Nat}, TTok E → E.tt e = some (t, nb) → keyT E n e = true → Rep Z w t m x f c1 → Rep Z w t m' y g c2 → eqV t x y = true → x = y ∧ c1 = c2 := by
  intro t
  induction t with
  | bool =>
    intro Z w m m' x y f g c1 c2 n e nb _ _ _ r1 r2 h
    have h : (x == y) = true := h
    obtain rfl := eq_of_beq h
    exact ⟨rfl, (show c1 = _ from r1).trans (show c2 = _ from r2).symm⟩
  | int k =>
    intro Z w m m' x y f g c1 c2 n e nb _ _ _ r1 r2 h
    obtain rfl := of_decide_eq_true (show decide (x = y) = true from h)
    exact ⟨rfl, (show c1 = _ from r1).trans (show c2 = _ from r2).symm⟩
  | str =>
    intro Z w m m' x y f g c1 c2 n e nb _ _ _ r1 r2 h
    have h : (x.toList == y.toList) = true := h
    have h := eq_of_beq h
    rw [ByteArray.toList_eq, ByteArray.toList_eq] at h
    obtain rfl : x = y := ByteArray.ext (Array.toList_inj.1 h)
    exact ⟨rfl, (show c1 = _ from r1).trans (show c2 = _ from r2).symm⟩
  | arr l t ih =>
    intro Z w m m' xs ys f g c1 c2 n e nb hE ht hk r1 r2 h
    cases n with
    | zero => cases hk
    | succ n =>
    obtain ⟨el, n2, hu, hel⟩ := (hE _ _ _ ht).desc
    unfold keyT at hk
    rw [ht] at hk
    simp only [hu] at hk
    obtain ⟨l1, i1⟩ := r1
    obtain ⟨l2, i2⟩ := r2
    have h : (List.zip xs ys).all (fun p => eqV t p.1 p.2) = true := h
    have key : ∀ (xs ys : List t.den) (f g : Bs) (c1 c2 : List Value), xs.length = ys.length → Inline (fun x f c => Rep Z w t m x f c) xs f c1 → Inline (fun x f c => Rep Z w t m' x f c) ys g c2 → (List.zip xs ys).all (fun p => eqV t p.1 p.2) = true → xs = ys ∧ c1 = c2 := by
      intro xs
      induction xs with
      | nil =>
        intro ys f g c1 c2 hl i1 i2 _
        cases ys with
        | nil => exact ⟨rfl, (show c1 = [] from i1).trans (show c2 = [] from i2).symm⟩
        | cons _ _ => simp at hl
      | cons x xs ihx =>
        intro ys f g c1 c2 hl i1 i2 h
        cases ys with
        | nil => simp at hl
        | cons y ys =>
          obtain ⟨ca, cb, f1, f2, rfl, ra, rb, _⟩ := i1
          obtain ⟨da, db, g1, g2, rfl, sa, sb, _⟩ := i2
          simp only [List.zip_cons_cons, List.all_cons, Bool.and_eq_true] at h
          obtain ⟨rfl, rfl⟩ := ih hE hel hk ra sa h.1
          obtain ⟨rfl, rfl⟩ := ihx ys f2 g2 cb db (by simpa using hl) rb sb h.2
          exact ⟨rfl, rfl⟩
    exact key xs ys f g c1 c2 (l1.trans l2.symm) i1 i2 h
  | unit | pair _ _ _ _ | sl _ _ | mp _ _ _ _ | ex _ _ _ _ _ =>
    intro Z w m m' x y f g c1 c2 n e nb _ ht hk
    cases n with
    | zero => cases hk
    | succ n => unfold keyT at hk; rw [ht] at hk; cases hk
theorem checkKey_ok (hE : TTok E) (em : Bool) : ∀ (n : Nat) {e : TypeId} {t : Ty} {nb : Nat} (d : Nat), E.tt e = some (t, nb) → keyT E n e = true → n ≤ d → ∀ (Z : Bs) (w : World) (m : Mk) (x : t.den) (f : Bs) (c : List Value), Rep Z w t m x f c → (Instr.checkKey em d e (t.val c)).run E.P w = .ok () w
  | 0, _, _, _, _, _, h, _ => by cases h
  | n + 1, e, t, nb, 0, _, _, h => absurd h (Nat.not_succ_le_zero _)
  | n + 1, e, t, nb, d + 1, ht, hk, hd => by
    have hT := hE _ _ _ ht
    have hdesc := hT.desc
    intro Z w m x f c r
    unfold keyT at hk
    rw [ht] at hk
    cases t with
    | bool => rw [show c = [.bool x] from r]; simp [Instr.checkKey, run_underlying hdesc, Ty.val, Ty.agg]
    | int k => rw [show c = [.int k x] from r]; simp [Instr.checkKey, run_underlying hdesc, Ty.val, Ty.agg]
    | str => rw [show c = [.string x] from r]; simp [Instr.checkKey, run_underlying hdesc, Ty.val, Ty.agg]
    | arr l t =>
      obtain ⟨el, n2, hu, hel⟩ := hdesc
      simp only [hu] at hk
      have hTe := hE _ _ _ hel
      have ih := checkKey_ok hE em n d hel hk (Nat.le_of_succ_le_succ hd)
      obtain ⟨hl, i⟩ := r
      simp only [Ty.val, Ty.agg, cond_true, Instr.checkKey, Sem.run_bind, run_underlying hu, Result.andThen_ok]
      have loop : ∀ (k : Nat) (xs : List t.den) (f : Bs) (p c : List Value), xs.length = k → p.length = (l - k) * t.size → k ≤ l → Inline (fun x f c => Rep Z w t m x f c) xs f c →
          Sem.run E.P (forIn (m := Sem) (List.range' (l - k) k) () (fun i r => do
            let s ← sizeOf el
            let u ← part el (p ++ c).toArray (i * s)
            Instr.checkKey em d el u
            pure (ForInStep.yield ()))) w = .ok () w := by
        intro k
        induction k with
        | zero => intro xs f p c _ _ _ _; rfl
        | succ k ih2 =>
          intro xs f p c h1 q1 hk j1
          cases xs with
          | nil => simp at h1
          | cons x xs =>
            obtain ⟨ca, cb, f1, f2, rfl, ra, rb, _⟩ := j1
            have hidx : (l - (k + 1)) + 1 = l - k := by omega
            have hp : (part el (p ++ (ca ++ cb)).toArray ((l - (k + 1)) * t.size)).run E.P w = .ok (t.val ca) w := by
              have := run_part_ (E := E) (w := w) hTe (cs := p ++ (ca ++ cb)) (off := (l - (k + 1)) * t.size) (by simp [q1, ra.len])
              rw [this, ← q1, List.drop_left, ← ra.len, List.take_left]
            rw [List.range'_succ, List.forIn_cons]
            simp only [Sem.run_bind, hTe.size w, hp, Result.andThen_ok, ih _ _ _ _ _ _ ra, Sem.run_pure]
            have := ih2 xs f2 (p ++ ca) cb (by simpa using h1) (by rw [List.length_append, q1, ra.len, ← hidx, Nat.succ_mul]) (by omega) rb
            rw [List.append_assoc] at this
            rw [hidx]
            simpa only [Sem.run_bind] using this
      have this := loop l x f [] c hl (by simp) (Nat.le_refl _) i
      simp only [Nat.sub_self, List.nil_append, Sem.run_bind] at this
      simp only [Std.Legacy.Range.forIn_eq_forIn_range', Std.Legacy.Range.size, Nat.sub_zero, Nat.add_one_sub_one, Nat.div_one, Sem.run_bind, Sem.run_pure]
      first
        | exact this
        | (simp only [this, Result.andThen_ok, Sem.run_pure]; done)
        | (refine (congrArg (fun r => Result.andThen r _) this).trans ?_; rfl)
    | _ => cases hk
/-! ### entries -/
theorem entries_get {α β : Type} {Rk : α → List Value → Prop} {Rv : β → Bs → List Value → Prop} {kv vv : List Value → Value} : ∀ {xs : List (α × β)} {es : List MapEntry} {fp : Bs}, Entries Rk Rv kv vv xs es fp → es.length = xs.length ∧
    ∀ (i : Nat) (x : α × β) (e : MapEntry), xs[i]? = some x → es[i]? = some e → ∃ ck cv f, e.key = kv ck ∧ e.val = vv cv ∧ Rk x.1 ck ∧ Rv x.2 f cv ∧ ∀ k, f k → fp k
  | [], es, fp, h => by rw [show es = [] from h]; exact ⟨rfl, fun i x e h => by simp at h⟩
  | x0 :: xs, es, fp, ⟨e0, es', ck, cv, f1, f2, he, h1, h2, h3, h4, h5, s1, s2, _⟩ => by
    subst he
    obtain ⟨g1, g2⟩ := entries_get h5
    refine ⟨by simp [g1], fun i x e hx he => ?_⟩
    cases i with
    | zero =>
      simp only [List.getElem?_cons_zero, Option.some.injEq] at hx he
      subst hx; subst he
      exact ⟨ck, cv, f1, h1, h2, h3, h4, s1⟩
    | succ i =>
      obtain ⟨ck, cv, f, q1, q2, q3, q4, q5⟩ := g2 i x e (by simpa using hx) (by simpa using he)
      exact ⟨ck, cv, f, q1, q2, q3, q4, fun k hk => s2 k (q5 k hk)⟩
theorem entries_set {α β : Type} {Rk : α → List Value → Prop} {Rv : β → Bs → List Value → Prop} {kv vv : List Value → Value} {y : α} {z : β} {e : MapEntry} {ck cv : List Value} (h1 : e.key = kv ck) (h2 : e.val = vv cv) (h3 : Rk y ck) (h4 : Rv z none_ cv) : ∀ {xs : List (α × β)} {es : List MapEntry} {fp : Bs} (i : Nat), Entries Rk Rv kv vv xs es fp → Entries Rk Rv kv vv (xs.set i (y, z)) (es.set i e) fp
  | [], es, fp, i, h => by rw [show es = [] from h]; exact rfl
  | x0 :: xs, es, fp, 0, ⟨e0, es', ck', cv', f1, f2, he, _, _, _, _, h5, s1, s2, _⟩ => by
    subst he
    exact ⟨e, es', ck, cv, none_, f2, rfl, h1, h2, h3, h4, h5, fun _ h => h.elim, s2, fun _ h => h.elim⟩
  | x0 :: xs, es, fp, i + 1, ⟨e0, es', ck', cv', f1, f2, he, q1, q2, q3, q4, h5, s1, s2, s3⟩ => by
    subst he
    exact ⟨e0, es'.set i e, ck', cv', f1, f2, rfl, q1, q2, q3, q4, entries_set h1 h2 h3 h4 i h5, s1, s2, s3⟩
theorem entries_push {α β : Type} {Rk : α → List Value → Prop} {Rv : β → Bs → List Value → Prop} {kv vv : List Value → Value} {y : α} {z : β} {e : MapEntry} {ck cv : List Value} (h1 : e.key = kv ck) (h2 : e.val = vv cv) (h3 : Rk y ck) (h4 : Rv z none_ cv) : ∀ {xs : List (α × β)} {es : List MapEntry} {fp : Bs}, Entries Rk Rv kv vv xs es fp → Entries Rk Rv kv vv (xs ++ [(y, z)]) (es ++ [e]) fp
  | [], es, fp, h => by rw [show es = [] from h]; exact ⟨e, [], ck, cv, none_, none_, rfl, h1, h2, h3, h4, rfl, fun _ h => h.elim, fun _ h => h.elim, fun _ h => h.elim⟩
  | x0 :: xs, es, fp, ⟨e0, es', ck', cv', f1, f2, he, q1, q2, q3, q4, h5, s1, s2, s3⟩ => by
    subst he
    exact ⟨e0, es' ++ [e], ck', cv', f1, f2, rfl, q1, q2, q3, q4, entries_push h1 h2 h3 h4 h5, s1, s2, s3⟩
theorem mput_none {k : Ty} {β : Type} {y : k.den} {z : β} : ∀ {xs : List (k.den × β)}, mget k xs y = none → mput k xs y z = xs ++ [(y, z)]
  | [], _ => rfl
  | p :: r, h => by
    simp only [mget] at h
    simp only [mput]
    cases hb : eqV k y p.1 with
    | true => rw [hb] at h; cases h
    | false => rw [hb] at h; simp only [cond_false]; rw [mput_none h]; rfl
/-- What is found. -/
def Found (k : Ty) {β : Type} (xs : List (k.den × β)) (es : List MapEntry) (i0 : Nat) (y : k.den) (r : Option (Nat × Value)) : Prop :=
  (mget k xs y = none ∧ r = none) ∨ ∃ i x e, mget k xs y = some x.2 ∧ r = some (i0 + i, e.val) ∧ xs[i]? = some x ∧ es[i]? = some e ∧ eqV k y x.1 = true ∧ ∀ z, mput k xs y z = xs.set i (y, z)
theorem Found.skip {k : Ty} {β : Type} {xs : List (k.den × β)} {es : List MapEntry} {i0 : Nat} {y : k.den} {r : Option (Nat × Value)} {p : k.den × β} {e : MapEntry} (hb : eqV k y p.1 = false) (h : Found k xs es (i0 + 1) y r) : Found k (p :: xs) (e :: es) i0 y r := by
  rcases h with ⟨h1, h2⟩ | ⟨i, x, e', h1, h2, h3, h4, h5, h6⟩
  · exact .inl ⟨by simp only [mget, hb, cond_false]; exact h1, h2⟩
  · exact .inr ⟨i + 1, x, e', by simp only [mget, hb, cond_false]; exact h1, by rw [h2]; congr 2; omega, by simpa using h3, by simpa using h4, h5, fun z => by simp only [mput, hb, cond_false, h6 z]; rfl⟩
theorem Found.hit {k : Ty} {β : Type} {xs : List (k.den × β)} {es : List MapEntry} {i0 : Nat} {y : k.den} {p : k.den × β} {e : MapEntry} (hb : eqV k y p.1 = true) : Found k (p :: xs) (e :: es) i0 y (some (i0, e.val)) :=
  .inr ⟨0, p, e, by simp only [mget, hb, cond_true], rfl, rfl, rfl, hb, fun z => by simp only [mput, hb, cond_true]; rfl⟩
theorem findKey_ok (hE : TTok E) {n : Nat} {kt : TypeId} {k : Ty} {nb : Nat} (ht : E.tt kt = some (k, nb)) (hk : keyT E n kt = true) (hn : n ≤ 10000) {β : Type} {Rv : β → Bs → List Value → Prop} {vv : List Value → Value} {y : k.den} {cy : List Value} (hy : Rep Z w k .im y none_ cy) {xs : List (k.den × β)} {es : List MapEntry} {f : Bs}
    (h : Entries (fun x c => Rep Z w k .im x none_ c) Rv k.val vv xs es f) : ∃ r, (Instr.findKey kt (k.val cy) es).run E.P w = .ok r w ∧ Found k xs es 0 y r := by
  have asking : ∀ (xs : List (k.den × β)) (es : List MapEntry) (f : Bs) (i0 : Nat), Entries (fun x c => Rep Z w k .im x none_ c) Rv k.val vv xs es f → ∃ r, (Instr.findAsking kt (k.val cy) es i0).run E.P w = .ok r w ∧ Found k xs es i0 y r := by
    intro xs
    induction xs with
    | nil => intro es f i0 h; rw [show es = [] from h]; exact ⟨none, rfl, .inl ⟨rfl, rfl⟩⟩
    | cons p xs ih =>
      rintro es f i0 ⟨e, es', ck, cv, f1, f2, rfl, h1, h2, h3, h4, h5, _⟩
      have hq := equalIn_ok hE n 10000 ht (keyT_eqT n hk) hn _ _ _ _ _ _ _ _ _ _ hy h3
      have hq : (Op.equal kt (k.val cy) e.key).run E.P w = .ok (eqV k y p.1) w := by rw [h1]; exact hq
      simp only [Instr.findAsking, Sem.run_bind, hq, Result.andThen_ok]
      cases hb : eqV k y p.1 with
      | true => exact ⟨_, rfl, Found.hit hb⟩
      | false =>
        obtain ⟨r, g1, g2⟩ := ih es' f2 (i0 + 1) h5
        exact ⟨r, by simpa using g1, g2.skip hb⟩
  have now : ∀ {d : TypeDesc}, E.P.underlying kt = some d → (∀ (p : k.den) (ck : List Value), Rep Z w k .im p none_ ck → Instr.sameNow d (k.val cy) (k.val ck) = some (eqV k y p)) → ∃ r, (Instr.findKey kt (k.val cy) es).run E.P w = .ok r w ∧ Found k xs es 0 y r := by
    intro d hd hs
    have key : ∀ (xs : List (k.den × β)) (es : List MapEntry) (f : Bs) (i0 : Nat), Entries (fun x c => Rep Z w k .im x none_ c) Rv k.val vv xs es f → ∃ r, Instr.findNow d (k.val cy) es i0 = some r ∧ Found k xs es i0 y r := by
      intro xs
      induction xs with
      | nil => intro es f i0 h; rw [show es = [] from h]; exact ⟨none, rfl, .inl ⟨rfl, rfl⟩⟩
      | cons p xs ih =>
        rintro es f i0 ⟨e, es', ck, cv, f1, f2, rfl, h1, h2, h3, h4, h5, _⟩
        simp only [Instr.findNow, h1, hs p.1 ck h3]
        cases hb : eqV k y p.1 with
        | true => exact ⟨_, rfl, Found.hit hb⟩
        | false =>
          obtain ⟨r, g1, g2⟩ := ih es' f2 (i0 + 1) h5
          exact ⟨r, g1, g2.skip hb⟩
    obtain ⟨r, g1, g2⟩ := key xs es f 0 h
    exact ⟨r, Go.MapKept.run_findKey hd g1, g2⟩
  have hT := hE _ _ _ ht
  have hdesc := hT.desc
  cases n with
  | zero => cases hk
  | succ n =>
  unfold keyT at hk
  rw [ht] at hk
  cases k with
  | bool => exact now hdesc (fun p ck hp => by rw [show cy = [.bool y] from hy, show ck = [.bool p] from hp]; rfl)
  | int q =>
    refine now hdesc (fun p ck hp => ?_)
    rw [show cy = [.int q y] from hy, show ck = [.int q p] from hp]
    show (if q = q then some (y == p) else none) = _
    rw [if_pos rfl, int_beq]; rfl
  | str =>
    refine now hdesc (fun p ck hp => ?_)
    rw [show cy = [.string y] from hy, show ck = [.string p] from hp]
    show some (y == p) = _
    rw [beq_toListBytes]; rfl
  | arr l t =>
    obtain ⟨el, n2, hu, hel⟩ := hdesc
    obtain ⟨r, g1, g2⟩ := asking xs es f 0 h
    exact ⟨r, by rw [run_findKey_eq w (by rw [hu])]; exact g1, g2⟩
  | _ => cases hk
/-! ### operations -/
def mdel (k : Ty) {β : Type} : List (k.den × β) → k.den → List (k.den × β)
  | [], _ => []
  | p :: r, y => bif eqV k y p.1 then r else p :: mdel k r y
def mkIn : Mk → Mk
  | .ow q => q
  | _ => .im
structure MapC where
  k : Ty
  v : Ty
  x : Option (List (k.den × v.den))
def mapC (look : Nat → Option Slot) : MV → Option MapC
  | .val (.mp k v) x => some ⟨k, v, x⟩
  | .root s hv => match lookH look s hv with
    | some (_, ⟨.mp k v, m, x⟩) => bif v.shared (mkIn m) then some ⟨k, v, x⟩ else none
    | _ => none
  | _ => none
def mapB (E : Env) (e : TypeId) (k v : Ty) : Bool := tyB E e (.mp k v) && (match E.P.underlying e with
  | some (.map kt _) => keyT E 50 kt
  | _ => false)
def opM {R : Type} (E : Env) (ρ : Operand → MV) (look : Nat → Option Slot) (o : Oper) (h : OH) (K : MV → Ups → Option R) : Option R :=
  match o.op with
  | .makeMap e none => match E.tt e with
    | some (.mp k v, _) => newSlot look h ⟨.mp k v, .ow h.m, some []⟩ [] .root K
    | _ => none
  | .lookup e m i ok => match mapC look (ρ m), ρ i with
    | some ⟨k, v, xs⟩, .val k' y => bif mapB E e k v then (if hk : k' = k then
        (bif ok then K (.tc (.val v ((xs.bind fun l => mget k l (hk ▸ y)).getD v.zero)) (.tc (.val .bool (xs.bind fun l => mget k l (hk ▸ y)).isSome) .tn)) []
        else K (.val v ((xs.bind fun l => mget k l (hk ▸ y)).getD v.zero)) []) else none) else none
    | _, _ => none
  | .mapUpdate e m i x => match ρ m, ρ i with
    | .root s hv, .val k' y => match lookH look s hv with
      | some (cv, ⟨.mp k v, .ow q, xs⟩) => bif mapB E e k v && v.shared q && Nat.ble k.size 1000 then (if hk : k' = k then (match takeX look v .im (ρ x) with
        | some (z, us) => bif us.any (fun u => Nat.beq u.1 s) then none else xs.bind fun l => K .dead ((s, ⟨hv, cv + 1, some ⟨.mp k v, .ow q, some (mput k l (hk ▸ y) z)⟩⟩) :: us)
        | none => none) else none) else none
      | _ => none
    | _, _ => none
  | .build e parts => match E.tt e with
    | some (.arr n t, _) => match takeMany t .im look (parts.toList.map fun p => (p.1, ρ p.2)) with
      | some (l, us) => chk (l.all fun p => Nat.blt p.1 n) (K (.val (.arr n t) (setMany (List.replicate n t.zero) l)) us)
      | none => none
    | _ => none
  | .index e x i => match unMV (ρ x), ρ i with
    | .val (.arr n t) xs, .val (.int _) m => bif tyB E e (.arr n t) then (idx xs m).bind fun v => K (.val t v) [] else none
    | _, _ => none
  | .indexAddr e x i => match ρ i with
    | .val (.int _) m => match deref look (ρ x) with
      | .iadr (.arr n t) xs => bif tyB E e (.arr n t) then (idx xs m).bind fun v => K (.iadr t v) [] else none
      | .adr s hv cv p (.arr n t) xs => bif tyB E e (.arr n t) && (lookC look s hv cv).isSome then (idx xs m).bind fun v => K (.adr s hv cv (p.map (· ++ [.el m.toNat])) t v) [] else none
      | _ => none
    | _ => none
  | .call c => match c.callee with
    | .builtin .len => match c.args.toList, c.argTypes.toList with
      | [x], ty :: _ => match mapC look (ρ x) with
        | some ⟨k, v, xs⟩ => bif tyB E ty (.mp k v) then K (.val (.int .i64) (((xs.getD []).length : Nat) : Int)) [] else none
        | none => match unMV (ρ x) with
          | .val (.arr n t) xs => bif tyB E ty (.arr n t) then K (.val (.int .i64) (n : Int)) [] else none
          | _ => none
      | _, _ => none
    | _ => none
  | _ => none
theorem map_rep (H : HR Z w sl hdr fp) {u : MV} {k v : Ty} {xs : Option (List (k.den × v.den))} {cs : List Value} (h : mapC sl u = some ⟨k, v, xs⟩) (hr : RelC Z w sl hdr fp u cs) :
    (xs = none ∧ u.out cs = .map none) ∨ ∃ b es n l q f, xs = some l ∧ u.out cs = .map (some b) ∧ w.heap[b]? = some (.map es n) ∧ v.shared q = true ∧ Entries (fun x c => Rep Z w k .im x none_ c) (fun x f c => Rep Z w v q x f c) k.val v.val l es.toList f := by
  cases u with
  | val t x =>
    cases t with
    | mp k' v' =>
      simp only [mapC, Option.some.injEq, MapC.mk.injEq] at h
      obtain ⟨rfl, rfl, h⟩ := h
      obtain rfl := eq_of_heq h
      rcases hr with ⟨h1, rfl⟩ | ⟨b, es, n, l, h1, rfl, h2, h3, h4⟩
      · exact .inl ⟨h1, rfl⟩
      · exact .inr ⟨b, es, n, l, .im, none_, h1, rfl, h3, shared_im _, h4⟩
    | _ => cases h
  | root s hv =>
    simp only [mapC] at h
    split at h
    · rename_i cv k' v' m x hl
      obtain ⟨hb, h⟩ := cond_some h
      simp only [Option.some.injEq, MapC.mk.injEq] at h
      obtain ⟨rfl, rfl, h⟩ := h
      obtain rfl := eq_of_heq h
      have e2 := lookH_some hl
      obtain ⟨hl1, S, h1, _, h3⟩ := hr
      rw [e2] at h1; obtain rfl := Option.some.inj h1
      obtain rfl := h3 rfl _ rfl
      have hrep := H.rep s _ _ _ e2
      have hout : (MV.root s hv).out [hdr s] = hdr s := rfl
      rw [hout]
      cases m with
      | ow q =>
        rcases hrep with ⟨h1, h2⟩ | ⟨b, es, n, l, h1, h2, h3, h4, f, h5, h6⟩
        · exact .inl ⟨h1, by simpa using h2⟩
        · exact .inr ⟨b, es, n, l, q, f, h1, by simpa using h2, h4, hb, h6⟩
      | im =>
        rcases hrep with ⟨h1, h2⟩ | ⟨b, es, n, l, h1, h2, h3, h4, h6⟩
        · exact .inl ⟨h1, by simpa using h2⟩
        · exact .inr ⟨b, es, n, l, .im, none_, h1, by simpa using h2, h4, shared_im _, h6⟩
      | pr q1 q2 =>
        rcases hrep with ⟨h1, h2⟩ | ⟨b, es, n, l, h1, h2, h3, h4, h6⟩
        · exact .inl ⟨h1, by simpa using h2⟩
        · exact .inr ⟨b, es, n, l, .im, none_, h1, by simpa using h2, h4, shared_im _, h6⟩
    · cases h
  | _ => cases h
theorem lookup_ok (hE : TTok E) (H : HR Z w sl hdr fp) {e : TypeId} {m i : Operand} {ok : Bool} {u : MV} {k v : Ty} {xs : Option (List (k.den × v.den))} {y : k.den} (ho : o.op = .lookup e m i ok) (hm : RelV Z w sl hdr fp u (a.eval m)) (hi : RelV Z w sl hdr fp (.val k y) (a.eval i)) (hu : mapC sl u = some ⟨k, v, xs⟩) (hb : mapB E e k v = true) :
    ∃ val : Value, RelV Z w sl hdr fp (.val v ((xs.bind fun l => mget k l y).getD v.zero)) val ∧ (execOp a.eval o).run E.P w = .ok (.value (if ok then .tuple #[val, .bool (xs.bind fun l => mget k l y).isSome] else val)) w := by
  simp only [mapB, Bool.and_eq_true] at hb
  obtain ⟨hb1, hb2⟩ := hb
  obtain ⟨nb, hT⟩ := tyB_ok hE hb1
  obtain ⟨kt, vt, n1, n2, hun, hk, hv⟩ := hT.desc
  rw [hun] at hb2
  simp only at hb2
  rcases hm with rfl | ⟨cm, hm, em⟩
  · cases hu
  rcases hi with hi | ⟨ci, hi, ei⟩
  · cases hi
  have ei : a.eval i = k.val ci := ei
  have hTv := hE _ _ _ hv
  obtain ⟨z, hz, hzc⟩ := hTv.zero w
  have hzv : z = v.val v.zcells := by
    obtain ⟨i0, z0, q1, q2, q3, q4, q5⟩ := hTv.info
    have : (zeroValue vt).run E.P w = .ok z0 w := by simp [zeroValue, typeInfo, q1, q4]
    rw [this] at hz
    obtain ⟨rfl, _⟩ := Result.ok.inj hz
    exact hTv.zv _ _ q1 q4
  have hzero : RelV Z w sl hdr fp (.val v v.zero) z := .inr ⟨v.zcells, Rep.zero Z w v .im none_, by rw [hzv]; rfl⟩
  have hck := fun em => checkKey_ok hE em 50 10000 hk hb2 (by decide) _ _ _ _ _ _ hi
  have hex : ∀ r, (Instr.lookup e (a.eval m) (a.eval i) ok).run E.P w = .ok r w → (execOp a.eval o).run E.P w = .ok (.value r) w := by
    intro r hr
    unfold execOp; rw [ho]
    simp only [Sem.run_bind, hr, Result.andThen_ok, Sem.run_pure]
  rcases map_rep H hu hm with ⟨hx, hout⟩ | ⟨b, es, n, l, q, f, hx, hout, hheap, hq, hent⟩
  · subst hx
    refine ⟨z, hzero, hex _ ?_⟩
    rw [em, hout, ei]
    have hf : (Instr.findKey kt (k.val ci) []).run E.P w = .ok none w := by
      obtain ⟨r, g1, g2⟩ := findKey_ok hE (Rv := fun (x : v.den) f c => True) (vv := v.val) hk hb2 (by decide) hi (xs := []) (es := []) (f := none_) rfl
      rcases g2 with ⟨_, g2⟩ | ⟨i, x, e, h, _⟩
      · rw [g1, g2]
      · cases h
    simp only [Instr.lookup, Sem.run_bind, run_underlying hun, Result.andThen_ok, Sem.run_pure, hck, Array.toList_empty, List.isEmpty_nil, hf, hz]
    cases ok <;> simp [hz]
  · subst hx
    obtain ⟨r, g1, g2⟩ := findKey_ok hE hk hb2 (by decide) hi hent
    have hg := Go.MapKept.run_getObj_map (P := E.P) hheap
    rcases g2 with ⟨g2, rfl⟩ | ⟨i0, x, e0, g2, rfl, g3, g4, g5, _⟩
    · refine ⟨z, by simp only [Option.bind_some, g2]; exact hzero, hex _ ?_⟩
      rw [em, hout, ei]
      simp only [Instr.lookup, Sem.run_bind, run_underlying hun, Result.andThen_ok, hg, Sem.run_pure, hck, g1, hz]
      cases ok <;> simp [g2, hz]
    · obtain ⟨ck, cv, f', q1, q2, q3, q4, q5⟩ := (entries_get hent).2 i0 x e0 g3 g4
      refine ⟨e0.val, by simp only [Option.bind_some, g2]; exact .inr ⟨cv, q4.share hq, by rw [q2]; rfl⟩, hex _ ?_⟩
      rw [em, hout, ei]
      simp only [Instr.lookup, Sem.run_bind, run_underlying hun, Result.andThen_ok, hg, Sem.run_pure, hck, g1]
      cases ok <;> simp [g2]
end
end Go.Proofs.Ytibphkgcdnconaa.V
