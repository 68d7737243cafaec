/- Typed pure values and how they lie in the machine's memory: the representation of a value by cells, with the blocks that it owns. -/
import Derived.Orders
import Derived.Laws.World
import Derived.Below
namespace Go.Proofs.Ytibphkgcdnconaa.V
open Go
set_option linter.unusedVariables false
set_option linter.all false

/-! ### Types of values -/
inductive Rose (α : Type) where
  | node (a : α) (kids : List (Rose α))
def Rose.val {α : Type} : Rose α → α
  | .node a _ => a
def Rose.kids {α : Type} : Rose α → List (Rose α)
  | .node _ l => l
/-- Kinds of values that are always shared: trees (structs with a slice of themselves), pointers, interfaces of two kinds. -/
inductive XK where
  | tree | ptr | ifc (i j : TypeId)
  deriving DecidableEq
abbrev XK.den : XK → Type → Type → Type
  | .tree, A, B => Rose (A × B)
  | .ptr, A, _ => Option A
  | .ifc _ _, A, B => Option (A ⊕ B)
inductive Ty where
  | bool | int (k : IntKind) | str | unit
  | pair (a b : Ty)
  | arr (n : Nat) (t : Ty)
  | sl (t : Ty)
  | mp (k v : Ty)
  | ex (k : XK) (a b : Ty)
  deriving DecidableEq
abbrev Ty.den : Ty → Type
  | .bool => Bool
  | .int _ => Int
  | .str => ByteArray
  | .unit => Unit
  | .pair a b => a.den × b.den
  | .arr _ t => List t.den
  | .sl t => List t.den
  | .mp k v => Option (List (k.den × v.den))
  | .ex k a b => k.den a.den b.den
def Ty.size : Ty → Nat
  | .bool | .int _ | .str | .sl _ | .mp _ _ => 1
  | .unit => 0
  | .pair a b => a.size + b.size
  | .arr n t => n * t.size
  | .ex .tree a b => a.size + (1 + b.size)
  | .ex _ _ _ => 1
def Ty.agg : Ty → Bool
  | .unit | .pair _ _ | .arr _ _ | .ex .tree _ _ => true
  | _ => false
def Ty.zero : (t : Ty) → t.den
  | .bool => false
  | .int _ => (0 : Int)
  | .str => ByteArray.empty
  | .unit => ()
  | .pair a b => (a.zero, b.zero)
  | .arr n t => List.replicate n t.zero
  | .sl _ => []
  | .mp _ _ => none
  | .ex .tree a b => .node (a.zero, b.zero) []
  | .ex .ptr _ _ => none
  | .ex (.ifc _ _) _ _ => none
/-- The cells of the zero value. -/
def Ty.zcells : Ty → List Value
  | .bool => [.bool false]
  | .int k => [.int k 0]
  | .str => [.string ByteArray.empty]
  | .unit => []
  | .pair a b => a.zcells ++ b.zcells
  | .arr n t => (List.replicate n t.zcells).flatten
  | .sl _ => [.slice none 0 0]
  | .mp _ _ => [.map none]
  | .ex .tree a b => a.zcells ++ (.slice none 0 0 :: b.zcells)
  | .ex .ptr _ _ => [.pointer none]
  | .ex (.ifc _ _) _ _ => [.nilIface]
theorem Ty.zcells_len : ∀ t : Ty, t.zcells.length = t.size
  | .bool | .int _ | .str | .unit | .sl _ | .mp _ _ | .ex .ptr _ _ | .ex (.ifc _ _) _ _ => rfl
  | .ex .tree a b => by simp [Ty.zcells, Ty.size, a.zcells_len, b.zcells_len]; omega
  | .pair a b => by simp [Ty.zcells, Ty.size, a.zcells_len, b.zcells_len]
  | .arr n t => by simp [Ty.zcells, Ty.size, t.zcells_len]
/-- Which parts are owned (alone, and may be written), which are shared (and never written again). -/
inductive Mk where
  | im
  | ow (m : Mk)
  | pr (a b : Mk)
  deriving DecidableEq
def Mk.l : Mk → Mk
  | .pr a _ => a
  | m => m
def Mk.r : Mk → Mk
  | .pr _ b => b
  | m => m
/-- No part is shared: the value does not lean on the shared blocks. -/
def Ty.free : Ty → Mk → Bool
  | .bool, _ | .int _, _ | .str, _ | .unit, _ => true
  | .pair a b, m => a.free m.l && b.free m.r
  | .arr _ t, m => t.free m
  | .sl t, .ow m => t.free m
  | .mp k v, .ow m => k.free .im && v.free m
  | _, _ => false
/-- No part is owned: nothing of it may be written. -/
def Ty.shared : Ty → Mk → Bool
  | .bool, _ | .int _, _ | .str, _ | .unit, _ => true
  | .pair a b, m => a.shared m.l && b.shared m.r
  | .arr _ t, m => t.shared m
  | .sl _, .im | .mp _ _, .im => true
  | .ex _ _ _, _ => true
  | _, _ => false
/-- Numbers, truth values, strings alone (and rows of these in place). -/
def Ty.flat : Ty → Bool
  | .bool | .int _ | .str | .unit => true
  | .pair a b => a.flat && b.flat
  | .arr _ t => t.flat
  | _ => false

/-! ### Representation -/
abbrev Bs := Nat → Prop
def none_ : Bs := fun _ => False
/-- The cells of xs lie from cell o of block b on, each element with blocks of its own. -/
def Elems {α : Type} (R : α → Bs → List Value → Prop) (sz : Nat) (w : World) (b o : Nat) (xs : List α) (fp : Bs) : Prop :=
  ∃ (fps : Nat → Bs) (css : Nat → List Value),
    (∀ i x, xs[i]? = some x → R x (fps i) (css i) ∧ (css i).length = sz ∧ (∀ j, j < sz → w.cell? ⟨b, o + i * sz + j, none⟩ = (css i)[j]?) ∧ (∀ k, fps i k → fp k ∧ k ≠ b)) ∧
    ∀ i j k, fps i k → fps j k → i < xs.length → j < xs.length → i = j
/-- The cells cs lie from cell o of block b on. -/
def At_ (w : World) (b o : Nat) (cs : List Value) : Prop := ∀ j, j < cs.length → w.cell? ⟨b, o + j, none⟩ = cs[j]?
/-- The elements lie one behind the other in a list of cells. -/
def Inline {α : Type} (R : α → Bs → List Value → Prop) : List α → Bs → List Value → Prop
  | [], _, cs => cs = []
  | x :: xs, fp, cs => ∃ c1 c2 f1 f2, cs = c1 ++ c2 ∧ R x f1 c1 ∧ Inline R xs f2 c2 ∧ (∀ k, f1 k → fp k) ∧ (∀ k, f2 k → fp k) ∧ ∀ k, f1 k → ¬ f2 k
def Entries {α β : Type} (Rk : α → List Value → Prop) (Rv : β → Bs → List Value → Prop) (kv vv : List Value → Value) : List (α × β) → List MapEntry → Bs → Prop
  | [], es, _ => es = []
  | x :: xs, es, fp => ∃ e es' ck cv f1 f2, es = e :: es' ∧ e.key = kv ck ∧ e.val = vv cv ∧ Rk x.1 ck ∧ Rv x.2 f1 cv ∧ Entries Rk Rv kv vv xs es' f2 ∧ (∀ k, f1 k → fp k) ∧ (∀ k, f2 k → fp k) ∧ ∀ k, f1 k → ¬ f2 k
/-- The value of cells: one cell is the value itself, a struct or array is an aggregate. -/
def Ty.val (t : Ty) (cs : List Value) : Value := bif t.agg then .agg cs.toArray else cs.headD (.tuple #[])
/-- A tree: its first fields, the slice of its kids, its last fields. -/
def RepT {A B : Type} (Ra : A → List Value → Prop) (Rb : B → List Value → Prop) (Z : Bs) (w : World) (sz : Nat) : Nat → Rose (A × B) → List Value → Prop
  | 0, _, _ => False
  | n + 1, x, cs => ∃ c1 S c3 cap, cs = c1 ++ (.slice S x.kids.length cap :: c3) ∧ Ra x.val.1 c1 ∧ Rb x.val.2 c3 ∧ x.kids.length ≤ cap ∧
      (x.kids = [] ∨ ∃ b o, S = some ⟨b, o, none⟩ ∧ Z b ∧ Elems (fun y _ c => RepT Ra Rb Z w sz n y c) sz w b o x.kids none_)
def RepX {A B : Type} (Ra : A → List Value → Prop) (Rb : B → List Value → Prop) (va vb : List Value → Value) (Z : Bs) (w : World) (sz : Nat) : (k : XK) → k.den A B → List Value → Prop
  | .tree, x, cs => ∃ n, RepT Ra Rb Z w sz n x cs
  | .ptr, x, cs => (x = none ∧ cs = [.pointer none]) ∨ ∃ v b o ks, x = some v ∧ cs = [.pointer (some ⟨b, o, none⟩)] ∧ At_ w b o ks ∧ Z b ∧ Ra v ks
  | .ifc i j, x, cs => (x = none ∧ cs = [.nilIface]) ∨ (∃ v ks, x = some (.inl v) ∧ cs = [.iface i (va ks)] ∧ Ra v ks) ∨ ∃ v ks, x = some (.inr v) ∧ cs = [.iface j (vb ks)] ∧ Rb v ks
def Rep (Z : Bs) (w : World) : (t : Ty) → Mk → t.den → Bs → List Value → Prop
  | .bool, _, b, _, cs => cs = [.bool b]
  | .int k, _, n, _, cs => cs = [.int k n]
  | .str, _, s, _, cs => cs = [.string s]
  | .unit, _, _, _, cs => cs = []
  | .pair a b, m, x, fp, cs => ∃ c1 c2 f1 f2, cs = c1 ++ c2 ∧ Rep Z w a m.l x.1 f1 c1 ∧ Rep Z w b m.r x.2 f2 c2 ∧ (∀ k, f1 k → fp k) ∧ (∀ k, f2 k → fp k) ∧ ∀ k, f1 k → ¬ f2 k
  | .arr n t, m, xs, fp, cs => xs.length = n ∧ Inline (fun x f c => Rep Z w t m x f c) xs fp cs
  | .sl t, .ow m, xs, fp, cs => ∃ A cap, cs = [.slice A xs.length cap] ∧
      ((xs = [] ∧ cap = 0) ∨ ∃ b o c e, A = some ⟨b, o, none⟩ ∧ fp b ∧ w.heap[b]? = some (.cells c e (0, 0)) ∧ o + cap * t.size ≤ c.size ∧ xs.length ≤ cap ∧
        Elems (fun x f c => Rep Z w t m x f c) t.size w b o xs fp)
  | .sl t, _, xs, _, cs => ∃ A cap, cs = [.slice A xs.length cap] ∧ xs.length ≤ cap ∧
      (xs = [] ∨ ∃ b o, A = some ⟨b, o, none⟩ ∧ Z b ∧ Elems (fun x f c => Rep Z w t .im x f c) t.size w b o xs none_)
  | .mp k v, .ow m, xs, fp, cs => (xs = none ∧ cs = [.map none]) ∨ ∃ b es n l, xs = some l ∧ cs = [.map (some b)] ∧ fp b ∧ w.heap[b]? = some (.map es n) ∧
      ∃ f, (∀ k, f k → fp k ∧ k ≠ b) ∧ Entries (fun x c => Rep Z w k .im x none_ c) (fun x f c => Rep Z w v m x f c) k.val v.val l es.toList f
  | .mp k v, _, xs, _, cs => (xs = none ∧ cs = [.map none]) ∨ ∃ b es n l, xs = some l ∧ cs = [.map (some b)] ∧ Z b ∧ w.heap[b]? = some (.map es n) ∧
      Entries (fun x c => Rep Z w k .im x none_ c) (fun x f c => Rep Z w v .im x f c) k.val v.val l es.toList none_
  | .ex k a b, _, x, _, cs => RepX (fun x c => Rep Z w a .im x none_ c) (fun x c => Rep Z w b .im x none_ c) a.val b.val Z w (a.size + (1 + b.size)) k x cs

theorem Inline.mono {α : Type} {R R' : α → Bs → List Value → Prop} (h : ∀ x f c, R x f c → R' x f c) : ∀ {xs : List α} {fp fp' : Bs} {cs : List Value}, (∀ k, fp k → fp' k) → Inline R xs fp cs → Inline R' xs fp' cs
  | [], _, _, _, _, h0 => h0
  | _ :: xs, _, _, _, hf, ⟨c1, c2, f1, f2, e, r, i, a, b, d⟩ => ⟨c1, c2, f1, f2, e, h _ _ _ r, Inline.mono h (fun _ hk => hk) i, fun k hk => hf k (a k hk), fun k hk => hf k (b k hk), d⟩
/-- Only the blocks that are used matter. -/
theorem Inline.keep {α : Type} {R R' : α → Bs → List Value → Prop} : ∀ {xs : List α} {fp : Bs} {cs : List Value}, (∀ x f c, (∀ k, f k → fp k) → R x f c → R' x f c) → Inline R xs fp cs → Inline R' xs fp cs
  | [], _, _, _, h0 => h0
  | _ :: xs, fp, _, h, ⟨c1, c2, f1, f2, e, r, i, a, b, d⟩ => ⟨c1, c2, f1, f2, e, h _ _ _ a r, Inline.keep (fun x f c hf hr => h x f c (fun k hk => b k (hf k hk)) hr) i, a, b, d⟩
theorem Entries.keep {α β : Type} {Rk Rk' : α → List Value → Prop} {Rv Rv' : β → Bs → List Value → Prop} {kv vv : List Value → Value} (hk : ∀ x c, Rk x c → Rk' x c) :
    ∀ {xs : List (α × β)} {es : List MapEntry} {fp : Bs}, (∀ x f c, (∀ k, f k → fp k) → Rv x f c → Rv' x f c) → Entries Rk Rv kv vv xs es fp → Entries Rk' Rv' kv vv xs es fp
  | [], _, _, _, h0 => h0
  | _ :: xs, _, fp, h, ⟨e, es', ck, cv, f1, f2, he, h1, h2, h3, h4, h5, a, b, d⟩ =>
    ⟨e, es', ck, cv, f1, f2, he, h1, h2, hk _ _ h3, h _ _ _ a h4, Entries.keep hk (fun x f c hf hr => h x f c (fun k hk => b k (hf k hk)) hr) h5, a, b, d⟩
theorem Entries.mono {α β : Type} {Rk : α → List Value → Prop} {Rv : β → Bs → List Value → Prop} {kv vv : List Value → Value} :
    ∀ {xs : List (α × β)} {es : List MapEntry} {fp fp' : Bs}, (∀ k, fp k → fp' k) → Entries Rk Rv kv vv xs es fp → Entries Rk Rv kv vv xs es fp'
  | [], _, _, _, _, h0 => h0
  | _ :: xs, _, _, _, hf, ⟨e, es', ck, cv, f1, f2, he, h1, h2, h3, h4, h5, a, b, d⟩ => ⟨e, es', ck, cv, f1, f2, he, h1, h2, h3, h4, h5, fun k hk => hf k (a k hk), fun k hk => hf k (b k hk), d⟩

/-- More blocks do no harm. -/
theorem Rep.mono {Z : Bs} {w : World} : ∀ {t : Ty} {m : Mk} {x : t.den} {fp fp' : Bs} {cs : List Value}, (∀ k, fp k → fp' k) → Rep Z w t m x fp cs → Rep Z w t m x fp' cs
  | .bool, _, _, _, _, _, _, h | .int _, _, _, _, _, _, _, h | .str, _, _, _, _, _, _, h | .unit, _, _, _, _, _, _, h => h
  | .pair _ _, _, _, _, _, _, hf, ⟨c1, c2, f1, f2, e, r, i, a, b, d⟩ => ⟨c1, c2, f1, f2, e, r, i, fun k hk => hf k (a k hk), fun k hk => hf k (b k hk), d⟩
  | .arr _ _, _, _, _, _, _, hf, ⟨h, i⟩ => ⟨h, Inline.mono (fun _ _ _ h => h) hf i⟩
  | .sl _, .ow _, _, _, _, _, hf, ⟨A, cap, e, h⟩ => ⟨A, cap, e, h.imp id fun ⟨b, o, c, e, h1, h2, h3, h4, h5, fps, css, h6, h7⟩ => ⟨b, o, c, e, h1, hf _ h2, h3, h4, h5, fps, css, fun i x hx => let ⟨a1, a2, a3, a4⟩ := h6 i x hx; ⟨a1, a2, a3, fun k hk => ⟨hf _ (a4 k hk).1, (a4 k hk).2⟩⟩, h7⟩⟩
  | .sl _, .im, _, _, _, _, _, h | .sl _, .pr _ _, _, _, _, _, _, h => h
  | .mp _ _, .ow _, _, _, _, _, hf, h => h.imp id fun ⟨b, es, n, l, hl, h1, h2, h3, f, h4, h5⟩ => ⟨b, es, n, l, hl, h1, hf _ h2, h3, f, fun k hk => ⟨hf _ (h4 k hk).1, (h4 k hk).2⟩, h5⟩
  | .mp _ _, .im, _, _, _, _, _, h | .mp _ _, .pr _ _, _, _, _, _, _, h | .ex _ _ _, _, _, _, _, _, _, h => h

theorem Elems.keep {α : Type} {R R' : α → Bs → List Value → Prop} {sz : Nat} {w w' : World} {b o : Nat} {xs : List α} {fp : Bs} (hb : w'.heap[b]? = w.heap[b]?) (h : ∀ x f c, (∀ k, f k → fp k) → R x f c → R' x f c) :
    Elems R sz w b o xs fp → Elems R' sz w' b o xs fp :=
  fun ⟨fps, css, h6, h7⟩ => ⟨fps, css, fun i x hx => let ⟨a1, a2, a3, a4⟩ := h6 i x hx; ⟨h _ _ _ (fun k hk => (a4 k hk).1) a1, a2, fun j hj => by rw [← a3 j hj]; exact World.cell?_of_block (a := ⟨b, _, none⟩) hb, a4⟩, h7⟩
theorem RepT.keep {A B : Type} {Ra Ra' : A → List Value → Prop} {Rb Rb' : B → List Value → Prop} {Z Z' : Bs} {w w' : World} {sz : Nat} (hZ : ∀ b, Z b → Z' b ∧ w'.heap[b]? = w.heap[b]?) (ha : ∀ x c, Ra x c → Ra' x c) (hb : ∀ x c, Rb x c → Rb' x c) :
    ∀ {n : Nat} {x : Rose (A × B)} {cs : List Value}, RepT Ra Rb Z w sz n x cs → RepT Ra' Rb' Z' w' sz n x cs
  | 0, _, _, h => h
  | n + 1, x, cs, ⟨c1, S, c3, cap, e, h1, h2, h3, h4⟩ => ⟨c1, S, c3, cap, e, ha _ _ h1, hb _ _ h2, h3, h4.imp id fun ⟨b, o, h5, h6, h7⟩ => ⟨b, o, h5, (hZ b h6).1, Elems.keep (hZ b h6).2 (fun y f c _ hr => RepT.keep hZ ha hb hr) h7⟩⟩
theorem RepX.keep {A B : Type} {Ra Ra' : A → List Value → Prop} {Rb Rb' : B → List Value → Prop} {va vb : List Value → Value} {Z Z' : Bs} {w w' : World} {sz : Nat} (hZ : ∀ b, Z b → Z' b ∧ w'.heap[b]? = w.heap[b]?) (ha : ∀ x c, Ra x c → Ra' x c) (hb : ∀ x c, Rb x c → Rb' x c) :
    ∀ {k : XK} {x : k.den A B} {cs : List Value}, RepX Ra Rb va vb Z w sz k x cs → RepX Ra' Rb' va vb Z' w' sz k x cs
  | .tree, _, _, ⟨n, h⟩ => ⟨n, h.keep hZ ha hb⟩
  | .ptr, _, _, h => h.imp id fun ⟨v, b, o, ks, e, e2, h1, h2, h3⟩ => ⟨v, b, o, ks, e, e2, fun j hj => by rw [← h1 j hj]; exact World.cell?_of_block (a := ⟨b, _, none⟩) (hZ b h2).2, (hZ b h2).1, ha _ _ h3⟩
  | .ifc _ _, _, _, h => h.imp id fun h => h.imp (fun ⟨v, ks, e, e2, h⟩ => ⟨v, ks, e, e2, ha _ _ h⟩) (fun ⟨v, ks, e, e2, h⟩ => ⟨v, ks, e, e2, hb _ _ h⟩)
theorem RepX.len {A B : Type} {Ra : A → List Value → Prop} {Rb : B → List Value → Prop} {va vb : List Value → Value} {Z : Bs} {w : World} {na nb : Nat} (ha : ∀ x c, Ra x c → c.length = na) (hb : ∀ x c, Rb x c → c.length = nb) :
    ∀ {k : XK} {x : k.den A B} {cs : List Value}, RepX Ra Rb va vb Z w (na + (1 + nb)) k x cs → cs.length = (match k with | .tree => na + (1 + nb) | _ => 1)
  | .tree, _, _, ⟨0, h⟩ => h.elim
  | .tree, _, _, ⟨n + 1, c1, S, c3, cap, e, h1, h2, _⟩ => by rw [e, List.length_append, List.length_cons, ha _ _ h1, hb _ _ h2, Nat.add_comm 1 nb]
  | .ptr, _, _, h => by rcases h with ⟨_, e⟩ | ⟨_, _, _, _, _, e, _⟩ <;> rw [e] <;> rfl
  | .ifc _ _, _, _, h => by rcases h with ⟨_, e⟩ | ⟨_, _, _, e, _⟩ | ⟨_, _, _, e, _⟩ <;> rw [e] <;> rfl
/-- A value lies as it lay if its blocks and the shared ones are as they were. -/
theorem Rep.keep {Z Z' : Bs} {w w' : World} (hZ : ∀ b, Z b → Z' b ∧ w'.heap[b]? = w.heap[b]?) : ∀ {t : Ty} {m : Mk} {x : t.den} {fp : Bs} {cs : List Value},
    (∀ b, fp b → w'.heap[b]? = w.heap[b]?) → Rep Z w t m x fp cs → Rep Z' w' t m x fp cs
  | .bool, _, _, _, _, _, h | .int _, _, _, _, _, _, h | .str, _, _, _, _, _, h | .unit, _, _, _, _, _, h => h
  | .pair _ _, _, _, _, _, hf, ⟨c1, c2, f1, f2, e, r, i, a, b, d⟩ => ⟨c1, c2, f1, f2, e, Rep.keep hZ (fun k hk => hf k (a k hk)) r, Rep.keep hZ (fun k hk => hf k (b k hk)) i, a, b, d⟩
  | .arr _ t, m, _, fp, _, hf, ⟨h, i⟩ => ⟨h, Inline.keep (fun x f c hk hr => Rep.keep (t := t) hZ (fun k hk' => hf k (hk k hk')) hr) i⟩
  | .sl t, .ow m, _, fp, _, hf, ⟨A, cap, e, h⟩ => ⟨A, cap, e, h.imp id fun ⟨b, o, c, e, h1, h2, h3, h4, h5, h6⟩ => ⟨b, o, c, e, h1, h2, (hf b h2).trans h3, h4, h5, Elems.keep (hf b h2) (fun x f c hk hr => Rep.keep (t := t) hZ (fun k hk' => hf k (hk k hk')) hr) h6⟩⟩
  | .sl t, .im, _, _, _, _, ⟨A, cap, e, hc, h⟩ | .sl t, .pr _ _, _, _, _, _, ⟨A, cap, e, hc, h⟩ => ⟨A, cap, e, hc, h.imp id fun ⟨b, o, h1, h2, h3⟩ => ⟨b, o, h1, (hZ b h2).1, Elems.keep (hZ b h2).2 (fun x f c hk hr => Rep.keep (t := t) hZ (fun k hk' => (hk k hk').elim) hr) h3⟩⟩
  | .mp k v, .ow m, _, fp, _, hf, h => h.imp id fun ⟨b, es, n, l, hl, h1, h2, h3, f, h4, h5⟩ => ⟨b, es, n, l, hl, h1, h2, (hf b h2).trans h3, f, h4,
      Entries.keep (fun x c hr => Rep.keep (t := k) hZ (fun k hk' => hk'.elim) hr) (fun x f' c hk hr => Rep.keep (t := v) hZ (fun k hk' => hf k (h4 k (hk k hk')).1) hr) h5⟩
  | .mp k v, .im, _, _, _, _, h | .mp k v, .pr _ _, _, _, _, _, h => h.imp id fun ⟨b, es, n, l, hl, h1, h2, h3, h5⟩ => ⟨b, es, n, l, hl, h1, (hZ b h2).1, (hZ b h2).2.trans h3,
      Entries.keep (fun x c hr => Rep.keep (t := k) hZ (fun k hk' => hk'.elim) hr) (fun x f' c hk hr => Rep.keep (t := v) hZ (fun k hk' => (hk k hk').elim) hr) h5⟩
  | .ex k a b, _, _, _, _, _, h => RepX.keep hZ (fun x c hr => Rep.keep (t := a) hZ (fun k hk' => hk'.elim) hr) (fun x c hr => Rep.keep (t := b) hZ (fun k hk' => hk'.elim) hr) h

theorem Inline.len {α : Type} {R : α → Bs → List Value → Prop} {n : Nat} (h : ∀ x f c, R x f c → c.length = n) : ∀ {xs : List α} {fp : Bs} {cs : List Value}, Inline R xs fp cs → cs.length = xs.length * n
  | [], _, _, h0 => by rw [show _ = [] from h0]; simp
  | _ :: xs, _, _, ⟨c1, c2, f1, f2, e, r, i, _, _, _⟩ => by rw [e, List.length_append, h _ _ _ r, Inline.len h i, List.length_cons, Nat.succ_mul]; omega
theorem Rep.len {Z : Bs} {w : World} : ∀ {t : Ty} {m : Mk} {x : t.den} {fp : Bs} {cs : List Value}, Rep Z w t m x fp cs → cs.length = t.size
  | .bool, _, _, _, _, h | .int _, _, _, _, _, h | .str, _, _, _, _, h | .unit, _, _, _, _, h => by rw [show _ = _ from h]; rfl
  | .pair _ _, _, _, _, _, ⟨c1, c2, f1, f2, e, r, i, _⟩ => by rw [e, List.length_append, r.len, i.len]; rfl
  | .arr _ t, _, _, _, _, ⟨h, i⟩ => by rw [Inline.len (fun x f c hr => Rep.len (t := t) hr) i, h]; rfl
  | .sl _, .ow _, _, _, _, ⟨A, cap, e, h⟩ => by rw [e]; rfl
  | .sl _, .im, _, _, _, ⟨A, cap, e, h⟩ | .sl _, .pr _ _, _, _, _, ⟨A, cap, e, h⟩ => by rw [e]; rfl
  | .mp _ _, .ow _, _, _, _, h => by rcases h with ⟨_, e⟩ | ⟨b, es, n, l, hl, e, _⟩ <;> rw [e] <;> rfl
  | .mp _ _, .im, _, _, _, h | .mp _ _, .pr _ _, _, _, _, h => by rcases h with ⟨_, e⟩ | ⟨b, es, n, l, hl, e, _⟩ <;> rw [e] <;> rfl
  | .ex k a b, _, _, _, _, h => (RepX.len (k := k) (fun x c hr => Rep.len (t := a) hr) (fun x c hr => Rep.len (t := b) hr) h).trans (by cases k <;> rfl)

/-! ### Trees laid open -/
def isChain : Ty → Bool
  | .pair _ b => isChain b
  | .unit => true
  | _ => false
def ins : Ty → Ty → Ty
  | .pair a b, r => .pair a (ins b r)
  | _, r => r
def insV : (a : Ty) → {r : Ty} → a.den → r.den → (ins a r).den
  | .pair _ b, _, x, y => (x.1, insV b x.2 y)
  | .unit, _, _, y | .bool, _, _, y | .int _, _, _, y | .str, _, _, y | .arr _ _, _, _, y | .sl _, _, _, y | .mp _ _, _, _, y | .ex _ _ _, _, _, y => y
def outV : (a : Ty) → {r : Ty} → (ins a r).den → a.den × r.den
  | .pair _ b, _, x => ((x.1, (outV b x.2).1), (outV b x.2).2)
  | .unit, _, y => ((), y)
  | .bool, _, y => (false, y)
  | .int k, _, y => ((Ty.int k).zero, y)
  | .str, _, y => (ByteArray.empty, y)
  | .arr n t, _, y => ((Ty.arr n t).zero, y)
  | .sl _, _, y => ([], y)
  | .mp _ _, _, y => (none, y)
  | .ex k a b, _, y => ((Ty.ex k a b).zero, y)
def unTy : Ty → Ty
  | .ex .tree a b => ins a (.pair (.sl (.ex .tree a b)) b)
  | t => t
def unV (a b : Ty) (x : (Ty.ex .tree a b).den) : (unTy (.ex .tree a b)).den := insV a (r := .pair (.sl (.ex .tree a b)) b) (Rose.val x).1 (Rose.kids x, (Rose.val x).2)
def foV (a b : Ty) (y : (unTy (.ex .tree a b)).den) : (Ty.ex .tree a b).den :=
  Rose.node ((outV a (r := .pair (.sl (.ex .tree a b)) b) y).1, (outV a (r := .pair (.sl (.ex .tree a b)) b) y).2.2) (outV a (r := .pair (.sl (.ex .tree a b)) b) y).2.1
theorem ins_cells : ∀ {a : Ty} (r : Ty), isChain a = true → (ins a r).zcells = a.zcells ++ r.zcells ∧ (ins a r).size = a.size + r.size
  | .pair x b, r, h => by
    obtain ⟨h1, h2⟩ := ins_cells (a := b) r h
    exact ⟨by simp only [ins, Ty.zcells, h1, List.append_assoc], by simp only [ins, Ty.size, h2, Nat.add_assoc]⟩
  | .unit, r, _ => ⟨by simp [ins, Ty.zcells], by simp [ins, Ty.size]⟩
  | .bool, _, h | .int _, _, h | .str, _, h | .arr _ _, _, h | .sl _, _, h | .mp _ _, _, h | .ex _ _ _, _, h => by cases h
theorem un_cells {a b : Ty} (h : isChain a = true) : (unTy (.ex .tree a b)).zcells = (Ty.ex .tree a b).zcells ∧ (unTy (.ex .tree a b)).size = (Ty.ex .tree a b).size ∧ (unTy (.ex .tree a b)).agg = true := by
  obtain ⟨h1, h2⟩ := ins_cells (.pair (.sl (.ex .tree a b)) b) h
  exact ⟨h1, h2, by cases a <;> first | rfl | cases h⟩
theorem rep_ins {Z : Bs} {w : World} : ∀ {a r : Ty}, isChain a = true → ∀ {v : a.den} {y : r.den} {cs : List Value}, Rep Z w (ins a r) .im (insV a v y) none_ cs ↔ ∃ c1 c2, cs = c1 ++ c2 ∧ Rep Z w a .im v none_ c1 ∧ Rep Z w r .im y none_ c2
  | .pair x b, r, h, v, y, cs => by
    have ih := fun {cs} => rep_ins (Z := Z) (w := w) (a := b) (r := r) h (v := v.2) (y := y) (cs := cs)
    constructor
    · rintro ⟨c1, c2, f1, f2, e, r1, r2, s1, s2, _⟩
      obtain ⟨c3, c4, e2, r3, r4⟩ := ih.1 (r2.mono (fun k hk => s2 k hk))
      exact ⟨c1 ++ c3, c4, by rw [e, e2, List.append_assoc], ⟨c1, c3, none_, none_, rfl, r1.mono (fun k hk => s1 k hk), r3, fun _ h => h, fun _ h => h, fun _ h => h.elim⟩, r4⟩
    · rintro ⟨c1, c2, e, ⟨c3, c4, f1, f2, e2, r1, r2, s1, s2, _⟩, r3⟩
      exact ⟨c3, c4 ++ c2, none_, none_, by rw [e, e2, List.append_assoc], r1.mono (fun k hk => s1 k hk), ih.2 ⟨c4, c2, rfl, r2.mono (fun k hk => s2 k hk), r3⟩, fun _ h => h, fun _ h => h, fun _ h => h.elim⟩
  | .unit, r, _, v, y, cs => ⟨fun h => ⟨[], cs, rfl, rfl, h⟩, fun ⟨c1, c2, e, h1, h2⟩ => by rw [e, show c1 = [] from h1]; exact h2⟩
  | .bool, _, h, _, _, _ | .int _, _, h, _, _, _ | .str, _, h, _, _, _ | .arr _ _, _, h, _, _, _ | .sl _, _, h, _, _, _ | .mp _ _, _, h, _, _, _ | .ex _ _ _, _, h, _, _, _ => by cases h
theorem ins_out : ∀ {a r : Ty}, isChain a = true → ∀ (y : (ins a r).den), insV a (outV a y).1 (outV a y).2 = y
  | .pair x b, r, h, y => by
    have := ins_out (a := b) (r := r) h y.2
    show (y.1, _) = y
    rw [show insV b (outV (.pair x b) y).1.2 (outV (.pair x b) y).2 = y.2 from this]
    rfl
  | .unit, _, _, _ => rfl
  | .bool, _, h, _ | .int _, _, h, _ | .str, _, h, _ | .arr _ _, _, h, _ | .sl _, _, h, _ | .mp _ _, _, h, _ | .ex _ _ _, _, h, _ => by cases h
theorem RepT.up {A B : Type} {Ra : A → List Value → Prop} {Rb : B → List Value → Prop} {Z : Bs} {w : World} {sz : Nat} : ∀ {n m : Nat} {x : Rose (A × B)} {cs : List Value}, n ≤ m → RepT Ra Rb Z w sz n x cs → RepT Ra Rb Z w sz m x cs
  | 0, _, _, _, _, h => h.elim
  | n + 1, 0, _, _, h, _ => absurd h (Nat.not_succ_le_zero _)
  | n + 1, m + 1, x, cs, hn, ⟨c1, S, c3, cap, e, h1, h2, h3, h4⟩ => ⟨c1, S, c3, cap, e, h1, h2, h3, h4.imp id fun ⟨b, o, h5, h6, h7⟩ => ⟨b, o, h5, h6, Elems.keep rfl (fun y f c _ hr => RepT.up (Nat.le_of_succ_le_succ hn) hr) h7⟩⟩
theorem un_rep {Z : Bs} {w : World} {a b : Ty} {m : Mk} {x : (Ty.ex .tree a b).den} {fp : Bs} {cs : List Value} (h : isChain a = true) (hr : Rep Z w (.ex .tree a b) m x fp cs) : Rep Z w (unTy (.ex .tree a b)) .im (unV a b x) none_ cs := by
  obtain ⟨n, hr⟩ := hr
  cases n with
  | zero => exact hr.elim
  | succ n =>
    obtain ⟨c1, S, c3, cap, e, h1, h2, h3, h4⟩ := hr
    refine (rep_ins h).2 ⟨c1, _, e, h1, [.slice S (Rose.kids x).length cap], c3, none_, none_, rfl, ⟨S, cap, rfl, h3, h4.imp id fun ⟨b', o, h5, h6, h7⟩ => ⟨b', o, h5, h6, ?_⟩⟩, h2, fun _ h => h, fun _ h => h, fun _ h => h.elim⟩
    exact Elems.keep rfl (fun y f c _ hr => ⟨n, hr⟩) h7
theorem fo_rep {Z : Bs} {w : World} {a b : Ty} {m : Mk} {y : (unTy (.ex .tree a b)).den} {fp : Bs} {cs : List Value} (h : isChain a = true) (hr : Rep Z w (unTy (.ex .tree a b)) .im y none_ cs) : Rep Z w (.ex .tree a b) m (foV a b y) fp cs := by
  rw [← ins_out (r := .pair (.sl (.ex .tree a b)) b) h y] at hr
  obtain ⟨c1, c2, e, r1, c3, c4, f1, f2, e2, ⟨S, cap, e3, h3, h4⟩, r4, _, s2, _⟩ := (rep_ins h).1 hr
  have key : ∃ n, (foV a b y).kids = [] ∨ ∃ b' o, S = some ⟨b', o, none⟩ ∧ Z b' ∧ Elems (fun y _ c => RepT (fun x c => Rep Z w a .im x none_ c) (fun x c => Rep Z w b .im x none_ c) Z w (a.size + (1 + b.size)) n y c) (a.size + (1 + b.size)) w b' o (foV a b y).kids none_ := by
    rcases h4 with h4 | ⟨b', o, h5, h6, fps, css, h7, h8⟩
    · exact ⟨0, .inl h4⟩
    · have bound : ∀ k, ∃ N, ∀ i x, i < k → (foV a b y).kids[i]? = some x → RepT (fun x c => Rep Z w a .im x none_ c) (fun x c => Rep Z w b .im x none_ c) Z w (a.size + (1 + b.size)) N x (css i) := by
        intro k
        induction k with
        | zero => exact ⟨0, fun i x hi => absurd hi (Nat.not_lt_zero _)⟩
        | succ k ih =>
          obtain ⟨N, hN⟩ := ih
          cases hx : (foV a b y).kids[k]? with
          | none => exact ⟨N, fun i x hi hi2 => by
              rcases Nat.lt_or_eq_of_le (Nat.le_of_lt_succ hi) with h | h
              · exact hN i x h hi2
              · rw [h, hx] at hi2; cases hi2⟩
          | some x =>
            obtain ⟨M, hM⟩ := (h7 k x hx).1
            refine ⟨max N M, fun i x' hi hi2 => ?_⟩
            rcases Nat.lt_or_eq_of_le (Nat.le_of_lt_succ hi) with h | h
            · exact (hN i x' h hi2).up (Nat.le_max_left _ _)
            · subst h
              rw [hx] at hi2; obtain rfl := Option.some.inj hi2
              exact hM.up (Nat.le_max_right _ _)
      obtain ⟨N, hN⟩ := bound (foV a b y).kids.length
      exact ⟨N, .inr ⟨b', o, h5, h6, fps, css, fun i x hx => ⟨hN i x (List.getElem?_eq_some_iff.1 hx).1 hx, (h7 i x hx).2⟩, h8⟩⟩
  obtain ⟨n, h4⟩ := key
  exact ⟨n + 1, c1, S, c4, cap, by rw [e, e2, e3]; rfl, r1, r4.mono (fun k hk => s2 k hk), h3, h4⟩
end Go.Proofs.Ytibphkgcdnconaa.V
