/- A small machine over typed values: what each operation does, told without memory. -/
import Derived.Test.YtibphkgcdnconaaVC
namespace Go.Proofs.Ytibphkgcdnconaa.V
open Go
set_option linter.unusedVariables false
set_option linter.all false
/-- What is known of a temporary. -/
inductive MV where
  | dead
  | val (t : Ty) (x : t.den)
  | nil
  | root (s hv : Nat)
  | view (s hv cv : Nat) (p : Option Path) (t : Ty) (x : t.den)
  | adr (s hv cv : Nat) (p : Option Path) (t : Ty) (x : t.den)
  | iadr (t : Ty) (x : t.den)
  | pend (s hv cv : Nat) (p : Path) (t : Ty) (x : List t.den)
  | pr (a b : MV) | un
  | tc (a b : MV) | tn
  | fn (f : FuncId) (caps : MV)
  | ptr (s hv : Nat) (t : Ty)
  | icl (m : MV)
  | nv (t : Ty) (x : List t.den) (b : Bool)
structure SlotC where
  t : Ty
  m : Mk
  x : t.den
structure Slot where
  hv : Nat
  cv : Nat
  c : Option SlotC
structure St where
  tm : List MV
  sl : List Slot
/-- What a call is handed. -/
inductive Arg where
  | dyn (t : Ty) (x : t.den)
  | nil
  | iad (t : Ty) (x : t.den)
  | fn (f : FuncId) (caps : Arg)
  | icl (a : Arg)
  | tc (a b : Arg) | tn
  | mr (k : Nat) | mp (k : Nat) (t : Ty)
structure CallRes where
  α : Type
  run : Option α
  t : Ty
  m : Mk
  out : α → t.den
  io : α → List (Option SlotC)
structure Env where
  P : Program
  tt : TypeId → Option (Ty × Nat)
  Γ : FuncId → Arg → List SlotC → Option CallRes
  io : Nat := 0
structure OH where
  m : Mk := .im
  sl : List Nat := []
  fl : Nat := 0
  rd : List Nat := []
  wr : List Nat := []
  an : Nat := 0
  mu : List Nat := []
def St.get (st : St) (i : Nat) : MV := st.tm.getD i .dead
def St.look (st : St) (s : Nat) : Option Slot := st.sl[s]?

def constMV : Value → MV
  | .bool b => .val .bool b
  | .int k n => .val (.int k) n
  | .string s => .val .str s
  | .slice none 0 0 => .nil
  | .pointer none => .val (.ex .ptr .unit .unit) (none : Option Unit)
  | _ => .dead
def St.ev (st : St) : Operand → MV
  | .tmp t => st.get t
  | .const v => constMV v
  | .func f => .fn f .tn
  | .global _ => .dead
def MV.mkpr : MV → MV → MV
  | .val a x, .val b y => .val (.pair a b) (x, y)
  | a, b => .pr a b
def zeroMV : Ty → MV
  | .pair a b => (zeroMV a).mkpr (zeroMV b)
  | .sl _ => .nil
  | .mp _ _ => .dead
  | .unit => .val .unit ()
  | t => .val t t.zero
def headT (t : Ty) : (Ty.sl t).den → Option t.den := fun (x : List t.den) => match x with
  | v :: _ => some v
  | [] => none
/-- How a content may be used. -/
inductive Acc where
  | im | own (s hv cv : Nat) (p : Path) | ro (s hv cv : Nat)
def Mk.isOw : Mk → Bool
  | .ow _ => true
  | _ => false
structure Cont where
  t : Ty
  x : t.den
  a : Acc
/-- The slot, if what was noted of it still holds. -/
def lookH (look : Nat → Option Slot) (s hv : Nat) : Option (Nat × SlotC) :=
  match look s with
  | some ⟨h, cv, some c⟩ => bif Nat.beq h hv then some (cv, c) else none
  | _ => none
def lookC (look : Nat → Option Slot) (s hv cv : Nat) : Option SlotC :=
  match lookH look s hv with
  | some (v, c) => bif Nat.beq v cv then some c else none
  | none => none
def deref (look : Nat → Option Slot) : MV → MV
  | .ptr s hv t => match lookH look s hv with
    | some (cv, c) => if h : c.t = .sl t then (match headT t (h ▸ c.x) with
      | some v => .adr s hv cv (some [.el 0]) t v
      | none => .dead) else .dead
    | none => .dead
  | m => m
def cont (look : Nat → Option Slot) : MV → Option Cont
  | .val t x => some ⟨t, x, .im⟩
  | .root s hv => match lookH look s hv with
    | some (cv, c) => some ⟨c.t, c.x, bif c.m.isOw then .own s hv cv [] else .im⟩
    | none => none
  | .view s hv cv p t x => match lookC look s hv cv with
    | some c => some ⟨t, x, bif c.m.isOw then (match p with | some p => .own s hv cv p | none => .ro s hv cv) else .im⟩
    | none => none
  | _ => none
def Acc.adr (look : Nat → Option Slot) (a : Acc) (i : Nat) (t : Ty) (x : t.den) : MV :=
  match a with
  | .im => .iadr t x
  | .own s hv cv p => match lookC look s hv cv with
    | some c => match mkP c.t c.m p with
      | some (.ow _) => .adr s hv cv (some (p ++ [.el i])) t x
      | _ => .adr s hv cv none t x
    | none => .adr s hv cv none t x
  | .ro s hv cv => .adr s hv cv none t x
def idx {α : Type} (xs : List α) (i : Int) : Option α := if 0 ≤ i then xs[i.toNat]? else none
def chk {R : Type} (b : Bool) (k : Option R) : Option R := bif b then k else none
def fldP : Nat → Path
  | 0 => [.f1]
  | n + 1 => .f2 :: fldP n
def getFld : (t : Ty) → t.den → Nat → Option Dyn
  | .pair a _, x, 0 => some ⟨a, x.1⟩
  | .pair _ b, x, n + 1 => getFld b x.2 n
  | _, _, _ => none
def MV.getFld : MV → Nat → Option MV
  | .pr a _, 0 => some a
  | .pr _ b, n + 1 => b.getFld n
  | .val (.pair _ b) x, n + 1 => (MV.val b x.2).getFld n
  | .val (.pair a _) x, 0 => some (.val a x.1)
  | _, _ => none
def flds : Ty → List Ty
  | .pair a b => a :: flds b
  | _ => []
def tupP : List MV → MV
  | [] => .val .unit ()
  | a :: l => a.mkpr (tupP l)
abbrev Ups := List (Nat × Slot)
def Ups.look (u : Ups) (look : Nat → Option Slot) : Nat → Option Slot := fun s => match u.lookup s with | some S => some S | none => look s
def gone (S : Slot) : Slot := ⟨S.hv + 1, 0, none⟩
def frozen_ (S : Slot) : Slot := ⟨S.hv, S.cv, S.c.map fun c => ⟨c.t, .im, c.x⟩⟩
/-- A value is taken out of a temporary, to be put where the mark is m: owned parts are moved, parts that are to be shared are shared from now on. -/
def take (look : Nat → Option Slot) : (t : Ty) → Mk → MV → Option (t.den × Ups)
  | t, m, .val t' x => if h : t' = t then bif t.shared m || t.flat then some (h ▸ x, []) else none else none
  | .sl t, m, .nil => some ([], [])
  | .sl t, m, .root s hv => match look s with
    | some S => match lookH look s hv with
      | some (_, c) =>
        if h : c.t = .sl t then
          bif m.isOw then (if c.m = m then some ((h ▸ c.x : (Ty.sl t).den), [(s, gone S)]) else none)
          else some ((h ▸ c.x : (Ty.sl t).den), [(s, frozen_ S)])
        else none
      | none => none
    | none => none
  | .pair a b, m, .pr u v => match take look a m.l u with
    | some (x, us) => match take (us.look look) b m.r v with
      | some (y, vs) => some ((x, y), vs ++ us)
      | none => none
    | none => none
  | t, m, .view s hv cv p t' x => match look s with
    | some S => match lookC look s hv cv with
      | some c =>
        if h : t' = t then
          bif t.shared m then some (h ▸ x, [(s, frozen_ S)])
          else match p with
            | some [.el 0] => if c.t = .sl t ∧ c.m = .ow m then some (h ▸ x, [(s, gone S)]) else none
            | _ => none
        else none
      | none => none
    | none => none
  | _, _, _ => none

/-- A tree laid open. -/
def unMV : MV → MV
  | .val (.ex .tree a b) x => bif isChain a then .val (unTy (.ex .tree a b)) (unV a b x) else .val (.ex .tree a b) x
  | .iadr (.ex .tree a b) x => bif isChain a then .iadr (unTy (.ex .tree a b)) (unV a b x) else .iadr (.ex .tree a b) x
  | .adr s hv cv p (.ex .tree a b) x => bif isChain a then .adr s hv cv none (unTy (.ex .tree a b)) (unV a b x) else .adr s hv cv p (.ex .tree a b) x
  | .nv t x _ => .val (.sl t) x
  | m => m
/-- The same, a tree being put together of its parts. -/
def takeT (look : Nat → Option Slot) : (t : Ty) → MV → Option (t.den × Ups)
  | .ex .tree a b, mv => bif isChain a then (match take look (unTy (.ex .tree a b)) .im mv with
    | some (y, us) => some (foV a b y, us)
    | none => none) else none
  | _, _ => none
def takeX (look : Nat → Option Slot) (t : Ty) (m : Mk) (mv : MV) : Option (t.den × Ups) :=
  match take look t m mv with
  | some r => some r
  | none => match takeT look t mv with
    | some r => some r
    | none => take look t m (unMV mv)
/-- A tree put together. -/
def foMV (t : Ty) (mv : MV) : MV :=
  match t, mv with
  | .ex .tree a b, .val t' x => if h : t' = unTy (.ex .tree a b) then (bif isChain a then .val (.ex .tree a b) (foV a b (h ▸ x)) else .val t' x) else .val t' x
  | _, m => m
/-- A value that a call hands back: its owned slices get slots. -/
def resMV (look : Nat → Option Slot) : (t : Ty) → Mk → t.den → List Nat → Option (MV × Ups × List Nat)
  | .pair a b, m, x, ss => bif (Ty.pair a b).shared m || (Ty.pair a b).flat then some (.val (.pair a b) x, [], ss) else
    match resMV look a m.l x.1 ss with
    | some (u, us, ss') => match resMV (us.look look) b m.r x.2 ss' with
      | some (v, vs, ss'') => some (u.mkpr v, vs ++ us, ss'')
      | none => none
    | none => none
  | .sl t, .ow m, x, n :: ss => match look n with
    | some S => some (.root n (S.hv + 1), [(n, ⟨S.hv + 1, 0, some ⟨.sl t, .ow m, x⟩⟩)], ss)
    | none => none
  | .mp k v, .ow m, x, n :: ss => match look n with
    | some S => some (.root n (S.hv + 1), [(n, ⟨S.hv + 1, 0, some ⟨.mp k v, .ow m, x⟩⟩)], ss)
    | none => none
  | t, m, x, ss => bif t.shared m || t.flat then some (.val t x, [], ss) else none
/-- The results of a call, a chain of pairs, as the parts of a tuple. -/
def resTup (look : Nat → Option Slot) : (t : Ty) → Mk → t.den → List Nat → Option (MV × Ups)
  | .pair a b, m, x, ss => match resMV look a m.l x.1 ss with
    | some (u, us, ss') => match resTup (us.look look) b m.r x.2 ss' with
      | some (v, vs) => some (.tc u v, vs ++ us)
      | none => none
    | none => none
  | .unit, _, _, _ => some (.tn, [])
  | _, _, _, _ => none
def MV.isL : MV → Bool
  | .tc _ _ | .tn => true
  | _ => false
/-- The place of a slot among those that are handed over to be changed. -/
def posN : List Nat → Nat → Option Nat
  | [], _ => none
  | a :: l, s => bif Nat.beq a s then some 0 else (match posN l s with
    | some k => some (k + 1)
    | none => none)
def argOf (look : Nat → Option Slot) (mu : List Nat) : MV → Option (Arg × List Nat)
  | .val t x => some (.dyn t x, [])
  | .nil => some (.nil, [])
  | .iadr t x => some (.iad t x, [])
  | .root s hv => match posN mu s with
    | some k => (match lookH look s hv with
      | some _ => some (.mr k, [])
      | none => none)
    | none => match lookH look s hv with
      | some (_, c) => some (.dyn c.t c.x, [s])
      | none => none
  | .ptr s hv t => match posN mu s with
    | some k => (match lookH look s hv with
      | some _ => some (.mp k t, [])
      | none => none)
    | none => match lookH look s hv with
      | some (_, c) => if h : c.t = .sl t then (match headT t (h ▸ c.x) with
        | some v => some (.iad t v, [s])
        | none => none) else none
      | none => none
  | .view s hv cv _ t x => match lookC look s hv cv with
    | some c => some (.dyn t x, [s])
    | none => none
  | .adr s hv cv _ t x => match lookC look s hv cv with
    | some c => some (.iad t x, [s])
    | none => none
  | .pr a b => match argOf look mu a with
    | some (.dyn t x, ss) => match argOf look mu b with
      | some (.dyn t' y, ss') => some (.dyn (.pair t t') (x, y), ss ++ ss')
      | _ => none
    | _ => none
  | .un => some (.dyn .unit (), [])
  | .nv t x _ => some (.dyn (.sl t) x, [])
  | .fn f caps => bif caps.isL then (match argOf look mu caps with
    | some (a, ss) => some (.fn f a, ss)
    | none => none) else none
  | .icl m => bif m.isL then none else (match argOf look mu m with
    | some (a, ss) => some (.icl a, ss)
    | none => none)
  | .tc a b => bif !a.isL && b.isL then (match argOf look mu a with
    | some (x, ss) => match argOf look mu b with
      | some (y, ss') => some (.tc x y, ss ++ ss')
      | none => none
    | none => none) else none
  | .tn => some (.tn, [])
  | _ => none
def Arg.app : Arg → Arg → Arg
  | .tc a b, y => .tc a (b.app y)
  | _, y => y
def freezeAll (look : Nat → Option Slot) : List Nat → Ups
  | [] => []
  | s :: ss => match look s with
    | some S => (s, frozen_ S) :: freezeAll look ss
    | none => freezeAll look ss
def tups : List MV → MV
  | [] => .tn
  | a :: l => .tc a (tups l)
/-- What lies in the slots that are handed over to be changed. -/
def ioOf (look : Nat → Option Slot) : List Nat → Option (List SlotC)
  | [] => some []
  | s :: ss => match look s with
    | some ⟨_, _, some c⟩ => (match ioOf look ss with
      | some l => some (c :: l)
      | none => none)
    | _ => none
def ioNew (S : Slot) : Option SlotC → Slot
  | some c => ⟨S.hv, S.cv + 1, some c⟩
  | none => ⟨S.hv + 1, 0, none⟩
def ioUps (look : Nat → Option Slot) : List Nat → List (Option SlotC) → Option Ups
  | [], [] => some []
  | s :: ss, c :: l => match look s with
    | some S => (match ioUps look ss l with
      | some u => some ((s, ioNew S c) :: u)
      | none => none)
    | none => none
  | _, _ => none
def nodupB : List Nat → Bool
  | [] => true
  | a :: l => !l.elem a && nodupB l
def ioFree (l : List (Option SlotC)) : Bool := l.all fun k => match k with
  | some k => k.t.free k.m
  | none => true
def callK {R : Type} (E : Env) (look : Nat → Option Slot) (h : OH) (f : FuncId) (args : MV) (caps : MV) (K : MV → Ups → Option R) : Option R :=
  bif !caps.isL || !nodupB h.mu then none else
  match argOf look h.mu args with
  | some (a, ss) => match argOf look h.mu caps with
    | some (b, ss') => bif (ss ++ ss').any (fun s => h.mu.elem s) then none else
      match ioOf look h.mu with
      | some ios => match E.Γ f (a.app b) ios with
        | some c => c.run.bind fun r =>
          let fz := bif c.t.free c.m && ioFree (c.io r) then [] else freezeAll look (ss ++ ss')
          match ioUps (Ups.look fz look) h.mu (c.io r) with
          | some ws => match resTup (Ups.look ws (Ups.look fz look)) c.t c.m (c.out r) h.sl with
            | some (.tc v .tn, us) => K v (us ++ (ws ++ fz))
            | some (mv, us) => K mv (us ++ (ws ++ fz))
            | none => none
          | none => none
        | none => none
      | none => none
    | none => none
  | none => none
def tyB (E : Env) (tid : TypeId) (t : Ty) : Bool :=
  match E.tt tid with
  | some (t', _) => decide (t' = t)
  | none => false
/-- The type, a tree laid open or not. -/
def tyB2 (E : Env) (tid : TypeId) (t : Ty) : Bool :=
  match E.tt tid with
  | some (t', _) => decide (t' = t) || decide (unTy t' = t)
  | none => false
def intBin (op : BinOp) (k : IntKind) (x y : Int) : Option MV :=
  match op with
  | .add => some (.val (.int k) (k.wrap (x + y)))
  | .sub => some (.val (.int k) (k.wrap (x - y)))
  | .mul => some (.val (.int k) (k.wrap (x * y)))
  | .eql => some (.val .bool (decide (x = y)))
  | .neq => some (.val .bool (!decide (x = y)))
  | .lss => some (.val .bool (decide (x < y)))
  | .leq => some (.val .bool (decide (x ≤ y)))
  | .gtr => some (.val .bool (decide (y < x)))
  | .geq => some (.val .bool (decide (y ≤ x)))
  | .and => some (.val (.int k) (k.wrap (BitVec.ofInt k.bits x &&& BitVec.ofInt k.bits y).toNat))
  | .or => some (.val (.int k) (k.wrap (BitVec.ofInt k.bits x ||| BitVec.ofInt k.bits y).toNat))
  | .xor => some (.val (.int k) (k.wrap (BitVec.ofInt k.bits x ^^^ BitVec.ofInt k.bits y).toNat))
  | .andNot => some (.val (.int k) (k.wrap (BitVec.ofInt k.bits x &&& ~~~BitVec.ofInt k.bits y).toNat))
  | _ => none
def binK {R : Type} (E : Env) (xt : TypeId) (op : BinOp) (a b : MV) (K : MV → Ups → Option R) : Option R :=
  match a, b with
  | .val (.int k) x, .val (.int k') y =>
    match op with
    | .shl => bif decide (y < 0) then none else K (.val (.int k) (k.wrap (x * 2 ^ (min y.toNat k.bits)))) []
    | .shr => bif decide (y < 0) then none else K (.val (.int k) (x.fdiv (2 ^ (min y.toNat k.bits)))) []
    | .quo => if k = k' then (bif decide (y = 0) then none else K (.val (.int k) (k.wrap (x.tdiv y))) []) else none
    | .rem => if k = k' then (bif decide (y = 0) then none else K (.val (.int k) (x.tmod y)) []) else none
    | op => if k = k' then (match intBin op k x y with
      | some v => K v []
      | none => none) else none
  | .val .bool x, .val .bool y => bif tyB E xt .bool then (match op with
    | .eql => K (.val .bool (x == y)) []
    | .neq => K (.val .bool (!(x == y))) []
    | _ => none) else none
  | .val .str x, .val .str y => match op with
    | .eql => K (.val .bool (x.toList == y.toList)) []
    | .neq => K (.val .bool (!(x.toList == y.toList))) []
    | .add => chk (Nat.ble (x.size + y.size) 1152921504606846976) (K (.val .str (x ++ y)) [])
    | _ => none
  | _, _ => none
/-- Values of one size held against each other. -/
def eqV : (t : Ty) → t.den → t.den → Bool
  | .bool, x, y => x == y
  | .int _, x, y => decide (x = y)
  | .str, x, y => x.toList == y.toList
  | .unit, _, _ => true
  | .pair a b, x, y => eqV a x.1 y.1 && eqV b x.2 y.2
  | .arr _ t, xs, ys => (List.zip xs ys).all fun p => eqV t p.1 p.2
  | _, _, _ => false
def eqT (E : Env) : Nat → TypeId → Bool
  | 0, _ => false
  | n + 1, e => match E.tt e with
    | some (.bool, _) | some (.int _, _) | some (.str, _) => true
    | some (.pair _ _, _) | some (.unit, _) => (match E.P.underlying e with
      | some (.struct fs) => !E.P.stoodInHeld e && fs.toList.all (fun f => f.name != "_" && eqT E n f.type)
      | _ => false)
    | some (.arr _ _, _) => (match E.P.underlying e with
      | some (.array _ el) => eqT E n el
      | _ => false)
    | _ => false
def eqK {R : Type} (E : Env) (xt : TypeId) (op : BinOp) (a b : MV) (K : MV → Ups → Option R) : Option R :=
  match a, b with
  | .val (.pair a1 b1) x, .val t' y => bif (match E.tt xt with
      | some (t, _) => decide (t = .pair a1 b1)
      | none => false) && eqT E 100 xt && !E.P.eqGuardType E.P.depth xt then (if h : t' = .pair a1 b1 then (match op with
        | .eql => K (.val .bool (eqV (.pair a1 b1) x (h ▸ y))) []
        | .neq => K (.val .bool (!eqV (.pair a1 b1) x (h ▸ y))) []
        | _ => none) else none) else none
  | .val (.ex .ptr a1 b1) x, .val (.ex .ptr _ _) y => bif tyB E xt (.ex .ptr a1 b1) then (match y with
    | none => (match op with
      | .eql => K (.val .bool (Option.isNone x)) []
      | .neq => K (.val .bool (!Option.isNone x)) []
      | _ => none)
    | some _ => none) else none
  | a, b => binK E xt op a b K
def isNilC : Operand → Bool
  | .const (.slice none 0 0) => true
  | _ => false
def nilK {R : Type} (E : Env) (xt : TypeId) (op : BinOp) (a : MV) (K : MV → Ups → Option R) : Option R :=
  match a with
  | .nv t _ b => bif tyB E xt (.sl t) then (match op with
      | .eql => K (.val .bool b) []
      | .neq => K (.val .bool (!b)) []
      | _ => none) else none
  | _ => none
def setMany {α : Type} (l : List α) : List (Nat × α) → List α
  | [] => l
  | (i, v) :: r => setMany (l.set i v) r
def takeMany (t : Ty) (m : Mk) : (Nat → Option Slot) → List (Nat × MV) → Option (List (Nat × t.den) × Ups)
  | _, [] => some ([], [])
  | look, (i, v) :: r => match takeX look t m v with
    | some (x, us) => match takeMany t m (us.look look) r with
      | some (l, vs) => some ((i, x) :: l, vs ++ us)
      | none => none
    | none => none
/-- The elements that an append is handed, with what becomes of their slot. -/
def srcOf (look : Nat → Option Slot) (t : Ty) (m : Mk) (v : MV) : Option (List t.den × Ups) :=
  match v with
  | .nil => some ([], [])
  | v => match cont look v with
    | some ⟨.sl t', x, a⟩ =>
      if h : t' = t then
        bif t.flat then some (h ▸ x, [])
        else match a with
          | .im => bif t.shared m then some (h ▸ x, []) else none
          | .own s hv cv [] => match look s with
            | some S => match S.c with
              | some c => if c.m = .ow m then some (h ▸ x, [(s, gone S)]) else none
              | none => none
            | none => none
          | _ => none
      else none
    | _ => none
def lenB (n : Nat) : Bool := Nat.ble n 68719476736
def appendK {R : Type} (E : Env) (look : Nat → Option Slot) (h : OH) (tid : TypeId) (base src : MV) (K : MV → Ups → Option R) : Option R :=
  match E.tt tid with
  | some (.sl t, bytes) => match base with
    | .nil => match h.sl with
      | n :: _ => match look n with
        | some S => match srcOf look t h.m src with
          | some (ys, us) => bif us.any (fun u => Nat.beq u.1 n) then none else chk (lenB ys.length) (K (.root n (S.hv + 1)) ((n, ⟨S.hv + 1, 0, some ⟨.sl t, .ow h.m, ys⟩⟩) :: us))
          | none => none
        | none => none
      | [] => none
    | .root s hv => match lookH look s hv with
      | some (cv, ⟨.sl t', .ow m, x⟩) =>
        if e : t' = t then
          match srcOf look t m src with
          | some (ys, us) => bif us.any (fun u => Nat.beq u.1 s) then none else
            chk (lenB ((e ▸ x : List t.den).length + ys.length)) (K (.root s (hv + 1)) ((s, ⟨hv + 1, 0, some ⟨.sl t, .ow m, (e ▸ x : List t.den) ++ ys⟩⟩) :: us))
          | none => none
        else none
      | _ => none
    | .view s hv cv (some (p0 :: p1)) (.sl t') x => match lookC look s hv cv with
      | some c => let p := p0 :: p1; match c.m, mkP c.t c.m p with
        | .ow _, some (.ow m) =>
          if e : t' = t then
            match srcOf look t m src with
            | some (ys, us) => bif us.any (fun u => Nat.beq u.1 s) || !(t.flat || t.shared m) then none else
              chk (lenB ((e ▸ x : List t.den).length + ys.length)) (K (.pend s hv (cv + 1) p t ((e ▸ x : List t.den) ++ ys)) ((s, ⟨hv, cv + 1, some c⟩) :: us))
            | none => none
          else none
        | _, _ => none
      | none => none
    | _ => none
  | _ => none
def sameP : Path → Path → Bool
  | [], [] => true
  | .f1 :: p, .f1 :: q => sameP p q
  | .f2 :: p, .f2 :: q => sameP p q
  | .el i :: p, .el j :: q => Nat.beq i j && sameP p q
  | _, _ => false
def storeK {R : Type} (look : Nat → Option Slot) (ad v : MV) (K : MV → Ups → Option R) : Option R :=
  match ad with
  | .adr s hv cv (some p) t _ => match lookC look s hv cv with
    | some c => match c.m, mkP c.t c.m p with
      | .ow _, some m => match v with
        | .pend s' hv' cv' p' t' y =>
          bif Nat.beq s s' && Nat.beq hv hv' && Nat.beq cv cv' && decide (t = .sl t') then chk (sameP p p') (K .dead [(s, ⟨hv, cv + 1, some ⟨c.t, c.m, setP c.t c.x p ⟨.sl t', y⟩⟩⟩)]) else none
        | v => match takeX look t m v with
          | some (y, us) => bif us.any (fun u => Nat.beq u.1 s) then none else K .dead ((s, ⟨hv, cv + 1, some ⟨c.t, c.m, setP c.t c.x p ⟨t, y⟩⟩⟩) :: us)
          | none => none
      | _, _ => none
    | none => none
  | _ => none
def loadMV (look : Nat → Option Slot) : MV → Option MV
  | .iadr t x => some (.val t x)
  | .adr s hv cv p t x => match lookC look s hv cv with
    | some c =>
      bif t.flat || !c.m.isOw then some (.val t x) else
      match p with
      | some q => match mkP c.t c.m q with
        | some m => some (bif t.shared m then .val t x else .view s hv cv p t x)
        | none => none
      | none => some (.view s hv cv none t x)
    | none => none
  | _ => none
def MV.agg : MV → Bool
  | .val t _ | .view _ _ _ _ t _ => t.agg
  | .pr _ _ | .un => true
  | _ => false
def MV.sz : MV → Option Nat
  | .val t _ | .view _ _ _ _ t _ => some t.size
  | .nil | .root _ _ | .adr _ _ _ _ _ _ | .iadr _ _ | .pend _ _ _ _ _ _ | .fn _ _ => some 1
  | .pr a b => match a.sz, b.sz with
    | some n, some m => some (n + m)
    | _, _ => none
  | .un => some 0
  | _ => none
def fits : Ty → MV → Bool
  | .pair a b, .pr u v => (match u.sz with | some n => Nat.beq n a.size | none => false) && (u.agg == a.agg) && fits b v
  | .pair a b, .val (.pair a' b') x => decide (a' = a) && decide (b' = b)
  | .unit, .un => true
  | .unit, .val .unit _ => true
  | _, _ => false
def newSlot {R : Type} (look : Nat → Option Slot) (h : OH) (c : SlotC) (us : Ups) (mk : Nat → Nat → MV) (K : MV → Ups → Option R) : Option R :=
  match h.sl with
  | n :: _ => match look n with
    | some S => bif us.any (fun u => Nat.beq u.1 n) then none else K (mk n (S.hv + 1)) ((n, ⟨S.hv + 1, 0, some c⟩) :: us)
    | none => none
  | [] => none
def fnB (P : Program) (e : TypeId) : Bool :=
  match P.underlying e with
  | some (.func _ _ _) => true
  | _ => false
/-- Types of one cell that are no aggregates. -/
def clB (P : Program) (e : TypeId) : Bool :=
  (match P.underlying e with
  | some (.func _ _ _) | some (.pointer _) | some (.slice _) | some (.map _ _) => true
  | _ => false) && (match P.info? e with
  | some i => Nat.beq i.size 1
  | none => false)
def opCore {R : Type} (E : Env) (ρ : Operand → MV) (look : Nat → Option Slot) (o : Oper) (h : OH) (K : MV → Ups → Option R) : Option R :=
  match o.op with
  | .move x => K (ρ x) []
  | .assign x => match h.sl, ρ x with
    | n :: _, .nil => match E.tt o.type with
      | some (.sl t, _) => newSlot look h ⟨.sl t, .ow h.m, []⟩ [] .root K
      | _ => none
    | _, v => K v []
  | .pick c a b => match ρ c with
    | .val .bool v => match ρ a, ρ b with
      | .val .bool x, .val .bool y => K (.val .bool (bif v then x else y)) []
      | x, y => bif v then K x [] else K y []
    | _ => none
  | .binOp op xt x y _ => bif isNilC y then nilK E xt op (ρ x) K else eqK E xt op (ρ x) (ρ y) K
  | .unOp op _ x => match op, ρ x with
    | .not, .val .bool b => K (.val .bool (!b)) []
    | .neg, .val (.int k) n => K (.val (.int k) (k.wrap (0 - n))) []
    | _, _ => none
  | .convert s d x => match E.tt s, E.tt d, ρ x with
    | some (.int _, _), some (.int k, _), .val (.int k') n => K (.val (.int k) (k.wrap n)) []
    | _, _, _ => none
  | .extract x i => match ρ x with
    | .tc a (.tc b (.tc c _)) => match i with
      | 0 => K a []
      | 1 => K b []
      | 2 => K c []
      | _ => none
    | .tc a (.tc b .tn) => match i with
      | 0 => K a []
      | 1 => K b []
      | _ => none
    | _ => none
  | .nilCheck x => match ρ x with
    | .adr s hv cv p t v => bif (lookC look s hv cv).isSome then K (.adr s hv cv p t v) [] else none
    | .iadr t v => K (.iadr t v) []
    | .val (.ex .ptr t _) v => Option.bind v fun v => K (.iadr t v) []
    | _ => none
  | .alloc e => match E.tt e with
    | some (t, _) => newSlot look h ⟨.sl (unTy t), .ow h.m, [(unTy t).zero]⟩ [] (fun n hv => .adr n hv 0 (some [.el 0]) (unTy t) (unTy t).zero) K
    | none => none
  | .box e x => match E.tt e with
    | some (t, _) => match takeX look (unTy t) h.m (unMV (ρ x)) with
      | some (v, us) => newSlot look h ⟨.sl (unTy t), .ow h.m, [v]⟩ us (fun n hv => .adr n hv 0 (some [.el 0]) (unTy t) v) K
      | none => none
    | none => none
  | .build e parts => match E.tt e with
    | some (t, _) => match unTy t with
      | .pair a b =>
        bif isChain b && (parts.toList.all fun p => match (a :: flds b)[p.1]?, (ρ p.2).sz with
          | some t, some n => Nat.beq n t.size
          | _, _ => false)
        then K (tupP (setMany ((a :: flds b).map zeroMV) (parts.toList.map fun p => (p.1, foMV ((a :: flds b).getD p.1 .unit) (ρ p.2))))) [] else none
      | _ => none
    | none => none
  | .buildSlice e n parts => match E.tt e with
    | some (.sl t, _) => match takeMany t h.m look (parts.toList.map fun p => (p.1, ρ p.2)) with
      | some (l, us) => chk (Nat.ble (n * t.size) 16777216 && l.all fun p => Nat.blt p.1 n) (newSlot look h ⟨.sl t, .ow h.m, setMany (List.replicate n t.zero) l⟩ us .root K)
      | none => none
    | _ => none
  | .makeSlice e l c => match E.tt e with
    | some (.sl t, bytes) => match ρ l, ρ c with
      | .val (.int _) n, .val (.int _) m => chk (decide (0 ≤ n)) (chk (decide (n ≤ m)) (chk (lenB m.toNat) ((newSlot look h ⟨.sl t, .ow h.m, List.replicate n.toNat t.zero⟩ [] .root K))))
      | _, _ => none
    | _ => none
  | .load e a => match ρ a with
    | .adr s hv cv p t v => bif tyB2 E e t then (match loadMV look (.adr s hv cv p t v) with
      | some v => K v []
      | none => none) else none
    | .iadr t v => bif tyB2 E e t then K (.val t v) [] else none
    | .icl m => bif clB E.P e then K m [] else none
    | _ => none
  | .store e a v => match ρ a with
    | .adr s hv cv p t x => bif tyB2 E e t then storeK look (.adr s hv cv p t x) (ρ v) K else none
    | _ => none
  | .fieldAddr e x i => match unMV (ρ x) with
    | .iadr t v => bif tyB2 E e t then (match getFld t v i with
      | some d => bif Nat.beq d.1.size 0 then none else K (.iadr d.1 d.2) []
      | none => none) else none
    | .adr s hv cv p t v => bif tyB2 E e t then (match getFld t v i with
      | some d => bif Nat.beq d.1.size 0 || (lookC look s hv cv).isNone then none else K (.adr s hv cv (p.map (· ++ fldP i)) d.1 d.2) []
      | none => none) else none
    | _ => none
  | .field e x i => match E.tt e with
    | some (t, _) => bif fits (unTy t) (unMV (ρ x)) then (match (unMV (ρ x)).getFld i with
      | some d => K d []
      | none => none) else none
    | none => none
  | .indexAddr e x i => match ρ i with
    | .val (.int _) n => match cont look (unMV (ρ x)) with
      | some ⟨.sl t, xs, a⟩ => bif tyB E e (.sl t) then ((idx xs n).bind fun v => K (a.adr look n.toNat t v) []) else none
      | _ => none
    | _ => none
  | .makeFunc fn first caps => match fn with
    | .func f => bif first.isEmpty then K (.fn f (tups (caps.toList.map ρ))) [] else none
    | _ => none
  | .call c => match c.callee with
    | .value f => match ρ f with
      | .fn g caps => callK E look h g (tups (c.args.toList.map ρ)) caps K
      | _ => none
    | .builtin .len => match c.args.toList, c.argTypes.toList with
      | [x], ty :: _ => match unMV (ρ x) with
        | .nil => match E.tt ty with
          | some (.sl _, _) => K (.val (.int .i64) (0 : Int)) []
          | _ => none
        | .val .str s => bif tyB E ty .str then K (.val (.int .i64) (s.size : Int)) [] else none
        | v => match cont look v with
          | some ⟨.sl t, xs, _⟩ => bif tyB E ty (.sl t) then K (.val (.int .i64) (xs.length : Int)) [] else none
          | _ => none
      | _, _ => none
    | .builtin .append => match c.args.toList, c.argTypes.toList with
      | [x, y], ty :: ty' :: _ => bif Nat.beq ty ty' then appendK E look h ty (ρ x) (unMV (ρ y)) K else none
      | _, _ => none
    | .builtin .min => match c.args.toList with
      | [x, y] => match ρ x, ρ y with
        | .val (.int k) a, .val (.int _) b => K (.val (.int k) (if b < a then b else a)) []
        | _, _ => none
      | _ => none
    | .builtin .max => match c.args.toList with
      | [x, y] => match ρ x, ρ y with
        | .val (.int k) a, .val (.int _) b => K (.val (.int k) (if b > a then b else a)) []
        | _, _ => none
      | _ => none
    | _ => none
  | _ => none
end Go.Proofs.Ytibphkgcdnconaa.V
