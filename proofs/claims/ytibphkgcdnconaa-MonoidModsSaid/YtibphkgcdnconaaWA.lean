/- The small machine runs code. -/
import Derived.Orders
import Derived.Test.YtibphkgcdnconaaVZ
namespace Go.Proofs.Ytibphkgcdnconaa.V
open Go
set_option linter.unusedVariables false
set_option linter.all false
/-- What is known of the temporaries and of the slots; slots from ns on are not there. -/
structure Sm where
  tm : Nat → MV
  look : Nat → Option Slot
  ns : Nat
  nt : Nat
def Sm.ev (st : Sm) : Operand → MV
  | .tmp t => st.tm t
  | .const v => constMV v
  | .func f => .fn f .tn
  | .global _ => .dead
def Sm.put (st : Sm) (d : Option Tmp) (mv : MV) : Sm :=
  match d with
  | some d => ⟨fun i => bif Nat.beq i d then (bif Nat.blt d st.nt then mv else .dead) else st.tm i, st.look, st.ns, st.nt⟩
  | none => st
/-- What may be told of a temporary at a join. -/
inductive MS where
  | val (t : Ty) | iadr (t : Ty) | nil | fn (f : FuncId) (c : MS) | icl (c : MS) | tc (a b : MS) | tn | root (s : Nat) | ptr (s : Nat) (t : Ty)
def MS.den : MS → Type
  | .val t | .iadr t => t.den
  | .fn _ c | .icl c => c.den
  | .tc a b => a.den × b.den
  | .nil | .tn | .root _ | .ptr _ _ => Unit
def MS.mk : (a : MS) → a.den → MV
  | .val t, x => .val t x
  | .iadr t, x => .iadr t x
  | .nil, _ => .nil
  | .fn f c, x => .fn f (c.mk x)
  | .icl c, x => .icl (c.mk x)
  | .tc a b, x => .tc (a.mk x.1) (b.mk x.2)
  | .tn, _ => .tn
  | .root s, _ => .root s 0
  | .ptr s t, _ => .ptr s 0 t
def MS.rd (look : Nat → Option Slot) : (a : MS) → MV → Option (a.den × Ups)
  | .val t, mv => takeX look t .im mv
  | .iadr t, mv => match deref look mv with
    | .iadr t' x => if h : t' = t then some (h ▸ x, []) else none
    | .adr s hv cv p t' x => match look s with
      | some S => match lookC look s hv cv with
        | some _ => if h : t' = t then some (h ▸ x, [(s, frozen_ S)]) else none
        | none => none
      | none => none
    | _ => none
  | .nil, .nil => some ((), [])
  | .fn f c, .fn f' k => bif Nat.beq f f' then c.rd look k else none
  | .icl c, .icl k => c.rd look k
  | .tc a b, .tc u v => match a.rd look u with
    | some (x, us) => match b.rd (us.look look) v with
      | some (y, vs) => some ((x, y), vs ++ us)
      | none => none
    | none => none
  | .tn, .tn => some ((), [])
  | .root s, .root s' hv => bif Nat.beq s s' && (lookH look s' hv).isSome then some ((), []) else none
  | .ptr s t, .ptr s' hv t' => bif Nat.beq s s' && decide (t' = t) && (lookH look s' hv).isSome then some ((), []) else none
  | _, _ => none
structure Shape where
  tm : List (Nat × MS)
  rt : List (Nat × Nat × Option Ty)
  sl : List (Nat × Bool × Ty × Mk)
def denS : List (Nat × Bool × Ty × Mk) → Type
  | [] => Unit
  | c :: l => c.2.2.1.den × denS l
/-- What lies in the slot: the value, or the value of a cell. -/
def mkC (b : Bool) (t : Ty) (m : Mk) (x : t.den) : SlotC := bif b then ⟨.sl t, .ow m, [x]⟩ else ⟨t, m, x⟩
def oneT (t : Ty) : (Ty.sl t).den → Option t.den := fun (x : List t.den) => match x with
  | [v] => some v
  | _ => none
def rdC (b : Bool) (t : Ty) (m : Mk) (k : SlotC) : Option t.den :=
  match b with
  | true => if h : k.t = .sl t then (bif decide (k.m = .ow m) then oneT t (h ▸ k.x) else none) else none
  | false => if h : k.t = t then (bif decide (k.m = m) then some (h ▸ k.x) else none) else none
def denT (S : Type) : List (Nat × MS) → Type
  | [] => S
  | c :: l => c.2.den × denT S l
abbrev Shape.den (sh : Shape) : Type := denT (denS sh.sl) sh.tm
def mkT {S : Type} : (l : List (Nat × MS)) → denT S l → (S → Nat → MV) → Nat → MV
  | [], d, k => k d
  | c :: l, d, k => fun i => bif Nat.beq i c.1 then c.2.mk d.1 else mkT l d.2 k i
def mkR : List (Nat × Nat × Option Ty) → Nat → MV
  | [] => fun _ => .dead
  | c :: l => fun i => bif Nat.beq i c.1 then (match c.2.2 with
    | none => .root c.2.1 0
    | some t => .ptr c.2.1 0 t) else mkR l i
def restT {S : Type} : (l : List (Nat × MS)) → denT S l → S
  | [], d => d
  | _ :: l, d => restT l d.2
def mkS (ns : Nat) : (l : List (Nat × Bool × Ty × Mk)) → denS l → Nat → Option Slot
  | [], _ => fun s => bif Nat.blt s ns then some ⟨0, 0, none⟩ else none
  | c :: l, d => fun s => bif Nat.beq s c.1 && Nat.blt s ns then some ⟨0, 0, some (mkC c.2.1 c.2.2.1 c.2.2.2 d.1)⟩ else mkS ns l d.2 s
def Shape.mk_ (ns nt : Nat) (sh : Shape) (d : sh.den) : Sm :=
  ⟨mkT sh.tm d fun _ => mkR sh.rt, mkS ns sh.sl (restT sh.tm d), ns, nt⟩
def rdS (look : Nat → Option Slot) : (l : List (Nat × Bool × Ty × Mk)) → Option (denS l)
  | [] => some ()
  | c :: l => match look c.1 with
    | some ⟨_, _, some k⟩ => match rdC c.2.1 c.2.2.1 c.2.2.2 k with
      | some x => match rdS look l with
        | some d => some (x, d)
        | none => none
      | none => none
    | _ => none
def rdR (look : Nat → Option Slot) (tm : Nat → MV) : List (Nat × Nat × Option Ty) → Bool
  | [] => true
  | c :: l => (match tm c.1, c.2.2 with
    | .root s hv, none => Nat.beq s c.2.1 && (lookH look s hv).isSome
    | .ptr s hv t, some t' => Nat.beq s c.2.1 && decide (t = t') && (lookH look s hv).isSome
    | _, _ => false) && rdR look tm l
/-- The slot is still the same. -/
def sameHv (look : Nat → Option Slot) (u : Nat × Slot) : Bool := match look u.1 with
  | some S => Nat.beq S.hv u.2.hv
  | none => false
def rdT {S : Type} (ns : Nat) (tm : Nat → MV) (k : (Nat → Option Slot) → Option S) : (l : List (Nat × MS)) → (Nat → Option Slot) → Option (denT S l)
  | [], look => k look
  | c :: l, look => match c.2.rd look (tm c.1) with
    | some (x, us) => bif us.all (fun u => Nat.blt u.1 ns && sameHv look u) then (match rdT ns tm k l (us.look look) with
      | some d => some (x, d)
      | none => none) else none
    | none => none
def Shape.rd (sh : Shape) (st : Sm) : Option sh.den :=
  rdT st.ns st.tm (fun look => bif rdR look st.tm sh.rt then rdS look sh.sl else none) sh.tm st.look
inductive Xk where
  | norm | ret | exit (id : Nat)
def Xk.to : Xk → Exit
  | .norm => .normal
  | .ret => .ret
  | .exit id => .exit id
def Xk.is : Xk → Exit → Bool
  | .norm, .normal => true
  | .ret, .ret => true
  | .exit i, .exit j => Nat.beq i j
  | _, _ => false
abbrev Outs := List (Xk × Shape)
def DenO : Outs → Type
  | [] => Empty
  | c :: l => c.2.den ⊕ DenO l
def finO : (l : Outs) → Exit → Sm → Option (DenO l)
  | [], _, _ => none
  | c :: l, e, st => bif c.1.is e then (match c.2.rd st with
    | some d => some (.inl d)
    | none => none) else (match finO l e st with
    | some d => some (.inr d)
    | none => none)
def nof {R : Type} : Empty → R := fun e => nomatch e
def elO {R : Type} (ns nt : Nat) (K : Exit → Sm → R) : (l : Outs) → DenO l → R
  | [] => nof
  | c :: l => Sum.elim (fun d => K c.1.to (c.2.mk_ ns nt d)) (elO ns nt K l)
/-- Rounds of a loop: at most n. -/
def iterN {D O : Type} (body : D → Option (D ⊕ O)) : Nat → D → Option O
  | 0, _ => none
  | n + 1, d => (body d).bind (Sum.elim (iterN body n) some)
inductive Hint where
  | leaf
  | reg (hs : List OH)
  | seq (a b : Hint) | cond (a b : Hint) | blk (a : Hint)
  | loop (lid : Nat)
  | join (outs : Outs) (a : Hint)
structure Spec where
  path : List Nat
  h : Hint
  inp : Shape
  outs : Outs
  body : inp.den → Option (inp.den ⊕ DenO outs)
def finL (s : Spec) (e : Exit) (st : Sm) : Option (s.inp.den ⊕ DenO s.outs) :=
  match e with
  | .normal => match s.inp.rd st with
    | some d => some (.inl d)
    | none => none
  | e => match finO s.outs e st with
    | some d => some (.inr d)
    | none => none
def sub (c : Code) : Nat → Option Code
  | 0 => match c with
    | .seq a _ | .cond _ a _ | .block _ a | .loop a => some a
    | _ => none
  | _ => match c with
    | .seq _ b | .cond _ _ b => some b
    | _ => none
def codeAt (root : Code) : List Nat → Option Code
  | [] => some root
  | i :: p => (codeAt root p).bind fun c => sub c i
def sameN : List Nat → List Nat → Bool
  | [], [] => true
  | a :: l, b :: k => Nat.beq a b && sameN l k
  | _, _ => false
def restr (rd : List Nat) (look : Nat → Option Slot) : Nat → Option Slot := fun s => bif rd.elem s then look s else none
/-- What is handed over to be changed keeps its place. -/
def okU (E : Env) (u : Nat × Slot) : Bool := Nat.ble E.io u.1 || Nat.beq u.2.hv 0
section
variable {R : Type}
def evRun (E : Env) (o : Oper) (h : OH) (st : Sm) (K : Sm → Option R) : Option R :=
  opW E st.ev st.look o h fun mv us => bif us.all (fun u => Nat.blt u.1 st.ns && okU E u) then K ((⟨st.tm, us.look st.look, st.ns, st.nt⟩ : Sm).put o.dst mv) else none
def evOp (E : Env) (ops : Array Oper) (o : Oper) (h : OH) (st : Sm) (K : Sm → Option R) : Option R :=
  match o.guard with
  | none => evRun E o h st K
  | some (j, want) => match (ops[j]?).bind (·.dst) with
    | some d => match st.tm d with
      | .val .bool v => bif v then (bif want then evRun E o h (st.put (some d) (.val .bool true)) K else K ((st.put (some d) (.val .bool true)).put o.dst .tn))
          else (bif want then K ((st.put (some d) (.val .bool false)).put o.dst .tn) else evRun E o h (st.put (some d) (.val .bool false)) K)
      | .tn => K (st.put o.dst .tn)
      | _ => none
    | none => none
def fnInfo (P : Program) (e : TypeId) : Bool :=
  match P.info? e with
  | some i => Nat.beq i.size 1 && (match i.zero with
    | some z => Nat.beq z.cells.size 1
    | none => false)
  | none => false
/-- A function put into a cell of its own, never to be changed: two operations. -/
def fnCell (E : Env) (o o2 : Oper) (st : Sm) : Option (Tmp × MV) :=
  match o.guard, o2.guard, o.dst, o2.dst with
  | none, none, some d, none => match o.op, o2.op with
    | .alloc e, .store e2 (.tmp a) (.tmp x) => bif Nat.beq a d && Nat.beq e e2 && !Nat.beq x d && Nat.blt d st.nt && fnB E.P e && fnInfo E.P e
      then (match st.tm x with
        | .fn f c => some (d, .icl (.fn f c))
        | _ => none) else none
    | _, _ => none
  | _, _, _, _ => none
def evOps (E : Env) (ops : Array Oper) : List Nat → List OH → Sm → (Sm → Option R) → Option R
  | [], _, st, K => K st
  | i :: is, hs, st, K => bif Nat.beq (hs.headD {}).fl 3 then (match is with
      | j :: is => match ops[i]?, ops[j]? with
        | some o, some o2 => match fnCell E o o2 st with
          | some (d, mv) => evOps E ops is hs.tail.tail (st.put (some d) mv) K
          | none => none
        | _, _ => none
      | [] => none)
    else match ops[i]? with
    | some o => evOp E ops o (hs.headD {}) st fun st' => evOps E ops is hs.tail st' K
    | none => none
/-! A region whose order is drawn: each operation is shown only what it may look at. -/
def MV.sees (P : Nat → Bool) : MV → Bool
  | .root s _ | .ptr s _ _ | .view s _ _ _ _ _ | .adr s _ _ _ _ _ | .pend s _ _ _ _ _ => P s
  | .pr a b | .tc a b => a.sees P && b.sees P
  | .fn _ c | .icl c => c.sees P
  | _ => true
def restrE (l : List Nat) (rd : List Nat) (st : Sm) : Operand → MV
  | .tmp t => bif l.elem t && (st.tm t).sees rd.elem then st.tm t else .dead
  | .const v => constMV v
  | .func f => .fn f .tn
  | .global _ => .dead
/-- Operations that hand on what is in temporaries, and look at no slot. -/
def mvOnly (o : Oper) (h : OH) : Bool :=
  match o.op, h.sl with
  | .move _, _ => true
  | .assign _, [] => true
  | .pick _ _ _, _ => true
  | .extract _ _, _ => true
  | _, _ => false
def restrT (l : List Nat) (st : Sm) : Operand → MV
  | .tmp t => bif l.elem t then st.tm t else .dead
  | .const v => constMV v
  | .func f => .fn f .tn
  | .global _ => .dead
def opD {R : Type} (E : Env) (ops : Array Oper) (o : Oper) (h : OH) (st : Sm) (K : MV → Ups → Option R) : Option R :=
  bif mvOnly o h then opW E (restrT (o.looksAt ops) st) (fun _ => none) o h K else opW E (restrE (o.looksAt ops) h.rd st) (restr h.rd st.look) o h K
def Sm.fix (st : Sm) (d : Nat) (mv : MV) : Sm := ⟨fun i => bif Nat.beq i d then mv else st.tm i, st.look, st.ns, st.nt⟩
def Sm.app (st : Sm) (d : Option Tmp) (mv : MV) (us : Ups) : Sm := (⟨st.tm, us.look st.look, st.ns, st.nt⟩ : Sm).put d mv
def evRunD (E : Env) (ops : Array Oper) (o : Oper) (h : OH) (st : Sm) (K : Sm → Option R) : Option R :=
  opD E ops o h st fun mv us => bif us.all (fun u => h.wr.elem u.1 && (Nat.blt u.1 st.ns && okU E u)) then K (st.app o.dst mv us) else none
def evOpD (E : Env) (ops : Array Oper) (o : Oper) (h : OH) (st : Sm) (K : Sm → Option R) : Option R :=
  match o.guard with
  | none => evRunD E ops o h st K
  | some (j, want) => match (ops[j]?).bind (·.dst) with
    | some d => match st.tm d with
      | .val .bool v => bif v then (bif want then evRunD E ops o h (st.fix d (.val .bool true)) K else K ((st.fix d (.val .bool true)).app o.dst .tn []))
          else (bif want then K ((st.fix d (.val .bool false)).app o.dst .tn []) else evRunD E ops o h (st.fix d (.val .bool false)) K)
      | .tn => K (st.app o.dst .tn [])
      | _ => none
    | none => none
def evOpsD (E : Env) (ops : Array Oper) (hs : List OH) : List Nat → Sm → (Sm → Option R) → Option R
  | [], st, K => K st
  | i :: is, st, K => match ops[i]? with
    | some o => evOpD E ops o (hs.getD i {}) st fun st' => evOpsD E ops hs is st' K
    | none => none
def disjN (l k : List Nat) : Bool := l.all fun x => !k.elem x
def indepB (ops : Array Oper) (oi : Oper) (hi : OH) (oj : Oper) (hj : OH) : Bool := oi.apart ops oj && disjN hi.wr hj.rd && disjN hj.wr hi.rd
def ancOf (hs : List OH) (o : Oper) : Nat := o.after.toList.foldl (fun s e => bif Region.binds .any e then s ||| 2 ^ e.on ||| (hs.getD e.on {}).an else s) 0
def drawOne (ops : Array Oper) (hs : List OH) (i : Nat) : Bool :=
  match ops[i]? with
  | some o => let h := hs.getD i {}
    h.wr.all (fun x => h.rd.elem x) && o.after.toList.all (fun e => !Region.binds .any e || Nat.blt e.on i) && Nat.beq h.an (ancOf hs o) &&
      (List.range i).all fun j => Nat.testBit h.an j || (match ops[j]? with
        | some o' => indepB ops o' (hs.getD j {}) o h
        | none => false)
  | none => false
def drawOK (P : Program) (ops : Array Oper) (hs : List OH) : Bool := P.follows .mixedOrders && (List.range ops.size).all (drawOne ops hs)
end
/-- Code, up to its exits. -/
def evC (E : Env) (L : List Spec) (n : Nat) : Hint → Code → List Nat → Sm → {R : Type} → (Exit → Sm → Option R) → Option R
  | .leaf, c, ps, st, _, K => match c with
    | .skip => K .normal st
    | .ret => K .ret st
    | .exit id => K (.exit id) st
    | _ => none
  | .reg hs, c, ps, st, _, K => match c with
    | .region id ops false => evOps E ops (List.range ops.size) hs st (K .normal)
    | .region id ops true => bif drawOK E.P ops hs then evOpsD E ops hs (List.range ops.size) st (K .normal) else none
    | _ => none
  | .seq h1 h2, c, ps, st, _, K => match c with
    | .seq a b => evC E L n h1 a (0 :: ps) st fun e st' => match e with
      | .normal => evC E L n h2 b (1 :: ps) st' K
      | e => K e st'
    | _ => none
  | .cond h1 h2, c, ps, st, _, K => match c with
    | .cond (.tmp t) a b => match st.tm t with
      | .val .bool v => bif v then evC E L n h1 a (0 :: ps) (st.put (some t) (.val .bool true)) K else evC E L n h2 b (1 :: ps) (st.put (some t) (.val .bool false)) K
      | _ => none
    | _ => none
  | .blk h, c, ps, st, _, K => match c with
    | .block id c => evC E L n h c (0 :: ps) st fun e st' => match e with
      | .exit i => bif Nat.beq i id then K .normal st' else K (.exit i) st'
      | e => K e st'
    | _ => none
  | .loop lid, c, ps, st, _, K => match c with
    | .loop c => match L[lid]? with
      | some s => bif sameN s.path (0 :: ps) then (match s.inp.rd st with
        | some d => (iterN s.body n d).bind (elO st.ns st.nt K s.outs)
        | none => none) else none
      | none => none
    | _ => none
  | .join outs h, c, ps, st, _, K => (evC E L n h c ps st (finO outs)).bind (elO st.ns st.nt K outs)
termination_by structural h => h
end Go.Proofs.Ytibphkgcdnconaa.V
