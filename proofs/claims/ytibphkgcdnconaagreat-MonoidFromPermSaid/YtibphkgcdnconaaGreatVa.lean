/- The machine over typed values,part 1. -/
import Derived.Orders
import Derived.Laws.World
import Derived.Below
import Derived.Laws.Sem
import Derived.Laws.CopyRow
import Derived.Laws.Entries
import Derived.Laws.Small
import Derived.Laws.Tables
namespace Go.Proofs.YtibphkgcdnconaaGreat.V
open Go
set_option linter.unusedVariables false
set_option linter.all false
inductive Rose (α:Type) where
 | node (a:α) (kids:List (Rose α))
def Rose.val {α:Type}:Rose α→α
 | .node a _=>a
def Rose.kids {α:Type}:Rose α→List (Rose α)
 | .node _ l=>l
inductive RAll {α:Type} (p:α→Nat→Prop):Rose α→Prop
 | mk {v:α} {ks:List (Rose α)}:p v ks.length→(∀ k∈ks,RAll p k)→RAll p (.node v ks)
inductive XK where
 | tree | ptr | ifc (i j:TypeId) | fn0 (f g:FuncId) | fn1 (f:FuncId) | cell
 deriving DecidableEq
abbrev XK.den:XK→Type→Type→Type
 | .tree,A,B=>Rose (A × B)
 | .ptr,A,_=>Option A
 | .ifc _ _,A,B=>Option (A ⊕ B)
 | .fn0 _ _,_,_=>Option Bool
 | .fn1 _,A,_=>Option A
 | .cell,A,_=>A
inductive Ty where
 | bool | int (k:IntKind) | str | unit
 | pair (a b:Ty)
 | arr (n:Nat) (t:Ty)
 | sl (t:Ty)
 | mp (k v:Ty)
 | ex (k:XK) (a b:Ty)
 deriving DecidableEq
abbrev Ty.den:Ty→Type
 | .bool=>Bool
 | .int _=>Int
 | .str=>ByteArray
 | .unit=>Unit
 | .pair a b=>a.den × b.den
 | .arr _ t=>List t.den
 | .sl t=>List t.den
 | .mp k v=>Option (List (k.den × v.den))
 | .ex k a b=>k.den a.den b.den
def Ty.size:Ty→Nat
 | .bool | .int _ | .str | .sl _ | .mp _ _=>1
 | .unit=>0
 | .pair a b=>a.size+b.size
 | .arr n t=>n*t.size
 | .ex .tree a b=>a.size+(1+b.size)
 | .ex _ _ _=>1
def Ty.agg:Ty→Bool
 | .unit | .pair _ _ | .arr _ _ | .ex .tree _ _=>true
 | _=>false
def Ty.zero:(t:Ty)→t.den
 | .bool=>false
 | .int _=>(0:Int)
 | .str=>ByteArray.empty
 | .unit=>()
 | .pair a b=>(a.zero,b.zero)
 | .arr n t=>List.replicate n t.zero
 | .sl _=>[]
 | .mp _ _=>none
 | .ex .tree a b=>.node (a.zero,b.zero) []
 | .ex .ptr _ _=>none
 | .ex (.ifc _ _) _ _=>none
 | .ex (.fn0 _ _) _ _=>none
 | .ex (.fn1 _) _ _=>none
 | .ex .cell a _=>a.zero
def Ty.zcells:Ty→List Value
 | .bool=>[.bool false]
 | .int k=>[.int k 0]
 | .str=>[.string ByteArray.empty]
 | .unit=>[]
 | .pair a b=>a.zcells++b.zcells
 | .arr n t=>(List.replicate n t.zcells).flatten
 | .sl _=>[.slice none 0 0]
 | .mp _ _=>[.map none]
 | .ex .tree a b=>a.zcells++(.slice none 0 0 :: b.zcells)
 | .ex .ptr _ _=>[.pointer none]
 | .ex (.ifc _ _) _ _=>[.nilIface]
 | .ex (.fn0 _ _) _ _=>[.nilFunc]
 | .ex (.fn1 _) _ _=>[.nilFunc]
 | .ex .cell _ _=>[.pointer none]
theorem Ty.zcells_len:∀ t:Ty,t.zcells.length=t.size
 | .bool | .int _ | .str | .unit | .sl _ | .mp _ _ | .ex .ptr _ _ | .ex (.ifc _ _) _ _ | .ex (.fn0 _ _) _ _ | .ex (.fn1 _) _ _ | .ex .cell _ _=>rfl
 | .ex .tree a b=>by simp [Ty.zcells,Ty.size,a.zcells_len,b.zcells_len]; omega
 | .pair a b=>by simp [Ty.zcells,Ty.size,a.zcells_len,b.zcells_len]
 | .arr n t=>by simp [Ty.zcells,Ty.size,t.zcells_len]
inductive Mk where
 | im
 | ow (m:Mk)
 | pr (a b:Mk)
 deriving DecidableEq
def Mk.l:Mk→Mk
 | .pr a _=>a
 | m=>m
def Mk.r:Mk→Mk
 | .pr _ b=>b
 | m=>m
def Ty.free:Ty→Mk→Bool
 | .bool,_ | .int _,_ | .str,_ | .unit,_=>true
 | .pair a b,m=>a.free m.l && b.free m.r
 | .arr _ t,m=>t.free m
 | .sl t,.ow m=>t.free m
 | .mp k v,.ow m=>k.free .im && v.free m
 | _,_=>false
def Ty.shared:Ty→Mk→Bool
 | .bool,_ | .int _,_ | .str,_ | .unit,_=>true
 | .pair a b,m=>a.shared m.l && b.shared m.r
 | .arr _ t,m=>t.shared m
 | .sl _,.im | .mp _ _,.im=>true
 | .ex _ _ _,_=>true
 | _,_=>false
def Ty.flat:Ty→Bool
 | .bool | .int _ | .str | .unit=>true
 | .pair a b=>a.flat && b.flat
 | .arr _ t=>t.flat
 | _=>false
abbrev Bs:=Nat→Prop
def none_:Bs:=fun _=>False
def Elems {α:Type} (R:α→Bs→List Value→Prop) (sz:Nat) (w:World) (b o:Nat) (xs:List α) (fp:Bs):Prop :=
 ∃ (fps:Nat→Bs) (css:Nat→List Value),
  (∀ i x,xs[i]?=some x→R x (fps i) (css i)∧(css i).length=sz∧(∀ j,j<sz→w.cell? ⟨b,o+i*sz+j,none⟩=(css i)[j]?)∧(∀ k,fps i k→fp k∧k≠b)) ∧
  ∀ i j k,fps i k→fps j k→i<xs.length→j<xs.length→i=j
def At_ (w:World) (b o:Nat) (cs:List Value):Prop:=∀ j,j<cs.length→w.cell? ⟨b,o+j,none⟩=cs[j]?
def Inline {α:Type} (R:α→Bs→List Value→Prop):List α→Bs→List Value→Prop
 | [],_,cs=>cs=[]
 | x :: xs,fp,cs=>∃ c1 c2 f1 f2,cs=c1++c2∧R x f1 c1∧Inline R xs f2 c2∧(∀ k,f1 k→fp k)∧(∀ k,f2 k→fp k)∧∀ k,f1 k→¬ f2 k
def Entries {α β:Type} (Rk:α→List Value→Prop) (Rv:β→Bs→List Value→Prop) (kv vv:List Value→Value):List (α × β)→List MapEntry→Bs→Prop
 | [],es,_=>es=[]
 | x :: xs,es,fp=>∃ e es' ck cv f1 f2,es=e :: es'∧e.key=kv ck∧e.val=vv cv∧Rk x.1 ck∧Rv x.2 f1 cv∧Entries Rk Rv kv vv xs es' f2∧(∀ k,f1 k→fp k)∧(∀ k,f2 k→fp k)∧∀ k,f1 k→¬ f2 k
def Ty.val (t:Ty) (cs:List Value):Value:=bif t.agg then .agg cs.toArray else cs.headD (.tuple #[])
def RepT {A B:Type} (Ra:A→List Value→Prop) (Rb:B→List Value→Prop) (Z:Bs) (w:World) (sz:Nat):Nat→Rose (A × B)→List Value→Prop
 | 0,_,_=>False
 | n+1,x,cs=>∃ c1 S c3 cap,cs=c1++(.slice S x.kids.length cap :: c3)∧Ra x.val.1 c1∧Rb x.val.2 c3∧x.kids.length≤cap ∧
  (x.kids=[]∨∃ b o,S=some ⟨b,o,none⟩∧Z b∧Elems (fun y _ c=>RepT Ra Rb Z w sz n y c) sz w b o x.kids none_)
def RepX {A B:Type} (Ra:A→List Value→Prop) (Rb:B→List Value→Prop) (va vb:List Value→Value) (Z:Bs) (w:World) (sz:Nat):(k:XK)→k.den A B→List Value→Prop
 | .tree,x,cs=>∃ n,RepT Ra Rb Z w sz n x cs
 | .ptr,x,cs=>(x=none∧cs=[.pointer none])∨∃ v b o ks,x=some v∧cs=[.pointer (some ⟨b,o,none⟩)]∧At_ w b o ks∧Z b∧Ra v ks
 | .ifc i j,x,cs=>(x=none∧cs=[.nilIface])∨(∃ v ks,x=some (.inl v)∧cs=[.iface i (va ks)]∧Ra v ks)∨∃ v ks,x=some (.inr v)∧cs=[.iface j (vb ks)]∧Rb v ks
 | .fn0 f g,x,cs=>(x=none∧cs=[.nilFunc])∨∃ v:Bool,x=some v∧cs=[.func (.func (bif v then g else f)) #[] #[]]
 | .fn1 f,x,cs=>(x=none∧cs=[.nilFunc])∨∃ v b o ks,x=some v∧cs=[.func (.func f) #[] #[.pointer (some ⟨b,o,none⟩)]]∧At_ w b o ks∧Z b∧Ra v ks
 | .cell,_,cs=>cs=[.pointer none]
def Rep (Z:Bs) (w:World):(t:Ty)→Mk→t.den→Bs→List Value→Prop
 | .bool,_,b,_,cs=>cs=[.bool b]
 | .int k,_,n,_,cs=>cs=[.int k n]
 | .str,_,s,_,cs=>cs=[.string s]
 | .unit,_,_,_,cs=>cs=[]
 | .pair a b,m,x,fp,cs=>∃ c1 c2 f1 f2,cs=c1++c2∧Rep Z w a m.l x.1 f1 c1∧Rep Z w b m.r x.2 f2 c2∧(∀ k,f1 k→fp k)∧(∀ k,f2 k→fp k)∧∀ k,f1 k→¬ f2 k
 | .arr n t,m,xs,fp,cs=>xs.length=n∧Inline (fun x f c=>Rep Z w t m x f c) xs fp cs
 | .sl t,.ow m,xs,fp,cs=>∃ A cap,cs=[.slice A xs.length cap] ∧
  ((xs=[]∧cap=0)∨∃ b o c e,A=some ⟨b,o,none⟩∧fp b∧w.heap[b]?=some (.cells c e (0,0))∧o+cap*t.size≤c.size∧xs.length≤cap ∧
   Elems (fun x f c=>Rep Z w t m x f c) t.size w b o xs fp)
 | .sl t,_,xs,_,cs=>∃ A cap,cs=[.slice A xs.length cap]∧xs.length≤cap ∧
  (xs=[]∨∃ b o,A=some ⟨b,o,none⟩∧Z b∧Elems (fun x f c=>Rep Z w t .im x f c) t.size w b o xs none_)
 | .mp k v,.ow m,xs,fp,cs=>(xs=none∧cs=[.map none])∨∃ b es n l,xs=some l∧cs=[.map (some b)]∧fp b∧w.heap[b]?=some (.map es n) ∧
  ∃ f,(∀ k,f k→fp k∧k≠b)∧Entries (fun x c=>Rep Z w k .im x none_ c) (fun x f c=>Rep Z w v m x f c) k.val v.val l es.toList f
 | .mp k v,_,xs,_,cs=>(xs=none∧cs=[.map none])∨∃ b es n l,xs=some l∧cs=[.map (some b)]∧Z b∧w.heap[b]?=some (.map es n) ∧
  Entries (fun x c=>Rep Z w k .im x none_ c) (fun x f c=>Rep Z w v .im x f c) k.val v.val l es.toList none_
 | .ex k a b,_,x,_,cs=>RepX (fun x c=>Rep Z w a .im x none_ c) (fun x c=>Rep Z w b .im x none_ c) a.val b.val Z w (a.size+(1+b.size)) k x cs
theorem Inline.mono {α:Type} {R R':α→Bs→List Value→Prop} (h:∀ x f c,R x f c→R' x f c):∀ {xs:List α} {fp fp':Bs} {cs:List Value},(∀ k,fp k→fp' k)→Inline R xs fp cs→Inline R' xs fp' cs
 | [],_,_,_,_,h0=>h0
 | _ :: xs,_,_,_,hf,⟨c1,c2,f1,f2,e,r,i,a,b,d⟩=>⟨c1,c2,f1,f2,e,h _ _ _ r,Inline.mono h (fun _ hk=>hk) i,fun k hk=>hf k (a k hk),fun k hk=>hf k (b k hk),d⟩
theorem Inline.keep {α:Type} {R R':α→Bs→List Value→Prop}:∀ {xs:List α} {fp:Bs} {cs:List Value},(∀ x f c,(∀ k,f k→fp k)→R x f c→R' x f c)→Inline R xs fp cs→Inline R' xs fp cs
 | [],_,_,_,h0=>h0
 | _ :: xs,fp,_,h,⟨c1,c2,f1,f2,e,r,i,a,b,d⟩=>⟨c1,c2,f1,f2,e,h _ _ _ a r,Inline.keep (fun x f c hf hr=>h x f c (fun k hk=>b k (hf k hk)) hr) i,a,b,d⟩
theorem Entries.keep {α β:Type} {Rk Rk':α→List Value→Prop} {Rv Rv':β→Bs→List Value→Prop} {kv vv:List Value→Value} (hk:∀ x c,Rk x c→Rk' x c) :
 ∀ {xs:List (α × β)} {es:List MapEntry} {fp:Bs},(∀ x f c,(∀ k,f k→fp k)→Rv x f c→Rv' x f c)→Entries Rk Rv kv vv xs es fp→Entries Rk' Rv' kv vv xs es fp
 | [],_,_,_,h0=>h0
 | _ :: xs,_,fp,h,⟨e,es',ck,cv,f1,f2,he,h1,h2,h3,h4,h5,a,b,d⟩ =>
  ⟨e,es',ck,cv,f1,f2,he,h1,h2,hk _ _ h3,h _ _ _ a h4,Entries.keep hk (fun x f c hf hr=>h x f c (fun k hk=>b k (hf k hk)) hr) h5,a,b,d⟩
theorem Entries.mono {α β:Type} {Rk:α→List Value→Prop} {Rv:β→Bs→List Value→Prop} {kv vv:List Value→Value} :
 ∀ {xs:List (α × β)} {es:List MapEntry} {fp fp':Bs},(∀ k,fp k→fp' k)→Entries Rk Rv kv vv xs es fp→Entries Rk Rv kv vv xs es fp'
 | [],_,_,_,_,h0=>h0
 | _ :: xs,_,_,_,hf,⟨e,es',ck,cv,f1,f2,he,h1,h2,h3,h4,h5,a,b,d⟩=>⟨e,es',ck,cv,f1,f2,he,h1,h2,h3,h4,h5,fun k hk=>hf k (a k hk),fun k hk=>hf k (b k hk),d⟩
theorem Rep.mono {Z:Bs} {w:World}:∀ {t:Ty} {m:Mk} {x:t.den} {fp fp':Bs} {cs:List Value},(∀ k,fp k→fp' k)→Rep Z w t m x fp cs→Rep Z w t m x fp' cs
 | .bool,_,_,_,_,_,_,h | .int _,_,_,_,_,_,_,h | .str,_,_,_,_,_,_,h | .unit,_,_,_,_,_,_,h=>h
 | .pair _ _,_,_,_,_,_,hf,⟨c1,c2,f1,f2,e,r,i,a,b,d⟩=>⟨c1,c2,f1,f2,e,r,i,fun k hk=>hf k (a k hk),fun k hk=>hf k (b k hk),d⟩
 | .arr _ _,_,_,_,_,_,hf,⟨h,i⟩=>⟨h,Inline.mono (fun _ _ _ h=>h) hf i⟩
 | .sl _,.ow _,_,_,_,_,hf,⟨A,cap,e,h⟩=>⟨A,cap,e,h.imp id fun ⟨b,o,c,e,h1,h2,h3,h4,h5,fps,css,h6,h7⟩=>⟨b,o,c,e,h1,hf _ h2,h3,h4,h5,fps,css,fun i x hx=>let ⟨a1,a2,a3,a4⟩:=h6 i x hx; ⟨a1,a2,a3,fun k hk=>⟨hf _ (a4 k hk).1,(a4 k hk).2⟩⟩,h7⟩⟩
 | .sl _,.im,_,_,_,_,_,h | .sl _,.pr _ _,_,_,_,_,_,h=>h
 | .mp _ _,.ow _,_,_,_,_,hf,h=>h.imp id fun ⟨b,es,n,l,hl,h1,h2,h3,f,h4,h5⟩=>⟨b,es,n,l,hl,h1,hf _ h2,h3,f,fun k hk=>⟨hf _ (h4 k hk).1,(h4 k hk).2⟩,h5⟩
 | .mp _ _,.im,_,_,_,_,_,h | .mp _ _,.pr _ _,_,_,_,_,_,h | .ex _ _ _,_,_,_,_,_,_,h=>h
theorem Elems.keep {α:Type} {R R':α→Bs→List Value→Prop} {sz:Nat} {w w':World} {b o:Nat} {xs:List α} {fp:Bs} (hb:w'.heap[b]?=w.heap[b]?) (h:∀ x f c,(∀ k,f k→fp k)→R x f c→R' x f c) :
 Elems R sz w b o xs fp→Elems R' sz w' b o xs fp :=
 fun ⟨fps,css,h6,h7⟩=>⟨fps,css,fun i x hx=>let ⟨a1,a2,a3,a4⟩:=h6 i x hx; ⟨h _ _ _ (fun k hk=>(a4 k hk).1) a1,a2,fun j hj=>by rw [← a3 j hj]; exact World.cell?_of_block (a:=⟨b,_,none⟩) hb,a4⟩,h7⟩
theorem RepT.keep {A B:Type} {Ra Ra':A→List Value→Prop} {Rb Rb':B→List Value→Prop} {Z Z':Bs} {w w':World} {sz:Nat} (hZ:∀ b,Z b→Z' b∧w'.heap[b]?=w.heap[b]?) (ha:∀ x c,Ra x c→Ra' x c) (hb:∀ x c,Rb x c→Rb' x c) :
 ∀ {n:Nat} {x:Rose (A × B)} {cs:List Value},RepT Ra Rb Z w sz n x cs→RepT Ra' Rb' Z' w' sz n x cs
 | 0,_,_,h=>h
 | n+1,x,cs,⟨c1,S,c3,cap,e,h1,h2,h3,h4⟩=>⟨c1,S,c3,cap,e,ha _ _ h1,hb _ _ h2,h3,h4.imp id fun ⟨b,o,h5,h6,h7⟩=>⟨b,o,h5,(hZ b h6).1,Elems.keep (hZ b h6).2 (fun y f c _ hr=>RepT.keep hZ ha hb hr) h7⟩⟩
theorem RepX.keep {A B:Type} {Ra Ra':A→List Value→Prop} {Rb Rb':B→List Value→Prop} {va vb:List Value→Value} {Z Z':Bs} {w w':World} {sz:Nat} (hZ:∀ b,Z b→Z' b∧w'.heap[b]?=w.heap[b]?) (ha:∀ x c,Ra x c→Ra' x c) (hb:∀ x c,Rb x c→Rb' x c) :
 ∀ {k:XK} {x:k.den A B} {cs:List Value},RepX Ra Rb va vb Z w sz k x cs→RepX Ra' Rb' va vb Z' w' sz k x cs
 | .tree,_,_,⟨n,h⟩=>⟨n,h.keep hZ ha hb⟩
 | .ptr,_,_,h=>h.imp id fun ⟨v,b,o,ks,e,e2,h1,h2,h3⟩=>⟨v,b,o,ks,e,e2,fun j hj=>by rw [← h1 j hj]; exact World.cell?_of_block (a:=⟨b,_,none⟩) (hZ b h2).2,(hZ b h2).1,ha _ _ h3⟩
 | .ifc _ _,_,_,h=>h.imp id fun h=>h.imp (fun ⟨v,ks,e,e2,h⟩=>⟨v,ks,e,e2,ha _ _ h⟩) (fun ⟨v,ks,e,e2,h⟩=>⟨v,ks,e,e2,hb _ _ h⟩)
 | .fn0 _ _,_,_,h=>h
 | .fn1 _,_,_,h=>h.imp id fun ⟨v,b,o,ks,e,e2,h1,h2,h3⟩=>⟨v,b,o,ks,e,e2,fun j hj=>by rw [← h1 j hj]; exact World.cell?_of_block (a:=⟨b,_,none⟩) (hZ b h2).2,(hZ b h2).1,ha _ _ h3⟩
 | .cell,_,_,h=>h
theorem RepX.len {A B:Type} {Ra:A→List Value→Prop} {Rb:B→List Value→Prop} {va vb:List Value→Value} {Z:Bs} {w:World} {na nb:Nat} (ha:∀ x c,Ra x c→c.length=na) (hb:∀ x c,Rb x c→c.length=nb) :
 ∀ {k:XK} {x:k.den A B} {cs:List Value},RepX Ra Rb va vb Z w (na+(1+nb)) k x cs→cs.length=(match k with | .tree=>na+(1+nb) | _=>1)
 | .tree,_,_,⟨0,h⟩=>h.elim
 | .tree,_,_,⟨n+1,c1,S,c3,cap,e,h1,h2,_⟩=>by rw [e,List.length_append,List.length_cons,ha _ _ h1,hb _ _ h2,Nat.add_comm 1 nb]
 | .ptr,_,_,h=>by rcases h with ⟨_,e⟩ | ⟨_,_,_,_,_,e,_⟩ <;> rw [e] <;> rfl
 | .ifc _ _,_,_,h=>by rcases h with ⟨_,e⟩ | ⟨_,_,_,e,_⟩ | ⟨_,_,_,e,_⟩ <;> rw [e] <;> rfl
 | .fn0 _ _,_,_,h=>by rcases h with ⟨_,e⟩ | ⟨_,_,e⟩ <;> rw [e] <;> rfl
 | .fn1 _,_,_,h=>by rcases h with ⟨_,e⟩ | ⟨_,_,_,_,_,e,_⟩ <;> rw [e] <;> rfl
 | .cell,_,_,h=>by rw [show _=_ from h]; rfl
theorem Rep.keep {Z Z':Bs} {w w':World} (hZ:∀ b,Z b→Z' b∧w'.heap[b]?=w.heap[b]?):∀ {t:Ty} {m:Mk} {x:t.den} {fp:Bs} {cs:List Value},
 (∀ b,fp b→w'.heap[b]?=w.heap[b]?)→Rep Z w t m x fp cs→Rep Z' w' t m x fp cs
 | .bool,_,_,_,_,_,h | .int _,_,_,_,_,_,h | .str,_,_,_,_,_,h | .unit,_,_,_,_,_,h=>h
 | .pair _ _,_,_,_,_,hf,⟨c1,c2,f1,f2,e,r,i,a,b,d⟩=>⟨c1,c2,f1,f2,e,Rep.keep hZ (fun k hk=>hf k (a k hk)) r,Rep.keep hZ (fun k hk=>hf k (b k hk)) i,a,b,d⟩
 | .arr _ t,m,_,fp,_,hf,⟨h,i⟩=>⟨h,Inline.keep (fun x f c hk hr=>Rep.keep (t:=t) hZ (fun k hk'=>hf k (hk k hk')) hr) i⟩
 | .sl t,.ow m,_,fp,_,hf,⟨A,cap,e,h⟩=>⟨A,cap,e,h.imp id fun ⟨b,o,c,e,h1,h2,h3,h4,h5,h6⟩=>⟨b,o,c,e,h1,h2,(hf b h2).trans h3,h4,h5,Elems.keep (hf b h2) (fun x f c hk hr=>Rep.keep (t:=t) hZ (fun k hk'=>hf k (hk k hk')) hr) h6⟩⟩
 | .sl t,.im,_,_,_,_,⟨A,cap,e,hc,h⟩ | .sl t,.pr _ _,_,_,_,_,⟨A,cap,e,hc,h⟩=>⟨A,cap,e,hc,h.imp id fun ⟨b,o,h1,h2,h3⟩=>⟨b,o,h1,(hZ b h2).1,Elems.keep (hZ b h2).2 (fun x f c hk hr=>Rep.keep (t:=t) hZ (fun k hk'=>(hk k hk').elim) hr) h3⟩⟩
 | .mp k v,.ow m,_,fp,_,hf,h=>h.imp id fun ⟨b,es,n,l,hl,h1,h2,h3,f,h4,h5⟩=>⟨b,es,n,l,hl,h1,h2,(hf b h2).trans h3,f,h4,
  Entries.keep (fun x c hr=>Rep.keep (t:=k) hZ (fun k hk'=>hk'.elim) hr) (fun x f' c hk hr=>Rep.keep (t:=v) hZ (fun k hk'=>hf k (h4 k (hk k hk')).1) hr) h5⟩
 | .mp k v,.im,_,_,_,_,h | .mp k v,.pr _ _,_,_,_,_,h=>h.imp id fun ⟨b,es,n,l,hl,h1,h2,h3,h5⟩=>⟨b,es,n,l,hl,h1,(hZ b h2).1,(hZ b h2).2.trans h3,
  Entries.keep (fun x c hr=>Rep.keep (t:=k) hZ (fun k hk'=>hk'.elim) hr) (fun x f' c hk hr=>Rep.keep (t:=v) hZ (fun k hk'=>(hk k hk').elim) hr) h5⟩
 | .ex k a b,_,_,_,_,_,h=>RepX.keep hZ (fun x c hr=>Rep.keep (t:=a) hZ (fun k hk'=>hk'.elim) hr) (fun x c hr=>Rep.keep (t:=b) hZ (fun k hk'=>hk'.elim) hr) h
theorem Inline.len {α:Type} {R:α→Bs→List Value→Prop} {n:Nat} (h:∀ x f c,R x f c→c.length=n):∀ {xs:List α} {fp:Bs} {cs:List Value},Inline R xs fp cs→cs.length=xs.length*n
 | [],_,_,h0=>by rw [show _=[] from h0]; simp
 | _ :: xs,_,_,⟨c1,c2,f1,f2,e,r,i,_,_,_⟩=>by rw [e,List.length_append,h _ _ _ r,Inline.len h i,List.length_cons,Nat.succ_mul]; omega
theorem Rep.len {Z:Bs} {w:World}:∀ {t:Ty} {m:Mk} {x:t.den} {fp:Bs} {cs:List Value},Rep Z w t m x fp cs→cs.length=t.size
 | .bool,_,_,_,_,h | .int _,_,_,_,_,h | .str,_,_,_,_,h | .unit,_,_,_,_,h=>by rw [show _=_ from h]; rfl
 | .pair _ _,_,_,_,_,⟨c1,c2,f1,f2,e,r,i,_⟩=>by rw [e,List.length_append,r.len,i.len]; rfl
 | .arr _ t,_,_,_,_,⟨h,i⟩=>by rw [Inline.len (fun x f c hr=>Rep.len (t:=t) hr) i,h]; rfl
 | .sl _,.ow _,_,_,_,⟨A,cap,e,h⟩=>by rw [e]; rfl
 | .sl _,.im,_,_,_,⟨A,cap,e,h⟩ | .sl _,.pr _ _,_,_,_,⟨A,cap,e,h⟩=>by rw [e]; rfl
 | .mp _ _,.ow _,_,_,_,h=>by rcases h with ⟨_,e⟩ | ⟨b,es,n,l,hl,e,_⟩ <;> rw [e] <;> rfl
 | .mp _ _,.im,_,_,_,h | .mp _ _,.pr _ _,_,_,_,h=>by rcases h with ⟨_,e⟩ | ⟨b,es,n,l,hl,e,_⟩ <;> rw [e] <;> rfl
 | .ex k a b,_,_,_,_,h=>(RepX.len (k:=k) (fun x c hr=>Rep.len (t:=a) hr) (fun x c hr=>Rep.len (t:=b) hr) h).trans (by cases k <;> rfl)
def isChain:Ty→Bool
 | .pair _ b=>isChain b
 | .unit=>true
 | _=>false
def ins:Ty→Ty→Ty
 | .pair a b,r=>.pair a (ins b r)
 | _,r=>r
def insV:(a:Ty)→{r:Ty}→a.den→r.den→(ins a r).den
 | .pair _ b,_,x,y=>(x.1,insV b x.2 y)
 | .unit,_,_,y | .bool,_,_,y | .int _,_,_,y | .str,_,_,y | .arr _ _,_,_,y | .sl _,_,_,y | .mp _ _,_,_,y | .ex _ _ _,_,_,y=>y
def outV:(a:Ty)→{r:Ty}→(ins a r).den→a.den × r.den
 | .pair _ b,_,x=>((x.1,(outV b x.2).1),(outV b x.2).2)
 | .unit,_,y=>((),y)
 | .bool,_,y=>(false,y)
 | .int k,_,y=>((Ty.int k).zero,y)
 | .str,_,y=>(ByteArray.empty,y)
 | .arr n t,_,y=>((Ty.arr n t).zero,y)
 | .sl _,_,y=>([],y)
 | .mp _ _,_,y=>(none,y)
 | .ex k a b,_,y=>((Ty.ex k a b).zero,y)
def unTy:Ty→Ty
 | .ex .tree a b=>ins a (.pair (.sl (.ex .tree a b)) b)
 | t=>t
def unV (a b:Ty) (x:(Ty.ex .tree a b).den):(unTy (.ex .tree a b)).den:=insV a (r:=.pair (.sl (.ex .tree a b)) b) (Rose.val x).1 (Rose.kids x,(Rose.val x).2)
def foV (a b:Ty) (y:(unTy (.ex .tree a b)).den):(Ty.ex .tree a b).den :=
 Rose.node ((outV a (r:=.pair (.sl (.ex .tree a b)) b) y).1,(outV a (r:=.pair (.sl (.ex .tree a b)) b) y).2.2) (outV a (r:=.pair (.sl (.ex .tree a b)) b) y).2.1
theorem ins_cells:∀ {a:Ty} (r:Ty),isChain a=true→(ins a r).zcells=a.zcells++r.zcells∧(ins a r).size=a.size+r.size
 | .pair x b,r,h=>by
  obtain ⟨h1,h2⟩:=ins_cells (a:=b) r h
  exact ⟨by simp only [ins,Ty.zcells,h1,List.append_assoc],by simp only [ins,Ty.size,h2,Nat.add_assoc]⟩
 | .unit,r,_=>⟨by simp [ins,Ty.zcells],by simp [ins,Ty.size]⟩
 | .bool,_,h | .int _,_,h | .str,_,h | .arr _ _,_,h | .sl _,_,h | .mp _ _,_,h | .ex _ _ _,_,h=>by cases h
theorem un_cells {a b:Ty} (h:isChain a=true):(unTy (.ex .tree a b)).zcells=(Ty.ex .tree a b).zcells∧(unTy (.ex .tree a b)).size=(Ty.ex .tree a b).size∧(unTy (.ex .tree a b)).agg=true:=by
 obtain ⟨h1,h2⟩:=ins_cells (.pair (.sl (.ex .tree a b)) b) h
 exact ⟨h1,h2,by cases a <;> first | rfl | cases h⟩
theorem rep_ins {Z:Bs} {w:World}:∀ {a r:Ty},isChain a=true→∀ {v:a.den} {y:r.den} {cs:List Value},Rep Z w (ins a r) .im (insV a v y) none_ cs↔∃ c1 c2,cs=c1++c2∧Rep Z w a .im v none_ c1∧Rep Z w r .im y none_ c2
 | .pair x b,r,h,v,y,cs=>by
  have ih:=fun {cs}=>rep_ins (Z:=Z) (w:=w) (a:=b) (r:=r) h (v:=v.2) (y:=y) (cs:=cs)
  constructor
  ·rintro ⟨c1,c2,f1,f2,e,r1,r2,s1,s2,_⟩
   obtain ⟨c3,c4,e2,r3,r4⟩:=ih.1 (r2.mono (fun k hk=>s2 k hk))
   exact ⟨c1++c3,c4,by rw [e,e2,List.append_assoc],⟨c1,c3,none_,none_,rfl,r1.mono (fun k hk=>s1 k hk),r3,fun _ h=>h,fun _ h=>h,fun _ h=>h.elim⟩,r4⟩
  ·rintro ⟨c1,c2,e,⟨c3,c4,f1,f2,e2,r1,r2,s1,s2,_⟩,r3⟩
   exact ⟨c3,c4++c2,none_,none_,by rw [e,e2,List.append_assoc],r1.mono (fun k hk=>s1 k hk),ih.2 ⟨c4,c2,rfl,r2.mono (fun k hk=>s2 k hk),r3⟩,fun _ h=>h,fun _ h=>h,fun _ h=>h.elim⟩
 | .unit,r,_,v,y,cs=>⟨fun h=>⟨[],cs,rfl,rfl,h⟩,fun ⟨c1,c2,e,h1,h2⟩=>by rw [e,show c1=[] from h1]; exact h2⟩
 | .bool,_,h,_,_,_ | .int _,_,h,_,_,_ | .str,_,h,_,_,_ | .arr _ _,_,h,_,_,_ | .sl _,_,h,_,_,_ | .mp _ _,_,h,_,_,_ | .ex _ _ _,_,h,_,_,_=>by cases h
theorem ins_out:∀ {a r:Ty},isChain a=true→∀ (y:(ins a r).den),insV a (outV a y).1 (outV a y).2=y
 | .pair x b,r,h,y=>by
  have:=ins_out (a:=b) (r:=r) h y.2
  show (y.1,_)=y
  rw [show insV b (outV (.pair x b) y).1.2 (outV (.pair x b) y).2=y.2 from this]
  rfl
 | .unit,_,_,_=>rfl
 | .bool,_,h,_ | .int _,_,h,_ | .str,_,h,_ | .arr _ _,_,h,_ | .sl _,_,h,_ | .mp _ _,_,h,_ | .ex _ _ _,_,h,_=>by cases h
theorem RepT.up {A B:Type} {Ra:A→List Value→Prop} {Rb:B→List Value→Prop} {Z:Bs} {w:World} {sz:Nat}:∀ {n m:Nat} {x:Rose (A × B)} {cs:List Value},n≤m→RepT Ra Rb Z w sz n x cs→RepT Ra Rb Z w sz m x cs
 | 0,_,_,_,_,h=>h.elim
 | n+1,0,_,_,h,_=>absurd h (Nat.not_succ_le_zero _)
 | n+1,m+1,x,cs,hn,⟨c1,S,c3,cap,e,h1,h2,h3,h4⟩=>⟨c1,S,c3,cap,e,h1,h2,h3,h4.imp id fun ⟨b,o,h5,h6,h7⟩=>⟨b,o,h5,h6,Elems.keep rfl (fun y f c _ hr=>RepT.up (Nat.le_of_succ_le_succ hn) hr) h7⟩⟩
theorem un_rep {Z:Bs} {w:World} {a b:Ty} {m:Mk} {x:(Ty.ex .tree a b).den} {fp:Bs} {cs:List Value} (h:isChain a=true) (hr:Rep Z w (.ex .tree a b) m x fp cs):Rep Z w (unTy (.ex .tree a b)) .im (unV a b x) none_ cs:=by
 obtain ⟨n,hr⟩:=hr
 cases n with
 | zero=>exact hr.elim
 | succ n =>
  obtain ⟨c1,S,c3,cap,e,h1,h2,h3,h4⟩:=hr
  refine (rep_ins h).2 ⟨c1,_,e,h1,[.slice S (Rose.kids x).length cap],c3,none_,none_,rfl,⟨S,cap,rfl,h3,h4.imp id fun ⟨b',o,h5,h6,h7⟩=>⟨b',o,h5,h6,?_⟩⟩,h2,fun _ h=>h,fun _ h=>h,fun _ h=>h.elim⟩
  exact Elems.keep rfl (fun y f c _ hr=>⟨n,hr⟩) h7
theorem fo_rep {Z:Bs} {w:World} {a b:Ty} {m:Mk} {y:(unTy (.ex .tree a b)).den} {fp:Bs} {cs:List Value} (h:isChain a=true) (hr:Rep Z w (unTy (.ex .tree a b)) .im y none_ cs):Rep Z w (.ex .tree a b) m (foV a b y) fp cs:=by
 rw [← ins_out (r:=.pair (.sl (.ex .tree a b)) b) h y] at hr
 obtain ⟨c1,c2,e,r1,c3,c4,f1,f2,e2,⟨S,cap,e3,h3,h4⟩,r4,_,s2,_⟩:=(rep_ins h).1 hr
 have key:∃ n,(foV a b y).kids=[]∨∃ b' o,S=some ⟨b',o,none⟩∧Z b'∧Elems (fun y _ c=>RepT (fun x c=>Rep Z w a .im x none_ c) (fun x c=>Rep Z w b .im x none_ c) Z w (a.size+(1+b.size)) n y c) (a.size+(1+b.size)) w b' o (foV a b y).kids none_:=by
  rcases h4 with h4 | ⟨b',o,h5,h6,fps,css,h7,h8⟩
  ·exact ⟨0,.inl h4⟩
  ·have bound:∀ k,∃ N,∀ i x,i<k→(foV a b y).kids[i]?=some x→RepT (fun x c=>Rep Z w a .im x none_ c) (fun x c=>Rep Z w b .im x none_ c) Z w (a.size+(1+b.size)) N x (css i):=by
    intro k
    induction k with
    | zero=>exact ⟨0,fun i x hi=>absurd hi (Nat.not_lt_zero _)⟩
    | succ k ih =>
     obtain ⟨N,hN⟩:=ih
     cases hx:(foV a b y).kids[k]? with
     | none=>exact ⟨N,fun i x hi hi2=>by
      rcases Nat.lt_or_eq_of_le (Nat.le_of_lt_succ hi) with h | h
      ·exact hN i x h hi2
      ·rw [h,hx] at hi2; cases hi2⟩
     | some x =>
      obtain ⟨M,hM⟩:=(h7 k x hx).1
      refine ⟨max N M,fun i x' hi hi2 => ?_⟩
      rcases Nat.lt_or_eq_of_le (Nat.le_of_lt_succ hi) with h | h
      ·exact (hN i x' h hi2).up (Nat.le_max_left _ _)
      ·subst h
       rw [hx] at hi2; obtain rfl:=Option.some.inj hi2
       exact hM.up (Nat.le_max_right _ _)
   obtain ⟨N,hN⟩:=bound (foV a b y).kids.length
   exact ⟨N,.inr ⟨b',o,h5,h6,fps,css,fun i x hx=>⟨hN i x (List.getElem?_eq_some_iff.1 hx).1 hx,(h7 i x hx).2⟩,h8⟩⟩
 obtain ⟨n,h4⟩:=key
 exact ⟨n+1,c1,S,c4,cap,by rw [e,e2,e3]; rfl,r1,r4.mono (fun k hk=>s2 k hk),h3,h4⟩
inductive Step where
 | el (i:Nat) | f1 | f2
 deriving DecidableEq
abbrev Path:=List Step
abbrev Dyn:=(t:Ty) × t.den
def getP:(t:Ty)→t.den→Path→Option Dyn
 | t,x,[]=>some ⟨t,x⟩
 | .sl t,xs,.el i :: p=>match xs[i]? with
  | some x=>getP t x p
  | none=>none
 | .arr _ t,xs,.el i :: p=>match xs[i]? with
  | some x=>getP t x p
  | none=>none
 | .pair a _,x,.f1 :: p=>getP a x.1 p
 | .pair _ b,x,.f2 :: p=>getP b x.2 p
 | _,_,_=>none
def tyP:Ty→Path→Option Ty
 | t,[]=>some t
 | .sl t,.el _ :: p=>tyP t p
 | .arr _ t,.el _ :: p=>tyP t p
 | .pair a _,.f1 :: p=>tyP a p
 | .pair _ b,.f2 :: p=>tyP b p
 | _,_=>none
def mkP:Ty→Mk→Path→Option Mk
 | _,m,[]=>some m
 | .sl t,.ow m,.el _ :: p=>mkP t m p
 | .arr _ t,m,.el _ :: p=>mkP t m p
 | .pair a _,m,.f1 :: p=>mkP a m.l p
 | .pair _ b,m,.f2 :: p=>mkP b m.r p
 | _,_,_=>none
def Dyn.as (d:Dyn) (t:Ty) (x:t.den):t.den:=if h:d.1=t then h ▸ d.2 else x
def setP:(t:Ty)→t.den→Path→Dyn→t.den
 | t,x,[],d=>d.as t x
 | .sl t,xs,[.el i],d=>xs.set i (d.as t t.zero)
 | .sl t,xs,.el i :: p,d=>xs.modify i fun x=>setP t x p d
 | .arr _ t,xs,[.el i],d=>xs.set i (d.as t t.zero)
 | .arr _ t,xs,.el i :: p,d=>xs.modify i fun x=>setP t x p d
 | .pair a _,x,.f1 :: p,d=>(setP a x.1 p d,x.2)
 | .pair _ b,x,.f2 :: p,d=>(x.1,setP b x.2 p d)
 | _,x,_,_=>x
theorem Dyn.as_ty {d:Dyn} {t:Ty} (h:d.1=t) (x y:t.den):d.as t x=d.as t y:=by
 unfold Dyn.as; rw [dif_pos h,dif_pos h]
theorem getP_ty:∀ {p:Path} {t:Ty} {x:t.den} {d:Dyn},getP t x p=some d→tyP t p=some d.1
 | [],t,x,d,h=>by cases t <;> (simp only [getP,Option.some.injEq] at h; subst h; rfl)
 | .el i :: p,.sl t,xs,d,h=>by
  simp only [getP] at h; split at h
  ·exact getP_ty (p:=p) h
  ·cases h
 | .el i :: p,.arr n t,xs,d,h=>by
  simp only [getP] at h; split at h
  ·exact getP_ty (p:=p) h
  ·cases h
 | .f1 :: p,.pair a b,x,d,h=>getP_ty (p:=p) (t:=a) h
 | .f2 :: p,.pair a b,x,d,h=>getP_ty (p:=p) (t:=b) h
 | .f1 :: p,.bool,_,_,h | .f1 :: p,.int _,_,_,h | .f1 :: p,.str,_,_,h | .f1 :: p,.unit,_,_,h | .f1 :: p,.arr _ _,_,_,h | .f1 :: p,.sl _,_,_,h | .f1 :: p,.mp _ _,_,_,h | .f1 :: p,.ex _ _ _,_,_,h=>by cases h
 | .f2 :: p,.bool,_,_,h | .f2 :: p,.int _,_,_,h | .f2 :: p,.str,_,_,h | .f2 :: p,.unit,_,_,h | .f2 :: p,.arr _ _,_,_,h | .f2 :: p,.sl _,_,_,h | .f2 :: p,.mp _ _,_,_,h | .f2 :: p,.ex _ _ _,_,_,h=>by cases h
 | .el _ :: p,.bool,_,_,h | .el _ :: p,.int _,_,_,h | .el _ :: p,.str,_,_,h | .el _ :: p,.unit,_,_,h | .el _ :: p,.pair _ _,_,_,h | .el _ :: p,.mp _ _,_,_,h | .el _ :: p,.ex _ _ _,_,_,h=>by cases h
theorem getElem?_modify_ {α:Type} (l:List α) (i j:Nat) (f:α→α):(l.modify i f)[j]?=if i=j then (l[j]?).map f else l[j]?:=by
 rw [List.getElem?_modify]; split <;> simp_all
theorem setP_sl {t:Ty} (xs:List t.den) (i:Nat) (p:Path) (d:Dyn) (h:tyP t p=some d.1) (j:Nat) :
 (setP (.sl t) xs (.el i :: p) d)[j]?=if i=j then (xs[j]?).map (fun x=>setP t x p d) else xs[j]?:=by
 cases p with
 | nil =>
  have h1:d.1=t:=by cases t <;> exact (Option.some.inj h).symm
  have e:∀ x,setP t x [] d=d.as t x:=fun x=>by cases t <;> rfl
  simp only [setP,e,List.getElem?_set]
  split
  ·rename_i hij
   subst hij
   split
   ·rename_i hl
    rw [List.getElem?_eq_getElem hl,Option.map_some,d.as_ty h1]
   ·rename_i hl
    rw [List.getElem?_eq_none (by omega)]; rfl
  ·rfl
 | cons s p=>simp only [setP]; exact getElem?_modify_ _ _ _ _
theorem setP_sl_len {t:Ty} (xs:List t.den) (i:Nat) (p:Path) (d:Dyn):(setP (.sl t) xs (.el i :: p) d:List t.den).length=xs.length:=by
 cases p <;> simp [setP]
theorem setP_arr {n:Nat} {t:Ty} (xs:List t.den) (i:Nat) (p:Path) (d:Dyn):setP (.arr n t) xs (.el i :: p) d=setP (.sl t) xs (.el i :: p) d:=by
 cases p <;> rfl
def addrOf (w:World):Ty→List Value→Option (Nat × Nat)→Path→Option (Nat × Nat)
 | _,_,here,[]=>here
 | .sl t,cs,_,.el i :: p=>match cs with
  | [.slice (some a) _ _]=>addrOf w t ((List.range t.size).map fun j=>(w.cell? ⟨a.block,a.off+i*t.size+j,none⟩).getD (.tuple #[])) (some (a.block,a.off+i*t.size)) p
  | _=>none
 | .arr _ t,cs,here,.el i :: p=>addrOf w t ((cs.drop (i*t.size)).take t.size) (here.map fun h=>(h.1,h.2+i*t.size)) p
 | .pair a _,cs,here,.f1 :: p=>addrOf w a (cs.take a.size) here p
 | .pair a b,cs,here,.f2 :: p=>addrOf w b (cs.drop a.size) (here.map fun h=>(h.1,h.2+a.size)) p
 | _,_,_,_=>none
def subc (w:World):Ty→List Value→Path→Option (List Value)
 | _,cs,[]=>some cs
 | .sl t,cs,.el i :: p=>match cs with
  | [.slice (some a) _ _]=>subc w t ((List.range t.size).map fun j=>(w.cell? ⟨a.block,a.off+i*t.size+j,none⟩).getD (.tuple #[])) p
  | _=>none
 | .arr _ t,cs,.el i :: p=>subc w t ((cs.drop (i*t.size)).take t.size) p
 | .pair a _,cs,.f1 :: p=>subc w a (cs.take a.size) p
 | .pair a b,cs,.f2 :: p=>subc w b (cs.drop a.size) p
 | _,_,_=>none
abbrev At (w:World) (b o:Nat) (cs:List Value):Prop:=At_ w b o cs
theorem At.app {w:World} {b o:Nat} {c1 c2:List Value}:At w b o (c1++c2)↔At w b o c1∧At w b (o+c1.length) c2:=by
 constructor
 ·intro h
  refine ⟨fun j hj => ?_,fun j hj => ?_⟩
  ·rw [h j (by simp; omega),List.getElem?_append_left hj]
  ·rw [show o+c1.length+j=o+(c1.length+j) by omega,h (c1.length+j) (by simp; omega),List.getElem?_append_right (by omega)]; congr 1; omega
 ·rintro ⟨h1,h2⟩ j hj
  by_cases hl:j<c1.length
  ·rw [h1 j hl,List.getElem?_append_left hl]
  ·rw [show o+j=o+c1.length+(j-c1.length) by omega,h2 (j-c1.length) (by simp at hj; omega),List.getElem?_append_right (by omega)]
structure Out (w w':World) (b o n:Nat):Prop where
 cell:∀ j,(j<o∨o+n≤j)→w'.cell? ⟨b,j,none⟩=w.cell? ⟨b,j,none⟩
 row:∀ c e,w.heap[b]?=some (.cells c e (0,0))→∃ c',w'.heap[b]?=some (.cells c' e (0,0))∧c'.size=c.size
theorem At.out {w w':World} {b o n b' o':Nat} {cs:List Value} (h:At w b' o' cs) (hb:b'≠b→w'.heap[b']?=w.heap[b']?) (ho:Out w w' b o n) (hd:b'=b→o'+cs.length≤o∨o+n≤o'):At w' b' o' cs:=by
 intro j hj
 by_cases e:b'=b
 ·subst e; rw [ho.cell _ (by rcases hd rfl with h | h <;> omega)]; exact h j hj
 ·rw [← h j hj]; exact World.cell?_of_block (a:=⟨b',_,none⟩) (hb e)
def Own (w:World) (b:Nat):Prop:=∃ c e,w.heap[b]?=some (.cells c e (0,0))
structure Focus (Z:Bs) (w:World) (t:Ty) (m:Mk) (x:t.den) (fp:Bs) (b0 o0:Nat) (p:Path) (t':Ty) (m':Mk) (x':t'.den) (b o:Nat) (cs':List Value) (fp':Bs):Prop where
 rep:Rep Z w t' m' x' fp' cs'
 at_:At w b o cs'
 sub:∀ k,fp' k→fp k
 not:¬ fp' b
 blk:Own w b
 here:(b=b0∧o0≤o∧o+t'.size≤o0+t.size)∨fp b
 put:∀ (w':World) (y:t'.den) (cs'':List Value) (fp'':Bs),(∀ k,Z k→w'.heap[k]?=w.heap[k]?)→(∀ k,(fp k∧¬ fp' k∨k=b0)→k≠b→w'.heap[k]?=w.heap[k]?)→Out w w' b o t'.size →
  Rep Z w' t' m' y fp'' cs''→At w' b o cs''→(∀ k,fp'' k→fp k→fp' k)→¬ fp'' b→¬ fp'' b0 →
  ∃ cs1,Rep Z w' t m (setP t x p ⟨t',y⟩) (fun k=>(fp k∧¬ fp' k)∨fp'' k) cs1∧At w' b0 o0 cs1∧subc w' t cs1 p=some cs''
theorem Inline.at_ {α:Type} {R:α→Bs→List Value→Prop} {n:Nat} (hn:∀ x f c,R x f c→c.length=n):∀ {xs:List α} {fp:Bs} {cs:List Value} {i:Nat} {x:α},Inline R xs fp cs→xs[i]?=some x →
 ∃ fi ci pre post,cs=pre++(ci++post)∧pre.length=i*n∧R x fi ci∧(∀ k,fi k→fp k) ∧
  ∀ (R':α→Bs→List Value→Prop) (x':α) (ci':List Value) (fi':Bs),(∀ y f c,(∀ k,f k→fp k∧¬ fi k)→R y f c→R' y f c)→R' x' fi' ci'→(∀ k,fi' k→fp k→fi k) →
   Inline R' (xs.set i x') (fun k=>(fp k∧¬ fi k)∨fi' k) (pre++(ci'++post))
 | [],_,_,_,_,_,hx=>by simp at hx
 | y :: xs,fp,cs,0,x,⟨c1,c2,f1,f2,e,r,i,a,b,d⟩,hx=>by
  obtain rfl:y=x:=by simpa using hx
  refine ⟨f1,c1,[],c2,by simpa using e,by simp,r,a,fun R' x' ci' fi' hR hr hf => ?_⟩
  refine ⟨ci',c2,fi',f2,rfl,hr,?_,fun k hk=>.inr hk,fun k hk=>.inl ⟨b k hk,fun h=>d k h hk⟩,fun k h1 h2=>d k (hf k h1 (b k h2)) h2⟩
  exact Inline.keep (fun x f c hf hr=>hR _ _ _ (fun k hk=>⟨b k (hf k hk),fun h=>d k h (hf k hk)⟩) hr) i
 | y :: xs,fp,cs,i+1,x,⟨c1,c2,f1,f2,e,r,i',a,b,d⟩,hx=>by
  obtain ⟨fi,ci,pre,post,e2,hl,hr,hs,hput⟩:=Inline.at_ hn i' (by simpa using hx)
  refine ⟨fi,ci,c1++pre,post,by rw [e,e2,List.append_assoc],by rw [List.length_append,hn _ _ _ r,hl,Nat.succ_mul]; omega,hr,fun k hk=>b k (hs k hk),fun R' x' ci' fi' hR hr' hf => ?_⟩
  refine ⟨c1,pre++(ci'++post),f1,fun k=>(f2 k∧¬ fi k)∨fi' k,by rw [List.append_assoc],hR _ _ _ (fun k hk=>⟨a k hk,fun h=>d k hk (hs k h)⟩) r,
   hput R' x' ci' fi' (fun y f c hf'=>hR y f c (fun k hk=>⟨b k (hf' k hk).1,(hf' k hk).2⟩)) hr' (fun k h1 h2=>hf k h1 (b k h2)),
   fun k hk=>.inl ⟨a k hk,fun h=>d k hk (hs k h)⟩,fun k hk=>hk.imp (fun h=>⟨b k h.1,h.2⟩) id,fun k h1 h2 => ?_⟩
  rcases h2 with h2 | h2
  ·exact d k h1 h2.1
  ·exact d k h1 (hs k (hf k h2 (a k h1)))
theorem setP_set {t:Ty} {xs:List t.den} {i:Nat} {p:Path} {d:Dyn} {x:t.den} (h:tyP t p=some d.1) (hx:xs[i]?=some x):(setP (.sl t) xs (.el i :: p) d:List t.den)=xs.set i (setP t x p d):=by
 apply List.ext_getElem?
 intro j
 rw [setP_sl xs i p d h j,List.getElem?_set]
 have hl:i<xs.length:=by
  rcases Nat.lt_or_ge i xs.length with h | h
  ·exact h
  ·rw [List.getElem?_eq_none h] at hx; cases hx
 split
 ·rename_i e; subst e; rw [hx]; first | rfl | (rw [if_pos hl]; rfl)
 ·rfl
theorem range_at {w:World} {b o:Nat} {cs:List Value} (h:At w b o cs):(List.range cs.length).map (fun j=>(w.cell? ⟨b,o+j,none⟩).getD (.tuple #[]))=cs:=by
 apply List.ext_getElem
 ·simp
 ·intro j h1 h2
  simp only [List.getElem_map,List.getElem_range,h j h2,List.getElem?_eq_getElem h2,Option.getD_some]
structure FocusR (Z:Bs) (w:World) (t:Ty) (m:Mk) (x:t.den) (fp:Bs) (cs:List Value) (p:Path) (t':Ty) (m':Mk) (x':t'.den) (b o:Nat) (cs':List Value) (fp':Bs):Prop where
 rep:Rep Z w t' m' x' fp' cs'
 at_:At w b o cs'
 sub:∀ k,fp' k→fp k
 not:¬ fp' b
 blk:Own w b
 own:fp b
 put:∀ (w':World) (y:t'.den) (cs'':List Value) (fp'':Bs),(∀ k,Z k→w'.heap[k]?=w.heap[k]?)→(∀ k,fp k→¬ fp' k→k≠b→w'.heap[k]?=w.heap[k]?)→Out w w' b o t'.size →
  Rep Z w' t' m' y fp'' cs''→At w' b o cs''→(∀ k,fp'' k→fp k→fp' k)→¬ fp'' b →
  Rep Z w' t m (setP t x p ⟨t',y⟩) (fun k=>(fp k∧¬ fp' k)∨fp'' k) cs∧subc w' t cs p=some cs''
theorem focus_el {Z:Bs} {w:World} {p:Path} {t:Ty} {m:Mk} {t':Ty} {x':t'.den} {m':Mk}
 (IH:∀ {x:t.den} {fp:Bs} {cs:List Value} {b0 o0:Nat},Rep Z w t m x fp cs→At w b0 o0 cs→¬ fp b0→Own w b0→getP t x p=some ⟨t',x'⟩ →
  ∃ b o cs' fp',addrOf w t cs (some (b0,o0)) p=some (b,o)∧subc w t cs p=some cs'∧Focus Z w t m x fp b0 o0 p t' m' x' b o cs' fp')
 {i:Nat} {xs:List t.den} {fp:Bs} {cs:List Value} (here:Option (Nat × Nat)) (hr:Rep Z w (.sl t) (.ow m) xs fp cs) (hg:getP (.sl t) xs (.el i :: p)=some ⟨t',x'⟩) :
 ∃ b o cs' fp',addrOf w (.sl t) cs here (.el i :: p)=some (b,o)∧subc w (.sl t) cs (.el i :: p)=some cs'∧FocusR Z w (.sl t) (.ow m) xs fp cs (.el i :: p) t' m' x' b o cs' fp':=by
 obtain ⟨A,cap,e,h⟩:=hr
 subst e
 simp only [getP] at hg
 split at hg
 ·rename_i x hx
  rcases h with ⟨rfl,rfl⟩ | ⟨b1,o1,c,el,rfl,hfb,hrow,hcap,hlc,fps,css,hel,hdis⟩
  ·simp at hx
  ·have hil:i<xs.length:=by
    rcases Nat.lt_or_ge i xs.length with h | h
    ·exact h
    ·rw [List.getElem?_eq_none h] at hx; cases hx
   obtain ⟨hri,hcl,hcell,hsub⟩:=hel i x hx
   have hai:At w b1 (o1+i*t.size) (css i):=fun j hj=>hcell j (by omega)
   obtain ⟨b,o,cs',fp',hadr,hsc,F⟩:=IH hri hai (fun h=>(hsub _ h).2 rfl) ⟨c,el,hrow⟩ hg
   have hbb:b=b1∨fps i b:=F.here.imp (fun h=>h.1) id
   have hfbb:fp b:=by
    rcases hbb with h | h
    ·exact h ▸ hfb
    ·exact (hsub _ h).1
   have hn1:¬ fp' b1:=fun h=>(hsub _ (F.sub _ h)).2 rfl
   refine ⟨b,o,cs',fp',?_,?_,F.rep,F.at_,fun k hk=>(hsub k (F.sub k hk)).1,F.not,F.blk,hfbb,fun w' y cs'' fp'' hZ hk ho hr' ha' hs h1 => ?_⟩
   ·simp only [addrOf]
    have:=range_at hai
    rw [hcl] at this
    rw [this]; exact hadr
   ·simp only [subc]
    have:=range_at hai
    rw [hcl] at this
    rw [this]; exact hsc
   ·have hnf1:¬ fp'' b1:=fun h=>hn1 (hs _ h hfb)
    obtain ⟨cs1,g1,g2,g3⟩:=F.put w' y cs'' fp'' hZ (fun k h hne=>h.elim (fun h=>hk k (hsub _ h.1).1 h.2 hne) (fun e=>hk k (e ▸ hfb) (e ▸ hn1) hne)) ho hr' ha' (fun k a b=>hs k a (hsub k b).1) h1 hnf1
    have hl2:=g1.len
    refine ⟨⟨some ⟨b1,o1,none⟩,cap,by rw [setP_sl_len],.inr ?_⟩,?_⟩
    rotate_left 1
    ·have e5:=range_at g2
     rw [hl2] at e5
     simp only [subc,e5]
     exact g3
    ·obtain ⟨c',hrow',hsz'⟩:∃ c',w'.heap[b1]?=some (.cells c' el (0,0))∧c'.size=c.size:=by
      by_cases e:b1=b
      ·subst e; exact ho.row c el hrow
      ·exact ⟨c,(hk b1 hfb hn1 e).trans hrow,rfl⟩
     refine ⟨b1,o1,c',el,rfl,.inl ⟨hfb,hn1⟩,hrow',by rw [hsz']; exact hcap,by rw [setP_sl_len]; exact hlc,?_⟩
     refine ⟨fun j=>if j=i then (fun k=>(fps i k∧¬ fp' k)∨fp'' k) else fps j,fun j=>if j=i then cs1 else css j,fun j z hz => ?_,fun j j' k hj hj' hl hl' => ?_⟩
     ·rw [setP_sl xs i p ⟨t',y⟩ (show tyP t p=some t' from getP_ty hg) j] at hz
      by_cases e:j=i
      ·subst e
       rw [if_pos rfl,hx,Option.map_some] at hz
       obtain rfl:=Option.some.inj hz
       simp only [if_true]
       refine ⟨g1,hl2,fun j' hj'=>g2 j' (by omega),fun k h => ?_⟩
       rcases h with h | h
       ·exact ⟨.inl ⟨(hsub k h.1).1,h.2⟩,(hsub k h.1).2⟩
       ·exact ⟨.inr h,fun e=>hnf1 (e ▸ h)⟩
      ·rw [if_neg (fun h=>e h.symm)] at hz
       simp only [if_neg e]
       obtain ⟨q1,q2,q3,q4⟩:=hel j z hz
       have hjl:j<xs.length:=by
        rcases Nat.lt_or_ge j xs.length with h | h
        ·exact h
        ·rw [List.getElem?_eq_none h] at hz; cases hz
       have hdj:∀ k,fps j k→¬ fps i k:=fun k h h'=>e (hdis j i k h h' hjl hil)
       have hnb:∀ k,fps j k→k≠b:=fun k h e'=>by
        subst e'
        rcases hbb with h' | h'
        ·exact (q4 k h).2 h'
        ·exact hdj k h h'
       refine ⟨q1.keep (fun b hb=>⟨hb,hZ b hb⟩) (fun k h=>hk k (q4 k h).1 (fun h'=>hdj k h (F.sub k h')) (hnb k h)),q2,fun j' hj' => ?_,fun k h=>⟨.inl ⟨(q4 k h).1,fun h'=>hdj k h (F.sub k h')⟩,(q4 k h).2⟩⟩
       rw [← q3 j' hj']
       by_cases eb:b1=b
       ·subst eb
        refine ho.cell _ ?_
        rcases F.here with ⟨_,h2,h3⟩ | h'
        ·rcases Nat.lt_or_gt_of_ne e with hlt | hgt
         ·left
          have:=Nat.mul_le_mul_right t.size hlt
          rw [Nat.succ_mul] at this
          omega
         ·right
          have:=Nat.mul_le_mul_right t.size hgt
          rw [Nat.succ_mul] at this
          omega
        ·exact absurd rfl (hsub _ h').2
       ·exact World.cell?_of_block (a:=⟨b1,_,none⟩) (hk b1 hfb hn1 eb)
     ·rw [setP_sl_len] at hl hl'
      have fwd:∀ j,(if j=i then (fun k=>(fps i k∧¬ fp' k)∨fp'' k) else fps j) k→fps j k∨(j=i∧fp'' k):=by
       intro j h
       by_cases e:j=i
       ·subst e; rw [if_pos rfl] at h; exact h.imp (fun h=>h.1) (fun h=>⟨rfl,h⟩)
       ·rw [if_neg e] at h; exact .inl h
      rcases fwd j hj with h | ⟨e,h⟩ <;> rcases fwd j' hj' with h' | ⟨e',h'⟩
      ·exact hdis j j' k h h' hl hl'
      ·have hfk:fp k:=by
        obtain ⟨z,hz⟩:∃ z,xs[j]?=some z:=⟨_,List.getElem?_eq_getElem hl⟩
        exact ((hel j z hz).2.2.2 k h).1
       exact (hdis j i k h (F.sub k (hs k h' hfk)) hl hil).trans e'.symm
      ·have hfk:fp k:=by
        obtain ⟨z,hz⟩:∃ z,xs[j']?=some z:=⟨_,List.getElem?_eq_getElem hl'⟩
        exact ((hel j' z hz).2.2.2 k h').1
       exact (e.trans (hdis j' i k h' (F.sub k (hs k h hfk)) hl' hil).symm)
      ·exact e.trans e'.symm
 ·cases hg
theorem focus {Z:Bs} {w:World}:∀ (p:Path) {t:Ty} {m:Mk} {x:t.den} {fp:Bs} {cs:List Value} {b0 o0:Nat} {t':Ty} {x':t'.den} {m':Mk},
 Rep Z w t m x fp cs→At w b0 o0 cs→¬ fp b0→Own w b0→getP t x p=some ⟨t',x'⟩→mkP t m p=some m' →
 ∃ b o cs' fp',addrOf w t cs (some (b0,o0)) p=some (b,o)∧subc w t cs p=some cs'∧Focus Z w t m x fp b0 o0 p t' m' x' b o cs' fp'
 | [],t,m,x,fp,cs,b0,o0,t',x',m',hr,ha,hb,hO,hg,hm=>by
  obtain ⟨rfl,hx⟩:t=t'∧HEq x x':=by cases t <;> (simp only [getP,Option.some.injEq,Sigma.mk.injEq] at hg; exact hg)
  obtain rfl:=eq_of_heq hx
  obtain rfl:m=m':=by cases t <;> (simp only [mkP,Option.some.injEq] at hm; exact hm)
  refine ⟨b0,o0,cs,fp,by cases t <;> rfl,by cases t <;> rfl,hr,ha,fun _ h=>h,hb,hO,.inl ⟨rfl,Nat.le_refl _,Nat.le_refl _⟩,fun w' y cs'' fp'' hZ hk ho hr' ha' hs h1 h2=>⟨cs'',?_,ha',by cases t <;> rfl⟩⟩
  have e:setP t x [] ⟨t,y⟩=y:=by cases t <;> simp [setP,Dyn.as]
  rw [e]
  exact hr'.mono fun k hk=>.inr hk
 | .f1 :: p,.pair ta tb,m,x,fp,cs,b0,o0,t',x',m',⟨c1,c2,f1,f2,e,r1,r2,s1,s2,hd⟩,ha,hb,hO,hg,hm=>by
  subst e
  obtain ⟨ha1,ha2⟩:=At.app.1 ha
  obtain ⟨b,o,cs',fp',hadr,hsc,F⟩:=focus p r1 ha1 (fun h=>hb (s1 _ h)) hO hg hm
  have hl1:=r1.len
  refine ⟨b,o,cs',fp',by simp only [addrOf]; rw [← hl1,List.take_left]; exact hadr,by simp only [subc]; rw [← hl1,List.take_left]; exact hsc,F.rep,F.at_,fun k hk=>s1 k (F.sub k hk),F.not,F.blk,?_,fun w' y cs'' fp'' hZ hk ho hr' ha' hs h1 h2 => ?_⟩
  ·rcases F.here with ⟨h1,h2,h3⟩ | h
   ·exact .inl ⟨h1,h2,by simp only [Ty.size]; omega⟩
   ·exact .inr (s1 _ h)
  ·obtain ⟨cs1,g1,g2,g3⟩:=F.put w' y cs'' fp'' hZ (fun k h=>hk k (h.imp (fun h=>⟨s1 _ h.1,h.2⟩) id)) ho hr' ha' (fun k a b=>hs k a (s1 k b)) h1 h2
   have hl2:=g1.len
   have hnb:¬ f2 b:=fun h=>by
    rcases F.here with ⟨e,_⟩ | h'
    ·exact hb (e ▸ s2 _ h)
    ·exact hd _ h' h
   have r2':Rep Z w' tb m.r x.2 f2 c2:=r2.keep (fun b hb=>⟨hb,hZ b hb⟩) (fun k h=>hk k (.inl ⟨s2 k h,fun h'=>hd k (F.sub k h') h⟩) (fun e=>hnb (e ▸ h)))
   refine ⟨cs1++c2,⟨cs1,c2,_,f2,rfl,g1,r2',fun k h=>h.imp (fun h=>⟨s1 k h.1,h.2⟩) id,fun k h=>.inl ⟨s2 k h,fun h'=>hd k (F.sub k h') h⟩,fun k h h' => ?_⟩,At.app.2 ⟨g2,?_⟩,by simp only [subc]; rw [← hl2,List.take_left]; exact g3⟩
   ·rcases h with h | h
    ·exact hd k h.1 h'
    ·exact hd k (F.sub k (hs k h (s2 k h'))) h'
   ·rw [show o0+cs1.length=o0+c1.length by rw [hl1,hl2]]
    refine ha2.out (fun e=>hk _ (.inr rfl) e) ho (fun e => ?_)
    rcases F.here with ⟨_,h2,h3⟩ | h'
    ·right; omega
    ·exact absurd (e ▸ s1 _ h') hb
 | .f2 :: p,.pair ta tb,m,x,fp,cs,b0,o0,t',x',m',⟨c1,c2,f1,f2,e,r1,r2,s1,s2,hd⟩,ha,hb,hO,hg,hm=>by
  subst e
  obtain ⟨ha1,ha2⟩:=At.app.1 ha
  have hl1:=r1.len
  obtain ⟨b,o,cs',fp',hadr,hsc,F⟩:=focus p r2 ha2 (fun h=>hb (s2 _ h)) hO hg hm
  refine ⟨b,o,cs',fp',by simp only [addrOf]; rw [← hl1,List.drop_left]; exact hadr,by simp only [subc]; rw [← hl1,List.drop_left]; exact hsc,F.rep,F.at_,fun k hk=>s2 k (F.sub k hk),F.not,F.blk,?_,fun w' y cs'' fp'' hZ hk ho hr' ha' hs h1 h2 => ?_⟩
  ·rcases F.here with ⟨h1,h2,h3⟩ | h
   ·exact .inl ⟨h1,by omega,by simp only [Ty.size]; omega⟩
   ·exact .inr (s2 _ h)
  ·obtain ⟨cs1,g1,g2,g3⟩:=F.put w' y cs'' fp'' hZ (fun k h=>hk k (h.imp (fun h=>⟨s2 _ h.1,h.2⟩) id)) ho hr' ha' (fun k a b=>hs k a (s2 k b)) h1 h2
   have hnb:¬ f1 b:=fun h=>by
    rcases F.here with ⟨e,_⟩ | h'
    ·exact hb (e ▸ s1 _ h)
    ·exact hd _ h h'
   have r1':Rep Z w' ta m.l x.1 f1 c1:=r1.keep (fun b hb=>⟨hb,hZ b hb⟩) (fun k h=>hk k (.inl ⟨s1 k h,fun h'=>hd k h (F.sub k h')⟩) (fun e=>hnb (e ▸ h)))
   refine ⟨c1++cs1,⟨c1,cs1,f1,_,rfl,r1',g1,fun k h=>.inl ⟨s1 k h,fun h'=>hd k h (F.sub k h')⟩,fun k h=>h.imp (fun h=>⟨s2 k h.1,h.2⟩) id,fun k h h' => ?_⟩,At.app.2 ⟨?_,g2⟩,by simp only [subc]; rw [← hl1,List.drop_left]; exact g3⟩
   ·rcases h' with h' | h'
    ·exact hd k h h'.1
    ·exact hd k h (F.sub k (hs k h' (s1 k h)))
   ·refine ha1.out (fun e=>hk _ (.inr rfl) e) ho (fun e => ?_)
    rcases F.here with ⟨_,h2,h3⟩ | h'
    ·left; omega
    ·exact absurd (e ▸ s2 _ h') hb
 | .el i :: p,.arr n t,m,xs,fp,cs,b0,o0,t',x',m',⟨hlen,hin⟩,ha,hb,hO,hg,hm=>by
  simp only [getP] at hg
  split at hg
  ·rename_i x hx
   obtain ⟨fi,ci,pre,post,e,hpl,hri,hsi,hput⟩:=Inline.at_ (fun x f c h=>Rep.len h) hin hx
   subst e
   have hci:=hri.len
   obtain ⟨ha1,ha2⟩:=At.app.1 ha
   obtain ⟨ha2,ha3⟩:=At.app.1 ha2
   have hil:i<n:=by
    rw [← hlen]
    rcases Nat.lt_or_ge i xs.length with h | h
    ·exact h
    ·rw [List.getElem?_eq_none h] at hx; cases hx
   have hmul:(i+1)*t.size≤n*t.size:=Nat.mul_le_mul_right _ hil
   rw [Nat.succ_mul] at hmul
   obtain ⟨b,o,cs',fp',hadr,hsc,F⟩:=focus p hri ha2 (fun h=>hb (hsi _ h)) hO hg hm
   refine ⟨b,o,cs',fp',?_,?_,F.rep,F.at_,fun k hk=>hsi k (F.sub k hk),F.not,F.blk,?_,fun w' y cs'' fp'' hZ hk ho hr' ha' hs h1 h2 => ?_⟩
   ·simp only [addrOf]
    rw [← hpl,List.drop_left,← hci,List.take_left]; exact hadr
   ·simp only [subc]
    rw [← hpl,List.drop_left,← hci,List.take_left]; exact hsc
   ·rcases F.here with ⟨h1,h2,h3⟩ | h
    ·exact .inl ⟨h1,by omega,by simp only [Ty.size]; omega⟩
    ·exact .inr (hsi _ h)
   ·obtain ⟨cs1,g1,g2,g3⟩:=F.put w' y cs'' fp'' hZ (fun k h=>hk k (h.imp (fun h=>⟨hsi _ h.1,h.2⟩) id)) ho hr' ha' (fun k a b=>hs k a (hsi k b)) h1 h2
    have hl2:=g1.len
    have hnb:fi b∨¬ fp b:=by
     rcases F.here with ⟨e,_⟩ | h'
     ·exact .inr (fun h=>hb (e ▸ h))
     ·exact .inl h'
    refine ⟨pre++(cs1++post),⟨by rw [setP_arr,setP_sl_len]; exact hlen,?_⟩,At.app.2 ⟨?_,At.app.2 ⟨g2,?_⟩⟩,by simp only [subc]; rw [← hpl,List.drop_left,← hl2,List.take_left]; exact g3⟩
    ·rw [setP_arr,setP_set (d:=⟨t',y⟩) (show tyP t p=some t' from getP_ty hg) hx]
     refine Inline.mono (fun _ _ _ h=>h) ?_ (hput (fun x f c=>Rep Z w' t m x f c) _ cs1 _ (fun y f c hf hr => ?_) g1 ?_)
     ·intro k h
      rcases h with h | h | h
      ·exact .inl ⟨h.1,fun h'=>h.2 (F.sub k h')⟩
      ·exact .inl ⟨hsi k h.1,h.2⟩
      ·exact .inr h
     ·exact hr.keep (fun b hb=>⟨hb,hZ b hb⟩) (fun k h=>hk k (.inl ⟨(hf k h).1,fun h'=>(hf k h).2 (F.sub k h')⟩) (fun e=>by
       subst e
       rcases hnb with h' | h'
       ·exact (hf k h).2 h'
       ·exact h' (hf k h).1))
     ·intro k h h'
      rcases h with h | h
      ·exact h.1
      ·exact F.sub k (hs k h h')
    ·refine ha1.out (fun e=>hk _ (.inr rfl) e) ho (fun e => ?_)
     rcases F.here with ⟨_,h2,h3⟩ | h'
     ·left; omega
     ·exact absurd (e ▸ hsi _ h') hb
    ·rw [show o0+pre.length+cs1.length=o0+pre.length+ci.length by rw [hci,hl2]]
     refine ha3.out (fun e=>hk _ (.inr rfl) e) ho (fun e => ?_)
     rcases F.here with ⟨_,h2,h3⟩ | h'
     ·right; omega
     ·exact absurd (e ▸ hsi _ h') hb
  ·cases hg
 | .el i :: p,.sl t,.ow m,xs,fp,cs,b0,o0,t',x',m',hr,ha,hb,hO,hg,hm=>by
  obtain ⟨b,o,cs',fp',hadr,hsc,F⟩:=focus_el (fun hr ha hb hO hg=>focus p hr ha hb hO hg hm) (some (b0,o0)) hr hg
  have hb0:b0≠b:=fun e=>hb (e ▸ F.own)
  exact ⟨b,o,cs',fp',hadr,hsc,F.rep,F.at_,F.sub,F.not,F.blk,.inr F.own,fun w' y cs'' fp'' hZ hk ho hr' ha' hs h1 h2 =>
   have q:=F.put w' y cs'' fp'' hZ (fun k h h' hne=>hk k (.inl ⟨h,h'⟩) hne) ho hr' ha' hs h1; ⟨cs,q.1,ha.out (fun _=>hk b0 (.inr rfl) hb0) ho (fun e=>absurd e hb0),q.2⟩⟩
theorem focus_root {Z:Bs} {w:World} {p:Path} {t:Ty} {m:Mk} {i:Nat} {xs:List t.den} {fp:Bs} {cs:List Value} {t':Ty} {x':t'.den} {m':Mk} (here:Option (Nat × Nat))
 (hr:Rep Z w (.sl t) (.ow m) xs fp cs) (hg:getP (.sl t) xs (.el i :: p)=some ⟨t',x'⟩) (hm:mkP (.sl t) (.ow m) (.el i :: p)=some m') :
 ∃ b o cs' fp',addrOf w (.sl t) cs here (.el i :: p)=some (b,o)∧subc w (.sl t) cs (.el i :: p)=some cs'∧FocusR Z w (.sl t) (.ow m) xs fp cs (.el i :: p) t' m' x' b o cs' fp' :=
 focus_el (fun hr ha hb hO hg=>focus p hr ha hb hO hg hm) here hr hg
inductive MV where
 | dead
 | val (t:Ty) (x:t.den)
 | nil
 | root (s hv:Nat)
 | view (s hv cv:Nat) (p:Option Path) (t:Ty) (x:t.den)
 | adr (s hv cv:Nat) (p:Option Path) (t:Ty) (x:t.den)
 | iadr (t:Ty) (x:t.den)
 | pend (s hv cv:Nat) (p:Path) (t:Ty) (x:List t.den)
 | pr (a b:MV) | un | meth (i j:TypeId) (nm:String)
 | tc (a b:MV) | tn
 | fn (f:FuncId) (caps:MV)
 | ptr (s hv:Nat) (t:Ty)
 | icl (m:MV)
 | nv (t:Ty) (x:List t.den) (b:Bool)
structure SlotC where
 t:Ty
 m:Mk
 x:t.den
structure Slot where
 hv:Nat
 cv:Nat
 c:Option SlotC
structure St where
 tm:List MV
 sl:List Slot
inductive Arg where
 | dyn (t:Ty) (x:t.den)
 | nil
 | iad (t:Ty) (x:t.den)
 | fn (f:FuncId) (caps:Arg)
 | icl (a:Arg)
 | tc (a b:Arg) | tn
 | mr (k:Nat) | mp (k:Nat) (t:Ty)
structure CallRes where
 α:Type
 run:Option α
 t:Ty
 m:Mk
 out:α→t.den
 io:α→List (Option SlotC)
structure CallResP where
 α:Type
 run:Option (Unit ⊕ α)
 t:Ty
 m:Mk
 out:α→t.den
 io:α→List (Option SlotC)
 T:TypeId
structure Env where
 P:Program
 tt:TypeId→Option (Ty × Nat)
 Γ:FuncId→Arg→List SlotC→Option CallRes
 io:Nat:=0
 Γp:FuncId→Arg→List SlotC→Option CallResP:=fun _ _ _=>none
structure OH where
 m:Mk:=.im
 sl:List Nat:=[]
 fl:Nat:=0
 rd:List Nat:=[]
 wr:List Nat:=[]
 an:Nat:=0
 mu:List Nat:=[]
def St.get (st:St) (i:Nat):MV:=st.tm.getD i .dead
def St.look (st:St) (s:Nat):Option Slot:=st.sl[s]?
def cellMV:Value→MV
 | .bool b=>.val .bool b
 | .int k n=>.val (.int k) n
 | .string s=>.val .str s
 | .slice none 0 0=>.nil
 | .pointer none=>.val (.ex .ptr .unit .unit) (none:Option Unit)
 | .nilIface=>.val (.ex (.ifc 0 0) .unit .unit) (none:Option (Unit ⊕ Unit))
 | _=>.dead
def MV.mkpr:MV→MV→MV
 | .val a x,.val b y=>.val (.pair a b) (x,y)
 | a,b=>.pr a b
def aggMV:List Value→MV
 | []=>.val .unit ()
 | v :: l=>(cellMV v).mkpr (aggMV l)
def constMV:Value→MV
 | .agg a=>aggMV a.toList
 | v=>cellMV v
def St.ev (st:St):Operand→MV
 | .tmp t=>st.get t
 | .const v=>constMV v
 | .func f=>.fn f .tn
 | .global _=>.dead
def zeroMV:Ty→MV
 | .pair a b=>(zeroMV a).mkpr (zeroMV b)
 | .sl _=>.nil
 | .mp _ _=>.dead
 | .unit=>.val .unit ()
 | t=>.val t t.zero
def headT (t:Ty):(Ty.sl t).den→Option t.den:=fun (x:List t.den)=>match x with
 | v :: _=>some v
 | []=>none
inductive Acc where
 | im | own (s hv cv:Nat) (p:Path) | ro (s hv cv:Nat)
def Mk.isOw:Mk→Bool
 | .ow _=>true
 | _=>false
structure Cont where
 t:Ty
 x:t.den
 a:Acc
def lookH (look:Nat→Option Slot) (s hv:Nat):Option (Nat × SlotC) :=
 match look s with
 | some ⟨h,cv,some c⟩=>bif Nat.beq h hv then some (cv,c) else none
 | _=>none
def lookC (look:Nat→Option Slot) (s hv cv:Nat):Option SlotC :=
 match lookH look s hv with
 | some (v,c)=>bif Nat.beq v cv then some c else none
 | none=>none
def deref (look:Nat→Option Slot):MV→MV
 | .ptr s hv t=>match lookH look s hv with
  | some (cv,c)=>if h:c.t=.sl t then (match headT t (h ▸ c.x) with
   | some v=>.adr s hv cv (some [.el 0]) t v
   | none=>.dead) else .dead
  | none=>.dead
 | m=>m
def cont (look:Nat→Option Slot):MV→Option Cont
 | .val t x=>some ⟨t,x,.im⟩
 | .root s hv=>match lookH look s hv with
  | some (cv,c)=>some ⟨c.t,c.x,bif c.m.isOw then .own s hv cv [] else .im⟩
  | none=>none
 | .view s hv cv p t x=>match lookC look s hv cv with
  | some c=>some ⟨t,x,bif c.m.isOw then (match p with | some p=>.own s hv cv p | none=>.ro s hv cv) else .im⟩
  | none=>none
 | _=>none
def Acc.adr (look:Nat→Option Slot) (a:Acc) (i:Nat) (t:Ty) (x:t.den):MV :=
 match a with
 | .im=>.iadr t x
 | .own s hv cv p=>match lookC look s hv cv with
  | some c=>match mkP c.t c.m p with
   | some (.ow _)=>.adr s hv cv (some (p++[.el i])) t x
   | _=>.adr s hv cv none t x
  | none=>.adr s hv cv none t x
 | .ro s hv cv=>.adr s hv cv none t x
def idx {α:Type} (xs:List α) (i:Int):Option α:=if 0≤i then xs[i.toNat]? else none
def chk {R:Type} (b:Bool) (k:Option R):Option R:=bif b then k else none
def fldP:Nat→Path
 | 0=>[.f1]
 | n+1=>.f2 :: fldP n
def getFld:(t:Ty)→t.den→Nat→Option Dyn
 | .pair a _,x,0=>some ⟨a,x.1⟩
 | .pair _ b,x,n+1=>getFld b x.2 n
 | _,_,_=>none
def MV.getFld:MV→Nat→Option MV
 | .pr a _,0=>some a
 | .pr _ b,n+1=>b.getFld n
 | .val (.pair _ b) x,n+1=>(MV.val b x.2).getFld n
 | .val (.pair a _) x,0=>some (.val a x.1)
 | _,_=>none
def flds:Ty→List Ty
 | .pair a b=>a :: flds b
 | _=>[]
def tupP:List MV→MV
 | []=>.val .unit ()
 | a :: l=>a.mkpr (tupP l)
abbrev Ups:=List (Nat × Slot)
def Ups.look (u:Ups) (look:Nat→Option Slot):Nat→Option Slot:=fun s=>match u.lookup s with | some S=>some S | none=>look s
def gone (S:Slot):Slot:=⟨S.hv+1,0,none⟩
def frozen_ (S:Slot):Slot:=⟨S.hv,S.cv,S.c.map fun c=>⟨c.t,.im,c.x⟩⟩
def take (look:Nat→Option Slot):(t:Ty)→Mk→MV→Option (t.den × Ups)
 | t,m,.val t' x=>if h:t'=t then bif t.shared m || t.flat then some (h ▸ x,[]) else none else none
 | .sl t,m,.nil=>some ([],[])
 | .sl t,m,.root s hv=>match look s with
  | some S=>match lookH look s hv with
   | some (_,c) =>
    if h:c.t=.sl t then
     bif m.isOw then (if c.m=m then some ((h ▸ c.x:(Ty.sl t).den),[(s,gone S)]) else none)
     else some ((h ▸ c.x:(Ty.sl t).den),[(s,frozen_ S)])
    else none
   | none=>none
  | none=>none
 | .mp k v,m,.root s hv=>match look s with
  | some S=>match lookH look s hv with
   | some (_,c) =>
    if h:c.t=.mp k v then
     bif m.isOw then (if c.m=m then some ((h ▸ c.x:(Ty.mp k v).den),[(s,gone S)]) else none)
     else some ((h ▸ c.x:(Ty.mp k v).den),[(s,frozen_ S)])
    else none
   | none=>none
  | none=>none
 | .pair a b,m,.pr u v=>match take look a m.l u with
  | some (x,us)=>match take (us.look look) b m.r v with
   | some (y,vs)=>some ((x,y),vs++us)
   | none=>none
  | none=>none
 | t,m,.view s hv cv p t' x=>match look s with
  | some S=>match lookC look s hv cv with
   | some c =>
    if h:t'=t then
     bif t.shared m then some (h ▸ x,[(s,frozen_ S)])
     else match p with
      | some [.el 0]=>if c.t=.sl t∧c.m=.ow m then some (h ▸ x,[(s,gone S)]) else none
      | _=>none
    else none
   | none=>none
  | none=>none
 | _,_,_=>none
def unMV:MV→MV
 | .val (.ex .tree a b) x=>bif isChain a then .val (unTy (.ex .tree a b)) (unV a b x) else .val (.ex .tree a b) x
 | .iadr (.ex .tree a b) x=>bif isChain a then .iadr (unTy (.ex .tree a b)) (unV a b x) else .iadr (.ex .tree a b) x
 | .adr s hv cv p (.ex .tree a b) x=>bif isChain a then .adr s hv cv none (unTy (.ex .tree a b)) (unV a b x) else .adr s hv cv p (.ex .tree a b) x
 | .nv t x _=>.val (.sl t) x
 | m=>m
def takeT (look:Nat→Option Slot):(t:Ty)→MV→Option (t.den × Ups)
 | .ex .tree a b,mv=>bif isChain a then (match take look (unTy (.ex .tree a b)) .im mv with
  | some (y,us)=>some (foV a b y,us)
  | none=>none) else none
 | _,_=>none
def takeX (look:Nat→Option Slot) (t:Ty) (m:Mk) (mv:MV):Option (t.den × Ups) :=
 match take look t m mv with
 | some r=>some r
 | none=>match takeT look t mv with
  | some r=>some r
  | none=>take look t m (unMV mv)
def foMV (t:Ty) (mv:MV):MV :=
 match t,mv with
 | .ex .tree a b,.val t' x=>if h:t'=unTy (.ex .tree a b) then (bif isChain a then .val (.ex .tree a b) (foV a b (h ▸ x)) else .val t' x) else .val t' x
 | _,m=>m
def resMV (look:Nat→Option Slot):(t:Ty)→Mk→t.den→List Nat→Option (MV × Ups × List Nat)
 | .pair a b,m,x,ss=>bif (Ty.pair a b).shared m || (Ty.pair a b).flat then some (.val (.pair a b) x,[],ss) else
  match resMV look a m.l x.1 ss with
  | some (u,us,ss')=>match resMV (us.look look) b m.r x.2 ss' with
   | some (v,vs,ss'')=>some (u.mkpr v,vs++us,ss'')
   | none=>none
  | none=>none
 | .sl t,.ow m,x,n :: ss=>match look n with
  | some S=>some (.root n (S.hv+1),[(n,⟨S.hv+1,0,some ⟨.sl t,.ow m,x⟩⟩)],ss)
  | none=>none
 | .mp k v,.ow m,x,n :: ss=>match look n with
  | some S=>some (.root n (S.hv+1),[(n,⟨S.hv+1,0,some ⟨.mp k v,.ow m,x⟩⟩)],ss)
  | none=>none
 | t,m,x,ss=>bif t.shared m || t.flat then some (.val t x,[],ss) else none
def resC (look:Nat→Option Slot):(t:Ty)→Mk→t.den→List Nat→Option (MV × Ups × List Nat)
 | .ex .cell t _,m,x,n :: ss=>match look n with
  | some S=>some (.ptr n (S.hv+1) t,[(n,⟨S.hv+1,0,some ⟨.sl t,.ow m,([x]:List t.den)⟩⟩)],ss)
  | none=>none
 | .ex .cell _ _,_,_,[]=>none
 | t,m,x,ss=>resMV look t m x ss
def resTup (look:Nat→Option Slot):(t:Ty)→Mk→t.den→List Nat→Option (MV × Ups)
 | .pair a b,m,x,ss=>match resC look a m.l x.1 ss with
  | some (u,us,ss')=>match resTup (us.look look) b m.r x.2 ss' with
   | some (v,vs)=>some (.tc u v,vs++us)
   | none=>none
  | none=>none
 | .unit,_,_,_=>some (.tn,[])
 | _,_,_,_=>none
def MV.isL:MV→Bool
 | .tc _ _ | .tn=>true
 | _=>false
def posN:List Nat→Nat→Option Nat
 | [],_=>none
 | a :: l,s=>bif Nat.beq a s then some 0 else (match posN l s with
  | some k=>some (k+1)
  | none=>none)
def argOf (look:Nat→Option Slot) (mu:List Nat):MV→Option (Arg × List Nat)
 | .val t x=>some (.dyn t x,[])
 | .nil=>some (.nil,[])
 | .iadr t x=>some (.iad t x,[])
 | .root s hv=>match posN mu s with
  | some k=>(match lookH look s hv with
   | some _=>some (.mr k,[])
   | none=>none)
  | none=>match lookH look s hv with
   | some (_,c)=>some (.dyn c.t c.x,[s])
   | none=>none
 | .ptr s hv t=>match posN mu s with
  | some k=>(match lookH look s hv with
   | some _=>some (.mp k t,[])
   | none=>none)
  | none=>match lookH look s hv with
   | some (_,c)=>if h:c.t=.sl t then (match headT t (h ▸ c.x) with
    | some v=>some (.iad t v,[s])
    | none=>none) else none
   | none=>none
 | .view s hv cv _ t x=>match lookC look s hv cv with
  | some c=>some (.dyn t x,[s])
  | none=>none
 | .adr s hv cv _ t x=>match lookC look s hv cv with
  | some c=>some (.iad t x,[s])
  | none=>none
 | .pr a b=>match argOf look mu a with
  | some (.dyn t x,ss)=>match argOf look mu b with
   | some (.dyn t' y,ss')=>some (.dyn (.pair t t') (x,y),ss++ss')
   | _=>none
  | _=>none
 | .un=>some (.dyn .unit (),[])
 | .nv t x _=>some (.dyn (.sl t) x,[])
 | .fn f caps=>bif caps.isL then (match argOf look mu caps with
  | some (a,ss)=>some (.fn f a,ss)
  | none=>none) else none
 | .icl m=>bif m.isL then none else (match argOf look mu m with
  | some (a,ss)=>some (.icl a,ss)
  | none=>none)
 | .tc a b=>bif !a.isL && b.isL then (match argOf look mu a with
  | some (x,ss)=>match argOf look mu b with
   | some (y,ss')=>some (.tc x y,ss++ss')
   | none=>none
  | none=>none) else none
 | .tn=>some (.tn,[])
 | _=>none
def Arg.app:Arg→Arg→Arg
 | .tc a b,y=>.tc a (b.app y)
 | _,y=>y
def freezeAll (look:Nat→Option Slot):List Nat→Ups
 | []=>[]
 | s :: ss=>match look s with
  | some S=>(s,frozen_ S) :: freezeAll look ss
  | none=>freezeAll look ss
def tups:List MV→MV
 | []=>.tn
 | a :: l=>.tc a (tups l)
def ioOf (look:Nat→Option Slot):List Nat→Option (List SlotC)
 | []=>some []
 | s :: ss=>match look s with
  | some ⟨_,_,some c⟩=>(match ioOf look ss with
   | some l=>some (c :: l)
   | none=>none)
  | _=>none
def ioNew (S:Slot):Option SlotC→Slot
 | some c=>⟨S.hv,S.cv+1,some c⟩
 | none=>⟨S.hv+1,0,none⟩
def ioUps (look:Nat→Option Slot):List Nat→List (Option SlotC)→Option Ups
 | [],[]=>some []
 | s :: ss,c :: l=>match look s with
  | some S=>(match ioUps look ss l with
   | some u=>some ((s,ioNew S c) :: u)
   | none=>none)
  | none=>none
 | _,_=>none
def nodupB:List Nat→Bool
 | []=>true
 | a :: l => !l.elem a && nodupB l
def ioFree (l:List (Option SlotC)):Bool:=l.all fun k=>match k with
 | some k=>k.t.free k.m
 | none=>true
def callK {R:Type} (E:Env) (look:Nat→Option Slot) (h:OH) (f:FuncId) (args:MV) (caps:MV) (K:MV→Ups→Option R):Option R :=
 bif !caps.isL || !nodupB h.mu then none else
 match argOf look h.mu args with
 | some (a,ss)=>match argOf look h.mu caps with
  | some (b,ss')=>bif (ss++ss').any (fun s=>h.mu.elem s) then none else
   match ioOf look h.mu with
   | some ios=>match E.Γ f (a.app b) ios with
    | some c=>c.run.bind fun r =>
     let fz:=bif c.t.free c.m && ioFree (c.io r) then [] else freezeAll look (ss++ss')
     match ioUps (Ups.look fz look) h.mu (c.io r) with
     | some ws=>match resTup (Ups.look ws (Ups.look fz look)) c.t c.m (c.out r) h.sl with
      | some (.tc v .tn,us)=>K v (us++(ws++fz))
      | some (mv,us)=>K mv (us++(ws++fz))
      | none=>none
     | none=>none
    | none=>none
   | none=>none
  | none=>none
 | none=>none
def CallResP.at (c:CallResP) (r:c.α):CallRes:=⟨c.α,some r,c.t,c.m,c.out,c.io⟩
def Env.one (E:Env) (c:CallRes):Env:=⟨E.P,E.tt,fun _ _ _=>some c,E.io,E.Γp⟩
def callKP {R:Type} (E:Env) (look:Nat→Option Slot) (h:OH) (f:FuncId) (args:MV) (caps:MV) (K:MV→Ups→Option R) (KP:TypeId→Option R):Option R :=
 bif !caps.isL || !nodupB h.mu then none else
 match argOf look h.mu args with
 | some (a,ss)=>match argOf look h.mu caps with
  | some (b,ss')=>bif (ss++ss').any (fun s=>h.mu.elem s) then none else
   match ioOf look h.mu with
   | some ios=>match E.Γp f (a.app b) ios with
    | some c=>c.run.bind (Sum.elim (fun _=>KP c.T) fun r=>callK (E.one (c.at r)) look h f args caps K)
    | none=>none
   | none=>none
  | none=>none
 | none=>none
def tyB (E:Env) (tid:TypeId) (t:Ty):Bool :=
 match E.tt tid with
 | some (t',_)=>decide (t'=t)
 | none=>false
def tyB2 (E:Env) (tid:TypeId) (t:Ty):Bool :=
 match E.tt tid with
 | some (t',_)=>decide (t'=t) || decide (unTy t'=t)
 | none=>false
def intBin (op:BinOp) (k:IntKind) (x y:Int):Option MV :=
 match op with
 | .add=>some (.val (.int k) (k.wrap (x+y)))
 | .sub=>some (.val (.int k) (k.wrap (x-y)))
 | .mul=>some (.val (.int k) (k.wrap (x*y)))
 | .eql=>some (.val .bool (decide (x=y)))
 | .neq=>some (.val .bool (!decide (x=y)))
 | .lss=>some (.val .bool (decide (x<y)))
 | .leq=>some (.val .bool (decide (x≤y)))
 | .gtr=>some (.val .bool (decide (y<x)))
 | .geq=>some (.val .bool (decide (y≤x)))
 | .and=>some (.val (.int k) (k.wrap (BitVec.ofInt k.bits x &&& BitVec.ofInt k.bits y).toNat))
 | .or=>some (.val (.int k) (k.wrap (BitVec.ofInt k.bits x ||| BitVec.ofInt k.bits y).toNat))
 | .xor=>some (.val (.int k) (k.wrap (BitVec.ofInt k.bits x ^^^ BitVec.ofInt k.bits y).toNat))
 | .andNot=>some (.val (.int k) (k.wrap (BitVec.ofInt k.bits x &&& ~~~BitVec.ofInt k.bits y).toNat))
 | _=>none
def binK {R:Type} (E:Env) (xt:TypeId) (op:BinOp) (a b:MV) (K:MV→Ups→Option R):Option R :=
 match a,b with
 | .val (.int k) x,.val (.int k') y =>
  match op with
  | .shl=>bif decide (y<0) then none else K (.val (.int k) (k.wrap (x*2 ^ (min y.toNat k.bits)))) []
  | .shr=>bif decide (y<0) then none else K (.val (.int k) (x.fdiv (2 ^ (min y.toNat k.bits)))) []
  | .quo=>if k=k' then (bif decide (y=0) then none else K (.val (.int k) (k.wrap (x.tdiv y))) []) else none
  | .rem=>if k=k' then (bif decide (y=0) then none else K (.val (.int k) (x.tmod y)) []) else none
  | op=>if k=k' then (match intBin op k x y with
   | some v=>K v []
   | none=>none) else none
 | .val .bool x,.val .bool y=>bif tyB E xt .bool then (match op with
  | .eql=>K (.val .bool (x == y)) []
  | .neq=>K (.val .bool (!(x == y))) []
  | _=>none) else none
 | .val .str x,.val .str y=>match op with
  | .eql=>K (.val .bool (x.toList == y.toList)) []
  | .neq=>K (.val .bool (!(x.toList == y.toList))) []
  | .add=>chk (Nat.ble (x.size+y.size) 1152921504606846976) (K (.val .str (x++y)) [])
  | _=>none
 | _,_=>none
def eqV:(t:Ty)→t.den→t.den→Bool
 | .bool,x,y=>x == y
 | .int _,x,y=>decide (x=y)
 | .str,x,y=>x.toList == y.toList
 | .unit,_,_=>true
 | .pair a b,x,y=>eqV a x.1 y.1 && eqV b x.2 y.2
 | .arr _ t,xs,ys=>(List.zip xs ys).all fun p=>eqV t p.1 p.2
 | _,_,_=>false
def eqT (E:Env):Nat→TypeId→Bool
 | 0,_=>false
 | n+1,e=>match E.tt e with
  | some (.bool,_) | some (.int _,_) | some (.str,_)=>true
  | some (.pair _ _,_) | some (.unit,_)=>(match E.P.underlying e with
   | some (.struct fs) => !E.P.stoodInHeld e && fs.toList.all (fun f=>f.name != "_" && eqT E n f.type)
   | _=>false)
  | some (.arr _ _,_)=>(match E.P.underlying e with
   | some (.array _ el)=>eqT E n el
   | _=>false)
  | _=>false
def eqK {R:Type} (E:Env) (xt:TypeId) (op:BinOp) (a b:MV) (K:MV→Ups→Option R):Option R :=
 match a,b with
 | .val (.pair a1 b1) x,.val t' y=>bif (match E.tt xt with
  | some (t,_)=>decide (t=.pair a1 b1)
  | none=>false) && eqT E 100 xt && !E.P.eqGuardType E.P.depth xt then (if h:t'=.pair a1 b1 then (match op with
   | .eql=>K (.val .bool (eqV (.pair a1 b1) x (h ▸ y))) []
   | .neq=>K (.val .bool (!eqV (.pair a1 b1) x (h ▸ y))) []
   | _=>none) else none) else none
 | .val (.ex .ptr a1 b1) x,.val (.ex .ptr _ _) y=>bif tyB E xt (.ex .ptr a1 b1) then (match y with
  | none=>(match op with
   | .eql=>K (.val .bool (Option.isNone x)) []
   | .neq=>K (.val .bool (!Option.isNone x)) []
   | _=>none)
  | some _=>none) else none
 | a,b=>binK E xt op a b K
def isNilC:Operand→Bool
 | .const (.slice none 0 0)=>true
 | _=>false
def nes {α:Type}:List α→Option Unit
 | []=>none
 | _ :: _=>some ()
def nilK {R:Type} (E:Env) (xt:TypeId) (op:BinOp) (a:MV) (K:MV→Ups→Option R):Option R :=
 match a with
 | .nv t _ b=>bif tyB E xt (.sl t) then (match op with
  | .eql=>K (.val .bool b) []
  | .neq=>K (.val .bool (!b)) []
  | _=>none) else none
 | .val (.sl t) x=>bif tyB E xt (.sl t) then ((nes (x:List t.den)).bind fun _=>match op with
  | .eql=>K (.val .bool false) []
  | .neq=>K (.val .bool true) []
  | _=>none) else none
 | _=>none
def setMany {α:Type} (l:List α):List (Nat × α)→List α
 | []=>l
 | (i,v) :: r=>setMany (l.set i v) r
def takeMany (t:Ty) (m:Mk):(Nat→Option Slot)→List (Nat × MV)→Option (List (Nat × t.den) × Ups)
 | _,[]=>some ([],[])
 | look,(i,v) :: r=>match takeX look t m v with
  | some (x,us)=>match takeMany t m (us.look look) r with
   | some (l,vs)=>some ((i,x) :: l,vs++us)
   | none=>none
  | none=>none
def srcOf (look:Nat→Option Slot) (t:Ty) (m:Mk) (v:MV):Option (List t.den × Ups) :=
 match v with
 | .nil=>some ([],[])
 | v=>match cont look v with
  | some ⟨.sl t',x,a⟩ =>
   if h:t'=t then
    bif t.flat then some (h ▸ x,[])
    else match a with
     | .im=>bif t.shared m then some (h ▸ x,[]) else none
     | .own s hv cv []=>match look s with
      | some S=>match S.c with
       | some c=>if c.m=.ow m then some (h ▸ x,[(s,gone S)]) else none
       | none=>none
      | none=>none
     | _=>none
   else none
  | _=>none
def lenB (n:Nat):Bool:=Nat.ble n 68719476736
def appendK {R:Type} (E:Env) (look:Nat→Option Slot) (h:OH) (tid:TypeId) (base src:MV) (K:MV→Ups→Option R):Option R :=
 match E.tt tid with
 | some (.sl t,bytes)=>match base with
  | .nil=>match h.sl with
   | n :: _=>match look n with
    | some S=>match srcOf look t h.m src with
     | some (ys,us)=>bif us.any (fun u=>Nat.beq u.1 n) then none else chk (lenB ys.length) (K (.root n (S.hv+1)) ((n,⟨S.hv+1,0,some ⟨.sl t,.ow h.m,ys⟩⟩) :: us))
     | none=>none
    | none=>none
   | []=>none
  | .root s hv=>match lookH look s hv with
   | some (cv,⟨.sl t',.ow m,x⟩) =>
    if e:t'=t then
     match srcOf look t m src with
     | some (ys,us)=>bif us.any (fun u=>Nat.beq u.1 s) then none else
      chk (lenB ((e ▸ x:List t.den).length+ys.length)) (K (.root s (hv+1)) ((s,⟨hv+1,0,some ⟨.sl t,.ow m,(e ▸ x:List t.den)++ys⟩⟩) :: us))
     | none=>none
    else none
   | _=>none
  | .view s hv cv (some (p0 :: p1)) (.sl t') x=>match lookC look s hv cv with
   | some c=>let p:=p0 :: p1; match c.m,mkP c.t c.m p with
    | .ow _,some (.ow m) =>
     if e:t'=t then
      match srcOf look t m src with
      | some (ys,us)=>bif us.any (fun u=>Nat.beq u.1 s) || !(t.flat || t.shared m) then none else
       chk (lenB ((e ▸ x:List t.den).length+ys.length)) (K (.pend s hv (cv+1) p t ((e ▸ x:List t.den)++ys)) ((s,⟨hv,cv+1,some c⟩) :: us))
      | none=>none
     else none
    | _,_=>none
   | none=>none
  | _=>none
 | _=>none
def sameP:Path→Path→Bool
 | [],[]=>true
 | .f1 :: p,.f1 :: q=>sameP p q
 | .f2 :: p,.f2 :: q=>sameP p q
 | .el i :: p,.el j :: q=>Nat.beq i j && sameP p q
 | _,_=>false
def storeK {R:Type} (look:Nat→Option Slot) (ad v:MV) (K:MV→Ups→Option R):Option R :=
 match ad with
 | .adr s hv cv (some p) t _=>match lookC look s hv cv with
  | some c=>match c.m,mkP c.t c.m p with
   | .ow _,some m=>match v with
    | .pend s' hv' cv' p' t' y =>
     bif Nat.beq s s' && Nat.beq hv hv' && Nat.beq cv cv' && decide (t=.sl t') then chk (sameP p p') (K .dead [(s,⟨hv,cv+1,some ⟨c.t,c.m,setP c.t c.x p ⟨.sl t',y⟩⟩⟩)]) else none
    | v=>match takeX look t m v with
     | some (y,us)=>bif us.any (fun u=>Nat.beq u.1 s) then none else K .dead ((s,⟨hv,cv+1,some ⟨c.t,c.m,setP c.t c.x p ⟨t,y⟩⟩⟩) :: us)
     | none=>none
   | _,_=>none
  | none=>none
 | _=>none
def loadMV (look:Nat→Option Slot):MV→Option MV
 | .iadr t x=>some (.val t x)
 | .adr s hv cv p t x=>match lookC look s hv cv with
  | some c =>
   bif t.flat || !c.m.isOw then some (.val t x) else
   match p with
   | some q=>match mkP c.t c.m q with
    | some m=>some (bif t.shared m then .val t x else .view s hv cv p t x)
    | none=>none
   | none=>some (.view s hv cv none t x)
  | none=>none
 | _=>none
def MV.agg:MV→Bool
 | .val t _ | .view _ _ _ _ t _=>t.agg
 | .pr _ _ | .un=>true
 | _=>false
def MV.sz:MV→Option Nat
 | .val t _ | .view _ _ _ _ t _=>some t.size
 | .nil | .root _ _ | .adr _ _ _ _ _ _ | .iadr _ _ | .pend _ _ _ _ _ _ | .fn _ _=>some 1
 | .pr a b=>match a.sz,b.sz with
  | some n,some m=>some (n+m)
  | _,_=>none
 | .un=>some 0
 | _=>none
def fits:Ty→MV→Bool
 | .pair a b,.pr u v=>(match u.sz with | some n=>Nat.beq n a.size | none=>false) && (u.agg == a.agg) && fits b v
 | .pair a b,.val (.pair a' b') x=>decide (a'=a) && decide (b'=b)
 | .unit,.un=>true
 | .unit,.val .unit _=>true
 | _,_=>false
def newSlot {R:Type} (look:Nat→Option Slot) (h:OH) (c:SlotC) (us:Ups) (mk:Nat→Nat→MV) (K:MV→Ups→Option R):Option R :=
 match h.sl with
 | n :: _=>match look n with
  | some S=>bif us.any (fun u=>Nat.beq u.1 n) then none else K (mk n (S.hv+1)) ((n,⟨S.hv+1,0,some c⟩) :: us)
  | none=>none
 | []=>none
def fnB (P:Program) (e:TypeId):Bool :=
 match P.underlying e with
 | some (.func _ _ _)=>true
 | _=>false
def clB (P:Program) (e:TypeId):Bool :=
 (match P.underlying e with
 | some (.func _ _ _) | some (.pointer _) | some (.slice _) | some (.map _ _)=>true
 | _=>false) && (match P.info? e with
 | some i=>Nat.beq i.size 1
 | none=>false)
def opCore {R:Type} (E:Env) (ρ:Operand→MV) (look:Nat→Option Slot) (o:Oper) (h:OH) (K:MV→Ups→Option R):Option R :=
 match o.op with
 | .move x=>K (ρ x) []
 | .assign x=>match h.sl,ρ x with
  | n :: _,.nil=>match E.tt o.type with
   | some (.sl t,_)=>newSlot look h ⟨.sl t,.ow h.m,[]⟩ [] .root K
   | _=>none
  | _,v=>K v []
 | .pick c a b=>match ρ c with
  | .val .bool v=>match ρ a,ρ b with
   | .val .bool x,.val .bool y=>K (.val .bool (bif v then x else y)) []
   | x,y=>bif v then K x [] else K y []
  | _=>none
 | .binOp op xt x y _=>bif isNilC y then nilK E xt op (ρ x) K else eqK E xt op (ρ x) (ρ y) K
 | .unOp op _ x=>match op,ρ x with
  | .not,.val .bool b=>K (.val .bool (!b)) []
  | .neg,.val (.int k) n=>K (.val (.int k) (k.wrap (0-n))) []
  | _,_=>none
 | .convert s d x=>match E.tt s,E.tt d,ρ x with
  | some (.int _,_),some (.int k,_),.val (.int k') n=>K (.val (.int k) (k.wrap n)) []
  | _,_,_=>none
 | .extract x i=>match ρ x with
  | .tc a (.tc b (.tc c _))=>match i with
   | 0=>K a []
   | 1=>K b []
   | 2=>K c []
   | _=>none
  | .tc a (.tc b .tn)=>match i with
   | 0=>K a []
   | 1=>K b []
   | _=>none
  | _=>none
 | .nilCheck x=>match ρ x with
  | .adr s hv cv p t v=>bif (lookC look s hv cv).isSome then K (.adr s hv cv p t v) [] else none
  | .iadr t v=>K (.iadr t v) []
  | .val (.ex .ptr t _) v=>Option.bind v fun v=>K (.iadr t v) []
  | _=>none
 | .alloc e=>match E.tt e with
  | some (t,_)=>newSlot look h ⟨.sl (unTy t),.ow h.m,[(unTy t).zero]⟩ [] (fun n hv=>.adr n hv 0 (some [.el 0]) (unTy t) (unTy t).zero) K
  | none=>none
 | .box e x=>match E.tt e with
  | some (t,_)=>match takeX look (unTy t) h.m (unMV (ρ x)) with
   | some (v,us)=>newSlot look h ⟨.sl (unTy t),.ow h.m,[v]⟩ us (fun n hv=>.adr n hv 0 (some [.el 0]) (unTy t) v) K
   | none=>none
  | none=>none
 | .build e parts=>match E.tt e with
  | some (t,_)=>match unTy t with
   | .pair a b =>
    bif isChain b && (parts.toList.all fun p=>match (a :: flds b)[p.1]?,(ρ p.2).sz with
     | some t,some n=>Nat.beq n t.size
     | _,_=>false)
    then K (tupP (setMany ((a :: flds b).map zeroMV) (parts.toList.map fun p=>(p.1,foMV ((a :: flds b).getD p.1 .unit) (ρ p.2))))) [] else none
   | _=>none
  | none=>none
 | .buildSlice e n parts=>match E.tt e with
  | some (.sl t,_)=>match takeMany t h.m look (parts.toList.map fun p=>(p.1,ρ p.2)) with
   | some (l,us)=>chk (Nat.ble (n*t.size) 16777216 && l.all fun p=>Nat.blt p.1 n) (newSlot look h ⟨.sl t,.ow h.m,setMany (List.replicate n t.zero) l⟩ us .root K)
   | none=>none
  | _=>none
 | .makeSlice e l c=>match E.tt e with
  | some (.sl t,bytes)=>match ρ l,ρ c with
   | .val (.int _) n,.val (.int _) m=>chk (decide (0≤n)) (chk (decide (n≤m)) (chk (lenB m.toNat) ((newSlot look h ⟨.sl t,.ow h.m,List.replicate n.toNat t.zero⟩ [] .root K))))
   | _,_=>none
  | _=>none
 | .load e a=>match ρ a with
  | .adr s hv cv p t v=>bif tyB2 E e t then (match loadMV look (.adr s hv cv p t v) with
   | some v=>K v []
   | none=>none) else none
  | .iadr t v=>bif tyB2 E e t then K (.val t v) [] else none
  | .icl m=>bif clB E.P e then K m [] else none
  | _=>none
 | .store e a v=>match ρ a with
  | .adr s hv cv p t x=>bif tyB2 E e t then storeK look (.adr s hv cv p t x) (ρ v) K else none
  | _=>none
 | .fieldAddr e x i=>match unMV (ρ x) with
  | .iadr t v=>bif tyB2 E e t then (match getFld t v i with
   | some d=>bif Nat.beq d.1.size 0 then none else K (.iadr d.1 d.2) []
   | none=>none) else none
  | .adr s hv cv p t v=>bif tyB2 E e t then (match getFld t v i with
   | some d=>bif Nat.beq d.1.size 0 || (lookC look s hv cv).isNone then none else K (.adr s hv cv (p.map (·++fldP i)) d.1 d.2) []
   | none=>none) else none
  | _=>none
 | .field e x i=>match E.tt e with
  | some (t,_)=>bif fits (unTy t) (unMV (ρ x)) then (match (unMV (ρ x)).getFld i with
   | some d=>K d []
   | none=>none) else none
  | none=>none
 | .indexAddr e x i=>match ρ i with
  | .val (.int _) n=>match cont look (unMV (ρ x)) with
   | some ⟨.sl t,xs,a⟩=>bif tyB E e (.sl t) then ((idx xs n).bind fun v=>K (a.adr look n.toNat t v) []) else none
   | _=>none
  | _=>none
 | .makeFunc fn first caps=>match fn with
  | .func f=>bif first.isEmpty then K (.fn f (tups (caps.toList.map ρ))) [] else none
  | _=>none
 | .call c=>match c.callee with
  | .value f=>match ρ f with
   | .fn g caps=>callK E look h g (tups (c.args.toList.map ρ)) caps K
   | _=>none
  | .builtin .len=>match c.args.toList,c.argTypes.toList with
   | [x],ty :: _=>match unMV (ρ x) with
    | .nil=>match E.tt ty with
     | some (.sl _,_)=>K (.val (.int .i64) (0:Int)) []
     | _=>none
    | .val .str s=>bif tyB E ty .str then K (.val (.int .i64) (s.size:Int)) [] else none
    | v=>match cont look v with
     | some ⟨.sl t,xs,_⟩=>bif tyB E ty (.sl t) then K (.val (.int .i64) (xs.length:Int)) [] else none
     | _=>none
   | _,_=>none
  | .builtin .append=>match c.args.toList,c.argTypes.toList with
   | [x,y],ty :: ty' :: _=>bif Nat.beq ty ty' then appendK E look h ty (ρ x) (unMV (ρ y)) K else none
   | _,_=>none
  | .builtin .min=>match c.args.toList with
   | [x,y]=>match ρ x,ρ y with
    | .val (.int k) a,.val (.int _) b=>K (.val (.int k) (if b<a then b else a)) []
    | _,_=>none
   | _=>none
  | .builtin .max=>match c.args.toList with
   | [x,y]=>match ρ x,ρ y with
    | .val (.int k) a,.val (.int _) b=>K (.val (.int k) (if b > a then b else a)) []
    | _,_=>none
   | _=>none
  | _=>none
 | _=>none
theorem Rep.more {Z Z':Bs} {w:World} {t:Ty} {m:Mk} {x:t.den} {fp:Bs} {cs:List Value} (hZ:∀ b,Z b→Z' b) (h:Rep Z w t m x fp cs):Rep Z' w t m x fp cs :=
 h.keep (fun b hb=>⟨hZ b hb,rfl⟩) fun _ _=>rfl
theorem Rep.flat {Z Z':Bs} {w:World}:∀ {t:Ty} {m m':Mk} {x:t.den} {fp fp':Bs} {cs:List Value},t.flat=true→Rep Z w t m x fp cs→Rep Z' w t m' x fp' cs
 | .bool,_,_,_,_,_,_,_,h | .int _,_,_,_,_,_,_,_,h | .str,_,_,_,_,_,_,_,h | .unit,_,_,_,_,_,_,_,h=>h
 | .pair a b,_,_,_,_,_,_,hf,⟨c1,c2,f1,f2,e,r,i,_⟩=>by
  simp only [Ty.flat,Bool.and_eq_true] at hf
  exact ⟨c1,c2,none_,none_,e,Rep.flat hf.1 r,Rep.flat hf.2 i,fun _ h=>h.elim,fun _ h=>h.elim,fun _ h=>h.elim⟩
 | .arr n t,m,m',xs,fp,fp',cs,hf,⟨hl,hi⟩=>by
  refine ⟨hl,?_⟩
  clear hl
  have gen:∀ (xs:List t.den) (fp fp':Bs) (cs:List Value),Inline (fun x f c=>Rep Z w t m x f c) xs fp cs→Inline (fun x f c=>Rep Z' w t m' x f c) xs fp' cs:=by
   intro xs
   induction xs with
   | nil=>intro _ _ _ h; exact h
   | cons x xs ih =>
    rintro fp fp' cs ⟨c1,c2,f1,f2,e,r,i,_⟩
    exact ⟨c1,c2,none_,none_,e,Rep.flat (t:=t) hf r,ih _ _ _ i,fun _ h=>h.elim,fun _ h=>h.elim,fun _ h=>h.elim⟩
  exact gen _ _ _ _ hi
 | .sl _,_,_,_,_,_,_,hf,_=>by cases hf
 | .mp _ _,_,_,_,_,_,_,hf,_=>by cases hf
 | .ex _ _ _,_,_,_,_,_,_,hf,_=>by cases hf
theorem Entries.map_ {α β:Type} {Rk Rk':α→List Value→Prop} {Rv Rv':β→Bs→List Value→Prop} {kv vv:List Value→Value} {g:Bs→Bs} (hk:∀ x c,Rk x c→Rk' x c) (hv:∀ x f c,Rv x f c→Rv' x none_ c) :
 ∀ {xs:List (α × β)} {es:List MapEntry} {fp:Bs},Entries Rk Rv kv vv xs es fp→Entries Rk' Rv' kv vv xs es none_
 | [],_,_,h=>h
 | _ :: xs,_,_,⟨e,es',ck,cv,f1,f2,he,h1,h2,h3,h4,h5,a,b,d⟩=>⟨e,es',ck,cv,none_,none_,he,h1,h2,hk _ _ h3,hv _ _ _ h4,Entries.map_ (g:=g) hk hv h5,fun _ h=>h.elim,fun _ h=>h.elim,fun _ h=>h.elim⟩
theorem Rep.freeze {Z:Bs} {w:World}:∀ {t:Ty} {m:Mk} {x:t.den} {fp:Bs} {cs:List Value},Rep Z w t m x fp cs→∀ {Z':Bs},(∀ b,Z b∨fp b→Z' b)→Rep Z' w t .im x none_ cs
 | .bool,_,_,_,_,h,_,_ | .int _,_,_,_,_,h,_,_ | .str,_,_,_,_,h,_,_ | .unit,_,_,_,_,h,_,_=>h
 | .pair a b,_,_,_,_,⟨c1,c2,f1,f2,e,r,i,s1,s2,_⟩,Z',hZ =>
  ⟨c1,c2,none_,none_,e,r.freeze (fun b h=>hZ b (h.imp id (s1 b))),i.freeze (fun b h=>hZ b (h.imp id (s2 b))),fun _ h=>h.elim,fun _ h=>h.elim,fun _ h=>h.elim⟩
 | .arr n t,m,xs,fp,cs,⟨hl,hi⟩,Z',hZ=>by
  refine ⟨hl,?_⟩
  clear hl
  have gen:∀ (xs:List t.den) (fp:Bs) (cs:List Value),(∀ b,Z b∨fp b→Z' b)→Inline (fun x f c=>Rep Z w t m x f c) xs fp cs→Inline (fun x f c=>Rep Z' w t .im x f c) xs none_ cs:=by
   intro xs
   induction xs with
   | nil=>intro _ _ _ h; exact h
   | cons x xs ih =>
    rintro fp cs hZ ⟨c1,c2,f1,f2,e,r,i,s1,s2,_⟩
    exact ⟨c1,c2,none_,none_,e,Rep.freeze (t:=t) r (fun b h=>hZ b (h.imp id (s1 b))),ih _ _ (fun b h=>hZ b (h.imp id (s2 b))) i,fun _ h=>h.elim,fun _ h=>h.elim,fun _ h=>h.elim⟩
  exact gen _ _ _ hZ hi
 | .sl t,.ow m,xs,fp,cs,⟨A,cap,e,h⟩,Z',hZ=>by
  rcases h with ⟨h1,h2⟩ | ⟨b,o,c,e',h1,h2,h3,h4,h5,fps,css,h6,h7⟩
  ·exact ⟨A,cap,e,by rw [h1]; exact Nat.zero_le _,.inl h1⟩
  ·refine ⟨A,cap,e,h5,.inr ⟨b,o,h1,hZ b (.inr h2),fun _=>none_,css,fun i x hx => ?_,fun _ _ _ h=>h.elim⟩⟩
   obtain ⟨q1,q2,q3,q4⟩:=h6 i x hx
   exact ⟨Rep.freeze (t:=t) q1 (fun b h=>hZ b (h.imp id fun h=>(q4 b h).1)),q2,q3,fun _ h=>h.elim⟩
 | .sl t,.im,xs,fp,cs,h,Z',hZ | .sl t,.pr _ _,xs,fp,cs,h,Z',hZ=>by
  have h':Rep Z w (.sl t) .im xs fp cs:=h
  exact (h'.more (Z':=Z') fun b hb=>hZ b (.inl hb))
 | .mp k v,.ow m,xs,fp,cs,h,Z',hZ=>by
  rcases h with h | ⟨b,es,n,l,hl,h1,h2,h3,f,h4,h5⟩
  ·exact .inl h
  ·exact .inr ⟨b,es,n,l,hl,h1,hZ b (.inr h2),h3,Entries.map_ (g:=id) (fun x c h=>Rep.more (t:=k) (fun b hb=>hZ b (.inl hb)) h) (fun x f c h=>h) (Entries.keep (fun x c h=>h) (fun x f' c hf h=>Rep.freeze (t:=v) h (fun b hb=>hZ b (hb.imp id fun hb=>(h4 b (hf b hb)).1))) (Entries.keep (Rv':=fun x f' c=>(∀ b,f' b→f b)∧Rep Z w v m x f' c) (fun x c h=>h) (fun x f' c hf h=>⟨hf,h⟩) h5 |> Entries.keep (fun x c h=>h) (fun x f' c hf h=>h.2)) |> fun h=>h)⟩
 | .mp k v,.im,xs,fp,cs,h,Z',hZ | .mp k v,.pr _ _,xs,fp,cs,h,Z',hZ=>by
  have h':Rep Z w (.mp k v) .im xs fp cs:=h
  exact (h'.more (Z':=Z') fun b hb=>hZ b (.inl hb))
 | .ex k a b,m,xs,fp,cs,h,Z',hZ=>by
  have h':Rep Z w (.ex k a b) .im xs fp cs:=h
  exact (h'.more (Z':=Z') fun b hb=>hZ b (.inl hb))
theorem Rep.share {Z:Bs} {w:World}:∀ {t:Ty} {m:Mk} {x:t.den} {fp:Bs} {cs:List Value},t.shared m=true→Rep Z w t m x fp cs→Rep Z w t .im x none_ cs
 | .bool,_,_,_,_,_,h | .int _,_,_,_,_,_,h | .str,_,_,_,_,_,h | .unit,_,_,_,_,_,h=>h
 | .pair a b,_,_,_,_,hf,⟨c1,c2,f1,f2,e,r,i,_⟩=>by
  simp only [Ty.shared,Bool.and_eq_true] at hf
  exact ⟨c1,c2,none_,none_,e,Rep.share hf.1 r,Rep.share hf.2 i,fun _ h=>h.elim,fun _ h=>h.elim,fun _ h=>h.elim⟩
 | .arr n t,m,xs,fp,cs,hf,⟨hl,hi⟩=>by
  refine ⟨hl,?_⟩
  clear hl
  have gen:∀ (xs:List t.den) (fp:Bs) (cs:List Value),Inline (fun x f c=>Rep Z w t m x f c) xs fp cs→Inline (fun x f c=>Rep Z w t .im x f c) xs none_ cs:=by
   intro xs
   induction xs with
   | nil=>intro _ _ h; exact h
   | cons x xs ih =>
    rintro fp cs ⟨c1,c2,f1,f2,e,r,i,_⟩
    exact ⟨c1,c2,none_,none_,e,Rep.share (t:=t) hf r,ih _ _ i,fun _ h=>h.elim,fun _ h=>h.elim,fun _ h=>h.elim⟩
  exact gen _ _ _ hi
 | .sl _,.im,_,_,_,_,h=>h
 | .sl _,.ow _,_,_,_,hf,_=>by cases hf
 | .sl _,.pr _ _,_,_,_,hf,_=>by cases hf
 | .mp _ _,.im,_,_,_,_,h=>h
 | .mp _ _,.ow _,_,_,_,hf,_=>by cases hf
 | .mp _ _,.pr _ _,_,_,_,hf,_=>by cases hf
 | .ex _ _ _,_,_,_,_,_,h=>h
theorem Rep.unshare {Z:Bs} {w:World}:∀ {t:Ty} {m:Mk} {x:t.den} {fp:Bs} {cs:List Value},t.shared m=true→Rep Z w t .im x none_ cs→Rep Z w t m x fp cs
 | .bool,_,_,_,_,_,h | .int _,_,_,_,_,_,h | .str,_,_,_,_,_,h | .unit,_,_,_,_,_,h=>h
 | .pair a b,_,_,_,_,hf,⟨c1,c2,f1,f2,e,r,i,a1,a2,_⟩=>by
  simp only [Ty.shared,Bool.and_eq_true] at hf
  exact ⟨c1,c2,none_,none_,e,Rep.unshare hf.1 (r.mono a1),Rep.unshare hf.2 (i.mono a2),fun _ h=>h.elim,fun _ h=>h.elim,fun _ h=>h.elim⟩
 | .arr n t,m,xs,fp,cs,hf,⟨hl,hi⟩=>by
  refine ⟨hl,?_⟩
  clear hl
  have gen:∀ (xs:List t.den) (fp:Bs) (cs:List Value),Inline (fun x f c=>Rep Z w t .im x f c) xs none_ cs→Inline (fun x f c=>Rep Z w t m x f c) xs fp cs:=by
   intro xs
   induction xs with
   | nil=>intro _ _ h; exact h
   | cons x xs ih =>
    rintro fp cs ⟨c1,c2,f1,f2,e,r,i,a1,a2,_⟩
    exact ⟨c1,c2,none_,none_,e,Rep.unshare (t:=t) hf (r.mono a1),ih _ _ (Inline.mono (fun _ _ _ h=>h) a2 i),fun _ h=>h.elim,fun _ h=>h.elim,fun _ h=>h.elim⟩
  exact gen _ _ _ hi
 | .sl _,.im,_,_,_,_,h=>h
 | .sl _,.ow _,_,_,_,hf,_=>by cases hf
 | .sl _,.pr _ _,_,_,_,hf,_=>by cases hf
 | .mp _ _,.im,_,_,_,_,h=>h
 | .mp _ _,.ow _,_,_,_,hf,_=>by cases hf
 | .mp _ _,.pr _ _,_,_,_,hf,_=>by cases hf
 | .ex _ _ _,_,_,_,_,_,h=>h
theorem Rep.free {Z Z':Bs} {w:World}:∀ {t:Ty} {m:Mk} {x:t.den} {fp:Bs} {cs:List Value},t.free m=true→Rep Z w t m x fp cs→Rep Z' w t m x fp cs
 | .bool,_,_,_,_,_,h | .int _,_,_,_,_,_,h | .str,_,_,_,_,_,h | .unit,_,_,_,_,_,h=>h
 | .pair a b,_,_,_,_,hf,⟨c1,c2,f1,f2,e,r,i,h⟩=>by
  simp only [Ty.free,Bool.and_eq_true] at hf
  exact ⟨c1,c2,f1,f2,e,Rep.free hf.1 r,Rep.free hf.2 i,h⟩
 | .arr n t,m,xs,fp,cs,hf,⟨hl,hi⟩=>⟨hl,Inline.mono (fun x f c h=>Rep.free (t:=t) hf h) (fun _ h=>h) hi⟩
 | .sl t,.ow m,xs,fp,cs,hf,⟨A,cap,e,h⟩=>⟨A,cap,e,h.imp id fun ⟨b,o,c,e,h1,h2,h3,h4,h5,h6⟩=>⟨b,o,c,e,h1,h2,h3,h4,h5,Elems.keep rfl (fun x f c _ h=>Rep.free (t:=t) hf h) h6⟩⟩
 | .sl _,.im,_,_,_,hf,_=>by cases hf
 | .sl _,.pr _ _,_,_,_,hf,_=>by cases hf
 | .mp k v,.ow m,_,_,_,hf,h=>by
  simp only [Ty.free,Bool.and_eq_true] at hf
  exact h.imp id fun ⟨b,es,n,l,hl,h1,h2,h3,f,h4,h5⟩=>⟨b,es,n,l,hl,h1,h2,h3,f,h4,Entries.keep (fun x c h=>Rep.free (t:=k) hf.1 h) (fun x f c _ h=>Rep.free (t:=v) hf.2 h) h5⟩
 | .mp _ _,.im,_,_,_,hf,_=>by cases hf
 | .mp _ _,.pr _ _,_,_,_,hf,_=>by cases hf
 | .ex _ _ _,_,_,_,_,hf,_=>by cases hf
theorem Rep.zero (Z:Bs) (w:World):∀ (t:Ty) (m:Mk) (fp:Bs),Rep Z w t m t.zero fp t.zcells
 | .bool,_,_ | .int _,_,_ | .str,_,_ | .unit,_,_=>rfl
 | .pair a b,m,fp=>⟨a.zcells,b.zcells,none_,none_,rfl,Rep.zero Z w a m.l none_,Rep.zero Z w b m.r none_,fun _ h=>h.elim,fun _ h=>h.elim,fun _ h=>h.elim⟩
 | .arr n t,m,fp=>by
  refine ⟨by simp [Ty.zero],?_⟩
  have h0:=fun fp=>Rep.zero Z w t m fp
  simp only [Ty.zero,Ty.zcells]
  have gen:∀ (n:Nat) (fp:Bs),Inline (fun x f c=>Rep Z w t m x f c) (List.replicate n t.zero) fp (List.replicate n t.zcells).flatten:=by
   intro n
   induction n with
   | zero=>intro fp; exact rfl
   | succ n ih=>intro fp; exact ⟨t.zcells,_,none_,none_,rfl,h0 _,ih none_,fun _ h=>h.elim,fun _ h=>h.elim,fun _ h=>h.elim⟩
  exact gen n fp
 | .sl _,.ow _,_=>⟨none,0,rfl,.inl ⟨rfl,rfl⟩⟩
 | .sl _,.im,_ | .sl _,.pr _ _,_=>⟨none,0,rfl,Nat.le_refl _,.inl rfl⟩
 | .mp _ _,.ow _,_ | .mp _ _,.im,_ | .mp _ _,.pr _ _,_=>.inl ⟨rfl,rfl⟩
 | .ex .tree a b,_,_=>⟨1,a.zcells,none,b.zcells,0,rfl,Rep.zero Z w a .im none_,Rep.zero Z w b .im none_,Nat.le_refl _,.inl rfl⟩
 | .ex .ptr _ _,_,_=>.inl ⟨rfl,rfl⟩
 | .ex (.ifc _ _) _ _,_,_=>.inl ⟨rfl,rfl⟩
 | .ex (.fn0 _ _) _ _,_,_=>.inl ⟨rfl,rfl⟩
 | .ex (.fn1 _) _ _,_,_=>.inl ⟨rfl,rfl⟩
 | .ex .cell _ _,_,_=>rfl
theorem shared_im:∀ t:Ty,t.shared .im=true
 | .bool | .int _ | .str | .unit | .sl _ | .mp _ _ | .ex _ _ _=>rfl
 | .pair a b=>by
  show (a.shared .im && b.shared .im)=true
  rw [shared_im a,shared_im b]; rfl
 | .arr _ t=>shared_im t
def MV.out:MV→List Value→Value
 | .tc _ _,cs | .tn,cs=>.tuple cs.toArray
 | m,cs=>bif m.agg then .agg cs.toArray else cs.headD (.tuple #[])
def Cells (n:Nat) (cs:List Value):Prop:=cs.length=n∧∀ v∈cs,v.oneCell'=true
def PathOK (w:World) (c:SlotC) (hd:Value) (p:Path) (t:Ty) (x:t.den) (cs:List Value):Prop :=
 getP c.t c.x p=some ⟨t,x⟩∧(c.m.isOw=true→subc w c.t [hd] p=some cs∧∃ m,mkP c.t c.m p=some m)
def RelC (Z:Bs) (w:World) (sl:Nat→Option Slot) (hdr:Nat→Value) (fp:Nat→Bs):MV→List Value→Prop
 | .dead,_=>True
 | .val t x,cs=>Rep Z w t .im x none_ cs
 | .nil,cs=>∃ A,cs=[.slice A 0 0]
 | .root s hv,cs=>Cells 1 cs∧∃ S,sl s=some S∧hv≤S.hv∧(hv=S.hv→∀ c,S.c=some c→cs=[hdr s])
 | .view s hv cv po t x,cs=>Cells t.size cs∧∃ S,sl s=some S∧hv≤S.hv∧(hv=S.hv→cv≤S.cv∧(cv=S.cv→∀ c,S.c=some c →
  (∃ m f,Rep Z w t m x f cs∧(∀ k,f k→fp s k)∧(c.m.isOw=false→∀ k,¬ f k))∧∀ p,po=some p→PathOK w c (hdr s) p t x cs))
 | .adr s hv cv po t x,cs=>Cells 1 cs∧∃ S,sl s=some S∧hv≤S.hv∧(hv=S.hv→cv≤S.cv∧(cv=S.cv→∀ c,S.c=some c →
  ∃ b o ks,cs=[.pointer (some ⟨b,o,none⟩)]∧At w b o ks∧(fp s b∨Z b)∧(c.m.isOw=false→Z b)∧(∃ m f,Rep Z w t m x f ks∧(∀ k,f k→fp s k)∧(c.m.isOw=false→∀ k,¬ f k)) ∧
   ∀ p,po=some p→PathOK w c (hdr s) p t x ks∧(c.m.isOw=true→addrOf w c.t [hdr s] none p=some (b,o))))
 | .iadr t x,cs=>∃ b o ks,cs=[.pointer (some ⟨b,o,none⟩)]∧At w b o ks∧Z b∧Rep Z w t .im x none_ ks
 | .pend s hv cv p t x,cs=>Cells 1 cs∧∃ S,sl s=some S∧hv≤S.hv∧(hv=S.hv→cv≤S.cv∧(cv=S.cv→∀ c,S.c=some c→c.m.isOw=true→∃ m x0,
  mkP c.t c.m p=some (.ow m)∧getP c.t c.x p=some ⟨.sl t,x0⟩∧(Rep Z w (.sl t) (.ow m) x none_ cs∨∃ b0,Rep Z w (.sl t) (.ow m) x (fun k=>k=b0) cs∧fp s b0 ∧
  (Rep Z w c.t c.m c.x (fun k=>fp s k∧k≠b0) [hdr s]∨∃ o l cap,subc w c.t [hdr s] p=some [.slice (some ⟨b0,o,none⟩) l cap]∧0<cap))))
 | .pr a b,cs=>∃ c1 c2,cs=c1++c2∧RelC Z w sl hdr fp a c1∧RelC Z w sl hdr fp b c2
 | .un,cs=>cs=[]
 | .meth i j nm,cs=>∃ t v,cs=[.func (.method nm) #[.iface t v] #[]]∧(t=i∨t=j)
 | .tc a b,cs=>∃ c1 v vs,cs=v :: vs∧(a=.dead∨RelC Z w sl hdr fp a c1∧v=a.out c1)∧RelC Z w sl hdr fp b vs
 | .tn,cs=>cs=[]
 | .fn f caps,cs=>∃ ks,cs=[.func (.func f) #[] ks.toArray]∧RelC Z w sl hdr fp caps ks
 | .nv t x b,cs=>Rep Z w (.sl t) .im x none_ cs∧∀ A l c,cs=[.slice A l c]→A.isNone=b
 | .icl m,cs=>∃ b o ks,cs=[.pointer (some ⟨b,o,none⟩)]∧At w b o [m.out ks]∧Z b∧RelC Z w sl hdr fp m ks
 | .ptr s hv t,cs=>Cells 1 cs∧∃ S,sl s=some S∧hv≤S.hv∧(hv=S.hv→∀ c,S.c=some c→∃ b o l cap,hdr s=.slice (some ⟨b,o,none⟩) l cap∧cs=[.pointer (some ⟨b,o,none⟩)])
def RelV (Z:Bs) (w:World) (sl:Nat→Option Slot) (hdr:Nat→Value) (fp:Nat→Bs) (a:MV) (v:Value):Prop :=
 a=.dead∨∃ cs,RelC Z w sl hdr fp a cs∧v=a.out cs
structure HR (Z:Bs) (w:World) (sl:Nat→Option Slot) (hdr:Nat→Value) (fp:Nat→Bs):Prop where
 rep:∀ s hv cv c,sl s=some ⟨hv,cv,some c⟩→Rep Z w c.t c.m c.x (fp s) [hdr s]
 shape:∀ s hv cv c,sl s=some ⟨hv,cv,some c⟩→(∃ t,c.t=.sl t)∨∃ k v,c.t=.mp k v
 disj:∀ s s' b,fp s b→fp s' b→s=s'
 lt:∀ s b,fp s b→b<w.heap.size
 zlt:∀ b,Z b→b<w.heap.size
 dz:∀ s b,fp s b→¬ Z b
structure TransS (Z:Bs) (w:World) (sl:Nat→Option Slot) (hdr:Nat→Value) (fp:Nat→Bs) (Z':Bs) (w':World) (sl':Nat→Option Slot) (hdr':Nat→Value) (fp':Nat→Bs):Prop where
 z:∀ b,Z b→Z' b∧w'.heap[b]?=w.heap[b]?
 slot:∀ s S,sl s=some S→∃ S',sl' s=some S'∧(S.hv<S'.hv∨S.hv=S'.hv∧S.cv<S'.cv∧(∀ c',S'.c=some c'→(∃ c,S.c=some c)∧hdr' s=hdr s) ∨
  S.hv=S'.hv∧S.cv=S'.cv∧∀ c',S'.c=some c'→∃ c,S.c=some c∧hdr' s=hdr s∧(∀ b,fp s b→w'.heap[b]?=w.heap[b]?)∧((c'=c∧∀ b,fp s b→fp' s b)∨(c'=⟨c.t,.im,c.x⟩∧∀ b,fp s b→Z' b)))
structure Trans (Z:Bs) (w:World) (sl:Nat→Option Slot) (hdr:Nat→Value) (fp:Nat→Bs) (Z':Bs) (w':World) (sl':Nat→Option Slot) (hdr':Nat→Value) (fp':Nat→Bs):Prop where
 z:∀ b,Z b→Z' b∧w'.heap[b]?=w.heap[b]?
 slot:∀ s S,sl s=some S→∃ S',sl' s=some S'∧(S.hv<S'.hv∨S.hv=S'.hv∧S.cv<S'.cv∧(∀ c',S'.c=some c'→(∃ c,S.c=some c)∧hdr' s=hdr s) ∨
  S.hv=S'.hv∧S.cv=S'.cv∧∀ c',S'.c=some c'→∃ c,S.c=some c∧hdr' s=hdr s∧(∀ b,fp s b→w'.heap[b]?=w.heap[b]?)∧((c'=c∧∀ b,fp s b→fp' s b)∨(c'=⟨c.t,.im,c.x⟩∧∀ b,fp s b→Z' b)))
 old:∀ b,b<w.heap.size→(∀ s,¬ fp s b)→¬ Z b→w'.heap[b]?=w.heap[b]?∧(∀ s,¬ fp' s b)∧¬ Z' b
 size:w.heap.size≤w'.heap.size
 os:w'.os=w.os
 tape:w'.tape=w.tape
 output:w'.output=w.output
section
variable {Z Z' Z2:Bs} {w w' w2:World} {sl sl' sl2:Nat→Option Slot} {hdr hdr' hdr2:Nat→Value} {fp fp' fp2:Nat→Bs}
theorem subc_keep {Z:Bs} {w w':World}:∀ (p:Path) {t:Ty} {m:Mk} {x:t.den} {fp:Bs} {cs:List Value} {m':Mk} {d:Dyn},Rep Z w t m x fp cs→mkP t m p=some m'→getP t x p=some d →
 (∀ b,fp b→w'.heap[b]?=w.heap[b]?)→subc w' t cs p=subc w t cs p∧∀ here,addrOf w' t cs here p=addrOf w t cs here p
 | [],t,_,_,_,_,_,_,_,_,_,_=>by cases t <;> exact ⟨rfl,fun _=>rfl⟩
 | .f1 :: p,.pair a b,m,x,fp,cs,m',d,⟨c1,c2,f1,f2,e,r1,r2,s1,s2,_⟩,hm,hg,hk=>by
  subst e
  have:=subc_keep p (w':=w') r1 hm hg (fun b h=>hk b (s1 b h))
  simp only [subc,addrOf]
  rw [← r1.len,List.take_left]
  exact ⟨this.1,fun _=>this.2 _⟩
 | .f2 :: p,.pair a b,m,x,fp,cs,m',d,⟨c1,c2,f1,f2,e,r1,r2,s1,s2,_⟩,hm,hg,hk=>by
  subst e
  have:=subc_keep p (w':=w') r2 hm hg (fun b h=>hk b (s2 b h))
  simp only [subc,addrOf]
  rw [← r1.len,List.drop_left]
  exact ⟨this.1,fun _=>this.2 _⟩
 | .el i :: p,.arr n t,m,xs,fp,cs,m',d,⟨hl,hin⟩,hm,hg,hk=>by
  simp only [getP] at hg
  split at hg
  ·rename_i x hx
   obtain ⟨fi,ci,pre,post,e,hpl,hri,hsi,_⟩:=Inline.at_ (fun x f c h=>Rep.len h) hin hx
   subst e
   have:=subc_keep p (w':=w') hri hm hg (fun b h=>hk b (hsi b h))
   simp only [subc,addrOf]
   rw [← hpl,List.drop_left,← hri.len,List.take_left]
   exact ⟨this.1,fun _=>this.2 _⟩
  ·cases hg
 | .el i :: p,.sl t,.ow m,xs,fp,cs,m',d,⟨A,cap,e,h⟩,hm,hg,hk=>by
  subst e
  simp only [getP] at hg
  split at hg
  ·rename_i x hx
   rcases h with ⟨rfl,rfl⟩ | ⟨b1,o1,c,el,rfl,hfb,hrow,hcap,hlc,fps,css,hel,hdis⟩
   ·simp at hx
   ·obtain ⟨hri,hcl,hcell,hsub⟩:=hel i x hx
    have hai:At w b1 (o1+i*t.size) (css i):=fun j hj=>hcell j (by omega)
    have hai':At w' b1 (o1+i*t.size) (css i):=fun j hj=>by rw [← hai j hj]; exact World.cell?_of_block (a:=⟨b1,_,none⟩) (hk b1 hfb)
    have:=subc_keep p (w':=w') hri hm hg (fun b h=>hk b (hsub b h).1)
    have e1:=range_at hai
    have e2:=range_at hai'
    rw [hcl] at e1 e2
    simp only [subc,addrOf]
    rw [e1,e2]
    exact ⟨this.1,fun _=>this.2 _⟩
  ·cases hg
theorem RelC.transS (H:HR Z w sl hdr fp) (T:TransS Z w sl hdr fp Z' w' sl' hdr' fp'):∀ {mv:MV} {cs:List Value},RelC Z w sl hdr fp mv cs→RelC Z' w' sl' hdr' fp' mv cs
 | .dead,_,_=>trivial
 | .val t x,cs,h=>Rep.keep T.z (fun _ h=>h.elim) h
 | .nil,_,h=>h
 | .root s hv,cs,⟨hlen,S,h1,h2,h3⟩=>by
  obtain ⟨S',e,h⟩:=T.slot s S h1
  refine ⟨hlen,S',e,by rcases h with h | h | h <;> omega,fun hh c' hc' => ?_⟩
  rcases h with h | ⟨h,h5,h6⟩ | ⟨h,h5,h6⟩
  ·omega
  ·obtain ⟨⟨c,hc⟩,hd⟩:=h6 c' hc'
   rw [hd]; exact h3 (by omega) c hc
  ·obtain ⟨c,hc,hd,_⟩:=h6 c' hc'
   rw [hd]; exact h3 (by omega) c hc
 | .view s hv cv po t x,cs,⟨hlen,S,h1,h2,h3⟩=>by
  obtain ⟨S',e,h⟩:=T.slot s S h1
  refine ⟨hlen,S',e,by rcases h with h | h | h <;> omega,fun hh => ?_⟩
  have hS:hv=S.hv∧S.hv=S'.hv:=by rcases h with h | h | h <;> omega
  obtain ⟨h4,h5⟩:=h3 hS.1
  refine ⟨by rcases h with h | h | h <;> omega,fun hc c' hc' => ?_⟩
  rcases h with h | ⟨h,h6,_⟩ | ⟨h,h6,h7⟩
  ·omega
  ·omega
  ·obtain ⟨c,hc0,hd,hb,hcc⟩:=h7 c' hc'
   obtain ⟨⟨m,f,hr,hf,hfz⟩,hp⟩:=h5 (by omega) c hc0
   have hr':Rep Z' w' t m x f cs:=hr.keep T.z (fun k hk=>hb k (hf k hk))
   have hS1:sl s=some ⟨S.hv,S.cv,some c⟩:=by rw [h1]; cases S; simp only at hc0; subst hc0; rfl
   rcases hcc with ⟨rfl,hff⟩ | ⟨rfl,hff⟩
   ·refine ⟨⟨m,f,hr',fun k hk=>hff k (hf k hk),hfz⟩,fun p hpo => ?_⟩
    obtain ⟨g1,g2⟩:=hp p hpo
    refine ⟨g1,fun ho => ?_⟩
    obtain ⟨g3,m',g4⟩:=g2 ho
    refine ⟨?_,m',g4⟩
    rw [hd,(subc_keep p (H.rep s _ _ _ hS1) g4 g1 hb).1]; exact g3
   ·refine ⟨⟨.im,none_,hr'.freeze (fun b h=>h.elim id (fun h=>hff b (hf b h))),fun _ h=>h.elim,fun _ _ h=>h⟩,fun p hpo=>⟨(hp p hpo).1,fun h=>by cases h⟩⟩
 | .adr s hv cv po t x,cs,⟨hlen,S,h1,h2,h3⟩=>by
  obtain ⟨S',e,h⟩:=T.slot s S h1
  refine ⟨hlen,S',e,by rcases h with h | h | h <;> omega,fun hh => ?_⟩
  have hS:hv=S.hv∧S.hv=S'.hv:=by rcases h with h | h | h <;> omega
  obtain ⟨h4,h5⟩:=h3 hS.1
  refine ⟨by rcases h with h | h | h <;> omega,fun hc c' hc' => ?_⟩
  rcases h with h | ⟨h,h6,_⟩ | ⟨h,h6,h7⟩
  ·omega
  ·omega
  ·obtain ⟨c,hc0,hd,hb,hcc⟩:=h7 c' hc'
   obtain ⟨b,o,ks,hcs,hat,hbz,hbz2,⟨m,f,hr,hf,hfz⟩,hp⟩:=h5 (by omega) c hc0
   have hr':Rep Z' w' t m x f ks:=hr.keep T.z (fun k hk=>hb k (hf k hk))
   have hbb:w'.heap[b]?=w.heap[b]?:=hbz.elim (hb b) (fun h=>(T.z b h).2)
   have hat':At w' b o ks:=fun j hj=>by rw [← hat j hj]; exact World.cell?_of_block (a:=⟨b,_,none⟩) hbb
   have hS1:sl s=some ⟨S.hv,S.cv,some c⟩:=by rw [h1]; cases S; simp only at hc0; subst hc0; rfl
   rcases hcc with ⟨rfl,hff⟩ | ⟨rfl,hff⟩
   ·refine ⟨b,o,ks,hcs,hat',hbz.imp (hff b) (fun h=>(T.z b h).1),fun h=>(T.z b (hbz2 h)).1,⟨m,f,hr',fun k hk=>hff k (hf k hk),hfz⟩,fun p hpo => ?_⟩
    obtain ⟨⟨g1,g2⟩,g5⟩:=hp p hpo
    refine ⟨⟨g1,fun ho => ?_⟩,fun ho => ?_⟩
    ·obtain ⟨g3,m',g4⟩:=g2 ho
     refine ⟨?_,m',g4⟩
     rw [hd,(subc_keep p (H.rep s _ _ _ hS1) g4 g1 hb).1]; exact g3
    ·obtain ⟨g3,m',g4⟩:=g2 ho
     rw [hd,(subc_keep p (H.rep s _ _ _ hS1) g4 g1 hb).2]; exact g5 ho
   ·exact ⟨b,o,ks,hcs,hat',.inr (hbz.elim (hff b) (fun h=>(T.z b h).1)),fun _=>hbz.elim (hff b) (fun h=>(T.z b h).1),⟨.im,none_,hr'.freeze (fun b h=>h.elim id (fun h=>hff b (hf b h))),fun _ h=>h.elim,fun _ _ h=>h⟩,fun p hpo=>⟨⟨(hp p hpo).1.1,fun h=>by cases h⟩,fun h=>by cases h⟩⟩
 | .iadr t x,cs,⟨b,o,ks,h1,h2,h3,h4⟩=>⟨b,o,ks,h1,fun j hj=>by rw [← h2 j hj]; exact World.cell?_of_block (a:=⟨b,_,none⟩) (T.z b h3).2,(T.z b h3).1,h4.keep T.z (fun _ h=>h.elim)⟩
 | .pend s hv cv p t x,cs,⟨hlen,S,h1,h2,h3⟩=>by
  obtain ⟨S',e,h⟩:=T.slot s S h1
  refine ⟨hlen,S',e,by rcases h with h | h | h <;> omega,fun hh => ?_⟩
  have hS:hv=S.hv∧S.hv=S'.hv:=by rcases h with h | h | h <;> omega
  obtain ⟨h4,h5⟩:=h3 hS.1
  refine ⟨by rcases h with h | h | h <;> omega,fun hc c' hc' ho => ?_⟩
  rcases h with h | ⟨h,h6,_⟩ | ⟨h,h6,h7⟩
  ·omega
  ·omega
  ·obtain ⟨c,hc0,hd,hb,hcc⟩:=h7 c' hc'
   rcases hcc with ⟨rfl,hff⟩ | ⟨rfl,hff⟩
   ·obtain ⟨m,x0,g1,g2,g3⟩:=h5 (by omega) _ hc0 ho
    have hS1:sl s=some ⟨S.hv,S.cv,some c'⟩:=by rw [h1]; cases S; simp only at hc0; subst hc0; rfl
    have hsub:=subc_keep p (H.rep s _ _ _ hS1) g1 g2 hb
    refine ⟨m,x0,g1,g2,g3.imp (fun g=>g.keep T.z (fun b h=>h.elim)) (fun ⟨b0,g4,q1,q2⟩=>⟨b0,g4.keep T.z (fun b hb0=>by subst hb0; exact hb b q1),hff b0 q1,q2.imp (fun q => ?_) (fun ⟨o,l,cap,q5,q6⟩=>⟨o,l,cap,by rw [hd,hsub.1]; exact q5,q6⟩)⟩)⟩
    rw [hd]
    exact (q.keep T.z (fun k hk=>hb k hk.1)).mono (fun k hk=>⟨hff k hk.1,hk.2⟩)
   ·cases ho
 | .pr a b,cs,⟨c1,c2,e,h1,h2⟩=>⟨c1,c2,e,RelC.transS H T h1,RelC.transS H T h2⟩
 | .un,_,h=>h
 | .meth _ _ _,_,h=>h
 | .tc a b,cs,⟨c1,v,vs,e,h1,h2⟩=>⟨c1,v,vs,e,h1.imp id (fun h=>⟨RelC.transS H T h.1,h.2⟩),RelC.transS H T h2⟩
 | .tn,_,h=>h
 | .fn f caps,cs,⟨ks,e,h⟩=>⟨ks,e,RelC.transS H T h⟩
 | .nv t x b,cs,⟨h,h2⟩=>⟨Rep.keep T.z (fun _ h=>h.elim) h,h2⟩
 | .icl m,cs,⟨b,o,ks,h1,h2,h3,h4⟩=>⟨b,o,ks,h1,fun j hj=>by rw [← h2 j hj]; exact World.cell?_of_block (a:=⟨b,_,none⟩) (T.z b h3).2,(T.z b h3).1,RelC.transS H T h4⟩
 | .ptr s hv t,cs,⟨hlen,S,h1,h2,h3⟩=>by
  obtain ⟨S',e,h⟩:=T.slot s S h1
  refine ⟨hlen,S',e,by rcases h with h | h | h <;> omega,fun hh c' hc' => ?_⟩
  rcases h with h | ⟨h,h5,h6⟩ | ⟨h,h5,h6⟩
  ·omega
  ·obtain ⟨⟨c,hc⟩,hd⟩:=h6 c' hc'
   rw [hd]; exact h3 (by omega) c hc
  ·obtain ⟨c,hc,hd,_⟩:=h6 c' hc'
   rw [hd]; exact h3 (by omega) c hc
theorem Trans.s (T:Trans Z w sl hdr fp Z' w' sl' hdr' fp'):TransS Z w sl hdr fp Z' w' sl' hdr' fp':=⟨T.z,T.slot⟩
theorem RelC.trans (H:HR Z w sl hdr fp) (H':HR Z' w' sl' hdr' fp') (T:Trans Z w sl hdr fp Z' w' sl' hdr' fp') {mv:MV} {cs:List Value} (h:RelC Z w sl hdr fp mv cs):RelC Z' w' sl' hdr' fp' mv cs:=h.transS H T.s
theorem RelV.trans (H:HR Z w sl hdr fp) (H':HR Z' w' sl' hdr' fp') (T:Trans Z w sl hdr fp Z' w' sl' hdr' fp') {mv:MV} {v:Value} (h:RelV Z w sl hdr fp mv v):RelV Z' w' sl' hdr' fp' mv v :=
 h.imp id fun ⟨cs,h1,h2⟩=>⟨cs,h1.trans H H' T,h2⟩
theorem Trans.refl (Z:Bs) (w:World) (sl:Nat→Option Slot) (hdr:Nat→Value) (fp:Nat→Bs):Trans Z w sl hdr fp Z w sl hdr fp :=
 ⟨fun b h=>⟨h,rfl⟩,fun s S h=>⟨S,h,.inr (.inr ⟨rfl,rfl,fun c hc=>⟨c,hc,rfl,fun _ _=>rfl,.inl ⟨rfl,fun _ h=>h⟩⟩⟩)⟩,fun b _ h1 h2=>⟨rfl,h1,h2⟩,Nat.le_refl _,rfl,rfl,rfl⟩
theorem Trans.comp (T:Trans Z w sl hdr fp Z' w' sl' hdr' fp') (U:Trans Z' w' sl' hdr' fp' Z2 w2 sl2 hdr2 fp2):Trans Z w sl hdr fp Z2 w2 sl2 hdr2 fp2 where
 z:=fun b h=>⟨(U.z b (T.z b h).1).1,(U.z b (T.z b h).1).2.trans (T.z b h).2⟩
 slot:=fun s S h=>by
  obtain ⟨S1,e1,h1⟩:=T.slot s S h
  obtain ⟨S2,e2,h2⟩:=U.slot s S1 e1
  refine ⟨S2,e2,?_⟩
  rcases h1 with h1 | ⟨h1,h1b,h1c⟩ | ⟨h1,h1b,h1c⟩
  ·left; rcases h2 with h2 | h2 | h2 <;> omega
  ·rcases h2 with h2 | ⟨h2,h2b,h2c⟩ | ⟨h2,h2b,h2c⟩
   ·left; omega
   ·refine .inr (.inl ⟨by omega,by omega,fun c' hc' => ?_⟩)
    obtain ⟨⟨c,hc⟩,hd⟩:=h2c c' hc'
    obtain ⟨hc1,hd1⟩:=h1c c hc
    exact ⟨hc1,hd.trans hd1⟩
   ·refine .inr (.inl ⟨by omega,by omega,fun c' hc' => ?_⟩)
    obtain ⟨c,hc,hd,_⟩:=h2c c' hc'
    obtain ⟨hc1,hd1⟩:=h1c c hc
    exact ⟨hc1,hd.trans hd1⟩
  ·rcases h2 with h2 | ⟨h2,h2b,h2c⟩ | ⟨h2,h2b,h2c⟩
   ·left; omega
   ·refine .inr (.inl ⟨by omega,by omega,fun c' hc' => ?_⟩)
    obtain ⟨⟨c,hc⟩,hd⟩:=h2c c' hc'
    obtain ⟨c1,hc1,hd1,_⟩:=h1c c hc
    exact ⟨⟨c1,hc1⟩,hd.trans hd1⟩
   ·refine .inr (.inr ⟨by omega,by omega,fun c' hc' => ?_⟩)
    obtain ⟨c,hc,hd,hb,hcc⟩:=h2c c' hc'
    obtain ⟨c1,hc1,hd1,hb1,hcc1⟩:=h1c c hc
    have hbb:∀ b,fp s b→w2.heap[b]?=w.heap[b]?:=by
     intro b hb0
     rcases hcc1 with ⟨_,hf⟩ | ⟨_,hf⟩
     ·exact (hb b (hf b hb0)).trans (hb1 b hb0)
     ·exact (U.z b (hf b hb0)).2.trans (hb1 b hb0)
    refine ⟨c1,hc1,hd.trans hd1,hbb,?_⟩
    rcases hcc1 with ⟨rfl,hf⟩ | ⟨rfl,hf⟩
    ·rcases hcc with ⟨rfl,hf2⟩ | ⟨rfl,hf2⟩
     ·exact .inl ⟨rfl,fun b h=>hf2 b (hf b h)⟩
     ·exact .inr ⟨rfl,fun b h=>hf2 b (hf b h)⟩
    ·rcases hcc with ⟨rfl,hf2⟩ | ⟨rfl,hf2⟩
     ·exact .inr ⟨rfl,fun b h=>(U.z b (hf b h)).1⟩
     ·exact .inr ⟨rfl,fun b h=>(U.z b (hf b h)).1⟩
 old:=fun b h1 h2 h3=>by
  obtain ⟨a1,a2,a3⟩:=T.old b h1 h2 h3
  obtain ⟨b1,b2,b3⟩:=U.old b (Nat.lt_of_lt_of_le h1 T.size) a2 a3
  exact ⟨b1.trans a1,b2,b3⟩
 size:=Nat.le_trans T.size U.size
 os:=U.os.trans T.os
 tape:=U.tape.trans T.tape
 output:=U.output.trans T.output
end
def put (sl:Nat→Option Slot) (s:Nat) (S:Slot):Nat→Option Slot:=fun r=>if r=s then some S else sl r
theorem look_nil (sl:Nat→Option Slot):Ups.look [] sl=sl:=rfl
theorem look_cons (s:Nat) (S:Slot) (u:Ups) (sl:Nat→Option Slot):Ups.look ((s,S) :: u) sl=put (Ups.look u sl) s S:=by
 funext r
 simp only [Ups.look,put,List.lookup_cons]
 by_cases h:r=s
 ·subst h; simp
 ·have:(r == s)=false:=by simpa using h
  simp [this,h]
theorem look_app (u v:Ups) (sl:Nat→Option Slot):Ups.look (u++v) sl=Ups.look u (Ups.look v sl):=by
 induction u with
 | nil=>rfl
 | cons a u ih=>obtain ⟨s,S⟩:=a; rw [List.cons_append,look_cons,look_cons,ih]
theorem lookH_some {sl:Nat→Option Slot} {s hv cv:Nat} {c:SlotC} (h:lookH sl s hv=some (cv,c)):sl s=some ⟨hv,cv,some c⟩:=by
 unfold lookH at h
 split at h
 ·rename_i h' cv' c' e
  cases hb:Nat.beq h' hv with
  | false=>rw [hb] at h; cases h
  | true =>
   rw [hb] at h
   simp only [cond_true,Option.some.injEq,Prod.mk.injEq] at h
   obtain ⟨rfl,rfl⟩:=h
   rw [e,Nat.eq_of_beq_eq_true hb]
 ·cases h
theorem lookC_some {sl:Nat→Option Slot} {s hv cv:Nat} {c:SlotC} (h:lookC sl s hv cv=some c):sl s=some ⟨hv,cv,some c⟩:=by
 unfold lookC at h
 split at h
 ·rename_i v c' e
  cases hb:Nat.beq v cv with
  | false=>rw [hb] at h; cases h
  | true =>
   rw [hb] at h
   simp only [cond_true,Option.some.injEq] at h
   subst h
   rw [lookH_some e,Nat.eq_of_beq_eq_true hb]
 ·cases h
def noC (sl:Nat→Option Slot) (s:Nat):Prop:=∀ hv cv c,sl s≠some ⟨hv,cv,some c⟩
section
variable {Z:Bs} {w:World} {sl:Nat→Option Slot} {hdr:Nat→Value} {fp:Nat→Bs}
theorem step_gone (H:HR Z w sl hdr fp) {s:Nat} {S:Slot} (hs:sl s=some S):HR Z w (put sl s (gone S)) hdr fp∧Trans Z w sl hdr fp Z w (put sl s (gone S)) hdr fp:=by
 refine ⟨⟨fun r hv cv c h => ?_,fun r hv cv c h => ?_,H.disj,H.lt,H.zlt,H.dz⟩,fun b h=>⟨h,rfl⟩,fun r S' h => ?_,fun b _ h1 h2=>⟨rfl,h1,h2⟩,Nat.le_refl _,rfl,rfl,rfl⟩
 ·unfold put at h; split at h
  ·simp [gone] at h
  ·exact H.rep r hv cv c h
 ·unfold put at h; split at h
  ·simp [gone] at h
  ·exact H.shape r hv cv c h
 ·by_cases e:r=s
  ·subst e
   refine ⟨gone S,by simp [put],.inl ?_⟩
   rw [hs] at h; obtain rfl:=Option.some.inj h; simp [gone]
  ·exact ⟨S',by simp [put,e,h],.inr (.inr ⟨rfl,rfl,fun c hc=>⟨c,hc,rfl,fun _ _=>rfl,.inl ⟨rfl,fun _ h=>h⟩⟩⟩)⟩
theorem step_freeze (H:HR Z w sl hdr fp) {s:Nat} {S:Slot} (hs:sl s=some S) :
 HR (fun b=>Z b∨fp s b) w (put sl s (frozen_ S)) hdr (fun r=>if r=s then none_ else fp r)∧Trans Z w sl hdr fp (fun b=>Z b∨fp s b) w (put sl s (frozen_ S)) hdr (fun r=>if r=s then none_ else fp r):=by
 refine ⟨⟨fun r hv cv c h => ?_,fun r hv cv c h => ?_,fun r r' b h h' => ?_,fun r b h => ?_,fun b h=>h.elim (H.zlt b) (H.lt s b),fun r b h hz => ?_⟩,fun b h=>⟨.inl h,rfl⟩,fun r S' h => ?_,fun b _ h1 h2=>⟨rfl,fun r h => ?_,fun h=>h.elim h2 (h1 s)⟩,Nat.le_refl _,rfl,rfl,rfl⟩
 ·unfold put at h; split at h
  ·rename_i e; subst e
   simp only [if_true]
   obtain ⟨hv0,cv0,c0⟩:=S
   cases c0 with
   | none=>simp [frozen_] at h
   | some c0 =>
    simp only [frozen_,Option.map_some,Option.some.injEq,Slot.mk.injEq] at h
    obtain ⟨rfl,rfl,rfl⟩:=h
    exact (H.rep _ _ _ _ hs).freeze (fun _ h=>h)
  ·rename_i e; simp only [if_neg e]; exact (H.rep r hv cv c h).more (fun _ h=>.inl h)
 ·unfold put at h; split at h
  ·rename_i e; subst e
   obtain ⟨hv0,cv0,c0⟩:=S
   cases c0 with
   | none=>simp [frozen_] at h
   | some c0 =>
    simp only [frozen_,Option.map_some,Option.some.injEq,Slot.mk.injEq] at h
    obtain ⟨rfl,rfl,rfl⟩:=h
    exact (H.shape _ _ _ _ hs:(∃ t,c0.t=.sl t)∨∃ k v,c0.t=.mp k v)
  ·exact H.shape r hv cv c h
 ·by_cases e:r=s
  ·simp [e,none_] at h
  ·by_cases e':r'=s
   ·simp [e',none_] at h'
   ·simp only [if_neg e,if_neg e'] at h h'; exact H.disj _ _ _ h h'
 ·by_cases e:r=s
  ·simp [e,none_] at h
  ·simp only [if_neg e] at h; exact H.lt _ _ h
 ·by_cases e:r=s
  ·simp [e,none_] at h
  ·simp only [if_neg e] at h
   rcases hz with hz | hz
   ·exact H.dz _ _ h hz
   ·exact e (H.disj _ _ _ h hz)
 ·by_cases e:r=s
  ·subst e
   rw [hs] at h; obtain rfl:=Option.some.inj h
   refine ⟨frozen_ S,by simp [put],.inr (.inr ⟨rfl,rfl,fun c' hc' => ?_⟩)⟩
   obtain ⟨hv0,cv0,c0⟩:=S
   cases c0 with
   | none=>simp [frozen_] at hc'
   | some c0 =>
    simp only [frozen_,Option.map_some,Option.some.injEq] at hc'
    subst hc'
    exact ⟨c0,rfl,rfl,fun _ _=>rfl,.inr ⟨rfl,fun b h=>.inr h⟩⟩
  ·exact ⟨S',by simp [put,e,h],.inr (.inr ⟨rfl,rfl,fun c hc=>⟨c,hc,rfl,fun _ _=>rfl,.inl ⟨rfl,fun b h=>by simp [e,h]⟩⟩⟩)⟩
 ·by_cases e:r=s
  ·simp [e,none_] at h
  ·simp only [if_neg e] at h; exact h1 r h
theorem step_set (H:HR Z w sl hdr fp) {n:Nat} {S:Slot} (hs:sl n=some S) (c:SlotC) (hd:Value) (F:Bs) (hr:Rep Z w c.t c.m c.x F [hd]) (hsh:(∃ t,c.t=.sl t)∨∃ k v,c.t=.mp k v)
 (hF:∀ b,F b→∃ r,fp r b∧(r=n∨noC sl r)) (cv:Nat) :
 ∃ fp',(∀ b,F b→fp' n b)∧(∀ r b,r≠n→(fp' r b↔fp r b∧¬ F b))∧HR Z w (put sl n ⟨S.hv+1,cv,some c⟩) (fun r=>if r=n then hd else hdr r) fp' ∧
  Trans Z w sl hdr fp Z w (put sl n ⟨S.hv+1,cv,some c⟩) (fun r=>if r=n then hd else hdr r) fp':=by
 refine ⟨fun r b=>if r=n then F b else fp r b∧¬ F b,fun b h=>by simpa using h,fun r b h=>by simp [h],⟨fun r hv cv' c' h => ?_,fun r hv cv' c' h => ?_,fun r r' b h h' => ?_,fun r b h => ?_,H.zlt,fun r b h hz => ?_⟩,fun b h=>⟨h,rfl⟩,fun r S' h => ?_,fun b _ h1 h2=>⟨rfl,fun r h => ?_,h2⟩,Nat.le_refl _,rfl,rfl,rfl⟩
 ·unfold put at h; split at h
  ·rename_i e; subst e
   simp only [Option.some.injEq,Slot.mk.injEq] at h
   obtain ⟨rfl,rfl,rfl⟩:=h
   simpa using hr
  ·rename_i e
   simp only [if_neg e]
   refine (H.rep r hv cv' c' h).mono (fun b hb=>⟨hb,fun hf => ?_⟩)
   obtain ⟨r',h1,h2⟩:=hF b hf
   obtain rfl:=H.disj _ _ _ hb h1
   rcases h2 with h2 | h2
   ·exact e h2
   ·exact h2 _ _ _ h
 ·unfold put at h; split at h
  ·simp only [Option.some.injEq,Slot.mk.injEq] at h
   obtain ⟨rfl,rfl,rfl⟩:=h
   exact hsh
  ·exact H.shape r hv cv' c' h
 ·by_cases e:r=n <;> by_cases e':r'=n
  ·exact e.trans e'.symm
  ·simp only [if_pos e,if_neg e'] at h h'; exact absurd h h'.2
  ·simp only [if_neg e,if_pos e'] at h h'; exact absurd h' h.2
  ·simp only [if_neg e,if_neg e'] at h h'; exact H.disj _ _ _ h.1 h'.1
 ·by_cases e:r=n
  ·simp only [if_pos e] at h; obtain ⟨r',h1,_⟩:=hF b h; exact H.lt _ _ h1
  ·simp only [if_neg e] at h; exact H.lt _ _ h.1
 ·by_cases e:r=n
  ·simp only [if_pos e] at h; obtain ⟨r',h1,_⟩:=hF b h; exact H.dz _ _ h1 hz
  ·simp only [if_neg e] at h; exact H.dz _ _ h.1 hz
 ·by_cases e:r=n
  ·subst e
   rw [hs] at h; obtain rfl:=Option.some.inj h
   exact ⟨⟨S.hv+1,cv,some c⟩,by simp [put],.inl (Nat.lt_succ_self _)⟩
  ·refine ⟨S',by simp [put,e,h],.inr (.inr ⟨rfl,rfl,fun c' hc=>⟨c',hc,by simp [e],fun _ _=>rfl,.inl ⟨rfl,fun b hb => ?_⟩⟩⟩)⟩
   simp only [if_neg e]
   refine ⟨hb,fun hf => ?_⟩
   obtain ⟨r',h1,h2⟩:=hF b hf
   obtain rfl:=H.disj _ _ _ hb h1
   rcases h2 with h2 | h2
   ·exact e h2
   ·obtain ⟨a,b',c0⟩:=S'; simp only at hc; subst hc; exact h2 _ _ _ h
 ·by_cases e:r=n
  ·simp only [if_pos e] at h; obtain ⟨r',h3,_⟩:=hF b h; exact h1 r' h3
  ·simp only [if_neg e] at h; exact h1 r h.1
theorem step_alloc (H:HR Z w sl hdr fp) (n:Nat) (o:Obj) :
 HR Z (w.alloc o) sl hdr (fun r b=>fp r b∨r=n∧b=w.heap.size)∧Trans Z w sl hdr fp Z (w.alloc o) sl hdr (fun r b=>fp r b∨r=n∧b=w.heap.size):=by
 have hk:∀ k,k<w.heap.size→(w.alloc o).heap[k]?=w.heap[k]?:=fun k h=>Go.RowKit.Below.heap_alloc w o k h
 refine ⟨⟨fun r hv cv c h=>((H.rep r hv cv c h).keep (fun b hb=>⟨hb,hk b (H.zlt b hb)⟩) (fun b hb=>hk b (H.lt r b hb))).mono (fun b hb=>.inl hb),H.shape,fun r r' b h h' => ?_,fun r b h => ?_,fun b h => ?_,fun r b h hz => ?_⟩,
  fun b h=>⟨h,hk b (H.zlt b h)⟩,fun r S h=>⟨S,h,.inr (.inr ⟨rfl,rfl,fun c hc=>⟨c,hc,rfl,fun b hb=>hk b (H.lt r b hb),.inl ⟨rfl,fun b hb=>.inl hb⟩⟩⟩)⟩,fun b hb h1 h2=>⟨hk b hb,fun r h => ?_,h2⟩,by simp,rfl,rfl,rfl⟩
 ·rcases h with h | ⟨h,e⟩ <;> rcases h' with h' | ⟨h',e'⟩
  ·exact H.disj _ _ _ h h'
  ·exact absurd (H.lt _ _ h) (by omega)
  ·exact absurd (H.lt _ _ h') (by omega)
  ·exact h.trans h'.symm
 ·rw [World.size_alloc]
  rcases h with h | ⟨h,e⟩
  ·have:=H.lt _ _ h; omega
  ·omega
 ·rw [World.size_alloc]; have:=H.zlt _ h; omega
 ·rcases h with h | ⟨h,e⟩
  ·exact H.dz _ _ h hz
  ·have:=H.zlt _ hz; omega
 ·rcases h with h | ⟨h,e⟩
  ·exact h1 r h
  ·omega
theorem step_drew (H:HR Z w sl hdr fp):HR Z w.drew sl hdr fp∧Trans Z w sl hdr fp Z w.drew sl hdr fp :=
 ⟨⟨fun r hv cv c h=>Rep.keep (w:=w) (w':=w.drew) (fun b hb=>⟨hb,rfl⟩) (fun b hb=>rfl) (H.rep r hv cv c h),H.shape,H.disj,H.lt,H.zlt,H.dz⟩,
  fun b h=>⟨h,rfl⟩,fun r S h=>⟨S,h,.inr (.inr ⟨rfl,rfl,fun c hc=>⟨c,hc,rfl,fun b hb=>rfl,.inl ⟨rfl,fun b hb=>hb⟩⟩⟩)⟩,fun b hb h1 h2=>⟨rfl,h1,h2⟩,Nat.le_refl _,rfl,rfl,rfl⟩
end
structure Took (Z:Bs) (w:World) (sl:Nat→Option Slot) (hdr:Nat→Value) (fp:Nat→Bs) (us:Ups) (Z':Bs) (fp':Nat→Bs) (t:Ty) (m:Mk) (x:t.den) (F:Bs) (cs:List Value):Prop where
 hr:HR Z' w (us.look sl) hdr fp'
 tr:Trans Z w sl hdr fp Z' w (us.look sl) hdr fp'
 rep:Rep Z' w t m x F cs
 hand:∀ b,F b→∃ s,fp s b∧¬ noC sl s∧fp' s b∧noC (us.look sl) s
 kept:∀ s b,noC sl s→fp s b→fp' s b∧noC (us.look sl) s
 back:∀ s,¬ noC (us.look sl) s→¬ noC sl s∧∀ b,fp' s b→fp s b
theorem noC_gone {sl:Nat→Option Slot} {s:Nat} {S:Slot}:noC (put sl s (gone S)) s:=by intro hv cv c h; simp [put,gone] at h
theorem noC_put {sl:Nat→Option Slot} {s r:Nat} {S:Slot} (h:r≠s):noC (put sl s S) r↔noC sl r:=by simp [noC,put,h]
theorem noC_not {sl:Nat→Option Slot} {s:Nat} {hv cv:Nat} {c:SlotC} (h:sl s=some ⟨hv,cv,some c⟩):¬ noC sl s:=fun hn=>hn _ _ _ h
theorem take_view (sl : Nat → Option Slot) (t : Ty) (m : Mk) (s hv cv : Nat) (p : Option Path) (t' : Ty) (y : t'.den) : take sl t m (.view s hv cv p t' y) = (match sl s with
      | some S=>match lookC sl s hv cv with
       | some c =>
        if hh:t'=t then
         bif t.shared m then some ((hh ▸ y:t.den),[(s,frozen_ S)])
         else match p with
          | some [.el 0]=>if c.t=.sl t∧c.m=.ow m then some ((hh ▸ y:t.den),[(s,gone S)]) else none
          | _=>none
        else none
       | none=>none
      | none=>none):=by cases t <;> rfl
section
variable {w:World} {hdr:Nat→Value}
theorem took_none {Z:Bs} {sl:Nat→Option Slot} {fp:Nat→Bs} (H:HR Z w sl hdr fp) {t:Ty} {m:Mk} {x:t.den} {cs:List Value} (hr:Rep Z w t m x none_ cs):Took Z w sl hdr fp [] Z fp t m x none_ cs :=
 ⟨H,Trans.refl _ _ _ _ _,hr,fun _ h=>h.elim,fun s b h1 h2=>⟨h2,h1⟩,fun s h=>⟨h,fun _ h=>h⟩⟩
theorem took_gone {Z:Bs} {sl:Nat→Option Slot} {fp:Nat→Bs} (H:HR Z w sl hdr fp) {s:Nat} {S:Slot} {c:SlotC} (hs:sl s=some S) (hc:S.c=some c) {t:Ty} {m:Mk} {x:t.den} {F:Bs} {cs:List Value} (hF:∀ b,F b→fp s b) (hr:Rep Z w t m x F cs) :
 Took Z w sl hdr fp [(s,gone S)] Z fp t m x F cs:=by
 obtain ⟨h1,h2⟩:=step_gone H hs
 have hs':sl s=some ⟨S.hv,S.cv,some c⟩:=by rw [hs]; cases S; simp only at hc; subst hc; rfl
 refine ⟨by rw [look_cons]; exact h1,by rw [look_cons]; exact h2,hr,fun b hb=>⟨s,hF b hb,noC_not hs',hF b hb,by rw [look_cons]; exact noC_gone⟩,fun r b h3 h4=>⟨h4,?_⟩,fun r h=>⟨fun h'=>h ?_,fun _ h=>h⟩⟩
 all_goals
  rw [look_cons]
  by_cases e:r=s
  ·subst e; exact noC_gone
  ·rw [look_nil,noC_put e]; assumption
theorem took_freeze {Z:Bs} {sl:Nat→Option Slot} {fp:Nat→Bs} (H:HR Z w sl hdr fp) {s:Nat} {S:Slot} {c:SlotC} (hs:sl s=some S) (hc:S.c=some c) {t:Ty} {m:Mk} {x:t.den} {F:Bs} {cs:List Value} (hF:∀ b,F b→fp s b) {m0:Mk} (hr:Rep Z w t m0 x F cs) (hm:t.shared m=true) :
 Took Z w sl hdr fp [(s,frozen_ S)] (fun b=>Z b∨fp s b) (fun r=>if r=s then none_ else fp r) t m x none_ cs:=by
 obtain ⟨h1,h2⟩:=step_freeze H hs
 have hs':sl s=some ⟨S.hv,S.cv,some c⟩:=by rw [hs]; cases S; simp only at hc; subst hc; rfl
 refine ⟨by rw [look_cons]; exact h1,by rw [look_cons]; exact h2,(hr.freeze (fun b hb=>hb.imp id (hF b))).unshare hm,fun b hb=>hb.elim,fun r b h3 h4 => ?_,fun r h => ?_⟩
 ·have e:r≠s:=fun e=>noC_not hs' (e ▸ h3)
  refine ⟨by simp [e,h4],?_⟩
  rw [look_cons,look_nil,noC_put e]; exact h3
 ·by_cases e:r=s
  ·subst e; exact ⟨noC_not hs',fun b hb=>by simp [none_] at hb⟩
  ·rw [look_cons,look_nil,noC_put e] at h
   exact ⟨h,fun b hb=>by simpa [e] using hb⟩
theorem take_sound:∀ (mv:MV) {t:Ty} {m:Mk} {Z:Bs} {sl:Nat→Option Slot} {fp:Nat→Bs} {x:t.den} {us:Ups} {cs:List Value},take sl t m mv=some (x,us)→HR Z w sl hdr fp→RelC Z w sl hdr fp mv cs →
 ∃ Z' fp' F,Took Z w sl hdr fp us Z' fp' t m x F cs
 | .val t' y,t,m,Z,sl,fp,x,us,cs,h,H,hr=>by
  have h':(if hh:t'=t then bif t.shared m || t.flat then some ((hh ▸ y:t.den),([]:Ups)) else none else none)=some (x,us):=by cases t <;> exact h
  split at h'
  ·rename_i e; subst e
   cases hb:(t'.shared m || t'.flat) with
   | false=>rw [hb] at h'; cases h'
   | true =>
    rw [hb] at h'
    simp only [cond_true,Option.some.injEq,Prod.mk.injEq] at h'
    obtain ⟨rfl,rfl⟩:=h'
    refine ⟨Z,fp,none_,took_none H ?_⟩
    simp only [Bool.or_eq_true] at hb
    rcases hb with hb | hb
    ·exact Rep.unshare hb hr
    ·exact Rep.flat hb hr
  ·cases h'
 | .nil,.sl t,m,Z,sl,fp,x,us,cs,h,H,⟨A,hr⟩=>by
  simp only [take,Option.some.injEq,Prod.mk.injEq] at h
  obtain ⟨rfl,rfl⟩:=h
  refine ⟨Z,fp,none_,took_none H ?_⟩
  subst hr
  cases m with
  | ow m=>exact ⟨A,0,rfl,.inl ⟨rfl,rfl⟩⟩
  | im=>exact ⟨A,0,rfl,Nat.le_refl _,.inl rfl⟩
  | pr a b=>exact ⟨A,0,rfl,Nat.le_refl _,.inl rfl⟩
 | .root s hv,.sl t,m,Z,sl,fp,x,us,cs,h,H,⟨_,S0,e0,_,hr⟩=>by
  simp only [take] at h
  split at h
  ·rename_i S e1
   split at h
   ·rename_i cv c e2
    have e3:=lookH_some e2
    rw [e1] at e3; obtain rfl:=Option.some.inj e3
    rw [e1] at e0; obtain rfl:=Option.some.inj e0
    obtain rfl:=hr rfl c rfl
    split at h
    ·rename_i e
     have hrep:=H.rep s _ _ _ e1
     obtain ⟨ct,cm,cx⟩:=c
     simp only at e hrep; subst e
     cases hm:m.isOw with
     | true =>
      rw [hm] at h
      simp only [cond_true] at h
      split at h
      ·rename_i em; subst em
       simp only [Option.some.injEq,Prod.mk.injEq] at h
       obtain ⟨rfl,rfl⟩:=h
       exact ⟨Z,fp,fp s,took_gone H e1 rfl (fun _ h=>h) hrep⟩
      ·cases h
     | false =>
      rw [hm] at h
      simp only [cond_false,Option.some.injEq,Prod.mk.injEq] at h
      obtain ⟨rfl,rfl⟩:=h
      have hsh:(Ty.sl t).shared m=true∨∃ a b,m=.pr a b:=by
       cases m with
       | im=>exact .inl rfl
       | ow m=>cases hm
       | pr a b=>exact .inr ⟨a,b,rfl⟩
      rcases hsh with hsh | ⟨a,b,rfl⟩
      ·exact ⟨_,_,none_,took_freeze H e1 rfl (fun _ h=>h) hrep hsh⟩
      ·obtain ⟨q1,q2,q3,q4,q5,q6⟩:=took_freeze (m:=.im) H e1 rfl (fun _ h=>h) hrep rfl
       exact ⟨_,_,none_,⟨q1,q2,q3,q4,q5,q6⟩⟩
    ·cases h
   ·cases h
  ·cases h
 | .root s hv,.mp k v,m,Z,sl,fp,x,us,cs,h,H,⟨_,S0,e0,_,hr⟩=>by
  simp only [take] at h
  split at h
  ·rename_i S e1
   split at h
   ·rename_i cv c e2
    have e3:=lookH_some e2
    rw [e1] at e3; obtain rfl:=Option.some.inj e3
    rw [e1] at e0; obtain rfl:=Option.some.inj e0
    obtain rfl:=hr rfl c rfl
    split at h
    ·rename_i e
     have hrep:=H.rep s _ _ _ e1
     obtain ⟨ct,cm,cx⟩:=c
     simp only at e hrep; subst e
     cases hm:m.isOw with
     | true =>
      rw [hm] at h
      simp only [cond_true] at h
      split at h
      ·rename_i em; subst em
       simp only [Option.some.injEq,Prod.mk.injEq] at h
       obtain ⟨rfl,rfl⟩:=h
       exact ⟨Z,fp,fp s,took_gone H e1 rfl (fun _ h=>h) hrep⟩
      ·cases h
     | false =>
      rw [hm] at h
      simp only [cond_false,Option.some.injEq,Prod.mk.injEq] at h
      obtain ⟨rfl,rfl⟩:=h
      have hsh:(Ty.mp k v).shared m=true∨∃ a b,m=.pr a b:=by
       cases m with
       | im=>exact .inl rfl
       | ow m=>cases hm
       | pr a b=>exact .inr ⟨a,b,rfl⟩
      rcases hsh with hsh | ⟨a,b,rfl⟩
      ·exact ⟨_,_,none_,took_freeze H e1 rfl (fun _ h=>h) hrep hsh⟩
      ·obtain ⟨q1,q2,q3,q4,q5,q6⟩:=took_freeze (m:=.im) H e1 rfl (fun _ h=>h) hrep rfl
       exact ⟨_,_,none_,⟨q1,q2,q3,q4,q5,q6⟩⟩
    ·cases h
   ·cases h
  ·cases h
 | .view s hv cv p t' y,t,m,Z,sl,fp,x,us,cs,h,H,⟨_,S0,e0,_,hr⟩=>by
  have h':=h
  rw [take_view] at h'
  split at h'
  ·rename_i S e1
   split at h'
   ·rename_i c e2
    have e3:=lookC_some e2
    rw [e1] at e3; obtain rfl:=Option.some.inj e3
    rw [e1] at e0; obtain rfl:=Option.some.inj e0
    obtain ⟨⟨m0,f,hrep,hf,_⟩,hp⟩:=(hr rfl).2 rfl c rfl
    split at h'
    ·rename_i e; subst e
     cases hm:t'.shared m with
     | true =>
      rw [hm] at h'
      simp only [cond_true,Option.some.injEq,Prod.mk.injEq] at h'
      obtain ⟨rfl,rfl⟩:=h'
      exact ⟨_,_,none_,took_freeze H e1 rfl hf hrep hm⟩
     | false =>
      rw [hm] at h'
      simp only [cond_false] at h'
      split at h'
      ·split at h'
       ·rename_i ec
        obtain ⟨ec1,ec2⟩:=ec
        simp only [Option.some.injEq,Prod.mk.injEq] at h'
        obtain ⟨rfl,rfl⟩:=h'
        obtain ⟨g1,g2⟩:=hp _ rfl
        have hro:=H.rep s _ _ _ e1
        obtain ⟨ct,cm,cx⟩:=c
        simp only at ec1 ec2 hro g1 g2
        subst ec1; subst ec2
        obtain ⟨b,o,cs',fp',hadr,_,F⟩:=focus_root none hro g1 (m':=m) (by simp [mkP])
        obtain ⟨g3,_⟩:=g2 rfl
        have hcs:cs'=cs:=by
         obtain ⟨A,cap,eh,_⟩:=hro
         simp only [List.cons.injEq,and_true] at eh
         rw [eh] at hadr g3
         cases A with
         | none=>simp [addrOf] at hadr
         | some A =>
          simp only [addrOf,subc,Nat.zero_mul,Nat.add_zero] at hadr g3
          have e1:A.block=b∧A.off=o:=by cases t' <;> (simp only [addrOf,Option.some.injEq,Prod.mk.injEq] at hadr; exact hadr)
          have e2:=range_at F.at_
          rw [F.rep.len] at e2
          rw [e1.1,e1.2,e2] at g3
          cases t' <;> (simp only [subc,Option.some.injEq] at g3; exact g3)
        subst hcs
        exact ⟨Z,fp,fp',took_gone H e1 rfl F.sub F.rep⟩
       ·cases h'
      ·cases h'
    ·cases h'
   ·cases h'
  ·cases h'
 | .pr u v,.pair a b,m,Z,sl,fp,x,us,cs,h,H,⟨c1,c2,ec,r1,r2⟩=>by
  simp only [take] at h
  split at h
  ·rename_i x1 us1 e1
   split at h
   ·rename_i y1 vs1 e2
    simp only [Option.some.injEq,Prod.mk.injEq] at h
    obtain ⟨rfl,rfl⟩:=h
    obtain ⟨Z1,fp1,F1,T1⟩:=take_sound u e1 H r1
    obtain ⟨Z2,fp2,F2,T2⟩:=take_sound v e2 T1.hr (r2.trans H T1.hr T1.tr)
    refine ⟨Z2,fp2,fun k=>F1 k∨F2 k,by rw [look_app]; exact T2.hr,by rw [look_app]; exact T1.tr.comp T2.tr,⟨c1,c2,F1,F2,ec,T1.rep.keep (fun b hb=>⟨(T2.tr.z b hb).1,rfl⟩) (fun _ _=>rfl),T2.rep,fun k h=>.inl h,fun k h=>.inr h,fun k h h' => ?_⟩,fun k hk => ?_,fun s k h1 h2 => ?_,fun s h => ?_⟩
    ·obtain ⟨s1,_,_,q1,q2⟩:=T1.hand k h
     obtain ⟨s2,q3,q4,_,_⟩:=T2.hand k h'
     exact q4 (T1.hr.disj _ _ _ q1 q3 ▸ q2)
    ·rw [look_app]
     rcases hk with hk | hk
     ·obtain ⟨s1,q0,q0',q1,q2⟩:=T1.hand k hk
      obtain ⟨q3,q4⟩:=T2.kept s1 k q2 q1
      exact ⟨s1,q0,q0',q3,q4⟩
     ·obtain ⟨s2,q3,q4,q5,q6⟩:=T2.hand k hk
      obtain ⟨q7,q8⟩:=T1.back s2 q4
      exact ⟨s2,q8 k q3,q7,q5,q6⟩
    ·rw [look_app]
     obtain ⟨q1,q2⟩:=T1.kept s k h1 h2
     exact T2.kept s k q2 q1
    ·rw [look_app] at h
     obtain ⟨q1,q2⟩:=T2.back s h
     obtain ⟨q3,q4⟩:=T1.back s q1
     exact ⟨q3,fun b hb=>q4 b (q2 b hb)⟩
   ·cases h
  ·cases h
 | .dead,t,_,_,_,_,_,_,_,h,_,_=>by cases t <;> cases h
 | .nil,.bool,_,_,_,_,_,_,_,h,_,_=>by cases h
 | .nil,.int _,_,_,_,_,_,_,_,h,_,_=>by cases h
 | .nil,.str,_,_,_,_,_,_,_,h,_,_=>by cases h
 | .nil,.unit,_,_,_,_,_,_,_,h,_,_=>by cases h
 | .nil,.pair _ _,_,_,_,_,_,_,_,h,_,_=>by cases h
 | .nil,.arr _ _,_,_,_,_,_,_,_,h,_,_=>by cases h
 | .nil,.mp _ _,_,_,_,_,_,_,_,h,_,_=>by cases h
 | .nil,.ex _ _ _,_,_,_,_,_,_,_,h,_,_=>by cases h
 | .root _ _,.bool,_,_,_,_,_,_,_,h,_,_=>by cases h
 | .root _ _,.int _,_,_,_,_,_,_,_,h,_,_=>by cases h
 | .root _ _,.str,_,_,_,_,_,_,_,h,_,_=>by cases h
 | .root _ _,.unit,_,_,_,_,_,_,_,h,_,_=>by cases h
 | .root _ _,.pair _ _,_,_,_,_,_,_,_,h,_,_=>by cases h
 | .root _ _,.arr _ _,_,_,_,_,_,_,_,h,_,_=>by cases h
 | .root _ _,.ex _ _ _,_,_,_,_,_,_,_,h,_,_=>by cases h
 | .pr _ _,.bool,_,_,_,_,_,_,_,h,_,_=>by cases h
 | .pr _ _,.int _,_,_,_,_,_,_,_,h,_,_=>by cases h
 | .pr _ _,.str,_,_,_,_,_,_,_,h,_,_=>by cases h
 | .pr _ _,.unit,_,_,_,_,_,_,_,h,_,_=>by cases h
 | .pr _ _,.arr _ _,_,_,_,_,_,_,_,h,_,_=>by cases h
 | .pr _ _,.sl _,_,_,_,_,_,_,_,h,_,_=>by cases h
 | .pr _ _,.mp _ _,_,_,_,_,_,_,_,h,_,_=>by cases h
 | .pr _ _,.ex _ _ _,_,_,_,_,_,_,_,h,_,_=>by cases h
 | .adr _ _ _ _ _ _,t,_,_,_,_,_,_,_,h,_,_=>by cases t <;> cases h
 | .iadr _ _,t,_,_,_,_,_,_,_,h,_,_=>by cases t <;> cases h
 | .ptr _ _ _,t,_,_,_,_,_,_,_,h,_,_=>by cases t <;> cases h
 | .icl _,t,_,_,_,_,_,_,_,h,_,_=>by cases t <;> cases h
 | .nv _ _ _,t,_,_,_,_,_,_,_,h,_,_=>by cases t <;> cases h
 | .pend _ _ _ _ _ _,t,_,_,_,_,_,_,_,h,_,_=>by cases t <;> cases h
 | .un,t,_,_,_,_,_,_,_,h,_,_=>by cases t <;> cases h
 | .meth _ _ _,t,_,_,_,_,_,_,_,h,_,_=>by cases t <;> cases h
 | .tc _ _,t,_,_,_,_,_,_,_,h,_,_=>by cases t <;> cases h
 | .tn,t,_,_,_,_,_,_,_,h,_,_=>by cases t <;> cases h
 | .fn _ _,t,_,_,_,_,_,_,_,h,_,_=>by cases t <;> cases h
theorem Inline.all {α:Type} {R:α→Bs→List Value→Prop} {q:Value→Prop} (h:∀ x f c,R x f c→∀ v∈c,q v):∀ {xs:List α} {fp:Bs} {cs:List Value},Inline R xs fp cs→∀ v∈cs,q v
 | [],_,_,h0,v,hv=>by rw [show _=[] from h0] at hv; cases hv
 | _ :: xs,_,_,⟨c1,c2,f1,f2,e,r,i,_,_,_⟩,v,hv=>by
  rw [e] at hv
  rcases List.mem_append.1 hv with hv | hv
  ·exact h _ _ _ r v hv
  ·exact Inline.all h i v hv
theorem RepX.one {A B:Type} {Ra:A→List Value→Prop} {Rb:B→List Value→Prop} {va vb:List Value→Value} {Z:Bs} {w:World} {sz:Nat} (ha:∀ x c,Ra x c→∀ v∈c,v.oneCell'=true) (hb:∀ x c,Rb x c→∀ v∈c,v.oneCell'=true) :
 ∀ {k:XK} {x:k.den A B} {cs:List Value},RepX Ra Rb va vb Z w sz k x cs→∀ v∈cs,v.oneCell'=true
 | .tree,_,_,⟨0,h⟩,_,_=>h.elim
 | .tree,_,_,⟨n+1,c1,S,c3,cap,e,h1,h2,_⟩,v,hv=>by
  rw [e] at hv
  rcases List.mem_append.1 hv with hv | hv
  ·exact ha _ _ h1 v hv
  ·rcases List.mem_cons.1 hv with hv | hv
   ·rw [hv]; rfl
   ·exact hb _ _ h2 v hv
 | .ptr,_,_,h,v,hv=>by rcases h with ⟨_,e⟩ | ⟨_,_,_,_,_,e,_⟩ <;> (rw [e] at hv; obtain rfl:=List.mem_singleton.1 hv; rfl)
 | .ifc _ _,_,_,h,v,hv=>by rcases h with ⟨_,e⟩ | ⟨_,_,_,e,_⟩ | ⟨_,_,_,e,_⟩ <;> (rw [e] at hv; obtain rfl:=List.mem_singleton.1 hv; rfl)
 | .fn0 _ _,_,_,h,v,hv=>by rcases h with ⟨_,e⟩ | ⟨_,_,e⟩ <;> (rw [e] at hv; obtain rfl:=List.mem_singleton.1 hv; rfl)
 | .fn1 _,_,_,h,v,hv=>by rcases h with ⟨_,e⟩ | ⟨_,_,_,_,_,e,_⟩ <;> (rw [e] at hv; obtain rfl:=List.mem_singleton.1 hv; rfl)
 | .cell,_,_,h,v,hv=>by rw [show _=_ from h] at hv; obtain rfl:=List.mem_singleton.1 hv; rfl
theorem Rep.one {Z:Bs} {w:World}:∀ {t:Ty} {m:Mk} {x:t.den} {fp:Bs} {cs:List Value},Rep Z w t m x fp cs→∀ v∈cs,v.oneCell'=true
 | .bool,_,_,_,_,h,v,hv | .int _,_,_,_,_,h,v,hv | .str,_,_,_,_,h,v,hv=>by rw [show _=_ from h] at hv; obtain rfl:=List.mem_singleton.1 hv; rfl
 | .unit,_,_,_,_,h,v,hv=>by rw [show _=_ from h] at hv; cases hv
 | .pair _ _,_,_,_,_,⟨c1,c2,f1,f2,e,r,i,_⟩,v,hv=>by
  rw [e] at hv
  rcases List.mem_append.1 hv with hv | hv
  ·exact r.one v hv
  ·exact i.one v hv
 | .arr _ t,_,_,_,_,⟨h,i⟩,v,hv=>Inline.all (fun x f c hr=>Rep.one (t:=t) hr) i v hv
 | .sl _,.ow _,_,_,_,⟨A,cap,e,h⟩,v,hv=>by rw [e] at hv; obtain rfl:=List.mem_singleton.1 hv; rfl
 | .sl _,.im,_,_,_,⟨A,cap,e,h⟩,v,hv | .sl _,.pr _ _,_,_,_,⟨A,cap,e,h⟩,v,hv=>by rw [e] at hv; obtain rfl:=List.mem_singleton.1 hv; rfl
 | .mp _ _,.ow _,_,_,_,h,v,hv=>by rcases h with ⟨_,e⟩ | ⟨b,es,n,l,hl,e,_⟩ <;> (rw [e] at hv; obtain rfl:=List.mem_singleton.1 hv; rfl)
 | .mp _ _,.im,_,_,_,h,v,hv | .mp _ _,.pr _ _,_,_,_,h,v,hv=>by rcases h with ⟨_,e⟩ | ⟨b,es,n,l,hl,e,_⟩ <;> (rw [e] at hv; obtain rfl:=List.mem_singleton.1 hv; rfl)
 | .ex _ a b,_,_,_,_,h,v,hv=>RepX.one (fun x c h=>Rep.one (t:=a) h) (fun x c h=>Rep.one (t:=b) h) h v hv
structure Wrote (w w':World) (b o:Nat) (cs:List Value):Prop where
 rest:∀ k,k≠b→w'.heap[k]?=w.heap[k]?
 out:∀ n,n=cs.length→Out w w' b o n
 at_:At w' b o cs
 size:w'.heap.size=w.heap.size
 os:w'.os=w.os
 tape:w'.tape=w.tape
 output:w'.output=w.output
theorem wrote {P:Program} {w:World} {b o:Nat} {cs ks:List Value} (hb:Own w b) (ha:At w b o ks) (hl:cs.length=ks.length) (h1:∀ v∈cs,v.oneCell'=true) :
 ∃ w',(storeCells ⟨b,o,none⟩ cs).run P w=.ok () w'∧Wrote w w' b o cs:=by
 obtain ⟨c,e,hc⟩:=hb
 by_cases h0:cs=[]
 ·subst h0
  exact ⟨w,rfl,fun _ _=>rfl,fun n hn=>⟨fun _ _=>rfl,fun c e h=>⟨c,h,rfl⟩⟩,fun j hj=>by simp at hj,rfl,rfl,rfl,rfl⟩
 have hlen:0<cs.length:=List.length_pos_iff.2 h0
 have hfit:o+cs.length≤c.size:=by
  have:=ha (ks.length-1) (by omega)
  have hk:ks[ks.length-1]?=some (ks[ks.length-1]'(by omega)):=List.getElem?_eq_getElem _
  rw [hk] at this
  simp only [World.cell?,hc,Option.isSome_none,Bool.false_eq_true,if_false] at this
  have hh:o+(ks.length-1)<c.size:=by
   rcases Nat.lt_or_ge (o+(ks.length-1)) c.size with h | h
   ·exact h
   ·rw [Array.getElem?_eq_none h] at this; cases this
  omega
 have hrun:=run_storeCells_at P b o e cs 0 c w hc (by omega) h1
 simp only [Nat.add_zero] at hrun
 refine ⟨_,hrun,fun k hk=>setRow_other w b k _ hk,fun n hn=>⟨fun j hj => ?_,fun c0 e0 h0 => ?_⟩,fun j hj => ?_,by simp [World.setRow],rfl,rfl,rfl⟩
 ·simp only [World.cell?,setRow_heap w b c _ e _ hc,hc,Option.isSome_none,Bool.false_eq_true,if_false]
  rw [List.getElem?_toArray,← Array.getElem?_toList]
  rcases hj with hj | hj
  ·rw [List.getElem?_append_left (by simp; omega),List.getElem?_append_left (by simp; omega),List.getElem?_take]
   simp [hj]
  ·rw [List.getElem?_append_right (by simp; omega),List.getElem?_drop]
   congr 1
   simp
   omega
 ·rw [hc] at h0
  obtain ⟨rfl,rfl⟩:c=c0∧e=e0:=by simpa using h0
  exact ⟨_,setRow_heap w b c _ e _ hc,by simp; omega⟩
 ·simp only [World.cell?,setRow_heap w b c _ e _ hc,Option.isSome_none,Bool.false_eq_true,if_false]
  rw [List.getElem?_toArray,List.getElem?_append_left (by simp; omega),List.getElem?_append_right (by simp; omega)]
  congr 1
  simp
  omega
theorem store_place {P:Program} {Z:Bs} {sl:Nat→Option Slot} {fp:Nat→Bs} (H:HR Z w sl hdr fp) {s hv cv:Nat} {c:SlotC} (hs:sl s=some ⟨hv,cv,some c⟩) {p:Path} {t:Ty} {x y:t.den} {m:Mk} {b o:Nat} {fp0 F:Bs} {cs:List Value}
 (hro:Rep Z w c.t c.m c.x fp0 [hdr s]) (h0:∀ k,fp0 k→fp s k)
 (hg:getP c.t c.x p=some ⟨t,x⟩) (hm:mkP c.t c.m p=some m) (ho:c.m.isOw=true) (hadr:addrOf w c.t [hdr s] none p=some (b,o)) (hr:Rep Z w t m y F cs)
 (hF:∀ k,F k→(∃ r,fp r k∧noC sl r)∨fp s k∧(¬ fp0 k∨∀ fpl ks,Rep Z w t m x fpl ks→At w b o ks→fpl k)) :
 ∃ w' fp',(storeCells ⟨b,o,none⟩ cs).run P w=.ok () w'∧HR Z w' (put sl s ⟨hv,cv+1,some ⟨c.t,c.m,setP c.t c.x p ⟨t,y⟩⟩⟩) hdr fp' ∧
  Trans Z w sl hdr fp Z w' (put sl s ⟨hv,cv+1,some ⟨c.t,c.m,setP c.t c.x p ⟨t,y⟩⟩⟩) hdr fp':=by
 have hsh:=H.shape s _ _ _ hs
 obtain ⟨ct,cm,cx⟩:=c
 simp only at hg hm ho hadr hro hsh ⊢
 obtain ⟨m0,rfl⟩:∃ m0,cm=.ow m0:=by cases cm <;> first | exact ⟨_,rfl⟩ | cases ho
 rcases hsh with ⟨t0,rfl⟩ | ⟨k0,v0,rfl⟩
 rotate_left 1
 ·cases p with
  | nil=>simp [addrOf] at hadr
  | cons st p=>cases st <;> simp [getP] at hg
 cases p with
 | nil=>simp [addrOf] at hadr
 | cons st p =>
 cases st with
 | f1=>simp [getP] at hg
 | f2=>simp [getP] at hg
 | el i =>
 obtain ⟨b',o',ks,fpl,hadr',_,FR⟩:=focus_root none hro hg hm
 rw [hadr] at hadr'
 simp only [Option.some.injEq,Prod.mk.injEq] at hadr'
 obtain ⟨rfl,rfl⟩:=hadr'
 obtain ⟨w',hrun,W⟩:=wrote (P:=P) FR.blk FR.at_ (hr.len.trans FR.rep.len.symm) hr.one
 have hbs:fp s b:=h0 b FR.own
 have hcont:∀ r k,r≠s→fp r k→F k→noC sl r:=fun r k hne h hk=>by
  rcases hF k hk with ⟨r',h1,h2⟩ | ⟨h1,_⟩
  ·obtain rfl:=H.disj _ _ _ h h1
   exact h2
  ·exact absurd (H.disj _ _ _ h h1) hne
 have hFk:∀ k,F k→fp0 k→fpl k:=fun k hk h=>by
  rcases hF k hk with ⟨r,h1,h2⟩ | ⟨h1,h2 | h2⟩
  ·obtain rfl:=H.disj _ _ _ (h0 k h) h1
   exact absurd hs (h2 _ _ _)
  ·exact absurd h h2
  ·exact h2 fpl ks FR.rep FR.at_
 have hbF:¬ F b:=fun h=>FR.not (hFk b h FR.own)
 have hFo:∀ k,F k→∃ r,fp r k:=fun k hk=>(hF k hk).elim (fun ⟨r,h,_⟩=>⟨r,h⟩) (fun h=>⟨s,h.1⟩)
 have hr':Rep Z w' t m y F cs:=hr.keep (fun k hk=>⟨hk,W.rest k (fun e=>H.dz _ _ hbs (e ▸ hk))⟩) (fun k hk=>W.rest k (fun e=>hbF (e ▸ hk)))
 have hnew:=FR.put w' y cs F (fun k hk=>W.rest k (fun e=>H.dz _ _ hbs (e ▸ hk))) (fun k _ _ hk=>W.rest k hk) (W.out _ hr.len.symm) hr' W.at_ hFk hbF
 refine ⟨w',fun r k=>if r=s then fp s k∨F k else fp r k∧¬ F k,hrun,⟨fun r hv' cv' c' h => ?_,fun r hv' cv' c' h => ?_,fun r r' k h h' => ?_,fun r k h => ?_,fun k h=>by rw [W.size]; exact H.zlt k h,fun r k h hz => ?_⟩,
  fun k hk=>⟨hk,W.rest k (fun e=>H.dz _ _ hbs (e ▸ hk))⟩,fun r S h => ?_,fun k h1 h2 h3=>⟨W.rest k (fun e=>h2 s (e ▸ hbs)),fun r h => ?_,h3⟩,by rw [W.size]; exact Nat.le_refl _,W.os,W.tape,W.output⟩
 ·unfold put at h; split at h
  ·rename_i e; subst e
   simp only [Option.some.injEq,Slot.mk.injEq] at h
   obtain ⟨rfl,rfl,rfl⟩:=h
   simp only [if_true]
   exact hnew.1.mono (fun k hk=>hk.imp (fun h=>h0 k h.1) id)
  ·rename_i e
   simp only [if_neg e]
   exact ((H.rep r hv' cv' c' h).keep (fun k hk=>⟨hk,W.rest k (fun e=>H.dz _ _ hbs (e ▸ hk))⟩) (fun k hk=>W.rest k (fun e'=>e (H.disj _ _ _ hk (e' ▸ hbs))))).mono (fun k hk=>⟨hk,fun hf=>hcont r k e hk hf _ _ _ h⟩)
 ·unfold put at h; split at h
  ·simp only [Option.some.injEq,Slot.mk.injEq] at h
   obtain ⟨rfl,rfl,rfl⟩:=h
   exact .inl ⟨t0,rfl⟩
  ·exact H.shape r hv' cv' c' h
 ·by_cases e:r=s <;> by_cases e':r'=s
  ·exact e.trans e'.symm
  ·simp only [if_pos e,if_neg e'] at h h'
   rcases h with h | h
   ·exact absurd (H.disj _ _ _ h'.1 h) e'
   ·exact absurd h h'.2
  ·simp only [if_neg e,if_pos e'] at h h'
   rcases h' with h' | h'
   ·exact absurd (H.disj _ _ _ h.1 h') e
   ·exact absurd h' h.2
  ·simp only [if_neg e,if_neg e'] at h h'; exact H.disj _ _ _ h.1 h'.1
 ·rw [W.size]
  by_cases e:r=s
  ·simp only [if_pos e] at h
   rcases h with h | h
   ·exact H.lt _ _ h
   ·obtain ⟨r',h1⟩:=hFo k h; exact H.lt _ _ h1
  ·simp only [if_neg e] at h; exact H.lt _ _ h.1
 ·by_cases e:r=s
  ·simp only [if_pos e] at h
   rcases h with h | h
   ·exact H.dz _ _ h hz
   ·obtain ⟨r',h1⟩:=hFo k h; exact H.dz _ _ h1 hz
  ·simp only [if_neg e] at h; exact H.dz _ _ h.1 hz
 ·by_cases e:r=s
  ·subst e
   rw [hs] at h; obtain rfl:=Option.some.inj h
   exact ⟨⟨hv,cv+1,some ⟨.sl t0,.ow m0,setP (.sl t0) cx (.el i :: p) ⟨t,y⟩⟩⟩,by simp only [put,if_true],.inr (.inl ⟨rfl,Nat.lt_succ_self _,fun c' _=>⟨⟨_,rfl⟩,rfl⟩⟩)⟩
  ·refine ⟨S,by simp [put,e,h],.inr (.inr ⟨rfl,rfl,fun c' hc=>⟨c',hc,rfl,fun k hk=>W.rest k (fun e'=>e (H.disj _ _ _ hk (e' ▸ hbs))),.inl ⟨rfl,fun k hk => ?_⟩⟩⟩)⟩
   simp only [if_neg e]
   obtain ⟨a1,a2,a3⟩:=S
   simp only at hc; subst hc
   exact ⟨hk,fun hf=>hcont r k e hk hf _ _ _ h⟩
 ·by_cases e:r=s
  ·simp only [if_pos e] at h
   rcases h with h | h
   ·exact h2 s h
   ·obtain ⟨r',h4⟩:=hFo k h; exact h2 r' h4
  ·simp only [if_neg e] at h; exact h2 r h.1
end
def Fields (tt:TypeId→Option (Ty × Nat)):List Field→Ty→Nat→Prop
 | [],.unit,_=>True
 | f :: fs,.pair a b,off=>f.offset=off∧(∃ n,tt f.type=some (a,n))∧Fields tt fs b (off+a.size)
 | _,_,_=>False
def Desc (E:Env) (tid:TypeId):Ty→Prop
 | .bool=>E.P.underlying tid=some .bool
 | .int k=>E.P.underlying tid=some (.int k)
 | .str=>E.P.underlying tid=some .string
 | .sl t=>∃ e n,E.P.underlying tid=some (.slice e)∧E.tt e=some (t,n)
 | .mp k v=>∃ e f n m,E.P.underlying tid=some (.map e f)∧E.tt e=some (k,n)∧E.tt f=some (v,m)
 | .arr l t=>∃ e n,E.P.underlying tid=some (.array l e)∧E.tt e=some (t,n)
 | .ex .tree a b=>isChain a=true∧∃ fs,E.P.underlying tid=some (.struct fs)∧Fields E.tt fs.toList (unTy (.ex .tree a b)) 0
 | .ex .ptr a _=>∃ e n,E.P.underlying tid=some (.pointer e)∧E.tt e=some (a,n)
 | .ex (.ifc i j) a b=>∃ ms n m,E.P.underlying tid=some (.interface ms)∧E.tt i=some (a,n)∧E.tt j=some (b,m)
 | .ex (.fn0 _ _) _ _=>∃ ps rs v,E.P.underlying tid=some (.func ps rs v)
 | .ex (.fn1 _) _ _=>∃ ps rs v,E.P.underlying tid=some (.func ps rs v)
 | .ex .cell _ _=>False
 | t=>∃ fs,E.P.underlying tid=some (.struct fs)∧Fields E.tt fs.toList t 0
structure TyOK (E:Env) (tid:TypeId) (t:Ty) (bytes:Nat):Prop where
 info:∃ i z,E.P.info? tid=some i∧i.size=t.size∧i.bytes=bytes∧i.zero=some z∧z.cells.toList=t.zcells
 desc:Desc E tid t
 small:bytes≤1024
 zv:∀ i z,E.P.info? tid=some i→i.zero=some z→z=t.val t.zcells
def TTok (E:Env):Prop:=∀ tid t n,E.tt tid=some (t,n)→TyOK E tid t n
theorem TyOK.size {E:Env} {tid:TypeId} {t:Ty} {n:Nat} (h:TyOK E tid t n) (w:World):(sizeOf tid).run E.P w=.ok t.size w:=by
 obtain ⟨i,z,h1,h2,_⟩:=h.info
 simp [sizeOf,typeInfo,h1,h2]
theorem TyOK.agg {E:Env} {tid:TypeId} {t:Ty} {n:Nat} (h:TyOK E tid t n) (w:World):(isAgg tid).run E.P w=.ok t.agg w:=by
 have hd:=h.desc
 cases t <;> simp only [Desc] at hd
 case bool | int | str=>simp [isAgg,run_underlying hd,Ty.agg]
 case sl t=>obtain ⟨e,n,hu,_⟩:=hd; simp [isAgg,run_underlying hu,Ty.agg]
 case mp k v=>obtain ⟨e,f,n,m,hu,_⟩:=hd; simp [isAgg,run_underlying hu,Ty.agg]
 case arr l t=>obtain ⟨e,n,hu,_⟩:=hd; simp [isAgg,run_underlying hu,Ty.agg]
 case unit=>obtain ⟨fs,hu,_⟩:=hd; simp [isAgg,run_underlying hu,Ty.agg]
 case pair a b=>obtain ⟨fs,hu,_⟩:=hd; simp [isAgg,run_underlying hu,Ty.agg]
 case ex k a b =>
  cases k with
  | tree=>obtain ⟨_,fs,hu,_⟩:=hd; simp [isAgg,run_underlying hu,Ty.agg]
  | ptr=>obtain ⟨_,_,hu,_⟩:=hd; simp [isAgg,run_underlying hu,Ty.agg]
  | ifc i j=>obtain ⟨_,_,_,hu,_⟩:=hd; simp [isAgg,run_underlying hu,Ty.agg]
  | fn0 f g=>obtain ⟨_,_,_,hu⟩:=hd; simp [isAgg,run_underlying hu,Ty.agg]
  | fn1 f=>obtain ⟨_,_,_,hu⟩:=hd; simp [isAgg,run_underlying hu,Ty.agg]
  | cell=>exact hd.elim
theorem TyOK.zero {E:Env} {tid:TypeId} {t:Ty} {n:Nat} (h:TyOK E tid t n) (w:World):∃ z,(zeroValue tid).run E.P w=.ok z w∧z.cells.toList=t.zcells:=by
 obtain ⟨i,z,h1,h2,h3,h4,h5⟩:=h.info
 exact ⟨z,by simp [zeroValue,typeInfo,h1,h4],h5⟩
theorem TyOK.un {E:Env} {tid:TypeId} {t:Ty} {n:Nat} (h:TyOK E tid t n):TyOK E tid (unTy t) n:=by
 unfold unTy
 split
 ·rename_i a b
  obtain ⟨hc,fs,hu,hf⟩:=h.desc
  obtain ⟨c1,c2,_⟩:=un_cells (b:=b) hc
  obtain ⟨i,z,h1,h2,h3,h4,h5⟩:=h.info
  refine ⟨⟨i,z,h1,h2.trans c2.symm,h3,h4,h5.trans c1.symm⟩,?_,h.small,fun i z h1 h2=>by
   have h3:(unTy (.ex .tree a b)).val (unTy (.ex .tree a b)).zcells=(Ty.ex .tree a b).val (Ty.ex .tree a b).zcells:=by
    rw [c1]; simp only [Ty.val,(un_cells (b:=b) hc).2.2]; rfl
   exact (h.zv i z h1 h2).trans h3.symm⟩
  have:∃ x y,unTy (.ex .tree a b)=.pair x y:=by cases a <;> first | exact ⟨_,_,rfl⟩ | cases hc
  obtain ⟨x,y,e⟩:=this
  rw [e] at hf
  show Desc E tid (unTy (.ex .tree a b))
  rw [e]
  exact ⟨fs,hu,hf⟩
 ·exact h
theorem tyB2_ok {E:Env} (hE:TTok E) {tid:TypeId} {t:Ty} (h:tyB2 E tid t=true):∃ n,TyOK E tid t n:=by
 unfold tyB2 at h
 split at h
 ·rename_i t' n e
  simp only [Bool.or_eq_true,decide_eq_true_eq] at h
  rcases h with rfl | rfl
  ·exact ⟨n,hE _ _ _ e⟩
  ·exact ⟨n,(hE _ _ _ e).un⟩
 ·cases h
theorem tyB_ok {E:Env} (hE:TTok E) {tid:TypeId} {t:Ty} (h:tyB E tid t=true):∃ n,TyOK E tid t n:=by
 unfold tyB at h
 split at h
 ·rename_i t' n e
  obtain rfl:=of_decide_eq_true h
  exact ⟨n,hE _ _ _ e⟩
 ·cases h
def OpOK (E:Env) (o:Oper) (a:Act) (w:World) (Z:Bs) (sl:Nat→Option Slot) (hdr:Nat→Value) (fp:Nat→Bs) (mv:MV) (sl':Nat→Option Slot):Prop :=
 ∀ (next:Act→World→Prop) (Q:Exit→Act→World→Prop),(∀ v w' Z' hdr' fp',HR Z' w' sl' hdr' fp'→Trans Z w sl hdr fp Z' w' sl' hdr' fp'→RelV Z' w' sl' hdr' fp' mv v→next (a.put o.dst v) w')→o.wp E.P a w next Q
section
variable {E:Env} {o:Oper} {a:Act} {w:World} {Z:Bs} {sl:Nat→Option Slot} {hdr:Nat→Value} {fp:Nat→Bs} {mv:MV}
theorem OpOK.val {v:Value} {w':World} {Z':Bs} {sl':Nat→Option Slot} {hdr':Nat→Value} {fp':Nat→Bs} (hr:(execOp a.eval o).run E.P w=.ok (.value v) w') (H:HR Z' w' sl' hdr' fp') (T:Trans Z w sl hdr fp Z' w' sl' hdr' fp') (R:RelV Z' w' sl' hdr' fp' mv v) :
 OpOK E o a w Z sl hdr fp mv sl':=by
 intro next Q h
 unfold Oper.wp
 rw [hr]
 exact h _ _ _ _ _ H T R
theorem OpOK.skip {w':World} {Z':Bs} {sl':Nat→Option Slot} {hdr':Nat→Value} {fp':Nat→Bs} (hr:(execOp a.eval o).run E.P w=.ok .skip w') (H:HR Z' w' sl' hdr' fp') (T:Trans Z w sl hdr fp Z' w' sl' hdr' fp') :
 OpOK E o a w Z sl hdr fp .dead sl':=by
 intro next Q h
 unfold Oper.wp
 rw [hr]
 exact h _ _ _ _ _ H T (.inl rfl)
theorem OpOK.same {v:Value} (H:HR Z w sl hdr fp) (hr:(execOp a.eval o).run E.P w=.ok (.value v) w) (R:RelV Z w sl hdr fp mv v):OpOK E o a w Z sl hdr fp mv (Ups.look [] sl) :=
 OpOK.val hr H (Trans.refl _ _ _ _ _) R
theorem RelV.int {k:IntKind} {n:Int} {v:Value} (h:RelV Z w sl hdr fp (.val (.int k) n) v):v=.int k n:=by
 rcases h with h | ⟨cs,h,e⟩
 ·cases h
 ·rw [e,show cs=_ from h]; rfl
theorem RelV.bool {b:Bool} {v:Value} (h:RelV Z w sl hdr fp (.val .bool b) v):v=.bool b:=by
 rcases h with h | ⟨cs,h,e⟩
 ·cases h
 ·rw [e,show cs=_ from h]; rfl
theorem RelV.str {s:ByteArray} {v:Value} (h:RelV Z w sl hdr fp (.val .str s) v):v=.string s:=by
 rcases h with h | ⟨cs,h,e⟩
 ·cases h
 ·rw [e,show cs=_ from h]; rfl
theorem relV_int (k:IntKind) (n:Int):RelV Z w sl hdr fp (.val (.int k) n) (.int k n):=.inr ⟨[.int k n],rfl,rfl⟩
theorem relV_bool (b:Bool):RelV Z w sl hdr fp (.val .bool b) (.bool b):=.inr ⟨[.bool b],rfl,rfl⟩
theorem relV_str (s:ByteArray):RelV Z w sl hdr fp (.val .str s) (.string s):=.inr ⟨[.string s],rfl,rfl⟩
theorem int_beq (a b:Int):(a == b)=decide (a=b):=by
 by_cases h:a=b <;> simp [h]
theorem intBin_ok {op:BinOp} {k:IntKind} {x y:Int} {xt:TypeId} {ox oy:Operand} (hs:op≠.shl∧op≠.shr∧op≠.quo∧op≠.rem) (h:intBin op k x y=some mv) :
 ∃ v,(do eqGuard op xt ox oy (.int k x) (.int k y); binOp op xt (.int k x) (.int k y):Sem Value).run E.P w=.ok v w∧RelV Z w sl hdr fp mv v:=by
 have hg:∀ op,(eqGuard op xt ox oy (.int k x) (.int k y)).run E.P w=.ok () w:=by intro op; cases op <;> rfl
 cases op <;> simp only [intBin,Option.some.injEq,reduceCtorEq] at h <;> (try subst h) <;>
  first
  | exact absurd rfl hs.1
  | exact absurd rfl hs.2.1
  | exact absurd rfl hs.2.2.1
  | exact absurd rfl hs.2.2.2
  | (refine ⟨.int k (k.wrap (BitVec.ofInt k.bits x &&& ~~~BitVec.ofInt k.bits y).toNat),?_,relV_int _ _⟩; simp only [Sem.run_bind,hg,Result.andThen_ok,binOp,ne_eq,not_true,if_false,Op.intBits,Sem.run_pure]; done)
  | (refine ⟨_,by simp [hg,binOp,Op.intArith,Op.intBits,Op.intCmp]; rfl,?_⟩; first | exact relV_int _ _ | exact relV_bool _)
theorem chk_some {R:Type} {b:Bool} {k:Option R} {r:R} (h:chk b k=some r):b=true∧k=some r:=by
 cases b <;> simp_all [chk]
theorem cond_some {R:Type} {b:Bool} {k:Option R} {r:R} (h:(bif b then k else none)=some r):b=true∧k=some r:=by
 cases b <;> simp_all
theorem bin_ok (hE:TTok E) {op:BinOp} {xt yt:TypeId} {x y:Operand} {m1 m2:MV} {us:Ups} (H:HR Z w sl hdr fp) (ho:o.op=.binOp op xt x y yt) (hx:RelV Z w sl hdr fp m1 (a.eval x)) (hy:RelV Z w sl hdr fp m2 (a.eval y))
 (h:binK E xt op m1 m2 (fun m u=>some (m,u))=some (mv,us)):OpOK E o a w Z sl hdr fp mv (us.look sl):=by
 have key:∀ v,(do eqGuard op xt x y (a.eval x) (a.eval y); binOp op xt (a.eval x) (a.eval y):Sem Value).run E.P w=.ok v w→(execOp a.eval o).run E.P w=.ok (.value v) w:=by
  intro v hv
  unfold execOp
  rw [ho]
  simp only [Sem.run_bind] at hv ⊢
  rw [hv]; rfl
 unfold binK at h
 split at h
 ·rename_i k n k' n'
  rw [hx.int,hy.int] at key
  have hg:∀ op,(eqGuard op xt x y (.int k n) (.int k' n')).run E.P w=.ok () w:=by intro op; cases op <;> rfl
  split at h
  ·cases hb:decide (n'<0) with
   | true=>rw [hb] at h; cases h
   | false =>
    rw [hb] at h
    simp only [cond_false,Option.some.injEq,Prod.mk.injEq] at h
    obtain ⟨rfl,rfl⟩:=h
    refine .same H (key _ (by have:=of_decide_eq_false hb; simp [hg,binOp,Op.shift,this])) (relV_int _ _)
  ·cases hb:decide (n'<0) with
   | true=>rw [hb] at h; cases h
   | false =>
    rw [hb] at h
    simp only [cond_false,Option.some.injEq,Prod.mk.injEq] at h
    obtain ⟨rfl,rfl⟩:=h
    refine .same H (key _ (by have:=of_decide_eq_false hb; simp [hg,binOp,Op.shift,this])) (relV_int _ _)
  ·split at h
   ·rename_i hk; subst hk
    cases hb:decide (n'=0) with
    | true=>rw [hb] at h; cases h
    | false =>
     rw [hb] at h
     simp only [cond_false,Option.some.injEq,Prod.mk.injEq] at h
     obtain ⟨rfl,rfl⟩:=h
     refine .same H (key _ (by have:=of_decide_eq_false hb; simp [hg,binOp,Op.intDiv,this])) (relV_int _ _)
   ·cases h
  ·split at h
   ·rename_i hk; subst hk
    cases hb:decide (n'=0) with
    | true=>rw [hb] at h; cases h
    | false =>
     rw [hb] at h
     simp only [cond_false,Option.some.injEq,Prod.mk.injEq] at h
     obtain ⟨rfl,rfl⟩:=h
     refine .same H (key _ (by have:=of_decide_eq_false hb; simp [hg,binOp,Op.intDiv,this])) (relV_int _ _)
   ·cases h
  ·rename_i h1 h2 h3 h4
   split at h
   ·rename_i hk; subst hk
    split at h
    ·rename_i v hv
     simp only [Option.some.injEq,Prod.mk.injEq] at h
     obtain ⟨rfl,rfl⟩:=h
     obtain ⟨u,q1,q2⟩:=intBin_ok (E:=E) (xt:=xt) (ox:=x) (oy:=y) (w:=w) (Z:=Z) (sl:=sl) (hdr:=hdr) (fp:=fp) ⟨fun e=>h1 e,fun e=>h2 e,fun e=>h3 e,fun e=>h4 e⟩ hv
     exact .same H (key _ q1) q2
    ·cases h
   ·cases h
 ·rename_i n n'
  rw [hx.bool,hy.bool] at key
  obtain ⟨hb,h⟩:=cond_some h
  obtain ⟨nb,hT⟩:=tyB_ok hE hb
  have hu:E.P.underlying xt=some .bool:=hT.desc
  split at h
  ·simp only [Option.some.injEq,Prod.mk.injEq] at h
   obtain ⟨rfl,rfl⟩:=h
   have hg:(eqGuard .eql xt x y (.bool n) (.bool n')).run E.P w=.ok () w:=rfl
   refine .same H (key _ (by simp only [Sem.run_bind,hg,Result.andThen_ok,run_eql_bool w xt n n' hu])) (relV_bool _)
  ·simp only [Option.some.injEq,Prod.mk.injEq] at h
   obtain ⟨rfl,rfl⟩:=h
   have hg:(eqGuard .neq xt x y (.bool n) (.bool n')).run E.P w=.ok () w:=rfl
   refine .same H (key _ (by simp only [Sem.run_bind,hg,Result.andThen_ok,run_neq_bool w xt n n' hu])) (relV_bool _)
  ·cases h
 ·rename_i n n'
  rw [hx.str,hy.str] at key
  have hg:∀ op,(eqGuard op xt x y (.string n) (.string n')).run E.P w=.ok () w:=by intro op; cases op <;> rfl
  split at h
  ·simp only [Option.some.injEq,Prod.mk.injEq] at h
   obtain ⟨rfl,rfl⟩:=h
   exact .same H (key _ (by simp only [Sem.run_bind,hg,Result.andThen_ok]; rfl)) (relV_bool _)
  ·simp only [Option.some.injEq,Prod.mk.injEq] at h
   obtain ⟨rfl,rfl⟩:=h
   exact .same H (key _ (by simp only [Sem.run_bind,hg,Result.andThen_ok]; rfl)) (relV_bool _)
  ·obtain ⟨hc,h⟩:=chk_some h
   have hc:=Nat.le_of_ble_eq_true hc
   simp only [Option.some.injEq,Prod.mk.injEq] at h
   obtain ⟨rfl,rfl⟩:=h
   refine .same H (key (.string (n++n')) ?_) (relV_str _)
   have hm:IntKind.i64.max=9223372036854775807:=rfl
   have hn:¬ (((n.size+n'.size:Nat):Int) > IntKind.i64.max):=by rw [hm]; omega
   simp only [Sem.run_bind,hg,Result.andThen_ok,binOp,Op.stringOp,if_neg hn,Sem.run_pure]
  ·cases h
 ·cases h
end
section
variable {α:Type} {R:α→Bs→List Value→Prop} {sz:Nat} {w:World}
theorem Inline.app {xs ys:List α} {f1 f2 fp:Bs} {c1 c2:List Value} (h1:Inline R xs f1 c1) (h2:Inline R ys f2 c2) (hd:∀ k,f1 k→¬ f2 k) (s1:∀ k,f1 k→fp k) (s2:∀ k,f2 k→fp k):Inline R (xs++ys) fp (c1++c2):=by
 induction xs generalizing f1 c1 fp with
 | nil=>rw [show c1=[] from h1]; exact Inline.mono (fun _ _ _ h=>h) s2 h2
 | cons x xs ih =>
  obtain ⟨a1,a2,g1,g2,e,r,i,q1,q2,q3⟩:=h1
  subst e
  refine ⟨a1,a2++c2,g1,fun k=>g2 k∨f2 k,by simp,r,ih i (fun k h=>hd k (q2 k h)) (fun k h=>.inl h) (fun k h=>.inr h),fun k h=>s1 k (q1 k h),fun k h=>h.elim (fun h=>s1 k (q2 k h)) (s2 k),fun k h h' => ?_⟩
  rcases h' with h' | h'
  ·exact q3 k h h'
  ·exact hd k (q1 k h) h'
theorem elems_of_inline (hn:∀ x f c,R x f c→c.length=sz) {b:Nat}:∀ {xs:List α} {o:Nat} {F:Bs} {cs:List Value},Inline R xs F cs→At w b o cs→¬ F b→Elems R sz w b o xs F
 | [],o,F,cs,_,_,_=>⟨fun _=>none_,fun _=>[],fun i x h=>by simp at h,fun i j k h=>h.elim⟩
 | x :: xs,o,F,cs,⟨c1,c2,f1,f2,e,r,i,q1,q2,q3⟩,ha,hb=>by
  subst e
  obtain ⟨a1,a2⟩:=At.app.1 ha
  have hl:=hn _ _ _ r
  obtain ⟨fps,css,h1,h2⟩:=elems_of_inline hn i a2 (fun h=>hb (q2 _ h))
  refine ⟨fun n=>match n with | 0=>f1 | n+1=>fun k=>fps n k∧f2 k∧n<xs.length,fun n=>match n with | 0=>c1 | n+1=>css n,fun n y hy => ?_,fun n m k hn' hm' ln lm => ?_⟩
  ·cases n with
   | zero =>
    obtain rfl:x=y:=by simpa using hy
    exact ⟨r,hl,fun j hj=>by rw [Nat.zero_mul,Nat.add_zero]; exact a1 j (by omega),fun k hk=>⟨q1 k hk,fun e=>hb (e ▸ q1 k hk)⟩⟩
   | succ n =>
    have hy':xs[n]?=some y:=by simpa using hy
    obtain ⟨g1,g2,g3,g4⟩:=h1 n y hy'
    have hlt:n<xs.length:=by
     rcases Nat.lt_or_ge n xs.length with h | h
     ·exact h
     ·rw [List.getElem?_eq_none h] at hy'; cases hy'
    have hfn:(fun k=>fps n k∧f2 k∧n<xs.length)=fps n:=by
     funext k; exact propext ⟨fun h=>h.1,fun h=>⟨h,(g4 k h).1,hlt⟩⟩
    refine ⟨by simp only [hfn]; exact g1,g2,fun j hj => ?_,fun k hk=>⟨q2 k hk.2.1,fun e=>hb (e ▸ q2 k hk.2.1)⟩⟩
    rw [← g3 j hj,Nat.succ_mul]
    congr 2
    omega
  ·cases n with
   | zero =>
    cases m with
    | zero=>rfl
    | succ m=>exact absurd hm'.2.1 (q3 k hn')
   | succ n =>
    cases m with
    | zero=>exact absurd hn'.2.1 (q3 k hm')
    | succ m=>exact congrArg _ (h2 n m k hn'.1 hm'.1 hn'.2.2 hm'.2.2)
theorem inline_of_elems {b:Nat} {fp:Bs}:∀ {xs:List α} {o:Nat},Elems R sz w b o xs fp→∃ cs,Inline R xs (fun k=>fp k∧k≠b) cs∧At w b o cs∧cs.length=xs.length*sz
 | [],o,_=>⟨[],rfl,fun j hj=>by simp at hj,by simp⟩
 | x :: xs,o,⟨fps,css,h1,h2⟩=>by
  obtain ⟨g1,g2,g3,g4⟩:=h1 0 x rfl
  have hrest:Elems R sz w b (o+sz) xs (fun k=>fp k∧∀ h:k=k,¬ fps 0 k):=by
   refine ⟨fun n=>fun k=>fps (n+1) k∧n<xs.length,fun n=>css (n+1),fun n y hy => ?_,fun n m k hn' hm' ln lm=>by have:=h2 (n+1) (m+1) k hn'.1 hm'.1 (by simp; exact ln) (by simp; exact lm); omega⟩
   obtain ⟨k1,k2,k3,k4⟩:=h1 (n+1) y (by simpa using hy)
   have hlt:n<xs.length:=by
    rcases Nat.lt_or_ge n xs.length with h | h
    ·exact h
    ·rw [List.getElem?_eq_none h] at hy; cases hy
   have hfn:(fun k=>fps (n+1) k∧n<xs.length)=fps (n+1):=by
    funext k; exact propext ⟨fun h=>h.1,fun h=>⟨h,hlt⟩⟩
   refine ⟨by simp only [hfn]; exact k1,k2,fun j hj => ?_,fun k hk=>⟨⟨(k4 k hk.1).1,fun _ h0 => ?_⟩,(k4 k hk.1).2⟩⟩
   ·rw [← k3 j hj,Nat.succ_mul]; congr 2; omega
   ·have:=h2 (n+1) 0 k hk.1 h0 (by simp; exact hlt) (by simp); omega
  obtain ⟨cs,q1,q2,q3⟩:=inline_of_elems hrest
  refine ⟨css 0++cs,⟨css 0,cs,fps 0,_,rfl,g1,q1,fun k hk=>⟨(g4 k hk).1,(g4 k hk).2⟩,fun k hk=>⟨hk.1.1,hk.2⟩,fun k hk h=>h.1.2 rfl hk⟩,At.app.2 ⟨fun j hj => ?_,by rw [g2]; exact q2⟩,by rw [List.length_append,g2,q3,List.length_cons,Nat.succ_mul]; omega⟩
  have:=g3 j (by omega)
  rw [Nat.zero_mul,Nat.add_zero] at this
  exact this
theorem Inline.replicate {x:α} {c:List Value} (h:∀ fp,R x fp c):∀ (n:Nat) (fp:Bs),Inline R (List.replicate n x) fp (List.replicate n c).flatten
 | 0,_=>rfl
 | n+1,fp=>⟨c,_,none_,none_,rfl,h _,Inline.replicate h n _,fun _ h=>h.elim,fun _ h=>h.elim,fun _ h=>h.elim⟩
theorem inline_one {x:α} {f:Bs} {c:List Value} (h:R x f c):Inline R [x] f c:=⟨c,[],f,none_,by simp,h,rfl,fun _ h=>h,fun _ h=>h.elim,fun _ _ h=>h.elim⟩
end
section
variable {w:World} {Z:Bs} {sl:Nat→Option Slot} {hdr:Nat→Value} {fp:Nat→Bs}
theorem at_alloc (w:World) (cs:List Value) (e:TypeId):At (w.alloc (.cells cs.toArray e)) w.heap.size 0 cs:=by
 intro j hj
 rw [Nat.zero_add,World.cell?_alloc_new]
 simp
theorem new_row (H:HR Z w sl hdr fp) {n:Nat} {S:Slot} (hs:sl n=some S) (t:Ty) (m:Mk) (xs:List t.den) (F:Bs) (cs rest:List Value) (e:TypeId) (cap:Nat) (hi:Inline (fun x f c=>Rep Z w t m x f c) xs F cs)
 (hF:∀ b,F b→∃ r,fp r b∧(r=n∨noC sl r)) (hcap:xs.length≤cap) (hsz:cap*t.size≤(cs++rest).length) :
 ∃ fp',HR Z (w.alloc (.cells (cs++rest).toArray e)) (put sl n ⟨S.hv+1,0,some ⟨.sl t,.ow m,xs⟩⟩) (fun r=>if r=n then .slice (some ⟨w.heap.size,0,none⟩) xs.length cap else hdr r) fp' ∧
  Trans Z w sl hdr fp Z (w.alloc (.cells (cs++rest).toArray e)) (put sl n ⟨S.hv+1,0,some ⟨.sl t,.ow m,xs⟩⟩) (fun r=>if r=n then .slice (some ⟨w.heap.size,0,none⟩) xs.length cap else hdr r) fp':=by
 have hk:∀ k,k<w.heap.size→(w.alloc (.cells (cs++rest).toArray e)).heap[k]?=w.heap[k]?:=fun k h=>Go.RowKit.Below.heap_alloc w _ k h
 obtain ⟨H1,T1⟩:=step_alloc H n (.cells (cs++rest).toArray e)
 have hFl:∀ b,F b→b<w.heap.size:=fun b hb=>by obtain ⟨r,h,_⟩:=hF b hb; exact H.lt _ _ h
 have hrep:Rep Z (w.alloc (.cells (cs++rest).toArray e)) (.sl t) (.ow m) xs (fun k=>F k∨k=w.heap.size) [.slice (some ⟨w.heap.size,0,none⟩) xs.length cap]:=by
  refine ⟨some ⟨w.heap.size,0,none⟩,cap,rfl,.inr ⟨w.heap.size,0,(cs++rest).toArray,e,rfl,.inr rfl,?_,by simpa using hsz,hcap,?_⟩⟩
  ·show (w.heap.push _)[w.heap.size]?=_
   simp
  ·have hi':Inline (fun x f c=>Rep Z (w.alloc (.cells (cs++rest).toArray e)) t m x f c) xs F cs :=
    Inline.keep (fun x f c hf hr=>hr.keep (fun b hb=>⟨hb,hk b (H.zlt b hb)⟩) (fun b hb=>hk b (hFl b (hf b hb)))) hi
   have he:=elems_of_inline (sz:=t.size) (fun x f c h=>Rep.len h) hi' (At.app.1 (at_alloc w (cs++rest) e)).1 (fun h=>Nat.lt_irrefl _ (hFl _ h))
   obtain ⟨fps,css,h6,h7⟩:=he
   exact ⟨fps,css,fun i x hx=>let ⟨a1,a2,a3,a4⟩:=h6 i x hx; ⟨a1,a2,a3,fun k hk=>⟨.inl (a4 k hk).1,(a4 k hk).2⟩⟩,h7⟩
 obtain ⟨fp',_,_,H2,T2⟩:=step_set H1 hs ⟨.sl t,.ow m,xs⟩ (.slice (some ⟨w.heap.size,0,none⟩) xs.length cap) _ hrep (.inl ⟨t,rfl⟩) (fun b hb=>by
  rcases hb with hb | hb
  ·obtain ⟨r,h1,h2⟩:=hF b hb
   exact ⟨r,.inl h1,h2⟩
  ·exact ⟨n,.inr ⟨rfl,hb⟩,.inl rfl⟩) 0
 exact ⟨fp',H2,T1.comp T2⟩
end
section
variable {E:Env} {o:Oper} {a:Act} {w:World} {Z:Bs} {sl:Nat→Option Slot} {hdr:Nat→Value} {fp:Nat→Bs} {mv:MV}
theorem Ty.size_one {t:Ty} (h:t.agg=false):t.size=1:=by
 cases t with
 | ex k a b=>cases k <;> first | rfl | cases h
 | _=>first | rfl | cases h
theorem cells_agg (cs:List Value):(Value.agg cs.toArray).cells.toList=cs:=by simp [Value.cells]
theorem cells_single {v:Value} (h:v.oneCell'=true):v.cells.toList=[v]:=by cases v <;> first | rfl | cases h
theorem take_out' {t:Ty} {m:Mk} {x:t.den} {us:Ups} {cs:List Value} {u:MV} (h:take sl t m u=some (x,us)) (hr:RelC Z w sl hdr fp u cs) (hone:∀ v∈cs,v.oneCell'=true):(u.out cs).cells.toList=cs:=by
 have single:cs.length=1→(cs.headD (.tuple #[])).cells.toList=cs:=fun hl=>by
  obtain ⟨v,rfl⟩:=List.length_eq_one_iff.1 hl
  exact cells_single (hone v (by simp))
 cases u with
 | val t' y =>
  simp only [MV.out,MV.agg]
  cases ha:t'.agg with
  | true=>simp only [cond_true]; exact cells_agg cs
  | false=>simp only [cond_false]; exact single ((Rep.len (t:=t') hr).trans (Ty.size_one ha))
 | view s hv cv p t' y =>
  simp only [MV.out,MV.agg]
  cases ha:t'.agg with
  | true=>simp only [cond_true]; exact cells_agg cs
  | false=>simp only [cond_false]; exact single (hr.1.1.trans (Ty.size_one ha))
 | nil=>obtain ⟨A,rfl⟩:=hr; rfl
 | root s hv=>simp only [MV.out,MV.agg,cond_false]; exact single hr.1.1
 | pr u v=>simp only [MV.out,MV.agg,cond_true]; exact cells_agg cs
 | dead=>cases t <;> cases h
 | adr=>cases t <;> cases h
 | iadr=>cases t <;> cases h
 | ptr=>cases t <;> cases h
 | icl=>cases t <;> cases h
 | nv=>cases t <;> cases h
 | pend=>cases t <;> cases h
 | un=>cases t <;> cases h
 | meth=>cases t <;> cases h
 | tc=>cases t <;> cases h
 | tn=>cases t <;> cases h
 | fn=>cases t <;> cases h
theorem take_out {t:Ty} {m:Mk} {x:t.den} {us:Ups} {cs:List Value} {u:MV} {Z':Bs} {F:Bs} {m':Mk} (h:take sl t m u=some (x,us)) (hr:RelC Z w sl hdr fp u cs) (hp:Rep Z' w t m x F cs):(u.out cs).cells.toList=cs∧cs.length=t.size :=
 ⟨take_out' h hr hp.one,hp.len⟩
theorem take_dead {t:Ty} {m:Mk} {x:t.den} {us:Ups} (h:take sl t m .dead=some (x,us)):False:=by cases t <;> cases h
theorem unMV_okC {Z:Bs} {sl:Nat→Option Slot} {fp:Nat→Bs} {u:MV} {cs:List Value} (h:RelC Z w sl hdr fp u cs):RelC Z w sl hdr fp (unMV u) cs∧(unMV u).out cs=u.out cs:=by
 unfold unMV
 split
 ·rename_i a b x
  cases hc:isChain a with
  | false=>exact ⟨h,rfl⟩
  | true =>
   refine ⟨un_rep hc h,?_⟩
   simp only [MV.out,MV.agg,cond_true,(un_cells (b:=b) hc).2.2]; rfl
 ·rename_i a b x
  cases hc:isChain a with
  | false=>exact ⟨h,rfl⟩
  | true =>
   obtain ⟨b0,o0,ks,e,h1,h2,h3⟩:=h
   exact ⟨⟨b0,o0,ks,e,h1,h2,un_rep hc h3⟩,rfl⟩
 ·rename_i s hv cv p a b x
  cases hc:isChain a with
  | false=>exact ⟨h,rfl⟩
  | true =>
   obtain ⟨q1,S,q2,q3,q4⟩:=h
   refine ⟨⟨q1,S,q2,q3,fun e=>⟨(q4 e).1,fun e2 c hcc => ?_⟩⟩,rfl⟩
   obtain ⟨b0,o0,ks,g1,g2,g3,g4,⟨m,f,g5,g6,g7⟩,g8⟩:=(q4 e).2 e2 c hcc
   exact ⟨b0,o0,ks,g1,g2,g3,g4,⟨.im,none_,un_rep hc g5,fun _ h=>h.elim,fun _ _ h=>h⟩,fun p hp=>by cases hp⟩
 ·exact ⟨h.1,rfl⟩
 ·exact ⟨h,rfl⟩
theorem takeX_cases {t:Ty} {m:Mk} {u:MV} {x:t.den} {us:Ups} (h:takeX sl t m u=some (x,us)):(take sl t m u=some (x,us)∨take sl t m (unMV u)=some (x,us))∨∃ (a b:Ty) (e:t=.ex .tree a b) (y:(unTy (.ex .tree a b)).den),isChain a=true∧take sl (unTy (.ex .tree a b)) .im u=some (y,us)∧x=e ▸ foV a b y:=by
 unfold takeX at h
 split at h
 ·rename_i r e
  obtain rfl:=Option.some.inj h
  exact .inl (.inl e)
 split at h
 ·rename_i r e
  obtain rfl:=Option.some.inj h
  have h:=e
  right
  cases t with
  | ex k a b =>
   cases k with
   | tree =>
    have h:(bif isChain a then (match take sl (unTy (.ex .tree a b)) .im u with
     | some (y,us)=>some (foV a b y,us)
     | none=>none) else none)=some (x,us):=h
    obtain ⟨hc,h⟩:=cond_some h
    split at h
    ·rename_i y us' e1
     simp only [Option.some.injEq,Prod.mk.injEq] at h
     obtain ⟨rfl,rfl⟩:=h
     exact ⟨a,b,rfl,y,hc,e1,rfl⟩
    ·cases h
   | ptr=>cases h
   | ifc i j=>cases h
   | fn0 f g=>cases h
   | fn1 f=>cases h
   | cell=>cases h
  | _=>cases h
 ·exact .inl (.inr h)
theorem takeX_dead {t:Ty} {m:Mk} {x:t.den} {us:Ups} (h:takeX sl t m .dead=some (x,us)):False:=by
 rcases takeX_cases h with (h | h) | ⟨_,_,_,_,_,h,_⟩
 ·exact take_dead h
 ·exact take_dead h
 ·exact take_dead h
theorem takeX_sound {t:Ty} {m:Mk} {Z:Bs} {sl:Nat→Option Slot} {fp:Nat→Bs} {u:MV} {x:t.den} {us:Ups} {cs:List Value} (h:takeX sl t m u=some (x,us)) (H:HR Z w sl hdr fp) (hr:RelC Z w sl hdr fp u cs):∃ Z' fp' F,Took Z w sl hdr fp us Z' fp' t m x F cs:=by
 rcases takeX_cases h with (h1 | h1) | ⟨a,b,rfl,y,hc,h1,rfl⟩
 ·exact take_sound u h1 H hr
 ·exact take_sound _ h1 H (unMV_okC hr).1
 ·obtain ⟨Z',fp',F,K⟩:=take_sound u h1 H hr
  exact ⟨Z',fp',F,K.hr,K.tr,fo_rep hc (K.rep.share (shared_im _)),K.hand,K.kept,K.back⟩
theorem takeX_out {t:Ty} {m:Mk} {x:t.den} {us:Ups} {cs:List Value} {u:MV} {Z':Bs} {F:Bs} (h:takeX sl t m u=some (x,us)) (hr:RelC Z w sl hdr fp u cs) (hp:Rep Z' w t m x F cs):(u.out cs).cells.toList=cs∧cs.length=t.size:=by
 rcases takeX_cases h with (h1 | h1) | ⟨a,b,rfl,y,hc,h1,rfl⟩
 ·exact take_out (m':=m) h1 hr hp
 ·rw [← (unMV_okC hr).2]; exact take_out (m':=m) h1 (unMV_okC hr).1 hp
 ·exact ⟨take_out' h1 hr hp.one,hp.len⟩
theorem relV_root {n:Nat} {S:Slot} {c:SlotC} (h1:(hdr n).oneCell'=true) (hs:sl n=some ⟨S.hv+1,0,some c⟩):RelV Z w sl hdr fp (.root n (S.hv+1)) (hdr n) :=
 .inr ⟨[hdr n],⟨⟨rfl,fun v hv=>by obtain rfl:=List.mem_singleton.1 hv; exact h1⟩,_,hs,Nat.le_refl _,fun _ _ _=>rfl⟩,rfl⟩
theorem relV_var (H:HR Z w sl hdr fp) {n hv:Nat} {t:Ty} {m:Mk} {x:t.den} {b:Nat} (hs:sl n=some ⟨hv,0,some ⟨.sl t,.ow m,[x]⟩⟩) (hh:hdr n=.slice (some ⟨b,0,none⟩) 1 1) :
 RelV Z w sl hdr fp (.adr n hv 0 (some [.el 0]) t x) (.pointer (some ⟨b,0,none⟩)):=by
 have hro:=H.rep n _ _ _ hs
 rw [hh] at hro
 have hg:getP (.sl t) ([x]:List t.den) [.el 0]=some ⟨t,x⟩:=by cases t <;> rfl
 have hm:mkP (.sl t) (.ow m) [.el 0]=some m:=by cases t <;> rfl
 obtain ⟨b',o',ks,f',hadr,_,F⟩:=focus_root none hro hg hm
 have e:b'=b∧o'=0:=by cases t <;> (simp [addrOf] at hadr; exact ⟨hadr.1.symm,hadr.2.symm⟩)
 obtain ⟨rfl,rfl⟩:=e
 refine .inr ⟨[.pointer (some ⟨b',0,none⟩)],⟨⟨rfl,fun v hv=>by obtain rfl:=List.mem_singleton.1 hv; rfl⟩,_,hs,Nat.le_refl _,fun _=>⟨Nat.le_refl _,fun _ c hc => ?_⟩⟩,rfl⟩
 obtain rfl:=Option.some.inj hc
 refine ⟨b',0,ks,rfl,F.at_,.inl F.own,(fun h=>by cases h),⟨m,f',F.rep,F.sub,(fun h=>by cases h)⟩,fun p hp => ?_⟩
 obtain rfl:=Option.some.inj hp
 refine ⟨⟨hg,fun _=>⟨?_,m,hm⟩⟩,fun _=>by rw [hh]; exact hadr⟩
 rw [hh]
 have e2:=range_at F.at_
 rw [F.rep.len] at e2
 simp only [subc,Nat.zero_mul,Nat.add_zero]
 simp only [Nat.zero_add] at e2 ⊢
 rw [e2]
 all_goals first | rfl | (cases t <;> rfl)
theorem new_ok {R:Type} {h:OH} {c:SlotC} {us us':Ups} {mk:Nat→Nat→MV} (hh:newSlot sl h c us mk (fun m u=>some (m,u))=some (mv,us')) :
 ∃ n S,sl n=some S∧us'=(n,⟨S.hv+1,0,some c⟩) :: us∧mv=mk n (S.hv+1)∧us.any (fun u=>Nat.beq u.1 n)=false:=by
 unfold newSlot at hh
 split at hh
 ·rename_i n _ _
  split at hh
  ·rename_i S hS
   cases hb:us.any (fun u=>Nat.beq u.1 n) with
   | true=>rw [hb] at hh; cases hh
   | false =>
    rw [hb] at hh
    simp only [cond_false,Option.some.injEq,Prod.mk.injEq] at hh
    exact ⟨n,S,hS,hh.2.symm,hh.1.symm,hb⟩
  ·cases hh
 ·cases hh
theorem look_other {us:Ups} {n:Nat} (h:us.any (fun u=>Nat.beq u.1 n)=false):us.look sl n=sl n:=by
 induction us with
 | nil=>rfl
 | cons u us ih =>
  obtain ⟨s,S⟩:=u
  simp only [List.any_cons,Bool.or_eq_false_iff] at h
  rw [look_cons,put,if_neg]
  ·exact ih h.2
  ·intro e; subst e; simp at h
theorem alloc_ok (hE:TTok E) {e:TypeId} {t:Ty} {nb:Nat} {h:OH} {us:Ups} (H:HR Z w sl hdr fp) (ho:o.op=.alloc e) (hT:TyOK E e t nb)
 (hh:newSlot sl h ⟨.sl t,.ow h.m,[t.zero]⟩ [] (fun n hv=>.adr n hv 0 (some [.el 0]) t t.zero) (fun m u=>some (m,u))=some (mv,us)):OpOK E o a w Z sl hdr fp mv (us.look sl):=by
 obtain ⟨n,S,hS,rfl,rfl,_⟩:=new_ok (R:=Unit) hh
 obtain ⟨z,hz,hzc⟩:=hT.zero w
 obtain ⟨fp',H',T'⟩:=new_row H hS t h.m [t.zero] none_ t.zcells [] e 1 (inline_one (Rep.zero Z w t h.m none_)) (fun _ h=>h.elim) (Nat.le_refl _) (by simp [Ty.zcells_len])
 rw [look_cons,look_nil]
 have hrun:(execOp a.eval o).run E.P w=.ok (.value (.pointer (some ⟨w.heap.size,0,none⟩))) (w.alloc (.cells (t.zcells++[]).toArray e)):=by
  have hzz:z.cells=(t.zcells++[]).toArray:=by rw [List.append_nil,← hzc]
  unfold execOp; rw [ho]
  simp only [Instr.alloc,Sem.run_bind,hz,Result.andThen_ok,newVar,newRow,run_newObj,Sem.run_pure,hzz]; rfl
 exact .val hrun H' T' (relV_var (m:=h.m) H' (by simp [put]) (by simp))
theorem box_ok (hE:TTok E) {e:TypeId} {t:Ty} {nb:Nat} {h:OH} {us us':Ups} {x:Operand} {u:MV} {v:t.den} (H:HR Z w sl hdr fp) (ho:o.op=.box e x) (hT:TyOK E e t nb) (hx:RelV Z w sl hdr fp u (a.eval x))
 (htk:takeX sl t h.m u=some (v,us)) (hh:newSlot sl h ⟨.sl t,.ow h.m,[v]⟩ us (fun n hv=>.adr n hv 0 (some [.el 0]) t v) (fun m u=>some (m,u))=some (mv,us')):OpOK E o a w Z sl hdr fp mv (us'.look sl):=by
 obtain ⟨n,S,hS,rfl,rfl,hn⟩:=new_ok (R:=Unit) hh
 rcases hx with rfl | ⟨cs,hr,he⟩
 ·exact (takeX_dead htk).elim
 obtain ⟨Z1,fp1,F,T1⟩:=takeX_sound htk H hr
 obtain ⟨hc,hl⟩:=takeX_out htk hr T1.rep
 obtain ⟨fp',H',T'⟩:=new_row T1.hr ((look_other hn).trans hS) t h.m [v] F cs [] e 1 (inline_one T1.rep) (fun b hb=>by obtain ⟨s,_,_,h3,h4⟩:=T1.hand b hb; exact ⟨s,h3,.inr h4⟩) (Nat.le_refl _) (by simp [hl])
 rw [look_cons]
 have hrun:(execOp a.eval o).run E.P w=.ok (.value (.pointer (some ⟨w.heap.size,0,none⟩))) (w.alloc (.cells (cs++[]).toArray e)):=by
  have hzz:(a.eval x).cells=(cs++[]).toArray:=by rw [he,List.append_nil]; exact (Array.toList_inj.1 (by simpa using hc))
  unfold execOp; rw [ho]
  simp only [Instr.box,Sem.run_bind,Result.andThen_ok,newVar,newRow,run_newObj,Sem.run_pure,hzz]; rfl
 exact .val hrun H' (T1.tr.comp T') (relV_var (m:=h.m) H' (by simp [put]) (by simp))
theorem madeCells_replicate (z:List Value) (n:Nat):madeCells z.toArray (n*z.length)=(List.replicate n z).flatten.toArray:=by
 apply Array.ext'
 simp only [madeCells,Array.toList_map,Array.toList_range,List.size_toArray]
 apply List.ext_getElem?
 intro i
 by_cases h0:z.length=0
 ·have:z=[]:=List.eq_nil_of_length_eq_zero h0
  subst this
  simp
 have hz:0<z.length:=by omega
 have gen:∀ n i,(List.replicate n z).flatten[i]?=if i<n*z.length then z[i % z.length]? else none:=by
  intro n
  induction n with
  | zero=>intro i; simp
  | succ n ih =>
   intro i
   rw [List.replicate_succ,List.flatten_cons]
   by_cases hi:i<z.length
   ·rw [List.getElem?_append_left hi,if_pos (by rw [Nat.succ_mul]; omega),Nat.mod_eq_of_lt hi]
   ·rw [List.getElem?_append_right (by omega),ih,Nat.succ_mul]
    have hm:i % z.length=(i-z.length) % z.length:=Nat.mod_eq_sub_mod (by omega)
    rw [hm]
    by_cases hlt:i-z.length<n*z.length
    ·rw [if_pos hlt,if_pos (by omega)]
    ·rw [if_neg hlt,if_neg (by omega)]
 rw [gen,List.getElem?_map]
 by_cases hi:i<n*z.length
 ·rw [if_pos hi,List.getElem?_range hi]
  have:=Nat.mod_lt i hz
  simp [this]
 ·rw [if_neg hi,List.getElem?_eq_none (by simp; omega)]; rfl
theorem make_ok (hE:TTok E) {e:TypeId} {t:Ty} {nb:Nat} {h:OH} {us:Ups} {l c:Operand} {k1 k2:IntKind} {n m:Int} (H:HR Z w sl hdr fp) (ho:o.op=.makeSlice e l c) (ht:E.tt e=some (.sl t,nb))
 (hl:RelV Z w sl hdr fp (.val (.int k1) n) (a.eval l)) (hc:RelV Z w sl hdr fp (.val (.int k2) m) (a.eval c)) (h0:0≤n) (h1:n≤m) (h2:m.toNat≤68719476736)
 (hh:newSlot sl h ⟨.sl t,.ow h.m,List.replicate n.toNat t.zero⟩ [] .root (fun m u=>some (m,u))=some (mv,us)):OpOK E o a w Z sl hdr fp mv (us.look sl):=by
 obtain ⟨s,S,hS,rfl,rfl,_⟩:=new_ok (R:=Unit) hh
 have hT:=hE _ _ _ ht
 obtain ⟨el,nl,hu,hel⟩:=hT.desc
 have hTe:=hE _ _ _ hel
 obtain ⟨i,z,i1,i2,i3,i4,i5⟩:=hTe.info
 have hzz:z.cells=t.zcells.toArray:=Array.toList_inj.1 (by simpa using i5)
 have hbytes:(i.bytes:Int)*m≤281474976710656:=by
  have:m.toNat*i.bytes≤68719476736*1024:=Nat.mul_le_mul h2 (i3 ▸ hTe.small)
  have hm:(m.toNat:Int)=m:=by omega
  have h3:((m.toNat*i.bytes:Nat):Int)≤70368744177664:=by omega
  rw [Int.natCast_mul,hm,Int.mul_comm] at h3
  omega
 have hrun:=run_make w e el i z hu i1 i4 k1 k2 n m h0 h1 hbytes (by omega)
 rw [i2,hzz,← t.zcells_len,madeCells_replicate] at hrun
 have hsplit:(List.replicate m.toNat t.zcells).flatten=(List.replicate n.toNat t.zcells).flatten++(List.replicate (m.toNat-n.toNat) t.zcells).flatten:=by
  rw [← List.flatten_append,List.replicate_append_replicate]; congr 2; omega
 rw [hsplit] at hrun
 obtain ⟨fp',H',T'⟩:=new_row H hS t h.m (List.replicate n.toNat t.zero) none_ (List.replicate n.toNat t.zcells).flatten (List.replicate (m.toNat-n.toNat) t.zcells).flatten el m.toNat (Inline.replicate (fun f=>Rep.zero Z w t h.m f) _ _) (fun _ h=>h.elim) (by simp; omega)
  (by rw [← hsplit]; simp [Ty.zcells_len])
 rw [look_cons,look_nil]
 have hrun':(execOp a.eval o).run E.P w=.ok (.value (.slice (some ⟨w.heap.size,0,none⟩) n.toNat m.toNat)) (w.alloc (.cells ((List.replicate n.toNat t.zcells).flatten++(List.replicate (m.toNat-n.toNat) t.zcells).flatten).toArray el)):=by
  unfold execOp; rw [ho]
  simp only [Sem.run_bind,hl.int,hc.int,hrun,Result.andThen_ok,Sem.run_pure]
 refine .val hrun' H' T' ?_
 have:=relV_root (Z:=Z) (w:=w.alloc (.cells ((List.replicate n.toNat t.zcells).flatten++(List.replicate (m.toNat-n.toNat) t.zcells).flatten).toArray el)) (sl:=put sl s ⟨S.hv+1,0,some ⟨.sl t,.ow h.m,List.replicate n.toNat t.zero⟩⟩) (hdr:=fun r=>if r=s then Value.slice (some ⟨w.heap.size,0,none⟩) (List.replicate n.toNat t.zero).length m.toNat else hdr r) (fp:=fp') (n:=s) (S:=S) (c:=⟨.sl t,.ow h.m,List.replicate n.toNat t.zero⟩) (by simp [Value.oneCell']) (by simp [put])
 simpa using this
end
theorem fill_seg:∀ (l:List Value) (k off:Nat) (arr:Array Value),off+k+l.length≤arr.size →
 (l.zipIdx k).foldl (fun cs (x:Value × Nat)=>cs.setIfInBounds (off+x.2) x.1) arr=(arr.toList.take (off+k)++l++arr.toList.drop (off+k+l.length)).toArray
 | [],k,off,arr,_=>by simp
 | v :: l,k,off,arr,h=>by
  simp only [List.length_cons] at h
  have hal:arr.toList.length=arr.size:=Array.length_toList
  rw [List.zipIdx_cons,List.foldl_cons,fill_seg l (k+1) off _ (by simp at h ⊢; omega)]
  apply Array.ext'
  simp only [Array.toList_setIfInBounds]
  apply List.ext_getElem?
  intro j
  have hs:off+k<arr.toList.length:=by simp at h ⊢; omega
  by_cases h1:j<off+k
  ·rw [List.append_assoc,List.append_assoc,List.getElem?_append_left (by simp; omega),List.getElem?_append_left (by simp; omega),List.getElem?_take_of_lt (by omega),List.getElem?_take_of_lt h1,List.getElem?_set,if_neg (by omega)]
  ·by_cases h2:j=off+k
   ·subst h2
    rw [List.append_assoc,List.append_assoc,List.getElem?_append_left (by simp; omega),List.getElem?_take_of_lt (by omega),List.getElem?_set,if_pos rfl,if_pos (by simpa using hs),List.getElem?_append_right (by simp; omega)]
    have:off+k-(List.take (off+k) arr.toList).length=0:=by simp; omega
    rw [this]; rfl
   ·rw [List.append_assoc,List.append_assoc,List.getElem?_append_right (l₁:=List.take (off+(k+1)) (arr.toList.set (off+k) v)) (by simp; omega),List.getElem?_append_right (l₁:=List.take (off+k) arr.toList) (by simp; omega)]
    have e1:j-(List.take (off+(k+1)) (arr.toList.set (off+k) v)).length=j-(off+k)-1:=by simp; omega
    have e2:j-(List.take (off+k) arr.toList).length=(j-(off+k)-1)+1:=by simp; omega
    rw [e1,e2,List.cons_append,List.getElem?_cons_succ]
    by_cases h3:j-(off+k)-1<l.length
    ·rw [List.getElem?_append_left h3,List.getElem?_append_left h3]
    ·rw [List.getElem?_append_right (l₁:=l) (l₂:=List.drop (off+(k+1)+l.length) (arr.toList.set (off+k) v)) (by omega),List.getElem?_append_right (by omega),List.getElem?_drop,List.getElem?_drop,List.getElem?_set,if_neg (by omega)]
     congr 1
     simp only [List.length_cons]
     omega
def startOf (css:List (List Value)) (i:Nat):Nat:=(css.take i).flatten.length
theorem flatten_at {css:List (List Value)} {i:Nat} {c:List Value} (h:css[i]?=some c):css.flatten=(css.take i).flatten++(c++(css.drop (i+1)).flatten):=by
 have hl:i<css.length:=by
  rcases Nat.lt_or_ge i css.length with h' | h'
  ·exact h'
  ·rw [List.getElem?_eq_none h'] at h; cases h
 conv=>lhs; rw [← List.take_append_drop i css]
 rw [List.flatten_append,List.drop_eq_getElem_cons hl,List.flatten_cons]
 have:css[i]=c:=by rw [List.getElem?_eq_getElem hl] at h; exact Option.some.inj h
 rw [this]
theorem fill_step {places:Nat→Option (Nat × Nat)} {css:List (List Value)} {i:Nat} {c c':List Value} {v:Value} {rest:List (Nat × Value)} (hp:places i=some (startOf css i,c.length)) (hi:css[i]?=some c) (hv:v.cells.toList=c') (hl:c'.length=c.length) :
 Instr.fill places css.flatten.toArray ((i,v) :: rest)=Instr.fill places (css.set i c').flatten.toArray rest:=by
 have hlt:i<css.length:=by
  rcases Nat.lt_or_ge i css.length with h' | h'
  ·exact h'
  ·rw [List.getElem?_eq_none h'] at hi; cases hi
 have e:=flatten_at hi
 have hvs:v.cells.size=c.length:=by rw [← Array.length_toList,hv,hl]
 have hsz:startOf css i+v.cells.size≤css.flatten.toArray.size:=by
  have e3:css.flatten.toArray.size=css.flatten.length:=List.size_toArray
  rw [e3,e,hvs]; simp only [List.length_append,startOf]; omega
 have e':=flatten_at (css:=css.set i c') (i:=i) (c:=c') (by rw [List.getElem?_set,if_pos rfl,if_pos hlt])
 have e3:css.flatten.toArray.size=css.flatten.length:=List.size_toArray
 have hcond:¬ (startOf css i+c.length > css.flatten.toArray.size):=by rw [hvs] at hsz; omega
 simp only [Instr.fill,hp,hvs,ne_eq,not_true,decide_false,Bool.false_or,decide_eq_true_eq]
 rw [if_neg hcond]
 congr 1
 rw [← Array.foldl_toList]
 have hz:v.cells.zipIdx.toList=c'.zipIdx:=by rw [Array.toList_zipIdx,hv]
 rw [hz]
 have:=fill_seg c' 0 (startOf css i) css.flatten.toArray (by rw [Nat.add_zero,hl,← hvs]; exact hsz)
 simp only [Nat.add_zero] at this
 refine Eq.trans ?_ (this.trans ?_)
 ·rfl
 ·congr 1
  rw [e',List.take_set_of_le (Nat.le_refl _),List.drop_set_of_lt (Nat.lt_succ_self _),e]
  simp only [startOf]
  rw [List.take_left,List.append_assoc]
  congr 2
  rw [hl,← List.append_assoc,show (List.take i css).flatten.length+c.length=((List.take i css).flatten++c).length by simp,List.drop_left]
theorem startOf_set {css:List (List Value)} {i:Nat} {c c':List Value} (hi:css[i]?=some c) (hl:c'.length=c.length) (j:Nat):startOf (css.set i c') j=startOf css j:=by
 unfold startOf
 rw [List.length_flatten,List.length_flatten]
 congr 1
 apply List.ext_getElem?
 intro k
 rw [List.getElem?_map,List.getElem?_map,List.getElem?_take,List.getElem?_take]
 split
 ·rw [List.getElem?_set]
  split
  ·rename_i e; subst e
   have hlt:i<css.length:=by
    rcases Nat.lt_or_ge i css.length with h' | h'
    ·exact h'
    ·rw [List.getElem?_eq_none h'] at hi; cases hi
   rw [hi,if_pos hlt,Option.map_some,Option.map_some,hl]
  ·rfl
 ·rfl
theorem fill_all {places:Nat→Option (Nat × Nat)}:∀ (ps:List (Nat × Value)) (cps:List (Nat × List Value)) (css:List (List Value)),(∀ i c,css[i]?=some c→places i=some (startOf css i,c.length)) →
 ps.map (·.1)=cps.map (·.1)→(∀ (k:Nat) (p:Nat × Value) (q:Nat × List Value),ps[k]?=some p→cps[k]?=some q→p.2.cells.toList=q.2∧∃ c,css[p.1]?=some c∧q.2.length=c.length) →
 Instr.fill places css.flatten.toArray ps=some (setMany css cps).flatten.toArray
 | [],[],css,_,_,_=>rfl
 | [],_ :: _,_,_,h,_=>by simp at h
 | _ :: _,[],_,_,h,_=>by simp at h
 | (i,v) :: ps,(i',c') :: cps,css,hp,h,hv=>by
  simp only [List.map_cons,List.cons.injEq] at h
  obtain ⟨rfl,h⟩:=h
  obtain ⟨h1,c,h2,h3⟩:=hv 0 _ _ rfl rfl
  rw [fill_step (hp _ _ h2) h2 h1 h3]
  refine fill_all ps cps _ (fun j d hd => ?_) h (fun k p q hk hq => ?_)
  ·rw [startOf_set h2 h3]
   rw [List.getElem?_set] at hd
   split at hd
   ·rename_i e; subst e
    split at hd
    ·obtain rfl:=Option.some.inj hd
     rw [hp _ _ h2,h3]
    ·cases hd
   ·exact hp _ _ hd
  ·obtain ⟨q1,d,q2,q3⟩:=hv (k+1) p q (by simpa using hk) (by simpa using hq)
   refine ⟨q1,?_⟩
   rw [List.getElem?_set]
   split
   ·rename_i e
    rw [← e,h2] at q2; obtain rfl:=Option.some.inj q2
    have hlt:i<css.length:=by
     rcases Nat.lt_or_ge i css.length with h' | h'
     ·exact h'
     ·rw [List.getElem?_eq_none h'] at h2; cases h2
    rw [if_pos (show (i,v).fst<css.length from hlt)]
    exact ⟨c',rfl,q3.trans h3.symm⟩
   ·exact ⟨d,q2,q3⟩
theorem setMany_len {α:Type}:∀ (ps:List (Nat × α)) (l:List α),(setMany l ps).length=l.length
 | [],_=>rfl
 | (i,x) :: ps,l=>by simp [setMany,setMany_len ps]
def InlineL {α:Type} (R:α→Bs→List Value→Prop):List α→Bs→List (List Value)→Prop
 | [],_,css=>css=[]
 | x :: xs,fp,css=>∃ c css' f1 f2,css=c :: css'∧R x f1 c∧InlineL R xs f2 css'∧(∀ k,f1 k→fp k)∧(∀ k,f2 k→fp k)∧∀ k,f1 k→¬ f2 k
theorem InlineL.inline {α:Type} {R:α→Bs→List Value→Prop}:∀ {xs:List α} {fp:Bs} {css:List (List Value)},InlineL R xs fp css→Inline R xs fp css.flatten
 | [],_,_,h=>by rw [show _=[] from h]; rfl
 | _ :: _,_,_,⟨c,css',f1,f2,e,r,i,a,b,d⟩=>by rw [e]; exact ⟨c,css'.flatten,f1,f2,rfl,r,i.inline,a,b,d⟩
theorem InlineL.mono0 {α:Type} {R:α→Bs→List Value→Prop}:∀ {xs:List α} {fp fp':Bs} {css:List (List Value)},(∀ k,fp k→fp' k)→InlineL R xs fp css→InlineL R xs fp' css
 | [],_,_,_,_,h=>h
 | _ :: _,_,_,_,hf,⟨c,css',f1,f2,e,r,i,s1,s2,d⟩=>⟨c,css',f1,f2,e,r,i,fun k hk=>hf k (s1 k hk),fun k hk=>hf k (s2 k hk),d⟩
theorem InlineL.set {α:Type} {R:α→Bs→List Value→Prop}:∀ {xs:List α} {fp F:Bs} {css:List (List Value)} {i:Nat} {x:α} {c:List Value},InlineL R xs fp css→i<xs.length→R x F c→(∀ k,F k→¬ fp k)→InlineL R (xs.set i x) (fun k=>fp k∨F k) (css.set i c)
 | [],_,_,_,_,_,_,_,h,_,_=>by simp at h
 | _ :: _,fp,F,_,0,x,c,⟨c0,css',f1,f2,e,r,i,a,b,d⟩,_,hr,hd=>by
  rw [e]
  exact ⟨c,css',F,f2,rfl,hr,i,fun k h=>.inr h,fun k h=>.inl (b k h),fun k h h'=>hd k h (b k h')⟩
 | _ :: _,fp,F,_,n+1,x,c,⟨c0,css',f1,f2,e,r,i,a,b,d⟩,hl,hr,hd=>by
  rw [e]
  refine ⟨c0,css'.set n c,f1,fun k=>f2 k∨F k,rfl,r,i.set (by simpa using hl) hr (fun k h h'=>hd k h (b k h')),fun k h=>.inl (a k h),fun k h=>h.imp (b k) id,fun k h h' => ?_⟩
  rcases h' with h' | h'
  ·exact d k h h'
  ·exact hd k h' (a k h)
theorem InlineL.replicate {α:Type} {R:α→Bs→List Value→Prop} {x:α} {c:List Value} (h:∀ f,R x f c):∀ (n:Nat) (fp:Bs),InlineL R (List.replicate n x) fp (List.replicate n c)
 | 0,_=>rfl
 | n+1,_=>⟨c,_,none_,none_,rfl,h _,InlineL.replicate h n _,fun _ h=>h.elim,fun _ h=>h.elim,fun _ h=>h.elim⟩
theorem InlineL.keep {α:Type} {R R':α→Bs→List Value→Prop} (h:∀ x f c,R x f c→R' x f c):∀ {xs:List α} {fp:Bs} {css:List (List Value)},InlineL R xs fp css→InlineL R' xs fp css
 | [],_,_,h0=>h0
 | _ :: _,_,_,⟨c,css',f1,f2,e,r,i,a,b,d⟩=>⟨c,css',f1,f2,e,h _ _ _ r,i.keep h,a,b,d⟩
def TM (Z:Bs) (w:World) (t:Ty) (m:Mk):List (Nat × t.den)→List (Nat × List Value)→Bs→Prop
 | [],cps,_=>cps=[]
 | (i,x) :: l,cps,F=>∃ c cps' F1 F2,cps=(i,c) :: cps'∧Rep Z w t m x F1 c∧TM Z w t m l cps' F2∧(∀ k,F1 k→F k)∧(∀ k,F2 k→F k)∧∀ k,F1 k→¬ F2 k
theorem TM.inline {Z:Bs} {w:World} {t:Ty} {m:Mk}:∀ {l:List (Nat × t.den)} {cps:List (Nat × List Value)} {F fp:Bs} {xs:List t.den} {css:List (List Value)},TM Z w t m l cps F→InlineL (fun x f c=>Rep Z w t m x f c) xs fp css →
 (∀ p∈l,p.1<xs.length)→(∀ k,F k→¬ fp k)→InlineL (fun x f c=>Rep Z w t m x f c) (setMany xs l) (fun k=>fp k∨F k) (setMany css cps)
 | [],cps,F,fp,xs,css,h,hi,_,_=>by
  rw [show cps=[] from h]
  have gen:∀ {xs:List t.den} {fp fp':Bs} {css:List (List Value)},(∀ k,fp k→fp' k)→InlineL (fun x f c=>Rep Z w t m x f c) xs fp css→InlineL (fun x f c=>Rep Z w t m x f c) xs fp' css:=by
   intro xs
   induction xs with
   | nil=>intro _ _ _ _ h; exact h
   | cons x xs ih=>rintro fp fp' css hf ⟨c,css',f1,f2,e,r,i,a,b,d⟩; exact ⟨c,css',f1,f2,e,r,i,fun k h=>hf k (a k h),fun k h=>hf k (b k h),d⟩
  exact gen (fun k h=>.inl h) hi
 | (i,x) :: l,cps,F,fp,xs,css,⟨c,cps',F1,F2,e,r,h,s1,s2,hd⟩,hi,hl,hF=>by
  rw [e]
  have h1:=hi.set (hl (i,x) (by simp)) r (fun k h=>hF k (s1 k h))
  have h2:=TM.inline h h1 (fun p hp=>by rw [List.length_set]; exact hl p (by simp [hp])) (fun k h h'=>h'.elim (hF k (s2 k h)) (fun h'=>hd k h' h))
  have gen:∀ {xs:List t.den} {fp fp':Bs} {css:List (List Value)},(∀ k,fp k→fp' k)→InlineL (fun x f c=>Rep Z w t m x f c) xs fp css→InlineL (fun x f c=>Rep Z w t m x f c) xs fp' css:=by
   intro xs
   induction xs with
   | nil=>intro _ _ _ _ h; exact h
   | cons x xs ih=>rintro fp fp' css hf ⟨c,css',f1,f2,e,r,i,a,b,d⟩; exact ⟨c,css',f1,f2,e,r,i,fun k h=>hf k (a k h),fun k h=>hf k (b k h),d⟩
  exact gen (fun k h=>h.elim (fun h=>h.elim .inl (fun h=>.inr (s1 k h))) (fun h=>.inr (s2 k h))) h2
theorem TM.keep {Z Z':Bs} {w:World} {t:Ty} {m:Mk} (hZ:∀ b,Z b→Z' b):∀ {l:List (Nat × t.den)} {cps:List (Nat × List Value)} {F:Bs},TM Z w t m l cps F→TM Z' w t m l cps F
 | [],_,_,h=>h
 | _ :: _,_,_,⟨c,cps',F1,F2,e,r,h,s⟩=>⟨c,cps',F1,F2,e,r.more hZ,h.keep hZ,s⟩
section
variable {E:Env} {o:Oper} {a:Act} {w:World} {hdr:Nat→Value} {mv:MV}
structure TookM (Z:Bs) (w:World) (sl:Nat→Option Slot) (hdr:Nat→Value) (fp:Nat→Bs) (us:Ups) (Z':Bs) (fp':Nat→Bs):Prop where
 hr:HR Z' w (us.look sl) hdr fp'
 tr:Trans Z w sl hdr fp Z' w (us.look sl) hdr fp'
 kept:∀ s b,noC sl s→fp s b→fp' s b∧noC (us.look sl) s
 back:∀ s,¬ noC (us.look sl) s→¬ noC sl s∧∀ b,fp' s b→fp s b
theorem takeMany_sound {t:Ty} {m:Mk}:∀ (ps:List (Nat × MV)) (vs:List (Nat × Value)) {Z:Bs} {sl:Nat→Option Slot} {fp:Nat→Bs} {l:List (Nat × t.den)} {us:Ups},takeMany t m sl ps=some (l,us)→HR Z w sl hdr fp →
 ps.map (·.1)=vs.map (·.1)→(∀ (k:Nat) (p:Nat × MV) (v:Nat × Value),ps[k]?=some p→vs[k]?=some v→RelV Z w sl hdr fp p.2 v.2) →
 ∃ Z' fp' F cps,TookM Z w sl hdr fp us Z' fp'∧TM Z' w t m l cps F∧(∀ b,F b→∃ s,fp s b∧¬ noC sl s∧fp' s b∧noC (us.look sl) s)∧vs.map (·.1)=cps.map (·.1)∧l.map (·.1)=ps.map (·.1) ∧
  (∀ (k:Nat) (v:Nat × Value) (q:Nat × List Value),vs[k]?=some v→cps[k]?=some q→v.2.cells.toList=q.2∧q.2.length=t.size)
 | [],[],Z,sl,fp,l,us,h,H,_,_=>by
  simp only [takeMany,Option.some.injEq,Prod.mk.injEq] at h
  obtain ⟨rfl,rfl⟩:=h
  exact ⟨Z,fp,none_,[],⟨H,Trans.refl _ _ _ _ _,fun s b h1 h2=>⟨h2,h1⟩,fun s h=>⟨h,fun _ h=>h⟩⟩,rfl,fun _ h=>h.elim,rfl,rfl,fun k v q h=>by simp at h⟩
 | [],_ :: _,_,_,_,_,_,_,_,h,_=>by simp at h
 | _ :: _,[],_,_,_,_,_,_,_,h,_=>by simp at h
 | (i,u) :: ps,(i',v) :: vs,Z,sl,fp,l,us,h,H,hm,hv=>by
  simp only [List.map_cons,List.cons.injEq] at hm
  obtain ⟨rfl,hm⟩:=hm
  simp only [takeMany] at h
  split at h
  ·rename_i x us1 e1
   split at h
   ·rename_i l2 vs2 e2
    simp only [Option.some.injEq,Prod.mk.injEq] at h
    obtain ⟨rfl,rfl⟩:=h
    rcases hv 0 (i,u) (i,v) rfl rfl with h0 | ⟨cs,hr,he⟩
    ·simp only at h0; subst h0; exact (takeX_dead e1).elim
    obtain ⟨Z1,fp1,F1,T1⟩:=takeX_sound e1 H hr
    obtain ⟨hc,hl⟩:=takeX_out e1 hr T1.rep
    obtain ⟨Z2,fp2,F2,cps,T2,hTM,hand,hn,hn2,hcs⟩:=takeMany_sound ps vs e2 T1.hr hm (fun k p v hp hvv=>(hv (k+1) p v (by simpa using hp) (by simpa using hvv)).trans H T1.hr T1.tr)
    refine ⟨Z2,fp2,fun k=>F1 k∨F2 k,(i,cs) :: cps,⟨by rw [look_app]; exact T2.hr,by rw [look_app]; exact T1.tr.comp T2.tr,fun s b h1 h2 => ?_,fun s h => ?_⟩,⟨cs,cps,F1,F2,rfl,T1.rep.more (fun b hb=>(T2.tr.z b hb).1),hTM,fun k h=>.inl h,fun k h=>.inr h,fun k h h' => ?_⟩,fun k hk => ?_,by simp [hn],by simp [hn2],fun k v' q hk hq => ?_⟩
    ·rw [look_app]
     obtain ⟨q1,q2⟩:=T1.kept s b h1 h2
     exact T2.kept s b q2 q1
    ·rw [look_app] at h
     obtain ⟨q1,q2⟩:=T2.back s h
     obtain ⟨q3,q4⟩:=T1.back s q1
     exact ⟨q3,fun b hb=>q4 b (q2 b hb)⟩
    ·obtain ⟨s1,_,_,q1,q2⟩:=T1.hand k h
     obtain ⟨s2,q3,q4,_,_⟩:=hand k h'
     exact q4 (T1.hr.disj _ _ _ q1 q3 ▸ q2)
    ·rw [look_app]
     rcases hk with hk | hk
     ·obtain ⟨s1,q0,q0',q1,q2⟩:=T1.hand k hk
      obtain ⟨q3,q4⟩:=T2.kept s1 k q2 q1
      exact ⟨s1,q0,q0',q3,q4⟩
     ·obtain ⟨s2,q3,q4,q5,q6⟩:=hand k hk
      obtain ⟨q7,q8⟩:=T1.back s2 q4
      exact ⟨s2,q8 k q3,q7,q5,q6⟩
    ·cases k with
     | zero =>
      simp only [List.getElem?_cons_zero,Option.some.injEq] at hk hq
      subst hk; subst hq
      exact ⟨by simp only; simp only at he; rw [he]; exact hc,hl⟩
     | succ k=>exact hcs k v' q (by simpa using hk) (by simpa using hq)
   ·cases h
  ·cases h
theorem buildSlice_ok (hE:TTok E) {Z:Bs} {sl:Nat→Option Slot} {fp:Nat→Bs} {e:TypeId} {t:Ty} {nb:Nat} {h:OH} {us us':Ups} {n:Nat} {parts:Array (Nat × Operand)} {ρ:Operand→MV} {l:List (Nat × t.den)} (H:HR Z w sl hdr fp) (ho:o.op=.buildSlice e n parts) (ht:E.tt e=some (.sl t,nb))
 (hρ:∀ x,RelV Z w sl hdr fp (ρ x) (a.eval x)) (htk:takeMany t h.m sl (parts.toList.map fun p=>(p.1,ρ p.2))=some (l,us)) (hn:n*t.size≤16777216) (hb:∀ p∈l,p.1<n)
 (hh:newSlot sl h ⟨.sl t,.ow h.m,setMany (List.replicate n t.zero) l⟩ us .root (fun m u=>some (m,u))=some (mv,us')):OpOK E o a w Z sl hdr fp mv (us'.look sl):=by
 obtain ⟨s,S,hS,rfl,rfl,hns⟩:=new_ok (R:=Unit) hh
 have hT:=hE _ _ _ ht
 obtain ⟨el,nl,hu,hel⟩:=hT.desc
 have hTe:=hE _ _ _ hel
 obtain ⟨z,hz,hzc⟩:=hTe.zero w
 have hzz:z.cells=t.zcells.toArray:=Array.toList_inj.1 (by simpa using hzc)
 obtain ⟨Z1,fp1,F,cps,T1,hTM,hand,hnm,hnm2,hcs⟩:=takeMany_sound (parts.toList.map fun p=>(p.1,ρ p.2)) (parts.toList.map fun p=>(p.1,a.eval p.2)) htk H (by simp) (fun k p v hp hv=>by
  rw [List.getElem?_map] at hp hv
  cases hk:parts.toList[k]? with
  | none=>rw [hk] at hp; cases hp
  | some q =>
   rw [hk] at hp hv
   simp only [Option.map_some,Option.some.injEq] at hp hv
   subst hp; subst hv
   exact hρ _)
 have hi:=TM.inline hTM (InlineL.replicate (R:=fun x f c=>Rep Z1 w t h.m x f c) (fun f=>Rep.zero Z1 w t h.m f) n none_) (fun p hp=>by rw [List.length_replicate]; exact hb p hp) (fun _ _ h=>h)
 have hlen:(setMany (List.replicate n t.zcells) cps).flatten.length=n*t.size:=by
  rw [Inline.len (fun x f c h=>Rep.len h) hi.inline,setMany_len,List.length_replicate]
 obtain ⟨fp',H',T'⟩:=new_row T1.hr ((look_other hns).trans hS) t h.m (setMany (List.replicate n t.zero) l) F (setMany (List.replicate n t.zcells) cps).flatten [] el n
  (Inline.mono (fun _ _ _ h=>h) (fun k hk=>hk.elim (fun h=>h.elim) id) hi.inline) (fun b hb=>by obtain ⟨s,_,_,h3,h4⟩:=hand b hb; exact ⟨s,h3,.inr h4⟩) (by rw [setMany_len]; simp) (by rw [List.append_nil,hlen]; exact Nat.le_refl _)
 rw [look_cons]
 have hfill:Instr.fill (fun i=>some (i*t.size,t.size)) (List.replicate n t.zcells).flatten.toArray (parts.toList.map fun p=>(p.1,a.eval p.2))=some (setMany (List.replicate n t.zcells) cps).flatten.toArray:=by
  refine fill_all _ cps _ (fun i c hc => ?_) hnm (fun k p q hp hq => ?_)
  ·have hi:i<n:=by
    rcases Nat.lt_or_ge i n with h | h
    ·exact h
    ·rw [List.getElem?_eq_none (by simpa using h)] at hc; cases hc
   rw [List.getElem?_replicate,if_pos hi] at hc
   obtain rfl:=Option.some.inj hc
   simp [startOf,List.take_replicate,Nat.min_eq_left (Nat.le_of_lt hi),t.zcells_len]
  ·obtain ⟨q1,q2⟩:=hcs k p q hp hq
   refine ⟨q1,t.zcells,?_,by rw [q2,t.zcells_len]⟩
   rw [List.getElem?_replicate,if_pos]
   have:p.1∈l.map (·.1):=by
    rw [hnm2,List.map_map]
    rw [List.getElem?_map] at hp
    cases hk:parts.toList[k]? with
    | none=>rw [hk] at hp; cases hp
    | some r =>
     rw [hk] at hp
     simp only [Option.map_some,Option.some.injEq] at hp
     subst hp
     exact List.mem_map.2 ⟨r,List.mem_of_getElem? hk,rfl⟩
   obtain ⟨r,hr,he⟩:=List.mem_map.1 this
   rw [← he]; exact hb r hr
 have hrun:(execOp a.eval o).run E.P w=.ok (.value (.slice (some ⟨w.heap.size,0,none⟩) n n)) (w.alloc (.cells ((setMany (List.replicate n t.zcells) cps).flatten++[]).toArray el)):=by
  have hmap:((parts.map fun p=>(p.1,a.eval p.2)):Array (Nat × Value)).toList=parts.toList.map fun p=>(p.1,a.eval p.2):=by simp
  have hz0:(if n*t.size=0 then (pure #[]:Sem (Array Value)) else do pure (← zeroValue el).cells).run E.P w=.ok (if n*t.size=0 then #[] else t.zcells.toArray) w:=by
   split
   ·rfl
   ·simp [hz,hzz]
  have hcells:(Array.range (n*t.size)).map ((if n*t.size=0 then (#[]:Array Value) else t.zcells.toArray)[· % (if n*t.size=0 then (#[]:Array Value) else t.zcells.toArray).size]!)=(List.replicate n t.zcells).flatten.toArray:=by
   by_cases h0:n*t.size=0
   ·have:(List.replicate n t.zcells).flatten=[]:=by
     apply List.eq_nil_of_length_eq_zero
     simp [t.zcells_len]
     simpa using h0
    rw [this,h0]; simp
   ·simp only [if_neg h0]
    have:=madeCells_replicate t.zcells n
    rw [t.zcells_len] at this
    exact this
  unfold execOp; rw [ho]
  simp only [Instr.buildSlice,Sem.run_bind,run_underlying hu,Result.andThen_ok,hTe.size,hz0]
  rw [if_neg (by omega)]
  by_cases h0:n*t.size=0
  ·simp only [if_pos h0] at hcells ⊢
   simp only [Sem.run_bind,Sem.run_pure,Result.andThen_ok,hcells,hmap,hfill,newRow,run_newObj,List.append_nil]
   rfl
  ·simp only [if_neg h0] at hcells ⊢
   simp only [Sem.run_bind,Sem.run_pure,Result.andThen_ok,hz,hzz,hcells,hmap,hfill,newRow,run_newObj,List.append_nil]
   rfl
 refine .val hrun H' (T1.tr.comp T') ?_
 have hl:(setMany (List.replicate n t.zero) l).length=n:=by rw [setMany_len]; simp
 have:=relV_root (Z:=Z1) (w:=w.alloc (.cells ((setMany (List.replicate n t.zcells) cps).flatten++[]).toArray el)) (sl:=put (us.look sl) s ⟨S.hv+1,0,some ⟨.sl t,.ow h.m,setMany (List.replicate n t.zero) l⟩⟩) (hdr:=fun r=>if r=s then Value.slice (some ⟨w.heap.size,0,none⟩) (setMany (List.replicate n t.zero) l).length n else hdr r) (fp:=fp') (n:=s) (S:=S) (c:=⟨.sl t,.ow h.m,setMany (List.replicate n t.zero) l⟩) (by simp [Value.oneCell']) (by simp [put])
 simpa [hl] using this
end
section
variable {E:Env} {o:Oper} {a:Act} {w:World} {Z:Bs} {sl:Nat→Option Slot} {hdr:Nat→Value} {fp:Nat→Bs} {mv:MV}
theorem out_cells:∀ {u:MV} {cs:List Value} {n:Nat},RelC Z w sl hdr fp u cs→u.sz=some n→cs.length=n∧(u.out cs).cells.toList=cs:=by
 intro u cs n h hn
 have single:(cs.length=1∧∀ v∈cs,v.oneCell'=true)→(cs.headD (.tuple #[])).cells.toList=cs:=fun ⟨hl,hone⟩=>by
  obtain ⟨v,rfl⟩:=List.length_eq_one_iff.1 hl
  exact cells_single (hone v (by simp))
 induction u generalizing cs n with
 | val t x =>
  simp only [MV.sz,Option.some.injEq] at hn
  refine ⟨(Rep.len (t:=t) h).trans hn,?_⟩
  simp only [MV.out,MV.agg]
  cases ha:t.agg with
  | true=>simp only [cond_true]; exact cells_agg cs
  | false=>simp only [cond_false]; exact single ⟨(Rep.len (t:=t) h).trans (Ty.size_one ha),Rep.one (t:=t) h⟩
 | view s hv cv p t x =>
  simp only [MV.sz,Option.some.injEq] at hn
  refine ⟨h.1.1.trans hn,?_⟩
  simp only [MV.out,MV.agg]
  cases ha:t.agg with
  | true=>simp only [cond_true]; exact cells_agg cs
  | false=>simp only [cond_false]; exact single ⟨h.1.1.trans (Ty.size_one ha),h.1.2⟩
 | nil=>simp only [MV.sz,Option.some.injEq] at hn; obtain ⟨A,rfl⟩:=h; exact ⟨hn,rfl⟩
 | root s hv=>simp only [MV.sz,Option.some.injEq] at hn; exact ⟨h.1.1.trans hn,by simp only [MV.out,MV.agg,cond_false]; exact single h.1⟩
 | adr s hv cv p t x=>simp only [MV.sz,Option.some.injEq] at hn; exact ⟨h.1.1.trans hn,by simp only [MV.out,MV.agg,cond_false]; exact single h.1⟩
 | pend s hv cv p t x=>simp only [MV.sz,Option.some.injEq] at hn; exact ⟨h.1.1.trans hn,by simp only [MV.out,MV.agg,cond_false]; exact single h.1⟩
 | iadr t x=>simp only [MV.sz,Option.some.injEq] at hn; obtain ⟨b,o,ks,rfl,_⟩:=h; exact ⟨hn,rfl⟩
 | ptr s hv t=>simp only [MV.sz,reduceCtorEq] at hn
 | icl c=>simp only [MV.sz,reduceCtorEq] at hn
 | nv=>simp only [MV.sz,reduceCtorEq] at hn
 | meth=>simp only [MV.sz,reduceCtorEq] at hn
 | fn f c=>simp only [MV.sz,Option.some.injEq] at hn; obtain ⟨ks,rfl,_⟩:=h; exact ⟨hn,rfl⟩
 | un=>simp only [MV.sz,Option.some.injEq] at hn; rw [show cs=[] from h]; exact ⟨hn,rfl⟩
 | pr x y ih1 ih2 =>
  obtain ⟨c1,c2,rfl,h1,h2⟩:=h
  simp only [MV.sz] at hn
  split at hn
  ·rename_i n1 n2 e1 e2
   simp only [Option.some.injEq] at hn
   refine ⟨?_,by simp only [MV.out,MV.agg,cond_true]; exact cells_agg _⟩
   have s1:(c1.length=1∧∀ v∈c1,v.oneCell'=true)→(c1.headD (.tuple #[])).cells.toList=c1:=fun ⟨hl,hone⟩=>by
    obtain ⟨v,rfl⟩:=List.length_eq_one_iff.1 hl
    exact cells_single (hone v (by simp))
   have s2:(c2.length=1∧∀ v∈c2,v.oneCell'=true)→(c2.headD (.tuple #[])).cells.toList=c2:=fun ⟨hl,hone⟩=>by
    obtain ⟨v,rfl⟩:=List.length_eq_one_iff.1 hl
    exact cells_single (hone v (by simp))
   rw [List.length_append,(ih1 h1 e1 s1).1,(ih2 h2 e2 s2).1,hn]
  ·cases hn
 | dead=>cases hn
 | tc x y _ _=>cases hn
 | tn=>cases hn
theorem relC_mkpr {x y:MV} {c1 c2:List Value} (h1:RelC Z w sl hdr fp x c1) (h2:RelC Z w sl hdr fp y c2):RelC Z w sl hdr fp (x.mkpr y) (c1++c2):=by
 unfold MV.mkpr
 split
 ·exact ⟨c1,c2,none_,none_,rfl,h1,h2,fun _ h=>h.elim,fun _ h=>h.elim,fun _ h=>h.elim⟩
 ·exact ⟨c1,c2,rfl,h1,h2⟩
theorem relC_zero:∀ (t:Ty),RelC Z w sl hdr fp (zeroMV t) t.zcells
 | .pair a b=>relC_mkpr (relC_zero a) (relC_zero b)
 | .sl _=>⟨none,rfl⟩
 | .mp _ _=>trivial
 | .unit=>rfl
 | .bool=>rfl
 | .int _=>rfl
 | .str=>rfl
 | .arr n t=>Rep.zero Z w (.arr n t) .im none_
 | .ex k a b=>Rep.zero Z w (.ex k a b) .im none_
def RelL (Z:Bs) (w:World) (sl:Nat→Option Slot) (hdr:Nat→Value) (fp:Nat→Bs):List MV→List (List Value)→Prop
 | [],css=>css=[]
 | u :: l,css=>∃ c css',css=c :: css'∧RelC Z w sl hdr fp u c∧RelL Z w sl hdr fp l css'
theorem RelL.set {v:MV} {c:List Value} (hv:RelC Z w sl hdr fp v c):∀ {l:List MV} {css:List (List Value)} (i:Nat),RelL Z w sl hdr fp l css→RelL Z w sl hdr fp (l.set i v) (css.set i c)
 | [],css,i,h=>by rw [show css=[] from h]; rfl
 | _ :: _,_,0,⟨c0,css',e,_,h⟩=>by rw [e]; exact ⟨c,css',rfl,hv,h⟩
 | _ :: _,_,i+1,⟨c0,css',e,h1,h⟩=>by rw [e]; exact ⟨c0,css'.set i c,rfl,h1,h.set hv i⟩
theorem RelL.many:∀ {ps:List (Nat × MV)} {cps:List (Nat × List Value)} {l:List MV} {css:List (List Value)},RelL Z w sl hdr fp l css→ps.map (·.1)=cps.map (·.1) →
 (∀ (k:Nat) (p:Nat × MV) (q:Nat × List Value),ps[k]?=some p→cps[k]?=some q→RelC Z w sl hdr fp p.2 q.2)→RelL Z w sl hdr fp (setMany l ps) (setMany css cps)
 | [],[],_,_,h,_,_=>h
 | [],_ :: _,_,_,_,h,_=>by simp at h
 | _ :: _,[],_,_,_,h,_=>by simp at h
 | (i,u) :: ps,(i',c) :: cps,l,css,h,hm,hr=>by
  simp only [List.map_cons,List.cons.injEq] at hm
  obtain ⟨rfl,hm⟩:=hm
  exact RelL.many (l:=l.set i u) (css:=css.set i c) (ps:=ps) (cps:=cps) (h.set (hr 0 (i,u) (i,c) rfl rfl) i) hm (fun k p q hp hq=>hr (k+1) p q (by simpa using hp) (by simpa using hq))
theorem relC_tupP:∀ {l:List MV} {css:List (List Value)},RelL Z w sl hdr fp l css→RelC Z w sl hdr fp (tupP l) css.flatten
 | [],css,h=>by rw [show css=[] from h]; rfl
 | _ :: _,_,⟨c,css',e,h1,h2⟩=>by rw [e]; exact relC_mkpr h1 (relC_tupP h2)
theorem relL_zero:∀ (ts:List Ty),RelL Z w sl hdr fp (ts.map zeroMV) (ts.map Ty.zcells)
 | []=>rfl
 | t :: ts=>⟨_,_,rfl,relC_zero t,relL_zero ts⟩
def plc:Ty→Nat→List (Nat × Nat)
 | .pair a b,off=>(off,a.size) :: plc b (off+a.size)
 | _,_=>[]
theorem places_ok (hE:TTok E):∀ {fs:List Field} {t:Ty} {off:Nat},Fields E.tt fs t off→fs.mapM (fun f=>(E.P.info? f.type).map fun i=>(f.offset,i.size))=some (plc t off)
 | [],.unit,_,_=>rfl
 | f :: fs,.pair a b,off,⟨h1,⟨n,h2⟩,h3⟩=>by
  obtain ⟨i,z,i1,i2,_⟩:=(hE _ _ _ h2).info
  have ih:=places_ok hE h3
  simp [List.mapM_cons,i1,ih,h1,i2,plc]
 | [],.bool,_,h | [],.int _,_,h | [],.str,_,h | [],.pair _ _,_,h | [],.arr _ _,_,h | [],.sl _,_,h | [],.mp _ _,_,h | [],.ex _ _ _,_,h=>h.elim
 | _ :: _,.unit,_,h | _ :: _,.bool,_,h | _ :: _,.int _,_,h | _ :: _,.str,_,h | _ :: _,.arr _ _,_,h | _ :: _,.sl _,_,h | _ :: _,.mp _ _,_,h | _ :: _,.ex _ _ _,_,h=>h.elim
theorem plc_at:∀ (t:Ty) (off i:Nat) (s:Ty),(flds t)[i]?=some s→(plc t off)[i]?=some (off+startOf ((flds t).map Ty.zcells) i,s.zcells.length)
 | .pair a b,off,0,s,h=>by
  simp only [flds,List.getElem?_cons_zero,Option.some.injEq] at h
  subst h
  simp [plc,startOf,Ty.zcells_len]
 | .pair a b,off,i+1,s,h=>by
  have:=plc_at b (off+a.size) i s (by simpa [flds] using h)
  simp only [plc,flds,List.map_cons,List.getElem?_cons_succ]
  rw [this]
  simp [startOf,Ty.zcells_len,Nat.add_assoc]
 | .bool,_,_,_,h | .int _,_,_,_,h | .str,_,_,_,h | .unit,_,_,_,h | .arr _ _,_,_,_,h | .sl _,_,_,_,h | .mp _ _,_,_,_,h | .ex _ _ _,_,_,_,h=>by simp [flds] at h
theorem zcells_chain:∀ {t:Ty},isChain t=true→t.zcells=((flds t).map Ty.zcells).flatten
 | .pair a b,h=>by simp [Ty.zcells,flds,zcells_chain (t:=b) h]
 | .unit,_=>rfl
 | .bool,h | .int _,h | .str,h | .arr _ _,h | .sl _,h | .mp _ _,h | .ex _ _ _,h=>by cases h
theorem foMV_ok {t:Ty} {u:MV} {cs:List Value} (h:RelC Z w sl hdr fp u cs):RelC Z w sl hdr fp (foMV t u) cs:=by
 unfold foMV
 split
 ·rename_i a b t' x
  split
  ·rename_i e
   subst e
   cases hc:isChain a with
   | true=>exact fo_rep hc h
   | false=>exact h
  ·exact h
 ·exact h
theorem build_ok (hE:TTok E) {e:TypeId} {ta tb:Ty} {nb:Nat} {parts:Array (Nat × Operand)} {ρ:Operand→MV} (H:HR Z w sl hdr fp) (ho:o.op=.build e parts) (hT:TyOK E e (.pair ta tb) nb)
 (hρ:∀ x,RelV Z w sl hdr fp (ρ x) (a.eval x)) (hc:isChain tb=true)
 (hb:(parts.toList.all fun p=>match (ta :: flds tb)[p.1]?,(ρ p.2).sz with
  | some t,some n=>Nat.beq n t.size
  | _,_=>false)=true) :
 OpOK E o a w Z sl hdr fp (tupP (setMany ((ta :: flds tb).map zeroMV) (parts.toList.map fun p=>(p.1,foMV ((ta :: flds tb).getD p.1 .unit) (ρ p.2))))) (Ups.look [] sl):=by
 obtain ⟨fs,hu,hf⟩:=hT.desc
 obtain ⟨i,z,i1,i2,i3,i4,i5⟩:=hT.info
 have hb':∀ p∈parts.toList,∃ t cs,(ta :: flds tb)[p.1]?=some t∧RelC Z w sl hdr fp (ρ p.2) cs∧(a.eval p.2).cells.toList=cs∧cs.length=t.size:=by
  intro p hp
  have:=List.all_eq_true.1 hb p hp
  split at this
  ·rename_i t n e1 e2
   rcases hρ p.2 with h0 | ⟨cs,h1,h2⟩
   ·rw [h0] at e2; cases e2
   ·obtain ⟨h3,h4⟩:=out_cells h1 e2
    exact ⟨t,cs,e1,h1,by rw [h2]; exact h4,h3.trans (Nat.eq_of_beq_eq_true this)⟩
  ·cases this
 have key:∀ ps:List (Nat × Operand),(∀ p∈ps,∃ t cs,(ta :: flds tb)[p.1]?=some t∧RelC Z w sl hdr fp (ρ p.2) cs∧(a.eval p.2).cells.toList=cs∧cs.length=t.size) →
  ∃ cps:List (Nat × List Value),ps.map (·.1)=cps.map (·.1)∧∀ (k:Nat) (p:Nat × Operand) (q:Nat × List Value),ps[k]?=some p→cps[k]?=some q→RelC Z w sl hdr fp (ρ p.2) q.2∧(a.eval p.2).cells.toList=q.2∧∃ t,(ta :: flds tb)[p.1]?=some t∧q.2.length=t.size:=by
  intro ps
  induction ps with
  | nil=>intro _; exact ⟨[],rfl,fun k p q h=>by simp at h⟩
  | cons p ps ih =>
   intro h
   obtain ⟨cps,h1,h2⟩:=ih (fun q hq=>h q (by simp [hq]))
   obtain ⟨t,cs,g1,g2,g3,g4⟩:=h p (by simp)
   refine ⟨(p.1,cs) :: cps,by simp [h1],fun k p' q hp hq => ?_⟩
   cases k with
   | zero =>
    simp only [List.getElem?_cons_zero,Option.some.injEq] at hp hq
    subst hp; subst hq
    exact ⟨g2,g3,t,g1,g4⟩
   | succ k=>exact h2 k p' q (by simpa using hp) (by simpa using hq)
 obtain ⟨cps,hm,hk⟩:=key _ hb'
 have hz:z.cells=(((flds (.pair ta tb)).map Ty.zcells).flatten).toArray:=by
  apply Array.toList_inj.1
  rw [i5]
  simp only [zcells_chain (t:=.pair ta tb) hc]
 have hfill:Instr.fill ((plc (.pair ta tb) 0).toArray[·]?) z.cells (parts.map fun p=>(p.1,a.eval p.2)).toList=some (setMany ((flds (.pair ta tb)).map Ty.zcells) cps).flatten.toArray:=by
  rw [hz]
  refine fill_all _ cps _ (fun j c hc => ?_) (by rw [Array.toList_map,List.map_map]; exact hm) (fun k p q hp hq => ?_)
  ·rw [List.getElem?_map] at hc
   cases hj:(flds (.pair ta tb))[j]? with
   | none=>rw [hj] at hc; cases hc
   | some s =>
    rw [hj] at hc
    obtain rfl:=Option.some.inj hc
    have:=plc_at (.pair ta tb) 0 j s hj
    rw [Nat.zero_add] at this
    simpa using this
  ·have hp':∃ p',parts.toList[k]?=some p'∧p=(p'.1,a.eval p'.2):=by
    have e:(parts.map fun p=>(p.1,a.eval p.2)).toList=parts.toList.map fun p=>(p.1,a.eval p.2):=by simp
    rw [e,List.getElem?_map] at hp
    cases hkk:parts.toList[k]? with
    | none=>rw [hkk] at hp; cases hp
    | some r=>rw [hkk] at hp; exact ⟨r,rfl,(Option.some.inj hp).symm⟩
   obtain ⟨p',h1,rfl⟩:=hp'
   obtain ⟨g1,g2,t,g3,g4⟩:=hk k p' q h1 hq
   refine ⟨g2,t.zcells,?_,by rw [g4,t.zcells_len]⟩
   rw [List.getElem?_map]
   show Option.map _ ((ta :: flds tb)[p'.1]?)=_
   rw [g3]; rfl
 have hbuilt:E.P.built e (parts.map fun p=>(p.1,a.eval p.2)).toList=some (setMany ((flds (.pair ta tb)).map Ty.zcells) cps).flatten.toArray:=by
  unfold Program.built
  simp only [i1,hu,i4,places_ok hE hf]
  exact hfill
 have hrun:(execOp a.eval o).run E.P w=.ok (.value (.agg (setMany ((flds (.pair ta tb)).map Ty.zcells) cps).flatten.toArray)) w:=by
  have:=run_build w e (parts.map fun p=>(p.1,a.eval p.2)) _ hbuilt
  unfold execOp; rw [ho]
  simp only [Sem.run_bind,this,Result.andThen_ok,Sem.run_pure]
 have hrel:=relC_tupP (RelL.many (ps:=parts.toList.map fun p=>(p.1,foMV ((ta :: flds tb).getD p.1 .unit) (ρ p.2))) (cps:=cps) (relL_zero (Z:=Z) (w:=w) (sl:=sl) (hdr:=hdr) (fp:=fp) (ta :: flds tb)) (by rw [List.map_map]; exact hm) (fun k p q hp hq=>by
  rw [List.getElem?_map] at hp
  cases hkk:parts.toList[k]? with
  | none=>rw [hkk] at hp; cases hp
  | some r =>
   rw [hkk] at hp
   obtain rfl:=Option.some.inj hp
   exact foMV_ok (hk k r q hkk hq).1))
 refine .same H hrun (.inr ⟨_,hrel,?_⟩)
 have hagg:∀ (l:List MV),(tupP l).agg=true:=by
  intro l
  cases l with
  | nil=>rfl
  | cons x l=>simp only [tupP,MV.mkpr]; split <;> rfl
 have:∀ (u:MV) (cs:List Value),u.agg=true→u.out cs=.agg cs.toArray:=by
  intro u cs h
  cases u <;> simp only [MV.agg,Bool.false_eq_true] at h <;> simp only [MV.out,MV.agg,h,cond_true]
 rw [this _ _ (hagg _)]
 rfl
end
def AccOK (Z:Bs) (w:World) (sl:Nat→Option Slot) (hdr:Nat→Value) (fp:Nat→Bs) (a:Acc) (t:Ty) (x:t.den) (cs:List Value):Prop :=
 match a with
 | .im=>Rep Z w t .im x none_ cs
 | .own s hv cv p=>∃ c,sl s=some ⟨hv,cv,some c⟩∧c.m.isOw=true∧(∃ m f,Rep Z w t m x f cs∧∀ k,f k→fp s k)∧PathOK w c (hdr s) p t x cs
 | .ro s hv cv=>∃ c,sl s=some ⟨hv,cv,some c⟩∧c.m.isOw=true∧∃ m f,Rep Z w t m x f cs∧∀ k,f k→fp s k
section
variable {E:Env} {o:Oper} {a:Act} {w:World} {Z:Bs} {sl:Nat→Option Slot} {hdr:Nat→Value} {fp:Nat→Bs} {mv:MV}
theorem Rep.none {t:Ty} {m:Mk} {x:t.den} {f:Bs} {cs:List Value} (hf:∀ k,¬ f k) (h:Rep Z w t m x f cs):Rep Z w t .im x none_ cs:=h.freeze (fun b hb=>hb.elim id (fun h=>(hf b h).elim))
theorem cont_ok (H:HR Z w sl hdr fp) {u:MV} {t:Ty} {x:t.den} {ac:Acc} {cs:List Value} (h:cont sl u=some ⟨t,x,ac⟩) (hr:RelC Z w sl hdr fp u cs):AccOK Z w sl hdr fp ac t x cs∧u.out cs=t.val cs:=by
 cases u with
 | val t' y =>
  simp only [cont,Option.some.injEq,Cont.mk.injEq] at h
  obtain ⟨rfl,h2,rfl⟩:=h
  obtain rfl:=eq_of_heq h2
  refine ⟨hr,?_⟩
  rfl
 | root s hv =>
  simp only [cont] at h
  split at h
  ·rename_i cv c e
   have e2:=lookH_some e
   obtain ⟨hl,S,h1,_,h3⟩:=hr
   rw [e2] at h1; obtain rfl:=Option.some.inj h1
   obtain rfl:=h3 rfl c rfl
   simp only [Option.some.injEq,Cont.mk.injEq] at h
   obtain ⟨h4,h5,rfl⟩:=h
   obtain ⟨ct,cm,cx⟩:=c
   simp only at h4; subst h4
   obtain rfl:=eq_of_heq h5
   have hrep:=H.rep s _ _ _ e2
   have hsh:=H.shape s _ _ _ e2
   simp only at hrep hsh
   refine ⟨?_,?_⟩
   ·cases hm:cm.isOw with
    | true =>
     simp only [cond_true,AccOK]
     refine ⟨_,e2,hm,⟨cm,fp s,hrep,fun _ h=>h⟩,by cases ct <;> rfl,fun _=>⟨by cases ct <;> rfl,cm,by cases ct <;> rfl⟩⟩
    | false =>
     simp only [cond_false,AccOK]
     rcases hsh with ⟨t0,rfl⟩ | ⟨k0,v0,rfl⟩ <;> cases cm <;> first | exact hrep | cases hm
   ·rcases hsh with ⟨t0,rfl⟩ | ⟨k0,v0,rfl⟩ <;> rfl
  ·cases h
 | view s hv cv p t' y =>
  simp only [cont] at h
  split at h
  ·rename_i c e
   have e2:=lookC_some e
   obtain ⟨hl,S,h1,_,h3⟩:=hr
   rw [e2] at h1; obtain rfl:=Option.some.inj h1
   obtain ⟨⟨m,f,h4,h5,h6⟩,h7⟩:=(h3 rfl).2 rfl c rfl
   simp only [Option.some.injEq,Cont.mk.injEq] at h
   obtain ⟨rfl,h8,rfl⟩:=h
   obtain rfl:=eq_of_heq h8
   refine ⟨?_,?_⟩
   ·cases hm:c.m.isOw with
    | true =>
     cases p with
     | none=>exact ⟨c,e2,hm,m,f,h4,h5⟩
     | some p=>exact ⟨c,e2,hm,⟨m,f,h4,h5⟩,h7 p rfl⟩
    | false=>exact h4.none (h6 hm)
   ·rfl
  ·cases h
 | nil=>cases h
 | dead=>cases h
 | adr=>cases h
 | iadr=>cases h
 | ptr=>cases h
 | icl=>cases h
 | nv=>cases h
 | pend=>cases h
 | pr=>cases h
 | un=>cases h
 | meth=>cases h
 | tc=>cases h
 | tn=>cases h
 | fn=>cases h
theorem getP_app:∀ (p q:Path) {t:Ty} {x:t.den} {d:Dyn},getP t x p=some d→getP t x (p++q)=getP d.1 d.2 q
 | [],q,t,x,d,h=>by cases t <;> (simp only [getP,Option.some.injEq] at h; subst h; rfl)
 | .el i :: p,q,.sl t,xs,d,h=>by
  simp only [getP] at h
  split at h
  ·rename_i x hx; simp only [List.cons_append,getP,hx]; exact getP_app p q h
  ·cases h
 | .el i :: p,q,.arr n t,xs,d,h=>by
  simp only [getP] at h
  split at h
  ·rename_i x hx; simp only [List.cons_append,getP,hx]; exact getP_app p q h
  ·cases h
 | .f1 :: p,q,.pair a b,x,d,h=>getP_app p q (t:=a) h
 | .f2 :: p,q,.pair a b,x,d,h=>getP_app p q (t:=b) h
 | .f1 :: p,_,.bool,_,_,h | .f1 :: p,_,.int _,_,_,h | .f1 :: p,_,.str,_,_,h | .f1 :: p,_,.unit,_,_,h | .f1 :: p,_,.arr _ _,_,_,h | .f1 :: p,_,.sl _,_,_,h | .f1 :: p,_,.mp _ _,_,_,h | .f1 :: p,_,.ex _ _ _,_,_,h=>by cases h
 | .f2 :: p,_,.bool,_,_,h | .f2 :: p,_,.int _,_,_,h | .f2 :: p,_,.str,_,_,h | .f2 :: p,_,.unit,_,_,h | .f2 :: p,_,.arr _ _,_,_,h | .f2 :: p,_,.sl _,_,_,h | .f2 :: p,_,.mp _ _,_,_,h | .f2 :: p,_,.ex _ _ _,_,_,h=>by cases h
 | .el _ :: p,_,.bool,_,_,h | .el _ :: p,_,.int _,_,_,h | .el _ :: p,_,.str,_,_,h | .el _ :: p,_,.unit,_,_,h | .el _ :: p,_,.pair _ _,_,_,h | .el _ :: p,_,.mp _ _,_,_,h | .el _ :: p,_,.ex _ _ _,_,_,h=>by cases h
theorem mkP_app:∀ (p q:Path) {t:Ty} {m m':Mk} {t':Ty},mkP t m p=some m'→tyP t p=some t'→mkP t m (p++q)=mkP t' m' q
 | [],q,t,m,m',t',h,ht=>by cases t <;> (simp only [mkP,tyP,Option.some.injEq] at h ht; subst h; subst ht; rfl)
 | .el i :: p,q,.sl t,.ow m,m',t',h,ht=>mkP_app p q (t:=t) h ht
 | .el i :: p,q,.arr n t,m,m',t',h,ht=>mkP_app p q (t:=t) h ht
 | .f1 :: p,q,.pair a b,m,m',t',h,ht=>mkP_app p q (t:=a) h ht
 | .f2 :: p,q,.pair a b,m,m',t',h,ht=>mkP_app p q (t:=b) h ht
 | .el i :: p,_,.sl t,.im,_,_,h,_ | .el i :: p,_,.sl t,.pr _ _,_,_,h,_=>by cases h
 | .f1 :: p,_,.bool,_,_,_,h,_ | .f1 :: p,_,.int _,_,_,_,h,_ | .f1 :: p,_,.str,_,_,_,h,_ | .f1 :: p,_,.unit,_,_,_,h,_ | .f1 :: p,_,.arr _ _,_,_,_,h,_ | .f1 :: p,_,.sl _,_,_,_,h,_ | .f1 :: p,_,.mp _ _,_,_,_,h,_ | .f1 :: p,_,.ex _ _ _,_,_,_,h,_=>by cases h
 | .f2 :: p,_,.bool,_,_,_,h,_ | .f2 :: p,_,.int _,_,_,_,h,_ | .f2 :: p,_,.str,_,_,_,h,_ | .f2 :: p,_,.unit,_,_,_,h,_ | .f2 :: p,_,.arr _ _,_,_,_,h,_ | .f2 :: p,_,.sl _,_,_,_,h,_ | .f2 :: p,_,.mp _ _,_,_,_,h,_ | .f2 :: p,_,.ex _ _ _,_,_,_,h,_=>by cases h
 | .el _ :: p,_,.bool,_,_,_,h,_ | .el _ :: p,_,.int _,_,_,_,h,_ | .el _ :: p,_,.str,_,_,_,h,_ | .el _ :: p,_,.unit,_,_,_,h,_ | .el _ :: p,_,.pair _ _,_,_,_,h,_ | .el _ :: p,_,.mp _ _,_,_,_,h,_ | .el _ :: p,_,.ex _ _ _,_,_,_,h,_=>by cases h
theorem subc_app:∀ (p q:Path) {t:Ty} {cs cs':List Value} {t':Ty},subc w t cs p=some cs'→tyP t p=some t'→subc w t cs (p++q)=subc w t' cs' q∧∀ here,addrOf w t cs here (p++q)=addrOf w t' cs' (addrOf w t cs here p) q
 | [],q,t,cs,cs',t',h,ht=>by cases t <;> (simp only [subc,tyP,Option.some.injEq] at h ht; subst h; subst ht; exact ⟨rfl,fun _=>rfl⟩)
 | .el i :: p,q,.sl t,cs,cs',t',h,ht=>by
  simp only [subc] at h
  split at h
  ·simp only [List.cons_append,subc,addrOf]
   have:=subc_app p q h ht
   exact ⟨this.1,fun _=>this.2 _⟩
  ·cases h
 | .el i :: p,q,.arr n t,cs,cs',t',h,ht=>by
  have:=subc_app p q (t:=t) h ht
  exact ⟨this.1,fun _=>this.2 _⟩
 | .f1 :: p,q,.pair a b,cs,cs',t',h,ht=>by
  have:=subc_app p q (t:=a) h ht
  exact ⟨this.1,fun _=>this.2 _⟩
 | .f2 :: p,q,.pair a b,cs,cs',t',h,ht=>by
  have:=subc_app p q (t:=b) h ht
  exact ⟨this.1,fun _=>this.2 _⟩
 | .f1 :: p,_,.bool,_,_,_,h,_ | .f1 :: p,_,.int _,_,_,_,h,_ | .f1 :: p,_,.str,_,_,_,h,_ | .f1 :: p,_,.unit,_,_,_,h,_ | .f1 :: p,_,.arr _ _,_,_,_,h,_ | .f1 :: p,_,.sl _,_,_,_,h,_ | .f1 :: p,_,.mp _ _,_,_,_,h,_ | .f1 :: p,_,.ex _ _ _,_,_,_,h,_=>by cases h
 | .f2 :: p,_,.bool,_,_,_,h,_ | .f2 :: p,_,.int _,_,_,_,h,_ | .f2 :: p,_,.str,_,_,_,h,_ | .f2 :: p,_,.unit,_,_,_,h,_ | .f2 :: p,_,.arr _ _,_,_,_,h,_ | .f2 :: p,_,.sl _,_,_,_,h,_ | .f2 :: p,_,.mp _ _,_,_,_,h,_ | .f2 :: p,_,.ex _ _ _,_,_,_,h,_=>by cases h
 | .el _ :: p,_,.bool,_,_,_,h,_ | .el _ :: p,_,.int _,_,_,_,h,_ | .el _ :: p,_,.str,_,_,_,h,_ | .el _ :: p,_,.unit,_,_,_,h,_ | .el _ :: p,_,.pair _ _,_,_,_,h,_ | .el _ :: p,_,.mp _ _,_,_,_,h,_ | .el _ :: p,_,.ex _ _ _,_,_,_,h,_=>by cases h
theorem idx_some {α:Type} {xs:List α} {i:Int} {x:α} (h:idx xs i=some x):0≤i∧i<xs.length∧xs[i.toNat]?=some x:=by
 unfold idx at h
 split at h
 ·rename_i h0
  have hl:i.toNat<xs.length:=by
   rcases Nat.lt_or_ge i.toNat xs.length with h' | h'
   ·exact h'
   ·rw [List.getElem?_eq_none h'] at h; cases h
  exact ⟨h0,by omega,h⟩
 ·cases h
theorem bind_some_ {α R:Type} {x:Option α} {f:α→Option R} {r:R} (h:x.bind f=some r):∃ y,x=some y∧f y=some r:=by
 cases x with
 | none=>cases h
 | some y=>exact ⟨y,rfl,h⟩
end
section
variable {E:Env} {o:Oper} {a:Act} {w:World} {Z:Bs} {sl:Nat→Option Slot} {hdr:Nat→Value} {fp:Nat→Bs} {mv:MV}
theorem add_none (b o n:Nat):(⟨b,o,none⟩:Addr).add n=⟨b,o+n,none⟩:=by
 unfold Addr.add; split
 ·rename_i h; subst h; rfl
 ·rfl
theorem rep_el {t:Ty} {m:Mk} {xs:List t.den} {f:Bs} {cs:List Value} {i:Nat} {x:t.den} (h:Rep Z w (.sl t) m xs f cs) (hx:xs[i]?=some x) :
 ∃ b o cap ks m1 f1,cs=[.slice (some ⟨b,o,none⟩) xs.length cap]∧At w b (o+i*t.size) ks∧Rep Z w t m1 x f1 ks∧(∀ k,f1 k→f k)∧(f b∨Z b)∧(m.isOw=false→Z b∧∀ k,¬ f1 k)∧(∀ m',m=.ow m'→m1=m'):=by
 cases m with
 | ow m =>
  obtain ⟨A,cap,e,h⟩:=h
  rcases h with ⟨rfl,_⟩ | ⟨b,o,c,el,rfl,h1,h2,h3,h4,fps,css,h5,h6⟩
  ·simp at hx
  ·obtain ⟨q1,q2,q3,q4⟩:=h5 i x hx
   exact ⟨b,o,cap,css i,m,fps i,e,fun j hj=>q3 j (by omega),q1,fun k hk=>(q4 k hk).1,.inl h1,(fun h=>by cases h),fun m' e=>by cases e; rfl⟩
 | im =>
  obtain ⟨A,cap,e,hc,h⟩:=h
  rcases h with rfl | ⟨b,o,rfl,h1,fps,css,h5,h6⟩
  ·simp at hx
  ·obtain ⟨q1,q2,q3,q4⟩:=h5 i x hx
   exact ⟨b,o,cap,css i,.im,fps i,e,fun j hj=>q3 j (by omega),q1,fun k hk=>(q4 k hk).1.elim,.inr h1,fun _=>⟨h1,fun k hk=>(q4 k hk).1⟩,fun m' e=>by cases e⟩
 | pr m1 m2 =>
  obtain ⟨A,cap,e,hc,h⟩:=h
  rcases h with rfl | ⟨b,o,rfl,h1,fps,css,h5,h6⟩
  ·simp at hx
  ·obtain ⟨q1,q2,q3,q4⟩:=h5 i x hx
   exact ⟨b,o,cap,css i,.im,fps i,e,fun j hj=>q3 j (by omega),q1,fun k hk=>(q4 k hk).1.elim,.inr h1,fun _=>⟨h1,fun k hk=>(q4 k hk).1⟩,fun m' e=>by cases e⟩
theorem subc_el {t:Ty} {b o i l cap:Nat} {ks:List Value} (h:At w b (o+i*t.size) ks) (hl:ks.length=t.size) (here:Option (Nat × Nat)) :
 subc w (.sl t) [.slice (some ⟨b,o,none⟩) l cap] [.el i]=some ks∧addrOf w (.sl t) [.slice (some ⟨b,o,none⟩) l cap] here [.el i]=some (b,o+i*t.size):=by
 have e:=range_at h
 rw [hl] at e
 refine ⟨?_,?_⟩
 ·simp only [subc,e] <;> (cases t <;> rfl)
 ·simp only [addrOf] <;> (cases t <;> rfl)
theorem run_index_ {e el:TypeId} {n:Nat} {t:Ty} (hu:E.P.underlying e=some (.slice el)) (hT:TyOK E el t n) (b o l cap:Nat) (k:IntKind) (i:Int) (h0:0≤i) (h1:i<l) :
 (Instr.indexAt e (.slice (some ⟨b,o,none⟩) l cap) (.int k i)).run E.P w=.ok (.pointer (some ⟨b,o+i.toNat*t.size,none⟩)) w:=by
 simp [Instr.indexAt,asIntOf,run_underlying hu,hT.size,h0,h1,add_none]
theorem getP_el {t:Ty} {xs:List t.den} {i:Nat} {x:t.den} (h:xs[i]?=some x):getP (.sl t) xs [.el i]=some ⟨t,x⟩:=by
 simp only [getP,h] <;> (cases t <;> rfl)
theorem indexAddr_ok (hE:TTok E) (H:HR Z w sl hdr fp) {e:TypeId} {x i:Operand} {u:MV} {k:IntKind} {n:Int} {t:Ty} {xs:List t.den} {ac:Acc} {v:t.den} (ho:o.op=.indexAddr e x i) (hx:RelV Z w sl hdr fp u (a.eval x)) (hi:RelV Z w sl hdr fp (.val (.int k) n) (a.eval i))
 (hc:cont sl u=some ⟨.sl t,xs,ac⟩) (ht:tyB E e (.sl t)=true) (hv:idx xs n=some v):OpOK E o a w Z sl hdr fp (ac.adr sl n.toNat t v) (Ups.look [] sl):=by
 obtain ⟨nb,hT⟩:=tyB_ok hE ht
 obtain ⟨el,ne,hu,hel⟩:=hT.desc
 have hTe:=hE _ _ _ hel
 obtain ⟨g0,g1,g2⟩:=idx_some hv
 rcases hx with rfl | ⟨cs,hr,he⟩
 ·cases hc
 obtain ⟨hA,hout⟩:=cont_ok H hc hr
 rw [hout] at he
 have fin:∀ (b o' cap:Nat),cs=[.slice (some ⟨b,o',none⟩) xs.length cap]→∀ mv,RelV Z w sl hdr fp mv (.pointer (some ⟨b,o'+n.toNat*t.size,none⟩))→OpOK E o a w Z sl hdr fp mv (Ups.look [] sl):=by
  intro b o' cap hcs mv hrel
  have hev:a.eval x=.slice (some ⟨b,o',none⟩) xs.length cap:=by rw [he,hcs]; rfl
  refine .same H ?_ hrel
  unfold execOp; rw [ho]
  simp only [Sem.run_bind,hev,hi.int,run_index_ (w:=w) hu hTe b o' xs.length cap k n g0 g1,Result.andThen_ok,Sem.run_pure]
 have one:∀ v:Value,v.oneCell'=true→Cells 1 [v]:=fun v h=>⟨rfl,fun u hu=>by obtain rfl:=List.mem_singleton.1 hu; exact h⟩
 cases ac with
 | im =>
  obtain ⟨b,o',cap,ks,m1,f1,hcs,hat,hrep,_,_,hz,_⟩:=rep_el hA g2
  exact fin b o' cap hcs _ (.inr ⟨_,⟨b,_,ks,rfl,hat,(hz rfl).1,hrep.none (hz rfl).2⟩,rfl⟩)
 | ro s hv' cv =>
  obtain ⟨c,h1,h2,m,f,h3,h4⟩:=hA
  obtain ⟨b,o',cap,ks,m1,f1,hcs,hat,hrep,hf,hb,_⟩:=rep_el h3 g2
  refine fin b o' cap hcs _ (.inr ⟨_,⟨one _ rfl,_,h1,Nat.le_refl _,fun _=>⟨Nat.le_refl _,fun _ c' hc' => ?_⟩⟩,rfl⟩)
  obtain rfl:=Option.some.inj hc'
  exact ⟨b,_,ks,rfl,hat,hb.imp (h4 b) id,(fun h=>absurd (h2.symm.trans h) (by simp)),⟨m1,f1,hrep,fun k hk=>h4 k (hf k hk),(fun h=>absurd (h2.symm.trans h) (by simp))⟩,fun p hp=>by cases hp⟩
 | own s hv' cv p =>
  obtain ⟨c,h1,h2,⟨m,f,h3,h4⟩,g5,g6⟩:=hA
  obtain ⟨b,o',cap,ks,m1,f1,hcs,hat,hrep,hf,hb,_⟩:=rep_el h3 g2
  obtain ⟨g7,m',g8⟩:=g6 h2
  have hlook:lookC sl s hv' cv=some c:=by simp [lookC,lookH,h1]
  simp only [Acc.adr,hlook,g8]
  have base:∀ po:Option Path,(∀ p0,po=some p0→PathOK w c (hdr s) p0 t v ks∧(c.m.isOw=true→addrOf w c.t [hdr s] none p0=some (b,o'+n.toNat*t.size)))→RelV Z w sl hdr fp (.adr s hv' cv po t v) (.pointer (some ⟨b,o'+n.toNat*t.size,none⟩)):=by
   intro po hpo
   refine .inr ⟨_,⟨one _ rfl,_,h1,Nat.le_refl _,fun _=>⟨Nat.le_refl _,fun _ c' hc' => ?_⟩⟩,rfl⟩
   obtain rfl:=Option.some.inj hc'
   exact ⟨b,_,ks,rfl,hat,hb.imp (h4 b) id,(fun h=>absurd (h2.symm.trans h) (by simp)),⟨m1,f1,hrep,fun k hk=>h4 k (hf k hk),(fun h=>absurd (h2.symm.trans h) (by simp))⟩,hpo⟩
  cases m' with
  | ow m' =>
   refine fin b o' cap hcs _ (base _ fun p0 hp0 => ?_)
   obtain rfl:=Option.some.inj hp0
   have ht':tyP c.t p=some (.sl t):=getP_ty g5
   have hsub:=subc_app (w:=w) p [.el n.toNat] g7 ht'
   have hse:=subc_el (l:=xs.length) (cap:=cap) hat hrep.len
   rw [hcs] at hsub g7
   refine ⟨⟨by rw [getP_app p _ g5]; exact getP_el g2,fun _=>⟨by rw [hsub.1]; exact (hse none).1,m',?_⟩⟩,fun _=>by rw [hsub.2]; exact (hse _).2⟩
   rw [mkP_app p _ g8 ht']; cases t <;> rfl
  | im=>exact fin b o' cap hcs _ (base none fun p0 hp0=>by cases hp0)
  | pr m2 m3=>exact fin b o' cap hcs _ (base none fun p0 hp0=>by cases hp0)
theorem run_load_ {e:TypeId} {t:Ty} {n:Nat} (hT:TyOK E e t n) {b o':Nat} {ks:List Value} (hat:At w b o' ks) (hl:ks.length=t.size):(Instr.loadAt e (.pointer (some ⟨b,o',none⟩))).run E.P w=.ok (t.val ks) w:=by
 simp only [Instr.loadAt,Instr.sureAddr,loadVar,pure_bind,Sem.run_bind,hT.agg,Result.andThen_ok]
 cases ha:t.agg with
 | true =>
  have hc:(loadCells ⟨b,o',none⟩ ks.length).run E.P w=.ok ks.toArray w:=run_loadCells_list w ⟨b,o',none⟩ ks (fun j v hj=>by
   rw [add_none,← hj]
   have hlt:j<ks.length:=by
    rcases Nat.lt_or_ge j ks.length with h' | h'
    ·exact h'
    ·rw [List.getElem?_eq_none h'] at hj; cases hj
   exact hat j hlt)
  rw [hl] at hc
  simp only [if_true,Sem.run_bind,hT.size,Result.andThen_ok,hc,Sem.run_pure,Ty.val,ha,cond_true,cond_false]
 | false =>
  have h1:ks.length=1:=hl.trans (Ty.size_one ha)
  obtain ⟨v,rfl⟩:=List.length_eq_one_iff.1 h1
  have:=hat 0 (by simp)
  simp only [Nat.add_zero,List.getElem?_cons_zero] at this
  simp [Ty.val,ha,run_load,this]
theorem at_same {b o':Nat} {c1 c2:List Value} (h1:At w b o' c1) (h2:At w b o' c2) (hl:c1.length=c2.length):c1=c2:=by
 apply List.ext_getElem?
 intro j
 by_cases hj:j<c1.length
 ·rw [← h1 j hj,← h2 j (by omega)]
 ·rw [List.getElem?_eq_none (by omega),List.getElem?_eq_none (by omega)]
theorem place_rep (H:HR Z w sl hdr fp) {s hv cv:Nat} {c:SlotC} (hs:sl s=some ⟨hv,cv,some c⟩) {p:Path} {t:Ty} {x:t.den} {m:Mk} {b o':Nat} (ho:c.m.isOw=true) (hg:getP c.t c.x p=some ⟨t,x⟩) (hm:mkP c.t c.m p=some m)
 (hadr:addrOf w c.t [hdr s] none p=some (b,o')):∃ ks f,Rep Z w t m x f ks∧At w b o' ks∧∀ k,f k→fp s k:=by
 have hro:=H.rep s _ _ _ hs
 have hsh:=H.shape s _ _ _ hs
 obtain ⟨ct,cm,cx⟩:=c
 simp only at hg hm ho hadr hro hsh
 obtain ⟨m0,rfl⟩:∃ m0,cm=.ow m0:=by cases cm <;> first | exact ⟨_,rfl⟩ | cases ho
 rcases hsh with ⟨t0,rfl⟩ | ⟨k0,v0,rfl⟩
 rotate_left 1
 ·cases p with
  | nil=>simp [addrOf] at hadr
  | cons st p=>cases st <;> simp [getP] at hg
 cases p with
 | nil=>simp [addrOf] at hadr
 | cons st p =>
 cases st with
 | f1=>simp [getP] at hg
 | f2=>simp [getP] at hg
 | el i =>
 obtain ⟨b',o'',ks,fpl,hadr',_,FR⟩:=focus_root none hro hg hm
 rw [hadr] at hadr'
 simp only [Option.some.injEq,Prod.mk.injEq] at hadr'
 obtain ⟨rfl,rfl⟩:=hadr'
 exact ⟨ks,fpl,FR.rep,FR.at_,FR.sub⟩
theorem load_ok (hE:TTok E) (H:HR Z w sl hdr fp) {e:TypeId} {x:Operand} {s hv cv:Nat} {po:Option Path} {t:Ty} {v:t.den} (ho:o.op=.load e x) (hx:RelV Z w sl hdr fp (.adr s hv cv po t v) (a.eval x))
 (ht:tyB2 E e t=true) (hl:loadMV sl (.adr s hv cv po t v)=some mv):OpOK E o a w Z sl hdr fp mv (Ups.look [] sl):=by
 obtain ⟨nb,hT⟩:=tyB2_ok hE ht
 rcases hx with h0 | ⟨cs,hr,he⟩
 ·cases h0
 simp only [loadMV] at hl
 split at hl
 ·rename_i c e2
  have e2:=lookC_some e2
  obtain ⟨_,S,h1,_,h3⟩:=hr
  rw [e2] at h1; obtain rfl:=Option.some.inj h1
  obtain ⟨b,o',ks,hcs,hat,hbz,hz,⟨m,f,hrep,hf,hfz⟩,hp⟩:=(h3 rfl).2 rfl c rfl
  have hev:a.eval x=.pointer (some ⟨b,o',none⟩):=by rw [he,hcs]; rfl
  have hrun:(execOp a.eval o).run E.P w=.ok (.value (t.val ks)) w:=by
   unfold execOp; rw [ho]
   simp only [Sem.run_bind,hev,run_load_ hT hat hrep.len,Result.andThen_ok,Sem.run_pure]
  have asval:Rep Z w t .im v none_ ks→RelV Z w sl hdr fp (.val t v) (t.val ks):=fun h=>.inr ⟨ks,h,rfl⟩
  have asview:∀ po',(∀ p,po'=some p→PathOK w c (hdr s) p t v ks)→RelV Z w sl hdr fp (.view s hv cv po' t v) (t.val ks):=by
   intro po' hpo
   refine .inr ⟨ks,⟨⟨hrep.len,hrep.one⟩,_,e2,Nat.le_refl _,fun _=>⟨Nat.le_refl _,fun _ c' hc' => ?_⟩⟩,rfl⟩
   obtain rfl:=Option.some.inj hc'
   exact ⟨⟨m,f,hrep,hf,hfz⟩,hpo⟩
  cases hfl:(t.flat || !c.m.isOw) with
  | true =>
   rw [hfl] at hl
   simp only [cond_true,Option.some.injEq] at hl
   subst hl
   simp only [Bool.or_eq_true,Bool.not_eq_true'] at hfl
   refine .same H hrun (asval ?_)
   rcases hfl with hfl | hfl
   ·exact hrep.flat hfl
   ·exact hrep.none (hfz hfl)
  | false =>
   rw [hfl] at hl
   simp only [cond_false] at hl
   simp only [Bool.or_eq_false_iff,Bool.not_eq_false'] at hfl
   split at hl
   ·rename_i q
    split at hl
    ·rename_i m' hm'
     simp only [Option.some.injEq] at hl
     subst hl
     obtain ⟨hpk,hadr⟩:=hp q rfl
     cases hsh:t.shared m' with
     | true =>
      simp only [cond_true]
      obtain ⟨ks',f',r1,r2,r3⟩:=place_rep H e2 hfl.2 hpk.1 hm' (hadr hfl.2)
      obtain rfl:=at_same hat r2 (hrep.len.trans r1.len.symm)
      exact .same H hrun (asval (r1.share hsh))
     | false =>
      simp only [cond_false]
      exact .same H hrun (asview _ fun p hp0=>by obtain rfl:=Option.some.inj hp0; exact hpk)
    ·cases hl
   ·simp only [Option.some.injEq] at hl
    subst hl
    exact .same H hrun (asview none fun p hp0=>by cases hp0)
 ·cases hl
theorem load_im_ok (hE:TTok E) (H:HR Z w sl hdr fp) {e:TypeId} {x:Operand} {t:Ty} {v:t.den} (ho:o.op=.load e x) (hx:RelV Z w sl hdr fp (.iadr t v) (a.eval x)) (ht:tyB2 E e t=true):OpOK E o a w Z sl hdr fp (.val t v) (Ups.look [] sl):=by
 obtain ⟨nb,hT⟩:=tyB2_ok hE ht
 rcases hx with h0 | ⟨cs,⟨b,o',ks,hcs,hat,hz,hrep⟩,he⟩
 ·cases h0
 have hev:a.eval x=.pointer (some ⟨b,o',none⟩):=by rw [he,hcs]; rfl
 have hrun:(execOp a.eval o).run E.P w=.ok (.value (t.val ks)) w:=by
  unfold execOp; rw [ho]
  simp only [Sem.run_bind,hev,run_load_ hT hat hrep.len,Result.andThen_ok,Sem.run_pure]
 exact .same H hrun (.inr ⟨ks,hrep,rfl⟩)
theorem run_store_ {e:TypeId} {t:Ty} {n:Nat} (hT:TyOK E e t n) {b o':Nat} {v:Value} {cs:List Value} (hv:v.cells.toList=cs) (hl:cs.length=t.size) {w':World} (hs:(storeCells ⟨b,o',none⟩ cs).run E.P w=.ok () w') :
 (Instr.storeAt e (.pointer (some ⟨b,o',none⟩)) v).run E.P w=.ok () w':=by
 have hsz:v.cells.size=t.size:=by rw [← Array.length_toList,hv,hl]
 simp only [Instr.storeAt,Instr.sureAddr,storeVar,pure_bind,Sem.run_bind,hT.size,Result.andThen_ok,hsz,ne_eq,not_true,if_false,hv,hs,Sem.run_ite]
theorem sameP_eq:∀ {p q:Path},sameP p q=true→p=q
 | [],[],_=>rfl
 | .f1 :: p,.f1 :: q,h=>by rw [sameP_eq (p:=p) (q:=q) h]
 | .f2 :: p,.f2 :: q,h=>by rw [sameP_eq (p:=p) (q:=q) h]
 | .el i :: p,.el j :: q,h=>by
  simp only [sameP,Bool.and_eq_true] at h
  rw [Nat.eq_of_beq_eq_true h.1,sameP_eq h.2]
 | [],_ :: _,h=>by first | cases h | simp [sameP] at h
 | _ :: _,[],h=>by first | cases h | simp [sameP] at h
 | .f1 :: _,.f2 :: _,h | .f1 :: _,.el _ :: _,h | .f2 :: _,.f1 :: _,h | .f2 :: _,.el _ :: _,h | .el _ :: _,.f1 :: _,h | .el _ :: _,.f2 :: _,h=>by first | cases h | simp [sameP] at h
theorem store_ok (hE:TTok E) (H:HR Z w sl hdr fp) {e:TypeId} {x y:Operand} {s hv cv:Nat} {po:Option Path} {t:Ty} {v:t.den} {u:MV} {us:Ups} (ho:o.op=.store e x y) (hx:RelV Z w sl hdr fp (.adr s hv cv po t v) (a.eval x)) (hy:RelV Z w sl hdr fp u (a.eval y))
 (ht:tyB2 E e t=true) (hst:storeK sl (.adr s hv cv po t v) u (fun m u=>some (m,u))=some (mv,us)):OpOK E o a w Z sl hdr fp mv (us.look sl):=by
 obtain ⟨nb,hT⟩:=tyB2_ok hE ht
 rcases hx with h0 | ⟨cs,hr,he⟩
 ·cases h0
 cases po with
 | none=>simp [storeK] at hst
 | some p =>
 simp only [storeK] at hst
 split at hst
 ·rename_i c e2
  have e2:=lookC_some e2
  obtain ⟨_,S,h1,_,h3⟩:=hr
  rw [e2] at h1; obtain rfl:=Option.some.inj h1
  obtain ⟨b,o',ks,hcs,hat,hbz,hz,⟨m,f,hrep,hf,hfz⟩,hp⟩:=(h3 rfl).2 rfl c rfl
  have hev:a.eval x=.pointer (some ⟨b,o',none⟩):=by rw [he,hcs]; rfl
  split at hst
  ·rename_i m0 m' hm0 hm'
   have how:c.m.isOw=true:=by rw [hm0]; rfl
   obtain ⟨⟨hg,_⟩,hadr⟩:=hp p rfl
   have hadr:=hadr how
   split at hst
   ·rename_i s' hv' cv' p' t' y'
    cases hb:(s.beq s' && hv.beq hv' && cv.beq cv' && decide (t=.sl t')) with
    | false=>rw [hb] at hst; cases hst
    | true =>
     rw [hb] at hst
     simp only [Bool.and_eq_true,decide_eq_true_eq] at hb
     obtain ⟨⟨⟨hb1,hb2⟩,hb3⟩,rfl⟩:=hb
     obtain rfl:=Nat.eq_of_beq_eq_true hb1
     obtain rfl:=Nat.eq_of_beq_eq_true hb2
     obtain rfl:=Nat.eq_of_beq_eq_true hb3
     simp only [cond_true] at hst
     obtain ⟨hsame,hst2⟩:=chk_some hst
     clear hst
     obtain rfl:=sameP_eq hsame
     obtain ⟨rfl,rfl⟩:=Prod.mk.inj (Option.some.inj hst2)
     rcases hy with h0 | ⟨cy,hry,hey⟩
     ·cases h0
     obtain ⟨_,S,h1',_,h3'⟩:=hry
     rw [e2] at h1'; obtain rfl:=Option.some.inj h1'
     obtain ⟨m1,x0,g1,g2,g3⟩:=(h3' rfl).2 rfl c rfl how
     rw [hm'] at g1; obtain rfl:=Option.some.inj g1
     have hcy:∀ {F:Bs},Rep Z w (.sl t') (.ow m1) y' F cy→(a.eval y).cells.toList=cy:=fun g3=>by
      rw [hey]
      obtain ⟨v0,rfl⟩:=List.length_eq_one_iff.1 (g3.len.trans rfl)
      exact cells_single (g3.one v0 (by simp))
     have fin:∀ (fp0 F:Bs),Rep Z w c.t c.m c.x fp0 [hdr s]→(∀ k,fp0 k→fp s k)→Rep Z w (.sl t') (.ow m1) y' F cy→(∀ k,F k→(∃ r,fp r k∧noC sl r)∨fp s k∧(¬ fp0 k∨∀ fpl ks,Rep Z w (.sl t') (.ow m1) v fpl ks→At w b o' ks→fpl k)) →
      OpOK E o a w Z sl hdr fp .dead (Ups.look [(s,⟨hv,cv+1,some ⟨c.t,c.m,setP c.t c.x p ⟨.sl t',y'⟩⟩⟩)] sl):=by
      intro fp0 F r1 r2 r3 r4
      obtain ⟨w',fp',hrun,H',T'⟩:=store_place (P:=E.P) H e2 r1 r2 hg hm' how hadr r3 r4
      rw [look_cons,look_nil]
      refine .skip (w':=w') ?_ H' T'
      unfold execOp; rw [ho]
      simp only [Sem.run_bind,hev,run_store_ hT (hcy r3) r3.len hrun,Result.andThen_ok,Sem.run_pure]
     rcases g3 with g3 | ⟨b0,g4,g5,g6 | ⟨o2,l2,cap2,g6,g7⟩⟩
     ·exact fin (fp s) none_ (H.rep s _ _ _ e2) (fun _ h=>h) g3 (fun _ h=>h.elim)
     ·exact fin _ _ g6 (fun _ h=>h.1) g4 (fun k hk=>by subst hk; exact .inr ⟨g5,.inl (fun h=>h.2 rfl)⟩)
     ·refine fin (fp s) _ (H.rep s _ _ _ e2) (fun _ h=>h) g4 (fun k hk=>by
       subst hk
       refine .inr ⟨g5,.inr fun fpl ks' r1 r2 => ?_⟩
       obtain ⟨_,m3,g8⟩:=(hp p rfl).1.2 how
       have hks:ks'=[.slice (some ⟨k,o2,none⟩) l2 cap2]:=by
        have h9:=(hp p rfl).1.2 how
        have h10:ks=[.slice (some ⟨k,o2,none⟩) l2 cap2]:=Option.some.inj (h9.1.symm.trans g6)
        rw [← h10]
        exact at_same r2 hat (r1.len.trans hrep.len.symm)
       obtain ⟨A,cap,e5,h5⟩:=r1
       rw [hks] at e5
       simp only [List.cons.injEq,Value.slice.injEq,and_true] at e5
       obtain ⟨e6,e7,e8⟩:=e5
       rcases h5 with ⟨_,h6⟩ | ⟨b3,o3,c3,e3,h6,h7,_⟩
       ·omega
       ·rw [← e6] at h6
        simp only [Option.some.injEq,Addr.mk.injEq,and_true] at h6
        rw [h6.1]; exact h7)
   ·split at hst
    ·rename_i y' us' htk
     cases hb:us'.any (fun u=>u.1.beq s) with
     | true=>rw [hb] at hst; cases hst
     | false =>
      rw [hb] at hst
      simp only [cond_false,Option.some.injEq,Prod.mk.injEq] at hst
      obtain ⟨rfl,rfl⟩:=hst
      rcases hy with rfl | ⟨cy,hry,hey⟩
      ·exact (takeX_dead htk).elim
      obtain ⟨Z1,fp1,F,T1⟩:=takeX_sound htk H hry
      obtain ⟨hc1,hl1⟩:=takeX_out htk hry T1.rep
      have hs1:us'.look sl s=some ⟨hv,cv,some c⟩:=(look_other hb).trans e2
      have hadr1:addrOf w c.t [hdr s] none p=some (b,o'):=hadr
      obtain ⟨w',fp',hrun,H',T'⟩:=store_place (P:=E.P) T1.hr hs1 (T1.hr.rep s _ _ _ hs1) (fun _ h=>h) hg hm' how hadr1 T1.rep (fun k hk=>by obtain ⟨r,_,_,q3,q4⟩:=T1.hand k hk; exact .inl ⟨r,q3,q4⟩)
      rw [look_cons]
      refine .skip (w':=w') ?_ H' (T1.tr.comp T')
      unfold execOp; rw [ho]
      simp only [Sem.run_bind,hev,run_store_ hT (v:=a.eval y) (cs:=cy) (by rw [hey]; exact hc1) hl1 hrun,Result.andThen_ok,Sem.run_pure]
    ·cases hst
  ·cases hst
 ·cases hst
end
section
variable {E:Env} {o:Oper} {a:Act} {w:World} {Z:Bs} {sl:Nat→Option Slot} {hdr:Nat→Value} {fp:Nat→Bs} {mv:MV}
theorem one_cells {v:Value} (h:v.oneCell'=true):Cells 1 [v]:=⟨rfl,fun u hu=>by obtain rfl:=List.mem_singleton.1 hu; exact h⟩
theorem fld_ok {tt:TypeId→Option (Ty × Nat)}:∀ (i:Nat) {t:Ty} {v:t.den} {m:Mk} {f:Bs} {ks:List Value} {b o' off:Nat} {fs:List Field} {d:Dyn},getFld t v i=some d→Rep Z w t m v f ks→At w b o' ks→Fields tt fs t off →
 ∃ fl m' f' off' ks',fs[i]?=some fl∧fl.offset=off+off'∧(∃ n,tt fl.type=some (d.1,n))∧Rep Z w d.1 m' d.2 f' ks'∧(∀ k,f' k→f k)∧At w b (o'+off') ks'∧subc w t ks (fldP i)=some ks' ∧
  (∀ here,addrOf w t ks here (fldP i)=here.map fun h=>(h.1,h.2+off'))∧getP t v (fldP i)=some d∧tyP t (fldP i)=some d.1
 | 0,.pair ta tb,v,m,f,ks,b,o',off,fl :: fs,d,h,⟨c1,c2,f1,f2,e,r1,r2,s1,s2,_⟩,hat,⟨h1,h2,_⟩=>by
  simp only [getFld,Option.some.injEq] at h
  subst h; subst e
  obtain ⟨a1,a2⟩:=At.app.1 hat
  refine ⟨fl,m.l,f1,0,c1,rfl,h1,h2,r1,s1,a1,?_,fun here => ?_,?_,?_⟩
  ·simp only [fldP,subc]; rw [← r1.len,List.take_left] <;> (cases ta <;> rfl)
  ·simp only [fldP,addrOf] <;> (cases ta <;> cases here <;> rfl)
  ·simp only [fldP,getP] <;> (cases ta <;> rfl)
  ·simp only [fldP,tyP] <;> (cases ta <;> rfl)
 | i+1,.pair ta tb,v,m,f,ks,b,o',off,fl :: fs,d,h,⟨c1,c2,f1,f2,e,r1,r2,s1,s2,_⟩,hat,⟨h1,h2,h3⟩=>by
  subst e
  obtain ⟨a1,a2⟩:=At.app.1 hat
  obtain ⟨fl',m',f',off',ks',g1,g2,g3,g4,g5,g6,g7,g8,g9,g10⟩:=fld_ok i (t:=tb) h r2 a2 h3
  refine ⟨fl',m',f',ta.size+off',ks',by simpa using g1,by rw [g2]; omega,g3,g4,fun k hk=>s2 k (g5 k hk),by rw [← r1.len,← Nat.add_assoc]; exact g6,?_,fun here => ?_,g9,g10⟩
  ·simp only [fldP,subc]; rw [← r1.len,List.drop_left]; exact g7
  ·simp only [fldP,addrOf]; rw [← r1.len,List.drop_left,g8]; cases here <;> simp [Nat.add_assoc]
 | 0,.pair _ _,_,_,_,_,_,_,_,[],_,_,_,_,h | _+1,.pair _ _,_,_,_,_,_,_,_,[],_,_,_,_,h=>h.elim
 | 0,.bool,_,_,_,_,_,_,_,_,_,h,_,_,_ | 0,.int _,_,_,_,_,_,_,_,_,_,h,_,_,_ | 0,.str,_,_,_,_,_,_,_,_,_,h,_,_,_ | 0,.unit,_,_,_,_,_,_,_,_,_,h,_,_,_ | 0,.arr _ _,_,_,_,_,_,_,_,_,_,h,_,_,_ | 0,.sl _,_,_,_,_,_,_,_,_,_,h,_,_,_ | 0,.mp _ _,_,_,_,_,_,_,_,_,_,h,_,_,_ | 0,.ex _ _ _,_,_,_,_,_,_,_,_,_,h,_,_,_=>by cases h
 | _+1,.bool,_,_,_,_,_,_,_,_,_,h,_,_,_ | _+1,.int _,_,_,_,_,_,_,_,_,_,h,_,_,_ | _+1,.str,_,_,_,_,_,_,_,_,_,h,_,_,_ | _+1,.unit,_,_,_,_,_,_,_,_,_,h,_,_,_ | _+1,.arr _ _,_,_,_,_,_,_,_,_,_,h,_,_,_ | _+1,.sl _,_,_,_,_,_,_,_,_,_,h,_,_,_ | _+1,.mp _ _,_,_,_,_,_,_,_,_,_,h,_,_,_ | _+1,.ex _ _ _,_,_,_,_,_,_,_,_,_,h,_,_,_=>by cases h
theorem mkP_fld:∀ (i:Nat) {t:Ty} {v:t.den} {m:Mk} {d:Dyn},getFld t v i=some d→∃ m',mkP t m (fldP i)=some m'
 | 0,.pair ta tb,v,m,d,h=>⟨m.l,by simp only [fldP,mkP] <;> (cases ta <;> rfl)⟩
 | i+1,.pair ta tb,v,m,d,h=>mkP_fld i (t:=tb) h
 | 0,.bool,_,_,_,h | 0,.int _,_,_,_,h | 0,.str,_,_,_,h | 0,.unit,_,_,_,h | 0,.arr _ _,_,_,_,h | 0,.sl _,_,_,_,h | 0,.mp _ _,_,_,_,h | 0,.ex _ _ _,_,_,_,h=>by cases h
 | _+1,.bool,_,_,_,h | _+1,.int _,_,_,_,h | _+1,.str,_,_,_,h | _+1,.unit,_,_,_,h | _+1,.arr _ _,_,_,_,h | _+1,.sl _,_,_,_,h | _+1,.mp _ _,_,_,_,h | _+1,.ex _ _ _,_,_,_,h=>by cases h
theorem getFld_pair {t:Ty} {v:t.den} {i:Nat} {d:Dyn} (h:getFld t v i=some d):∃ ta tb,t=.pair ta tb:=by
 cases t <;> cases i <;> first | exact ⟨_,_,rfl⟩ | cases h
theorem run_field_ {e:TypeId} {fs:Array Field} {fl:Field} {i:Nat} {t:Ty} {n:Nat} (hu:E.P.underlying e=some (.struct fs)) (hf:fs.toList[i]?=some fl) (hT:TyOK E fl.type t n) (hs:t.size≠0) (b o':Nat) :
 (Instr.fieldAt e (.pointer (some ⟨b,o',none⟩)) i).run E.P w=.ok (.pointer (some ⟨b,o'+fl.offset,none⟩)) w:=by
 have hf':fs[i]?=some fl:=by rw [← Array.getElem?_toList]; exact hf
 simp [Instr.fieldAt,run_underlying hu,hf',Instr.sureAddr,fieldPlace,hT.size,hs,add_none]
theorem fieldAddr_ok (hE:TTok E) (H:HR Z w sl hdr fp) {e:TypeId} {x:Operand} {i s hv cv:Nat} {po:Option Path} {t:Ty} {v:t.den} {d:Dyn} (ho:o.op=.fieldAddr e x i) (hx:RelV Z w sl hdr fp (.adr s hv cv po t v) (a.eval x)) (ht:tyB2 E e t=true)
 (hg:getFld t v i=some d) (hs:d.1.size≠0) (hc:(lookC sl s hv cv).isSome=true):OpOK E o a w Z sl hdr fp (.adr s hv cv (po.map (·++fldP i)) d.1 d.2) (Ups.look [] sl):=by
 obtain ⟨nb,hT⟩:=tyB2_ok hE ht
 obtain ⟨ta,tb,rfl⟩:=getFld_pair hg
 obtain ⟨fs,hu,hfs⟩:=hT.desc
 rcases hx with h0 | ⟨cs,hr,he⟩
 ·cases h0
 obtain ⟨hcl,S,h1,h2,h3⟩:=hr
 obtain ⟨c,hlk⟩:=Option.isSome_iff_exists.1 hc
 have e2:=lookC_some hlk
 rw [h1] at e2; obtain rfl:=Option.some.inj e2
 obtain ⟨b,o',ks,hcs,hat,hbz,hz,⟨m,f,hrep,hf,hfz⟩,hp⟩:=(h3 rfl).2 rfl c rfl
 obtain ⟨fl,m',f',off',ks',g1,g2,⟨n',g3⟩,g4,g5,g6,g7,g8,g9,g10⟩:=fld_ok i hg hrep hat hfs
 have hev:a.eval x=.pointer (some ⟨b,o',none⟩):=by rw [he,hcs]; rfl
 have hoff:fl.offset=off':=by rw [g2]; omega
 have hrun:(execOp a.eval o).run E.P w=.ok (.value (.pointer (some ⟨b,o'+off',none⟩))) w:=by
  unfold execOp; rw [ho]
  simp only [Sem.run_bind,hev,run_field_ (w:=w) hu g1 (hE _ _ _ g3) hs b o',hoff,Result.andThen_ok,Sem.run_pure]
 refine .same H hrun (.inr ⟨_,⟨one_cells rfl,_,h1,Nat.le_refl _,fun _=>⟨Nat.le_refl _,fun _ c' hc' => ?_⟩⟩,rfl⟩)
 obtain rfl:=Option.some.inj hc'
 refine ⟨b,o'+off',ks',rfl,g6,hbz,hz,⟨m',f',g4,fun k hk=>hf k (g5 k hk),fun h k hk=>hfz h k (g5 k hk)⟩,fun p hp0 => ?_⟩
 cases po with
 | none=>cases hp0
 | some q =>
  obtain rfl:=Option.some.inj hp0
  obtain ⟨⟨q1,q2⟩,q3⟩:=hp q rfl
  refine ⟨⟨by rw [getP_app q _ q1]; exact g9,fun how => ?_⟩,fun how => ?_⟩
  ·obtain ⟨q4,m0,q5⟩:=q2 how
   obtain ⟨m1,q6⟩:=mkP_fld i (m:=m0) hg
   exact ⟨by rw [(subc_app q _ q4 (getP_ty q1)).1]; exact g7,m1,by rw [mkP_app q _ q5 (getP_ty q1)]; exact q6⟩
  ·obtain ⟨q4,m0,q5⟩:=q2 how
   rw [(subc_app q _ q4 (getP_ty q1)).2,g8,q3 how]; rfl
theorem fieldAddr_im_ok (hE:TTok E) (H:HR Z w sl hdr fp) {e:TypeId} {x:Operand} {i:Nat} {t:Ty} {v:t.den} {d:Dyn} (ho:o.op=.fieldAddr e x i) (hx:RelV Z w sl hdr fp (.iadr t v) (a.eval x)) (ht:tyB2 E e t=true)
 (hg:getFld t v i=some d) (hs:d.1.size≠0):OpOK E o a w Z sl hdr fp (.iadr d.1 d.2) (Ups.look [] sl):=by
 obtain ⟨nb,hT⟩:=tyB2_ok hE ht
 obtain ⟨ta,tb,rfl⟩:=getFld_pair hg
 obtain ⟨fs,hu,hfs⟩:=hT.desc
 rcases hx with h0 | ⟨cs,⟨b,o',ks,hcs,hat,hz,hrep⟩,he⟩
 ·cases h0
 obtain ⟨fl,m',f',off',ks',g1,g2,⟨n',g3⟩,g4,g5,g6,g7,g8,g9,g10⟩:=fld_ok i hg hrep hat hfs
 have hev:a.eval x=.pointer (some ⟨b,o',none⟩):=by rw [he,hcs]; rfl
 have hoff:fl.offset=off':=by rw [g2]; omega
 have hrun:(execOp a.eval o).run E.P w=.ok (.value (.pointer (some ⟨b,o'+off',none⟩))) w:=by
  unfold execOp; rw [ho]
  simp only [Sem.run_bind,hev,run_field_ (w:=w) hu g1 (hE _ _ _ g3) hs b o',hoff,Result.andThen_ok,Sem.run_pure]
 exact .same H hrun (.inr ⟨_,⟨b,o'+off',ks',rfl,g6,hz,g4.none (fun k hk=>(g5 k hk).elim)⟩,rfl⟩)
theorem run_part_ {e:TypeId} {t:Ty} {n:Nat} (hT:TyOK E e t n) {cs:List Value} {off:Nat} (hl:off+t.size≤cs.length):(part e cs.toArray off).run E.P w=.ok (t.val ((cs.drop off).take t.size)) w:=by
 simp only [part,Sem.run_bind,hT.agg,Result.andThen_ok]
 cases ha:t.agg with
 | true =>
  simp only [if_true,Sem.run_bind,hT.size,Result.andThen_ok,Sem.run_pure,Ty.val,ha,cond_true,cond_false]
  congr 2
  apply Array.ext'
  simp [List.extract_eq_take_drop]
 | false =>
  have h1:=Ty.size_one ha
  rw [h1] at hl ⊢
  have hlt:off<cs.length:=by omega
  simp only [Bool.false_eq_true,if_false,List.getElem?_toArray,List.getElem?_eq_getElem hlt,Sem.run_pure,Ty.val,ha,cond_true,cond_false]
  rw [List.drop_eq_getElem_cons hlt]; rfl
theorem getFld_ok {tt:TypeId→Option (Ty × Nat)}:∀ (i:Nat) {t:Ty} {u d:MV} {cs:List Value} {off:Nat} {fs:List Field},fits t u=true→u.getFld i=some d→RelC Z w sl hdr fp u cs→Fields tt fs t off →
 ∃ fl ti off',fs[i]?=some fl∧fl.offset=off+off'∧(∃ n,tt fl.type=some (ti,n))∧off'+ti.size≤cs.length∧RelC Z w sl hdr fp d ((cs.drop off').take ti.size)∧d.agg=ti.agg∧∃ n,d.sz=some n
 | 0,.pair ta tb,.pr u v,d,cs,off,fl :: fs,hf,h,⟨c1,c2,e,h1,h2⟩,⟨g1,g2,g3⟩=>by
  simp only [fits,Bool.and_eq_true] at hf
  obtain ⟨⟨f1,f2⟩,f3⟩:=hf
  simp only [MV.getFld,Option.some.injEq] at h
  subst h; subst e
  have hl:c1.length=ta.size:=by
   split at f1
   ·rename_i n hn; rw [(out_cells h1 hn).1]; exact Nat.eq_of_beq_eq_true f1
   ·cases f1
  refine ⟨fl,ta,0,rfl,g1,g2,by rw [List.length_append]; omega,?_,by simpa using f2,by split at f1 <;> first | exact ⟨_,by assumption⟩ | cases f1⟩
  rw [List.drop_zero,← hl,List.take_left]; exact h1
 | i+1,.pair ta tb,.pr u v,d,cs,off,fl :: fs,hf,h,⟨c1,c2,e,h1,h2⟩,⟨g1,g2,g3⟩=>by
  simp only [fits,Bool.and_eq_true] at hf
  obtain ⟨⟨f1,f2⟩,f3⟩:=hf
  subst e
  have hl:c1.length=ta.size:=by
   split at f1
   ·rename_i n hn; rw [(out_cells h1 hn).1]; exact Nat.eq_of_beq_eq_true f1
   ·cases f1
  obtain ⟨fl',ti,off',k1,k2,k3,k4,k5,k6⟩:=getFld_ok i f3 h h2 g3
  refine ⟨fl',ti,ta.size+off',by simpa using k1,by rw [k2]; omega,k3,by rw [List.length_append]; omega,?_,k6⟩
  rw [← hl,← List.drop_drop,List.drop_left]; exact k5
 | 0,.pair ta tb,.val (.pair ta' tb') x,d,cs,off,fl :: fs,hf,h,⟨c1,c2,f1,f2,e,r1,r2,s1,s2,_⟩,⟨g1,g2,g3⟩=>by
  simp only [fits,Bool.and_eq_true,decide_eq_true_eq] at hf
  obtain ⟨rfl,rfl⟩:=hf
  simp only [MV.getFld,Option.some.injEq] at h
  subst h; subst e
  refine ⟨fl,ta',0,rfl,g1,g2,by rw [List.length_append,r1.len]; omega,?_,rfl,_,rfl⟩
  rw [List.drop_zero,← r1.len,List.take_left]; exact r1.none (fun k hk=>(s1 k hk).elim)
 | i+1,.pair ta tb,.val (.pair ta' tb') x,d,cs,off,fl :: fs,hf,h,⟨c1,c2,f1,f2,e,r1,r2,s1,s2,_⟩,⟨g1,g2,g3⟩=>by
  simp only [fits,Bool.and_eq_true,decide_eq_true_eq] at hf
  obtain ⟨rfl,rfl⟩:=hf
  subst e
  have h2:RelC Z w sl hdr fp (.val tb' x.2) c2:=r2.none (fun k hk=>(s2 k hk).elim)
  have hfit:fits tb' (.val tb' x.2)=true∨∃ z,tb'=z∧(MV.val tb' x.2).getFld i=some d:=.inr ⟨tb',rfl,h⟩
  have hft:fits tb' (.val tb' x.2)=true:=by
   cases tb' <;> first | rfl | (simp [fits]; done) | (cases i <;> simp [MV.getFld] at h)
  obtain ⟨fl',ti,off',k1,k2,k3,k4,k5,k6⟩:=getFld_ok i hft h h2 g3
  refine ⟨fl',ti,ta'.size+off',by simpa using k1,by rw [k2]; omega,k3,by rw [List.length_append,r1.len]; omega,?_,k6⟩
  rw [← r1.len,← List.drop_drop,List.drop_left]; exact k5
 | _,.pair _ _,_,_,_,_,[],_,_,_,h=>h.elim
 | _,.pair _ _,.dead,_,_,_,_,hf,_,_,_ | _,.pair _ _,.nil,_,_,_,_,hf,_,_,_ | _,.pair _ _,.root _ _,_,_,_,_,hf,_,_,_ | _,.pair _ _,.view _ _ _ _ _ _,_,_,_,_,hf,_,_,_ | _,.pair _ _,.adr _ _ _ _ _ _,_,_,_,_,hf,_,_,_ | _,.pair _ _,.iadr _ _,_,_,_,_,hf,_,_,_ | _,.pair _ _,.pend _ _ _ _ _ _,_,_,_,_,hf,_,_,_ | _,.pair _ _,.icl _,_,_,_,_,hf,_,_,_ | _,.pair _ _,.nv _ _ _,_,_,_,_,hf,_,_,_ | _,.pair _ _,.ptr _ _ _,_,_,_,_,hf,_,_,_ | _,.pair _ _,.un,_,_,_,_,hf,_,_,_ | _,.pair _ _,.meth _ _ _,_,_,_,_,hf,_,_,_ | _,.pair _ _,.tc _ _,_,_,_,_,hf,_,_,_ | _,.pair _ _,.tn,_,_,_,_,hf,_,_,_ | _,.pair _ _,.fn _ _,_,_,_,_,hf,_,_,_=>by cases hf
 | _,.pair _ _,.val .bool _,_,_,_,_,hf,_,_,_ | _,.pair _ _,.val (.int _) _,_,_,_,_,hf,_,_,_ | _,.pair _ _,.val .str _,_,_,_,_,hf,_,_,_ | _,.pair _ _,.val .unit _,_,_,_,_,hf,_,_,_ | _,.pair _ _,.val (.arr _ _) _,_,_,_,_,hf,_,_,_ | _,.pair _ _,.val (.sl _) _,_,_,_,_,hf,_,_,_ | _,.pair _ _,.val (.mp _ _) _,_,_,_,_,hf,_,_,_ | _,.pair _ _,.val (.ex _ _ _) _,_,_,_,_,hf,_,_,_=>by cases hf
 | _,.bool,_,_,_,_,_,hf,_,_,_ | _,.int _,_,_,_,_,_,hf,_,_,_ | _,.str,_,_,_,_,_,hf,_,_,_ | _,.arr _ _,_,_,_,_,_,hf,_,_,_ | _,.sl _,_,_,_,_,_,hf,_,_,_ | _,.mp _ _,_,_,_,_,_,hf,_,_,_ | _,.ex _ _ _,_,_,_,_,_,hf,_,_,_=>by cases hf
 | i,.unit,u,d,_,_,_,hf,h,_,_=>by
  cases u <;> first | (cases hf; done) | skip
  ·rename_i t' y _
   cases t' <;> first | (cases hf; done) | (cases i <;> cases h)
  ·cases i <;> cases h
theorem field_ok (hE:TTok E) (H:HR Z w sl hdr fp) {e:TypeId} {x:Operand} {i nb:Nat} {t:Ty} {u d:MV} (ho:o.op=.field e x i) (hx:RelV Z w sl hdr fp u (a.eval x)) (hT:TyOK E e t nb) (hf:fits t u=true) (hg:u.getFld i=some d) :
 OpOK E o a w Z sl hdr fp d (Ups.look [] sl):=by
 rcases hx with rfl | ⟨cs,hr,he⟩
 ·cases i <;> cases hg
 have hdesc:∃ fs,E.P.underlying e=some (.struct fs)∧Fields E.tt fs.toList t 0:=by
  have:=hT.desc
  cases t <;> first | exact this | (cases u <;> cases hf)
 obtain ⟨fs,hu,hfs⟩:=hdesc
 obtain ⟨fl,ti,off',g1,g2,⟨n,g3⟩,g4,g5,g6,nz,g7⟩:=getFld_ok i hf hg hr hfs
 have hagg:u.out cs=.agg cs.toArray:=by
  cases u <;> first | (cases i <;> cases hg; done) | rfl | skip
  ·rename_i t' x'
   cases t' <;> first | rfl | (cases i <;> cases hg)
 have hf':fs[i]?=some fl:=by rw [← Array.getElem?_toList]; exact g1
 have hoff:fl.offset=off':=by rw [g2]; omega
 have hrun:(execOp a.eval o).run E.P w=.ok (.value (ti.val ((cs.drop off').take ti.size))) w:=by
  unfold execOp; rw [ho]
  simp only [Instr.field,he,hagg,Sem.run_bind,run_underlying hu,Result.andThen_ok,hf',asAgg,Sem.run_pure,hoff,run_part_ (w:=w) (hE _ _ _ g3) g4]
 refine .same H hrun (.inr ⟨_,g5,?_⟩)
 simp only [Ty.val,← g6]
 cases d <;> first | (cases g7; done) | rfl
end
end Go.Proofs.YtibphkgcdnconaaGreat.V
