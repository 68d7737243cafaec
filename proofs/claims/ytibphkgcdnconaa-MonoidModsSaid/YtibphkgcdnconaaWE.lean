/- Functions: what the small machine says of a body holds of every call. -/
import Derived.Test.YtibphkgcdnconaaWD
namespace Go.Proofs.Ytibphkgcdnconaa.V
open Go
set_option linter.unusedVariables false
set_option linter.all false
abbrev RV := Tmp × Option TypeId
def RV.to : RV → ResultVar
  | (t, none) => .tmp t
  | (t, some e) => .cell t e
/-- What is known of a result: in a temporary, or in a cell. -/
def resOf (E : Env) (look : Nat → Option Slot) (tm : Nat → MV) (r : RV) : Option MV :=
  match r.2 with
  | none => some (tm r.1)
  | some e => match deref look (tm r.1) with
    | .adr s hv cv p t x => bif tyB E e t then loadMV look (.adr s hv cv p t x) else none
    | _ => none
/-- The same for results: pointers to what is never changed again. -/
def takeP (look : Nat → Option Slot) (t : Ty) (m : Mk) (mv : MV) : Option (t.den × Ups) :=
  match t with
  | .ex .ptr a b => match deref look mv with
    | .iadr t' x => if h : t' = a then some ((some (h ▸ x) : Option a.den), []) else none
    | .adr s hv cv p t' x => match look s with
      | some S => match lookC look s hv cv with
        | some _ => if h : t' = a then some ((some (h ▸ x) : Option a.den), [(s, frozen_ S)]) else none
        | none => none
      | none => none
    | _ => takeX look (.ex .ptr a b) m mv
  | t => takeX look t m mv
theorem takeP_cases {w : World} {hdr : Nat → Value} {t : Ty} {m : Mk} {Z : Bs} {sl : Nat → Option Slot} {fp : Nat → Bs} {u : MV} {x : t.den} {us : Ups} (h : takeP sl t m u = some (x, us)) (hn : u ≠ .dead) : takeX sl t m u = some (x, us) ∨ (t.agg = false ∧ u.agg = false ∧ u.isL = false ∧ ∀ {cs : List Value}, HR Z w sl hdr fp → RelC Z w sl hdr fp u cs → ∃ Z' fp', Took Z w sl hdr fp us Z' fp' t m x none_ cs) := by
  unfold takeP at h
  split at h
  · rename_i a b
    have kinds : ∀ v, deref sl u = v → (∀ t x, v ≠ .val t x) → (∃ t x, v = .iadr t x) ∨ (∃ s hv cv p t x, v = .adr s hv cv p t x) → u.agg = false ∧ u.isL = false := by
      intro v hv _ hk
      cases u with
      | ptr s hv t => exact ⟨rfl, rfl⟩
      | iadr t x => exact ⟨rfl, rfl⟩
      | adr => exact ⟨rfl, rfl⟩
      | _ => rw [← hv] at hk; rcases hk with ⟨_, _, h⟩ | ⟨_, _, _, _, _, _, h⟩ <;> cases h
    split at h
    · rename_i t' y hd
      split at h
      · rename_i e; subst e
        simp only [Option.some.injEq, Prod.mk.injEq] at h
        obtain ⟨rfl, rfl⟩ := h
        obtain ⟨k1, k2⟩ := kinds _ hd (by intro _ _ h; cases h) (.inl ⟨_, _, rfl⟩)
        refine .inr ⟨rfl, k1, k2, fun {cs} H hr => ?_⟩
        rcases deref_ok H hr with h0 | ⟨q1, q2⟩
        · rw [hd] at h0; cases h0
        · rw [hd] at q1
          obtain ⟨b0, o0, ks, e, h1, h2, h3⟩ := q1
          exact ⟨Z, fp, took_none H (.inr ⟨_, b0, o0, ks, rfl, e, h1, h2, h3⟩)⟩
      · cases h
    · rename_i s hv cv p t' y hd
      split at h
      · rename_i S hS
        split at h
        · rename_i c hl
          split at h
          · rename_i e; subst e
            simp only [Option.some.injEq, Prod.mk.injEq] at h
            obtain ⟨rfl, rfl⟩ := h
            obtain ⟨k1, k2⟩ := kinds _ hd (by intro _ _ h; cases h) (.inr ⟨_, _, _, _, _, _, rfl⟩)
            refine .inr ⟨rfl, k1, k2, fun {cs} H hr => ?_⟩
            rcases deref_ok H hr with h0 | ⟨q1, q2⟩
            · rw [hd] at h0; cases h0
            · rw [hd] at q1
              have e2 := lookC_some hl
              obtain ⟨_, S1, h1, _, h3⟩ := q1
              rw [e2] at h1; obtain rfl := Option.some.inj h1
              obtain ⟨b0, o0, ks, hcs, h4, h5, _, ⟨m0, f, h6, h7, _⟩, _⟩ := (h3 rfl).2 rfl c rfl
              have hS' : some S = some _ := hS.symm.trans e2
              obtain rfl := Option.some.inj hS'
              have K := took_freeze (t := .unit) (m := .im) (x := ()) (F := none_) (cs := []) (m0 := .im) H hS rfl (fun b hb => hb.elim) rfl rfl
              exact ⟨_, _, K.hr, K.tr, .inr ⟨_, b0, o0, ks, rfl, hcs, h4, h5.elim .inr .inl, h6.freeze (fun b hb => hb.imp id (h7 b))⟩, K.hand, K.kept, K.back⟩
          · cases h
        · cases h
      · cases h
    · exact .inl h
  · exact .inl h
theorem takeP_dead {sl : Nat → Option Slot} {t : Ty} {m : Mk} {x : t.den} {us : Ups} (h : takeP sl t m .dead = some (x, us)) : False := by
  unfold takeP at h
  split at h
  · exact takeX_dead h
  · exact takeX_dead h
theorem takeP_sound {w : World} {hdr : Nat → Value} {t : Ty} {m : Mk} {Z : Bs} {sl : Nat → Option Slot} {fp : Nat → Bs} {u : MV} {x : t.den} {us : Ups} {cs : List Value} (h : takeP sl t m u = some (x, us)) (H : HR Z w sl hdr fp) (hr : RelC Z w sl hdr fp u cs) : ∃ Z' fp' F, Took Z w sl hdr fp us Z' fp' t m x F cs := by
  by_cases hn : u = .dead
  · subst hn; exact (takeP_dead h).elim
  · rcases takeP_cases (w := w) (hdr := hdr) (Z := Z) (fp := fp) h hn with h | ⟨_, _, _, h⟩
    · exact takeX_sound h H hr
    · obtain ⟨Z', fp', K⟩ := h H hr
      exact ⟨Z', fp', none_, K⟩
theorem takeP_agg {t : Ty} {m : Mk} {sl : Nat → Option Slot} {u : MV} {x : t.den} {us : Ups} (h : takeP sl t m u = some (x, us)) : u.agg = t.agg ∧ u.isL = false := by
  by_cases hn : u = .dead
  · subst hn; exact (takeP_dead h).elim
  · rcases takeP_cases (w := default) (hdr := fun _ => undef) (Z := none_) (fp := fun _ => none_) h hn with h | ⟨h1, h2, h3, _⟩
    · exact takeX_agg h
    · exact ⟨h2.trans h1.symm, h3⟩
def retTake (E : Env) (tm : Nat → MV) : (t : Ty) → Mk → (Nat → Option Slot) → List RV → Option (t.den × (Nat → Option Slot))
  | .pair a b, m, look, r :: rs => match resOf E look tm r with
    | some mv => match takeP look a m.l mv with
      | some (x, us) => match retTake E tm b m.r (us.look look) rs with
        | some (y, lk) => some ((x, y), lk)
        | none => none
      | none => none
    | none => none
  | .unit, _, look, [] => some ((), look)
  | _, _, _, _ => none
/-- What is handed over to be changed: cells (true) and rows; which slots of the one that is called. -/
abbrev IO := List (Bool × Ty × Mk)
def shpS : IO → Nat → List (Nat × Bool × Ty × Mk)
  | [], _ => []
  | c :: l, i => (i, c) :: shpS l (i + 1)
abbrev denIO (io : IO) : Type := denS (shpS io 0)
/-- The results, and what has become of what was handed over. -/
def outD (T : Type) : IO → Type
  | [] => T
  | c :: l => T × denIO (c :: l)
def out1 {T : Type} : (io : IO) → outD T io → T
  | [], x => x
  | _ :: _, x => x.1
def out2 {T : Type} : (io : IO) → outD T io → denIO io
  | [], _ => ()
  | _ :: _, x => x.2
def hv0 (look : Nat → Option Slot) : IO → Nat → Bool
  | [], _ => true
  | _ :: l, i => (match look i with
    | some S => Nat.beq S.hv 0
    | none => false) && hv0 look l (i + 1)
def finIO {T : Type} (look : Nat → Option Slot) (x : T) : (io : IO) → Option (outD T io)
  | [] => some x
  | c :: l => bif hv0 look (c :: l) 0 then (match rdS look (shpS (c :: l) 0) with
    | some d => some (x, d)
    | none => none) else none
def finR (E : Env) (t : Ty) (m : Mk) (io : IO) (rs : List RV) (e : Exit) (st : Sm) : Option (outD t.den io) :=
  match e with
  | .normal | .ret => match retTake E st.tm t m st.look rs with
    | some (x, lk) => finIO lk x io
    | none => none
  | _ => none
/-- What was handed over, out of the slots of the caller. -/
def rdIO : (io : IO) → (i : Nat) → List SlotC → Option (denS (shpS io i))
  | [], _, [] => some ()
  | c :: l, i, k :: ks => match rdC c.1 c.2.1 c.2.2 k with
    | some x => match rdIO l (i + 1) ks with
      | some d => some (x, d)
      | none => none
    | none => none
  | _, _, _ => none
def wrIO : (io : IO) → (i : Nat) → denS (shpS io i) → List (Option SlotC)
  | [], _, _ => []
  | c :: l, i, d => some (mkC c.1 c.2.1 c.2.2 d.1) :: wrIO l (i + 1) d.2
def MS.isL : MS → Bool
  | .tc _ _ | .tn => true
  | _ => false
def valA : (t : Ty) → Arg → Option t.den
  | t, .dyn t' x => if h : t' = t then some (h ▸ x) else none
  | .sl t, .nil => some []
  | _, _ => none
def MS.ra : (a : MS) → Arg → Option a.den
  | .val t, a => valA t a
  | .iadr t, .iad t' x => if h : t' = t then some (h ▸ x) else none
  | .nil, .nil => some ()
  | .fn f c, .fn f' k => bif Nat.beq f f' && c.isL then c.ra k else none
  | .icl c, .icl k => bif c.isL then none else c.ra k
  | .tc a b, .tc u v => bif !a.isL && b.isL then (match a.ra u with
    | some x => match b.ra v with
      | some y => some (x, y)
      | none => none
    | none => none) else none
  | .tn, .tn => some ()
  | .root k, .mr k' => bif Nat.beq k k' then some () else none
  | .ptr k t, .mp k' t' => bif Nat.beq k k' && decide (t' = t) then some () else none
  | _, _ => none
def shp : List MS → Nat → List (Nat × MS)
  | [], _ => []
  | a :: l, i => (i, a) :: shp l (i + 1)
def raL {S : Type} (z : S) : (l : List MS) → (i : Nat) → Arg → Option (denT S (shp l i))
  | [], _, .tn => some z
  | a :: l, i, .tc u v => bif a.isL then none else (match a.ra u with
    | some x => match raL z l (i + 1) v with
      | some y => some (x, y)
      | none => none
    | none => none)
  | _, _, _ => none
/-- What is told of a function. -/
structure FS where
  f : FuncId
  as : List MS
  io : IO
  own : IO := []
  t : Ty
  m : Mk
  M : denT (denIO (io ++ own)) (shp as 0) → Option (outD t.den io)
def FS.res (s : FS) (arg : Arg) (ios : List SlotC) : Option CallRes :=
  match rdIO (s.io ++ s.own) 0 ios with
  | some z => match raL z s.as 0 arg with
    | some d => some ⟨outD s.t.den s.io, s.M d, s.t, s.m, out1 s.io, fun r => wrIO s.io 0 (out2 s.io r) ++ List.replicate s.own.length none⟩
    | none => none
  | none => none
def mkΓ : List FS → FuncId → Arg → List SlotC → Option CallRes
  | [], _, _, _ => none
  | s :: l, f, a, ios => bif Nat.beq s.f f then (match s.res a ios with
    | some c => some c
    | none => mkΓ l f a ios) else mkΓ l f a ios
def FS.OK (P : Program) (s : FS) : Prop := ∀ arg ios c, s.res arg ios = some c → CallOK P s.f arg ios c
def ent (ns nt : Nat) (as : List MS) (io : IO) (d : denT (denIO io) (shp as 0)) : Sm :=
  ⟨mkT (shp as 0) d (fun _ _ => .dead), mkS ns (shpS io 0) (restT (shp as 0) d), ns, nt⟩
section
variable {E : Env} {Z0 : Ctx E.io} {w0 : World} {ns nt : Nat} {w : World} {hdr : Nat → Value}
theorem envOK {P : Program} {tt : TypeId → Option (Ty × Nat)} {io : Nat} : ∀ {l : List FS}, (∀ s ∈ l, s.OK P) → EnvOK ⟨P, tt, mkΓ l, io⟩
  | [], _, f, a, ios, c, h => by cases h
  | s :: l, hl, f, a, ios, c, h => by
    have ih : EnvOK ⟨P, tt, mkΓ l, io⟩ := envOK (fun s hs => hl s (by simp [hs]))
    have h : (bif Nat.beq s.f f then (match s.res a ios with
      | some c => some c
      | none => mkΓ l f a ios) else mkΓ l f a ios) = some c := h
    cases hb : Nat.beq s.f f with
    | false => rw [hb] at h; exact ih f a ios c h
    | true =>
      rw [hb] at h
      obtain rfl := Nat.eq_of_beq_eq_true hb
      simp only [cond_true] at h
      split at h
      · rename_i c' hc
        obtain rfl := Option.some.inj h
        exact hl s (by simp) a ios _ hc
      · exact ih _ a ios c h
def resV (P : Program) (val : Nat → Value) (w : World) (r : RV) (v : Value) : Prop :=
  match r.2 with
  | none => v = val r.1
  | some e => (do loadVar e (← asAddr (val r.1)) : Sem Value).run P w = .ok v w
def resVs (P : Program) (val : Nat → Value) (w : World) : List RV → List Value → Prop
  | [], [] => True
  | r :: rs, v :: vs => resV P val w r v ∧ resVs P val w rs vs
  | _, _ => False
theorem run_loadVar_ {e : TypeId} {t : Ty} {n : Nat} (hT : TyOK E e t n) {b o' : Nat} {ks : List Value} (hat : At w b o' ks) (hl : ks.length = t.size) : (do loadVar e (← asAddr (.pointer (some ⟨b, o', none⟩))) : Sem Value).run E.P w = .ok (t.val ks) w := by
  have := run_load_ (E := E) hT hat hl
  simp only [Instr.loadAt, Instr.sureAddr, pure_bind] at this
  simp only [asAddr, pure_bind]
  exact this
theorem load_cell (hE : TTok E) {Z : Bs} {sl : Nat → Option Slot} {fp : Nat → Bs} {mv : MV} (H : HR Z w sl hdr fp) {e : TypeId} {s hv cv : Nat} {po : Option Path} {t : Ty} {v : t.den} {x : Value} (hx : RelV Z w sl hdr fp (.adr s hv cv po t v) x)
    (ht : tyB E e t = true) (hl : loadMV sl (.adr s hv cv po t v) = some mv) : ∃ y, (do loadVar e (← asAddr x) : Sem Value).run E.P w = .ok y w ∧ RelV Z w sl hdr fp mv y := by
  obtain ⟨nb, hT⟩ := tyB_ok hE ht
  rcases hx with h0 | ⟨cs, hr, he⟩
  · cases h0
  simp only [loadMV] at hl
  split at hl
  · rename_i c e2
    have e2 := lookC_some e2
    obtain ⟨_, S, h1, _, h3⟩ := hr
    rw [e2] at h1; obtain rfl := Option.some.inj h1
    obtain ⟨b, o', ks, hcs, hat, hbz, hz, ⟨m, f, hrep, hf, hfz⟩, hp⟩ := (h3 rfl).2 rfl c rfl
    have hev : x = .pointer (some ⟨b, o', none⟩) := by rw [he, hcs]; rfl
    refine ⟨t.val ks, by rw [hev]; exact run_loadVar_ hT hat hrep.len, ?_⟩
    have asval : Rep Z w t .im v none_ ks → RelV Z w sl hdr fp (.val t v) (t.val ks) := fun h => .inr ⟨ks, h, rfl⟩
    have asview : ∀ po', (∀ p, po' = some p → PathOK w c (hdr s) p t v ks) → RelV Z w sl hdr fp (.view s hv cv po' t v) (t.val ks) := by
      intro po' hpo
      refine .inr ⟨ks, ⟨⟨hrep.len, hrep.one⟩, _, e2, Nat.le_refl _, fun _ => ⟨Nat.le_refl _, fun _ c' hc' => ?_⟩⟩, rfl⟩
      obtain rfl := Option.some.inj hc'
      exact ⟨⟨m, f, hrep, hf, hfz⟩, hpo⟩
    cases hfl : (t.flat || !c.m.isOw) with
    | true =>
      rw [hfl] at hl
      simp only [cond_true, Option.some.injEq] at hl
      subst hl
      simp only [Bool.or_eq_true, Bool.not_eq_true'] at hfl
      refine asval ?_
      rcases hfl with hfl | hfl
      · exact hrep.flat hfl
      · exact hrep.none (hfz hfl)
    | false =>
      rw [hfl] at hl
      simp only [cond_false] at hl
      simp only [Bool.or_eq_false_iff, Bool.not_eq_false'] at hfl
      split at hl
      · rename_i q
        split at hl
        · rename_i m' hm'
          simp only [Option.some.injEq] at hl
          subst hl
          obtain ⟨hpk, hadr⟩ := hp q rfl
          cases hsh : t.shared m' with
          | true =>
            simp only [cond_true]
            obtain ⟨ks', f', r1, r2, r3⟩ := place_rep H e2 hfl.2 hpk.1 hm' (hadr hfl.2)
            obtain rfl := at_same hat r2 (hrep.len.trans r1.len.symm)
            exact asval (r1.share hsh)
          | false =>
            simp only [cond_false]
            exact asview _ fun p hp0 => by obtain rfl := Option.some.inj hp0; exact hpk
        · cases hl
      · simp only [Option.some.injEq] at hl
        subst hl
        exact asview none fun p hp0 => by cases hp0
  · cases hl
theorem resOf_ok (hE : TTok E) {Z : Bs} {sl : Nat → Option Slot} {fp : Nat → Bs} {tm : Nat → MV} {val : Nat → Value} {r : RV} {mv : MV} (H : HR Z w sl hdr fp) (hv : ∀ i, RelV Z w sl hdr fp (tm i) (val i)) (h : resOf E sl tm r = some mv) : ∃ y, resV E.P val w r y ∧ RelV Z w sl hdr fp mv y := by
  obtain ⟨t, oe⟩ := r
  cases oe with
  | none => obtain rfl := Option.some.inj h; exact ⟨_, rfl, hv t⟩
  | some e =>
    simp only [resOf] at h
    have hd := deref_okV H (hv t)
    split at h
    · rename_i ed
      rw [ed] at hd
      obtain ⟨hb, h⟩ := cond_some h
      exact load_cell hE H hd hb h
    · cases h
theorem retTake_ok (hE : TTok E) {tm : Nat → MV} {val : Nat → Value} : ∀ {t : Ty} {m : Mk} {Z : Bs} {sl : Nat → Option Slot} {fp : Nat → Bs} {rs : List RV} {x : t.den} {sl' : Nat → Option Slot}, retTake E tm t m sl rs = some (x, sl') → HR Z w sl hdr fp → (∀ i, RelV Z w sl hdr fp (tm i) (val i)) →
    ∃ Z' fp' F vs, HR Z' w sl' hdr fp' ∧ Trans Z w sl hdr fp Z' w sl' hdr fp' ∧ resVs E.P val w rs vs ∧ RepR Z' w t m x F vs ∧ (∀ b, F b → ∃ s, fp s b ∧ ¬ noC sl s ∧ fp' s b ∧ noC sl' s) ∧ (∀ s b, noC sl s → fp s b → fp' s b ∧ noC sl' s) := by
  intro t
  induction t with
  | pair ta tb _ ih =>
    intro m Z sl fp rs x sl' h H hv
    cases rs with
    | nil => cases h
    | cons r0 rs =>
      simp only [retTake] at h
      split at h
      · rename_i mv e0
        split at h
        · rename_i x1 us e1
          split at h
          · rename_i y lk e2
            simp only [Option.some.injEq, Prod.mk.injEq] at h
            obtain ⟨rfl, rfl⟩ := h
            obtain ⟨v0, hr0, hv0⟩ := resOf_ok hE H hv e0
            rcases hv0 with h0 | ⟨cs, h1, h2⟩
            · rw [h0] at e1; exact (takeP_dead e1).elim
            · obtain ⟨Z1, fp1, F1, K⟩ := takeP_sound e1 H h1
              obtain ⟨Z2, fp2, F2, vs, H2, T2, V2, R2, hand2, kept2⟩ := ih e2 K.hr (fun i => (hv i).trans H K.hr K.tr)
              refine ⟨Z2, fp2, fun b => F1 b ∨ F2 b, v0 :: vs, H2, K.tr.comp T2, ⟨hr0, V2⟩, ⟨v0, vs, cs, F1, F2, rfl, K.rep.more (fun b hb => (T2.z b hb).1), ?_, R2, fun b hb => .inl hb, fun b hb => .inr hb, fun b hb1 hb2 => ?_⟩, fun b hb => ?_, fun s b hs hb => ?_⟩
              · obtain ⟨g1, g2⟩ := takeP_agg e1
                rw [h2, out_val g1 g2]
              · obtain ⟨s1, _, _, q3, q4⟩ := K.hand b hb1
                obtain ⟨s2, p1, p2, _, _⟩ := hand2 b hb2
                obtain rfl := K.hr.disj _ _ _ q3 p1
                exact p2 q4
              · rcases hb with hb | hb
                · obtain ⟨s, q1, q2, q3, q4⟩ := K.hand b hb
                  exact ⟨s, q1, q2, kept2 s b q4 q3⟩
                · obtain ⟨s, p1, p2, p3⟩ := hand2 b hb
                  obtain ⟨k1, k2⟩ := K.back s p2
                  exact ⟨s, k2 b p1, k1, p3⟩
              · obtain ⟨k1, k2⟩ := K.kept s b hs hb
                exact kept2 s b k2 k1
          · cases h
        · cases h
      · cases h
  | unit =>
    intro m Z sl fp rs x sl' h H hv
    cases rs with
    | nil =>
      have h : some ((), sl) = some (x, sl') := h
      simp only [Option.some.injEq, Prod.mk.injEq] at h
      obtain ⟨_, rfl⟩ := h
      exact ⟨Z, fp, none_, [], H, Trans.refl _ _ _ _ _, trivial, rfl, fun b hb => hb.elim, fun s b h1 h2 => ⟨h2, h1⟩⟩
    | cons _ _ => cases h
  | _ => intro m Z sl fp rs x sl' h; cases rs <;> cases h
theorem valA_ok {n : Nat} {Z : Bs} {sl : Nat → Option Slot} {fp : Nat → Bs} {t : Ty} {arg : Arg} {x : t.den} {vs : List Value} (h : valA t arg = some x) (hr : RepA Z w n hdr arg vs) : ∃ cs, RelC Z w sl hdr fp (.val t x) cs ∧ vs = [t.val cs] := by
  cases arg with
  | dyn t' y =>
    have h : (if h : t' = t then some (h ▸ y : t.den) else none) = some x := by cases t <;> exact h
    split at h
    · rename_i e; subst e
      obtain rfl := Option.some.inj h
      obtain ⟨cs, h1, h2⟩ := hr
      exact ⟨cs, h1, h2⟩
    · cases h
  | nil =>
    cases t with
    | sl t =>
      have h : some ([] : List t.den) = some x := h
      cases h
      obtain ⟨A, rfl⟩ := hr
      exact ⟨[.slice A 0 0], ⟨A, 0, rfl, Nat.le_refl _, .inl rfl⟩, rfl⟩
    | _ => cases h
  | _ => cases t <;> cases h
theorem ms_isL : ∀ (a : MS) (x : a.den), (a.mk x).isL = a.isL
  | .val _, _ | .iadr _, _ | .nil, _ | .tn, _ | .fn _ _, _ | .icl _, _ | .tc _ _, _ | .root _, _ | .ptr _ _, _ => rfl
theorem ra_ok {n : Nat} {Z : Bs} {sl : Nat → Option Slot} {fp : Nat → Bs} (hn : ∀ k, k < n → ∃ S, sl k = some S) : ∀ (a : MS) {arg : Arg} {x : a.den} {vs : List Value}, a.ra arg = some x → RepA Z w n hdr arg vs → ∃ cs, RelC Z w sl hdr fp (a.mk x) cs ∧ vs = (bif a.isL then cs else [(a.mk x).out cs])
  | .val t, arg, x, vs, h, hr => valA_ok h hr
  | .iadr t, arg, x, vs, h, hr => by
    cases arg with
    | iad t' y =>
      have h : (if h : t' = t then some (h ▸ y : t.den) else none) = some x := h
      split at h
      · rename_i e; subst e
        obtain rfl := Option.some.inj h
        obtain ⟨b, o, ks, rfl, h1, h2, h3⟩ := hr
        exact ⟨_, ⟨b, o, ks, rfl, h1, h2, h3⟩, rfl⟩
      · cases h
    | _ => cases h
  | .nil, arg, x, vs, h, hr => by
    cases arg with
    | nil => obtain ⟨A, rfl⟩ := hr; exact ⟨_, ⟨A, rfl⟩, rfl⟩
    | _ => cases h
  | .tn, arg, x, vs, h, hr => by
    cases arg with
    | tn => exact ⟨vs, hr, rfl⟩
    | _ => cases h
  | .root k, arg, x, vs, h, hr => by
    cases arg with
    | mr k' =>
      have h : (bif Nat.beq k k' then some () else none) = some x := h
      obtain ⟨hb, _⟩ := cond_some h
      obtain rfl := Nat.eq_of_beq_eq_true hb
      obtain ⟨h1, rfl, h3⟩ := hr
      obtain ⟨S, hS⟩ := hn k h1
      exact ⟨[hdr k], ⟨h3, S, hS, Nat.zero_le _, fun _ c _ => rfl⟩, rfl⟩
    | _ => cases h
  | .ptr k t, arg, x, vs, h, hr => by
    cases arg with
    | mp k' t' =>
      have h : (bif Nat.beq k k' && decide (t' = t) then some () else none) = some x := h
      obtain ⟨hb, _⟩ := cond_some h
      simp only [Bool.and_eq_true] at hb
      obtain rfl := Nat.eq_of_beq_eq_true hb.1
      obtain ⟨h1, b, o, l, cap, h2, rfl⟩ := hr
      obtain ⟨S, hS⟩ := hn k h1
      exact ⟨[.pointer (some ⟨b, o, none⟩)], ⟨⟨rfl, fun v hv => by obtain rfl := List.mem_singleton.1 hv; rfl⟩, S, hS, Nat.zero_le _, fun _ c _ => ⟨b, o, l, cap, h2, rfl⟩⟩, rfl⟩
    | _ => cases h
  | .fn f c, arg, x, vs, h, hr => by
    cases arg with
    | fn g k =>
      have h : (bif Nat.beq f g && c.isL then c.ra k else none) = some x := h
      obtain ⟨hb, h3⟩ := cond_some h
      simp only [Bool.and_eq_true] at hb
      obtain rfl := Nat.eq_of_beq_eq_true hb.1
      clear h
      obtain ⟨ks, rfl, h2⟩ := hr
      obtain ⟨cs, r1, r2⟩ := ra_ok hn c (fp := fp) h3 h2
      rw [hb.2] at r2
      subst r2
      exact ⟨_, ⟨ks, rfl, r1⟩, rfl⟩
    | _ => cases h
  | .icl c, arg, x, vs, h, hr => by
    cases arg with
    | icl k =>
      have h : (bif c.isL then none else c.ra k) = some x := h
      cases hL : c.isL with
      | true => rw [hL] at h; cases h
      | false =>
        rw [hL] at h
        obtain ⟨b0, o0, v, rfl, p1, p2, h2⟩ := hr
        obtain ⟨cs, r1, r2⟩ := ra_ok hn c (fp := fp) h h2
        rw [hL] at r2
        simp only [cond_false, List.cons.injEq, and_true] at r2
        subst r2
        exact ⟨_, ⟨b0, o0, cs, rfl, p1, p2, r1⟩, rfl⟩
    | _ => cases h
  | .tc a b, arg, x, vs, h, hr => by
    cases arg with
    | tc u v =>
      have h : (bif !a.isL && b.isL then (match a.ra u with
        | some x => match b.ra v with
          | some y => some (x, y)
          | none => none
        | none => none) else none) = some x := h
      obtain ⟨hb, h3⟩ := cond_some h
      clear h
      simp only [Bool.and_eq_true, Bool.not_eq_true'] at hb
      split at h3
      · rename_i xa ea
        split at h3
        · rename_i xb eb
          obtain rfl := Option.some.inj h3
          obtain ⟨v0, vs', rfl, r1, r2⟩ := hr
          obtain ⟨c1, q1, q2⟩ := ra_ok hn a (fp := fp) ea r1
          obtain ⟨c2, q3, q4⟩ := ra_ok hn b (fp := fp) eb r2
          rw [hb.1] at q2
          rw [hb.2] at q4
          simp only [cond_false, cond_true, List.cons.injEq, and_true] at q2 q4
          subst q4
          exact ⟨_, ⟨c1, v0, vs', rfl, .inr ⟨q1, q2⟩, q3⟩, rfl⟩
        · cases h3
      · cases h3
    | _ => cases h
theorem raL_ok {n : Nat} {S : Type} {z : S} {Z : Bs} {sl : Nat → Option Slot} {fp : Nat → Bs} (hn : ∀ k, k < n → ∃ S, sl k = some S) : ∀ (l : List MS) (i0 : Nat) {arg : Arg} {d : denT S (shp l i0)} {vs : List Value}, raL z l i0 arg = some d → RepA Z w n hdr arg vs → vs.length = l.length ∧ ∀ i v, (i < i0 → mkT (shp l i0) d (fun _ _ => .dead) i = .dead) ∧ (vs[i]? = some v → RelV Z w sl hdr fp (mkT (shp l i0) d (fun _ _ => .dead) (i0 + i)) v) ∧ (vs[i]? = none → mkT (shp l i0) d (fun _ _ => .dead) (i0 + i) = .dead)
  | [], i0, arg, d, vs, h, hr => by
    cases arg with
    | tn => rw [show vs = [] from hr]; exact ⟨rfl, fun i v => ⟨fun _ => rfl, fun h => by simp at h, fun _ => rfl⟩⟩
    | _ => cases h
  | a :: l, i0, arg, d, vs, h, hr => by
    cases arg with
    | tc u v =>
      simp only [raL] at h
      cases hL : a.isL with
      | true => rw [hL] at h; cases h
      | false =>
        rw [hL] at h
        simp only [cond_false] at h
        split at h
        · rename_i xa ea
          split at h
          · rename_i y ey
            obtain rfl := Option.some.inj h
            obtain ⟨v0, vs', rfl, r1, r2⟩ := hr
            obtain ⟨c1, q1, q2⟩ := ra_ok hn a (fp := fp) ea r1
            rw [hL] at q2
            simp only [cond_false, List.cons.injEq, and_true] at q2
            obtain ⟨g1, g2⟩ := raL_ok hn l (i0 + 1) (fp := fp) ey r2
            refine ⟨by simp [g1], fun i v1 => ⟨fun hi => ?_, fun hi => ?_, fun hi => ?_⟩⟩
            · simp only [shp, mkT]
              rw [beq_ne_ (Nat.ne_of_lt hi)]
              exact (g2 i v1).1 (Nat.lt_succ_of_lt hi)
            · simp only [shp, mkT]
              cases i with
              | zero =>
                simp only [List.getElem?_cons_zero, Option.some.injEq] at hi
                subst hi
                rw [Nat.add_zero, beq_self_]
                exact .inr ⟨c1, q1, q2⟩
              | succ i =>
                simp only [List.getElem?_cons_succ] at hi
                rw [beq_ne_ (by omega)]
                have := (g2 i v1).2.1 hi
                rw [show i0 + (i + 1) = i0 + 1 + i by omega]
                exact this
            · simp only [shp, mkT]
              cases i with
              | zero => simp at hi
              | succ i =>
                simp only [List.getElem?_cons_succ] at hi
                rw [beq_ne_ (by omega)]
                have := (g2 i v1).2.2 hi
                rw [show i0 + (i + 1) = i0 + 1 + i by omega]
                exact this
          · cases h
        · cases h
    | _ => cases h
theorem results_ok {fn : Func} {rs : List RV} (h : fn.results = (rs.map RV.to).toArray) {a : Act} {P : Program} {w : World} {vs : List Value} (hv : resVs P (fun i => a.eval (.tmp i)) w rs vs) : (results fn a.tmps).run P w = .ok (retVal vs) w := by
  unfold results
  rw [h, List.mapM_toArray, List.mapM_map]
  have key : ∀ {rs : List RV} {vs : List Value}, resVs P (fun i => a.eval (.tmp i)) w rs vs → ∀ {f : RV → Sem Value}, (∀ r v, resV P (fun i => a.eval (.tmp i)) w r v → (f r).run P w = .ok v w) → (List.mapM f rs).run P w = .ok vs w := by
    intro rs
    induction rs with
    | nil =>
      intro vs hv f hf
      cases vs with
      | nil => rfl
      | cons _ _ => cases hv
    | cons r rs ih =>
      intro vs hv f hf
      cases vs with
      | nil => cases hv
      | cons v vs =>
        obtain ⟨h1, h2⟩ := hv
        rw [List.mapM_cons]
        simp only [Sem.run_bind, hf r v h1, Result.andThen_ok, ih h2 hf, Sem.run_pure]
  have := key hv (f := (fun x => match x with
      | ResultVar.tmp t => (pure (a.tmps.getD t undef) : Sem Value)
      | .cell b t => do loadVar t (← asAddr (a.tmps.getD b undef))) ∘ RV.to) (fun r v hr => by
    obtain ⟨t, oe⟩ := r
    cases oe with
    | none => rw [show v = a.eval (.tmp t) from hr]; rfl
    | some e => exact hr)
  rw [map_eq_pure_bind, bind_assoc, Sem.run_bind]
  refine (congrArg (fun x => Result.andThen x _) this).trans ?_
  simp only [Result.andThen_ok, pure_bind, Sem.run_pure]
  cases vs with
  | nil => rfl
  | cons x l =>
    cases l with
    | nil => rfl
    | cons y l => rfl
theorem raL_rest {S : Type} {z : S} : ∀ (l : List MS) (i0 : Nat) {arg : Arg} {d : denT S (shp l i0)}, raL z l i0 arg = some d → restT (shp l i0) d = z
  | [], i0, arg, d, h => by
    cases arg with
    | tn => exact (Option.some.inj h).symm
    | _ => cases h
  | a :: l, i0, arg, d, h => by
    cases arg with
    | tc u v =>
      simp only [raL] at h
      cases hL : a.isL with
      | true => rw [hL] at h; cases h
      | false =>
        rw [hL] at h
        simp only [cond_false] at h
        split at h
        · split at h
          · rename_i y ey
            obtain rfl := Option.some.inj h
            exact raL_rest l (i0 + 1) ey
          · cases h
        · cases h
    | _ => cases h
theorem rdIO_mk {ns : Nat} : ∀ (io : IO) (i : Nat) {ios : List SlotC} {z : denS (shpS io i)}, rdIO io i ios = some z → ios.length = io.length ∧ ∀ s hv cv c, mkS ns (shpS io i) z s = some ⟨hv, cv, some c⟩ → ∃ k, s = i + k ∧ ios[k]? = some c
  | [], i, ios, z, h => by
    cases ios with
    | nil =>
      refine ⟨rfl, fun s hv cv c h => ?_⟩
      simp only [shpS, mkS] at h
      cases hb : Nat.blt s ns <;> rw [hb] at h <;> cases h
    | cons _ _ => cases h
  | c0 :: l, i, ios, z, h => by
    cases ios with
    | nil => cases h
    | cons k0 ks =>
      simp only [rdIO] at h
      split at h
      · rename_i x ex
        split at h
        · rename_i d ed
          obtain rfl := Option.some.inj h
          obtain ⟨h1, h2⟩ := rdIO_mk (ns := ns) l (i + 1) ed
          refine ⟨by simp [h1], fun s hv cv c hm => ?_⟩
          simp only [shpS, mkS] at hm
          cases hs : (Nat.beq s i && Nat.blt s ns) with
          | true =>
            rw [hs] at hm
            simp only [Bool.and_eq_true] at hs
            simp only [cond_true, Option.some.injEq, Slot.mk.injEq] at hm
            obtain ⟨_, _, rfl⟩ := hm
            exact ⟨0, Nat.eq_of_beq_eq_true hs.1, by rw [rdC_ok ex]; rfl⟩
          | false =>
            rw [hs] at hm
            obtain ⟨k, e1, e2⟩ := h2 s hv cv c hm
            exact ⟨k + 1, by omega, by simpa using e2⟩
        · cases h
      · cases h
theorem rdS_wr {lk : Nat → Option Slot} : ∀ (io : IO) (i : Nat) {d : denS (shpS io i)}, rdS lk (shpS io i) = some d → (wrIO io i d).length = io.length ∧ ∀ k c, (wrIO io i d)[k]? = some (some c) → ∃ hv cv, lk (i + k) = some ⟨hv, cv, some c⟩
  | [], i, d, h => ⟨rfl, fun k c hk => by simp [wrIO] at hk⟩
  | c0 :: l, i, d, h => by
    simp only [shpS, rdS] at h
    split at h
    · rename_i hv1 cv1 k0 hk0
      split at h
      · rename_i x ex
        split at h
        · rename_i d' ed
          obtain rfl := Option.some.inj h
          obtain ⟨h1, h2⟩ := rdS_wr l (i + 1) ed
          refine ⟨by simp only [wrIO, List.length_cons, h1], fun k c hk => ?_⟩
          cases k with
          | zero =>
            simp only [wrIO, List.getElem?_cons_zero, Option.some.injEq] at hk
            subst hk
            exact ⟨hv1, cv1, by rw [rdC_ok ex]; exact hk0⟩
          | succ k =>
            simp only [wrIO, List.getElem?_cons_succ] at hk
            obtain ⟨hv, cv, e⟩ := h2 k c hk
            exact ⟨hv, cv, by rw [show i + (k + 1) = i + 1 + k by omega]; exact e⟩
        · cases h
      · cases h
    · cases h
theorem hv0_ok {lk : Nat → Option Slot} : ∀ (io : IO) (i : Nat), hv0 lk io i = true → ∀ k, k < io.length → ∃ S, lk (i + k) = some S ∧ S.hv = 0
  | [], _, _, k, hk => by simp at hk
  | _ :: l, i, h, k, hk => by
    simp only [hv0, Bool.and_eq_true] at h
    cases k with
    | zero =>
      cases e : lk i with
      | none => rw [e] at h; cases h.1
      | some S => rw [e] at h; exact ⟨S, rfl, Nat.eq_of_beq_eq_true h.1⟩
    | succ k =>
      obtain ⟨S, h1, h2⟩ := hv0_ok l (i + 1) h.2 k (by simpa using hk)
      exact ⟨S, by rw [show i + (k + 1) = i + 1 + k by omega]; exact h1, h2⟩
theorem finIO_ok {T : Type} {lk : Nat → Option Slot} {x : T} : ∀ {io : IO} {r : outD T io}, finIO lk x io = some r → out1 io r = x ∧ hv0 lk io 0 = true ∧ rdS lk (shpS io 0) = some (out2 io r)
  | [], r, h => ⟨(Option.some.inj h).symm, rfl, rfl⟩
  | c :: l, r, h => by
    simp only [finIO] at h
    obtain ⟨hb, h⟩ := cond_some h
    split at h
    · rename_i d ed
      obtain rfl := Option.some.inj h
      exact ⟨rfl, hb, ed⟩
    · cases h
theorem wrIO_some : ∀ (io : IO) (i : Nat) {d : denS (shpS io i)} {k : Nat}, k < io.length → ∃ c, (wrIO io i d)[k]? = some (some c)
  | [], _, _, _, h => by simp at h
  | c0 :: l, i, d, 0, _ => ⟨_, rfl⟩
  | c0 :: l, i, d, k + 1, h => by
    obtain ⟨c, e⟩ := wrIO_some l (i + 1) (d := d.2) (k := k) (by simpa using h)
    exact ⟨c, e⟩
theorem wr_app {l : List (Option SlotC)} {n k : Nat} {c : SlotC} (h : ((l ++ List.replicate n none)[k]?).bind id = some c) : l[k]? = some (some c) := by
  obtain ⟨oc, h1, h2⟩ := Option.bind_eq_some_iff.1 h
  have h2 : oc = some c := h2
  subst h2
  by_cases hk : k < l.length
  · rwa [List.getElem?_append_left hk] at h1
  · rw [List.getElem?_append_right (by omega), List.getElem?_replicate] at h1
    split at h1 <;> simp at h1
theorem fs_gen (hT : TTok E) (hE : EnvOK E) {s : FS} {fn : Func} {body : Code} {L : List Spec} {n : Nat} {h : Hint} {rs : List RV} (hf : E.P.funcs[s.f]? = some fn) (hb : fn.body = some body) (hname : (fn.name == "runtime.NumGoroutine") = false) (hres : fn.results = (rs.map RV.to).toArray)
    (hnt : fn.ntmps = nt) (hlen : s.as.length ≤ nt) (hio : E.io = s.io.length) (hns : (s.io ++ s.own).length ≤ ns) (hL : LoopsOK E ns nt L n body) {B : Type} {E0 : denT (denIO (s.io ++ s.own)) (shp s.as 0) → B → Sm} {cond : denT (denIO (s.io ++ s.own)) (shp s.as 0) → B → Prop}
    (hE0 : ∀ d b, (E0 d b).look = (ent ns nt s.as (s.io ++ s.own) d).look ∧ (E0 d b).ns = ns ∧ (E0 d b).nt = nt)
    (hent : ∀ d {Z : Bs} {w : World} {hdr : Nat → Value} {fp : Nat → Bs} {val : Nat → Value}, (∀ i, RelV Z w (ent ns nt s.as (s.io ++ s.own) d).look hdr fp ((ent ns nt s.as (s.io ++ s.own) d).tm i) (val i)) → ∃ b, cond d b ∧ ∀ i, RelV Z w (ent ns nt s.as (s.io ++ s.own) d).look hdr fp ((E0 d b).tm i) (val i))
    (hM : ∀ d b r, cond d b → s.M d = some r → evC E L n h body [] (E0 d b) (finR E s.t s.m s.io rs) = some r) : s.OK E.P := by
  intro arg ios c hc
  simp only [FS.res] at hc
  split at hc
  · rename_i z hz0
    split at hc
    · rename_i d hd
      obtain rfl := Option.some.inj hc
      refine ⟨⟨fn, hf, by rw [hb]; rfl, hname⟩, fun r hr Z w hdr fp vs HC hfpk hA => ?_⟩
      simp only at hr
      obtain ⟨hil, hmk⟩ := rdIO_mk (ns := ns) (s.io ++ s.own) 0 hz0
      rw [hil] at hA
      have hrest := raL_rest s.as 0 hd
      have hslk : ∀ k, k < (s.io ++ s.own).length → ∃ S, (ent ns nt s.as (s.io ++ s.own) d).look k = some S := fun k hk => (mkS_ns (shpS (s.io ++ s.own) 0)).2 (Nat.lt_of_lt_of_le hk hns)
      obtain ⟨hl, hg⟩ := raL_ok hslk s.as 0 (fp := fp) hd hA
      refine calls_of_wp hf hb ?_
      let Z0 : Ctx E.io := ⟨Z, fun b => ∃ k, fp k b, hdr⟩
      have hcont : ∀ s0 hv cv c, (ent ns nt s.as (s.io ++ s.own) d).look s0 = some ⟨hv, cv, some c⟩ → ioSl ios s0 = some ⟨0, 0, some c⟩ := fun s0 hv cv c h => by
        simp only [ent, hrest] at h
        obtain ⟨k, e1, e2⟩ := hmk s0 hv cv c h
        rw [Nat.zero_add] at e1
        subst e1
        simp only [ioSl, e2, Option.map_some]
      have hrel : Rel Z0 w ns nt (ent ns nt s.as (s.io ++ s.own) d) { tmps := vs.toArray ++ Array.replicate (fn.ntmps - vs.toArray.size) undef, defers := [] } w := by
        refine ⟨Z, hdr, fp, ⟨fun s hv cv c h => ?_, fun s hv cv c h => ?_, HC.disj, HC.lt, HC.zlt, HC.dz⟩, ⟨fun _ h => h, fun b hb hf => ⟨rfl, fun s h => hf ⟨s, h⟩, fun h => h⟩, Nat.le_refl _, rfl, rfl, rfl⟩, ⟨fun s hs => (mkS_ns _).1 hs, fun k hk => ?_⟩, fun i => ?_, ?_, rfl, rfl, rfl⟩
        · exact HC.rep _ _ _ _ (hcont s hv cv c h)
        · exact HC.shape _ _ _ _ (hcont s hv cv c h)
        · rw [hio] at hk
          obtain ⟨S, hS⟩ := hslk k (by rw [List.length_append]; omega)
          exact ⟨S, hS, mkS_hv _ hS, fun _ _ => rfl⟩
        · have hgi := hg i
          rw [Nat.zero_add] at hgi
          simp only [Act.eval, Array.getD_eq_getD_getElem?, Array.getElem?_append, List.size_toArray]
          by_cases hi : i < vs.length
          · rw [if_pos hi]
            have e : vs[i]? = some vs[i] := List.getElem?_eq_getElem hi
            rw [List.getElem?_toArray, e]
            exact (hgi _).2.1 e
          · exact .inl ((hgi undef).2.2 (List.getElem?_eq_none (Nat.le_of_not_lt hi)))
        · simp only [ent, Array.size_append, List.size_toArray, Array.size_replicate]
          omega
      have hrel0 : ∃ b, cond d b ∧ Rel Z0 w ns nt (E0 d b) { tmps := vs.toArray ++ Array.replicate (fn.ntmps - vs.toArray.size) undef, defers := [] } w := by
        obtain ⟨Z1, hdr1, fp1, H1, F1, hn1, ht, hs, hdf, g1, g2⟩ := hrel
        obtain ⟨b, hb, ht'⟩ := hent d (val := fun i => Act.eval { tmps := vs.toArray ++ Array.replicate (fn.ntmps - vs.toArray.size) undef, defers := [] } (.tmp i)) ht
        obtain ⟨e1, e2, e3⟩ := hE0 d b
        refine ⟨b, hb, Z1, hdr1, fp1, by rw [e1]; exact H1, F1, ⟨fun s hs => by rw [e1]; exact hn1.1 s (by rw [e2] at hs; exact hs), by rw [e1]; exact hn1.2⟩, fun i => by rw [e1]; exact ht' i, by rw [e3]; exact hs, hdf, e2, e3⟩
      obtain ⟨b0, hb0, hrel⟩ := hrel0
      refine evC_ok hT hE hL (SizeOf.sizeOf body) h body (Nat.le_refl _) (ps := []) rfl (hM d b0 r hb0 hr) hrel (fun e st' a' w' hk hr' => ?_)
      obtain ⟨Z1, hdr1, fp1, H1, F1, hn1, ht, _, hdf, _, _⟩ := hr'
      have fin : finR E s.t s.m s.io rs .ret st' = some r → ∃ v, (results fn a'.tmps).run E.P w' = .ok v w' ∧ ∃ Z' fp' F us, CallPost Z w hdr fp ios s.t s.m (out1 s.io r) (wrIO s.io 0 (out2 s.io r) ++ List.replicate s.own.length none) (.returned v) w' Z' fp' F us := by
        intro hx
        simp only [finR] at hx
        split at hx
        · rename_i x lk hx0
          obtain ⟨rfl, g2, g3⟩ := finIO_ok hx
          obtain ⟨Z2, fp2, F, vs2, H2, T2, V2, R2, hand, _⟩ := retTake_ok hT (val := fun i => a'.eval (.tmp i)) hx0 H1 ht
          have F2 := F1.trans H2 T2
          obtain ⟨w1, w2⟩ := rdS_wr s.io 0 g3
          have there : ∀ k c, (wrIO s.io 0 (out2 s.io r))[k]? = some (some c) → ∃ hv cv, lk k = some ⟨hv, cv, some c⟩ ∧ hdr1 k = hdr k := fun k c hk => by
            obtain ⟨hv, cv, e⟩ := w2 k c hk
            rw [Nat.zero_add] at e
            have hlt : k < s.io.length := by rw [← w1]; exact (List.getElem?_eq_some_iff.1 hk).1
            obtain ⟨S', g4, g5⟩ := hv0_ok s.io 0 g2 k hlt
            rw [Nat.zero_add, e] at g4
            obtain rfl := Option.some.inj g4
            obtain ⟨S, p1, p2, p3⟩ := hn1.2 k (by rw [hio]; exact hlt)
            obtain ⟨S2, q1, q2⟩ := T2.slot k S p1
            rw [e] at q1; obtain rfl := Option.some.inj q1
            refine ⟨hv, cv, e, ?_⟩
            rcases q2 with q | ⟨_, _, q⟩ | ⟨_, _, q⟩
            · simp only at q g5; omega
            · obtain ⟨⟨c1, hc1⟩, _⟩ := q c rfl; exact p3 c1 hc1
            · obtain ⟨c1, hc1, _⟩ := q c rfl; exact p3 c1 hc1
          refine ⟨_, results_ok hres V2, Z2, fun k b => k < s.io.length ∧ fp2 k b, F, _, rfl, fun b hb hk => (F2.old b hb (fun ⟨k, h⟩ => hk k h)).1, F2.size, F2.os, F2.tape, F2.output, F2.z, fun b hb => ⟨H2.zlt b hb, ?_⟩, fun b hb => ?_, fun k b hk => ?_, by rw [List.length_append, w1, List.length_replicate, hil, List.length_append], ?_, R2⟩
          · by_cases hlt : b < w.heap.size
            · by_cases hf : ∃ k, fp k b
              · exact .inr (.inl hf)
              · exact .inl ((F2.old b hlt hf).2.2 hb)
            · exact .inr (.inr hlt)
          · obtain ⟨q, _, _, q1, q2⟩ := hand b hb
            refine ⟨?_, H2.lt q b q1, H2.dz q b q1, fun k hk => ?_⟩
            · by_cases hlt : b < w.heap.size
              · by_cases hf : ∃ k, fp k b
                · exact .inl hf
                · exact ((F2.old b hlt hf).2.1 q q1).elim
              · exact .inr hlt
            · obtain rfl := H2.disj _ _ _ hk.2 q1
              obtain ⟨c, hc⟩ : ∃ c, (wrIO s.io 0 (out2 s.io r))[k]? = some (some c) := wrIO_some s.io 0 hk.1
              obtain ⟨hv, cv, e, _⟩ := there k c hc
              exact q2 hv cv c e
          · refine ⟨by rw [hil, List.length_append]; exact Nat.lt_of_lt_of_le hk.1 (Nat.le_add_right _ _), ?_⟩
            by_cases hlt : b < w.heap.size
            · by_cases hf : ∃ k, fp k b
              · exact .inl hf
              · exact ((F2.old b hlt hf).2.1 k hk.2).elim
            · exact .inr hlt
          · refine ⟨fun k hv cv c h => ?_, fun k hv cv c h => ?_, fun k k' b h h' => H2.disj _ _ _ h.2 h'.2, fun k b h => H2.lt _ _ h.2, H2.zlt, fun k b h => H2.dz _ _ h.2⟩
            · simp only [ioSlO, Option.map_eq_some_iff] at h
              obtain ⟨c', h1, h2⟩ := h
              simp only [Slot.mk.injEq, Option.some.injEq] at h2
              obtain ⟨_, _, rfl⟩ := h2
              have h1 := wr_app h1
              obtain ⟨hv, cv, e, e2⟩ := there k _ h1
              have := H2.rep k _ _ _ e
              rw [e2] at this
              exact this.mono (fun b hb => ⟨by rw [← w1]; exact (List.getElem?_eq_some_iff.1 h1).1, hb⟩)
            · simp only [ioSlO, Option.map_eq_some_iff] at h
              obtain ⟨c', h1, h2⟩ := h
              simp only [Slot.mk.injEq, Option.some.injEq] at h2
              obtain ⟨_, _, rfl⟩ := h2
              have h1 := wr_app h1
              obtain ⟨hv, cv, e, e2⟩ := there k _ h1
              exact H2.shape k _ _ _ e
        · cases hx
      cases e with
      | normal => exact ⟨hdf, fin hk⟩
      | ret => exact ⟨hdf, fin hk⟩
      | _ => cases hk
    · cases hc
  · cases hc
theorem fs_ok (hT : TTok E) (hE : EnvOK E) {s : FS} {fn : Func} {body : Code} {L : List Spec} {n : Nat} {h : Hint} {rs : List RV} (hf : E.P.funcs[s.f]? = some fn) (hb : fn.body = some body) (hname : (fn.name == "runtime.NumGoroutine") = false) (hres : fn.results = (rs.map RV.to).toArray)
    (hnt : fn.ntmps = nt) (hlen : s.as.length ≤ nt) (hio : E.io = s.io.length) (hns : (s.io ++ s.own).length ≤ ns) (hL : LoopsOK E ns nt L n body) (hM : ∀ d, evC E L n h body [] (ent ns nt s.as (s.io ++ s.own) d) (finR E s.t s.m s.io rs) = s.M d) : s.OK E.P :=
  fs_gen hT hE hf hb hname hres hnt hlen hio hns hL (B := Unit) (E0 := fun d _ => ent ns nt s.as (s.io ++ s.own) d) (cond := fun _ _ => True) (fun _ _ => ⟨rfl, rfl, rfl⟩) (fun _ _ _ _ _ _ h => ⟨(), trivial, h⟩) (fun d _ r _ hr => (hM d).trans hr)
/-- The same, where it is asked whether the first argument is nil. -/
def entN (ns nt : Nat) (t : Ty) (as : List MS) (io : IO) (d : denT (denIO io) (shp (.val (.sl t) :: as) 0)) (b : Bool) : Sm :=
  ⟨fun i => bif Nat.beq i 0 then .nv t d.1 b else mkT (shp as 1) d.2 (fun _ _ => .dead) i, mkS ns (shpS io 0) (restT (shp (.val (.sl t) :: as) 0) d), ns, nt⟩
theorem fs_okN (hT : TTok E) (hE : EnvOK E) {f : FuncId} {t T : Ty} {as : List MS} {io own : IO} {m : Mk} {M : denT (denIO (io ++ own)) (shp (.val (.sl t) :: as) 0) → Option (outD T.den io)} {fn : Func} {body : Code} {L : List Spec} {n : Nat} {h : Hint} {rs : List RV} (hf : E.P.funcs[f]? = some fn) (hb : fn.body = some body) (hname : (fn.name == "runtime.NumGoroutine") = false) (hres : fn.results = (rs.map RV.to).toArray)
    (hnt : fn.ntmps = nt) (hlen : as.length + 1 ≤ nt) (hio : E.io = io.length) (hns : (io ++ own).length ≤ ns) (hL : LoopsOK E ns nt L n body)
    (hM : ∀ d b r, (b = true → d.1 = ([] : List t.den)) → M d = some r → evC E L n h body [] (entN ns nt t as (io ++ own) d b) (finR E T m io rs) = some r) : (FS.mk f (.val (.sl t) :: as) io own T m M).OK E.P := by
  refine fs_gen (s := FS.mk f (.val (.sl t) :: as) io own T m M) hT hE hf hb hname hres hnt hlen hio hns hL (B := Bool) (E0 := fun d b => entN ns nt t as (io ++ own) d b) (cond := fun d b => b = true → d.1 = ([] : List t.den)) (fun _ _ => ⟨rfl, rfl, rfl⟩) (fun d Z w hdr fp val hv => ?_) (fun d b r hb hr => hM d b r hb hr)
  have h0 := hv 0
  have h0 : RelV Z w (ent ns nt (.val (.sl t) :: as) (io ++ own) d).look hdr fp (.val (.sl t) d.1) (val 0) := h0
  rcases h0 with h0 | ⟨cs, hr, he⟩
  · cases h0
  have hr0 := hr
  obtain ⟨A, cap, rfl, hc, h2⟩ := hr
  refine ⟨A.isNone, fun hA => ?_, fun i => ?_⟩
  · rcases h2 with h2 | ⟨b, o, h2, _⟩
    · exact h2
    · rw [h2] at hA; cases hA
  · by_cases e : i = 0
    · subst e
      exact .inr ⟨_, ⟨hr0, fun A' l c hA => by
        simp only [List.cons.injEq, Value.slice.injEq, and_true] at hA
        rw [hA.1]⟩, he⟩
    · have := hv i
      simp only [ent, entN, shp, mkT] at this ⊢
      rw [beq_ne_ e] at this ⊢
      exact this
theorem fs_zero {P : Program} {s : FS} {fn : Func} {body : Code} (hf : P.funcs[s.f]? = some fn) (hb : fn.body = some body) (hname : (fn.name == "runtime.NumGoroutine") = false) (hM : ∀ d, s.M d = none) : s.OK P := by
  intro arg ios c hc
  simp only [FS.res] at hc
  split at hc
  · split at hc
    · rename_i d hd
      obtain rfl := Option.some.inj hc
      refine ⟨⟨fn, hf, by rw [hb]; rfl, hname⟩, fun r hr => ?_⟩
      simp only at hr
      rw [hM d] at hr; cases hr
    · cases hc
  · cases hc
end
end Go.Proofs.Ytibphkgcdnconaa.V
