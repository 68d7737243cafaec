/- Graphs: what Counts (walks counted forward) and edges come to. -/
import Derived.Test.YtcgnbmdhjehieaaPC
import Derived.Test.YtcgnbmdhjehieaaQReachx7
namespace Go.Proofs.Ytcgnbmdhjehieaa.PureC
open Go Go.RowKit Go.Proofs.Ytcgnbmdhjehieaa.QReach Go.Proofs.YtcgnbmdhjehieaaW.PrintWords Go.Proofs.YtcgnbmdhjehieaaW.PrintLast Go.Proofs.YtcgnbmdhjehieaaW.PrintMore Go.Proofs.YtcgnbmdhjehieaaX
open Classical
set_option linter.unusedVariables false
set_option linter.unusedSimpArgs false

theorem edges_loop (g : List (List Int)) (hs : Slim g) : ∀ (d u : Nat), u + d = g.length → Ev (fun k => commodatumlaw17_edges.l0 k g ((sumN u (fun u => (row g u).length) : Nat) : Int) (u : Int)) ((esum g : Nat) : Int) := by
  intro d
  have hg := hs.len
  induction d with
  | zero =>
    intro u hu
    have e : u = g.length := by omega
    subst e
    refine Ev.step (fun k => by rw [commodatumlaw17_edges.l0]) ?_
    exact Ev.neg (by omega) (Ev.now _)
  | succ d ih =>
    intro u hu
    have h1 := hs.row (show u < g.length by omega)
    have h2 : sumN (u + 1) (fun u => (row g u).length) ≤ esum g := by
      have : ∀ m, u + 1 ≤ m → sumN (u + 1) (fun u => (row g u).length) ≤ sumN m (fun u => (row g u).length) := by
        intro m hm
        induction m with
        | zero => omega
        | succ m ihm =>
          by_cases e : u + 1 = m + 1
          · rw [e]; exact Nat.le_refl _
          · have := ihm (by omega)
            rw [sumN.eq_def (m + 1)]
            simp only
            omega
      exact this _ (by omega)
    have h3 : esum g ≤ 2000 := by unfold Slim at hs; omega
    rw [sumN] at h2
    refine Ev.step (fun k => by rw [commodatumlaw17_edges.l0]) ?_
    refine Ev.pos (by omega) ?_
    refine Ev.pos (by omega) ?_
    rw [rd_row, up1 (by omega), w64 (by omega) (by omega)]
    have := ih (u + 1) (by omega)
    rw [sumN] at this
    rw [show ((sumN u (fun u => (row g u).length) : Nat) : Int) + ((row g u).length : Int) = ((sumN u (fun u => (row g u).length) + (row g u).length : Nat) : Int) by omega]
    exact this
theorem edges_ev (g : List (List Int)) (hs : Slim g) : Ev (fun k => commodatumlaw17_edges.f k g) ((esum g : Nat) : Int) := by
  unfold commodatumlaw17_edges.f
  have := edges_loop g hs g.length 0 (by omega)
  simpa [sumN] using this

/-! ### Counts -/
def fvec (g : List (List Int)) (s k : Nat) : List Int := tab g.length (fun v => ((min (Wk g k s v) C : Nat) : Int))
/-- Rows 0 to u - 1, and the first j elements of row u. -/
def fpre (g : List (List Int)) (s k u j v : Nat) : Nat := sumN u (fun w => min (Wk g k s w) C * Ad g w v) + min (Wk g k s u) C * ((rowN g u).take j).count v
def fst_ (g : List (List Int)) (s k u j : Nat) : List Int := tab g.length (fun v => ((min (fpre g s k u j v) C : Nat) : Int))
theorem fst_next (g : List (List Int)) (s k u : Nat) : fst_ g s k u (row g u).length = fst_ g s k (u + 1) 0 := by
  refine tab_congr (fun v _ => ?_)
  have : fpre g s k u (row g u).length v = fpre g s k (u + 1) 0 v := by
    unfold fpre
    rw [← rowN_len, List.take_length, sumN]
    simp [Ad]
  rw [this]
theorem fst_zero (g : List (List Int)) (s k : Nat) : fst_ g s k 0 0 = tab g.length (fun _ => 0) := by
  refine tab_congr (fun v _ => ?_)
  simp [fpre, sumN]
theorem sumN_cap (c n : Nat) (f a : Nat → Nat) : min (sumN n (fun w => min (f w) c * a w)) c = min (sumN n (fun w => f w * a w)) c := by
  induction n with
  | zero => rfl
  | succ n ih =>
    rw [sumN, sumN]
    by_cases h : f n ≤ c
    · rw [Nat.min_eq_left h]; omega
    · have e : min (f n) c = c := by omega
      rw [e]
      by_cases ha : a n = 0
      · rw [ha, Nat.mul_zero, Nat.mul_zero]; omega
      · have h1 : c ≤ c * a n := Nat.le_mul_of_pos_right _ (by omega)
        have h2 : f n ≤ f n * a n := Nat.le_mul_of_pos_right _ (by omega)
        omega
theorem fst_last {g : List (List Int)} (s k : Nat) (hs : s < g.length) : fst_ g s k g.length 0 = fvec g s (k + 1) := by
  refine tab_congr (fun v hv => ?_)
  have : fpre g s k g.length 0 v = sumN g.length (fun w => min (Wk g k s w) C * Ad g w v) := by
    unfold fpre; simp
  rw [this, sumN_cap]
  unfold Wk
  rw [M_last _ _ k s v hs hv]
theorem fpre_step {g : List (List Int)} (s k u j v : Nat) (hj : j < (row g u).length) : fpre g s k u (j + 1) v = fpre g s k u j v + (if v = (ent g u j).toNat then min (Wk g k s u) C else 0) := by
  unfold fpre
  have hl : j < (rowN g u).length := by rw [rowN_len]; exact hj
  rw [List.take_succ_eq_append_getElem hl, List.count_append]
  have : (rowN g u)[j]'hl = (ent g u j).toNat := by
    unfold ent
    rw [rd_lt hj]
    exact List.getElem_map _
  rw [this, List.count_singleton]
  by_cases h : v = (ent g u j).toNat
  · rw [if_pos h, h]; simp [Nat.mul_add]; omega
  · rw [if_neg h]
    have : ((ent g u j).toNat == v) = false := by simpa using fun h' => h h'.symm
    rw [this]; simp
theorem counts_l2 {g : List (List Int)} (hv : GV g) (s k u : Nat) (hu : u < g.length) (K : Int) (r) (hl : (row g u).length ≤ 2000)
    (hc : Ev (fun q => commodatumref17_Counts.l1 q g K (fvec g s k) (fst_ g s k (u + 1) 0) ((u + 1 : Nat) : Int)) r) :
    ∀ (d j : Nat), j + d = (row g u).length → Ev (fun q => commodatumref17_Counts.l2 q g K (fvec g s k) (fst_ g s k u j) (u : Int) (j : Int)) r := by
  have hn := hv.2.1
  intro d
  induction d with
  | zero =>
    intro j hj
    refine Ev.step (fun k => by rw [commodatumref17_Counts.l2]) ?_
    refine Ev.pos (by omega) ?_
    refine Ev.pos (by omega) ?_
    refine Ev.neg (by rw [rd_row]; omega) ?_
    have e : j = (row g u).length := by omega
    subst e
    rw [fst_next, up1 (by omega)]
    exact hc
  | succ d ih =>
    intro j hj
    have he := hv.ent hu (show j < (row g u).length by omega)
    have hen : rd (row g u) (j : Int) = (((ent g u j).toNat : Nat) : Int) := by have := he.1; unfold ent at this ⊢; omega
    have hlt : (ent g u j).toNat < g.length := by omega
    refine Ev.step (fun k => by rw [commodatumref17_Counts.l2]) ?_
    refine Ev.pos (by omega) ?_
    refine Ev.pos (by omega) ?_
    refine Ev.pos (by rw [rd_row]; omega) ?_
    refine Ev.pos (by omega) ?_
    rw [rd_row, hen]
    refine Ev.pos (by omega) ?_
    refine Ev.pos (by simp [fst_]; omega) ?_
    refine Ev.pos (by simp [fvec]; omega) ?_
    have e1 : rd (fst_ g s k u j) (((ent g u j).toNat : Nat) : Int) = ((min (fpre g s k u j (ent g u j).toNat) C : Nat) : Int) := by
      unfold fst_; rw [rd_tab hlt]
    have e2 : rd (fvec g s k) (u : Int) = ((min (Wk g k s u) C : Nat) : Int) := by
      unfold fvec; rw [rd_tab hu]
    have e3 : (fst_ g s k u j).set (((ent g u j).toNat : Nat) : Int).toNat (mn (wrap64 (rd (fst_ g s k u j) (((ent g u j).toNat : Nat) : Int) + rd (fvec g s k) (u : Int))) 1099511627777) = fst_ g s k u (j + 1) := by
      rw [e1, e2, w64 (by unfold C; omega) (by unfold C; omega), mn_eq, Int.toNat_natCast]
      unfold fst_
      rw [tab_set]
      refine tab_congr (fun v _ => ?_)
      rw [fpre_step s k u j v (by omega)]
      by_cases h2 : v = (ent g u j).toNat
      · rw [if_pos h2, if_pos h2, ← h2]
        unfold C; omega
      · rw [if_neg h2, if_neg h2, Nat.add_zero]
    rw [e3, up1 (by omega)]
    exact ih (j + 1) (by omega)
theorem counts_l1 {g : List (List Int)} (hv : GV g) (hs : Slim g) (s k : Nat) (hsn : s < g.length) (K : Int) (r)
    (hc : Ev (fun q => commodatumref17_Counts.l0 q g (wrap64 (K - 1)) (fvec g s (k + 1))) r) :
    ∀ (d u : Nat), u + d = g.length → Ev (fun q => commodatumref17_Counts.l1 q g K (fvec g s k) (fst_ g s k u 0) (u : Int)) r := by
  have hn := hv.2.1
  intro d
  induction d with
  | zero =>
    intro u hu
    refine Ev.step (fun k => by rw [commodatumref17_Counts.l1]) ?_
    refine Ev.neg (by omega) ?_
    have e : u = g.length := by omega
    subst e
    rw [fst_last s k hsn]
    exact hc
  | succ d ih =>
    intro u hu
    refine Ev.step (fun k => by rw [commodatumref17_Counts.l1]) ?_
    refine Ev.pos (by omega) ?_
    exact counts_l2 hv s k u (by omega) K r (hs.row (by omega)) (ih (u + 1) (by omega)) (row g u).length 0 (by omega)
theorem counts_l0 {g : List (List Int)} (hv : GV g) (hs : Slim g) (s : Nat) (hsn : s < g.length) : ∀ (d k : Nat), d ≤ 4611686018427387904 →
    Ev (fun q => commodatumref17_Counts.l0 q g (d : Int) (fvec g s k)) (fvec g s (k + d)) := by
  have hn := hv.2.1
  intro d
  induction d with
  | zero =>
    intro k _
    refine Ev.step (fun k => by rw [commodatumref17_Counts.l0]) ?_
    exact Ev.neg (by omega) (Ev.now _)
  | succ d ih =>
    intro k hd
    refine Ev.step (fun k => by rw [commodatumref17_Counts.l0]) ?_
    refine Ev.pos (by omega) ?_
    refine Ev.pos (by omega) ?_
    refine Ev.pos (by omega) ?_
    rw [Int.toNat_natCast, replicate_tab, ← fst_zero g s k]
    refine counts_l1 hv hs s k hsn _ _ ?_ g.length 0 (by omega)
    rw [w64 (by omega) (by omega), show ((d + 1 : Nat) : Int) - 1 = (d : Int) by omega, show k + (d + 1) = k + 1 + d by omega]
    exact ih (k + 1) (by omega)
theorem counts_ev {g : List (List Int)} (hv : GV g) (hs : Slim g) {s : Nat} (hsn : s < g.length) {K : Nat} (hK : K ≤ 4611686018427387904) :
    Ev (fun q => commodatumref17_Counts.f q g (s : Int) (K : Int)) (fvec g s K) := by
  have hn := hv.2.1
  unfold commodatumref17_Counts.f
  refine Ev.pos (by omega) ?_
  refine Ev.pos (by omega) ?_
  refine Ev.sb ?_
  refine Ev.pos (by omega) ?_
  refine Ev.pos (by simp; omega) ?_
  rw [Int.toNat_natCast, Int.toNat_natCast, replicate_tab, tab_set]
  have := counts_l0 hv hs s hsn K 0 hK
  rw [Nat.zero_add] at this
  rw [show tab g.length (fun j => if j = s then (1 : Int) else 0) = fvec g s 0 from tab_congr (fun x _ => by
    unfold Wk
    by_cases e : x = s
    · simp [e, M, C]
    · rw [if_neg e]
      show (0 : Int) = ((min (if s = x then 1 else 0) C : Nat) : Int)
      rw [if_neg (fun h => e h.symm)]; simp)]
  exact this
end Go.Proofs.Ytcgnbmdhjehieaa.PureC
