/- Functions of the program as Lean functions, and proofs that the calls come to them (written by xprint.py, this session's program, over the kit's print). -/
import Derived.Test.YtibphkgcdnconaaQMonx0
import Derived.Test.YtibphkgcdnconaaQMonx1
import Derived.Test.YtibphkgcdnconaaQMonx2
import Derived.Test.YtibphkgcdnconaaQMonx6
import Derived.Test.YtibphkgcdnconaaQMonx12
namespace Go.Proofs.Ytibphkgcdnconaa.QMon
open Go.RowKit Go.Proofs.YtibphkgcdnconaaW.PrintWords Go.Proofs.YtibphkgcdnconaaW.PrintLast Go.Proofs.YtibphkgcdnconaaW.PrintMore Go.Proofs.YtibphkgcdnconaaX
attribute [local go_sem] max2_int min2_int max_two min_two max_three min_three max_four min_four   -- for this text's walks alone
set_option linter.unusedVariables false
set_option linter.unusedSimpArgs false

/-! ### commodatumlaw10_MonoidParts: function 3 -/
mutual
def commodatumlaw10_MonoidParts.j0 : Nat → List (List Int) → Bool → Option (Bool)
 | 0, _, _ => none
 | k + 1, x0, x24 => if x24 = true then ((commodatumlaw10_Awake.f k).bind fun t304 => (some t304)) else ((commodatumlaw10_Copy.f k x0).bind fun t305 => ((monoid_Groups.f k t305).bind fun bt308 => (if bt308.2 = 0 then (if 0 ≤ (x0.length : Int) then (if ((x0.length : Int) : Int).toNat ≤ 35184372088832 then (commodatumlaw10_MonoidParts.l0 k x0 bt308.1 (List.replicate ((x0.length : Int) : Int).toNat 0) 0 0) else (none)) else (none)) else (none))))
def commodatumlaw10_MonoidParts.l0 : Nat → List (List Int) → List (List Int) → List Int → Int → Int → Option (Bool)
 | 0, _, _, _, _, _ => none
 | k + 1, x0, x3, x5, x6, x7 => if x7 < (x0.length : Int) then (if 0 ≤ x7 then (if x7 < ((rd_L1 x0 x7).length : Int) then (if (rd (rd_L1 x0 x7) x7) = x7 then (commodatumlaw10_MonoidParts.l0 k x0 x3 x5 (wrap64 (x6 + 1)) (wrap64 (x7 + 1))) else (commodatumlaw10_MonoidParts.l0 k x0 x3 x5 x6 (wrap64 (x7 + 1)))) else (none)) else (none)) else (commodatumlaw10_MonoidParts.l1 k x0 x3 x5 x6 0)
def commodatumlaw10_MonoidParts.l1 : Nat → List (List Int) → List (List Int) → List Int → Int → Int → Option (Bool)
 | 0, _, _, _, _, _ => none
 | k + 1, x0, x3, x5, x6, x8 => if x8 < (x3.length : Int) then (commodatumlaw10_MonoidParts.l2 k x0 x3 x5 x6 x8 (-1) 0) else (commodatumlaw10_MonoidParts.l5 k x0 x3 x5 x6 0)
def commodatumlaw10_MonoidParts.l2 : Nat → List (List Int) → List (List Int) → List Int → Int → Int → Int → Int → Option (Bool)
 | 0, _, _, _, _, _, _, _ => none
 | k + 1, x0, x3, x5, x6, x8, x9, x10 => if 0 ≤ x8 then (if x8 < (x3.length : Int) then (if x10 < ((rd_L1 x3 x8).length : Int) then (if 0 ≤ x10 then (if (rd (rd_L1 x3 x8) x10) < 0 then (commodatumlaw10_MonoidParts.j4 k x0 x3 x5 x6 x8 x9 x10 (rd (rd_L1 x3 x8) x10) true) else (if (rd (rd_L1 x3 x8) x10) ≥ (x0.length : Int) then (commodatumlaw10_MonoidParts.j4 k x0 x3 x5 x6 x8 x9 x10 (rd (rd_L1 x3 x8) x10) true) else (if x10 > 0 then (if 0 ≤ (wrap64 (x10 - 1)) then (if (wrap64 (x10 - 1)) < ((rd_L1 x3 x8).length : Int) then (commodatumlaw10_MonoidParts.j4 k x0 x3 x5 x6 x8 x9 x10 (rd (rd_L1 x3 x8) x10) (decide ((rd (rd_L1 x3 x8) x10) ≤ (rd (rd_L1 x3 x8) (wrap64 (x10 - 1)))))) else (none)) else (none)) else (commodatumlaw10_MonoidParts.j4 k x0 x3 x5 x6 x8 x9 x10 (rd (rd_L1 x3 x8) x10) false)))) else (none)) else (if x9 < 0 then (none) else (commodatumlaw10_MonoidParts.l3 k x0 x3 x5 x6 x8 x9 0))) else (none)) else (none)
def commodatumlaw10_MonoidParts.j4 : Nat → List (List Int) → List (List Int) → List Int → Int → Int → Int → Int → Int → Bool → Option (Bool)
 | 0, _, _, _, _, _, _, _, _, _ => none
 | k + 1, x0, x3, x5, x6, x8, x9, x10, x11, x99 => if x99 = true then (none) else (if 0 ≤ x11 then (if x11 < (x5.length : Int) then ((some (x5.set (x11 : Int).toNat (wrap64 ((rd x5 x11) + 1)) : List Int)).bind fun y323 => (if x11 < (x0.length : Int) then (if x11 < ((rd_L1 x0 x11).length : Int) then (if (rd (rd_L1 x0 x11) x11) = x11 then (if x9 ≥ 0 then (none) else (commodatumlaw10_MonoidParts.l2 k x0 x3 y323 x6 x8 x11 (wrap64 (x10 + 1)))) else (commodatumlaw10_MonoidParts.l2 k x0 x3 y323 x6 x8 x9 (wrap64 (x10 + 1)))) else (none)) else (none))) else (none)) else (none))
def commodatumlaw10_MonoidParts.l3 : Nat → List (List Int) → List (List Int) → List Int → Int → Int → Int → Int → Option (Bool)
 | 0, _, _, _, _, _, _, _ => none
 | k + 1, x0, x3, x5, x6, x8, x9, x12 => if 0 ≤ x8 then (if x8 < (x3.length : Int) then (if x12 < ((rd_L1 x3 x8).length : Int) then (if 0 ≤ x12 then (commodatumlaw10_MonoidParts.l4 k x0 x3 x5 x6 x8 x9 x12 (rd (rd_L1 x3 x8) x12) false 0) else (none)) else (commodatumlaw10_MonoidParts.l1 k x0 x3 x5 x6 (wrap64 (x8 + 1)))) else (none)) else (none)
def commodatumlaw10_MonoidParts.l4 : Nat → List (List Int) → List (List Int) → List Int → Int → Int → Int → Int → Int → Bool → Int → Option (Bool)
 | 0, _, _, _, _, _, _, _, _, _, _ => none
 | k + 1, x0, x3, x5, x6, x8, x9, x12, x13, x14, x15 => if 0 ≤ x8 then (if x8 < (x3.length : Int) then (if x15 < ((rd_L1 x3 x8).length : Int) then (if 0 ≤ x15 then (if 0 ≤ x13 then (if x13 < (x0.length : Int) then (if 0 ≤ (rd (rd_L1 x3 x8) x15) then (if (rd (rd_L1 x3 x8) x15) < ((rd_L1 x0 x13).length : Int) then ((commodatumref10_In.f k (rd_L1 x3 x8) (rd (rd_L1 x0 x13) (rd (rd_L1 x3 x8) x15))).bind fun t339 => (if t339 = true then (if x14 = true then (commodatumlaw10_MonoidParts.l4 k x0 x3 x5 x6 x8 x9 x12 x13 true (wrap64 (x15 + 1))) else (if (rd (rd_L1 x0 x13) (rd (rd_L1 x3 x8) x15)) = x9 then (if (rd (rd_L1 x3 x8) x15) < (x0.length : Int) then (if x13 < ((rd_L1 x0 (rd (rd_L1 x3 x8) x15)).length : Int) then (commodatumlaw10_MonoidParts.l4 k x0 x3 x5 x6 x8 x9 x12 x13 ((rd (rd_L1 x0 (rd (rd_L1 x3 x8) x15)) x13) == x9) (wrap64 (x15 + 1))) else (none)) else (none)) else (commodatumlaw10_MonoidParts.l4 k x0 x3 x5 x6 x8 x9 x12 x13 false (wrap64 (x15 + 1))))) else (none))) else (none)) else (none)) else (none)) else (none)) else (none)) else (if x14 = true then (if 0 ≤ x13 then (if x13 < (x0.length : Int) then (if 0 ≤ x9 then (if x9 < ((rd_L1 x0 x13).length : Int) then (if (rd (rd_L1 x0 x13) x9) = x13 then (if x9 < (x0.length : Int) then (if x13 < ((rd_L1 x0 x9).length : Int) then (if (rd (rd_L1 x0 x9) x13) = x13 then (commodatumlaw10_MonoidParts.l3 k x0 x3 x5 x6 x8 x9 (wrap64 (x12 + 1))) else (none)) else (none)) else (none)) else (none)) else (none)) else (none)) else (none)) else (none)) else (none))) else (none)) else (none)
def commodatumlaw10_MonoidParts.l5 : Nat → List (List Int) → List (List Int) → List Int → Int → Int → Option (Bool)
 | 0, _, _, _, _, _ => none
 | k + 1, x0, x3, x5, x6, x17 => if x17 < (x0.length : Int) then (if 0 ≤ x17 then (if x17 < (x5.length : Int) then (if (rd x5 x17) > 1 then (none) else (commodatumlaw10_MonoidParts.l5 k x0 x3 x5 x6 (wrap64 (x17 + 1)))) else (none)) else (none)) else (if (x3.length : Int) = x6 then ((commodatumlaw10_Awake.f k).bind fun t345 => (some t345)) else (none))
end
def commodatumlaw10_MonoidParts.f (k : Nat) (l0 : List (List Int)) : Option (Bool) := (commodatumlaw10_Wide.f k l0).bind fun t302 => (if t302 = true then (commodatumlaw10_MonoidParts.j0 k l0 true) else ((commodatumref10_Valid.f k l0).bind fun t303 => (commodatumlaw10_MonoidParts.j0 k l0 (!t303))))
theorem commodatumlaw10_MonoidParts.mono_l : ∀ k, (∀ y0 y1, LeO (commodatumlaw10_MonoidParts.j0 k y0 y1) (commodatumlaw10_MonoidParts.j0 (k + 1) y0 y1)) ∧ (∀ y0 y1 y2 y3 y4, LeO (commodatumlaw10_MonoidParts.l0 k y0 y1 y2 y3 y4) (commodatumlaw10_MonoidParts.l0 (k + 1) y0 y1 y2 y3 y4)) ∧ (∀ y0 y1 y2 y3 y4, LeO (commodatumlaw10_MonoidParts.l1 k y0 y1 y2 y3 y4) (commodatumlaw10_MonoidParts.l1 (k + 1) y0 y1 y2 y3 y4)) ∧ (∀ y0 y1 y2 y3 y4 y5 y6, LeO (commodatumlaw10_MonoidParts.l2 k y0 y1 y2 y3 y4 y5 y6) (commodatumlaw10_MonoidParts.l2 (k + 1) y0 y1 y2 y3 y4 y5 y6)) ∧ (∀ y0 y1 y2 y3 y4 y5 y6 y7 y8, LeO (commodatumlaw10_MonoidParts.j4 k y0 y1 y2 y3 y4 y5 y6 y7 y8) (commodatumlaw10_MonoidParts.j4 (k + 1) y0 y1 y2 y3 y4 y5 y6 y7 y8)) ∧ (∀ y0 y1 y2 y3 y4 y5 y6, LeO (commodatumlaw10_MonoidParts.l3 k y0 y1 y2 y3 y4 y5 y6) (commodatumlaw10_MonoidParts.l3 (k + 1) y0 y1 y2 y3 y4 y5 y6)) ∧ (∀ y0 y1 y2 y3 y4 y5 y6 y7 y8 y9, LeO (commodatumlaw10_MonoidParts.l4 k y0 y1 y2 y3 y4 y5 y6 y7 y8 y9) (commodatumlaw10_MonoidParts.l4 (k + 1) y0 y1 y2 y3 y4 y5 y6 y7 y8 y9)) ∧ (∀ y0 y1 y2 y3 y4, LeO (commodatumlaw10_MonoidParts.l5 k y0 y1 y2 y3 y4) (commodatumlaw10_MonoidParts.l5 (k + 1) y0 y1 y2 y3 y4))
 | 0 => ⟨fun _ _ r h => by simp [commodatumlaw10_MonoidParts.j0] at h, fun _ _ _ _ _ r h => by simp [commodatumlaw10_MonoidParts.l0] at h, fun _ _ _ _ _ r h => by simp [commodatumlaw10_MonoidParts.l1] at h, fun _ _ _ _ _ _ _ r h => by simp [commodatumlaw10_MonoidParts.l2] at h, fun _ _ _ _ _ _ _ _ _ r h => by simp [commodatumlaw10_MonoidParts.j4] at h, fun _ _ _ _ _ _ _ r h => by simp [commodatumlaw10_MonoidParts.l3] at h, fun _ _ _ _ _ _ _ _ _ _ r h => by simp [commodatumlaw10_MonoidParts.l4] at h, fun _ _ _ _ _ r h => by simp [commodatumlaw10_MonoidParts.l5] at h⟩
 | k + 1 => by
  obtain ⟨ih0, ih1, ih2, ih3, ih4, ih5, ih6, ih7⟩ := commodatumlaw10_MonoidParts.mono_l k
  refine ⟨?_, ?_, ?_, ?_, ?_, ?_, ?_, ?_⟩
  ·intro y0 y1
   unfold commodatumlaw10_MonoidParts.j0
   repeat' first
   | (with_reducible exact ih0 _ _)
   | (with_reducible exact ih1 _ _ _ _ _)
   | (with_reducible exact ih2 _ _ _ _ _)
   | (with_reducible exact ih3 _ _ _ _ _ _ _)
   | (with_reducible exact ih4 _ _ _ _ _ _ _ _ _)
   | (with_reducible exact ih5 _ _ _ _ _ _ _)
   | (with_reducible exact ih6 _ _ _ _ _ _ _ _ _ _)
   | (with_reducible exact ih7 _ _ _ _ _)
   | (with_reducible exact commodatumlaw10_Awake.mono _)
   | (with_reducible exact commodatumlaw10_Copy.mono _ _)
   | (with_reducible exact commodatumlaw10_Wide.mono _ _)
   | (with_reducible exact commodatumref10_In.mono _ _ _)
   | (with_reducible exact commodatumref10_Valid.mono _ _)
   | (with_reducible exact monoid_Groups.mono _ _)
   | (with_reducible exact LeO.refl _)
   | (with_reducible exact LeO.none _)
   | (with_reducible refine LeO.ite ?_ ?_)
   | (with_reducible refine LeO.bind ?_ (fun _ => ?_))
   | exact ih0 _ _
   | exact ih1 _ _ _ _ _
   | exact ih2 _ _ _ _ _
   | exact ih3 _ _ _ _ _ _ _
   | exact ih4 _ _ _ _ _ _ _ _ _
   | exact ih5 _ _ _ _ _ _ _
   | exact ih6 _ _ _ _ _ _ _ _ _ _
   | exact ih7 _ _ _ _ _
   | exact commodatumlaw10_Awake.mono _
   | exact commodatumlaw10_Copy.mono _ _
   | exact commodatumlaw10_Wide.mono _ _
   | exact commodatumref10_In.mono _ _ _
   | exact commodatumref10_Valid.mono _ _
   | exact monoid_Groups.mono _ _
   | exact LeO.none _
   | refine LeO.ite ?_ ?_
   | refine LeO.bind ?_ (fun _ => ?_)
  ·intro y0 y1 y2 y3 y4
   unfold commodatumlaw10_MonoidParts.l0
   repeat' first
   | (with_reducible exact ih0 _ _)
   | (with_reducible exact ih1 _ _ _ _ _)
   | (with_reducible exact ih2 _ _ _ _ _)
   | (with_reducible exact ih3 _ _ _ _ _ _ _)
   | (with_reducible exact ih4 _ _ _ _ _ _ _ _ _)
   | (with_reducible exact ih5 _ _ _ _ _ _ _)
   | (with_reducible exact ih6 _ _ _ _ _ _ _ _ _ _)
   | (with_reducible exact ih7 _ _ _ _ _)
   | (with_reducible exact commodatumlaw10_Awake.mono _)
   | (with_reducible exact commodatumlaw10_Copy.mono _ _)
   | (with_reducible exact commodatumlaw10_Wide.mono _ _)
   | (with_reducible exact commodatumref10_In.mono _ _ _)
   | (with_reducible exact commodatumref10_Valid.mono _ _)
   | (with_reducible exact monoid_Groups.mono _ _)
   | (with_reducible exact LeO.refl _)
   | (with_reducible exact LeO.none _)
   | (with_reducible refine LeO.ite ?_ ?_)
   | (with_reducible refine LeO.bind ?_ (fun _ => ?_))
   | exact ih0 _ _
   | exact ih1 _ _ _ _ _
   | exact ih2 _ _ _ _ _
   | exact ih3 _ _ _ _ _ _ _
   | exact ih4 _ _ _ _ _ _ _ _ _
   | exact ih5 _ _ _ _ _ _ _
   | exact ih6 _ _ _ _ _ _ _ _ _ _
   | exact ih7 _ _ _ _ _
   | exact commodatumlaw10_Awake.mono _
   | exact commodatumlaw10_Copy.mono _ _
   | exact commodatumlaw10_Wide.mono _ _
   | exact commodatumref10_In.mono _ _ _
   | exact commodatumref10_Valid.mono _ _
   | exact monoid_Groups.mono _ _
   | exact LeO.none _
   | refine LeO.ite ?_ ?_
   | refine LeO.bind ?_ (fun _ => ?_)
  ·intro y0 y1 y2 y3 y4
   unfold commodatumlaw10_MonoidParts.l1
   repeat' first
   | (with_reducible exact ih0 _ _)
   | (with_reducible exact ih1 _ _ _ _ _)
   | (with_reducible exact ih2 _ _ _ _ _)
   | (with_reducible exact ih3 _ _ _ _ _ _ _)
   | (with_reducible exact ih4 _ _ _ _ _ _ _ _ _)
   | (with_reducible exact ih5 _ _ _ _ _ _ _)
   | (with_reducible exact ih6 _ _ _ _ _ _ _ _ _ _)
   | (with_reducible exact ih7 _ _ _ _ _)
   | (with_reducible exact commodatumlaw10_Awake.mono _)
   | (with_reducible exact commodatumlaw10_Copy.mono _ _)
   | (with_reducible exact commodatumlaw10_Wide.mono _ _)
   | (with_reducible exact commodatumref10_In.mono _ _ _)
   | (with_reducible exact commodatumref10_Valid.mono _ _)
   | (with_reducible exact monoid_Groups.mono _ _)
   | (with_reducible exact LeO.refl _)
   | (with_reducible exact LeO.none _)
   | (with_reducible refine LeO.ite ?_ ?_)
   | (with_reducible refine LeO.bind ?_ (fun _ => ?_))
   | exact ih0 _ _
   | exact ih1 _ _ _ _ _
   | exact ih2 _ _ _ _ _
   | exact ih3 _ _ _ _ _ _ _
   | exact ih4 _ _ _ _ _ _ _ _ _
   | exact ih5 _ _ _ _ _ _ _
   | exact ih6 _ _ _ _ _ _ _ _ _ _
   | exact ih7 _ _ _ _ _
   | exact commodatumlaw10_Awake.mono _
   | exact commodatumlaw10_Copy.mono _ _
   | exact commodatumlaw10_Wide.mono _ _
   | exact commodatumref10_In.mono _ _ _
   | exact commodatumref10_Valid.mono _ _
   | exact monoid_Groups.mono _ _
   | exact LeO.none _
   | refine LeO.ite ?_ ?_
   | refine LeO.bind ?_ (fun _ => ?_)
  ·intro y0 y1 y2 y3 y4 y5 y6
   unfold commodatumlaw10_MonoidParts.l2
   repeat' first
   | (with_reducible exact ih0 _ _)
   | (with_reducible exact ih1 _ _ _ _ _)
   | (with_reducible exact ih2 _ _ _ _ _)
   | (with_reducible exact ih3 _ _ _ _ _ _ _)
   | (with_reducible exact ih4 _ _ _ _ _ _ _ _ _)
   | (with_reducible exact ih5 _ _ _ _ _ _ _)
   | (with_reducible exact ih6 _ _ _ _ _ _ _ _ _ _)
   | (with_reducible exact ih7 _ _ _ _ _)
   | (with_reducible exact commodatumlaw10_Awake.mono _)
   | (with_reducible exact commodatumlaw10_Copy.mono _ _)
   | (with_reducible exact commodatumlaw10_Wide.mono _ _)
   | (with_reducible exact commodatumref10_In.mono _ _ _)
   | (with_reducible exact commodatumref10_Valid.mono _ _)
   | (with_reducible exact monoid_Groups.mono _ _)
   | (with_reducible exact LeO.refl _)
   | (with_reducible exact LeO.none _)
   | (with_reducible refine LeO.ite ?_ ?_)
   | (with_reducible refine LeO.bind ?_ (fun _ => ?_))
   | exact ih0 _ _
   | exact ih1 _ _ _ _ _
   | exact ih2 _ _ _ _ _
   | exact ih3 _ _ _ _ _ _ _
   | exact ih4 _ _ _ _ _ _ _ _ _
   | exact ih5 _ _ _ _ _ _ _
   | exact ih6 _ _ _ _ _ _ _ _ _ _
   | exact ih7 _ _ _ _ _
   | exact commodatumlaw10_Awake.mono _
   | exact commodatumlaw10_Copy.mono _ _
   | exact commodatumlaw10_Wide.mono _ _
   | exact commodatumref10_In.mono _ _ _
   | exact commodatumref10_Valid.mono _ _
   | exact monoid_Groups.mono _ _
   | exact LeO.none _
   | refine LeO.ite ?_ ?_
   | refine LeO.bind ?_ (fun _ => ?_)
  ·intro y0 y1 y2 y3 y4 y5 y6 y7 y8
   unfold commodatumlaw10_MonoidParts.j4
   repeat' first
   | (with_reducible exact ih0 _ _)
   | (with_reducible exact ih1 _ _ _ _ _)
   | (with_reducible exact ih2 _ _ _ _ _)
   | (with_reducible exact ih3 _ _ _ _ _ _ _)
   | (with_reducible exact ih4 _ _ _ _ _ _ _ _ _)
   | (with_reducible exact ih5 _ _ _ _ _ _ _)
   | (with_reducible exact ih6 _ _ _ _ _ _ _ _ _ _)
   | (with_reducible exact ih7 _ _ _ _ _)
   | (with_reducible exact commodatumlaw10_Awake.mono _)
   | (with_reducible exact commodatumlaw10_Copy.mono _ _)
   | (with_reducible exact commodatumlaw10_Wide.mono _ _)
   | (with_reducible exact commodatumref10_In.mono _ _ _)
   | (with_reducible exact commodatumref10_Valid.mono _ _)
   | (with_reducible exact monoid_Groups.mono _ _)
   | (with_reducible exact LeO.refl _)
   | (with_reducible exact LeO.none _)
   | (with_reducible refine LeO.ite ?_ ?_)
   | (with_reducible refine LeO.bind ?_ (fun _ => ?_))
   | exact ih0 _ _
   | exact ih1 _ _ _ _ _
   | exact ih2 _ _ _ _ _
   | exact ih3 _ _ _ _ _ _ _
   | exact ih4 _ _ _ _ _ _ _ _ _
   | exact ih5 _ _ _ _ _ _ _
   | exact ih6 _ _ _ _ _ _ _ _ _ _
   | exact ih7 _ _ _ _ _
   | exact commodatumlaw10_Awake.mono _
   | exact commodatumlaw10_Copy.mono _ _
   | exact commodatumlaw10_Wide.mono _ _
   | exact commodatumref10_In.mono _ _ _
   | exact commodatumref10_Valid.mono _ _
   | exact monoid_Groups.mono _ _
   | exact LeO.none _
   | refine LeO.ite ?_ ?_
   | refine LeO.bind ?_ (fun _ => ?_)
  ·intro y0 y1 y2 y3 y4 y5 y6
   unfold commodatumlaw10_MonoidParts.l3
   repeat' first
   | (with_reducible exact ih0 _ _)
   | (with_reducible exact ih1 _ _ _ _ _)
   | (with_reducible exact ih2 _ _ _ _ _)
   | (with_reducible exact ih3 _ _ _ _ _ _ _)
   | (with_reducible exact ih4 _ _ _ _ _ _ _ _ _)
   | (with_reducible exact ih5 _ _ _ _ _ _ _)
   | (with_reducible exact ih6 _ _ _ _ _ _ _ _ _ _)
   | (with_reducible exact ih7 _ _ _ _ _)
   | (with_reducible exact commodatumlaw10_Awake.mono _)
   | (with_reducible exact commodatumlaw10_Copy.mono _ _)
   | (with_reducible exact commodatumlaw10_Wide.mono _ _)
   | (with_reducible exact commodatumref10_In.mono _ _ _)
   | (with_reducible exact commodatumref10_Valid.mono _ _)
   | (with_reducible exact monoid_Groups.mono _ _)
   | (with_reducible exact LeO.refl _)
   | (with_reducible exact LeO.none _)
   | (with_reducible refine LeO.ite ?_ ?_)
   | (with_reducible refine LeO.bind ?_ (fun _ => ?_))
   | exact ih0 _ _
   | exact ih1 _ _ _ _ _
   | exact ih2 _ _ _ _ _
   | exact ih3 _ _ _ _ _ _ _
   | exact ih4 _ _ _ _ _ _ _ _ _
   | exact ih5 _ _ _ _ _ _ _
   | exact ih6 _ _ _ _ _ _ _ _ _ _
   | exact ih7 _ _ _ _ _
   | exact commodatumlaw10_Awake.mono _
   | exact commodatumlaw10_Copy.mono _ _
   | exact commodatumlaw10_Wide.mono _ _
   | exact commodatumref10_In.mono _ _ _
   | exact commodatumref10_Valid.mono _ _
   | exact monoid_Groups.mono _ _
   | exact LeO.none _
   | refine LeO.ite ?_ ?_
   | refine LeO.bind ?_ (fun _ => ?_)
  ·intro y0 y1 y2 y3 y4 y5 y6 y7 y8 y9
   unfold commodatumlaw10_MonoidParts.l4
   repeat' first
   | (with_reducible exact ih0 _ _)
   | (with_reducible exact ih1 _ _ _ _ _)
   | (with_reducible exact ih2 _ _ _ _ _)
   | (with_reducible exact ih3 _ _ _ _ _ _ _)
   | (with_reducible exact ih4 _ _ _ _ _ _ _ _ _)
   | (with_reducible exact ih5 _ _ _ _ _ _ _)
   | (with_reducible exact ih6 _ _ _ _ _ _ _ _ _ _)
   | (with_reducible exact ih7 _ _ _ _ _)
   | (with_reducible exact commodatumlaw10_Awake.mono _)
   | (with_reducible exact commodatumlaw10_Copy.mono _ _)
   | (with_reducible exact commodatumlaw10_Wide.mono _ _)
   | (with_reducible exact commodatumref10_In.mono _ _ _)
   | (with_reducible exact commodatumref10_Valid.mono _ _)
   | (with_reducible exact monoid_Groups.mono _ _)
   | (with_reducible exact LeO.refl _)
   | (with_reducible exact LeO.none _)
   | (with_reducible refine LeO.ite ?_ ?_)
   | (with_reducible refine LeO.bind ?_ (fun _ => ?_))
   | exact ih0 _ _
   | exact ih1 _ _ _ _ _
   | exact ih2 _ _ _ _ _
   | exact ih3 _ _ _ _ _ _ _
   | exact ih4 _ _ _ _ _ _ _ _ _
   | exact ih5 _ _ _ _ _ _ _
   | exact ih6 _ _ _ _ _ _ _ _ _ _
   | exact ih7 _ _ _ _ _
   | exact commodatumlaw10_Awake.mono _
   | exact commodatumlaw10_Copy.mono _ _
   | exact commodatumlaw10_Wide.mono _ _
   | exact commodatumref10_In.mono _ _ _
   | exact commodatumref10_Valid.mono _ _
   | exact monoid_Groups.mono _ _
   | exact LeO.none _
   | refine LeO.ite ?_ ?_
   | refine LeO.bind ?_ (fun _ => ?_)
  ·intro y0 y1 y2 y3 y4
   unfold commodatumlaw10_MonoidParts.l5
   repeat' first
   | (with_reducible exact ih0 _ _)
   | (with_reducible exact ih1 _ _ _ _ _)
   | (with_reducible exact ih2 _ _ _ _ _)
   | (with_reducible exact ih3 _ _ _ _ _ _ _)
   | (with_reducible exact ih4 _ _ _ _ _ _ _ _ _)
   | (with_reducible exact ih5 _ _ _ _ _ _ _)
   | (with_reducible exact ih6 _ _ _ _ _ _ _ _ _ _)
   | (with_reducible exact ih7 _ _ _ _ _)
   | (with_reducible exact commodatumlaw10_Awake.mono _)
   | (with_reducible exact commodatumlaw10_Copy.mono _ _)
   | (with_reducible exact commodatumlaw10_Wide.mono _ _)
   | (with_reducible exact commodatumref10_In.mono _ _ _)
   | (with_reducible exact commodatumref10_Valid.mono _ _)
   | (with_reducible exact monoid_Groups.mono _ _)
   | (with_reducible exact LeO.refl _)
   | (with_reducible exact LeO.none _)
   | (with_reducible refine LeO.ite ?_ ?_)
   | (with_reducible refine LeO.bind ?_ (fun _ => ?_))
   | exact ih0 _ _
   | exact ih1 _ _ _ _ _
   | exact ih2 _ _ _ _ _
   | exact ih3 _ _ _ _ _ _ _
   | exact ih4 _ _ _ _ _ _ _ _ _
   | exact ih5 _ _ _ _ _ _ _
   | exact ih6 _ _ _ _ _ _ _ _ _ _
   | exact ih7 _ _ _ _ _
   | exact commodatumlaw10_Awake.mono _
   | exact commodatumlaw10_Copy.mono _ _
   | exact commodatumlaw10_Wide.mono _ _
   | exact commodatumref10_In.mono _ _ _
   | exact commodatumref10_Valid.mono _ _
   | exact monoid_Groups.mono _ _
   | exact LeO.none _
   | refine LeO.ite ?_ ?_
   | refine LeO.bind ?_ (fun _ => ?_)
theorem commodatumlaw10_MonoidParts.mono : ∀ a0 k, LeO (commodatumlaw10_MonoidParts.f k a0) (commodatumlaw10_MonoidParts.f (k + 1) a0) := by
 intro a0 k
 obtain ⟨ih0, ih1, ih2, ih3, ih4, ih5, ih6, ih7⟩ := commodatumlaw10_MonoidParts.mono_l k
 unfold commodatumlaw10_MonoidParts.f
 repeat' first
   | (with_reducible exact ih0 _ _)
   | (with_reducible exact ih1 _ _ _ _ _)
   | (with_reducible exact ih2 _ _ _ _ _)
   | (with_reducible exact ih3 _ _ _ _ _ _ _)
   | (with_reducible exact ih4 _ _ _ _ _ _ _ _ _)
   | (with_reducible exact ih5 _ _ _ _ _ _ _)
   | (with_reducible exact ih6 _ _ _ _ _ _ _ _ _ _)
   | (with_reducible exact ih7 _ _ _ _ _)
   | (with_reducible exact commodatumlaw10_Awake.mono _)
   | (with_reducible exact commodatumlaw10_Copy.mono _ _)
   | (with_reducible exact commodatumlaw10_Wide.mono _ _)
   | (with_reducible exact commodatumref10_In.mono _ _ _)
   | (with_reducible exact commodatumref10_Valid.mono _ _)
   | (with_reducible exact monoid_Groups.mono _ _)
   | (with_reducible exact LeO.refl _)
   | (with_reducible exact LeO.none _)
   | (with_reducible refine LeO.ite ?_ ?_)
   | (with_reducible refine LeO.bind ?_ (fun _ => ?_))
   | exact ih0 _ _
   | exact ih1 _ _ _ _ _
   | exact ih2 _ _ _ _ _
   | exact ih3 _ _ _ _ _ _ _
   | exact ih4 _ _ _ _ _ _ _ _ _
   | exact ih5 _ _ _ _ _ _ _
   | exact ih6 _ _ _ _ _ _ _ _ _ _
   | exact ih7 _ _ _ _ _
   | exact commodatumlaw10_Awake.mono _
   | exact commodatumlaw10_Copy.mono _ _
   | exact commodatumlaw10_Wide.mono _ _
   | exact commodatumref10_In.mono _ _ _
   | exact commodatumref10_Valid.mono _ _
   | exact monoid_Groups.mono _ _
   | exact LeO.none _
   | refine LeO.ite ?_ ?_
   | refine LeO.bind ?_ (fun _ => ?_)
set_option maxHeartbeats 8000000 in
set_option maxRecDepth 100000 in
theorem commodatumlaw10_MonoidParts.calls (k : Nat) (A0 : Option Addr) (c0 : Nat) (l0 : List (List Int)) (r : Bool) (w : World) (hr0 : Kd.C (Kd.slice 3 (Kd.int .i64)) w A0 l0.length l0) (hc0 : l0.length ≤ c0) (h : commodatumlaw10_MonoidParts.f k l0 = some r) :
  Calls Try.prog 3 #[.slice A0 l0.length c0] w fun e w' => e = .returned (.bool r) ∧ Below w.heap.size w w' := by
 have HR0 := Aside0.mk hr0
 have HC0 := Aside0.mk hc0
 clear hr0 hc0
 have HB := Aside0.mk (Below.refl w.heap.size w)
 have H : ((commodatumlaw10_Wide.f k l0).bind fun t302 => (if t302 = true then (commodatumlaw10_MonoidParts.j0 k l0 true) else ((commodatumref10_Valid.f k l0).bind fun t303 => (commodatumlaw10_MonoidParts.j0 k l0 (!t303))))) = some r := h
 clear h
 have HC2 := Aside0.mk H
 clear H
 go_enter Try.func3, Try.ntmps3
 go_upto_region 1 with (fail)
 repeat (go_quiet (fail); go_upto_region 1 with (fail))
 go_cut [24] (fun v24 wc => ∃ (kq : Nat) (x24_1 : Bool), v24 = .bool x24_1 ∧ Aside0 (commodatumlaw10_MonoidParts.j0 kq l0 x24_1 = some r) ∧ Aside0 (kq ≤ k) ∧ Aside0 (Below w.heap.size w wc))
 case first =>
  have H := HC2.out
  clear HC2
  replace H := Option.bind_eq_some_iff.mp H
  obtain ⟨t302, A30, H⟩ := H
  replace H : (if t302 = true then (commodatumlaw10_MonoidParts.j0 k l0 true) else ((commodatumref10_Valid.f k l0).bind fun t303 => (commodatumlaw10_MonoidParts.j0 k l0 (!t303)))) = some r := H
  have A3 := Aside0.mk A30
  clear A30
  by_cases c4 : t302 = true
  ·subst c4
   have H1 : (commodatumlaw10_MonoidParts.j0 k l0 true) = some r := by rw [if_pos rfl] at H; exact H
   clear H
   have H := H1
   clear H1
   have H' := Aside0.mk H
   clear H
   go_wp2_with (first | (go_at_call 7; (with_reducible refine (commodatumlaw10_Wide.calls k _ _ l0 true _ ?side1 ?side2 A3.out).mono ?_); (case side1 => repeat (first | exact (Kd.C_below HR0.out HB.out) | (with_reducible refine Kd.C_alloc ?_ _) | (with_reducible refine Kd.C_drewN ?_ _) | (with_reducible refine Kd.C_drew ?_))); (case side2 => exact HC0.out); rintro e w' ⟨rfl, ⟨nd, rfl⟩⟩; (try first | exact ⟨rfl, _, World.drewN_drewN _ _ _⟩ | exact ⟨rfl, _, Eq.trans (World.drewN_drewN _ _ _) (congrArg (World.drewN _) (Nat.add_assoc _ _ _))⟩)))
   repeat (go_quiet (first | (go_at_call 7; (with_reducible refine (commodatumlaw10_Wide.calls k _ _ l0 true _ ?side1 ?side2 A3.out).mono ?_); (case side1 => repeat (first | exact (Kd.C_below HR0.out HB.out) | (with_reducible refine Kd.C_alloc ?_ _) | (with_reducible refine Kd.C_drewN ?_ _) | (with_reducible refine Kd.C_drew ?_))); (case side2 => exact HC0.out); rintro e w' ⟨rfl, ⟨nd, rfl⟩⟩; (try first | exact ⟨rfl, _, World.drewN_drewN _ _ _⟩ | exact ⟨rfl, _, Eq.trans (World.drewN_drewN _ _ _) (congrArg (World.drewN _) (Nat.add_assoc _ _ _))⟩))); try go_wp2_with (first | (go_at_call 7; (with_reducible refine (commodatumlaw10_Wide.calls k _ _ l0 true _ ?side1 ?side2 A3.out).mono ?_); (case side1 => repeat (first | exact (Kd.C_below HR0.out HB.out) | (with_reducible refine Kd.C_alloc ?_ _) | (with_reducible refine Kd.C_drewN ?_ _) | (with_reducible refine Kd.C_drew ?_))); (case side2 => exact HC0.out); rintro e w' ⟨rfl, ⟨nd, rfl⟩⟩; (try first | exact ⟨rfl, _, World.drewN_drewN _ _ _⟩ | exact ⟨rfl, _, Eq.trans (World.drewN_drewN _ _ _) (congrArg (World.drewN _) (Nat.add_assoc _ _ _))⟩))))
   go_meet
   case rel => exact ⟨_, (true), (by first | rfl | (simp; done) | (simp [*]; done)), H', ⟨by first | omega | exact Nat.le_refl _⟩, ⟨by repeat (first | (with_reducible first | exact HB.out | apply below_alloc | apply pw_below_drewN | apply below_drew1) | exact HB.out)⟩⟩
  ·replace c4 := Bool.eq_false_iff.mpr c4
   subst c4
   have H1 : ((commodatumref10_Valid.f k l0).bind fun t303 => (commodatumlaw10_MonoidParts.j0 k l0 (!t303))) = some r := by rw [if_neg (show ¬ (false = true) by decide)] at H; exact H
   clear H
   have H := H1
   clear H1
   replace H := Option.bind_eq_some_iff.mp H
   obtain ⟨t303, A50, H⟩ := H
   replace H : (commodatumlaw10_MonoidParts.j0 k l0 (!t303)) = some r := H
   have A5 := Aside0.mk A50
   clear A50
   have H' := Aside0.mk H
   clear H
   go_wp2_with (first | (go_at_call 7; (with_reducible refine (commodatumlaw10_Wide.calls k _ _ l0 false _ ?side1 ?side2 A3.out).mono ?_); (case side1 => repeat (first | exact (Kd.C_below HR0.out HB.out) | (with_reducible refine Kd.C_alloc ?_ _) | (with_reducible refine Kd.C_drewN ?_ _) | (with_reducible refine Kd.C_drew ?_))); (case side2 => exact HC0.out); rintro e w' ⟨rfl, ⟨nd, rfl⟩⟩; (try first | exact ⟨rfl, _, World.drewN_drewN _ _ _⟩ | exact ⟨rfl, _, Eq.trans (World.drewN_drewN _ _ _) (congrArg (World.drewN _) (Nat.add_assoc _ _ _))⟩)) | (go_at_call 8; (with_reducible refine (commodatumref10_Valid.calls k _ _ l0 t303 _ ?side1 ?side2 A5.out).mono ?_); (case side1 => repeat (first | exact (Kd.C_below HR0.out (by repeat (first | (with_reducible first | exact HB.out | apply below_alloc | apply pw_below_drewN | apply below_drew1) | exact HB.out))) | (with_reducible refine Kd.C_alloc ?_ _) | (with_reducible refine Kd.C_drewN ?_ _) | (with_reducible refine Kd.C_drew ?_))); (case side2 => exact HC0.out); rintro e w' ⟨rfl, ⟨nd, rfl⟩⟩; (try first | exact ⟨rfl, _, World.drewN_drewN _ _ _⟩ | exact ⟨rfl, _, Eq.trans (World.drewN_drewN _ _ _) (congrArg (World.drewN _) (Nat.add_assoc _ _ _))⟩)))
   repeat (go_quiet (first | (go_at_call 7; (with_reducible refine (commodatumlaw10_Wide.calls k _ _ l0 false _ ?side1 ?side2 A3.out).mono ?_); (case side1 => repeat (first | exact (Kd.C_below HR0.out HB.out) | (with_reducible refine Kd.C_alloc ?_ _) | (with_reducible refine Kd.C_drewN ?_ _) | (with_reducible refine Kd.C_drew ?_))); (case side2 => exact HC0.out); rintro e w' ⟨rfl, ⟨nd, rfl⟩⟩; (try first | exact ⟨rfl, _, World.drewN_drewN _ _ _⟩ | exact ⟨rfl, _, Eq.trans (World.drewN_drewN _ _ _) (congrArg (World.drewN _) (Nat.add_assoc _ _ _))⟩)) | (go_at_call 8; (with_reducible refine (commodatumref10_Valid.calls k _ _ l0 t303 _ ?side1 ?side2 A5.out).mono ?_); (case side1 => repeat (first | exact (Kd.C_below HR0.out (by repeat (first | (with_reducible first | exact HB.out | apply below_alloc | apply pw_below_drewN | apply below_drew1) | exact HB.out))) | (with_reducible refine Kd.C_alloc ?_ _) | (with_reducible refine Kd.C_drewN ?_ _) | (with_reducible refine Kd.C_drew ?_))); (case side2 => exact HC0.out); rintro e w' ⟨rfl, ⟨nd, rfl⟩⟩; (try first | exact ⟨rfl, _, World.drewN_drewN _ _ _⟩ | exact ⟨rfl, _, Eq.trans (World.drewN_drewN _ _ _) (congrArg (World.drewN _) (Nat.add_assoc _ _ _))⟩))); try go_wp2_with (first | (go_at_call 7; (with_reducible refine (commodatumlaw10_Wide.calls k _ _ l0 false _ ?side1 ?side2 A3.out).mono ?_); (case side1 => repeat (first | exact (Kd.C_below HR0.out HB.out) | (with_reducible refine Kd.C_alloc ?_ _) | (with_reducible refine Kd.C_drewN ?_ _) | (with_reducible refine Kd.C_drew ?_))); (case side2 => exact HC0.out); rintro e w' ⟨rfl, ⟨nd, rfl⟩⟩; (try first | exact ⟨rfl, _, World.drewN_drewN _ _ _⟩ | exact ⟨rfl, _, Eq.trans (World.drewN_drewN _ _ _) (congrArg (World.drewN _) (Nat.add_assoc _ _ _))⟩)) | (go_at_call 8; (with_reducible refine (commodatumref10_Valid.calls k _ _ l0 t303 _ ?side1 ?side2 A5.out).mono ?_); (case side1 => repeat (first | exact (Kd.C_below HR0.out (by repeat (first | (with_reducible first | exact HB.out | apply below_alloc | apply pw_below_drewN | apply below_drew1) | exact HB.out))) | (with_reducible refine Kd.C_alloc ?_ _) | (with_reducible refine Kd.C_drewN ?_ _) | (with_reducible refine Kd.C_drew ?_))); (case side2 => exact HC0.out); rintro e w' ⟨rfl, ⟨nd, rfl⟩⟩; (try first | exact ⟨rfl, _, World.drewN_drewN _ _ _⟩ | exact ⟨rfl, _, Eq.trans (World.drewN_drewN _ _ _) (congrArg (World.drewN _) (Nat.add_assoc _ _ _))⟩))))
   go_meet
   case rel => exact ⟨_, (!t303), (by first | rfl | (simp; done) | (simp [*]; done)), H', ⟨by first | omega | exact Nat.le_refl _⟩, ⟨by repeat (first | (with_reducible first | exact HB.out | apply below_alloc | apply pw_below_drewN | apply below_drew1) | exact HB.out)⟩⟩
 case rest => as_aux_lemma =>
  clear HC2
  try clear p2
  try clear c3
  try clear c4
  obtain ⟨kq, x24_1, rfl, HA, HJ1, HB⟩ := hcut
  cases kq with
  | zero => exact absurd HA.out (by simp [commodatumlaw10_MonoidParts.j0])
  | succ kj1 =>
   have H := HA.out
   clear HA
   simp only [commodatumlaw10_MonoidParts.j0] at H
   by_cases c6 : x24_1 = true
   ·subst c6
    have H1 : ((commodatumlaw10_Awake.f kj1).bind fun t304 => (some t304)) = some r := by rw [if_pos rfl] at H; exact H
    clear H
    have H := H1
    clear H1
    replace H := Option.bind_eq_some_iff.mp H
    obtain ⟨t304, A70, H⟩ := H
    replace H : (some t304) = some r := H
    have A7 := Aside0.mk A70
    clear A70
    obtain rfl := Option.some.inj H
    go_wp2_with (first | (go_at_call 9; (with_reducible refine (commodatumlaw10_Awake.calls kj1  t304 _ A7.out).mono ?_); rintro e w8 ⟨rfl, hb⟩; have n0_ := Aside0.mk (below_step (by repeat (first | (with_reducible first | exact HB.out | apply below_alloc | apply pw_below_drewN | apply below_drew1) | exact HB.out)) hb); clear HB; have HB := n0_; clear n0_; (try clear hb); (try clear hb2); (try clear hk); (try clear hi)))
    repeat (go_quiet (first | (go_at_call 9; (with_reducible refine (commodatumlaw10_Awake.calls kj1  t304 _ A7.out).mono ?_); rintro e w8 ⟨rfl, hb⟩; have n0_ := Aside0.mk (below_step (by repeat (first | (with_reducible first | exact HB.out | apply below_alloc | apply pw_below_drewN | apply below_drew1) | exact HB.out)) hb); clear HB; have HB := n0_; clear n0_; (try clear hb); (try clear hb2); (try clear hk); (try clear hi))); try go_wp2_with (first | (go_at_call 9; (with_reducible refine (commodatumlaw10_Awake.calls kj1  t304 _ A7.out).mono ?_); rintro e w8 ⟨rfl, hb⟩; have n0_ := Aside0.mk (below_step (by repeat (first | (with_reducible first | exact HB.out | apply below_alloc | apply pw_below_drewN | apply below_drew1) | exact HB.out)) hb); clear HB; have HB := n0_; clear n0_; (try clear hb); (try clear hb2); (try clear hk); (try clear hi))))
    go_ret
    exact ⟨by first | rfl | (simp [errW_none, errW_some] <;> rfl) | (simp [*, errW_none, errW_some] <;> rfl), by repeat (first | (with_reducible first | exact HB.out | apply below_alloc | apply pw_below_drewN | apply below_drew1) | exact HB.out)⟩
   ·replace c6 := Bool.eq_false_iff.mpr c6
    subst c6
    have H1 : ((commodatumlaw10_Copy.f kj1 l0).bind fun t305 => ((monoid_Groups.f kj1 t305).bind fun bt308 => (if bt308.2 = 0 then (if 0 ≤ (l0.length : Int) then (if ((l0.length : Int) : Int).toNat ≤ 35184372088832 then (commodatumlaw10_MonoidParts.l0 kj1 l0 bt308.1 (List.replicate ((l0.length : Int) : Int).toNat 0) 0 0) else (none)) else (none)) else (none)))) = some r := by rw [if_neg (show ¬ (false = true) by decide)] at H; exact H
    clear H
    have H := H1
    clear H1
    replace H := Option.bind_eq_some_iff.mp H
    obtain ⟨t305, A90, H⟩ := H
    replace H : ((monoid_Groups.f kj1 t305).bind fun bt308 => (if bt308.2 = 0 then (if 0 ≤ (l0.length : Int) then (if ((l0.length : Int) : Int).toNat ≤ 35184372088832 then (commodatumlaw10_MonoidParts.l0 kj1 l0 bt308.1 (List.replicate ((l0.length : Int) : Int).toNat 0) 0 0) else (none)) else (none)) else (none))) = some r := H
    have A9 := Aside0.mk A90
    clear A90
    replace H := Option.bind_eq_some_iff.mp H
    obtain ⟨⟨t308, t309⟩, A100, H⟩ := H
    replace H : (if t309 = 0 then (if 0 ≤ (l0.length : Int) then (if ((l0.length : Int) : Int).toNat ≤ 35184372088832 then (commodatumlaw10_MonoidParts.l0 kj1 l0 t308 (List.replicate ((l0.length : Int) : Int).toNat 0) 0 0) else (none)) else (none)) else (none)) = some r := H
    have A10 := Aside0.mk A100
    clear A100
    by_cases c11 : t309 = 0
    ·rw [if_pos c11] at H
     have c11b0 : (t309 == 0) = true := beq_iff_eq.mpr c11
     have c11b1 : (t309 != 0) = false := bne_eq_false_iff_eq.mpr c11
     clear c11
     by_cases c12 : 0 ≤ (l0.length : Int)
     ·rw [if_pos c12] at H
      have c12b0 := eq_true c12
      have c12b1 : decide (0 ≤ (l0.length : Int)) = true := decide_eq_true c12
      clear c12
      by_cases c13 : ((l0.length : Int) : Int).toNat ≤ 35184372088832
      ·rw [if_pos c13] at H
       have c13b0 := eq_true c13
       have c13b1 : decide (((l0.length : Int) : Int).toNat ≤ 35184372088832) = true := decide_eq_true c13
       clear c13
       obtain ⟨y312, hy312⟩ : ∃ y_ : List Int, y_ = (List.replicate ((l0.length : Int) : Int).toNat 0) := ⟨_, rfl⟩
       replace H : (commodatumlaw10_MonoidParts.l0 kj1 l0 t308 y312 0 0) = some r := by first | (rw [hy312]; with_reducible exact H) | (have H2_ := (Option.bind_some _ _).symm.trans H; rw [hy312]; with_reducible exact H2_) | (have H2_ := (Option.bind_some _ _).symm.trans H; with_reducible exact H2_) | with_reducible exact H | (rw [hy312]; exact H) | exact H
       have Ny312 := Aside0.mk hy312
       clear hy312
       have H' := Aside0.mk H
       clear H
       go_wp2_with (first | (go_at_call 11; (with_reducible refine (commodatumlaw10_Copy.calls kj1 _ _ l0 t305 _ ?side1 ?side2 A9.out).mono ?_); (case side1 => repeat (first | exact (Kd.C_below HR0.out HB.out) | (with_reducible refine Kd.C_alloc ?_ _) | (with_reducible refine Kd.C_drewN ?_ _) | (with_reducible refine Kd.C_drew ?_))); (case side2 => exact HC0.out); rintro e w14 ⟨v306, rfl, ho0, hb⟩; have n0_ := Aside0.mk (Kd.S_lower ho0 (below_size (by repeat (first | (with_reducible first | exact HB.out | apply below_alloc | apply pw_below_drewN | apply below_drew1) | exact HB.out)))); have n1_ := Aside0.mk (below_step (by repeat (first | (with_reducible first | exact HB.out | apply below_alloc | apply pw_below_drewN | apply below_drew1) | exact HB.out)) hb); clear HB; have HO307 := n0_; have HB := n1_; clear n0_ n1_; (try clear hb); (try clear hb2); (try clear hk); (try clear hi); (try clear ho0); obtain ⟨Ao15, co15, eo15⟩ := Kd.S_slice HO307.out; subst eo15) | (go_at_call 10; (with_reducible refine (monoid_Groups.calls kj1 _ _ t305 t308 t309 _ ?side1 ?side2 A10.out).mono ?_); (case side1 => repeat (first | exact (Kd.S_reads' HO307.out).2.2 | (with_reducible refine Kd.C_alloc ?_ _) | (with_reducible refine Kd.C_drewN ?_ _) | (with_reducible refine Kd.C_drew ?_))); (case side2 => exact (Kd.S_reads' HO307.out).2.1); rintro e w16 ⟨v310, rfl, ho0, hb⟩; have n0_ := Aside0.mk (Kd.S_elder' (by (with_reducible repeat (first | apply Kd.S_alloc | apply Kd.S_drewN | apply Kd.S_drew)); exact HO307.out) (Kd.S_base ho0) hb); have n1_ := Aside0.mk (Kd.S_lower (Kd.S_new' ho0 (Kd.S_lt (by (with_reducible repeat (first | apply Kd.S_alloc | apply Kd.S_drewN | apply Kd.S_drew)); exact HO307.out))) (below_size (by repeat (first | (with_reducible first | exact HB.out | apply below_alloc | apply pw_below_drewN | apply below_drew1) | exact HB.out)))); have n2_ := Aside0.mk (below_step (by repeat (first | (with_reducible first | exact HB.out | apply below_alloc | apply pw_below_drewN | apply below_drew1) | exact HB.out)) hb); clear HO307; clear HB; have HO307 := n0_; have HO311 := n1_; have HB := n2_; clear n0_ n1_ n2_; (try clear hb); (try clear hb2); (try clear hk); (try clear hi); (try clear ho0)) | ((with_reducible refine gate_dst (N := 36) rfl ?_); (try (refine gate_guard (by rfl) ?_; dsimp only)); refine Kd.R_make (Kd.int .i64) _ 3 rfl (N := 36) rfl 30 _ _ rfl (l0.length : Int) rfl rfl Try.underlying30 (.int .i64 0) 8 info3 rfl (by decide) (by omega) 0 (ok := fun _ => True) (okp := fun _ => True) rfl (fun _ hk => hk) trivial (of_decide_eq_true (by first | (with_reducible assumption) | assumption)) (Nat.le_trans (Nat.mul_le_mul_right _ (of_decide_eq_true (by first | (with_reducible assumption) | assumption) : (l0.length : Int).toNat ≤ 35184372088832)) (by omega)) (Below.refl _ _) (Nat.le_refl _) ?_; intro v313 w17 ho18 hb hg_ hnew_; clear hg_ hnew_; (first | rw [← Ny312.out] at ho18 | (simp only [Int.reduceToNat] at ho18; rw [← Ny312.out] at ho18)); have n0_ := Aside0.mk (Kd.S_elder' (by (with_reducible repeat (first | apply Kd.S_alloc | apply Kd.S_drewN | apply Kd.S_drew)); exact HO307.out) (Kd.R_base ho18) hb); have n1_ := Aside0.mk (Kd.S_elder' (by (with_reducible repeat (first | apply Kd.S_alloc | apply Kd.S_drewN | apply Kd.S_drew)); exact HO311.out) (Kd.R_base ho18) hb); have n2_ := Aside0.mk (Kd.R_lower ho18 (below_size (by repeat (first | (with_reducible first | exact HB.out | apply below_alloc | apply pw_below_drewN | apply below_drew1) | exact HB.out)))); have n3_ := Aside0.mk (below_step (by repeat (first | (with_reducible first | exact HB.out | apply below_alloc | apply pw_below_drewN | apply below_drew1) | exact HB.out)) hb); clear HO307; clear HO311; clear HB; have HO307 := n0_; have HO311 := n1_; have HO314 := n2_; have HB := n3_; clear n0_ n1_ n2_ n3_; clear hb ho18))
       repeat (go_quiet (first | (go_at_call 11; (with_reducible refine (commodatumlaw10_Copy.calls kj1 _ _ l0 t305 _ ?side1 ?side2 A9.out).mono ?_); (case side1 => repeat (first | exact (Kd.C_below HR0.out HB.out) | (with_reducible refine Kd.C_alloc ?_ _) | (with_reducible refine Kd.C_drewN ?_ _) | (with_reducible refine Kd.C_drew ?_))); (case side2 => exact HC0.out); rintro e w14 ⟨v306, rfl, ho0, hb⟩; have n0_ := Aside0.mk (Kd.S_lower ho0 (below_size (by repeat (first | (with_reducible first | exact HB.out | apply below_alloc | apply pw_below_drewN | apply below_drew1) | exact HB.out)))); have n1_ := Aside0.mk (below_step (by repeat (first | (with_reducible first | exact HB.out | apply below_alloc | apply pw_below_drewN | apply below_drew1) | exact HB.out)) hb); clear HB; have HO307 := n0_; have HB := n1_; clear n0_ n1_; (try clear hb); (try clear hb2); (try clear hk); (try clear hi); (try clear ho0); obtain ⟨Ao15, co15, eo15⟩ := Kd.S_slice HO307.out; subst eo15) | (go_at_call 10; (with_reducible refine (monoid_Groups.calls kj1 _ _ t305 t308 t309 _ ?side1 ?side2 A10.out).mono ?_); (case side1 => repeat (first | exact (Kd.S_reads' HO307.out).2.2 | (with_reducible refine Kd.C_alloc ?_ _) | (with_reducible refine Kd.C_drewN ?_ _) | (with_reducible refine Kd.C_drew ?_))); (case side2 => exact (Kd.S_reads' HO307.out).2.1); rintro e w16 ⟨v310, rfl, ho0, hb⟩; have n0_ := Aside0.mk (Kd.S_elder' (by (with_reducible repeat (first | apply Kd.S_alloc | apply Kd.S_drewN | apply Kd.S_drew)); exact HO307.out) (Kd.S_base ho0) hb); have n1_ := Aside0.mk (Kd.S_lower (Kd.S_new' ho0 (Kd.S_lt (by (with_reducible repeat (first | apply Kd.S_alloc | apply Kd.S_drewN | apply Kd.S_drew)); exact HO307.out))) (below_size (by repeat (first | (with_reducible first | exact HB.out | apply below_alloc | apply pw_below_drewN | apply below_drew1) | exact HB.out)))); have n2_ := Aside0.mk (below_step (by repeat (first | (with_reducible first | exact HB.out | apply below_alloc | apply pw_below_drewN | apply below_drew1) | exact HB.out)) hb); clear HO307; clear HB; have HO307 := n0_; have HO311 := n1_; have HB := n2_; clear n0_ n1_ n2_; (try clear hb); (try clear hb2); (try clear hk); (try clear hi); (try clear ho0)) | ((with_reducible refine gate_dst (N := 36) rfl ?_); (try (refine gate_guard (by rfl) ?_; dsimp only)); refine Kd.R_make (Kd.int .i64) _ 3 rfl (N := 36) rfl 30 _ _ rfl (l0.length : Int) rfl rfl Try.underlying30 (.int .i64 0) 8 info3 rfl (by decide) (by omega) 0 (ok := fun _ => True) (okp := fun _ => True) rfl (fun _ hk => hk) trivial (of_decide_eq_true (by first | (with_reducible assumption) | assumption)) (Nat.le_trans (Nat.mul_le_mul_right _ (of_decide_eq_true (by first | (with_reducible assumption) | assumption) : (l0.length : Int).toNat ≤ 35184372088832)) (by omega)) (Below.refl _ _) (Nat.le_refl _) ?_; intro v313 w17 ho18 hb hg_ hnew_; clear hg_ hnew_; (first | rw [← Ny312.out] at ho18 | (simp only [Int.reduceToNat] at ho18; rw [← Ny312.out] at ho18)); have n0_ := Aside0.mk (Kd.S_elder' (by (with_reducible repeat (first | apply Kd.S_alloc | apply Kd.S_drewN | apply Kd.S_drew)); exact HO307.out) (Kd.R_base ho18) hb); have n1_ := Aside0.mk (Kd.S_elder' (by (with_reducible repeat (first | apply Kd.S_alloc | apply Kd.S_drewN | apply Kd.S_drew)); exact HO311.out) (Kd.R_base ho18) hb); have n2_ := Aside0.mk (Kd.R_lower ho18 (below_size (by repeat (first | (with_reducible first | exact HB.out | apply below_alloc | apply pw_below_drewN | apply below_drew1) | exact HB.out)))); have n3_ := Aside0.mk (below_step (by repeat (first | (with_reducible first | exact HB.out | apply below_alloc | apply pw_below_drewN | apply below_drew1) | exact HB.out)) hb); clear HO307; clear HO311; clear HB; have HO307 := n0_; have HO311 := n1_; have HO314 := n2_; have HB := n3_; clear n0_ n1_ n2_ n3_; clear hb ho18)); try go_wp2_with (first | (go_at_call 11; (with_reducible refine (commodatumlaw10_Copy.calls kj1 _ _ l0 t305 _ ?side1 ?side2 A9.out).mono ?_); (case side1 => repeat (first | exact (Kd.C_below HR0.out HB.out) | (with_reducible refine Kd.C_alloc ?_ _) | (with_reducible refine Kd.C_drewN ?_ _) | (with_reducible refine Kd.C_drew ?_))); (case side2 => exact HC0.out); rintro e w14 ⟨v306, rfl, ho0, hb⟩; have n0_ := Aside0.mk (Kd.S_lower ho0 (below_size (by repeat (first | (with_reducible first | exact HB.out | apply below_alloc | apply pw_below_drewN | apply below_drew1) | exact HB.out)))); have n1_ := Aside0.mk (below_step (by repeat (first | (with_reducible first | exact HB.out | apply below_alloc | apply pw_below_drewN | apply below_drew1) | exact HB.out)) hb); clear HB; have HO307 := n0_; have HB := n1_; clear n0_ n1_; (try clear hb); (try clear hb2); (try clear hk); (try clear hi); (try clear ho0); obtain ⟨Ao15, co15, eo15⟩ := Kd.S_slice HO307.out; subst eo15) | (go_at_call 10; (with_reducible refine (monoid_Groups.calls kj1 _ _ t305 t308 t309 _ ?side1 ?side2 A10.out).mono ?_); (case side1 => repeat (first | exact (Kd.S_reads' HO307.out).2.2 | (with_reducible refine Kd.C_alloc ?_ _) | (with_reducible refine Kd.C_drewN ?_ _) | (with_reducible refine Kd.C_drew ?_))); (case side2 => exact (Kd.S_reads' HO307.out).2.1); rintro e w16 ⟨v310, rfl, ho0, hb⟩; have n0_ := Aside0.mk (Kd.S_elder' (by (with_reducible repeat (first | apply Kd.S_alloc | apply Kd.S_drewN | apply Kd.S_drew)); exact HO307.out) (Kd.S_base ho0) hb); have n1_ := Aside0.mk (Kd.S_lower (Kd.S_new' ho0 (Kd.S_lt (by (with_reducible repeat (first | apply Kd.S_alloc | apply Kd.S_drewN | apply Kd.S_drew)); exact HO307.out))) (below_size (by repeat (first | (with_reducible first | exact HB.out | apply below_alloc | apply pw_below_drewN | apply below_drew1) | exact HB.out)))); have n2_ := Aside0.mk (below_step (by repeat (first | (with_reducible first | exact HB.out | apply below_alloc | apply pw_below_drewN | apply below_drew1) | exact HB.out)) hb); clear HO307; clear HB; have HO307 := n0_; have HO311 := n1_; have HB := n2_; clear n0_ n1_ n2_; (try clear hb); (try clear hb2); (try clear hk); (try clear hi); (try clear ho0)) | ((with_reducible refine gate_dst (N := 36) rfl ?_); (try (refine gate_guard (by rfl) ?_; dsimp only)); refine Kd.R_make (Kd.int .i64) _ 3 rfl (N := 36) rfl 30 _ _ rfl (l0.length : Int) rfl rfl Try.underlying30 (.int .i64 0) 8 info3 rfl (by decide) (by omega) 0 (ok := fun _ => True) (okp := fun _ => True) rfl (fun _ hk => hk) trivial (of_decide_eq_true (by first | (with_reducible assumption) | assumption)) (Nat.le_trans (Nat.mul_le_mul_right _ (of_decide_eq_true (by first | (with_reducible assumption) | assumption) : (l0.length : Int).toNat ≤ 35184372088832)) (by omega)) (Below.refl _ _) (Nat.le_refl _) ?_; intro v313 w17 ho18 hb hg_ hnew_; clear hg_ hnew_; (first | rw [← Ny312.out] at ho18 | (simp only [Int.reduceToNat] at ho18; rw [← Ny312.out] at ho18)); have n0_ := Aside0.mk (Kd.S_elder' (by (with_reducible repeat (first | apply Kd.S_alloc | apply Kd.S_drewN | apply Kd.S_drew)); exact HO307.out) (Kd.R_base ho18) hb); have n1_ := Aside0.mk (Kd.S_elder' (by (with_reducible repeat (first | apply Kd.S_alloc | apply Kd.S_drewN | apply Kd.S_drew)); exact HO311.out) (Kd.R_base ho18) hb); have n2_ := Aside0.mk (Kd.R_lower ho18 (below_size (by repeat (first | (with_reducible first | exact HB.out | apply below_alloc | apply pw_below_drewN | apply below_drew1) | exact HB.out)))); have n3_ := Aside0.mk (below_step (by repeat (first | (with_reducible first | exact HB.out | apply below_alloc | apply pw_below_drewN | apply below_drew1) | exact HB.out)) hb); clear HO307; clear HO311; clear HB; have HO307 := n0_; have HO311 := n1_; have HO314 := n2_; have HB := n3_; clear n0_ n1_ n2_ n3_; clear hb ho18)))
       go_loopg [6, 7] kj1 (fun kq v6 v7 w' => ∃ (x6_2 : Int) (x7_2 : Int), v6 = .int .i64 x6_2 ∧ v7 = .int .i64 x7_2 ∧ Aside0 (commodatumlaw10_MonoidParts.l0 kq l0 t308 y312 x6_2 x7_2 = some r) ∧ Aside0 (kq ≤ kj1) ∧ Aside0 (Kd.S (Kd.slice 3 (Kd.int .i64)) 30 w' w.heap.size (fun k_ => some k_ ≠ (v313 : Value).ownBlock) v310 t308) ∧ Aside0 (Kd.R (Kd.int .i64) 3 w' w.heap.size (fun _ => True) v313 y312) ∧ Aside0 (Below w.heap.size w w'))
       case atStart => exact ⟨(0), (0), (by first | rfl | (simp; done) | (simp [*]; done)), (by first | rfl | (simp; done) | (simp [*]; done)), H', ⟨Nat.le_refl _⟩, ⟨by (with_reducible repeat (first | apply Kd.S_alloc | apply Kd.S_drewN | apply Kd.S_drew)); exact Kd.S_mono HO311.out (fun _ hk => hk.2)⟩, ⟨by (with_reducible repeat (first | apply Kd.R_alloc | apply Kd.R_drewN | apply Kd.R_drew)); exact HO314.out⟩, ⟨by repeat (first | (with_reducible first | exact HB.out | apply below_alloc | apply pw_below_drewN | apply below_drew1) | exact HB.out)⟩⟩
       case round => as_aux_lemma =>
        clear H'
        try clear c1
        try clear p2
        try clear c3
        try clear c4
        try clear c6
        try clear c11
        try clear c11b0
        try clear c11b1
        try clear c12
        try clear c12b0
        try clear c12b1
        try clear c13
        try clear c13b0
        try clear c13b1
        try clear p2
        obtain ⟨x6_2, x7_2, rfl, rfl, HA, HK2, HO_3, HO_5, HB⟩ := hrel
        cases gk with
        | zero => exact absurd HA.out (by simp [commodatumlaw10_MonoidParts.l0])
        | succ k2 =>
         have H := HA.out
         clear HA
         simp only [commodatumlaw10_MonoidParts.l0] at H
         by_cases c19 : x7_2 < (l0.length : Int)
         ·rw [if_pos c19] at H
          have c19b0 : decide (x7_2 < (l0.length : Int)) = true := decide_eq_true c19
          clear c19
          by_cases c20 : 0 ≤ x7_2
          ·rw [if_pos c20] at H
           have c20b0 : decide (0 ≤ x7_2) = true := decide_eq_true c20
           clear c20
           by_cases c21 : x7_2 < ((rd_L1 l0 x7_2).length : Int)
           ·rw [if_pos c21] at H
            have c21b0 : decide (x7_2 < ((rd_L1 l0 x7_2).length : Int)) = true := decide_eq_true c21
            clear c21
            by_cases c22 : (rd (rd_L1 l0 x7_2) x7_2) = x7_2
            ·rw [if_pos c22] at H
             have c22b0 : ((rd (rd_L1 l0 x7_2) x7_2) == x7_2) = true := beq_iff_eq.mpr c22
             have c22b1 : ((rd (rd_L1 l0 x7_2) x7_2) != x7_2) = false := bne_eq_false_iff_eq.mpr c22
             clear c22
             have H' := Aside0.mk H
             clear H
             have p315 : 0 ≤ (x7_2 : Int) := of_decide_eq_true (by first | (with_reducible assumption) | assumption)
             have q315 : x7_2 < (l0.length : Int) := of_decide_eq_true (by first | (with_reducible assumption) | assumption)
             obtain ⟨ad315, A315_0, c315_0, e315, hx315_0, hl315_0, hi315_0⟩ := at_L1 HR0.out x7_2 p315 q315
             cases e315
             replace hx315_0 := (HB.out.cell (World.block_lt_of_cell? w _ hx315_0)).trans hx315_0
             have HR315_0 := Aside0.mk hi315_0
             have HC315_0 := Aside0.mk hl315_0
             clear hi315_0 hl315_0
             replace p315 := eq_true p315
             replace q315 := eq_true q315
             have p316 : 0 ≤ (x7_2 : Int) := of_decide_eq_true (by first | (with_reducible assumption) | assumption)
             have q316 : x7_2 < ((rd_L1 l0 x7_2).length : Int) := of_decide_eq_true (by first | (with_reducible assumption) | assumption)
             obtain ⟨ad316, e316, hx316_0⟩ := Kd.at_int HR315_0.out x7_2 p316 q316
             cases e316
             replace hx316_0 := (HB.out.cell (World.block_lt_of_cell? w _ hx316_0)).trans hx316_0
             replace p316 := eq_true p316
             replace q316 := eq_true q316
             go_wp2
             repeat (go_quiet (fail); try go_wp2)
             go_roundg k2
             case measure => have := HJ1.out; have := HK2.out; omega
             case rel => exact ⟨(wrap64 (x6_2 + 1)), (wrap64 (x7_2 + 1)), (by first | rfl | (simp; done) | (simp [*]; done)), (by first | rfl | (simp; done) | (simp [*]; done)), H', ⟨by have := HJ1.out; have := HK2.out; omega⟩, ⟨by (with_reducible repeat (first | apply Kd.S_alloc | apply Kd.S_drewN | apply Kd.S_drew)); exact HO_3.out⟩, ⟨by (with_reducible repeat (first | apply Kd.R_alloc | apply Kd.R_drewN | apply Kd.R_drew)); exact HO_5.out⟩, ⟨by repeat (first | (with_reducible first | exact HB.out | apply below_alloc | apply pw_below_drewN | apply below_drew1) | exact HB.out)⟩⟩
            ·rw [if_neg c22] at H
             have c22b0 : ((rd (rd_L1 l0 x7_2) x7_2) == x7_2) = false := beq_eq_false_iff_ne.mpr c22
             have c22b1 : ((rd (rd_L1 l0 x7_2) x7_2) != x7_2) = true := bne_iff_ne.mpr c22
             have H' := Aside0.mk H
             clear H
             have p315 : 0 ≤ (x7_2 : Int) := of_decide_eq_true (by first | (with_reducible assumption) | assumption)
             have q315 : x7_2 < (l0.length : Int) := of_decide_eq_true (by first | (with_reducible assumption) | assumption)
             obtain ⟨ad315, A315_0, c315_0, e315, hx315_0, hl315_0, hi315_0⟩ := at_L1 HR0.out x7_2 p315 q315
             cases e315
             replace hx315_0 := (HB.out.cell (World.block_lt_of_cell? w _ hx315_0)).trans hx315_0
             have HR315_0 := Aside0.mk hi315_0
             have HC315_0 := Aside0.mk hl315_0
             clear hi315_0 hl315_0
             replace p315 := eq_true p315
             replace q315 := eq_true q315
             have p316 : 0 ≤ (x7_2 : Int) := of_decide_eq_true (by first | (with_reducible assumption) | assumption)
             have q316 : x7_2 < ((rd_L1 l0 x7_2).length : Int) := of_decide_eq_true (by first | (with_reducible assumption) | assumption)
             obtain ⟨ad316, e316, hx316_0⟩ := Kd.at_int HR315_0.out x7_2 p316 q316
             cases e316
             replace hx316_0 := (HB.out.cell (World.block_lt_of_cell? w _ hx316_0)).trans hx316_0
             replace p316 := eq_true p316
             replace q316 := eq_true q316
             go_wp2
             repeat (go_quiet (fail); try go_wp2)
             go_roundg k2
             case measure => have := HJ1.out; have := HK2.out; omega
             case rel => exact ⟨(x6_2), (wrap64 (x7_2 + 1)), (by first | rfl | (simp; done) | (simp [*]; done)), (by first | rfl | (simp; done) | (simp [*]; done)), H', ⟨by have := HJ1.out; have := HK2.out; omega⟩, ⟨by (with_reducible repeat (first | apply Kd.S_alloc | apply Kd.S_drewN | apply Kd.S_drew)); exact HO_3.out⟩, ⟨by (with_reducible repeat (first | apply Kd.R_alloc | apply Kd.R_drewN | apply Kd.R_drew)); exact HO_5.out⟩, ⟨by repeat (first | (with_reducible first | exact HB.out | apply below_alloc | apply pw_below_drewN | apply below_drew1) | exact HB.out)⟩⟩
           ·rw [if_neg c21] at H
            exact absurd H (by simp)
          ·rw [if_neg c20] at H
           exact absurd H (by simp)
         ·rw [if_neg c19] at H
          have c19b0 : decide (x7_2 < (l0.length : Int)) = false := decide_eq_false c19
          clear c19
          have H' := Aside0.mk H
          clear H
          go_wp2
          repeat (go_quiet (fail); try go_wp2)
          go_loopg [8] k2 (fun kq v8 w' => ∃ (x5_3 : List Int) (x8_3 : Int), v8 = .int .i64 x8_3 ∧ Aside0 (commodatumlaw10_MonoidParts.l1 kq l0 t308 x5_3 x6_2 x8_3 = some r) ∧ Aside0 (kq ≤ k2) ∧ Aside0 (Kd.S (Kd.slice 3 (Kd.int .i64)) 30 w' w.heap.size (fun k_ => some k_ ≠ (v313 : Value).ownBlock) v310 t308) ∧ Aside0 (Kd.R (Kd.int .i64) 3 w' w.heap.size (fun _ => True) v313 x5_3) ∧ Aside0 (Below w.heap.size w w'))
          case atStart => exact ⟨(y312), (0), (by first | rfl | (simp; done) | (simp [*]; done)), H', ⟨Nat.le_refl _⟩, ⟨by (with_reducible repeat (first | apply Kd.S_alloc | apply Kd.S_drewN | apply Kd.S_drew)); exact HO_3.out⟩, ⟨by (with_reducible repeat (first | apply Kd.R_alloc | apply Kd.R_drewN | apply Kd.R_drew)); exact HO_5.out⟩, ⟨by repeat (first | (with_reducible first | exact HB.out | apply below_alloc | apply pw_below_drewN | apply below_drew1) | exact HB.out)⟩⟩
          case round => as_aux_lemma =>
           clear H'
           try clear c1
           try clear c2
           try clear p2
           try clear c3
           try clear p3
           try clear q3
           try clear hx3
           try clear c4
           try clear c6
           try clear p6
           try clear c11
           try clear c11b0
           try clear c11b1
           try clear c12
           try clear c12b0
           try clear c12b1
           try clear c13
           try clear c13b0
           try clear c13b1
           try clear c19
           try clear c19b0
           try clear c20
           try clear c20b0
           try clear c21
           try clear c21b0
           try clear c22
           try clear c22b0
           try clear c22b1
           try clear hx315_0
           try clear hx316_0
           try clear p2
           try clear p315
           try clear p316
           try clear q315
           try clear q316
           obtain ⟨x5_3, x8_3, rfl, HA, HK3, HO_3, HO_5, HB⟩ := hrel
           cases gk with
           | zero => exact absurd HA.out (by simp [commodatumlaw10_MonoidParts.l1])
           | succ k3 =>
            have H := HA.out
            clear HA
            simp only [commodatumlaw10_MonoidParts.l1] at H
            by_cases c23 : x8_3 < (t308.length : Int)
            ·rw [if_pos c23] at H
             have c23b0 : decide (x8_3 < (t308.length : Int)) = true := decide_eq_true c23
             clear c23
             have H' := Aside0.mk H
             clear H
             obtain ⟨Ao24, co24, eo24⟩ := Kd.S_slice HO_3.out
             subst eo24
             go_wp2
             repeat (go_quiet (fail); try go_wp2)
             go_loopg [9, 10] k3 (fun kq v9 v10 w' => ∃ (x5_4 : List Int) (x9_4 : Int) (x10_4 : Int), v9 = .int .i64 x9_4 ∧ v10 = .int .i64 x10_4 ∧ Aside0 (commodatumlaw10_MonoidParts.l2 kq l0 t308 x5_4 x6_2 x8_3 x9_4 x10_4 = some r) ∧ Aside0 (kq ≤ k3) ∧ Aside0 (Kd.S (Kd.slice 3 (Kd.int .i64)) 30 w' w.heap.size (fun k_ => some k_ ≠ (v313 : Value).ownBlock) (.slice Ao24 t308.length co24) t308) ∧ Aside0 (Kd.R (Kd.int .i64) 3 w' w.heap.size (fun _ => True) v313 x5_4) ∧ Aside0 (Below w.heap.size w w'))
             case atStart => exact ⟨(x5_3), ((-1)), (0), (by first | rfl | (simp; done) | (simp [*]; done)), (by first | rfl | (simp; done) | (simp [*]; done)), H', ⟨Nat.le_refl _⟩, ⟨by (with_reducible repeat (first | apply Kd.S_alloc | apply Kd.S_drewN | apply Kd.S_drew)); exact HO_3.out⟩, ⟨by (with_reducible repeat (first | apply Kd.R_alloc | apply Kd.R_drewN | apply Kd.R_drew)); exact HO_5.out⟩, ⟨by repeat (first | (with_reducible first | exact HB.out | apply below_alloc | apply pw_below_drewN | apply below_drew1) | exact HB.out)⟩⟩
             case round => as_aux_lemma =>
              clear H'
              try clear c1
              try clear c2
              try clear p2
              try clear c3
              try clear p3
              try clear q3
              try clear hx3
              try clear c4
              try clear c6
              try clear p6
              try clear c11
              try clear c11b0
              try clear c11b1
              try clear c12
              try clear c12b0
              try clear c12b1
              try clear c13
              try clear c13b0
              try clear c13b1
              try clear c19
              try clear c19b0
              try clear c20
              try clear c20b0
              try clear c21
              try clear c21b0
              try clear c22
              try clear c22b0
              try clear c22b1
              try clear c23
              try clear c23b0
              try clear hx315_0
              try clear hx316_0
              try clear p2
              try clear p3
              try clear p315
              try clear p316
              try clear p6
              try clear q3
              try clear q315
              try clear q316
              obtain ⟨x5_4, x9_4, x10_4, rfl, rfl, HA, HK4, HO_3, HO_5, HB⟩ := hrel
              cases gk with
              | zero => exact absurd HA.out (by simp [commodatumlaw10_MonoidParts.l2])
              | succ k4 =>
               have H := HA.out
               clear HA
               simp only [commodatumlaw10_MonoidParts.l2] at H
               by_cases c25 : 0 ≤ x8_3
               ·rw [if_pos c25] at H
                have c25b0 : decide (0 ≤ x8_3) = true := decide_eq_true c25
                clear c25
                by_cases c26 : x8_3 < (t308.length : Int)
                ·rw [if_pos c26] at H
                 have c26b0 : decide (x8_3 < (t308.length : Int)) = true := decide_eq_true c26
                 clear c26
                 by_cases c27 : x10_4 < ((rd_L1 t308 x8_3).length : Int)
                 ·rw [if_pos c27] at H
                  have c27b0 : decide (x10_4 < ((rd_L1 t308 x8_3).length : Int)) = true := decide_eq_true c27
                  clear c27
                  by_cases c28 : 0 ≤ x10_4
                  ·rw [if_pos c28] at H
                   have c28b0 : decide (0 ≤ x10_4) = true := decide_eq_true c28
                   clear c28
                   have HC29 := Aside0.mk H
                   clear H
                   have p317 : 0 ≤ (x8_3 : Int) := of_decide_eq_true (by first | (with_reducible assumption) | assumption)
                   have q317 : x8_3 < (t308.length : Int) := of_decide_eq_true (by first | (with_reducible assumption) | assumption)
                   obtain ⟨ad317, A317_0, c317_0, e317, hx317_0, hl317_0, hi317_0⟩ := at_L1 (Kd.S_reads' HO_3.out).2.2 x8_3 p317 q317
                   cases e317
                   obtain ⟨ce317, hce317, hMe317, hcc317⟩ := Kd.S_get HO_3.out [] x8_3 p317 (by first | exact q317 | exact of_decide_eq_true (by first | (with_reducible assumption) | assumption) | (have e_ := (Kd.S_reads' HO_3.out).1; omega))
                   obtain ⟨ve317_0, rfl, ge317_0⟩ := hMe317
                   have hv317_0 := hcc317 0 _ rfl
                   rw [Nat.add_zero, show ((Kd.slice 3 (Kd.int .i64))).sz = 1 from rfl, Nat.mul_one] at hv317_0
                   replace hv317_0 := Option.some.inj (hv317_0.symm.trans hx317_0)
                   rw [hv317_0] at ge317_0
                   have HL317_0 := Aside0.mk (show Kd.R (Kd.int .i64) 3 _ _ _ _ (rd_L1 t308 x8_3) from ge317_0)
                   clear hv317_0 ge317_0
                   clear hcc317 hce317
                   have HR317_0 := Aside0.mk hi317_0
                   have HC317_0 := Aside0.mk hl317_0
                   clear hi317_0 hl317_0
                   replace p317 := eq_true p317
                   replace q317 := eq_true q317
                   have p318 : 0 ≤ (x8_3 : Int) := of_decide_eq_true (by first | (with_reducible assumption) | assumption)
                   have q318 : x8_3 < (t308.length : Int) := of_decide_eq_true (by first | (with_reducible assumption) | assumption)
                   obtain ⟨ad318, A318_0, c318_0, e318, hx318_0, hl318_0, hi318_0⟩ := at_L1 (Kd.S_reads' HO_3.out).2.2 x8_3 p318 q318
                   obtain rfl : ad317 = ad318 := (by injection e318)
                   obtain ⟨ce318, hce318, hMe318, hcc318⟩ := Kd.S_get HO_3.out [] x8_3 p318 (by first | exact q318 | exact of_decide_eq_true (by first | (with_reducible assumption) | assumption) | (have e_ := (Kd.S_reads' HO_3.out).1; omega))
                   obtain ⟨ve318_0, rfl, ge318_0⟩ := hMe318
                   have hv318_0 := hcc318 0 _ rfl
                   rw [Nat.add_zero, show ((Kd.slice 3 (Kd.int .i64))).sz = 1 from rfl, Nat.mul_one] at hv318_0
                   replace hv318_0 := Option.some.inj (hv318_0.symm.trans hx318_0)
                   rw [hv318_0] at ge318_0
                   have HL318_0 := Aside0.mk (show Kd.R (Kd.int .i64) 3 _ _ _ _ (rd_L1 t308 x8_3) from ge318_0)
                   clear hv318_0 ge318_0
                   clear hcc318 hce318
                   have HR318_0 := Aside0.mk hi318_0
                   have HC318_0 := Aside0.mk hl318_0
                   clear hi318_0 hl318_0
                   replace p318 := eq_true p318
                   replace q318 := eq_true q318
                   have ea_ := Option.some.inj (hx317_0.symm.trans hx318_0)
                   injection ea_ with ea_ en_ ec_
                   subst ea_
                   subst ec_
                   clear en_
                   have p319 : 0 ≤ (x10_4 : Int) := of_decide_eq_true (by first | (with_reducible assumption) | assumption)
                   have q319 : x10_4 < ((rd_L1 t308 x8_3).length : Int) := of_decide_eq_true (by first | (with_reducible assumption) | assumption)
                   obtain ⟨ad319, e319, hx319_0⟩ := Kd.at_int (by repeat (first | (with_reducible exact HR318_0.out) | (with_reducible refine Kd.C_alloc ?_ _) | (with_reducible refine Kd.C_drewN ?_ _) | (with_reducible refine Kd.C_drew ?_) | exact HR318_0.out)) x10_4 p319 q319
                   cases e319
                   replace p319 := eq_true p319
                   replace q319 := eq_true q319
                   go_upto_region 21 with (fail)
                   repeat (go_quiet (fail); go_upto_region 21 with (fail))
                   go_cut [99] (fun v99 wc => ∃ (kq : Nat) (x99_28 : Bool), v99 = .bool x99_28 ∧ Aside0 (commodatumlaw10_MonoidParts.j4 kq l0 t308 x5_4 x6_2 x8_3 x9_4 x10_4 (rd (rd_L1 t308 x8_3) x10_4) x99_28 = some r) ∧ Aside0 (kq ≤ k4) ∧ Aside0 (Kd.S (Kd.slice 3 (Kd.int .i64)) 30 wc w.heap.size (fun k_ => some k_ ≠ (v313 : Value).ownBlock) (.slice (some ad317) t308.length co24) t308) ∧ Aside0 (Kd.R (Kd.int .i64) 3 wc w.heap.size (fun _ => True) v313 x5_4) ∧ Aside0 (Kd.C (Kd.int .i64) wc (some ad319) (rd_L1 t308 x8_3).length (rd_L1 t308 x8_3)) ∧ Aside0 (Kd.C (Kd.int .i64) wc (some ad319) (rd_L1 t308 x8_3).length (rd_L1 t308 x8_3)) ∧ Aside0 (Below w.heap.size w wc))
                   case first =>
                    have H := HC29.out
                    clear HC29
                    by_cases c30 : (rd (rd_L1 t308 x8_3) x10_4) < 0
                    ·rw [if_pos c30] at H
                     have c30b0 : decide ((rd (rd_L1 t308 x8_3) x10_4) < 0) = true := decide_eq_true c30
                     clear c30
                     (first | rw [c30b0] | (simp only [i64_w, i32_w]; rw [c30b0]) | skip)
                     have H' := Aside0.mk H
                     clear H
                     go_wp2
                     repeat (go_quiet (fail); try go_wp2)
                     go_meet
                     case rel => exact ⟨_, (true), (by first | rfl | (simp; done) | (simp [*]; done)), H', ⟨by have := HJ1.out; have := HK2.out; have := HK3.out; have := HK4.out; first | omega | exact Nat.le_refl _⟩, ⟨by (with_reducible repeat (first | apply Kd.S_alloc | apply Kd.S_drewN | apply Kd.S_drew)); exact HO_3.out⟩, ⟨by (with_reducible repeat (first | apply Kd.R_alloc | apply Kd.R_drewN | apply Kd.R_drew)); exact HO_5.out⟩, ⟨by repeat (first | (with_reducible exact HR317_0.out) | (with_reducible refine Kd.C_alloc ?_ _) | (with_reducible refine Kd.C_drewN ?_ _) | (with_reducible refine Kd.C_drew ?_) | exact HR317_0.out)⟩, ⟨by repeat (first | (with_reducible exact HR318_0.out) | (with_reducible refine Kd.C_alloc ?_ _) | (with_reducible refine Kd.C_drewN ?_ _) | (with_reducible refine Kd.C_drew ?_) | exact HR318_0.out)⟩, ⟨by repeat (first | (with_reducible first | exact HB.out | apply below_alloc | apply pw_below_drewN | apply below_drew1) | exact HB.out)⟩⟩
                    ·rw [if_neg c30] at H
                     have c30b0 : decide ((rd (rd_L1 t308 x8_3) x10_4) < 0) = false := decide_eq_false c30
                     clear c30
                     (first | rw [c30b0] | (simp only [i64_w, i32_w]; rw [c30b0]) | skip)
                     by_cases c31 : (rd (rd_L1 t308 x8_3) x10_4) ≥ (l0.length : Int)
                     ·rw [if_pos c31] at H
                      have c31b0 : decide ((l0.length : Int) ≤ (rd (rd_L1 t308 x8_3) x10_4)) = true := decide_eq_true c31
                      clear c31
                      have H' := Aside0.mk H
                      clear H
                      go_wp2
                      repeat (go_quiet (fail); try go_wp2)
                      go_meet
                      case rel => exact ⟨_, (true), (by first | rfl | (simp; done) | (simp [*]; done)), H', ⟨by have := HJ1.out; have := HK2.out; have := HK3.out; have := HK4.out; first | omega | exact Nat.le_refl _⟩, ⟨by (with_reducible repeat (first | apply Kd.S_alloc | apply Kd.S_drewN | apply Kd.S_drew)); exact HO_3.out⟩, ⟨by (with_reducible repeat (first | apply Kd.R_alloc | apply Kd.R_drewN | apply Kd.R_drew)); exact HO_5.out⟩, ⟨by repeat (first | (with_reducible exact HR317_0.out) | (with_reducible refine Kd.C_alloc ?_ _) | (with_reducible refine Kd.C_drewN ?_ _) | (with_reducible refine Kd.C_drew ?_) | exact HR317_0.out)⟩, ⟨by repeat (first | (with_reducible exact HR318_0.out) | (with_reducible refine Kd.C_alloc ?_ _) | (with_reducible refine Kd.C_drewN ?_ _) | (with_reducible refine Kd.C_drew ?_) | exact HR318_0.out)⟩, ⟨by repeat (first | (with_reducible first | exact HB.out | apply below_alloc | apply pw_below_drewN | apply below_drew1) | exact HB.out)⟩⟩
                     ·rw [if_neg c31] at H
                      have c31b0 : decide ((l0.length : Int) ≤ (rd (rd_L1 t308 x8_3) x10_4)) = false := decide_eq_false c31
                      clear c31
                      by_cases c32 : x10_4 > 0
                      ·rw [if_pos c32] at H
                       have c32b0 : decide (0 < x10_4) = true := decide_eq_true c32
                       clear c32
                       obtain ⟨ji33, hji33⟩ : ∃ j_ : Int, (wrap64 (x10_4 - 1)) = j_ := ⟨_, rfl⟩
                       replace H : (if 0 ≤ (ji33) then (if (ji33) < ((rd_L1 t308 x8_3).length : Int) then (commodatumlaw10_MonoidParts.j4 k4 l0 t308 x5_4 x6_2 x8_3 x9_4 x10_4 (rd (rd_L1 t308 x8_3) x10_4) (decide ((rd (rd_L1 t308 x8_3) x10_4) ≤ (rd (rd_L1 t308 x8_3) (ji33))))) else (none)) else (none)) = some r := by first | (rw [hji33] at H; exact H) | (simp only [hji33] at H ⊢; exact H)
                       have hji33w : (IntKind.i64.wrap (x10_4 - 1)) = ji33 := (i64_w _).trans hji33
                       by_cases c34 : 0 ≤ (ji33)
                       ·rw [if_pos c34] at H
                        have c34b0 : decide (0 ≤ (ji33)) = true := decide_eq_true c34
                        clear c34
                        by_cases c35 : (ji33) < ((rd_L1 t308 x8_3).length : Int)
                        ·rw [if_pos c35] at H
                         have c35b0 : decide ((ji33) < ((rd_L1 t308 x8_3).length : Int)) = true := decide_eq_true c35
                         clear c35
                         have H' := Aside0.mk H
                         clear H
                         have p320 : 0 ≤ (x8_3 : Int) := of_decide_eq_true (by first | (with_reducible assumption) | assumption)
                         have q320 : x8_3 < (t308.length : Int) := of_decide_eq_true (by first | (with_reducible assumption) | assumption)
                         obtain ⟨ad320, A320_0, c320_0, e320, hx320_0, hl320_0, hi320_0⟩ := at_L1 (Kd.S_reads' HO_3.out).2.2 x8_3 p320 q320
                         obtain rfl : ad317 = ad320 := (by injection e320)
                         obtain ⟨ce320, hce320, hMe320, hcc320⟩ := Kd.S_get HO_3.out [] x8_3 p320 (by first | exact q320 | exact of_decide_eq_true (by first | (with_reducible assumption) | assumption) | (have e_ := (Kd.S_reads' HO_3.out).1; omega))
                         obtain ⟨ve320_0, rfl, ge320_0⟩ := hMe320
                         have hv320_0 := hcc320 0 _ rfl
                         rw [Nat.add_zero, show ((Kd.slice 3 (Kd.int .i64))).sz = 1 from rfl, Nat.mul_one] at hv320_0
                         replace hv320_0 := Option.some.inj (hv320_0.symm.trans hx320_0)
                         rw [hv320_0] at ge320_0
                         have HL320_0 := Aside0.mk (show Kd.R (Kd.int .i64) 3 _ _ _ _ (rd_L1 t308 x8_3) from ge320_0)
                         clear hv320_0 ge320_0
                         clear hcc320 hce320
                         have HR320_0 := Aside0.mk hi320_0
                         have HC320_0 := Aside0.mk hl320_0
                         clear hi320_0 hl320_0
                         replace p320 := eq_true p320
                         replace q320 := eq_true q320
                         (try (have ea_ := Option.some.inj (hx317_0.symm.trans hx320_0); injection ea_ with ea_ en_ ec_; subst ea_; subst ec_; clear en_))
                         have p321 : 0 ≤ ((ji33) : Int) := of_decide_eq_true (by first | (with_reducible assumption) | assumption)
                         have q321 : (ji33) < ((rd_L1 t308 x8_3).length : Int) := of_decide_eq_true (by first | (with_reducible assumption) | assumption)
                         obtain ⟨ad321, e321, hx321_0⟩ := Kd.at_int (by repeat (first | (with_reducible exact HR320_0.out) | (with_reducible refine Kd.C_alloc ?_ _) | (with_reducible refine Kd.C_drewN ?_ _) | (with_reducible refine Kd.C_drew ?_) | exact HR320_0.out)) (ji33) p321 q321
                         cases e321
                         replace p321 := eq_true p321
                         replace q321 := eq_true q321
                         go_wp2
                         repeat (go_quiet (fail); try go_wp2)
                         go_meet
                         case rel => exact ⟨_, (decide ((rd (rd_L1 t308 x8_3) x10_4) ≤ (rd (rd_L1 t308 x8_3) (ji33)))), (by first | rfl | (simp; done) | (simp only [← hji33] <;> (first | rfl | simp)) | (simp [*]; done)), H', ⟨by have := HJ1.out; have := HK2.out; have := HK3.out; have := HK4.out; first | omega | exact Nat.le_refl _⟩, ⟨by (with_reducible repeat (first | apply Kd.S_alloc | apply Kd.S_drewN | apply Kd.S_drew)); exact HO_3.out⟩, ⟨by (with_reducible repeat (first | apply Kd.R_alloc | apply Kd.R_drewN | apply Kd.R_drew)); exact HO_5.out⟩, ⟨by repeat (first | (with_reducible exact HR317_0.out) | (with_reducible refine Kd.C_alloc ?_ _) | (with_reducible refine Kd.C_drewN ?_ _) | (with_reducible refine Kd.C_drew ?_) | exact HR317_0.out)⟩, ⟨by repeat (first | (with_reducible exact HR318_0.out) | (with_reducible refine Kd.C_alloc ?_ _) | (with_reducible refine Kd.C_drewN ?_ _) | (with_reducible refine Kd.C_drew ?_) | exact HR318_0.out)⟩, ⟨by repeat (first | (with_reducible first | exact HB.out | apply below_alloc | apply pw_below_drewN | apply below_drew1) | exact HB.out)⟩⟩
                        ·rw [if_neg c35] at H
                         exact absurd H (by simp)
                       ·rw [if_neg c34] at H
                        exact absurd H (by simp)
                      ·rw [if_neg c32] at H
                       have c32b0 : decide (0 < x10_4) = false := decide_eq_false c32
                       clear c32
                       have H' := Aside0.mk H
                       clear H
                       go_wp2
                       repeat (go_quiet (fail); try go_wp2)
                       go_meet
                       case rel => exact ⟨_, (false), (by first | rfl | (simp; done) | (simp [*]; done)), H', ⟨by have := HJ1.out; have := HK2.out; have := HK3.out; have := HK4.out; first | omega | exact Nat.le_refl _⟩, ⟨by (with_reducible repeat (first | apply Kd.S_alloc | apply Kd.S_drewN | apply Kd.S_drew)); exact HO_3.out⟩, ⟨by (with_reducible repeat (first | apply Kd.R_alloc | apply Kd.R_drewN | apply Kd.R_drew)); exact HO_5.out⟩, ⟨by repeat (first | (with_reducible exact HR317_0.out) | (with_reducible refine Kd.C_alloc ?_ _) | (with_reducible refine Kd.C_drewN ?_ _) | (with_reducible refine Kd.C_drew ?_) | exact HR317_0.out)⟩, ⟨by repeat (first | (with_reducible exact HR318_0.out) | (with_reducible refine Kd.C_alloc ?_ _) | (with_reducible refine Kd.C_drewN ?_ _) | (with_reducible refine Kd.C_drew ?_) | exact HR318_0.out)⟩, ⟨by repeat (first | (with_reducible first | exact HB.out | apply below_alloc | apply pw_below_drewN | apply below_drew1) | exact HB.out)⟩⟩
                   case rest => as_aux_lemma =>
                    clear HC29
                    try clear c1
                    try clear c2
                    try clear p2
                    try clear c3
                    try clear p3
                    try clear q3
                    try clear hx3
                    try clear c4
                    try clear c6
                    try clear p6
                    try clear c11
                    try clear c11b0
                    try clear c11b1
                    try clear c12
                    try clear c12b0
                    try clear c12b1
                    try clear c13
                    try clear c13b0
                    try clear c13b1
                    try clear c19
                    try clear c19b0
                    try clear c20
                    try clear c20b0
                    try clear c21
                    try clear c21b0
                    try clear c22
                    try clear c22b0
                    try clear c22b1
                    try clear c23
                    try clear c23b0
                    try clear c25
                    try clear c25b0
                    try clear c26
                    try clear c26b0
                    try clear c27
                    try clear c27b0
                    try clear c28
                    try clear c28b0
                    try clear c30
                    try clear c30b0
                    try clear c31
                    try clear c31b0
                    try clear p31
                    try clear q31
                    try clear hx31
                    try clear c32
                    try clear c32b0
                    try clear p32
                    try clear q32
                    try clear hx32
                    try clear c34
                    try clear c34b0
                    try clear c35
                    try clear c35b0
                    try clear hx315_0
                    try clear hx316_0
                    try clear hx317_0
                    try clear hx318_0
                    try clear hx319_0
                    try clear hx320_0
                    try clear hx321_0
                    try clear p2
                    try clear p3
                    try clear p315
                    try clear p316
                    try clear p317
                    try clear p318
                    try clear p319
                    try clear p320
                    try clear p321
                    try clear p6
                    try clear q3
                    try clear q315
                    try clear q316
                    try clear q317
                    try clear q318
                    try clear q319
                    try clear q320
                    try clear q321
                    obtain ⟨kq, x99_28, rfl, HA, HJ28, HO_3, HO_5, HR317_0, HR318_0, HB⟩ := hcut
                    cases kq with
                    | zero => exact absurd HA.out (by simp [commodatumlaw10_MonoidParts.j4])
                    | succ kj28 =>
                     have H := HA.out
                     clear HA
                     simp only [commodatumlaw10_MonoidParts.j4] at H
                     by_cases c36 : x99_28 = true
                     ·subst c36
                      have H1 : (none) = some r := by rw [if_pos rfl] at H; exact H
                      clear H
                      have H := H1
                      clear H1
                      exact absurd H (by simp)
                     ·replace c36 := Bool.eq_false_iff.mpr c36
                      subst c36
                      have H1 : (if 0 ≤ (rd (rd_L1 t308 x8_3) x10_4) then (if (rd (rd_L1 t308 x8_3) x10_4) < (x5_4.length : Int) then ((some (x5_4.set ((rd (rd_L1 t308 x8_3) x10_4) : Int).toNat (wrap64 ((rd x5_4 (rd (rd_L1 t308 x8_3) x10_4)) + 1)) : List Int)).bind fun y323 => (if (rd (rd_L1 t308 x8_3) x10_4) < (l0.length : Int) then (if (rd (rd_L1 t308 x8_3) x10_4) < ((rd_L1 l0 (rd (rd_L1 t308 x8_3) x10_4)).length : Int) then (if (rd (rd_L1 l0 (rd (rd_L1 t308 x8_3) x10_4)) (rd (rd_L1 t308 x8_3) x10_4)) = (rd (rd_L1 t308 x8_3) x10_4) then (if x9_4 ≥ 0 then (none) else (commodatumlaw10_MonoidParts.l2 kj28 l0 t308 y323 x6_2 x8_3 (rd (rd_L1 t308 x8_3) x10_4) (wrap64 (x10_4 + 1)))) else (commodatumlaw10_MonoidParts.l2 kj28 l0 t308 y323 x6_2 x8_3 x9_4 (wrap64 (x10_4 + 1)))) else (none)) else (none))) else (none)) else (none)) = some r := by rw [if_neg (show ¬ (false = true) by decide)] at H; exact H
                      clear H
                      have H := H1
                      clear H1
                      by_cases c37 : 0 ≤ (rd (rd_L1 t308 x8_3) x10_4)
                      ·rw [if_pos c37] at H
                       have c37b0 : decide (0 ≤ (rd (rd_L1 t308 x8_3) x10_4)) = true := decide_eq_true c37
                       clear c37
                       by_cases c38 : (rd (rd_L1 t308 x8_3) x10_4) < (x5_4.length : Int)
                       ·rw [if_pos c38] at H
                        have c38b0 : decide ((rd (rd_L1 t308 x8_3) x10_4) < (x5_4.length : Int)) = true := decide_eq_true c38
                        clear c38
                        obtain ⟨y323, hy323⟩ : ∃ y_ : List Int, y_ = (x5_4.set ((rd (rd_L1 t308 x8_3) x10_4) : Int).toNat (wrap64 ((rd x5_4 (rd (rd_L1 t308 x8_3) x10_4)) + 1))) := ⟨_, rfl⟩
                        replace H : (if (rd (rd_L1 t308 x8_3) x10_4) < (l0.length : Int) then (if (rd (rd_L1 t308 x8_3) x10_4) < ((rd_L1 l0 (rd (rd_L1 t308 x8_3) x10_4)).length : Int) then (if (rd (rd_L1 l0 (rd (rd_L1 t308 x8_3) x10_4)) (rd (rd_L1 t308 x8_3) x10_4)) = (rd (rd_L1 t308 x8_3) x10_4) then (if x9_4 ≥ 0 then (none) else (commodatumlaw10_MonoidParts.l2 kj28 l0 t308 y323 x6_2 x8_3 (rd (rd_L1 t308 x8_3) x10_4) (wrap64 (x10_4 + 1)))) else (commodatumlaw10_MonoidParts.l2 kj28 l0 t308 y323 x6_2 x8_3 x9_4 (wrap64 (x10_4 + 1)))) else (none)) else (none)) = some r := by first | (rw [hy323]; with_reducible exact H) | (have H2_ := (Option.bind_some _ _).symm.trans H; rw [hy323]; with_reducible exact H2_) | (have H2_ := (Option.bind_some _ _).symm.trans H; with_reducible exact H2_) | with_reducible exact H | (rw [hy323]; exact H) | exact H
                        have Ny323 := Aside0.mk hy323
                        clear hy323
                        by_cases c40 : (rd (rd_L1 t308 x8_3) x10_4) < (l0.length : Int)
                        ·rw [if_pos c40] at H
                         have c40b0 : decide ((rd (rd_L1 t308 x8_3) x10_4) < (l0.length : Int)) = true := decide_eq_true c40
                         clear c40
                         by_cases c41 : (rd (rd_L1 t308 x8_3) x10_4) < ((rd_L1 l0 (rd (rd_L1 t308 x8_3) x10_4)).length : Int)
                         ·rw [if_pos c41] at H
                          have c41b0 : decide ((rd (rd_L1 t308 x8_3) x10_4) < ((rd_L1 l0 (rd (rd_L1 t308 x8_3) x10_4)).length : Int)) = true := decide_eq_true c41
                          clear c41
                          by_cases c42 : (rd (rd_L1 l0 (rd (rd_L1 t308 x8_3) x10_4)) (rd (rd_L1 t308 x8_3) x10_4)) = (rd (rd_L1 t308 x8_3) x10_4)
                          ·rw [if_pos c42] at H
                           have c42b0 : ((rd (rd_L1 l0 (rd (rd_L1 t308 x8_3) x10_4)) (rd (rd_L1 t308 x8_3) x10_4)) == (rd (rd_L1 t308 x8_3) x10_4)) = true := beq_iff_eq.mpr c42
                           have c42b1 : ((rd (rd_L1 l0 (rd (rd_L1 t308 x8_3) x10_4)) (rd (rd_L1 t308 x8_3) x10_4)) != (rd (rd_L1 t308 x8_3) x10_4)) = false := bne_eq_false_iff_eq.mpr c42
                           clear c42
                           by_cases c43 : x9_4 ≥ 0
                           ·rw [if_pos c43] at H
                            exact absurd H (by simp)
                           ·rw [if_neg c43] at H
                            have c43b0 : decide (0 ≤ x9_4) = false := decide_eq_false c43
                            clear c43
                            have H' := Aside0.mk H
                            clear H
                            obtain ⟨Ao44, co44, eo44⟩ := Kd.R_slice HO_5.out
                            subst eo44
                            have p322 : 0 ≤ ((rd (rd_L1 t308 x8_3) x10_4) : Int) := of_decide_eq_true (by first | (with_reducible assumption) | assumption)
                            have q322 : (rd (rd_L1 t308 x8_3) x10_4) < (x5_4.length : Int) := of_decide_eq_true (by first | (with_reducible assumption) | assumption)
                            obtain ⟨ad322, e322, hx322_0⟩ := Kd.at_int (Kd.R_reads' HO_5.out).2.2 (rd (rd_L1 t308 x8_3) x10_4) p322 q322
                            cases e322
                            replace p322 := eq_true p322
                            replace q322 := eq_true q322
                            have p39 : 0 ≤ ((rd (rd_L1 t308 x8_3) x10_4) : Int) := of_decide_eq_true (by first | (with_reducible assumption) | assumption)
                            have q39 : ((rd (rd_L1 t308 x8_3) x10_4) : Int) < ((x5_4.length : Int) : Int) := of_decide_eq_true (by first | (with_reducible assumption) | assumption)
                            obtain ⟨go39, co39, eo39, gb39, gl39, cl39, HG39⟩ := Kd.R_form HO_5.out (by omega)
                            (first | cases eo39 | (injection eo39 with ea_ en_ ec_; (first | subst ea_ | (injection ea_ with ea_; subst ea_)); subst ec_; clear en_))
                            have GB39 := Aside0.mk gb39
                            have GG39 := Aside0.mk HG39
                            clear gb39 gl39 HG39
                            (first | simp only [add_plain] at hx322_0 | skip)
                            obtain ⟨hx39_0, hf39_0⟩ := Kd.R_celln 0 HO_5.out ((rd (rd_L1 t308 x8_3) x10_4) : Int) p39 q39
                            replace p39 := eq_true p39
                            replace q39 := eq_true q39
                            have HP45 := Kd.R_putg HO_5.out ((rd (rd_L1 t308 x8_3) x10_4) : Int) (wrap64 ((rd x5_4 (rd (rd_L1 t308 x8_3) x10_4)) + 1))
                            go_wp2_with (first | ((with_reducible refine gate_store (t := 3) (p := 105) rfl ?_); (try (rw [drewN_self wc]; generalize hq_ : World.drewN wc _ = wc; have n0_ := Aside0.mk (Kd.S_at hq_ HO_3.out); have n1_ := Aside0.mk (Kd.R_at hq_ HO_5.out); have n2_ := Aside0.mk (below_at hq_ HB.out); clear hq_ HO_3 HO_5 HB; have HO_3 := n0_; have HO_5 := n1_; have HB := n2_; clear n0_ n1_ n2_; (try (have HP45 := Kd.R_putg HO_5.out ((rd (rd_L1 t308 x8_3) x10_4) : Int) (wrap64 ((rd x5_4 (rd (rd_L1 t308 x8_3) x10_4)) + 1)))))); refine store_event (t := 3) (p := 105) (v := ?vo_w46) (w1 := (wc.setCell ⟨go39, ((rd (rd_L1 t308 x8_3) x10_4) : Int).toNat, none⟩ (.int .i64 (wrap64 ((rd x5_4 (rd (rd_L1 t308 x8_3) x10_4)) + 1))))) ?hg ?ho ?hn ?hr ?_; (case ho => rfl); (case hg => rfl); (case hn => rfl); (case hr => first | (go_simp; done) | (go_simp; rfl)); intro w46 hw; have hg : wc.grownBy w46 (some go39) := (by rw [hw]; exact HP45.2); have hp_ : Kd.R (Kd.int .i64) 3 w46 w.heap.size (fun _ => True) (.slice (some ⟨go39, 0, none⟩) x5_4.length co44) y323 := (by rw [hw, Ny323.out]; exact HP45.1); clear HP45; have n0_ := Aside0.mk (Kd.S_after (v := (.slice (some ⟨go39, 0, none⟩) x5_4.length co44)) (v1 := (.slice (some ⟨go39, 0, none⟩) x5_4.length co44)) (ok := (fun _ => True)) (by (with_reducible repeat (first | apply Kd.S_alloc | apply Kd.S_drewN | apply Kd.S_drew)); exact Kd.S_mono HO_3.out (fun _ hk => ⟨trivial, hk⟩)) hg (.inl rfl)); have n1_ := Aside0.mk (hp_); have n2_ := Aside0.mk ((by rw [hw]; exact below_set (HB.out) GB39.out : Below w.heap.size w w46)); clear HO_3; clear HO_5; clear HB; have HO_3 := n0_; have HO_5 := n1_; have HB := n2_; clear n0_ n1_ n2_; clear hg hw hp_; have p324 : 0 ≤ ((rd (rd_L1 t308 x8_3) x10_4) : Int) := of_decide_eq_true (by first | (with_reducible assumption) | assumption); have q324 : (rd (rd_L1 t308 x8_3) x10_4) < (l0.length : Int) := of_decide_eq_true (by first | (with_reducible assumption) | assumption); obtain ⟨ad324, A324_0, c324_0, e324, hx324_0, hl324_0, hi324_0⟩ := at_L1 HR0.out (rd (rd_L1 t308 x8_3) x10_4) p324 q324; cases e324; replace hx324_0 := (HB.out.cell (World.block_lt_of_cell? w _ hx324_0)).trans hx324_0; have HR324_0 := Aside0.mk hi324_0; have HC324_0 := Aside0.mk hl324_0; clear hi324_0 hl324_0; replace p324 := eq_true p324; replace q324 := eq_true q324; have p325 : 0 ≤ ((rd (rd_L1 t308 x8_3) x10_4) : Int) := of_decide_eq_true (by first | (with_reducible assumption) | assumption); have q325 : (rd (rd_L1 t308 x8_3) x10_4) < ((rd_L1 l0 (rd (rd_L1 t308 x8_3) x10_4)).length : Int) := of_decide_eq_true (by first | (with_reducible assumption) | assumption); obtain ⟨ad325, e325, hx325_0⟩ := Kd.at_int HR324_0.out (rd (rd_L1 t308 x8_3) x10_4) p325 q325; cases e325; replace hx325_0 := (HB.out.cell (World.block_lt_of_cell? w _ hx325_0)).trans hx325_0; replace p325 := eq_true p325; replace q325 := eq_true q325))
                            repeat (go_quiet (first | ((with_reducible refine gate_store (t := 3) (p := 105) rfl ?_); (try (rw [drewN_self wc]; generalize hq_ : World.drewN wc _ = wc; have n0_ := Aside0.mk (Kd.S_at hq_ HO_3.out); have n1_ := Aside0.mk (Kd.R_at hq_ HO_5.out); have n2_ := Aside0.mk (below_at hq_ HB.out); clear hq_ HO_3 HO_5 HB; have HO_3 := n0_; have HO_5 := n1_; have HB := n2_; clear n0_ n1_ n2_; (try (have HP45 := Kd.R_putg HO_5.out ((rd (rd_L1 t308 x8_3) x10_4) : Int) (wrap64 ((rd x5_4 (rd (rd_L1 t308 x8_3) x10_4)) + 1)))))); refine store_event (t := 3) (p := 105) (v := ?vo_w46) (w1 := (wc.setCell ⟨go39, ((rd (rd_L1 t308 x8_3) x10_4) : Int).toNat, none⟩ (.int .i64 (wrap64 ((rd x5_4 (rd (rd_L1 t308 x8_3) x10_4)) + 1))))) ?hg ?ho ?hn ?hr ?_; (case ho => rfl); (case hg => rfl); (case hn => rfl); (case hr => first | (go_simp; done) | (go_simp; rfl)); intro w46 hw; have hg : wc.grownBy w46 (some go39) := (by rw [hw]; exact HP45.2); have hp_ : Kd.R (Kd.int .i64) 3 w46 w.heap.size (fun _ => True) (.slice (some ⟨go39, 0, none⟩) x5_4.length co44) y323 := (by rw [hw, Ny323.out]; exact HP45.1); clear HP45; have n0_ := Aside0.mk (Kd.S_after (v := (.slice (some ⟨go39, 0, none⟩) x5_4.length co44)) (v1 := (.slice (some ⟨go39, 0, none⟩) x5_4.length co44)) (ok := (fun _ => True)) (by (with_reducible repeat (first | apply Kd.S_alloc | apply Kd.S_drewN | apply Kd.S_drew)); exact Kd.S_mono HO_3.out (fun _ hk => ⟨trivial, hk⟩)) hg (.inl rfl)); have n1_ := Aside0.mk (hp_); have n2_ := Aside0.mk ((by rw [hw]; exact below_set (HB.out) GB39.out : Below w.heap.size w w46)); clear HO_3; clear HO_5; clear HB; have HO_3 := n0_; have HO_5 := n1_; have HB := n2_; clear n0_ n1_ n2_; clear hg hw hp_; have p324 : 0 ≤ ((rd (rd_L1 t308 x8_3) x10_4) : Int) := of_decide_eq_true (by first | (with_reducible assumption) | assumption); have q324 : (rd (rd_L1 t308 x8_3) x10_4) < (l0.length : Int) := of_decide_eq_true (by first | (with_reducible assumption) | assumption); obtain ⟨ad324, A324_0, c324_0, e324, hx324_0, hl324_0, hi324_0⟩ := at_L1 HR0.out (rd (rd_L1 t308 x8_3) x10_4) p324 q324; cases e324; replace hx324_0 := (HB.out.cell (World.block_lt_of_cell? w _ hx324_0)).trans hx324_0; have HR324_0 := Aside0.mk hi324_0; have HC324_0 := Aside0.mk hl324_0; clear hi324_0 hl324_0; replace p324 := eq_true p324; replace q324 := eq_true q324; have p325 : 0 ≤ ((rd (rd_L1 t308 x8_3) x10_4) : Int) := of_decide_eq_true (by first | (with_reducible assumption) | assumption); have q325 : (rd (rd_L1 t308 x8_3) x10_4) < ((rd_L1 l0 (rd (rd_L1 t308 x8_3) x10_4)).length : Int) := of_decide_eq_true (by first | (with_reducible assumption) | assumption); obtain ⟨ad325, e325, hx325_0⟩ := Kd.at_int HR324_0.out (rd (rd_L1 t308 x8_3) x10_4) p325 q325; cases e325; replace hx325_0 := (HB.out.cell (World.block_lt_of_cell? w _ hx325_0)).trans hx325_0; replace p325 := eq_true p325; replace q325 := eq_true q325)); try go_wp2_with (first | ((with_reducible refine gate_store (t := 3) (p := 105) rfl ?_); (try (rw [drewN_self wc]; generalize hq_ : World.drewN wc _ = wc; have n0_ := Aside0.mk (Kd.S_at hq_ HO_3.out); have n1_ := Aside0.mk (Kd.R_at hq_ HO_5.out); have n2_ := Aside0.mk (below_at hq_ HB.out); clear hq_ HO_3 HO_5 HB; have HO_3 := n0_; have HO_5 := n1_; have HB := n2_; clear n0_ n1_ n2_; (try (have HP45 := Kd.R_putg HO_5.out ((rd (rd_L1 t308 x8_3) x10_4) : Int) (wrap64 ((rd x5_4 (rd (rd_L1 t308 x8_3) x10_4)) + 1)))))); refine store_event (t := 3) (p := 105) (v := ?vo_w46) (w1 := (wc.setCell ⟨go39, ((rd (rd_L1 t308 x8_3) x10_4) : Int).toNat, none⟩ (.int .i64 (wrap64 ((rd x5_4 (rd (rd_L1 t308 x8_3) x10_4)) + 1))))) ?hg ?ho ?hn ?hr ?_; (case ho => rfl); (case hg => rfl); (case hn => rfl); (case hr => first | (go_simp; done) | (go_simp; rfl)); intro w46 hw; have hg : wc.grownBy w46 (some go39) := (by rw [hw]; exact HP45.2); have hp_ : Kd.R (Kd.int .i64) 3 w46 w.heap.size (fun _ => True) (.slice (some ⟨go39, 0, none⟩) x5_4.length co44) y323 := (by rw [hw, Ny323.out]; exact HP45.1); clear HP45; have n0_ := Aside0.mk (Kd.S_after (v := (.slice (some ⟨go39, 0, none⟩) x5_4.length co44)) (v1 := (.slice (some ⟨go39, 0, none⟩) x5_4.length co44)) (ok := (fun _ => True)) (by (with_reducible repeat (first | apply Kd.S_alloc | apply Kd.S_drewN | apply Kd.S_drew)); exact Kd.S_mono HO_3.out (fun _ hk => ⟨trivial, hk⟩)) hg (.inl rfl)); have n1_ := Aside0.mk (hp_); have n2_ := Aside0.mk ((by rw [hw]; exact below_set (HB.out) GB39.out : Below w.heap.size w w46)); clear HO_3; clear HO_5; clear HB; have HO_3 := n0_; have HO_5 := n1_; have HB := n2_; clear n0_ n1_ n2_; clear hg hw hp_; have p324 : 0 ≤ ((rd (rd_L1 t308 x8_3) x10_4) : Int) := of_decide_eq_true (by first | (with_reducible assumption) | assumption); have q324 : (rd (rd_L1 t308 x8_3) x10_4) < (l0.length : Int) := of_decide_eq_true (by first | (with_reducible assumption) | assumption); obtain ⟨ad324, A324_0, c324_0, e324, hx324_0, hl324_0, hi324_0⟩ := at_L1 HR0.out (rd (rd_L1 t308 x8_3) x10_4) p324 q324; cases e324; replace hx324_0 := (HB.out.cell (World.block_lt_of_cell? w _ hx324_0)).trans hx324_0; have HR324_0 := Aside0.mk hi324_0; have HC324_0 := Aside0.mk hl324_0; clear hi324_0 hl324_0; replace p324 := eq_true p324; replace q324 := eq_true q324; have p325 : 0 ≤ ((rd (rd_L1 t308 x8_3) x10_4) : Int) := of_decide_eq_true (by first | (with_reducible assumption) | assumption); have q325 : (rd (rd_L1 t308 x8_3) x10_4) < ((rd_L1 l0 (rd (rd_L1 t308 x8_3) x10_4)).length : Int) := of_decide_eq_true (by first | (with_reducible assumption) | assumption); obtain ⟨ad325, e325, hx325_0⟩ := Kd.at_int HR324_0.out (rd (rd_L1 t308 x8_3) x10_4) p325 q325; cases e325; replace hx325_0 := (HB.out.cell (World.block_lt_of_cell? w _ hx325_0)).trans hx325_0; replace p325 := eq_true p325; replace q325 := eq_true q325)))
                            go_roundg kj28
                            case measure => have := HJ1.out; have := HK2.out; have := HK3.out; have := HK4.out; have := HJ28.out; omega
                            case rel => exact ⟨(y323), ((rd (rd_L1 t308 x8_3) x10_4)), (wrap64 (x10_4 + 1)), (by first | rfl | (simp; done) | (simp [*]; done)), (by first | rfl | (simp; done) | (simp [*]; done)), H', ⟨by have := HJ1.out; have := HK2.out; have := HK3.out; have := HK4.out; have := HJ28.out; omega⟩, ⟨by (with_reducible repeat (first | apply Kd.S_alloc | apply Kd.S_drewN | apply Kd.S_drew)); exact Kd.S_mono HO_3.out (fun _ hk => hk.2)⟩, ⟨by (with_reducible repeat (first | apply Kd.R_alloc | apply Kd.R_drewN | apply Kd.R_drew)); exact HO_5.out⟩, ⟨by repeat (first | (with_reducible first | exact HB.out | apply below_alloc | apply pw_below_drewN | apply below_drew1) | exact HB.out)⟩⟩
                          ·rw [if_neg c42] at H
                           have c42b0 : ((rd (rd_L1 l0 (rd (rd_L1 t308 x8_3) x10_4)) (rd (rd_L1 t308 x8_3) x10_4)) == (rd (rd_L1 t308 x8_3) x10_4)) = false := beq_eq_false_iff_ne.mpr c42
                           have c42b1 : ((rd (rd_L1 l0 (rd (rd_L1 t308 x8_3) x10_4)) (rd (rd_L1 t308 x8_3) x10_4)) != (rd (rd_L1 t308 x8_3) x10_4)) = true := bne_iff_ne.mpr c42
                           have H' := Aside0.mk H
                           clear H
                           obtain ⟨Ao47, co47, eo47⟩ := Kd.R_slice HO_5.out
                           subst eo47
                           have p322 : 0 ≤ ((rd (rd_L1 t308 x8_3) x10_4) : Int) := of_decide_eq_true (by first | (with_reducible assumption) | assumption)
                           have q322 : (rd (rd_L1 t308 x8_3) x10_4) < (x5_4.length : Int) := of_decide_eq_true (by first | (with_reducible assumption) | assumption)
                           obtain ⟨ad322, e322, hx322_0⟩ := Kd.at_int (Kd.R_reads' HO_5.out).2.2 (rd (rd_L1 t308 x8_3) x10_4) p322 q322
                           cases e322
                           replace p322 := eq_true p322
                           replace q322 := eq_true q322
                           have p39 : 0 ≤ ((rd (rd_L1 t308 x8_3) x10_4) : Int) := of_decide_eq_true (by first | (with_reducible assumption) | assumption)
                           have q39 : ((rd (rd_L1 t308 x8_3) x10_4) : Int) < ((x5_4.length : Int) : Int) := of_decide_eq_true (by first | (with_reducible assumption) | assumption)
                           obtain ⟨go39, co39, eo39, gb39, gl39, cl39, HG39⟩ := Kd.R_form HO_5.out (by omega)
                           (first | cases eo39 | (injection eo39 with ea_ en_ ec_; (first | subst ea_ | (injection ea_ with ea_; subst ea_)); subst ec_; clear en_))
                           have GB39 := Aside0.mk gb39
                           have GG39 := Aside0.mk HG39
                           clear gb39 gl39 HG39
                           (first | simp only [add_plain] at hx322_0 | skip)
                           obtain ⟨hx39_0, hf39_0⟩ := Kd.R_celln 0 HO_5.out ((rd (rd_L1 t308 x8_3) x10_4) : Int) p39 q39
                           replace p39 := eq_true p39
                           replace q39 := eq_true q39
                           have HP48 := Kd.R_putg HO_5.out ((rd (rd_L1 t308 x8_3) x10_4) : Int) (wrap64 ((rd x5_4 (rd (rd_L1 t308 x8_3) x10_4)) + 1))
                           go_wp2_with (first | ((with_reducible refine gate_store (t := 3) (p := 105) rfl ?_); (try (rw [drewN_self wc]; generalize hq_ : World.drewN wc _ = wc; have n0_ := Aside0.mk (Kd.S_at hq_ HO_3.out); have n1_ := Aside0.mk (Kd.R_at hq_ HO_5.out); have n2_ := Aside0.mk (below_at hq_ HB.out); clear hq_ HO_3 HO_5 HB; have HO_3 := n0_; have HO_5 := n1_; have HB := n2_; clear n0_ n1_ n2_; (try (have HP48 := Kd.R_putg HO_5.out ((rd (rd_L1 t308 x8_3) x10_4) : Int) (wrap64 ((rd x5_4 (rd (rd_L1 t308 x8_3) x10_4)) + 1)))))); refine store_event (t := 3) (p := 105) (v := ?vo_w49) (w1 := (wc.setCell ⟨go39, ((rd (rd_L1 t308 x8_3) x10_4) : Int).toNat, none⟩ (.int .i64 (wrap64 ((rd x5_4 (rd (rd_L1 t308 x8_3) x10_4)) + 1))))) ?hg ?ho ?hn ?hr ?_; (case ho => rfl); (case hg => rfl); (case hn => rfl); (case hr => first | (go_simp; done) | (go_simp; rfl)); intro w49 hw; have hg : wc.grownBy w49 (some go39) := (by rw [hw]; exact HP48.2); have hp_ : Kd.R (Kd.int .i64) 3 w49 w.heap.size (fun _ => True) (.slice (some ⟨go39, 0, none⟩) x5_4.length co47) y323 := (by rw [hw, Ny323.out]; exact HP48.1); clear HP48; have n0_ := Aside0.mk (Kd.S_after (v := (.slice (some ⟨go39, 0, none⟩) x5_4.length co47)) (v1 := (.slice (some ⟨go39, 0, none⟩) x5_4.length co47)) (ok := (fun _ => True)) (by (with_reducible repeat (first | apply Kd.S_alloc | apply Kd.S_drewN | apply Kd.S_drew)); exact Kd.S_mono HO_3.out (fun _ hk => ⟨trivial, hk⟩)) hg (.inl rfl)); have n1_ := Aside0.mk (hp_); have n2_ := Aside0.mk ((by rw [hw]; exact below_set (HB.out) GB39.out : Below w.heap.size w w49)); clear HO_3; clear HO_5; clear HB; have HO_3 := n0_; have HO_5 := n1_; have HB := n2_; clear n0_ n1_ n2_; clear hg hw hp_; have p324 : 0 ≤ ((rd (rd_L1 t308 x8_3) x10_4) : Int) := of_decide_eq_true (by first | (with_reducible assumption) | assumption); have q324 : (rd (rd_L1 t308 x8_3) x10_4) < (l0.length : Int) := of_decide_eq_true (by first | (with_reducible assumption) | assumption); obtain ⟨ad324, A324_0, c324_0, e324, hx324_0, hl324_0, hi324_0⟩ := at_L1 HR0.out (rd (rd_L1 t308 x8_3) x10_4) p324 q324; cases e324; replace hx324_0 := (HB.out.cell (World.block_lt_of_cell? w _ hx324_0)).trans hx324_0; have HR324_0 := Aside0.mk hi324_0; have HC324_0 := Aside0.mk hl324_0; clear hi324_0 hl324_0; replace p324 := eq_true p324; replace q324 := eq_true q324; have p325 : 0 ≤ ((rd (rd_L1 t308 x8_3) x10_4) : Int) := of_decide_eq_true (by first | (with_reducible assumption) | assumption); have q325 : (rd (rd_L1 t308 x8_3) x10_4) < ((rd_L1 l0 (rd (rd_L1 t308 x8_3) x10_4)).length : Int) := of_decide_eq_true (by first | (with_reducible assumption) | assumption); obtain ⟨ad325, e325, hx325_0⟩ := Kd.at_int HR324_0.out (rd (rd_L1 t308 x8_3) x10_4) p325 q325; cases e325; replace hx325_0 := (HB.out.cell (World.block_lt_of_cell? w _ hx325_0)).trans hx325_0; replace p325 := eq_true p325; replace q325 := eq_true q325))
                           repeat (go_quiet (first | ((with_reducible refine gate_store (t := 3) (p := 105) rfl ?_); (try (rw [drewN_self wc]; generalize hq_ : World.drewN wc _ = wc; have n0_ := Aside0.mk (Kd.S_at hq_ HO_3.out); have n1_ := Aside0.mk (Kd.R_at hq_ HO_5.out); have n2_ := Aside0.mk (below_at hq_ HB.out); clear hq_ HO_3 HO_5 HB; have HO_3 := n0_; have HO_5 := n1_; have HB := n2_; clear n0_ n1_ n2_; (try (have HP48 := Kd.R_putg HO_5.out ((rd (rd_L1 t308 x8_3) x10_4) : Int) (wrap64 ((rd x5_4 (rd (rd_L1 t308 x8_3) x10_4)) + 1)))))); refine store_event (t := 3) (p := 105) (v := ?vo_w49) (w1 := (wc.setCell ⟨go39, ((rd (rd_L1 t308 x8_3) x10_4) : Int).toNat, none⟩ (.int .i64 (wrap64 ((rd x5_4 (rd (rd_L1 t308 x8_3) x10_4)) + 1))))) ?hg ?ho ?hn ?hr ?_; (case ho => rfl); (case hg => rfl); (case hn => rfl); (case hr => first | (go_simp; done) | (go_simp; rfl)); intro w49 hw; have hg : wc.grownBy w49 (some go39) := (by rw [hw]; exact HP48.2); have hp_ : Kd.R (Kd.int .i64) 3 w49 w.heap.size (fun _ => True) (.slice (some ⟨go39, 0, none⟩) x5_4.length co47) y323 := (by rw [hw, Ny323.out]; exact HP48.1); clear HP48; have n0_ := Aside0.mk (Kd.S_after (v := (.slice (some ⟨go39, 0, none⟩) x5_4.length co47)) (v1 := (.slice (some ⟨go39, 0, none⟩) x5_4.length co47)) (ok := (fun _ => True)) (by (with_reducible repeat (first | apply Kd.S_alloc | apply Kd.S_drewN | apply Kd.S_drew)); exact Kd.S_mono HO_3.out (fun _ hk => ⟨trivial, hk⟩)) hg (.inl rfl)); have n1_ := Aside0.mk (hp_); have n2_ := Aside0.mk ((by rw [hw]; exact below_set (HB.out) GB39.out : Below w.heap.size w w49)); clear HO_3; clear HO_5; clear HB; have HO_3 := n0_; have HO_5 := n1_; have HB := n2_; clear n0_ n1_ n2_; clear hg hw hp_; have p324 : 0 ≤ ((rd (rd_L1 t308 x8_3) x10_4) : Int) := of_decide_eq_true (by first | (with_reducible assumption) | assumption); have q324 : (rd (rd_L1 t308 x8_3) x10_4) < (l0.length : Int) := of_decide_eq_true (by first | (with_reducible assumption) | assumption); obtain ⟨ad324, A324_0, c324_0, e324, hx324_0, hl324_0, hi324_0⟩ := at_L1 HR0.out (rd (rd_L1 t308 x8_3) x10_4) p324 q324; cases e324; replace hx324_0 := (HB.out.cell (World.block_lt_of_cell? w _ hx324_0)).trans hx324_0; have HR324_0 := Aside0.mk hi324_0; have HC324_0 := Aside0.mk hl324_0; clear hi324_0 hl324_0; replace p324 := eq_true p324; replace q324 := eq_true q324; have p325 : 0 ≤ ((rd (rd_L1 t308 x8_3) x10_4) : Int) := of_decide_eq_true (by first | (with_reducible assumption) | assumption); have q325 : (rd (rd_L1 t308 x8_3) x10_4) < ((rd_L1 l0 (rd (rd_L1 t308 x8_3) x10_4)).length : Int) := of_decide_eq_true (by first | (with_reducible assumption) | assumption); obtain ⟨ad325, e325, hx325_0⟩ := Kd.at_int HR324_0.out (rd (rd_L1 t308 x8_3) x10_4) p325 q325; cases e325; replace hx325_0 := (HB.out.cell (World.block_lt_of_cell? w _ hx325_0)).trans hx325_0; replace p325 := eq_true p325; replace q325 := eq_true q325)); try go_wp2_with (first | ((with_reducible refine gate_store (t := 3) (p := 105) rfl ?_); (try (rw [drewN_self wc]; generalize hq_ : World.drewN wc _ = wc; have n0_ := Aside0.mk (Kd.S_at hq_ HO_3.out); have n1_ := Aside0.mk (Kd.R_at hq_ HO_5.out); have n2_ := Aside0.mk (below_at hq_ HB.out); clear hq_ HO_3 HO_5 HB; have HO_3 := n0_; have HO_5 := n1_; have HB := n2_; clear n0_ n1_ n2_; (try (have HP48 := Kd.R_putg HO_5.out ((rd (rd_L1 t308 x8_3) x10_4) : Int) (wrap64 ((rd x5_4 (rd (rd_L1 t308 x8_3) x10_4)) + 1)))))); refine store_event (t := 3) (p := 105) (v := ?vo_w49) (w1 := (wc.setCell ⟨go39, ((rd (rd_L1 t308 x8_3) x10_4) : Int).toNat, none⟩ (.int .i64 (wrap64 ((rd x5_4 (rd (rd_L1 t308 x8_3) x10_4)) + 1))))) ?hg ?ho ?hn ?hr ?_; (case ho => rfl); (case hg => rfl); (case hn => rfl); (case hr => first | (go_simp; done) | (go_simp; rfl)); intro w49 hw; have hg : wc.grownBy w49 (some go39) := (by rw [hw]; exact HP48.2); have hp_ : Kd.R (Kd.int .i64) 3 w49 w.heap.size (fun _ => True) (.slice (some ⟨go39, 0, none⟩) x5_4.length co47) y323 := (by rw [hw, Ny323.out]; exact HP48.1); clear HP48; have n0_ := Aside0.mk (Kd.S_after (v := (.slice (some ⟨go39, 0, none⟩) x5_4.length co47)) (v1 := (.slice (some ⟨go39, 0, none⟩) x5_4.length co47)) (ok := (fun _ => True)) (by (with_reducible repeat (first | apply Kd.S_alloc | apply Kd.S_drewN | apply Kd.S_drew)); exact Kd.S_mono HO_3.out (fun _ hk => ⟨trivial, hk⟩)) hg (.inl rfl)); have n1_ := Aside0.mk (hp_); have n2_ := Aside0.mk ((by rw [hw]; exact below_set (HB.out) GB39.out : Below w.heap.size w w49)); clear HO_3; clear HO_5; clear HB; have HO_3 := n0_; have HO_5 := n1_; have HB := n2_; clear n0_ n1_ n2_; clear hg hw hp_; have p324 : 0 ≤ ((rd (rd_L1 t308 x8_3) x10_4) : Int) := of_decide_eq_true (by first | (with_reducible assumption) | assumption); have q324 : (rd (rd_L1 t308 x8_3) x10_4) < (l0.length : Int) := of_decide_eq_true (by first | (with_reducible assumption) | assumption); obtain ⟨ad324, A324_0, c324_0, e324, hx324_0, hl324_0, hi324_0⟩ := at_L1 HR0.out (rd (rd_L1 t308 x8_3) x10_4) p324 q324; cases e324; replace hx324_0 := (HB.out.cell (World.block_lt_of_cell? w _ hx324_0)).trans hx324_0; have HR324_0 := Aside0.mk hi324_0; have HC324_0 := Aside0.mk hl324_0; clear hi324_0 hl324_0; replace p324 := eq_true p324; replace q324 := eq_true q324; have p325 : 0 ≤ ((rd (rd_L1 t308 x8_3) x10_4) : Int) := of_decide_eq_true (by first | (with_reducible assumption) | assumption); have q325 : (rd (rd_L1 t308 x8_3) x10_4) < ((rd_L1 l0 (rd (rd_L1 t308 x8_3) x10_4)).length : Int) := of_decide_eq_true (by first | (with_reducible assumption) | assumption); obtain ⟨ad325, e325, hx325_0⟩ := Kd.at_int HR324_0.out (rd (rd_L1 t308 x8_3) x10_4) p325 q325; cases e325; replace hx325_0 := (HB.out.cell (World.block_lt_of_cell? w _ hx325_0)).trans hx325_0; replace p325 := eq_true p325; replace q325 := eq_true q325)))
                           go_roundg kj28
                           case measure => have := HJ1.out; have := HK2.out; have := HK3.out; have := HK4.out; have := HJ28.out; omega
                           case rel => exact ⟨(y323), (x9_4), (wrap64 (x10_4 + 1)), (by first | rfl | (simp; done) | (simp [*]; done)), (by first | rfl | (simp; done) | (simp [*]; done)), H', ⟨by have := HJ1.out; have := HK2.out; have := HK3.out; have := HK4.out; have := HJ28.out; omega⟩, ⟨by (with_reducible repeat (first | apply Kd.S_alloc | apply Kd.S_drewN | apply Kd.S_drew)); exact Kd.S_mono HO_3.out (fun _ hk => hk.2)⟩, ⟨by (with_reducible repeat (first | apply Kd.R_alloc | apply Kd.R_drewN | apply Kd.R_drew)); exact HO_5.out⟩, ⟨by repeat (first | (with_reducible first | exact HB.out | apply below_alloc | apply pw_below_drewN | apply below_drew1) | exact HB.out)⟩⟩
                         ·rw [if_neg c41] at H
                          exact absurd H (by simp)
                        ·rw [if_neg c40] at H
                         exact absurd H (by simp)
                       ·rw [if_neg c38] at H
                        exact absurd H (by simp)
                      ·rw [if_neg c37] at H
                       exact absurd H (by simp)
                  ·rw [if_neg c28] at H
                   exact absurd H (by simp)
                 ·rw [if_neg c27] at H
                  have c27b0 : decide (x10_4 < ((rd_L1 t308 x8_3).length : Int)) = false := decide_eq_false c27
                  clear c27
                  by_cases c50 : x9_4 < 0
                  ·rw [if_pos c50] at H
                   exact absurd H (by simp)
                  ·rw [if_neg c50] at H
                   have c50b0 : decide (x9_4 < 0) = false := decide_eq_false c50
                   clear c50
                   have H' := Aside0.mk H
                   clear H
                   have p317 : 0 ≤ (x8_3 : Int) := of_decide_eq_true (by first | (with_reducible assumption) | assumption)
                   have q317 : x8_3 < (t308.length : Int) := of_decide_eq_true (by first | (with_reducible assumption) | assumption)
                   obtain ⟨ad317, A317_0, c317_0, e317, hx317_0, hl317_0, hi317_0⟩ := at_L1 (Kd.S_reads' HO_3.out).2.2 x8_3 p317 q317
                   cases e317
                   obtain ⟨ce317, hce317, hMe317, hcc317⟩ := Kd.S_get HO_3.out [] x8_3 p317 (by first | exact q317 | exact of_decide_eq_true (by first | (with_reducible assumption) | assumption) | (have e_ := (Kd.S_reads' HO_3.out).1; omega))
                   obtain ⟨ve317_0, rfl, ge317_0⟩ := hMe317
                   have hv317_0 := hcc317 0 _ rfl
                   rw [Nat.add_zero, show ((Kd.slice 3 (Kd.int .i64))).sz = 1 from rfl, Nat.mul_one] at hv317_0
                   replace hv317_0 := Option.some.inj (hv317_0.symm.trans hx317_0)
                   rw [hv317_0] at ge317_0
                   have HL317_0 := Aside0.mk (show Kd.R (Kd.int .i64) 3 _ _ _ _ (rd_L1 t308 x8_3) from ge317_0)
                   clear hv317_0 ge317_0
                   clear hcc317 hce317
                   have HR317_0 := Aside0.mk hi317_0
                   have HC317_0 := Aside0.mk hl317_0
                   clear hi317_0 hl317_0
                   replace p317 := eq_true p317
                   replace q317 := eq_true q317
                   go_wp2
                   repeat (go_quiet (fail); try go_wp2)
                   go_loopg [12] k4 (fun kq v12 w' => ∃ (x12_5 : Int), v12 = .int .i64 x12_5 ∧ Aside0 (commodatumlaw10_MonoidParts.l3 kq l0 t308 x5_4 x6_2 x8_3 x9_4 x12_5 = some r) ∧ Aside0 (kq ≤ k4) ∧ Aside0 (Kd.S (Kd.slice 3 (Kd.int .i64)) 30 w' w.heap.size (fun k_ => some k_ ≠ (v313 : Value).ownBlock) (.slice (some ad317) t308.length co24) t308) ∧ Aside0 (Kd.R (Kd.int .i64) 3 w' w.heap.size (fun _ => True) v313 x5_4) ∧ Aside0 (Kd.C (Kd.int .i64) w' A317_0 (rd_L1 t308 x8_3).length (rd_L1 t308 x8_3)) ∧ Aside0 (Below w.heap.size w w'))
                   case atStart => exact ⟨(0), (by first | rfl | (simp; done) | (simp [*]; done)), H', ⟨Nat.le_refl _⟩, ⟨by (with_reducible repeat (first | apply Kd.S_alloc | apply Kd.S_drewN | apply Kd.S_drew)); exact HO_3.out⟩, ⟨by (with_reducible repeat (first | apply Kd.R_alloc | apply Kd.R_drewN | apply Kd.R_drew)); exact HO_5.out⟩, ⟨by repeat (first | (with_reducible exact HR317_0.out) | (with_reducible refine Kd.C_alloc ?_ _) | (with_reducible refine Kd.C_drewN ?_ _) | (with_reducible refine Kd.C_drew ?_) | exact HR317_0.out)⟩, ⟨by repeat (first | (with_reducible first | exact HB.out | apply below_alloc | apply pw_below_drewN | apply below_drew1) | exact HB.out)⟩⟩
                   case round => as_aux_lemma =>
                    clear H'
                    try clear c1
                    try clear c2
                    try clear p2
                    try clear c3
                    try clear p3
                    try clear q3
                    try clear hx3
                    try clear hf3
                    try clear c4
                    try clear c5
                    try clear c6
                    try clear p6
                    try clear c11
                    try clear c11b0
                    try clear c11b1
                    try clear c12
                    try clear c12b0
                    try clear c12b1
                    try clear c13
                    try clear c13b0
                    try clear c13b1
                    try clear c19
                    try clear c19b0
                    try clear c20
                    try clear c20b0
                    try clear c21
                    try clear c21b0
                    try clear c22
                    try clear c22b0
                    try clear c22b1
                    try clear c23
                    try clear c23b0
                    try clear c25
                    try clear c25b0
                    try clear c26
                    try clear c26b0
                    try clear c27
                    try clear c27b0
                    try clear c28
                    try clear c28b0
                    try clear c30
                    try clear c30b0
                    try clear c31
                    try clear c31b0
                    try clear p31
                    try clear q31
                    try clear hx31
                    try clear c32
                    try clear c32b0
                    try clear p32
                    try clear q32
                    try clear hx32
                    try clear c34
                    try clear c34b0
                    try clear c35
                    try clear c35b0
                    try clear c36
                    try clear c37
                    try clear c37b0
                    try clear c38
                    try clear c38b0
                    try clear p39
                    try clear q39
                    try clear hx39
                    try clear hf39
                    try clear c40
                    try clear c40b0
                    try clear c41
                    try clear c41b0
                    try clear c42
                    try clear c42b0
                    try clear c42b1
                    try clear c43
                    try clear c43b0
                    try clear c50
                    try clear c50b0
                    try clear hx315_0
                    try clear hx316_0
                    try clear hx317_0
                    try clear hx318_0
                    try clear hx319_0
                    try clear hx320_0
                    try clear hx321_0
                    try clear hx322_0
                    try clear hx324_0
                    try clear hx325_0
                    try clear hx39_0
                    try clear p2
                    try clear p3
                    try clear p31
                    try clear p315
                    try clear p316
                    try clear p317
                    try clear p318
                    try clear p319
                    try clear p32
                    try clear p320
                    try clear p321
                    try clear p322
                    try clear p324
                    try clear p325
                    try clear p39
                    try clear p6
                    try clear q3
                    try clear q31
                    try clear q315
                    try clear q316
                    try clear q317
                    try clear q318
                    try clear q319
                    try clear q32
                    try clear q320
                    try clear q321
                    try clear q322
                    try clear q324
                    try clear q325
                    try clear q39
                    obtain ⟨x12_5, rfl, HA, HK5, HO_3, HO_5, HR317_0, HB⟩ := hrel
                    cases gk with
                    | zero => exact absurd HA.out (by simp [commodatumlaw10_MonoidParts.l3])
                    | succ k5 =>
                     have H := HA.out
                     clear HA
                     simp only [commodatumlaw10_MonoidParts.l3] at H
                     by_cases c51 : 0 ≤ x8_3
                     ·rw [if_pos c51] at H
                      have c51b0 : decide (0 ≤ x8_3) = true := decide_eq_true c51
                      clear c51
                      by_cases c52 : x8_3 < (t308.length : Int)
                      ·rw [if_pos c52] at H
                       have c52b0 : decide (x8_3 < (t308.length : Int)) = true := decide_eq_true c52
                       clear c52
                       by_cases c53 : x12_5 < ((rd_L1 t308 x8_3).length : Int)
                       ·rw [if_pos c53] at H
                        have c53b0 : decide (x12_5 < ((rd_L1 t308 x8_3).length : Int)) = true := decide_eq_true c53
                        clear c53
                        by_cases c54 : 0 ≤ x12_5
                        ·rw [if_pos c54] at H
                         have c54b0 : decide (0 ≤ x12_5) = true := decide_eq_true c54
                         clear c54
                         have H' := Aside0.mk H
                         clear H
                         have p326 : 0 ≤ (x8_3 : Int) := of_decide_eq_true (by first | (with_reducible assumption) | assumption)
                         have q326 : x8_3 < (t308.length : Int) := of_decide_eq_true (by first | (with_reducible assumption) | assumption)
                         obtain ⟨ad326, A326_0, c326_0, e326, hx326_0, hl326_0, hi326_0⟩ := at_L1 (Kd.S_reads' HO_3.out).2.2 x8_3 p326 q326
                         obtain rfl : ad317 = ad326 := (by injection e326)
                         obtain ⟨ce326, hce326, hMe326, hcc326⟩ := Kd.S_get HO_3.out [] x8_3 p326 (by first | exact q326 | exact of_decide_eq_true (by first | (with_reducible assumption) | assumption) | (have e_ := (Kd.S_reads' HO_3.out).1; omega))
                         obtain ⟨ve326_0, rfl, ge326_0⟩ := hMe326
                         have hv326_0 := hcc326 0 _ rfl
                         rw [Nat.add_zero, show ((Kd.slice 3 (Kd.int .i64))).sz = 1 from rfl, Nat.mul_one] at hv326_0
                         replace hv326_0 := Option.some.inj (hv326_0.symm.trans hx326_0)
                         rw [hv326_0] at ge326_0
                         have HL326_0 := Aside0.mk (show Kd.R (Kd.int .i64) 3 _ _ _ _ (rd_L1 t308 x8_3) from ge326_0)
                         clear hv326_0 ge326_0
                         clear hcc326 hce326
                         have HR326_0 := Aside0.mk hi326_0
                         have HC326_0 := Aside0.mk hl326_0
                         clear hi326_0 hl326_0
                         replace p326 := eq_true p326
                         replace q326 := eq_true q326
                         have p327 : 0 ≤ (x8_3 : Int) := of_decide_eq_true (by first | (with_reducible assumption) | assumption)
                         have q327 : x8_3 < (t308.length : Int) := of_decide_eq_true (by first | (with_reducible assumption) | assumption)
                         obtain ⟨ad327, A327_0, c327_0, e327, hx327_0, hl327_0, hi327_0⟩ := at_L1 (Kd.S_reads' HO_3.out).2.2 x8_3 p327 q327
                         obtain rfl : ad317 = ad327 := (by injection e327)
                         obtain ⟨ce327, hce327, hMe327, hcc327⟩ := Kd.S_get HO_3.out [] x8_3 p327 (by first | exact q327 | exact of_decide_eq_true (by first | (with_reducible assumption) | assumption) | (have e_ := (Kd.S_reads' HO_3.out).1; omega))
                         obtain ⟨ve327_0, rfl, ge327_0⟩ := hMe327
                         have hv327_0 := hcc327 0 _ rfl
                         rw [Nat.add_zero, show ((Kd.slice 3 (Kd.int .i64))).sz = 1 from rfl, Nat.mul_one] at hv327_0
                         replace hv327_0 := Option.some.inj (hv327_0.symm.trans hx327_0)
                         rw [hv327_0] at ge327_0
                         have HL327_0 := Aside0.mk (show Kd.R (Kd.int .i64) 3 _ _ _ _ (rd_L1 t308 x8_3) from ge327_0)
                         clear hv327_0 ge327_0
                         clear hcc327 hce327
                         have HR327_0 := Aside0.mk hi327_0
                         have HC327_0 := Aside0.mk hl327_0
                         clear hi327_0 hl327_0
                         replace p327 := eq_true p327
                         replace q327 := eq_true q327
                         have ea_ := Option.some.inj (hx326_0.symm.trans hx327_0)
                         injection ea_ with ea_ en_ ec_
                         subst ea_
                         subst ec_
                         clear en_
                         have p328 : 0 ≤ (x12_5 : Int) := of_decide_eq_true (by first | (with_reducible assumption) | assumption)
                         have q328 : x12_5 < ((rd_L1 t308 x8_3).length : Int) := of_decide_eq_true (by first | (with_reducible assumption) | assumption)
                         obtain ⟨ad328, e328, hx328_0⟩ := Kd.at_int (by repeat (first | (with_reducible exact HR327_0.out) | (with_reducible refine Kd.C_alloc ?_ _) | (with_reducible refine Kd.C_drewN ?_ _) | (with_reducible refine Kd.C_drew ?_) | exact HR327_0.out)) x12_5 p328 q328
                         cases e328
                         replace p328 := eq_true p328
                         replace q328 := eq_true q328
                         go_wp2
                         repeat (go_quiet (fail); try go_wp2)
                         go_loopg [14, 15] k5 (fun kq v14 v15 w' => ∃ (x14_6 : Bool) (x15_6 : Int), v14 = .bool x14_6 ∧ v15 = .int .i64 x15_6 ∧ Aside0 (commodatumlaw10_MonoidParts.l4 kq l0 t308 x5_4 x6_2 x8_3 x9_4 x12_5 (rd (rd_L1 t308 x8_3) x12_5) x14_6 x15_6 = some r) ∧ Aside0 (kq ≤ k5) ∧ Aside0 (Kd.S (Kd.slice 3 (Kd.int .i64)) 30 w' w.heap.size (fun k_ => some k_ ≠ (v313 : Value).ownBlock) (.slice (some ad317) t308.length co24) t308) ∧ Aside0 (Kd.R (Kd.int .i64) 3 w' w.heap.size (fun _ => True) v313 x5_4) ∧ Aside0 (Kd.C (Kd.int .i64) w' A317_0 (rd_L1 t308 x8_3).length (rd_L1 t308 x8_3)) ∧ Aside0 (Kd.C (Kd.int .i64) w' (some ad328) (rd_L1 t308 x8_3).length (rd_L1 t308 x8_3)) ∧ Aside0 (Kd.C (Kd.int .i64) w' (some ad328) (rd_L1 t308 x8_3).length (rd_L1 t308 x8_3)) ∧ Aside0 (Below w.heap.size w w'))
                         case atStart => exact ⟨(false), (0), (by first | rfl | (simp; done) | (simp [*]; done)), (by first | rfl | (simp; done) | (simp [*]; done)), H', ⟨Nat.le_refl _⟩, ⟨by (with_reducible repeat (first | apply Kd.S_alloc | apply Kd.S_drewN | apply Kd.S_drew)); exact HO_3.out⟩, ⟨by (with_reducible repeat (first | apply Kd.R_alloc | apply Kd.R_drewN | apply Kd.R_drew)); exact HO_5.out⟩, ⟨by repeat (first | (with_reducible exact HR317_0.out) | (with_reducible refine Kd.C_alloc ?_ _) | (with_reducible refine Kd.C_drewN ?_ _) | (with_reducible refine Kd.C_drew ?_) | exact HR317_0.out)⟩, ⟨by repeat (first | (with_reducible exact HR326_0.out) | (with_reducible refine Kd.C_alloc ?_ _) | (with_reducible refine Kd.C_drewN ?_ _) | (with_reducible refine Kd.C_drew ?_) | exact HR326_0.out)⟩, ⟨by repeat (first | (with_reducible exact HR327_0.out) | (with_reducible refine Kd.C_alloc ?_ _) | (with_reducible refine Kd.C_drewN ?_ _) | (with_reducible refine Kd.C_drew ?_) | exact HR327_0.out)⟩, ⟨by repeat (first | (with_reducible first | exact HB.out | apply below_alloc | apply pw_below_drewN | apply below_drew1) | exact HB.out)⟩⟩
                         case round => as_aux_lemma =>
                          clear H'
                          try clear c1
                          try clear c2
                          try clear p2
                          try clear c3
                          try clear p3
                          try clear q3
                          try clear hx3
                          try clear hf3
                          try clear c4
                          try clear c5
                          try clear c6
                          try clear p6
                          try clear c11
                          try clear c11b0
                          try clear c11b1
                          try clear c12
                          try clear c12b0
                          try clear c12b1
                          try clear c13
                          try clear c13b0
                          try clear c13b1
                          try clear c19
                          try clear c19b0
                          try clear c20
                          try clear c20b0
                          try clear c21
                          try clear c21b0
                          try clear c22
                          try clear c22b0
                          try clear c22b1
                          try clear c23
                          try clear c23b0
                          try clear c25
                          try clear c25b0
                          try clear c26
                          try clear c26b0
                          try clear c27
                          try clear c27b0
                          try clear c28
                          try clear c28b0
                          try clear c30
                          try clear c30b0
                          try clear c31
                          try clear c31b0
                          try clear p31
                          try clear q31
                          try clear hx31
                          try clear c32
                          try clear c32b0
                          try clear p32
                          try clear q32
                          try clear hx32
                          try clear c34
                          try clear c34b0
                          try clear c35
                          try clear c35b0
                          try clear c36
                          try clear c37
                          try clear c37b0
                          try clear c38
                          try clear c38b0
                          try clear p39
                          try clear q39
                          try clear hx39
                          try clear hf39
                          try clear c40
                          try clear c40b0
                          try clear c41
                          try clear c41b0
                          try clear c42
                          try clear c42b0
                          try clear c42b1
                          try clear c43
                          try clear c43b0
                          try clear c50
                          try clear c50b0
                          try clear c51
                          try clear c51b0
                          try clear c52
                          try clear c52b0
                          try clear c53
                          try clear c53b0
                          try clear c54
                          try clear c54b0
                          try clear hx315_0
                          try clear hx316_0
                          try clear hx317_0
                          try clear hx318_0
                          try clear hx319_0
                          try clear hx320_0
                          try clear hx321_0
                          try clear hx322_0
                          try clear hx324_0
                          try clear hx325_0
                          try clear hx326_0
                          try clear hx327_0
                          try clear hx328_0
                          try clear hx39_0
                          try clear p2
                          try clear p3
                          try clear p31
                          try clear p315
                          try clear p316
                          try clear p317
                          try clear p318
                          try clear p319
                          try clear p32
                          try clear p320
                          try clear p321
                          try clear p322
                          try clear p324
                          try clear p325
                          try clear p326
                          try clear p327
                          try clear p328
                          try clear p39
                          try clear p6
                          try clear q3
                          try clear q31
                          try clear q315
                          try clear q316
                          try clear q317
                          try clear q318
                          try clear q319
                          try clear q32
                          try clear q320
                          try clear q321
                          try clear q322
                          try clear q324
                          try clear q325
                          try clear q326
                          try clear q327
                          try clear q328
                          try clear q39
                          obtain ⟨x14_6, x15_6, rfl, rfl, HA, HK6, HO_3, HO_5, HR317_0, HR326_0, HR327_0, HB⟩ := hrel
                          cases gk with
                          | zero => exact absurd HA.out (by simp [commodatumlaw10_MonoidParts.l4])
                          | succ k6 =>
                           have H := HA.out
                           clear HA
                           simp only [commodatumlaw10_MonoidParts.l4] at H
                           by_cases c55 : 0 ≤ x8_3
                           ·rw [if_pos c55] at H
                            have c55b0 : decide (0 ≤ x8_3) = true := decide_eq_true c55
                            clear c55
                            by_cases c56 : x8_3 < (t308.length : Int)
                            ·rw [if_pos c56] at H
                             have c56b0 : decide (x8_3 < (t308.length : Int)) = true := decide_eq_true c56
                             clear c56
                             by_cases c57 : x15_6 < ((rd_L1 t308 x8_3).length : Int)
                             ·rw [if_pos c57] at H
                              have c57b0 : decide (x15_6 < ((rd_L1 t308 x8_3).length : Int)) = true := decide_eq_true c57
                              clear c57
                              by_cases c58 : 0 ≤ x15_6
                              ·rw [if_pos c58] at H
                               have c58b0 : decide (0 ≤ x15_6) = true := decide_eq_true c58
                               clear c58
                               by_cases c59 : 0 ≤ (rd (rd_L1 t308 x8_3) x12_5)
                               ·rw [if_pos c59] at H
                                have c59b0 : decide (0 ≤ (rd (rd_L1 t308 x8_3) x12_5)) = true := decide_eq_true c59
                                clear c59
                                by_cases c60 : (rd (rd_L1 t308 x8_3) x12_5) < (l0.length : Int)
                                ·rw [if_pos c60] at H
                                 have c60b0 : decide ((rd (rd_L1 t308 x8_3) x12_5) < (l0.length : Int)) = true := decide_eq_true c60
                                 clear c60
                                 by_cases c61 : 0 ≤ (rd (rd_L1 t308 x8_3) x15_6)
                                 ·rw [if_pos c61] at H
                                  have c61b0 : decide (0 ≤ (rd (rd_L1 t308 x8_3) x15_6)) = true := decide_eq_true c61
                                  clear c61
                                  by_cases c62 : (rd (rd_L1 t308 x8_3) x15_6) < ((rd_L1 l0 (rd (rd_L1 t308 x8_3) x12_5)).length : Int)
                                  ·rw [if_pos c62] at H
                                   have c62b0 : decide ((rd (rd_L1 t308 x8_3) x15_6) < ((rd_L1 l0 (rd (rd_L1 t308 x8_3) x12_5)).length : Int)) = true := decide_eq_true c62
                                   clear c62
                                   replace H := Option.bind_eq_some_iff.mp H
                                   obtain ⟨t339, A630, H⟩ := H
                                   replace H : (if t339 = true then (if x14_6 = true then (commodatumlaw10_MonoidParts.l4 k6 l0 t308 x5_4 x6_2 x8_3 x9_4 x12_5 (rd (rd_L1 t308 x8_3) x12_5) true (wrap64 (x15_6 + 1))) else (if (rd (rd_L1 l0 (rd (rd_L1 t308 x8_3) x12_5)) (rd (rd_L1 t308 x8_3) x15_6)) = x9_4 then (if (rd (rd_L1 t308 x8_3) x15_6) < (l0.length : Int) then (if (rd (rd_L1 t308 x8_3) x12_5) < ((rd_L1 l0 (rd (rd_L1 t308 x8_3) x15_6)).length : Int) then (commodatumlaw10_MonoidParts.l4 k6 l0 t308 x5_4 x6_2 x8_3 x9_4 x12_5 (rd (rd_L1 t308 x8_3) x12_5) ((rd (rd_L1 l0 (rd (rd_L1 t308 x8_3) x15_6)) (rd (rd_L1 t308 x8_3) x12_5)) == x9_4) (wrap64 (x15_6 + 1))) else (none)) else (none)) else (commodatumlaw10_MonoidParts.l4 k6 l0 t308 x5_4 x6_2 x8_3 x9_4 x12_5 (rd (rd_L1 t308 x8_3) x12_5) false (wrap64 (x15_6 + 1))))) else (none)) = some r := H
                                   have A63 := Aside0.mk A630
                                   clear A630
                                   by_cases c64 : t339 = true
                                   ·subst c64
                                    have H1 : (if x14_6 = true then (commodatumlaw10_MonoidParts.l4 k6 l0 t308 x5_4 x6_2 x8_3 x9_4 x12_5 (rd (rd_L1 t308 x8_3) x12_5) true (wrap64 (x15_6 + 1))) else (if (rd (rd_L1 l0 (rd (rd_L1 t308 x8_3) x12_5)) (rd (rd_L1 t308 x8_3) x15_6)) = x9_4 then (if (rd (rd_L1 t308 x8_3) x15_6) < (l0.length : Int) then (if (rd (rd_L1 t308 x8_3) x12_5) < ((rd_L1 l0 (rd (rd_L1 t308 x8_3) x15_6)).length : Int) then (commodatumlaw10_MonoidParts.l4 k6 l0 t308 x5_4 x6_2 x8_3 x9_4 x12_5 (rd (rd_L1 t308 x8_3) x12_5) ((rd (rd_L1 l0 (rd (rd_L1 t308 x8_3) x15_6)) (rd (rd_L1 t308 x8_3) x12_5)) == x9_4) (wrap64 (x15_6 + 1))) else (none)) else (none)) else (commodatumlaw10_MonoidParts.l4 k6 l0 t308 x5_4 x6_2 x8_3 x9_4 x12_5 (rd (rd_L1 t308 x8_3) x12_5) false (wrap64 (x15_6 + 1))))) = some r := by rw [if_pos rfl] at H; exact H
                                    clear H
                                    have H := H1
                                    clear H1
                                    by_cases c65 : x14_6 = true
                                    ·subst c65
                                     have H1 : (commodatumlaw10_MonoidParts.l4 k6 l0 t308 x5_4 x6_2 x8_3 x9_4 x12_5 (rd (rd_L1 t308 x8_3) x12_5) true (wrap64 (x15_6 + 1))) = some r := by rw [if_pos rfl] at H; exact H
                                     clear H
                                     have H := H1
                                     clear H1
                                     have H' := Aside0.mk H
                                     clear H
                                     have p329 : 0 ≤ (x8_3 : Int) := of_decide_eq_true (by first | (with_reducible assumption) | assumption)
                                     have q329 : x8_3 < (t308.length : Int) := of_decide_eq_true (by first | (with_reducible assumption) | assumption)
                                     obtain ⟨ad329, A329_0, c329_0, e329, hx329_0, hl329_0, hi329_0⟩ := at_L1 (Kd.S_reads' HO_3.out).2.2 x8_3 p329 q329
                                     obtain rfl : ad317 = ad329 := (by injection e329)
                                     obtain ⟨ce329, hce329, hMe329, hcc329⟩ := Kd.S_get HO_3.out [] x8_3 p329 (by first | exact q329 | exact of_decide_eq_true (by first | (with_reducible assumption) | assumption) | (have e_ := (Kd.S_reads' HO_3.out).1; omega))
                                     obtain ⟨ve329_0, rfl, ge329_0⟩ := hMe329
                                     have hv329_0 := hcc329 0 _ rfl
                                     rw [Nat.add_zero, show ((Kd.slice 3 (Kd.int .i64))).sz = 1 from rfl, Nat.mul_one] at hv329_0
                                     replace hv329_0 := Option.some.inj (hv329_0.symm.trans hx329_0)
                                     rw [hv329_0] at ge329_0
                                     have HL329_0 := Aside0.mk (show Kd.R (Kd.int .i64) 3 _ _ _ _ (rd_L1 t308 x8_3) from ge329_0)
                                     clear hv329_0 ge329_0
                                     clear hcc329 hce329
                                     have HR329_0 := Aside0.mk hi329_0
                                     have HC329_0 := Aside0.mk hl329_0
                                     clear hi329_0 hl329_0
                                     replace p329 := eq_true p329
                                     replace q329 := eq_true q329
                                     have p334 : 0 ≤ (x8_3 : Int) := of_decide_eq_true (by first | (with_reducible assumption) | assumption)
                                     have q334 : x8_3 < (t308.length : Int) := of_decide_eq_true (by first | (with_reducible assumption) | assumption)
                                     obtain ⟨ad334, A334_0, c334_0, e334, hx334_0, hl334_0, hi334_0⟩ := at_L1 (Kd.S_reads' HO_3.out).2.2 x8_3 p334 q334
                                     obtain rfl : ad317 = ad334 := (by injection e334)
                                     obtain ⟨ce334, hce334, hMe334, hcc334⟩ := Kd.S_get HO_3.out [] x8_3 p334 (by first | exact q334 | exact of_decide_eq_true (by first | (with_reducible assumption) | assumption) | (have e_ := (Kd.S_reads' HO_3.out).1; omega))
                                     obtain ⟨ve334_0, rfl, ge334_0⟩ := hMe334
                                     have hv334_0 := hcc334 0 _ rfl
                                     rw [Nat.add_zero, show ((Kd.slice 3 (Kd.int .i64))).sz = 1 from rfl, Nat.mul_one] at hv334_0
                                     replace hv334_0 := Option.some.inj (hv334_0.symm.trans hx334_0)
                                     rw [hv334_0] at ge334_0
                                     have HL334_0 := Aside0.mk (show Kd.R (Kd.int .i64) 3 _ _ _ _ (rd_L1 t308 x8_3) from ge334_0)
                                     clear hv334_0 ge334_0
                                     clear hcc334 hce334
                                     have HR334_0 := Aside0.mk hi334_0
                                     have HC334_0 := Aside0.mk hl334_0
                                     clear hi334_0 hl334_0
                                     replace p334 := eq_true p334
                                     replace q334 := eq_true q334
                                     have ea_ := Option.some.inj (hx329_0.symm.trans hx334_0)
                                     injection ea_ with ea_ en_ ec_
                                     subst ea_
                                     subst ec_
                                     clear en_
                                     have p335 : 0 ≤ (x15_6 : Int) := of_decide_eq_true (by first | (with_reducible assumption) | assumption)
                                     have q335 : x15_6 < ((rd_L1 t308 x8_3).length : Int) := of_decide_eq_true (by first | (with_reducible assumption) | assumption)
                                     obtain ⟨ad335, e335, hx335_0⟩ := Kd.at_int (by repeat (first | (with_reducible exact HR334_0.out) | (with_reducible refine Kd.C_alloc ?_ _) | (with_reducible refine Kd.C_drewN ?_ _) | (with_reducible refine Kd.C_drew ?_) | exact HR334_0.out)) x15_6 p335 q335
                                     cases e335
                                     replace p335 := eq_true p335
                                     replace q335 := eq_true q335
                                     have p336 : 0 ≤ (x8_3 : Int) := of_decide_eq_true (by first | (with_reducible assumption) | assumption)
                                     have q336 : x8_3 < (t308.length : Int) := of_decide_eq_true (by first | (with_reducible assumption) | assumption)
                                     obtain ⟨ad336, A336_0, c336_0, e336, hx336_0, hl336_0, hi336_0⟩ := at_L1 (Kd.S_reads' HO_3.out).2.2 x8_3 p336 q336
                                     obtain rfl : ad317 = ad336 := (by injection e336)
                                     obtain ⟨ce336, hce336, hMe336, hcc336⟩ := Kd.S_get HO_3.out [] x8_3 p336 (by first | exact q336 | exact of_decide_eq_true (by first | (with_reducible assumption) | assumption) | (have e_ := (Kd.S_reads' HO_3.out).1; omega))
                                     obtain ⟨ve336_0, rfl, ge336_0⟩ := hMe336
                                     have hv336_0 := hcc336 0 _ rfl
                                     rw [Nat.add_zero, show ((Kd.slice 3 (Kd.int .i64))).sz = 1 from rfl, Nat.mul_one] at hv336_0
                                     replace hv336_0 := Option.some.inj (hv336_0.symm.trans hx336_0)
                                     rw [hv336_0] at ge336_0
                                     have HL336_0 := Aside0.mk (show Kd.R (Kd.int .i64) 3 _ _ _ _ (rd_L1 t308 x8_3) from ge336_0)
                                     clear hv336_0 ge336_0
                                     clear hcc336 hce336
                                     have HR336_0 := Aside0.mk hi336_0
                                     have HC336_0 := Aside0.mk hl336_0
                                     clear hi336_0 hl336_0
                                     replace p336 := eq_true p336
                                     replace q336 := eq_true q336
                                     have ea_ := Option.some.inj (hx329_0.symm.trans hx336_0)
                                     injection ea_ with ea_ en_ ec_
                                     subst ea_
                                     subst ec_
                                     clear en_
                                     have p337 : 0 ≤ ((rd (rd_L1 t308 x8_3) x12_5) : Int) := of_decide_eq_true (by first | (with_reducible assumption) | assumption)
                                     have q337 : (rd (rd_L1 t308 x8_3) x12_5) < (l0.length : Int) := of_decide_eq_true (by first | (with_reducible assumption) | assumption)
                                     obtain ⟨ad337, A337_0, c337_0, e337, hx337_0, hl337_0, hi337_0⟩ := at_L1 HR0.out (rd (rd_L1 t308 x8_3) x12_5) p337 q337
                                     cases e337
                                     replace hx337_0 := (HB.out.cell (World.block_lt_of_cell? w _ hx337_0)).trans hx337_0
                                     have HR337_0 := Aside0.mk hi337_0
                                     have HC337_0 := Aside0.mk hl337_0
                                     clear hi337_0 hl337_0
                                     replace p337 := eq_true p337
                                     replace q337 := eq_true q337
                                     have p338 : 0 ≤ ((rd (rd_L1 t308 x8_3) x15_6) : Int) := of_decide_eq_true (by first | (with_reducible assumption) | assumption)
                                     have q338 : (rd (rd_L1 t308 x8_3) x15_6) < ((rd_L1 l0 (rd (rd_L1 t308 x8_3) x12_5)).length : Int) := of_decide_eq_true (by first | (with_reducible assumption) | assumption)
                                     obtain ⟨ad338, e338, hx338_0⟩ := Kd.at_int HR337_0.out (rd (rd_L1 t308 x8_3) x15_6) p338 q338
                                     cases e338
                                     replace hx338_0 := (HB.out.cell (World.block_lt_of_cell? w _ hx338_0)).trans hx338_0
                                     replace p338 := eq_true p338
                                     replace q338 := eq_true q338
                                     go_wp2_with (first | (go_at_call 12; (with_reducible refine (commodatumref10_In.calls k6 _ _ (rd_L1 t308 x8_3) (rd (rd_L1 l0 (rd (rd_L1 t308 x8_3) x12_5)) (rd (rd_L1 t308 x8_3) x15_6)) true _ ?side1 ?side2 A63.out).mono ?_); (case side1 => repeat (first | exact (by repeat (first | (with_reducible exact HR336_0.out) | (with_reducible refine Kd.C_alloc ?_ _) | (with_reducible refine Kd.C_drewN ?_ _) | (with_reducible refine Kd.C_drew ?_) | exact HR336_0.out)) | (with_reducible refine Kd.C_alloc ?_ _) | (with_reducible refine Kd.C_drewN ?_ _) | (with_reducible refine Kd.C_drew ?_))); (case side2 => exact HC336_0.out); rintro e w' ⟨rfl, ⟨nd, rfl⟩⟩; (try first | exact ⟨rfl, _, World.drewN_drewN _ _ _⟩ | exact ⟨rfl, _, Eq.trans (World.drewN_drewN _ _ _) (congrArg (World.drewN _) (Nat.add_assoc _ _ _))⟩)))
                                     repeat (go_quiet (first | (go_at_call 12; (with_reducible refine (commodatumref10_In.calls k6 _ _ (rd_L1 t308 x8_3) (rd (rd_L1 l0 (rd (rd_L1 t308 x8_3) x12_5)) (rd (rd_L1 t308 x8_3) x15_6)) true _ ?side1 ?side2 A63.out).mono ?_); (case side1 => repeat (first | exact (by repeat (first | (with_reducible exact HR336_0.out) | (with_reducible refine Kd.C_alloc ?_ _) | (with_reducible refine Kd.C_drewN ?_ _) | (with_reducible refine Kd.C_drew ?_) | exact HR336_0.out)) | (with_reducible refine Kd.C_alloc ?_ _) | (with_reducible refine Kd.C_drewN ?_ _) | (with_reducible refine Kd.C_drew ?_))); (case side2 => exact HC336_0.out); rintro e w' ⟨rfl, ⟨nd, rfl⟩⟩; (try first | exact ⟨rfl, _, World.drewN_drewN _ _ _⟩ | exact ⟨rfl, _, Eq.trans (World.drewN_drewN _ _ _) (congrArg (World.drewN _) (Nat.add_assoc _ _ _))⟩))); try go_wp2_with (first | (go_at_call 12; (with_reducible refine (commodatumref10_In.calls k6 _ _ (rd_L1 t308 x8_3) (rd (rd_L1 l0 (rd (rd_L1 t308 x8_3) x12_5)) (rd (rd_L1 t308 x8_3) x15_6)) true _ ?side1 ?side2 A63.out).mono ?_); (case side1 => repeat (first | exact (by repeat (first | (with_reducible exact HR336_0.out) | (with_reducible refine Kd.C_alloc ?_ _) | (with_reducible refine Kd.C_drewN ?_ _) | (with_reducible refine Kd.C_drew ?_) | exact HR336_0.out)) | (with_reducible refine Kd.C_alloc ?_ _) | (with_reducible refine Kd.C_drewN ?_ _) | (with_reducible refine Kd.C_drew ?_))); (case side2 => exact HC336_0.out); rintro e w' ⟨rfl, ⟨nd, rfl⟩⟩; (try first | exact ⟨rfl, _, World.drewN_drewN _ _ _⟩ | exact ⟨rfl, _, Eq.trans (World.drewN_drewN _ _ _) (congrArg (World.drewN _) (Nat.add_assoc _ _ _))⟩))))
                                     go_roundg k6
                                     case measure => have := HJ1.out; have := HK2.out; have := HK3.out; have := HK4.out; have := HK5.out; have := HK6.out; omega
                                     case rel => exact ⟨(true), (wrap64 (x15_6 + 1)), (by first | rfl | (simp; done) | (simp [*]; done)), (by first | rfl | (simp; done) | (simp [*]; done)), H', ⟨by have := HJ1.out; have := HK2.out; have := HK3.out; have := HK4.out; have := HK5.out; have := HK6.out; omega⟩, ⟨by (with_reducible repeat (first | apply Kd.S_alloc | apply Kd.S_drewN | apply Kd.S_drew)); exact HO_3.out⟩, ⟨by (with_reducible repeat (first | apply Kd.R_alloc | apply Kd.R_drewN | apply Kd.R_drew)); exact HO_5.out⟩, ⟨by repeat (first | (with_reducible exact HR317_0.out) | (with_reducible refine Kd.C_alloc ?_ _) | (with_reducible refine Kd.C_drewN ?_ _) | (with_reducible refine Kd.C_drew ?_) | exact HR317_0.out)⟩, ⟨by repeat (first | (with_reducible exact HR326_0.out) | (with_reducible refine Kd.C_alloc ?_ _) | (with_reducible refine Kd.C_drewN ?_ _) | (with_reducible refine Kd.C_drew ?_) | exact HR326_0.out)⟩, ⟨by repeat (first | (with_reducible exact HR327_0.out) | (with_reducible refine Kd.C_alloc ?_ _) | (with_reducible refine Kd.C_drewN ?_ _) | (with_reducible refine Kd.C_drew ?_) | exact HR327_0.out)⟩, ⟨by repeat (first | (with_reducible first | exact HB.out | apply below_alloc | apply pw_below_drewN | apply below_drew1) | exact HB.out)⟩⟩
                                    ·replace c65 := Bool.eq_false_iff.mpr c65
                                     subst c65
                                     have H1 : (if (rd (rd_L1 l0 (rd (rd_L1 t308 x8_3) x12_5)) (rd (rd_L1 t308 x8_3) x15_6)) = x9_4 then (if (rd (rd_L1 t308 x8_3) x15_6) < (l0.length : Int) then (if (rd (rd_L1 t308 x8_3) x12_5) < ((rd_L1 l0 (rd (rd_L1 t308 x8_3) x15_6)).length : Int) then (commodatumlaw10_MonoidParts.l4 k6 l0 t308 x5_4 x6_2 x8_3 x9_4 x12_5 (rd (rd_L1 t308 x8_3) x12_5) ((rd (rd_L1 l0 (rd (rd_L1 t308 x8_3) x15_6)) (rd (rd_L1 t308 x8_3) x12_5)) == x9_4) (wrap64 (x15_6 + 1))) else (none)) else (none)) else (commodatumlaw10_MonoidParts.l4 k6 l0 t308 x5_4 x6_2 x8_3 x9_4 x12_5 (rd (rd_L1 t308 x8_3) x12_5) false (wrap64 (x15_6 + 1)))) = some r := by rw [if_neg (show ¬ (false = true) by decide)] at H; exact H
                                     clear H
                                     have H := H1
                                     clear H1
                                     by_cases c66 : (rd (rd_L1 l0 (rd (rd_L1 t308 x8_3) x12_5)) (rd (rd_L1 t308 x8_3) x15_6)) = x9_4
                                     ·rw [if_pos c66] at H
                                      have c66b0 : ((rd (rd_L1 l0 (rd (rd_L1 t308 x8_3) x12_5)) (rd (rd_L1 t308 x8_3) x15_6)) == x9_4) = true := beq_iff_eq.mpr c66
                                      have c66b1 : ((rd (rd_L1 l0 (rd (rd_L1 t308 x8_3) x12_5)) (rd (rd_L1 t308 x8_3) x15_6)) != x9_4) = false := bne_eq_false_iff_eq.mpr c66
                                      clear c66
                                      by_cases c67 : (rd (rd_L1 t308 x8_3) x15_6) < (l0.length : Int)
                                      ·rw [if_pos c67] at H
                                       have c67b0 : decide ((rd (rd_L1 t308 x8_3) x15_6) < (l0.length : Int)) = true := decide_eq_true c67
                                       clear c67
                                       by_cases c68 : (rd (rd_L1 t308 x8_3) x12_5) < ((rd_L1 l0 (rd (rd_L1 t308 x8_3) x15_6)).length : Int)
                                       ·rw [if_pos c68] at H
                                        have c68b0 : decide ((rd (rd_L1 t308 x8_3) x12_5) < ((rd_L1 l0 (rd (rd_L1 t308 x8_3) x15_6)).length : Int)) = true := decide_eq_true c68
                                        clear c68
                                        have H' := Aside0.mk H
                                        clear H
                                        have p329 : 0 ≤ (x8_3 : Int) := of_decide_eq_true (by first | (with_reducible assumption) | assumption)
                                        have q329 : x8_3 < (t308.length : Int) := of_decide_eq_true (by first | (with_reducible assumption) | assumption)
                                        obtain ⟨ad329, A329_0, c329_0, e329, hx329_0, hl329_0, hi329_0⟩ := at_L1 (Kd.S_reads' HO_3.out).2.2 x8_3 p329 q329
                                        obtain rfl : ad317 = ad329 := (by injection e329)
                                        obtain ⟨ce329, hce329, hMe329, hcc329⟩ := Kd.S_get HO_3.out [] x8_3 p329 (by first | exact q329 | exact of_decide_eq_true (by first | (with_reducible assumption) | assumption) | (have e_ := (Kd.S_reads' HO_3.out).1; omega))
                                        obtain ⟨ve329_0, rfl, ge329_0⟩ := hMe329
                                        have hv329_0 := hcc329 0 _ rfl
                                        rw [Nat.add_zero, show ((Kd.slice 3 (Kd.int .i64))).sz = 1 from rfl, Nat.mul_one] at hv329_0
                                        replace hv329_0 := Option.some.inj (hv329_0.symm.trans hx329_0)
                                        rw [hv329_0] at ge329_0
                                        have HL329_0 := Aside0.mk (show Kd.R (Kd.int .i64) 3 _ _ _ _ (rd_L1 t308 x8_3) from ge329_0)
                                        clear hv329_0 ge329_0
                                        clear hcc329 hce329
                                        have HR329_0 := Aside0.mk hi329_0
                                        have HC329_0 := Aside0.mk hl329_0
                                        clear hi329_0 hl329_0
                                        replace p329 := eq_true p329
                                        replace q329 := eq_true q329
                                        have p334 : 0 ≤ (x8_3 : Int) := of_decide_eq_true (by first | (with_reducible assumption) | assumption)
                                        have q334 : x8_3 < (t308.length : Int) := of_decide_eq_true (by first | (with_reducible assumption) | assumption)
                                        obtain ⟨ad334, A334_0, c334_0, e334, hx334_0, hl334_0, hi334_0⟩ := at_L1 (Kd.S_reads' HO_3.out).2.2 x8_3 p334 q334
                                        obtain rfl : ad317 = ad334 := (by injection e334)
                                        obtain ⟨ce334, hce334, hMe334, hcc334⟩ := Kd.S_get HO_3.out [] x8_3 p334 (by first | exact q334 | exact of_decide_eq_true (by first | (with_reducible assumption) | assumption) | (have e_ := (Kd.S_reads' HO_3.out).1; omega))
                                        obtain ⟨ve334_0, rfl, ge334_0⟩ := hMe334
                                        have hv334_0 := hcc334 0 _ rfl
                                        rw [Nat.add_zero, show ((Kd.slice 3 (Kd.int .i64))).sz = 1 from rfl, Nat.mul_one] at hv334_0
                                        replace hv334_0 := Option.some.inj (hv334_0.symm.trans hx334_0)
                                        rw [hv334_0] at ge334_0
                                        have HL334_0 := Aside0.mk (show Kd.R (Kd.int .i64) 3 _ _ _ _ (rd_L1 t308 x8_3) from ge334_0)
                                        clear hv334_0 ge334_0
                                        clear hcc334 hce334
                                        have HR334_0 := Aside0.mk hi334_0
                                        have HC334_0 := Aside0.mk hl334_0
                                        clear hi334_0 hl334_0
                                        replace p334 := eq_true p334
                                        replace q334 := eq_true q334
                                        have ea_ := Option.some.inj (hx329_0.symm.trans hx334_0)
                                        injection ea_ with ea_ en_ ec_
                                        subst ea_
                                        subst ec_
                                        clear en_
                                        have p335 : 0 ≤ (x15_6 : Int) := of_decide_eq_true (by first | (with_reducible assumption) | assumption)
                                        have q335 : x15_6 < ((rd_L1 t308 x8_3).length : Int) := of_decide_eq_true (by first | (with_reducible assumption) | assumption)
                                        obtain ⟨ad335, e335, hx335_0⟩ := Kd.at_int (by repeat (first | (with_reducible exact HR334_0.out) | (with_reducible refine Kd.C_alloc ?_ _) | (with_reducible refine Kd.C_drewN ?_ _) | (with_reducible refine Kd.C_drew ?_) | exact HR334_0.out)) x15_6 p335 q335
                                        cases e335
                                        replace p335 := eq_true p335
                                        replace q335 := eq_true q335
                                        have p336 : 0 ≤ (x8_3 : Int) := of_decide_eq_true (by first | (with_reducible assumption) | assumption)
                                        have q336 : x8_3 < (t308.length : Int) := of_decide_eq_true (by first | (with_reducible assumption) | assumption)
                                        obtain ⟨ad336, A336_0, c336_0, e336, hx336_0, hl336_0, hi336_0⟩ := at_L1 (Kd.S_reads' HO_3.out).2.2 x8_3 p336 q336
                                        obtain rfl : ad317 = ad336 := (by injection e336)
                                        obtain ⟨ce336, hce336, hMe336, hcc336⟩ := Kd.S_get HO_3.out [] x8_3 p336 (by first | exact q336 | exact of_decide_eq_true (by first | (with_reducible assumption) | assumption) | (have e_ := (Kd.S_reads' HO_3.out).1; omega))
                                        obtain ⟨ve336_0, rfl, ge336_0⟩ := hMe336
                                        have hv336_0 := hcc336 0 _ rfl
                                        rw [Nat.add_zero, show ((Kd.slice 3 (Kd.int .i64))).sz = 1 from rfl, Nat.mul_one] at hv336_0
                                        replace hv336_0 := Option.some.inj (hv336_0.symm.trans hx336_0)
                                        rw [hv336_0] at ge336_0
                                        have HL336_0 := Aside0.mk (show Kd.R (Kd.int .i64) 3 _ _ _ _ (rd_L1 t308 x8_3) from ge336_0)
                                        clear hv336_0 ge336_0
                                        clear hcc336 hce336
                                        have HR336_0 := Aside0.mk hi336_0
                                        have HC336_0 := Aside0.mk hl336_0
                                        clear hi336_0 hl336_0
                                        replace p336 := eq_true p336
                                        replace q336 := eq_true q336
                                        have ea_ := Option.some.inj (hx329_0.symm.trans hx336_0)
                                        injection ea_ with ea_ en_ ec_
                                        subst ea_
                                        subst ec_
                                        clear en_
                                        have p337 : 0 ≤ ((rd (rd_L1 t308 x8_3) x12_5) : Int) := of_decide_eq_true (by first | (with_reducible assumption) | assumption)
                                        have q337 : (rd (rd_L1 t308 x8_3) x12_5) < (l0.length : Int) := of_decide_eq_true (by first | (with_reducible assumption) | assumption)
                                        obtain ⟨ad337, A337_0, c337_0, e337, hx337_0, hl337_0, hi337_0⟩ := at_L1 HR0.out (rd (rd_L1 t308 x8_3) x12_5) p337 q337
                                        cases e337
                                        replace hx337_0 := (HB.out.cell (World.block_lt_of_cell? w _ hx337_0)).trans hx337_0
                                        have HR337_0 := Aside0.mk hi337_0
                                        have HC337_0 := Aside0.mk hl337_0
                                        clear hi337_0 hl337_0
                                        replace p337 := eq_true p337
                                        replace q337 := eq_true q337
                                        have p338 : 0 ≤ ((rd (rd_L1 t308 x8_3) x15_6) : Int) := of_decide_eq_true (by first | (with_reducible assumption) | assumption)
                                        have q338 : (rd (rd_L1 t308 x8_3) x15_6) < ((rd_L1 l0 (rd (rd_L1 t308 x8_3) x12_5)).length : Int) := of_decide_eq_true (by first | (with_reducible assumption) | assumption)
                                        obtain ⟨ad338, e338, hx338_0⟩ := Kd.at_int HR337_0.out (rd (rd_L1 t308 x8_3) x15_6) p338 q338
                                        cases e338
                                        replace hx338_0 := (HB.out.cell (World.block_lt_of_cell? w _ hx338_0)).trans hx338_0
                                        replace p338 := eq_true p338
                                        replace q338 := eq_true q338
                                        go_wp2_with (first | (go_at_call 12; (with_reducible refine (commodatumref10_In.calls k6 _ _ (rd_L1 t308 x8_3) (rd (rd_L1 l0 (rd (rd_L1 t308 x8_3) x12_5)) (rd (rd_L1 t308 x8_3) x15_6)) true _ ?side1 ?side2 A63.out).mono ?_); (case side1 => repeat (first | exact (by repeat (first | (with_reducible exact HR336_0.out) | (with_reducible refine Kd.C_alloc ?_ _) | (with_reducible refine Kd.C_drewN ?_ _) | (with_reducible refine Kd.C_drew ?_) | exact HR336_0.out)) | (with_reducible refine Kd.C_alloc ?_ _) | (with_reducible refine Kd.C_drewN ?_ _) | (with_reducible refine Kd.C_drew ?_))); (case side2 => exact HC336_0.out); rintro e w' ⟨rfl, ⟨nd, rfl⟩⟩; (try first | exact ⟨rfl, _, World.drewN_drewN _ _ _⟩ | exact ⟨rfl, _, Eq.trans (World.drewN_drewN _ _ _) (congrArg (World.drewN _) (Nat.add_assoc _ _ _))⟩); have p340 : 0 ≤ ((rd (rd_L1 t308 x8_3) x12_5) : Int) := of_decide_eq_true (by first | (with_reducible assumption) | assumption); have q340 : (rd (rd_L1 t308 x8_3) x12_5) < (l0.length : Int) := of_decide_eq_true (by first | (with_reducible assumption) | assumption); obtain ⟨ad340, A340_0, c340_0, e340, hx340_0, hl340_0, hi340_0⟩ := at_L1 HR0.out (rd (rd_L1 t308 x8_3) x12_5) p340 q340; obtain rfl : ad337 = ad340 := (by injection e340); replace hx340_0 := (HB.out.cell (World.block_lt_of_cell? w _ hx340_0)).trans hx340_0; have HR340_0 := Aside0.mk hi340_0; have HC340_0 := Aside0.mk hl340_0; clear hi340_0 hl340_0; replace p340 := eq_true p340; replace q340 := eq_true q340; have ea_ := Option.some.inj (hx337_0.symm.trans hx340_0); injection ea_ with ea_ en_ ec_; subst ea_; subst ec_; clear en_; have p341 : 0 ≤ ((rd (rd_L1 t308 x8_3) x15_6) : Int) := of_decide_eq_true (by first | (with_reducible assumption) | assumption); have q341 : (rd (rd_L1 t308 x8_3) x15_6) < ((rd_L1 l0 (rd (rd_L1 t308 x8_3) x12_5)).length : Int) := of_decide_eq_true (by first | (with_reducible assumption) | assumption); obtain ⟨ad341, e341, hx341_0⟩ := Kd.at_int HR340_0.out (rd (rd_L1 t308 x8_3) x15_6) p341 q341; cases e341; replace hx341_0 := (HB.out.cell (World.block_lt_of_cell? w _ hx341_0)).trans hx341_0; replace p341 := eq_true p341; replace q341 := eq_true q341; have p342 : 0 ≤ ((rd (rd_L1 t308 x8_3) x15_6) : Int) := of_decide_eq_true (by first | (with_reducible assumption) | assumption); have q342 : (rd (rd_L1 t308 x8_3) x15_6) < (l0.length : Int) := of_decide_eq_true (by first | (with_reducible assumption) | assumption); obtain ⟨ad342, A342_0, c342_0, e342, hx342_0, hl342_0, hi342_0⟩ := at_L1 HR0.out (rd (rd_L1 t308 x8_3) x15_6) p342 q342; obtain rfl : ad337 = ad342 := (by injection e342); replace hx342_0 := (HB.out.cell (World.block_lt_of_cell? w _ hx342_0)).trans hx342_0; have HR342_0 := Aside0.mk hi342_0; have HC342_0 := Aside0.mk hl342_0; clear hi342_0 hl342_0; replace p342 := eq_true p342; replace q342 := eq_true q342; have p343 : 0 ≤ ((rd (rd_L1 t308 x8_3) x12_5) : Int) := of_decide_eq_true (by first | (with_reducible assumption) | assumption); have q343 : (rd (rd_L1 t308 x8_3) x12_5) < ((rd_L1 l0 (rd (rd_L1 t308 x8_3) x15_6)).length : Int) := of_decide_eq_true (by first | (with_reducible assumption) | assumption); obtain ⟨ad343, e343, hx343_0⟩ := Kd.at_int HR342_0.out (rd (rd_L1 t308 x8_3) x12_5) p343 q343; cases e343; replace hx343_0 := (HB.out.cell (World.block_lt_of_cell? w _ hx343_0)).trans hx343_0; replace p343 := eq_true p343; replace q343 := eq_true q343))
                                        repeat (go_quiet (first | (go_at_call 12; (with_reducible refine (commodatumref10_In.calls k6 _ _ (rd_L1 t308 x8_3) (rd (rd_L1 l0 (rd (rd_L1 t308 x8_3) x12_5)) (rd (rd_L1 t308 x8_3) x15_6)) true _ ?side1 ?side2 A63.out).mono ?_); (case side1 => repeat (first | exact (by repeat (first | (with_reducible exact HR336_0.out) | (with_reducible refine Kd.C_alloc ?_ _) | (with_reducible refine Kd.C_drewN ?_ _) | (with_reducible refine Kd.C_drew ?_) | exact HR336_0.out)) | (with_reducible refine Kd.C_alloc ?_ _) | (with_reducible refine Kd.C_drewN ?_ _) | (with_reducible refine Kd.C_drew ?_))); (case side2 => exact HC336_0.out); rintro e w' ⟨rfl, ⟨nd, rfl⟩⟩; (try first | exact ⟨rfl, _, World.drewN_drewN _ _ _⟩ | exact ⟨rfl, _, Eq.trans (World.drewN_drewN _ _ _) (congrArg (World.drewN _) (Nat.add_assoc _ _ _))⟩); have p340 : 0 ≤ ((rd (rd_L1 t308 x8_3) x12_5) : Int) := of_decide_eq_true (by first | (with_reducible assumption) | assumption); have q340 : (rd (rd_L1 t308 x8_3) x12_5) < (l0.length : Int) := of_decide_eq_true (by first | (with_reducible assumption) | assumption); obtain ⟨ad340, A340_0, c340_0, e340, hx340_0, hl340_0, hi340_0⟩ := at_L1 HR0.out (rd (rd_L1 t308 x8_3) x12_5) p340 q340; obtain rfl : ad337 = ad340 := (by injection e340); replace hx340_0 := (HB.out.cell (World.block_lt_of_cell? w _ hx340_0)).trans hx340_0; have HR340_0 := Aside0.mk hi340_0; have HC340_0 := Aside0.mk hl340_0; clear hi340_0 hl340_0; replace p340 := eq_true p340; replace q340 := eq_true q340; have ea_ := Option.some.inj (hx337_0.symm.trans hx340_0); injection ea_ with ea_ en_ ec_; subst ea_; subst ec_; clear en_; have p341 : 0 ≤ ((rd (rd_L1 t308 x8_3) x15_6) : Int) := of_decide_eq_true (by first | (with_reducible assumption) | assumption); have q341 : (rd (rd_L1 t308 x8_3) x15_6) < ((rd_L1 l0 (rd (rd_L1 t308 x8_3) x12_5)).length : Int) := of_decide_eq_true (by first | (with_reducible assumption) | assumption); obtain ⟨ad341, e341, hx341_0⟩ := Kd.at_int HR340_0.out (rd (rd_L1 t308 x8_3) x15_6) p341 q341; cases e341; replace hx341_0 := (HB.out.cell (World.block_lt_of_cell? w _ hx341_0)).trans hx341_0; replace p341 := eq_true p341; replace q341 := eq_true q341; have p342 : 0 ≤ ((rd (rd_L1 t308 x8_3) x15_6) : Int) := of_decide_eq_true (by first | (with_reducible assumption) | assumption); have q342 : (rd (rd_L1 t308 x8_3) x15_6) < (l0.length : Int) := of_decide_eq_true (by first | (with_reducible assumption) | assumption); obtain ⟨ad342, A342_0, c342_0, e342, hx342_0, hl342_0, hi342_0⟩ := at_L1 HR0.out (rd (rd_L1 t308 x8_3) x15_6) p342 q342; obtain rfl : ad337 = ad342 := (by injection e342); replace hx342_0 := (HB.out.cell (World.block_lt_of_cell? w _ hx342_0)).trans hx342_0; have HR342_0 := Aside0.mk hi342_0; have HC342_0 := Aside0.mk hl342_0; clear hi342_0 hl342_0; replace p342 := eq_true p342; replace q342 := eq_true q342; have p343 : 0 ≤ ((rd (rd_L1 t308 x8_3) x12_5) : Int) := of_decide_eq_true (by first | (with_reducible assumption) | assumption); have q343 : (rd (rd_L1 t308 x8_3) x12_5) < ((rd_L1 l0 (rd (rd_L1 t308 x8_3) x15_6)).length : Int) := of_decide_eq_true (by first | (with_reducible assumption) | assumption); obtain ⟨ad343, e343, hx343_0⟩ := Kd.at_int HR342_0.out (rd (rd_L1 t308 x8_3) x12_5) p343 q343; cases e343; replace hx343_0 := (HB.out.cell (World.block_lt_of_cell? w _ hx343_0)).trans hx343_0; replace p343 := eq_true p343; replace q343 := eq_true q343)); try go_wp2_with (first | (go_at_call 12; (with_reducible refine (commodatumref10_In.calls k6 _ _ (rd_L1 t308 x8_3) (rd (rd_L1 l0 (rd (rd_L1 t308 x8_3) x12_5)) (rd (rd_L1 t308 x8_3) x15_6)) true _ ?side1 ?side2 A63.out).mono ?_); (case side1 => repeat (first | exact (by repeat (first | (with_reducible exact HR336_0.out) | (with_reducible refine Kd.C_alloc ?_ _) | (with_reducible refine Kd.C_drewN ?_ _) | (with_reducible refine Kd.C_drew ?_) | exact HR336_0.out)) | (with_reducible refine Kd.C_alloc ?_ _) | (with_reducible refine Kd.C_drewN ?_ _) | (with_reducible refine Kd.C_drew ?_))); (case side2 => exact HC336_0.out); rintro e w' ⟨rfl, ⟨nd, rfl⟩⟩; (try first | exact ⟨rfl, _, World.drewN_drewN _ _ _⟩ | exact ⟨rfl, _, Eq.trans (World.drewN_drewN _ _ _) (congrArg (World.drewN _) (Nat.add_assoc _ _ _))⟩); have p340 : 0 ≤ ((rd (rd_L1 t308 x8_3) x12_5) : Int) := of_decide_eq_true (by first | (with_reducible assumption) | assumption); have q340 : (rd (rd_L1 t308 x8_3) x12_5) < (l0.length : Int) := of_decide_eq_true (by first | (with_reducible assumption) | assumption); obtain ⟨ad340, A340_0, c340_0, e340, hx340_0, hl340_0, hi340_0⟩ := at_L1 HR0.out (rd (rd_L1 t308 x8_3) x12_5) p340 q340; obtain rfl : ad337 = ad340 := (by injection e340); replace hx340_0 := (HB.out.cell (World.block_lt_of_cell? w _ hx340_0)).trans hx340_0; have HR340_0 := Aside0.mk hi340_0; have HC340_0 := Aside0.mk hl340_0; clear hi340_0 hl340_0; replace p340 := eq_true p340; replace q340 := eq_true q340; have ea_ := Option.some.inj (hx337_0.symm.trans hx340_0); injection ea_ with ea_ en_ ec_; subst ea_; subst ec_; clear en_; have p341 : 0 ≤ ((rd (rd_L1 t308 x8_3) x15_6) : Int) := of_decide_eq_true (by first | (with_reducible assumption) | assumption); have q341 : (rd (rd_L1 t308 x8_3) x15_6) < ((rd_L1 l0 (rd (rd_L1 t308 x8_3) x12_5)).length : Int) := of_decide_eq_true (by first | (with_reducible assumption) | assumption); obtain ⟨ad341, e341, hx341_0⟩ := Kd.at_int HR340_0.out (rd (rd_L1 t308 x8_3) x15_6) p341 q341; cases e341; replace hx341_0 := (HB.out.cell (World.block_lt_of_cell? w _ hx341_0)).trans hx341_0; replace p341 := eq_true p341; replace q341 := eq_true q341; have p342 : 0 ≤ ((rd (rd_L1 t308 x8_3) x15_6) : Int) := of_decide_eq_true (by first | (with_reducible assumption) | assumption); have q342 : (rd (rd_L1 t308 x8_3) x15_6) < (l0.length : Int) := of_decide_eq_true (by first | (with_reducible assumption) | assumption); obtain ⟨ad342, A342_0, c342_0, e342, hx342_0, hl342_0, hi342_0⟩ := at_L1 HR0.out (rd (rd_L1 t308 x8_3) x15_6) p342 q342; obtain rfl : ad337 = ad342 := (by injection e342); replace hx342_0 := (HB.out.cell (World.block_lt_of_cell? w _ hx342_0)).trans hx342_0; have HR342_0 := Aside0.mk hi342_0; have HC342_0 := Aside0.mk hl342_0; clear hi342_0 hl342_0; replace p342 := eq_true p342; replace q342 := eq_true q342; have p343 : 0 ≤ ((rd (rd_L1 t308 x8_3) x12_5) : Int) := of_decide_eq_true (by first | (with_reducible assumption) | assumption); have q343 : (rd (rd_L1 t308 x8_3) x12_5) < ((rd_L1 l0 (rd (rd_L1 t308 x8_3) x15_6)).length : Int) := of_decide_eq_true (by first | (with_reducible assumption) | assumption); obtain ⟨ad343, e343, hx343_0⟩ := Kd.at_int HR342_0.out (rd (rd_L1 t308 x8_3) x12_5) p343 q343; cases e343; replace hx343_0 := (HB.out.cell (World.block_lt_of_cell? w _ hx343_0)).trans hx343_0; replace p343 := eq_true p343; replace q343 := eq_true q343)))
                                        go_roundg k6
                                        case measure => have := HJ1.out; have := HK2.out; have := HK3.out; have := HK4.out; have := HK5.out; have := HK6.out; omega
                                        case rel => exact ⟨(((rd (rd_L1 l0 (rd (rd_L1 t308 x8_3) x15_6)) (rd (rd_L1 t308 x8_3) x12_5)) == x9_4)), (wrap64 (x15_6 + 1)), (by first | rfl | (simp; done) | (simp [*]; done)), (by first | rfl | (simp; done) | (simp [*]; done)), H', ⟨by have := HJ1.out; have := HK2.out; have := HK3.out; have := HK4.out; have := HK5.out; have := HK6.out; omega⟩, ⟨by (with_reducible repeat (first | apply Kd.S_alloc | apply Kd.S_drewN | apply Kd.S_drew)); exact HO_3.out⟩, ⟨by (with_reducible repeat (first | apply Kd.R_alloc | apply Kd.R_drewN | apply Kd.R_drew)); exact HO_5.out⟩, ⟨by repeat (first | (with_reducible exact HR317_0.out) | (with_reducible refine Kd.C_alloc ?_ _) | (with_reducible refine Kd.C_drewN ?_ _) | (with_reducible refine Kd.C_drew ?_) | exact HR317_0.out)⟩, ⟨by repeat (first | (with_reducible exact HR326_0.out) | (with_reducible refine Kd.C_alloc ?_ _) | (with_reducible refine Kd.C_drewN ?_ _) | (with_reducible refine Kd.C_drew ?_) | exact HR326_0.out)⟩, ⟨by repeat (first | (with_reducible exact HR327_0.out) | (with_reducible refine Kd.C_alloc ?_ _) | (with_reducible refine Kd.C_drewN ?_ _) | (with_reducible refine Kd.C_drew ?_) | exact HR327_0.out)⟩, ⟨by repeat (first | (with_reducible first | exact HB.out | apply below_alloc | apply pw_below_drewN | apply below_drew1) | exact HB.out)⟩⟩
                                       ·rw [if_neg c68] at H
                                        exact absurd H (by simp)
                                      ·rw [if_neg c67] at H
                                       exact absurd H (by simp)
                                     ·rw [if_neg c66] at H
                                      have c66b0 : ((rd (rd_L1 l0 (rd (rd_L1 t308 x8_3) x12_5)) (rd (rd_L1 t308 x8_3) x15_6)) == x9_4) = false := beq_eq_false_iff_ne.mpr c66
                                      have c66b1 : ((rd (rd_L1 l0 (rd (rd_L1 t308 x8_3) x12_5)) (rd (rd_L1 t308 x8_3) x15_6)) != x9_4) = true := bne_iff_ne.mpr c66
                                      have H' := Aside0.mk H
                                      clear H
                                      have p329 : 0 ≤ (x8_3 : Int) := of_decide_eq_true (by first | (with_reducible assumption) | assumption)
                                      have q329 : x8_3 < (t308.length : Int) := of_decide_eq_true (by first | (with_reducible assumption) | assumption)
                                      obtain ⟨ad329, A329_0, c329_0, e329, hx329_0, hl329_0, hi329_0⟩ := at_L1 (Kd.S_reads' HO_3.out).2.2 x8_3 p329 q329
                                      obtain rfl : ad317 = ad329 := (by injection e329)
                                      obtain ⟨ce329, hce329, hMe329, hcc329⟩ := Kd.S_get HO_3.out [] x8_3 p329 (by first | exact q329 | exact of_decide_eq_true (by first | (with_reducible assumption) | assumption) | (have e_ := (Kd.S_reads' HO_3.out).1; omega))
                                      obtain ⟨ve329_0, rfl, ge329_0⟩ := hMe329
                                      have hv329_0 := hcc329 0 _ rfl
                                      rw [Nat.add_zero, show ((Kd.slice 3 (Kd.int .i64))).sz = 1 from rfl, Nat.mul_one] at hv329_0
                                      replace hv329_0 := Option.some.inj (hv329_0.symm.trans hx329_0)
                                      rw [hv329_0] at ge329_0
                                      have HL329_0 := Aside0.mk (show Kd.R (Kd.int .i64) 3 _ _ _ _ (rd_L1 t308 x8_3) from ge329_0)
                                      clear hv329_0 ge329_0
                                      clear hcc329 hce329
                                      have HR329_0 := Aside0.mk hi329_0
                                      have HC329_0 := Aside0.mk hl329_0
                                      clear hi329_0 hl329_0
                                      replace p329 := eq_true p329
                                      replace q329 := eq_true q329
                                      have p334 : 0 ≤ (x8_3 : Int) := of_decide_eq_true (by first | (with_reducible assumption) | assumption)
                                      have q334 : x8_3 < (t308.length : Int) := of_decide_eq_true (by first | (with_reducible assumption) | assumption)
                                      obtain ⟨ad334, A334_0, c334_0, e334, hx334_0, hl334_0, hi334_0⟩ := at_L1 (Kd.S_reads' HO_3.out).2.2 x8_3 p334 q334
                                      obtain rfl : ad317 = ad334 := (by injection e334)
                                      obtain ⟨ce334, hce334, hMe334, hcc334⟩ := Kd.S_get HO_3.out [] x8_3 p334 (by first | exact q334 | exact of_decide_eq_true (by first | (with_reducible assumption) | assumption) | (have e_ := (Kd.S_reads' HO_3.out).1; omega))
                                      obtain ⟨ve334_0, rfl, ge334_0⟩ := hMe334
                                      have hv334_0 := hcc334 0 _ rfl
                                      rw [Nat.add_zero, show ((Kd.slice 3 (Kd.int .i64))).sz = 1 from rfl, Nat.mul_one] at hv334_0
                                      replace hv334_0 := Option.some.inj (hv334_0.symm.trans hx334_0)
                                      rw [hv334_0] at ge334_0
                                      have HL334_0 := Aside0.mk (show Kd.R (Kd.int .i64) 3 _ _ _ _ (rd_L1 t308 x8_3) from ge334_0)
                                      clear hv334_0 ge334_0
                                      clear hcc334 hce334
                                      have HR334_0 := Aside0.mk hi334_0
                                      have HC334_0 := Aside0.mk hl334_0
                                      clear hi334_0 hl334_0
                                      replace p334 := eq_true p334
                                      replace q334 := eq_true q334
                                      have ea_ := Option.some.inj (hx329_0.symm.trans hx334_0)
                                      injection ea_ with ea_ en_ ec_
                                      subst ea_
                                      subst ec_
                                      clear en_
                                      have p335 : 0 ≤ (x15_6 : Int) := of_decide_eq_true (by first | (with_reducible assumption) | assumption)
                                      have q335 : x15_6 < ((rd_L1 t308 x8_3).length : Int) := of_decide_eq_true (by first | (with_reducible assumption) | assumption)
                                      obtain ⟨ad335, e335, hx335_0⟩ := Kd.at_int (by repeat (first | (with_reducible exact HR334_0.out) | (with_reducible refine Kd.C_alloc ?_ _) | (with_reducible refine Kd.C_drewN ?_ _) | (with_reducible refine Kd.C_drew ?_) | exact HR334_0.out)) x15_6 p335 q335
                                      cases e335
                                      replace p335 := eq_true p335
                                      replace q335 := eq_true q335
                                      have p336 : 0 ≤ (x8_3 : Int) := of_decide_eq_true (by first | (with_reducible assumption) | assumption)
                                      have q336 : x8_3 < (t308.length : Int) := of_decide_eq_true (by first | (with_reducible assumption) | assumption)
                                      obtain ⟨ad336, A336_0, c336_0, e336, hx336_0, hl336_0, hi336_0⟩ := at_L1 (Kd.S_reads' HO_3.out).2.2 x8_3 p336 q336
                                      obtain rfl : ad317 = ad336 := (by injection e336)
                                      obtain ⟨ce336, hce336, hMe336, hcc336⟩ := Kd.S_get HO_3.out [] x8_3 p336 (by first | exact q336 | exact of_decide_eq_true (by first | (with_reducible assumption) | assumption) | (have e_ := (Kd.S_reads' HO_3.out).1; omega))
                                      obtain ⟨ve336_0, rfl, ge336_0⟩ := hMe336
                                      have hv336_0 := hcc336 0 _ rfl
                                      rw [Nat.add_zero, show ((Kd.slice 3 (Kd.int .i64))).sz = 1 from rfl, Nat.mul_one] at hv336_0
                                      replace hv336_0 := Option.some.inj (hv336_0.symm.trans hx336_0)
                                      rw [hv336_0] at ge336_0
                                      have HL336_0 := Aside0.mk (show Kd.R (Kd.int .i64) 3 _ _ _ _ (rd_L1 t308 x8_3) from ge336_0)
                                      clear hv336_0 ge336_0
                                      clear hcc336 hce336
                                      have HR336_0 := Aside0.mk hi336_0
                                      have HC336_0 := Aside0.mk hl336_0
                                      clear hi336_0 hl336_0
                                      replace p336 := eq_true p336
                                      replace q336 := eq_true q336
                                      have ea_ := Option.some.inj (hx329_0.symm.trans hx336_0)
                                      injection ea_ with ea_ en_ ec_
                                      subst ea_
                                      subst ec_
                                      clear en_
                                      have p337 : 0 ≤ ((rd (rd_L1 t308 x8_3) x12_5) : Int) := of_decide_eq_true (by first | (with_reducible assumption) | assumption)
                                      have q337 : (rd (rd_L1 t308 x8_3) x12_5) < (l0.length : Int) := of_decide_eq_true (by first | (with_reducible assumption) | assumption)
                                      obtain ⟨ad337, A337_0, c337_0, e337, hx337_0, hl337_0, hi337_0⟩ := at_L1 HR0.out (rd (rd_L1 t308 x8_3) x12_5) p337 q337
                                      cases e337
                                      replace hx337_0 := (HB.out.cell (World.block_lt_of_cell? w _ hx337_0)).trans hx337_0
                                      have HR337_0 := Aside0.mk hi337_0
                                      have HC337_0 := Aside0.mk hl337_0
                                      clear hi337_0 hl337_0
                                      replace p337 := eq_true p337
                                      replace q337 := eq_true q337
                                      have p338 : 0 ≤ ((rd (rd_L1 t308 x8_3) x15_6) : Int) := of_decide_eq_true (by first | (with_reducible assumption) | assumption)
                                      have q338 : (rd (rd_L1 t308 x8_3) x15_6) < ((rd_L1 l0 (rd (rd_L1 t308 x8_3) x12_5)).length : Int) := of_decide_eq_true (by first | (with_reducible assumption) | assumption)
                                      obtain ⟨ad338, e338, hx338_0⟩ := Kd.at_int HR337_0.out (rd (rd_L1 t308 x8_3) x15_6) p338 q338
                                      cases e338
                                      replace hx338_0 := (HB.out.cell (World.block_lt_of_cell? w _ hx338_0)).trans hx338_0
                                      replace p338 := eq_true p338
                                      replace q338 := eq_true q338
                                      go_wp2_with (first | (go_at_call 12; (with_reducible refine (commodatumref10_In.calls k6 _ _ (rd_L1 t308 x8_3) (rd (rd_L1 l0 (rd (rd_L1 t308 x8_3) x12_5)) (rd (rd_L1 t308 x8_3) x15_6)) true _ ?side1 ?side2 A63.out).mono ?_); (case side1 => repeat (first | exact (by repeat (first | (with_reducible exact HR336_0.out) | (with_reducible refine Kd.C_alloc ?_ _) | (with_reducible refine Kd.C_drewN ?_ _) | (with_reducible refine Kd.C_drew ?_) | exact HR336_0.out)) | (with_reducible refine Kd.C_alloc ?_ _) | (with_reducible refine Kd.C_drewN ?_ _) | (with_reducible refine Kd.C_drew ?_))); (case side2 => exact HC336_0.out); rintro e w' ⟨rfl, ⟨nd, rfl⟩⟩; (try first | exact ⟨rfl, _, World.drewN_drewN _ _ _⟩ | exact ⟨rfl, _, Eq.trans (World.drewN_drewN _ _ _) (congrArg (World.drewN _) (Nat.add_assoc _ _ _))⟩); have p340 : 0 ≤ ((rd (rd_L1 t308 x8_3) x12_5) : Int) := of_decide_eq_true (by first | (with_reducible assumption) | assumption); have q340 : (rd (rd_L1 t308 x8_3) x12_5) < (l0.length : Int) := of_decide_eq_true (by first | (with_reducible assumption) | assumption); obtain ⟨ad340, A340_0, c340_0, e340, hx340_0, hl340_0, hi340_0⟩ := at_L1 HR0.out (rd (rd_L1 t308 x8_3) x12_5) p340 q340; obtain rfl : ad337 = ad340 := (by injection e340); replace hx340_0 := (HB.out.cell (World.block_lt_of_cell? w _ hx340_0)).trans hx340_0; have HR340_0 := Aside0.mk hi340_0; have HC340_0 := Aside0.mk hl340_0; clear hi340_0 hl340_0; replace p340 := eq_true p340; replace q340 := eq_true q340; have ea_ := Option.some.inj (hx337_0.symm.trans hx340_0); injection ea_ with ea_ en_ ec_; subst ea_; subst ec_; clear en_; have p341 : 0 ≤ ((rd (rd_L1 t308 x8_3) x15_6) : Int) := of_decide_eq_true (by first | (with_reducible assumption) | assumption); have q341 : (rd (rd_L1 t308 x8_3) x15_6) < ((rd_L1 l0 (rd (rd_L1 t308 x8_3) x12_5)).length : Int) := of_decide_eq_true (by first | (with_reducible assumption) | assumption); obtain ⟨ad341, e341, hx341_0⟩ := Kd.at_int HR340_0.out (rd (rd_L1 t308 x8_3) x15_6) p341 q341; cases e341; replace hx341_0 := (HB.out.cell (World.block_lt_of_cell? w _ hx341_0)).trans hx341_0; replace p341 := eq_true p341; replace q341 := eq_true q341))
                                      repeat (go_quiet (first | (go_at_call 12; (with_reducible refine (commodatumref10_In.calls k6 _ _ (rd_L1 t308 x8_3) (rd (rd_L1 l0 (rd (rd_L1 t308 x8_3) x12_5)) (rd (rd_L1 t308 x8_3) x15_6)) true _ ?side1 ?side2 A63.out).mono ?_); (case side1 => repeat (first | exact (by repeat (first | (with_reducible exact HR336_0.out) | (with_reducible refine Kd.C_alloc ?_ _) | (with_reducible refine Kd.C_drewN ?_ _) | (with_reducible refine Kd.C_drew ?_) | exact HR336_0.out)) | (with_reducible refine Kd.C_alloc ?_ _) | (with_reducible refine Kd.C_drewN ?_ _) | (with_reducible refine Kd.C_drew ?_))); (case side2 => exact HC336_0.out); rintro e w' ⟨rfl, ⟨nd, rfl⟩⟩; (try first | exact ⟨rfl, _, World.drewN_drewN _ _ _⟩ | exact ⟨rfl, _, Eq.trans (World.drewN_drewN _ _ _) (congrArg (World.drewN _) (Nat.add_assoc _ _ _))⟩); have p340 : 0 ≤ ((rd (rd_L1 t308 x8_3) x12_5) : Int) := of_decide_eq_true (by first | (with_reducible assumption) | assumption); have q340 : (rd (rd_L1 t308 x8_3) x12_5) < (l0.length : Int) := of_decide_eq_true (by first | (with_reducible assumption) | assumption); obtain ⟨ad340, A340_0, c340_0, e340, hx340_0, hl340_0, hi340_0⟩ := at_L1 HR0.out (rd (rd_L1 t308 x8_3) x12_5) p340 q340; obtain rfl : ad337 = ad340 := (by injection e340); replace hx340_0 := (HB.out.cell (World.block_lt_of_cell? w _ hx340_0)).trans hx340_0; have HR340_0 := Aside0.mk hi340_0; have HC340_0 := Aside0.mk hl340_0; clear hi340_0 hl340_0; replace p340 := eq_true p340; replace q340 := eq_true q340; have ea_ := Option.some.inj (hx337_0.symm.trans hx340_0); injection ea_ with ea_ en_ ec_; subst ea_; subst ec_; clear en_; have p341 : 0 ≤ ((rd (rd_L1 t308 x8_3) x15_6) : Int) := of_decide_eq_true (by first | (with_reducible assumption) | assumption); have q341 : (rd (rd_L1 t308 x8_3) x15_6) < ((rd_L1 l0 (rd (rd_L1 t308 x8_3) x12_5)).length : Int) := of_decide_eq_true (by first | (with_reducible assumption) | assumption); obtain ⟨ad341, e341, hx341_0⟩ := Kd.at_int HR340_0.out (rd (rd_L1 t308 x8_3) x15_6) p341 q341; cases e341; replace hx341_0 := (HB.out.cell (World.block_lt_of_cell? w _ hx341_0)).trans hx341_0; replace p341 := eq_true p341; replace q341 := eq_true q341)); try go_wp2_with (first | (go_at_call 12; (with_reducible refine (commodatumref10_In.calls k6 _ _ (rd_L1 t308 x8_3) (rd (rd_L1 l0 (rd (rd_L1 t308 x8_3) x12_5)) (rd (rd_L1 t308 x8_3) x15_6)) true _ ?side1 ?side2 A63.out).mono ?_); (case side1 => repeat (first | exact (by repeat (first | (with_reducible exact HR336_0.out) | (with_reducible refine Kd.C_alloc ?_ _) | (with_reducible refine Kd.C_drewN ?_ _) | (with_reducible refine Kd.C_drew ?_) | exact HR336_0.out)) | (with_reducible refine Kd.C_alloc ?_ _) | (with_reducible refine Kd.C_drewN ?_ _) | (with_reducible refine Kd.C_drew ?_))); (case side2 => exact HC336_0.out); rintro e w' ⟨rfl, ⟨nd, rfl⟩⟩; (try first | exact ⟨rfl, _, World.drewN_drewN _ _ _⟩ | exact ⟨rfl, _, Eq.trans (World.drewN_drewN _ _ _) (congrArg (World.drewN _) (Nat.add_assoc _ _ _))⟩); have p340 : 0 ≤ ((rd (rd_L1 t308 x8_3) x12_5) : Int) := of_decide_eq_true (by first | (with_reducible assumption) | assumption); have q340 : (rd (rd_L1 t308 x8_3) x12_5) < (l0.length : Int) := of_decide_eq_true (by first | (with_reducible assumption) | assumption); obtain ⟨ad340, A340_0, c340_0, e340, hx340_0, hl340_0, hi340_0⟩ := at_L1 HR0.out (rd (rd_L1 t308 x8_3) x12_5) p340 q340; obtain rfl : ad337 = ad340 := (by injection e340); replace hx340_0 := (HB.out.cell (World.block_lt_of_cell? w _ hx340_0)).trans hx340_0; have HR340_0 := Aside0.mk hi340_0; have HC340_0 := Aside0.mk hl340_0; clear hi340_0 hl340_0; replace p340 := eq_true p340; replace q340 := eq_true q340; have ea_ := Option.some.inj (hx337_0.symm.trans hx340_0); injection ea_ with ea_ en_ ec_; subst ea_; subst ec_; clear en_; have p341 : 0 ≤ ((rd (rd_L1 t308 x8_3) x15_6) : Int) := of_decide_eq_true (by first | (with_reducible assumption) | assumption); have q341 : (rd (rd_L1 t308 x8_3) x15_6) < ((rd_L1 l0 (rd (rd_L1 t308 x8_3) x12_5)).length : Int) := of_decide_eq_true (by first | (with_reducible assumption) | assumption); obtain ⟨ad341, e341, hx341_0⟩ := Kd.at_int HR340_0.out (rd (rd_L1 t308 x8_3) x15_6) p341 q341; cases e341; replace hx341_0 := (HB.out.cell (World.block_lt_of_cell? w _ hx341_0)).trans hx341_0; replace p341 := eq_true p341; replace q341 := eq_true q341)))
                                      go_roundg k6
                                      case measure => have := HJ1.out; have := HK2.out; have := HK3.out; have := HK4.out; have := HK5.out; have := HK6.out; omega
                                      case rel => exact ⟨(false), (wrap64 (x15_6 + 1)), (by first | rfl | (simp; done) | (simp [*]; done)), (by first | rfl | (simp; done) | (simp [*]; done)), H', ⟨by have := HJ1.out; have := HK2.out; have := HK3.out; have := HK4.out; have := HK5.out; have := HK6.out; omega⟩, ⟨by (with_reducible repeat (first | apply Kd.S_alloc | apply Kd.S_drewN | apply Kd.S_drew)); exact HO_3.out⟩, ⟨by (with_reducible repeat (first | apply Kd.R_alloc | apply Kd.R_drewN | apply Kd.R_drew)); exact HO_5.out⟩, ⟨by repeat (first | (with_reducible exact HR317_0.out) | (with_reducible refine Kd.C_alloc ?_ _) | (with_reducible refine Kd.C_drewN ?_ _) | (with_reducible refine Kd.C_drew ?_) | exact HR317_0.out)⟩, ⟨by repeat (first | (with_reducible exact HR326_0.out) | (with_reducible refine Kd.C_alloc ?_ _) | (with_reducible refine Kd.C_drewN ?_ _) | (with_reducible refine Kd.C_drew ?_) | exact HR326_0.out)⟩, ⟨by repeat (first | (with_reducible exact HR327_0.out) | (with_reducible refine Kd.C_alloc ?_ _) | (with_reducible refine Kd.C_drewN ?_ _) | (with_reducible refine Kd.C_drew ?_) | exact HR327_0.out)⟩, ⟨by repeat (first | (with_reducible first | exact HB.out | apply below_alloc | apply pw_below_drewN | apply below_drew1) | exact HB.out)⟩⟩
                                   ·replace c64 := Bool.eq_false_iff.mpr c64
                                    subst c64
                                    have H1 : (none) = some r := by rw [if_neg (show ¬ (false = true) by decide)] at H; exact H
                                    clear H
                                    have H := H1
                                    clear H1
                                    exact absurd H (by simp)
                                  ·rw [if_neg c62] at H
                                   exact absurd H (by simp)
                                 ·rw [if_neg c61] at H
                                  exact absurd H (by simp)
                                ·rw [if_neg c60] at H
                                 exact absurd H (by simp)
                               ·rw [if_neg c59] at H
                                exact absurd H (by simp)
                              ·rw [if_neg c58] at H
                               exact absurd H (by simp)
                             ·rw [if_neg c57] at H
                              have c57b0 : decide (x15_6 < ((rd_L1 t308 x8_3).length : Int)) = false := decide_eq_false c57
                              clear c57
                              by_cases c69 : x14_6 = true
                              ·subst c69
                               have H1 : (if 0 ≤ (rd (rd_L1 t308 x8_3) x12_5) then (if (rd (rd_L1 t308 x8_3) x12_5) < (l0.length : Int) then (if 0 ≤ x9_4 then (if x9_4 < ((rd_L1 l0 (rd (rd_L1 t308 x8_3) x12_5)).length : Int) then (if (rd (rd_L1 l0 (rd (rd_L1 t308 x8_3) x12_5)) x9_4) = (rd (rd_L1 t308 x8_3) x12_5) then (if x9_4 < (l0.length : Int) then (if (rd (rd_L1 t308 x8_3) x12_5) < ((rd_L1 l0 x9_4).length : Int) then (if (rd (rd_L1 l0 x9_4) (rd (rd_L1 t308 x8_3) x12_5)) = (rd (rd_L1 t308 x8_3) x12_5) then (commodatumlaw10_MonoidParts.l3 k6 l0 t308 x5_4 x6_2 x8_3 x9_4 (wrap64 (x12_5 + 1))) else (none)) else (none)) else (none)) else (none)) else (none)) else (none)) else (none)) else (none)) = some r := by rw [if_pos rfl] at H; exact H
                               clear H
                               have H := H1
                               clear H1
                               by_cases c70 : 0 ≤ (rd (rd_L1 t308 x8_3) x12_5)
                               ·rw [if_pos c70] at H
                                have c70b0 : decide (0 ≤ (rd (rd_L1 t308 x8_3) x12_5)) = true := decide_eq_true c70
                                clear c70
                                by_cases c71 : (rd (rd_L1 t308 x8_3) x12_5) < (l0.length : Int)
                                ·rw [if_pos c71] at H
                                 have c71b0 : decide ((rd (rd_L1 t308 x8_3) x12_5) < (l0.length : Int)) = true := decide_eq_true c71
                                 clear c71
                                 by_cases c72 : 0 ≤ x9_4
                                 ·rw [if_pos c72] at H
                                  have c72b0 : decide (0 ≤ x9_4) = true := decide_eq_true c72
                                  clear c72
                                  by_cases c73 : x9_4 < ((rd_L1 l0 (rd (rd_L1 t308 x8_3) x12_5)).length : Int)
                                  ·rw [if_pos c73] at H
                                   have c73b0 : decide (x9_4 < ((rd_L1 l0 (rd (rd_L1 t308 x8_3) x12_5)).length : Int)) = true := decide_eq_true c73
                                   clear c73
                                   by_cases c74 : (rd (rd_L1 l0 (rd (rd_L1 t308 x8_3) x12_5)) x9_4) = (rd (rd_L1 t308 x8_3) x12_5)
                                   ·rw [if_pos c74] at H
                                    have c74b0 : ((rd (rd_L1 l0 (rd (rd_L1 t308 x8_3) x12_5)) x9_4) == (rd (rd_L1 t308 x8_3) x12_5)) = true := beq_iff_eq.mpr c74
                                    have c74b1 : ((rd (rd_L1 l0 (rd (rd_L1 t308 x8_3) x12_5)) x9_4) != (rd (rd_L1 t308 x8_3) x12_5)) = false := bne_eq_false_iff_eq.mpr c74
                                    clear c74
                                    by_cases c75 : x9_4 < (l0.length : Int)
                                    ·rw [if_pos c75] at H
                                     have c75b0 : decide (x9_4 < (l0.length : Int)) = true := decide_eq_true c75
                                     clear c75
                                     by_cases c76 : (rd (rd_L1 t308 x8_3) x12_5) < ((rd_L1 l0 x9_4).length : Int)
                                     ·rw [if_pos c76] at H
                                      have c76b0 : decide ((rd (rd_L1 t308 x8_3) x12_5) < ((rd_L1 l0 x9_4).length : Int)) = true := decide_eq_true c76
                                      clear c76
                                      by_cases c77 : (rd (rd_L1 l0 x9_4) (rd (rd_L1 t308 x8_3) x12_5)) = (rd (rd_L1 t308 x8_3) x12_5)
                                      ·rw [if_pos c77] at H
                                       have c77b0 : ((rd (rd_L1 l0 x9_4) (rd (rd_L1 t308 x8_3) x12_5)) == (rd (rd_L1 t308 x8_3) x12_5)) = true := beq_iff_eq.mpr c77
                                       have c77b1 : ((rd (rd_L1 l0 x9_4) (rd (rd_L1 t308 x8_3) x12_5)) != (rd (rd_L1 t308 x8_3) x12_5)) = false := bne_eq_false_iff_eq.mpr c77
                                       clear c77
                                       have H' := Aside0.mk H
                                       clear H
                                       have p329 : 0 ≤ (x8_3 : Int) := of_decide_eq_true (by first | (with_reducible assumption) | assumption)
                                       have q329 : x8_3 < (t308.length : Int) := of_decide_eq_true (by first | (with_reducible assumption) | assumption)
                                       obtain ⟨ad329, A329_0, c329_0, e329, hx329_0, hl329_0, hi329_0⟩ := at_L1 (Kd.S_reads' HO_3.out).2.2 x8_3 p329 q329
                                       obtain rfl : ad317 = ad329 := (by injection e329)
                                       obtain ⟨ce329, hce329, hMe329, hcc329⟩ := Kd.S_get HO_3.out [] x8_3 p329 (by first | exact q329 | exact of_decide_eq_true (by first | (with_reducible assumption) | assumption) | (have e_ := (Kd.S_reads' HO_3.out).1; omega))
                                       obtain ⟨ve329_0, rfl, ge329_0⟩ := hMe329
                                       have hv329_0 := hcc329 0 _ rfl
                                       rw [Nat.add_zero, show ((Kd.slice 3 (Kd.int .i64))).sz = 1 from rfl, Nat.mul_one] at hv329_0
                                       replace hv329_0 := Option.some.inj (hv329_0.symm.trans hx329_0)
                                       rw [hv329_0] at ge329_0
                                       have HL329_0 := Aside0.mk (show Kd.R (Kd.int .i64) 3 _ _ _ _ (rd_L1 t308 x8_3) from ge329_0)
                                       clear hv329_0 ge329_0
                                       clear hcc329 hce329
                                       have HR329_0 := Aside0.mk hi329_0
                                       have HC329_0 := Aside0.mk hl329_0
                                       clear hi329_0 hl329_0
                                       replace p329 := eq_true p329
                                       replace q329 := eq_true q329
                                       have p330 : 0 ≤ ((rd (rd_L1 t308 x8_3) x12_5) : Int) := of_decide_eq_true (by first | (with_reducible assumption) | assumption)
                                       have q330 : (rd (rd_L1 t308 x8_3) x12_5) < (l0.length : Int) := of_decide_eq_true (by first | (with_reducible assumption) | assumption)
                                       obtain ⟨ad330, A330_0, c330_0, e330, hx330_0, hl330_0, hi330_0⟩ := at_L1 HR0.out (rd (rd_L1 t308 x8_3) x12_5) p330 q330
                                       cases e330
                                       replace hx330_0 := (HB.out.cell (World.block_lt_of_cell? w _ hx330_0)).trans hx330_0
                                       have HR330_0 := Aside0.mk hi330_0
                                       have HC330_0 := Aside0.mk hl330_0
                                       clear hi330_0 hl330_0
                                       replace p330 := eq_true p330
                                       replace q330 := eq_true q330
                                       have p331 : 0 ≤ (x9_4 : Int) := of_decide_eq_true (by first | (with_reducible assumption) | assumption)
                                       have q331 : x9_4 < ((rd_L1 l0 (rd (rd_L1 t308 x8_3) x12_5)).length : Int) := of_decide_eq_true (by first | (with_reducible assumption) | assumption)
                                       obtain ⟨ad331, e331, hx331_0⟩ := Kd.at_int HR330_0.out x9_4 p331 q331
                                       cases e331
                                       replace hx331_0 := (HB.out.cell (World.block_lt_of_cell? w _ hx331_0)).trans hx331_0
                                       replace p331 := eq_true p331
                                       replace q331 := eq_true q331
                                       have p332 : 0 ≤ (x9_4 : Int) := of_decide_eq_true (by first | (with_reducible assumption) | assumption)
                                       have q332 : x9_4 < (l0.length : Int) := of_decide_eq_true (by first | (with_reducible assumption) | assumption)
                                       obtain ⟨ad332, A332_0, c332_0, e332, hx332_0, hl332_0, hi332_0⟩ := at_L1 HR0.out x9_4 p332 q332
                                       obtain rfl : ad330 = ad332 := (by injection e332)
                                       replace hx332_0 := (HB.out.cell (World.block_lt_of_cell? w _ hx332_0)).trans hx332_0
                                       have HR332_0 := Aside0.mk hi332_0
                                       have HC332_0 := Aside0.mk hl332_0
                                       clear hi332_0 hl332_0
                                       replace p332 := eq_true p332
                                       replace q332 := eq_true q332
                                       have p333 : 0 ≤ ((rd (rd_L1 t308 x8_3) x12_5) : Int) := of_decide_eq_true (by first | (with_reducible assumption) | assumption)
                                       have q333 : (rd (rd_L1 t308 x8_3) x12_5) < ((rd_L1 l0 x9_4).length : Int) := of_decide_eq_true (by first | (with_reducible assumption) | assumption)
                                       obtain ⟨ad333, e333, hx333_0⟩ := Kd.at_int HR332_0.out (rd (rd_L1 t308 x8_3) x12_5) p333 q333
                                       cases e333
                                       replace hx333_0 := (HB.out.cell (World.block_lt_of_cell? w _ hx333_0)).trans hx333_0
                                       replace p333 := eq_true p333
                                       replace q333 := eq_true q333
                                       go_wp2
                                       repeat (go_quiet (fail); try go_wp2)
                                       go_roundg k6
                                       case measure => have := HJ1.out; have := HK2.out; have := HK3.out; have := HK4.out; have := HK5.out; have := HK6.out; omega
                                       case rel => exact ⟨(wrap64 (x12_5 + 1)), (by first | rfl | (simp; done) | (simp [*]; done)), H', ⟨by have := HJ1.out; have := HK2.out; have := HK3.out; have := HK4.out; have := HK5.out; have := HK6.out; omega⟩, ⟨by (with_reducible repeat (first | apply Kd.S_alloc | apply Kd.S_drewN | apply Kd.S_drew)); exact HO_3.out⟩, ⟨by (with_reducible repeat (first | apply Kd.R_alloc | apply Kd.R_drewN | apply Kd.R_drew)); exact HO_5.out⟩, ⟨by repeat (first | (with_reducible exact HR317_0.out) | (with_reducible refine Kd.C_alloc ?_ _) | (with_reducible refine Kd.C_drewN ?_ _) | (with_reducible refine Kd.C_drew ?_) | exact HR317_0.out)⟩, ⟨by repeat (first | (with_reducible first | exact HB.out | apply below_alloc | apply pw_below_drewN | apply below_drew1) | exact HB.out)⟩⟩
                                      ·rw [if_neg c77] at H
                                       exact absurd H (by simp)
                                     ·rw [if_neg c76] at H
                                      exact absurd H (by simp)
                                    ·rw [if_neg c75] at H
                                     exact absurd H (by simp)
                                   ·rw [if_neg c74] at H
                                    exact absurd H (by simp)
                                  ·rw [if_neg c73] at H
                                   exact absurd H (by simp)
                                 ·rw [if_neg c72] at H
                                  exact absurd H (by simp)
                                ·rw [if_neg c71] at H
                                 exact absurd H (by simp)
                               ·rw [if_neg c70] at H
                                exact absurd H (by simp)
                              ·replace c69 := Bool.eq_false_iff.mpr c69
                               subst c69
                               have H1 : (none) = some r := by rw [if_neg (show ¬ (false = true) by decide)] at H; exact H
                               clear H
                               have H := H1
                               clear H1
                               exact absurd H (by simp)
                            ·rw [if_neg c56] at H
                             exact absurd H (by simp)
                           ·rw [if_neg c55] at H
                            exact absurd H (by simp)
                        ·rw [if_neg c54] at H
                         exact absurd H (by simp)
                       ·rw [if_neg c53] at H
                        have c53b0 : decide (x12_5 < ((rd_L1 t308 x8_3).length : Int)) = false := decide_eq_false c53
                        clear c53
                        have H' := Aside0.mk H
                        clear H
                        have p326 : 0 ≤ (x8_3 : Int) := of_decide_eq_true (by first | (with_reducible assumption) | assumption)
                        have q326 : x8_3 < (t308.length : Int) := of_decide_eq_true (by first | (with_reducible assumption) | assumption)
                        obtain ⟨ad326, A326_0, c326_0, e326, hx326_0, hl326_0, hi326_0⟩ := at_L1 (Kd.S_reads' HO_3.out).2.2 x8_3 p326 q326
                        obtain rfl : ad317 = ad326 := (by injection e326)
                        obtain ⟨ce326, hce326, hMe326, hcc326⟩ := Kd.S_get HO_3.out [] x8_3 p326 (by first | exact q326 | exact of_decide_eq_true (by first | (with_reducible assumption) | assumption) | (have e_ := (Kd.S_reads' HO_3.out).1; omega))
                        obtain ⟨ve326_0, rfl, ge326_0⟩ := hMe326
                        have hv326_0 := hcc326 0 _ rfl
                        rw [Nat.add_zero, show ((Kd.slice 3 (Kd.int .i64))).sz = 1 from rfl, Nat.mul_one] at hv326_0
                        replace hv326_0 := Option.some.inj (hv326_0.symm.trans hx326_0)
                        rw [hv326_0] at ge326_0
                        have HL326_0 := Aside0.mk (show Kd.R (Kd.int .i64) 3 _ _ _ _ (rd_L1 t308 x8_3) from ge326_0)
                        clear hv326_0 ge326_0
                        clear hcc326 hce326
                        have HR326_0 := Aside0.mk hi326_0
                        have HC326_0 := Aside0.mk hl326_0
                        clear hi326_0 hl326_0
                        replace p326 := eq_true p326
                        replace q326 := eq_true q326
                        go_wp2
                        repeat (go_quiet (fail); try go_wp2)
                        go_roundg k5
                        case measure => have := HJ1.out; have := HK2.out; have := HK3.out; have := HK4.out; have := HK5.out; omega
                        case rel => exact ⟨(x5_4), (wrap64 (x8_3 + 1)), (by first | rfl | (simp; done) | (simp [*]; done)), H', ⟨by have := HJ1.out; have := HK2.out; have := HK3.out; have := HK4.out; have := HK5.out; omega⟩, ⟨by (with_reducible repeat (first | apply Kd.S_alloc | apply Kd.S_drewN | apply Kd.S_drew)); exact HO_3.out⟩, ⟨by (with_reducible repeat (first | apply Kd.R_alloc | apply Kd.R_drewN | apply Kd.R_drew)); exact HO_5.out⟩, ⟨by repeat (first | (with_reducible first | exact HB.out | apply below_alloc | apply pw_below_drewN | apply below_drew1) | exact HB.out)⟩⟩
                      ·rw [if_neg c52] at H
                       exact absurd H (by simp)
                     ·rw [if_neg c51] at H
                      exact absurd H (by simp)
                ·rw [if_neg c26] at H
                 exact absurd H (by simp)
               ·rw [if_neg c25] at H
                exact absurd H (by simp)
            ·rw [if_neg c23] at H
             have c23b0 : decide (x8_3 < (t308.length : Int)) = false := decide_eq_false c23
             clear c23
             have H' := Aside0.mk H
             clear H
             obtain ⟨Ao78, co78, eo78⟩ := Kd.S_slice HO_3.out
             subst eo78
             go_wp2
             repeat (go_quiet (fail); try go_wp2)
             go_loopg [17] k3 (fun kq v17 w' => ∃ (x17_4 : Int), v17 = .int .i64 x17_4 ∧ Aside0 (commodatumlaw10_MonoidParts.l5 kq l0 t308 x5_3 x6_2 x17_4 = some r) ∧ Aside0 (kq ≤ k3) ∧ Aside0 (Kd.S (Kd.slice 3 (Kd.int .i64)) 30 w' w.heap.size (fun k_ => some k_ ≠ (v313 : Value).ownBlock) (.slice Ao78 t308.length co78) t308) ∧ Aside0 (Kd.R (Kd.int .i64) 3 w' w.heap.size (fun _ => True) v313 x5_3) ∧ Aside0 (Below w.heap.size w w'))
             case atStart => exact ⟨(0), (by first | rfl | (simp; done) | (simp [*]; done)), H', ⟨Nat.le_refl _⟩, ⟨by (with_reducible repeat (first | apply Kd.S_alloc | apply Kd.S_drewN | apply Kd.S_drew)); exact HO_3.out⟩, ⟨by (with_reducible repeat (first | apply Kd.R_alloc | apply Kd.R_drewN | apply Kd.R_drew)); exact HO_5.out⟩, ⟨by repeat (first | (with_reducible first | exact HB.out | apply below_alloc | apply pw_below_drewN | apply below_drew1) | exact HB.out)⟩⟩
             case round => as_aux_lemma =>
              clear H'
              try clear c2
              try clear p2
              try clear c3
              try clear p3
              try clear q3
              try clear hx3
              try clear c5
              try clear c6
              try clear p6
              try clear c7
              try clear c23
              try clear c23b0
              try clear c25
              try clear c26
              try clear p31
              try clear q31
              try clear c32
              try clear p32
              try clear q32
              try clear hx32
              try clear c33
              try clear p33
              try clear q33
              try clear hx33
              try clear c34
              try clear p34
              try clear q34
              try clear hx34
              try clear p39
              try clear q39
              try clear hx39
              try clear c51
              try clear c52
              try clear c53
              try clear c53b0
              try clear c54
              try clear c55
              try clear c55b0
              try clear c56
              try clear c56b0
              try clear c57
              try clear c57b0
              try clear c58
              try clear c58b0
              try clear c59
              try clear c59b0
              try clear c60
              try clear c60b0
              try clear c61
              try clear c61b0
              try clear c62
              try clear c62b0
              try clear c64
              try clear p64
              try clear c65
              try clear c66
              try clear c66b0
              try clear c66b1
              try clear c67
              try clear c67b0
              try clear c68
              try clear c68b0
              try clear c69
              try clear c70
              try clear c70b0
              try clear c71
              try clear c71b0
              try clear c72
              try clear c72b0
              try clear c73
              try clear c73b0
              try clear c74
              try clear c74b0
              try clear c74b1
              try clear c75
              try clear c75b0
              try clear c76
              try clear c76b0
              try clear c77
              try clear c77b0
              try clear c77b1
              try clear hx326_0
              try clear hx327_0
              try clear hx328_0
              try clear hx329_0
              try clear hx330_0
              try clear hx331_0
              try clear hx332_0
              try clear hx333_0
              try clear hx334_0
              try clear hx335_0
              try clear hx336_0
              try clear hx337_0
              try clear hx338_0
              try clear hx340_0
              try clear hx341_0
              try clear hx342_0
              try clear hx343_0
              try clear hx39_0
              try clear p2
              try clear p3
              try clear p31
              try clear p315
              try clear p316
              try clear p317
              try clear p318
              try clear p319
              try clear p32
              try clear p320
              try clear p321
              try clear p322
              try clear p324
              try clear p325
              try clear p326
              try clear p327
              try clear p328
              try clear p329
              try clear p330
              try clear p331
              try clear p332
              try clear p333
              try clear p334
              try clear p335
              try clear p336
              try clear p337
              try clear p338
              try clear p340
              try clear p341
              try clear p342
              try clear p343
              try clear p39
              try clear p6
              try clear q3
              try clear q31
              try clear q315
              try clear q316
              try clear q317
              try clear q318
              try clear q319
              try clear q32
              try clear q320
              try clear q321
              try clear q322
              try clear q324
              try clear q325
              try clear q326
              try clear q327
              try clear q328
              try clear q329
              try clear q330
              try clear q331
              try clear q332
              try clear q333
              try clear q334
              try clear q335
              try clear q336
              try clear q337
              try clear q338
              try clear q340
              try clear q341
              try clear q342
              try clear q343
              try clear q39
              obtain ⟨x17_4, rfl, HA, HK4, HO_3, HO_5, HB⟩ := hrel
              cases gk with
              | zero => exact absurd HA.out (by simp [commodatumlaw10_MonoidParts.l5])
              | succ k4 =>
               have H := HA.out
               clear HA
               simp only [commodatumlaw10_MonoidParts.l5] at H
               by_cases c79 : x17_4 < (l0.length : Int)
               ·rw [if_pos c79] at H
                have c79b0 : decide (x17_4 < (l0.length : Int)) = true := decide_eq_true c79
                clear c79
                by_cases c80 : 0 ≤ x17_4
                ·rw [if_pos c80] at H
                 have c80b0 : decide (0 ≤ x17_4) = true := decide_eq_true c80
                 clear c80
                 by_cases c81 : x17_4 < (x5_3.length : Int)
                 ·rw [if_pos c81] at H
                  have c81b0 : decide (x17_4 < (x5_3.length : Int)) = true := decide_eq_true c81
                  clear c81
                  by_cases c82 : (rd x5_3 x17_4) > 1
                  ·rw [if_pos c82] at H
                   exact absurd H (by simp)
                  ·rw [if_neg c82] at H
                   have c82b0 : decide (1 < (rd x5_3 x17_4)) = false := decide_eq_false c82
                   clear c82
                   have H' := Aside0.mk H
                   clear H
                   obtain ⟨Ao83, co83, eo83⟩ := Kd.R_slice HO_5.out
                   subst eo83
                   have p344 : 0 ≤ (x17_4 : Int) := of_decide_eq_true (by first | (with_reducible assumption) | assumption)
                   have q344 : x17_4 < (x5_3.length : Int) := of_decide_eq_true (by first | (with_reducible assumption) | assumption)
                   obtain ⟨ad344, e344, hx344_0⟩ := Kd.at_int (Kd.R_reads' HO_5.out).2.2 x17_4 p344 q344
                   cases e344
                   replace p344 := eq_true p344
                   replace q344 := eq_true q344
                   go_wp2
                   repeat (go_quiet (fail); try go_wp2)
                   go_roundg k4
                   case measure => have := HJ1.out; have := HK2.out; have := HK3.out; have := HK4.out; omega
                   case rel => exact ⟨(wrap64 (x17_4 + 1)), (by first | rfl | (simp; done) | (simp [*]; done)), H', ⟨by have := HJ1.out; have := HK2.out; have := HK3.out; have := HK4.out; omega⟩, ⟨by (with_reducible repeat (first | apply Kd.S_alloc | apply Kd.S_drewN | apply Kd.S_drew)); exact HO_3.out⟩, ⟨by (with_reducible repeat (first | apply Kd.R_alloc | apply Kd.R_drewN | apply Kd.R_drew)); exact HO_5.out⟩, ⟨by repeat (first | (with_reducible first | exact HB.out | apply below_alloc | apply pw_below_drewN | apply below_drew1) | exact HB.out)⟩⟩
                 ·rw [if_neg c81] at H
                  exact absurd H (by simp)
                ·rw [if_neg c80] at H
                 exact absurd H (by simp)
               ·rw [if_neg c79] at H
                have c79b0 : decide (x17_4 < (l0.length : Int)) = false := decide_eq_false c79
                clear c79
                by_cases c84 : (t308.length : Int) = x6_2
                ·rw [if_pos c84] at H
                 have c84b0 : ((t308.length : Int) == x6_2) = true := beq_iff_eq.mpr c84
                 have c84b1 : ((t308.length : Int) != x6_2) = false := bne_eq_false_iff_eq.mpr c84
                 clear c84
                 replace H := Option.bind_eq_some_iff.mp H
                 obtain ⟨t345, A850, H⟩ := H
                 replace H : (some t345) = some r := H
                 have A85 := Aside0.mk A850
                 clear A850
                 obtain rfl := Option.some.inj H
                 go_wp2_with (first | (go_at_call 9; (with_reducible refine (commodatumlaw10_Awake.calls k4  t345 _ A85.out).mono ?_); rintro e w86 ⟨rfl, hb⟩; have n0_ := Aside0.mk (Kd.S_below (by (with_reducible repeat (first | apply Kd.S_alloc | apply Kd.S_drewN | apply Kd.S_drew)); exact HO_3.out) hb); have n1_ := Aside0.mk (Kd.R_below (by (with_reducible repeat (first | apply Kd.R_alloc | apply Kd.R_drewN | apply Kd.R_drew)); exact HO_5.out) hb); have n2_ := Aside0.mk (below_step (by repeat (first | (with_reducible first | exact HB.out | apply below_alloc | apply pw_below_drewN | apply below_drew1) | exact HB.out)) hb); clear HO_3; clear HO_5; clear HB; have HO_3 := n0_; have HO_5 := n1_; have HB := n2_; clear n0_ n1_ n2_; (try clear hb); (try clear hb2); (try clear hk); (try clear hi)))
                 repeat (go_quiet (first | (go_at_call 9; (with_reducible refine (commodatumlaw10_Awake.calls k4  t345 _ A85.out).mono ?_); rintro e w86 ⟨rfl, hb⟩; have n0_ := Aside0.mk (Kd.S_below (by (with_reducible repeat (first | apply Kd.S_alloc | apply Kd.S_drewN | apply Kd.S_drew)); exact HO_3.out) hb); have n1_ := Aside0.mk (Kd.R_below (by (with_reducible repeat (first | apply Kd.R_alloc | apply Kd.R_drewN | apply Kd.R_drew)); exact HO_5.out) hb); have n2_ := Aside0.mk (below_step (by repeat (first | (with_reducible first | exact HB.out | apply below_alloc | apply pw_below_drewN | apply below_drew1) | exact HB.out)) hb); clear HO_3; clear HO_5; clear HB; have HO_3 := n0_; have HO_5 := n1_; have HB := n2_; clear n0_ n1_ n2_; (try clear hb); (try clear hb2); (try clear hk); (try clear hi))); try go_wp2_with (first | (go_at_call 9; (with_reducible refine (commodatumlaw10_Awake.calls k4  t345 _ A85.out).mono ?_); rintro e w86 ⟨rfl, hb⟩; have n0_ := Aside0.mk (Kd.S_below (by (with_reducible repeat (first | apply Kd.S_alloc | apply Kd.S_drewN | apply Kd.S_drew)); exact HO_3.out) hb); have n1_ := Aside0.mk (Kd.R_below (by (with_reducible repeat (first | apply Kd.R_alloc | apply Kd.R_drewN | apply Kd.R_drew)); exact HO_5.out) hb); have n2_ := Aside0.mk (below_step (by repeat (first | (with_reducible first | exact HB.out | apply below_alloc | apply pw_below_drewN | apply below_drew1) | exact HB.out)) hb); clear HO_3; clear HO_5; clear HB; have HO_3 := n0_; have HO_5 := n1_; have HB := n2_; clear n0_ n1_ n2_; (try clear hb); (try clear hb2); (try clear hk); (try clear hi))))
                 go_ret
                 exact ⟨by first | rfl | (simp [errW_none, errW_some] <;> rfl) | (simp [*, errW_none, errW_some] <;> rfl), by repeat (first | (with_reducible first | exact HB.out | apply below_alloc | apply pw_below_drewN | apply below_drew1) | exact HB.out)⟩
                ·rw [if_neg c84] at H
                 exact absurd H (by simp)
      ·rw [if_neg c13] at H
       exact absurd H (by simp)
     ·rw [if_neg c12] at H
      exact absurd H (by simp)
    ·rw [if_neg c11] at H
     exact absurd H (by simp)

end Go.Proofs.Ytibphkgcdnconaa.QMon
