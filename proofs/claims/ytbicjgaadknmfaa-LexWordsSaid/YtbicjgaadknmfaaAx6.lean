-- printed by wip/xprint.py over the kit's print: Lean checks it
import Derived.Test.YtbicjgaadknmfaaAx0
import Derived.Test.YtbicjgaadknmfaaAx5
namespace Go.Proofs.Ytbicjgaadknmfaa.P
open Go.RowKit Go.Proofs.YtbicjgaadknmfaaW.PrintWords Go.Proofs.YtbicjgaadknmfaaW.PrintLast Go.Proofs.YtbicjgaadknmfaaW.PrintMore
attribute [local go_sem] max2_int min2_int max_two min_two max_three min_three max_four min_four   -- for this text's walks alone
set_option linter.unusedVariables false
set_option linter.unusedSimpArgs false

/-! ### retrospectref16_Scan: function 7 -/
mutual
def retrospectref16_Scan.l0 : Nat → ByteArray → List (S36) → Bool → Int → Option ((List (S36)) × Int)
 | 0, _, _, _, _ => none
 | k + 1, x0, x4, x5, x6 => if x6 < (x0.size : Int) then (if 0 ≤ x6 then (if (bt x0 x6) = 10 then (retrospectref16_Scan.j1 k x0 x4 false x6 (bt x0 x6)) else (retrospectref16_Scan.j1 k x0 x4 x5 x6 (bt x0 x6))) else (none)) else (some (x4, (-1)))
def retrospectref16_Scan.j1 : Nat → ByteArray → List (S36) → Bool → Int → Int → Option ((List (S36)) × Int)
 | 0, _, _, _, _, _ => none
 | k + 1, x0, x4, x5, x6, x7 => if x7 = 35 then (retrospectref16_Scan.j2 k x0 x4 true x6 x7) else (retrospectref16_Scan.j2 k x0 x4 x5 x6 x7)
def retrospectref16_Scan.j2 : Nat → ByteArray → List (S36) → Bool → Int → Int → Option ((List (S36)) × Int)
 | 0, _, _, _, _, _ => none
 | k + 1, x0, x4, x5, x6, x7 => if x5 = true then (retrospectref16_Scan.j3 k x0 x4 x5 x6 x7 true) else (if x7 = 32 then (retrospectref16_Scan.j3 k x0 x4 x5 x6 x7 true) else (if x7 = 9 then (retrospectref16_Scan.j3 k x0 x4 x5 x6 x7 true) else (if x7 = 10 then (retrospectref16_Scan.j3 k x0 x4 x5 x6 x7 true) else (retrospectref16_Scan.j3 k x0 x4 x5 x6 x7 (x7 == 13)))))
def retrospectref16_Scan.j3 : Nat → ByteArray → List (S36) → Bool → Int → Int → Bool → Option ((List (S36)) × Int)
 | 0, _, _, _, _, _, _ => none
 | k + 1, x0, x4, x5, x6, x7, x43 => if x43 = true then (retrospectref16_Scan.l0 k x0 x4 x5 (wrap64 (x6 + 1))) else (if (x4.length : Int) > 0 then (if 0 ≤ (wrap64 ((x4.length : Int) - 1)) then (if (wrap64 ((x4.length : Int) - 1)) < (x4.length : Int) then (if (wrap64 (((rd_T36 x4 (wrap64 ((x4.length : Int) - 1))).f2) + (((rd_T36 x4 (wrap64 ((x4.length : Int) - 1))).f1).size : Int))) = x6 then ((retrospectref16_more.f ((rd_T36 x4 (wrap64 ((x4.length : Int) - 1))).f0) x7).bind fun t151 => (retrospectref16_Scan.j4 k x0 x4 x5 x6 x7 (x4.length : Int) t151)) else (retrospectref16_Scan.j4 k x0 x4 x5 x6 x7 (x4.length : Int) false)) else (none)) else (none)) else (retrospectref16_Scan.j4 k x0 x4 x5 x6 x7 (x4.length : Int) false))
def retrospectref16_Scan.j4 : Nat → ByteArray → List (S36) → Bool → Int → Int → Int → Bool → Option ((List (S36)) × Int)
 | 0, _, _, _, _, _, _, _ => none
 | k + 1, x0, x4, x5, x6, x7, x8, x75 => if x75 = true then (if 0 ≤ (wrap64 (x8 - 1)) then (if (wrap64 (x8 - 1)) < (x4.length : Int) then (if 0 ≤ x6 then (if x6 ≤ (wrap64 (x6 + 1)) then (if (wrap64 (x6 + 1)) ≤ (x0.size : Int) then (if ((rd_T36 x4 (wrap64 (x8 - 1))).f1).size + (x0.extract (x6 : Int).toNat ((wrap64 (x6 + 1)) : Int).toNat).size ≤ 9223372036854775807 then ((some (x4.set ((wrap64 (x8 - 1)) : Int).toNat (⟨(rd_T36 x4 (wrap64 (x8 - 1))).f0, ((rd_T36 x4 (wrap64 (x8 - 1))).f1) ++ (x0.extract (x6 : Int).toNat ((wrap64 (x6 + 1)) : Int).toNat), (rd_T36 x4 (wrap64 (x8 - 1))).f2⟩ : S36) : List (S36))).bind fun y153 => (if 0 ≤ (wrap64 ((x4.length : Int) - 1)) then (if (wrap64 ((x4.length : Int) - 1)) < (x4.length : Int) then (if ((rd_T36 y153 (wrap64 ((x4.length : Int) - 1))).f0) = 0 then (some ((([] : List (S36))), x6)) else ((retrospectref16_Most.f ((rd_T36 y153 (wrap64 ((x4.length : Int) - 1))).f0)).bind fun t159 => (if (((rd_T36 y153 (wrap64 ((x4.length : Int) - 1))).f1).size : Int) > t159 then (some ((([] : List (S36))), x6)) else (retrospectref16_Scan.l0 k x0 y153 x5 (wrap64 (x6 + 1)))))) else (none)) else (none))) else (none)) else (none)) else (none)) else (none)) else (none)) else (none)) else ((retrospectref16_Kind.f k x7).bind fun t163 => (if 0 ≤ x6 then (if x6 ≤ (wrap64 (x6 + 1)) then (if (wrap64 (x6 + 1)) ≤ (x0.size : Int) then (if x4.length < 4398046511104 then ((some (x4 ++ [(⟨t163, x0.extract (x6 : Int).toNat ((wrap64 (x6 + 1)) : Int).toNat, x6⟩ : S36)] : List (S36))).bind fun y164 => (if 0 ≤ (wrap64 ((y164.length : Int) - 1)) then (if (wrap64 ((y164.length : Int) - 1)) < (y164.length : Int) then (if ((rd_T36 y164 (wrap64 ((y164.length : Int) - 1))).f0) = 0 then (some ((([] : List (S36))), x6)) else ((retrospectref16_Most.f ((rd_T36 y164 (wrap64 ((y164.length : Int) - 1))).f0)).bind fun t172 => (if (((rd_T36 y164 (wrap64 ((y164.length : Int) - 1))).f1).size : Int) > t172 then (some ((([] : List (S36))), x6)) else (retrospectref16_Scan.l0 k x0 y164 x5 (wrap64 (x6 + 1)))))) else (none)) else (none))) else (none)) else (none)) else (none)) else (none)))
end
def retrospectref16_Scan.f (k : Nat) (a0 : ByteArray) : Option ((List (S36)) × Int) := if (a0.size : Int) > 4000 then (some ((([] : List (S36))), 4000)) else (retrospectref16_Scan.l0 k a0 ([] : List (S36)) false 0)
theorem retrospectref16_Scan.mono_l : ∀ k, (∀ y0 y1 y2 y3, LeO (retrospectref16_Scan.l0 k y0 y1 y2 y3) (retrospectref16_Scan.l0 (k + 1) y0 y1 y2 y3)) ∧ (∀ y0 y1 y2 y3 y4, LeO (retrospectref16_Scan.j1 k y0 y1 y2 y3 y4) (retrospectref16_Scan.j1 (k + 1) y0 y1 y2 y3 y4)) ∧ (∀ y0 y1 y2 y3 y4, LeO (retrospectref16_Scan.j2 k y0 y1 y2 y3 y4) (retrospectref16_Scan.j2 (k + 1) y0 y1 y2 y3 y4)) ∧ (∀ y0 y1 y2 y3 y4 y5, LeO (retrospectref16_Scan.j3 k y0 y1 y2 y3 y4 y5) (retrospectref16_Scan.j3 (k + 1) y0 y1 y2 y3 y4 y5)) ∧ (∀ y0 y1 y2 y3 y4 y5 y6, LeO (retrospectref16_Scan.j4 k y0 y1 y2 y3 y4 y5 y6) (retrospectref16_Scan.j4 (k + 1) y0 y1 y2 y3 y4 y5 y6))
 | 0 => ⟨fun _ _ _ _ r h => by simp [retrospectref16_Scan.l0] at h, fun _ _ _ _ _ r h => by simp [retrospectref16_Scan.j1] at h, fun _ _ _ _ _ r h => by simp [retrospectref16_Scan.j2] at h, fun _ _ _ _ _ _ r h => by simp [retrospectref16_Scan.j3] at h, fun _ _ _ _ _ _ _ r h => by simp [retrospectref16_Scan.j4] at h⟩
 | k + 1 => by
  obtain ⟨ih0, ih1, ih2, ih3, ih4⟩ := retrospectref16_Scan.mono_l k
  refine ⟨?_, ?_, ?_, ?_, ?_⟩
  ·intro y0 y1 y2 y3
   unfold retrospectref16_Scan.l0
   repeat' first
   | (with_reducible exact ih0 _ _ _ _)
   | (with_reducible exact ih1 _ _ _ _ _)
   | (with_reducible exact ih2 _ _ _ _ _)
   | (with_reducible exact ih3 _ _ _ _ _ _)
   | (with_reducible exact ih4 _ _ _ _ _ _ _)
   | (with_reducible exact retrospectref16_Kind.mono _ _)
   | (with_reducible exact LeO.refl _)
   | (with_reducible exact LeO.none _)
   | (with_reducible refine LeO.ite ?_ ?_)
   | (with_reducible refine LeO.bind ?_ (fun _ => ?_))
   | exact ih0 _ _ _ _
   | exact ih1 _ _ _ _ _
   | exact ih2 _ _ _ _ _
   | exact ih3 _ _ _ _ _ _
   | exact ih4 _ _ _ _ _ _ _
   | exact retrospectref16_Kind.mono _ _
   | exact LeO.none _
   | refine LeO.ite ?_ ?_
   | refine LeO.bind ?_ (fun _ => ?_)
  ·intro y0 y1 y2 y3 y4
   unfold retrospectref16_Scan.j1
   repeat' first
   | (with_reducible exact ih0 _ _ _ _)
   | (with_reducible exact ih1 _ _ _ _ _)
   | (with_reducible exact ih2 _ _ _ _ _)
   | (with_reducible exact ih3 _ _ _ _ _ _)
   | (with_reducible exact ih4 _ _ _ _ _ _ _)
   | (with_reducible exact retrospectref16_Kind.mono _ _)
   | (with_reducible exact LeO.refl _)
   | (with_reducible exact LeO.none _)
   | (with_reducible refine LeO.ite ?_ ?_)
   | (with_reducible refine LeO.bind ?_ (fun _ => ?_))
   | exact ih0 _ _ _ _
   | exact ih1 _ _ _ _ _
   | exact ih2 _ _ _ _ _
   | exact ih3 _ _ _ _ _ _
   | exact ih4 _ _ _ _ _ _ _
   | exact retrospectref16_Kind.mono _ _
   | exact LeO.none _
   | refine LeO.ite ?_ ?_
   | refine LeO.bind ?_ (fun _ => ?_)
  ·intro y0 y1 y2 y3 y4
   unfold retrospectref16_Scan.j2
   repeat' first
   | (with_reducible exact ih0 _ _ _ _)
   | (with_reducible exact ih1 _ _ _ _ _)
   | (with_reducible exact ih2 _ _ _ _ _)
   | (with_reducible exact ih3 _ _ _ _ _ _)
   | (with_reducible exact ih4 _ _ _ _ _ _ _)
   | (with_reducible exact retrospectref16_Kind.mono _ _)
   | (with_reducible exact LeO.refl _)
   | (with_reducible exact LeO.none _)
   | (with_reducible refine LeO.ite ?_ ?_)
   | (with_reducible refine LeO.bind ?_ (fun _ => ?_))
   | exact ih0 _ _ _ _
   | exact ih1 _ _ _ _ _
   | exact ih2 _ _ _ _ _
   | exact ih3 _ _ _ _ _ _
   | exact ih4 _ _ _ _ _ _ _
   | exact retrospectref16_Kind.mono _ _
   | exact LeO.none _
   | refine LeO.ite ?_ ?_
   | refine LeO.bind ?_ (fun _ => ?_)
  ·intro y0 y1 y2 y3 y4 y5
   unfold retrospectref16_Scan.j3
   repeat' first
   | (with_reducible exact ih0 _ _ _ _)
   | (with_reducible exact ih1 _ _ _ _ _)
   | (with_reducible exact ih2 _ _ _ _ _)
   | (with_reducible exact ih3 _ _ _ _ _ _)
   | (with_reducible exact ih4 _ _ _ _ _ _ _)
   | (with_reducible exact retrospectref16_Kind.mono _ _)
   | (with_reducible exact LeO.refl _)
   | (with_reducible exact LeO.none _)
   | (with_reducible refine LeO.ite ?_ ?_)
   | (with_reducible refine LeO.bind ?_ (fun _ => ?_))
   | exact ih0 _ _ _ _
   | exact ih1 _ _ _ _ _
   | exact ih2 _ _ _ _ _
   | exact ih3 _ _ _ _ _ _
   | exact ih4 _ _ _ _ _ _ _
   | exact retrospectref16_Kind.mono _ _
   | exact LeO.none _
   | refine LeO.ite ?_ ?_
   | refine LeO.bind ?_ (fun _ => ?_)
  ·intro y0 y1 y2 y3 y4 y5 y6
   unfold retrospectref16_Scan.j4
   repeat' first
   | (with_reducible exact ih0 _ _ _ _)
   | (with_reducible exact ih1 _ _ _ _ _)
   | (with_reducible exact ih2 _ _ _ _ _)
   | (with_reducible exact ih3 _ _ _ _ _ _)
   | (with_reducible exact ih4 _ _ _ _ _ _ _)
   | (with_reducible exact retrospectref16_Kind.mono _ _)
   | (with_reducible exact LeO.refl _)
   | (with_reducible exact LeO.none _)
   | (with_reducible refine LeO.ite ?_ ?_)
   | (with_reducible refine LeO.bind ?_ (fun _ => ?_))
   | exact ih0 _ _ _ _
   | exact ih1 _ _ _ _ _
   | exact ih2 _ _ _ _ _
   | exact ih3 _ _ _ _ _ _
   | exact ih4 _ _ _ _ _ _ _
   | exact retrospectref16_Kind.mono _ _
   | exact LeO.none _
   | refine LeO.ite ?_ ?_
   | refine LeO.bind ?_ (fun _ => ?_)
theorem retrospectref16_Scan.mono : ∀ a0 k, LeO (retrospectref16_Scan.f k a0) (retrospectref16_Scan.f (k + 1) a0) := by
 intro a0 k
 obtain ⟨ih0, ih1, ih2, ih3, ih4⟩ := retrospectref16_Scan.mono_l k
 unfold retrospectref16_Scan.f
 repeat' first
   | (with_reducible exact ih0 _ _ _ _)
   | (with_reducible exact ih1 _ _ _ _ _)
   | (with_reducible exact ih2 _ _ _ _ _)
   | (with_reducible exact ih3 _ _ _ _ _ _)
   | (with_reducible exact ih4 _ _ _ _ _ _ _)
   | (with_reducible exact retrospectref16_Kind.mono _ _)
   | (with_reducible exact LeO.refl _)
   | (with_reducible exact LeO.none _)
   | (with_reducible refine LeO.ite ?_ ?_)
   | (with_reducible refine LeO.bind ?_ (fun _ => ?_))
   | exact ih0 _ _ _ _
   | exact ih1 _ _ _ _ _
   | exact ih2 _ _ _ _ _
   | exact ih3 _ _ _ _ _ _
   | exact ih4 _ _ _ _ _ _ _
   | exact retrospectref16_Kind.mono _ _
   | exact LeO.none _
   | refine LeO.ite ?_ ?_
   | refine LeO.bind ?_ (fun _ => ?_)
def retrospectref16_Scan.T15 : Bool × List (List Nat × List Nat) := (true, [([], []), ([0], [0]), ([1], [1]), ([2], [2]), ([2], [2]), ([4, 2], [2, 4]), ([3, 5, 2], [2, 3, 5]), ([6, 2], [2, 6]), ([7, 2], [2, 7]), ([2], [2]), ([2], [2]), ([10, 2], [2, 10]), ([9, 11, 2], [2, 9, 11]), ([12, 2], [2, 12]), ([13, 2], [2, 13]), ([14, 2], [2, 14]), ([8, 15, 2], [2, 8, 15]), ([2], [2]), ([16, 17, 2], [2, 16, 17]), ([2, 18], [2, 18]), ([19, 2], [19]), ([20], [20]), ([20], [20]), ([22, 20], [20, 22]), ([21, 23, 20], [20, 21, 23]), ([24, 20], [20, 24]), ([25, 20], [20, 25]), ([20], [20]), ([26, 27, 20, 20], [20, 26, 27]), ([20, 28], [20, 28])])
def retrospectref16_Scan.B15 : List Nat := [0, 1, 3, 7, 7, 23, 63, 127, 255, 7, 7, 1031, 3591, 7687, 15879, 32263, 65535, 7, 262143, 524287, 1048575, 2097151, 2097151, 6291455, 16777215, 33554431, 67108863, 2097151, 268435455, 536870911]
theorem retrospectref16_Scan.tab15 : rtab .any (opsOf Try.f7 15) = retrospectref16_Scan.T15 := by kernel_rfl
theorem retrospectref16_Scan.bits15 : waitsOk retrospectref16_Scan.T15.2 retrospectref16_Scan.B15 = true := by kernel_rfl
def retrospectref16_Scan.T16 : Bool × List (List Nat × List Nat) := (true, [([], []), ([], []), ([1], [1]), ([0, 2], [0, 2]), ([3], [3]), ([4], [4]), ([], []), ([], []), ([], []), ([8], [8]), ([6, 7, 9], [6, 7, 9]), ([5, 10], [5, 10]), ([0, 2, 0, 1, 2, 3, 4, 5, 6, 7, 8, 9, 10, 11], [0, 2]), ([12, 0, 1, 2, 3, 4, 5, 6, 7, 8, 9, 10, 11], [12]), ([13, 11, 0, 1, 2, 3, 4, 5, 6, 7, 8, 9, 10, 11], [11, 13])])
def retrospectref16_Scan.B16 : List Nat := [0, 0, 2, 7, 15, 31, 0, 0, 0, 256, 960, 2047, 4095, 8191, 16383]
theorem retrospectref16_Scan.tab16 : rtab .any (opsOf Try.f7 16) = retrospectref16_Scan.T16 := by kernel_rfl
theorem retrospectref16_Scan.bits16 : waitsOk retrospectref16_Scan.T16.2 retrospectref16_Scan.B16 = true := by kernel_rfl
def retrospectref16_Scan.T17 : Bool × List (List Nat × List Nat) := (true, [([], []), ([], []), ([1], [1]), ([], []), ([], []), ([], []), ([5], [5]), ([3, 4, 6], [3, 4, 6]), ([], []), ([2, 7, 8], [2, 7, 8]), ([9], [9]), ([0, 10, 2], [0, 10]), ([11, 11, 0, 1, 2, 3, 4, 5, 6, 7, 8, 9, 10, 11], [0, 11])])
def retrospectref16_Scan.B17 : List Nat := [0, 0, 2, 0, 0, 0, 32, 120, 0, 510, 1022, 2047, 4095]
theorem retrospectref16_Scan.tab17 : rtab .any (opsOf Try.f7 17) = retrospectref16_Scan.T17 := by kernel_rfl
theorem retrospectref16_Scan.bits17 : waitsOk retrospectref16_Scan.T17.2 retrospectref16_Scan.B17 = true := by kernel_rfl
def retrospectref16_Scan.T19 : Bool × List (List Nat × List Nat) := (true, [([], []), ([0], [0]), ([1], [1]), ([2], [2]), ([3], [3]), ([4, 3], [3, 4]), ([5, 3], [3, 5]), ([3], [3]), ([7, 3], [3, 7]), ([8, 3, 3], [3, 8]), ([6, 9, 3], [3, 6, 9]), ([3, 10], [3, 10])])
def retrospectref16_Scan.B19 : List Nat := [0, 1, 3, 7, 15, 31, 63, 15, 143, 399, 1023, 2047]
theorem retrospectref16_Scan.tab19 : rtab .any (opsOf Try.f7 19) = retrospectref16_Scan.T19 := by kernel_rfl
theorem retrospectref16_Scan.bits19 : waitsOk retrospectref16_Scan.T19.2 retrospectref16_Scan.B19 = true := by kernel_rfl

end Go.Proofs.Ytbicjgaadknmfaa.P
