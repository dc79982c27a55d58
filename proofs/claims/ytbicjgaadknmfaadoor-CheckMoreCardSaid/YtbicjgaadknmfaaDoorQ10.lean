import Derived.Test.YtbicjgaadknmfaaDoorQ1
import Derived.Test.YtbicjgaadknmfaaDoorQ8
import Derived.Test.YtbicjgaadknmfaaDoorQ9
import Derived.Test.YtbicjgaadknmfaaDoorQ5
import Derived.Test.YtbicjgaadknmfaaDoorQ7
import Derived.Test.YtbicjgaadknmfaaDoorQ6
section
namespace Go.Proofs.YtbicjgaadknmfaaDoor.P
open Go.RowKit Go.Proofs.YtbicjgaadknmfaaDoorW.PrintWords Go.Proofs.YtbicjgaadknmfaaDoorW.PrintLast Go.Proofs.YtbicjgaadknmfaaDoorW.PrintMore
attribute [local go_sem] zcu zcp zcl zck zbZ zbX zb9 zb7
set_option linter.unusedVariables false
set_option linter.unusedSimpArgs false
mutual
def zal.j0 : Nat → Int → Int → Bool → List (S121) → List (List (S62)) → Option (Bool × Int × Int × Int)
 | 0, _, _, _, _, _ => none
 | k + 1, x1, x2, x45, x193000, x193001 => if x45 = true then (some (true, 0, 0, 0)) else ((zax.f k x193000 x193001).bind fun t195 => (zal.l0 k x1 x2 t195 0 x193000 x193001))
def zal.l0 : Nat → Int → Int → List (List (S62)) → Int → List (S121) → List (List (S62)) → Option (Bool × Int × Int × Int)
 | 0, _, _, _, _, _, _ => none
 | k + 1, x1, x2, x8, x9, x193000, x193001 => if x9 < (x8.length : Int) then (if x9 < (x193000.length : Int) then (if 0 ≤ x9 then ((zbT.f ((zbg x193000 x9).f0)).bind fun t199 => (zal.l1 k x1 x2 x8 x9 (mn x9 (x193000.length : Int)) t199 0 x193000 x193001)) else (none)) else (zal.j3 k x1 x2 x8 x9 (mn x9 (x193000.length : Int)) x193000 x193001)) else (some (false, 0, 0, 0))
def zal.j3 : Nat → Int → Int → List (List (S62)) → Int → Int → List (S121) → List (List (S62)) → Option (Bool × Int × Int × Int)
 | 0, _, _, _, _, _, _, _ => none
 | k + 1, x1, x2, x8, x9, x10, x193000, x193001 => if 0 ≤ x9 then (if x9 < (x8.length : Int) then ((zaA.f k (zbH x8 x9) x1 x2 x10).bind fun t203 => (if t203 ≥ 0 then (some (true, wrap64 (x9 + 1), 0, t203)) else ((zaZ.f k (zbH x8 x9)).bind fun t205 => (if t205 > 40 then (some (true, wrap64 (x9 + 1), 0, ((zbH x8 x9).length : Int))) else (zal.l0 k x1 x2 x8 (wrap64 (x9 + 1)) x193000 x193001))))) else (none)) else (none)
def zal.l1 : Nat → Int → Int → List (List (S62)) → Int → Int → Bool → Int → List (S121) → List (List (S62)) → Option (Bool × Int × Int × Int)
 | 0, _, _, _, _, _, _, _, _, _ => none
 | k + 1, x1, x2, x8, x9, x10, x11, x12, x193000, x193001 => if x12 < x9 then (if x11 = true then (if 0 ≤ x12 then (if x12 < (x193000.length : Int) then (if 0 ≤ x9 then (if x9 < (x193000.length : Int) then (zal.l1 k x1 x2 x8 x9 x10 (((zbg x193000 x12).f0).toList != ((zbg x193000 x9).f0).toList) (wrap64 (x12 + 1)) x193000 x193001) else (none)) else (none)) else (none)) else (none)) else (zal.l1 k x1 x2 x8 x9 x10 false (wrap64 (x12 + 1)) x193000 x193001)) else (if x11 = true then (zal.j3 k x1 x2 x8 x9 x10 x193000 x193001) else (some (true, wrap64 (x9 + 1), 1, 0)))
end
def zal.f (k : Nat) (l0_0 : List (S121)) (l0_1 : List (List (S62))) (a1 : Int) (a2 : Int) : Option (Bool × Int × Int × Int) := if a1 < 1 then (zal.j0 k a1 a2 true l0_0 l0_1) else (if a1 > 6 then (zal.j0 k a1 a2 true l0_0 l0_1) else (if a2 < 0 then (zal.j0 k a1 a2 true l0_0 l0_1) else (if a2 > 6 then (zal.j0 k a1 a2 true l0_0 l0_1) else (if (l0_1.length : Int) = a1 then (if (l0_0.length : Int) > 10 then (zal.j0 k a1 a2 true l0_0 l0_1) else ((zaH.f k l0_0 l0_1).bind fun t194 => (zal.j0 k a1 a2 (decide (t194 > 300)) l0_0 l0_1))) else (zal.j0 k a1 a2 true l0_0 l0_1)))))
theorem zal.zaV : ∀ k, (∀ y0 y1 y2 y3 y4, LeO (zal.j0 k y0 y1 y2 y3 y4) (zal.j0 (k + 1) y0 y1 y2 y3 y4)) ∧ (∀ y0 y1 y2 y3 y4 y5, LeO (zal.l0 k y0 y1 y2 y3 y4 y5) (zal.l0 (k + 1) y0 y1 y2 y3 y4 y5)) ∧ (∀ y0 y1 y2 y3 y4 y5 y6, LeO (zal.j3 k y0 y1 y2 y3 y4 y5 y6) (zal.j3 (k + 1) y0 y1 y2 y3 y4 y5 y6)) ∧ (∀ y0 y1 y2 y3 y4 y5 y6 y7 y8, LeO (zal.l1 k y0 y1 y2 y3 y4 y5 y6 y7 y8) (zal.l1 (k + 1) y0 y1 y2 y3 y4 y5 y6 y7 y8))
 | 0 => ⟨fun _ _ _ _ _ r h => by simp [zal.j0] at h, fun _ _ _ _ _ _ r h => by simp [zal.l0] at h, fun _ _ _ _ _ _ _ r h => by simp [zal.j3] at h, fun _ _ _ _ _ _ _ _ _ r h => by simp [zal.l1] at h⟩
 | k + 1 => by
  obtain ⟨ih0, ih1, ih2, ih3⟩ := zal.zaV k
  refine ⟨?_, ?_, ?_, ?_⟩
  ·intro y0 y1 y2 y3 y4
   unfold zal.j0
   repeat' first
   | (with_reducible exact ih0 _ _ _ _ _)
   | (with_reducible exact ih1 _ _ _ _ _ _)
   | (with_reducible exact ih2 _ _ _ _ _ _ _)
   | (with_reducible exact ih3 _ _ _ _ _ _ _ _ _)
   | (with_reducible exact zax.mono _ _ _)
   | (with_reducible exact zaZ.mono _ _)
   | (with_reducible exact zaH.mono _ _ _)
   | (with_reducible exact zaA.mono _ _ _ _ _)
   | (with_reducible exact LeO.refl _)
   | (with_reducible exact LeO.none _)
   | (with_reducible refine LeO.ite ?_ ?_)
   | (with_reducible refine LeO.bind ?_ (fun _ => ?_))
   | exact ih0 _ _ _ _ _
   | exact ih1 _ _ _ _ _ _
   | exact ih2 _ _ _ _ _ _ _
   | exact ih3 _ _ _ _ _ _ _ _ _
   | exact zax.mono _ _ _
   | exact zaZ.mono _ _
   | exact zaH.mono _ _ _
   | exact zaA.mono _ _ _ _ _
   | exact LeO.none _
   | refine LeO.ite ?_ ?_
   | refine LeO.bind ?_ (fun _ => ?_)
  ·intro y0 y1 y2 y3 y4 y5
   unfold zal.l0
   repeat' first
   | (with_reducible exact ih0 _ _ _ _ _)
   | (with_reducible exact ih1 _ _ _ _ _ _)
   | (with_reducible exact ih2 _ _ _ _ _ _ _)
   | (with_reducible exact ih3 _ _ _ _ _ _ _ _ _)
   | (with_reducible exact zax.mono _ _ _)
   | (with_reducible exact zaZ.mono _ _)
   | (with_reducible exact zaH.mono _ _ _)
   | (with_reducible exact zaA.mono _ _ _ _ _)
   | (with_reducible exact LeO.refl _)
   | (with_reducible exact LeO.none _)
   | (with_reducible refine LeO.ite ?_ ?_)
   | (with_reducible refine LeO.bind ?_ (fun _ => ?_))
   | exact ih0 _ _ _ _ _
   | exact ih1 _ _ _ _ _ _
   | exact ih2 _ _ _ _ _ _ _
   | exact ih3 _ _ _ _ _ _ _ _ _
   | exact zax.mono _ _ _
   | exact zaZ.mono _ _
   | exact zaH.mono _ _ _
   | exact zaA.mono _ _ _ _ _
   | exact LeO.none _
   | refine LeO.ite ?_ ?_
   | refine LeO.bind ?_ (fun _ => ?_)
  ·intro y0 y1 y2 y3 y4 y5 y6
   unfold zal.j3
   repeat' first
   | (with_reducible exact ih0 _ _ _ _ _)
   | (with_reducible exact ih1 _ _ _ _ _ _)
   | (with_reducible exact ih2 _ _ _ _ _ _ _)
   | (with_reducible exact ih3 _ _ _ _ _ _ _ _ _)
   | (with_reducible exact zax.mono _ _ _)
   | (with_reducible exact zaZ.mono _ _)
   | (with_reducible exact zaH.mono _ _ _)
   | (with_reducible exact zaA.mono _ _ _ _ _)
   | (with_reducible exact LeO.refl _)
   | (with_reducible exact LeO.none _)
   | (with_reducible refine LeO.ite ?_ ?_)
   | (with_reducible refine LeO.bind ?_ (fun _ => ?_))
   | exact ih0 _ _ _ _ _
   | exact ih1 _ _ _ _ _ _
   | exact ih2 _ _ _ _ _ _ _
   | exact ih3 _ _ _ _ _ _ _ _ _
   | exact zax.mono _ _ _
   | exact zaZ.mono _ _
   | exact zaH.mono _ _ _
   | exact zaA.mono _ _ _ _ _
   | exact LeO.none _
   | refine LeO.ite ?_ ?_
   | refine LeO.bind ?_ (fun _ => ?_)
  ·intro y0 y1 y2 y3 y4 y5 y6 y7 y8
   unfold zal.l1
   repeat' first
   | (with_reducible exact ih0 _ _ _ _ _)
   | (with_reducible exact ih1 _ _ _ _ _ _)
   | (with_reducible exact ih2 _ _ _ _ _ _ _)
   | (with_reducible exact ih3 _ _ _ _ _ _ _ _ _)
   | (with_reducible exact zax.mono _ _ _)
   | (with_reducible exact zaZ.mono _ _)
   | (with_reducible exact zaH.mono _ _ _)
   | (with_reducible exact zaA.mono _ _ _ _ _)
   | (with_reducible exact LeO.refl _)
   | (with_reducible exact LeO.none _)
   | (with_reducible refine LeO.ite ?_ ?_)
   | (with_reducible refine LeO.bind ?_ (fun _ => ?_))
   | exact ih0 _ _ _ _ _
   | exact ih1 _ _ _ _ _ _
   | exact ih2 _ _ _ _ _ _ _
   | exact ih3 _ _ _ _ _ _ _ _ _
   | exact zax.mono _ _ _
   | exact zaZ.mono _ _
   | exact zaH.mono _ _ _
   | exact zaA.mono _ _ _ _ _
   | exact LeO.none _
   | refine LeO.ite ?_ ?_
   | refine LeO.bind ?_ (fun _ => ?_)
theorem zal.mono : ∀ a0 a1 a2 a3 k, LeO (zal.f k a0 a1 a2 a3) (zal.f (k + 1) a0 a1 a2 a3) := by
 intro a0 a1 a2 a3 k
 obtain ⟨ih0, ih1, ih2, ih3⟩ := zal.zaV k
 unfold zal.f
 repeat' first
   | (with_reducible exact ih0 _ _ _ _ _)
   | (with_reducible exact ih1 _ _ _ _ _ _)
   | (with_reducible exact ih2 _ _ _ _ _ _ _)
   | (with_reducible exact ih3 _ _ _ _ _ _ _ _ _)
   | (with_reducible exact zax.mono _ _ _)
   | (with_reducible exact zaZ.mono _ _)
   | (with_reducible exact zaH.mono _ _ _)
   | (with_reducible exact zaA.mono _ _ _ _ _)
   | (with_reducible exact LeO.refl _)
   | (with_reducible exact LeO.none _)
   | (with_reducible refine LeO.ite ?_ ?_)
   | (with_reducible refine LeO.bind ?_ (fun _ => ?_))
   | exact ih0 _ _ _ _ _
   | exact ih1 _ _ _ _ _ _
   | exact ih2 _ _ _ _ _ _ _
   | exact ih3 _ _ _ _ _ _ _ _ _
   | exact zax.mono _ _ _
   | exact zaZ.mono _ _
   | exact zaH.mono _ _ _
   | exact zaA.mono _ _ _ _ _
   | exact LeO.none _
   | refine LeO.ite ?_ ?_
   | refine LeO.bind ?_ (fun _ => ?_)
def zal.T13 : Bool × List (List Nat × List Nat) := (true, [([], []), ([0], [0]), ([1], [1]), ([2, 1], [1, 2]), ([1], [1]), ([3, 4, 1], [1, 3, 4]), ([5, 1], [1, 5]), ([6, 1], [1, 6]), ([1], [1]), ([8, 1], [1, 8]), ([1], [1]), ([9, 10, 1], [1, 9, 10]), ([11, 1], [1, 11]), ([12, 1], [1, 12]), ([7, 13, 1], [1, 7, 13]), ([1, 14], [1, 14]), ([15, 1, 0, 1, 2, 3, 4, 5, 6, 7, 8, 9, 10, 11, 12, 13, 14, 15], [0, 15])])
def zal.B13 : List Nat := [0, 1, 3, 7, 3, 31, 63, 127, 3, 259, 3, 1795, 3843, 7939, 16383, 32767, 65535]
theorem zal.zkh : rtab .any (opsOf Tryd.f25 13) = zal.T13 := by kernel_rfl
theorem zal.ziX : zc2 zal.T13.2 zal.B13 = true := by kernel_rfl
def zal.T20 : Bool × List (List Nat × List Nat) := (true, [([], []), ([0], [0]), ([], []), ([], []), ([2, 3], [2, 3]), ([4], [4]), ([5], [5]), ([1, 6], [1, 6]), ([], []), ([7, 8, 0, 1, 2, 3, 4, 5, 6, 7, 8], [7])])
def zal.B20 : List Nat := [0, 1, 0, 0, 12, 28, 60, 127, 0, 511]
theorem zal.zlH : rtab .any (opsOf Tryd.f25 20) = zal.T20 := by kernel_rfl
theorem zal.zll : zc2 zal.T20.2 zal.B20 = true := by kernel_rfl
set_option maxHeartbeats 8000000 in
set_option maxRecDepth 100000 in
theorem zal.calls (k : Nat) (A0_0 : Option Addr) (c0_0 : Nat) (l0_0 : List (S121)) (A0_1 : Option Addr) (c0_1 : Nat) (l0_1 : List (List (S62))) (a1 : Int) (a2 : Int) (r1 : Bool) (r2 : Int) (r3 : Int) (r4 : Int) (w : World) (hr0_0 : Kd.C k121 w A0_0 l0_0.length l0_0) (hc0_0 : l0_0.length ≤ c0_0) (hr0_1 : Kd.C (Kd.slice 62 k62) w A0_1 l0_1.length l0_1) (hc0_1 : l0_1.length ≤ c0_1) (h : zal.f k l0_0 l0_1 a1 a2 = some (r1, r2, r3, r4)) :
  Calls Tryd.prog 25 #[.agg #[.slice A0_0 l0_0.length c0_0, .slice A0_1 l0_1.length c0_1], .int .i64 a1, .int .i64 a2] w fun e w' => e = .returned (.tuple #[.bool r1, .agg #[.int .i64 r2, .int .i64 r3, .int .i64 r4]]) ∧ Below w.heap.size w w' := by
 have hu41 := Tryd.underlying41
 have hu43 := Tryd.underlying43
 have HR0_0 := zaa.mk hr0_0
 have HC0_0 := zaa.mk hc0_0
 clear hr0_0 hc0_0
 have HR0_1 := zaa.mk hr0_1
 have HC0_1 := zaa.mk hc0_1
 clear hr0_1 hc0_1
 have HB := zaa.mk (Below.refl w.heap.size w)
 have H : (if a1 < 1 then (zal.j0 k a1 a2 true l0_0 l0_1) else (if a1 > 6 then (zal.j0 k a1 a2 true l0_0 l0_1) else (if a2 < 0 then (zal.j0 k a1 a2 true l0_0 l0_1) else (if a2 > 6 then (zal.j0 k a1 a2 true l0_0 l0_1) else (if (l0_1.length : Int) = a1 then (if (l0_0.length : Int) > 10 then (zal.j0 k a1 a2 true l0_0 l0_1) else ((zaH.f k l0_0 l0_1).bind fun t194 => (zal.j0 k a1 a2 (decide (t194 > 300)) l0_0 l0_1))) else (zal.j0 k a1 a2 true l0_0 l0_1)))))) = some (r1, r2, r3, r4) := h
 clear h
 have HC4 := zaa.mk H
 clear H
 go_enter Tryd.func25, Tryd.ntmps25
 go_upto_region 1 with (first | ((with_reducible refine zba (N := 3) rfl ?_); (try (refine zbS (by rfl) ?_; dsimp only)); refine za6 ?hg (N := 3) ?hd (cs := #[.slice A0_0 l0_0.length c0_0, .slice A0_1 l0_1.length c0_1]) (t := 41) ?hr ?_; (case hd => rfl); (case hg => rfl); (case hr => first | (go_simp; done) | (go_simp; rfl)); intro gb192 hg w5 hbox hb; have n0_ := zaa.mk (zat (by repeat (first | (with_reducible first | exact HB.out | apply zac | apply zab | apply zad) | exact HB.out)) hb); have n1_ := zaa.mk (hbox); have n2_ := zaa.mk ((by rw [hg]; exact (zas (by repeat (first | (with_reducible first | exact HB.out | apply zac | apply zab | apply zad) | exact HB.out))) : w.heap.size ≤ gb192)); have n3_ := zaa.mk ((by rw [hg]; exact (zas (by repeat (first | (with_reducible first | exact HB.out | apply zac | apply zab | apply zad) | exact HB.out))) : w.heap.size ≤ gb192)); clear HB; have HB := n0_; have BK192 := n1_; have GW192 := n2_; have GE192 := n3_; clear n0_ n1_ n2_ n3_; clear hb hbox hg) | ((with_reducible refine zba (N := 7) rfl ?_); (try (refine zbS (by rfl) ?_; dsimp only)); refine za6 ?hg (N := 7) ?hd (cs := #[.int .i64 0, .int .i64 0, .int .i64 0]) (t := 43) ?hr ?_; (case hd => rfl); (case hg => rfl); (case hr => first | (go_simp; done) | (go_simp; rfl)); intro gb193 hg w6 hbox hb; have n0_ := zaa.mk (zaM (g := gb192) (o := .cells #[.slice A0_0 l0_0.length c0_0, .slice A0_1 l0_1.length c0_1] 41 (0, 0)) (by (with_reducible repeat (first | refine zaf ?_ _ | refine zai ?_ | refine zae ?_ _)); exact BK192.out) hb); have n1_ := zaa.mk (zat (by repeat (first | (with_reducible first | exact HB.out | apply zac | apply zab | apply zad | refine zah ?_ GE192.out) | exact HB.out)) hb); have n2_ := zaa.mk (hbox); have n3_ := zaa.mk ((by rw [hg]; exact (zas (by repeat (first | (with_reducible first | exact HB.out | apply zac | apply zab | apply zad | refine zah ?_ GE192.out) | exact HB.out))) : w.heap.size ≤ gb193)); have n4_ := zaa.mk ((by rw [hg]; exact (zas (by repeat (first | (with_reducible first | exact HB.out | apply zac | apply zab | apply zad | refine zah ?_ GE192.out) | exact HB.out))) : w.heap.size ≤ gb193)); have n5_ := zaa.mk ((by rw [hg]; exact Nat.ne_of_lt (zbk (g := gb192) (o := .cells #[.slice A0_0 l0_0.length c0_0, .slice A0_1 l0_1.length c0_1] 41 (0, 0)) (by (with_reducible repeat (first | refine zaf ?_ _ | refine zai ?_ | refine zae ?_ _)); exact BK192.out)) : gb192 ≠ gb193)); have n6_ := zaa.mk ((by rw [hg]; exact Nat.ne_of_gt (zbk (g := gb192) (o := .cells #[.slice A0_0 l0_0.length c0_0, .slice A0_1 l0_1.length c0_1] 41 (0, 0)) (by (with_reducible repeat (first | refine zaf ?_ _ | refine zai ?_ | refine zae ?_ _)); exact BK192.out)) : gb193 ≠ gb192)); clear BK192; clear HB; have BK192 := n0_; have HB := n1_; have BK193 := n2_; have GW193 := n3_; have GE193 := n4_; have NB192_193 := n5_; have NB193_192 := n6_; clear n0_ n1_ n2_ n3_ n4_ n5_ n6_; clear hb hbox hg))
 (try simp only [Act.put, List.setIfInBounds_toArray, List.set_cons_zero, List.set_cons_succ])
 go_cut [45] (fun v45 wc => ∃ (kq : Nat) (x45_3 : Bool), v45 = .bool x45_3 ∧ zaa (zal.j0 kq a1 a2 x45_3 l0_0 l0_1 = some (r1, r2, r3, r4)) ∧ zaa (kq ≤ k) ∧ zaa (wc.heap[gb192]? = some (.cells #[(.slice A0_0 l0_0.length c0_0), (.slice A0_1 l0_1.length c0_1)] 41 (0, 0))) ∧ zaa (wc.heap[gb193]? = some (.cells #[.int .i64 0, .int .i64 0, .int .i64 0] 43 (0, 0))) ∧ zaa (Below w.heap.size w wc))
 case first =>
  have H := HC4.out
  clear HC4
  by_cases c7 : a1 < 1
  ·rw [if_pos c7] at H
   have c7b0 : decide (a1 < 1) = true := decide_eq_true c7
   clear c7
   (first | rw [c7b0] | (simp only [zaC, zaD]; rw [c7b0]) | skip)
   have H' := zaa.mk H
   clear H
   go_wp2
   go_meet
   case rel => exact ⟨_, (true), (by first | rfl | (simp; done) | (simp [*]; done)), H', ⟨by first | omega | exact Nat.le_refl _⟩, ⟨by (with_reducible repeat (first | refine zaf ?_ _ | refine zai ?_ | refine zae ?_ _)); exact BK192.out⟩, ⟨by (with_reducible repeat (first | refine zaf ?_ _ | refine zai ?_ | refine zae ?_ _)); exact BK193.out⟩, ⟨by repeat (first | (with_reducible first | exact HB.out | apply zac | apply zab | apply zad | refine zah ?_ GE192.out | refine zah ?_ GE193.out) | exact HB.out)⟩⟩
  ·rw [if_neg c7] at H
   have c7b0 : decide (a1 < 1) = false := decide_eq_false c7
   clear c7
   (first | rw [c7b0] | (simp only [zaC, zaD]; rw [c7b0]) | skip)
   by_cases c8 : a1 > 6
   ·rw [if_pos c8] at H
    have c8b0 : decide (6 < a1) = true := decide_eq_true c8
    clear c8
    have H' := zaa.mk H
    clear H
    go_wp2
    go_meet
    case rel => exact ⟨_, (true), (by first | rfl | (simp; done) | (simp [*]; done)), H', ⟨by first | omega | exact Nat.le_refl _⟩, ⟨by (with_reducible repeat (first | refine zaf ?_ _ | refine zai ?_ | refine zae ?_ _)); exact BK192.out⟩, ⟨by (with_reducible repeat (first | refine zaf ?_ _ | refine zai ?_ | refine zae ?_ _)); exact BK193.out⟩, ⟨by repeat (first | (with_reducible first | exact HB.out | apply zac | apply zab | apply zad | refine zah ?_ GE192.out | refine zah ?_ GE193.out) | exact HB.out)⟩⟩
   ·rw [if_neg c8] at H
    have c8b0 : decide (6 < a1) = false := decide_eq_false c8
    clear c8
    by_cases c9 : a2 < 0
    ·rw [if_pos c9] at H
     have c9b0 : decide (a2 < 0) = true := decide_eq_true c9
     clear c9
     have H' := zaa.mk H
     clear H
     go_wp2
     go_meet
     case rel => exact ⟨_, (true), (by first | rfl | (simp; done) | (simp [*]; done)), H', ⟨by first | omega | exact Nat.le_refl _⟩, ⟨by (with_reducible repeat (first | refine zaf ?_ _ | refine zai ?_ | refine zae ?_ _)); exact BK192.out⟩, ⟨by (with_reducible repeat (first | refine zaf ?_ _ | refine zai ?_ | refine zae ?_ _)); exact BK193.out⟩, ⟨by repeat (first | (with_reducible first | exact HB.out | apply zac | apply zab | apply zad | refine zah ?_ GE192.out | refine zah ?_ GE193.out) | exact HB.out)⟩⟩
    ·rw [if_neg c9] at H
     have c9b0 : decide (a2 < 0) = false := decide_eq_false c9
     clear c9
     by_cases c10 : a2 > 6
     ·rw [if_pos c10] at H
      have c10b0 : decide (6 < a2) = true := decide_eq_true c10
      clear c10
      have H' := zaa.mk H
      clear H
      go_wp2
      go_meet
      case rel => exact ⟨_, (true), (by first | rfl | (simp; done) | (simp [*]; done)), H', ⟨by first | omega | exact Nat.le_refl _⟩, ⟨by (with_reducible repeat (first | refine zaf ?_ _ | refine zai ?_ | refine zae ?_ _)); exact BK192.out⟩, ⟨by (with_reducible repeat (first | refine zaf ?_ _ | refine zai ?_ | refine zae ?_ _)); exact BK193.out⟩, ⟨by repeat (first | (with_reducible first | exact HB.out | apply zac | apply zab | apply zad | refine zah ?_ GE192.out | refine zah ?_ GE193.out) | exact HB.out)⟩⟩
     ·rw [if_neg c10] at H
      have c10b0 : decide (6 < a2) = false := decide_eq_false c10
      clear c10
      by_cases c11 : (l0_1.length : Int) = a1
      ·rw [if_pos c11] at H
       have c11b0 : ((l0_1.length : Int) == a1) = true := beq_iff_eq.mpr c11
       have c11b1 : ((l0_1.length : Int) != a1) = false := bne_eq_false_iff_eq.mpr c11
       clear c11
       by_cases c12 : (l0_0.length : Int) > 10
       ·rw [if_pos c12] at H
        have c12b0 : decide (10 < (l0_0.length : Int)) = true := decide_eq_true c12
        have c12b1 : decide (10 < l0_0.length) = true := decide_eq_true (by omega)
        clear c12
        have H' := zaa.mk H
        clear H
        have hnb13 := NB192_193.out
        have hnc13 := NB193_192.out
        have hcz14_0 : w6.cell? ⟨gb192, 0, none⟩ = some (.slice A0_0 l0_0.length c0_0) := (zaj BK192.out 0).trans rfl
        have hcz14_1 : w6.cell? ⟨gb192, 1, none⟩ = some (.slice A0_1 l0_1.length c0_1) := (zaj BK192.out 1).trans rfl
        have hfz14_0 := zak BK192.out 0
        have hfz14_1 := zak BK192.out 1
        go_wp2
        go_meet
        case rel => exact ⟨_, (true), (by first | rfl | (simp; done) | (simp [*]; done)), H', ⟨by first | omega | exact Nat.le_refl _⟩, ⟨by (with_reducible repeat (first | refine zaf ?_ _ | refine zai ?_ | refine zae ?_ _)); exact BK192.out⟩, ⟨by (with_reducible repeat (first | refine zaf ?_ _ | refine zai ?_ | refine zae ?_ _)); exact BK193.out⟩, ⟨by repeat (first | (with_reducible first | exact HB.out | apply zac | apply zab | apply zad | refine zah ?_ GE192.out | refine zah ?_ GE193.out) | exact HB.out)⟩⟩
       ·rw [if_neg c12] at H
        have c12b0 : decide (10 < (l0_0.length : Int)) = false := decide_eq_false c12
        have c12b1 : decide (10 < l0_0.length) = false := decide_eq_false (by omega)
        clear c12
        replace H := Option.bind_eq_some_iff.mp H
        obtain ⟨t194, A150, H⟩ := H
        replace H : (zal.j0 k a1 a2 (decide (t194 > 300)) l0_0 l0_1) = some (r1, r2, r3, r4) := H
        have A15 := zaa.mk A150
        clear A150
        have H' := zaa.mk H
        clear H
        have hnb16 := NB192_193.out
        have hnc16 := NB193_192.out
        have hcz17_0 : w6.cell? ⟨gb192, 0, none⟩ = some (.slice A0_0 l0_0.length c0_0) := (zaj BK192.out 0).trans rfl
        have hcz17_1 : w6.cell? ⟨gb192, 1, none⟩ = some (.slice A0_1 l0_1.length c0_1) := (zaj BK192.out 1).trans rfl
        have hfz17_0 := zak BK192.out 0
        have hfz17_1 := zak BK192.out 1
        go_wp2_with (first | (go_at_call 72; (with_reducible refine (zaH.calls k _ _ l0_0 _ _ l0_1 t194 _ ?side1 ?side2 ?side3 ?side4 A15.out).mono ?_); (case side1 => repeat (first | exact (Kd.za1 HR0_0.out HB.out) | (with_reducible refine Kd.zaU ?_ _) | (with_reducible refine Kd.zaY ?_ _) | (with_reducible refine Kd.za3 ?_))); (case side2 => exact HC0_0.out); (case side3 => repeat (first | exact (Kd.za1 HR0_1.out HB.out) | (with_reducible refine Kd.zaU ?_ _) | (with_reducible refine Kd.zaY ?_ _) | (with_reducible refine Kd.za3 ?_))); (case side4 => exact HC0_1.out); rintro e w18 ⟨rfl, hb⟩; have n0_ := zaa.mk (zaM (g := gb192) (o := .cells #[.slice A0_0 l0_0.length c0_0, .slice A0_1 l0_1.length c0_1] 41 (0, 0)) (by (with_reducible repeat (first | refine zaf ?_ _ | refine zai ?_ | refine zae ?_ _)); exact BK192.out) hb); have n1_ := zaa.mk (zaM (g := gb193) (o := .cells #[.int .i64 0, .int .i64 0, .int .i64 0] 43 (0, 0)) (by (with_reducible repeat (first | refine zaf ?_ _ | refine zai ?_ | refine zae ?_ _)); exact BK193.out) hb); have n2_ := zaa.mk (zat (by repeat (first | (with_reducible first | exact HB.out | apply zac | apply zab | apply zad | refine zah ?_ GE192.out | refine zah ?_ GE193.out) | exact HB.out)) hb); clear BK192; clear BK193; clear HB; have BK192 := n0_; have BK193 := n1_; have HB := n2_; clear n0_ n1_ n2_; (try clear hb); (try clear hb2); (try clear hk); (try clear hi)))
        go_meet
        case rel => exact ⟨_, (decide (t194 > 300)), (by first | rfl | (simp; done) | (simp [*]; done)), H', ⟨by first | omega | exact Nat.le_refl _⟩, ⟨by (with_reducible repeat (first | refine zaf ?_ _ | refine zai ?_ | refine zae ?_ _)); exact BK192.out⟩, ⟨by (with_reducible repeat (first | refine zaf ?_ _ | refine zai ?_ | refine zae ?_ _)); exact BK193.out⟩, ⟨by repeat (first | (with_reducible first | exact HB.out | apply zac | apply zab | apply zad | refine zah ?_ GE192.out | refine zah ?_ GE193.out) | exact HB.out)⟩⟩
      ·rw [if_neg c11] at H
       have c11b0 : ((l0_1.length : Int) == a1) = false := beq_eq_false_iff_ne.mpr c11
       have c11b1 : ((l0_1.length : Int) != a1) = true := bne_iff_ne.mpr c11
       have H' := zaa.mk H
       clear H
       have hnb19 := NB192_193.out
       have hnc19 := NB193_192.out
       have hcz20_0 : w6.cell? ⟨gb192, 0, none⟩ = some (.slice A0_0 l0_0.length c0_0) := (zaj BK192.out 0).trans rfl
       have hcz20_1 : w6.cell? ⟨gb192, 1, none⟩ = some (.slice A0_1 l0_1.length c0_1) := (zaj BK192.out 1).trans rfl
       have hfz20_0 := zak BK192.out 0
       have hfz20_1 := zak BK192.out 1
       go_wp2
       go_meet
       case rel => exact ⟨_, (true), (by first | rfl | (simp; done) | (simp [*]; done)), H', ⟨by first | omega | exact Nat.le_refl _⟩, ⟨by (with_reducible repeat (first | refine zaf ?_ _ | refine zai ?_ | refine zae ?_ _)); exact BK192.out⟩, ⟨by (with_reducible repeat (first | refine zaf ?_ _ | refine zai ?_ | refine zae ?_ _)); exact BK193.out⟩, ⟨by repeat (first | (with_reducible first | exact HB.out | apply zac | apply zab | apply zad | refine zah ?_ GE192.out | refine zah ?_ GE193.out) | exact HB.out)⟩⟩
 case rest =>
  clear HC4
  try clear c1
  try clear c2
  try clear p2
  try clear c7
  try clear c7b0
  try clear c8
  try clear c8b0
  try clear c9
  try clear c9b0
  try clear c10
  try clear c10b0
  try clear c11
  try clear c11b0
  try clear c11b1
  try clear c12
  try clear c12b0
  try clear c12b1
  try clear c13
  try clear c16
  try clear c19
  try clear hcz14_0
  try clear hcz14_1
  try clear hcz17_0
  try clear hcz17_1
  try clear hcz20_0
  try clear hcz20_1
  try clear hfz14_0
  try clear hfz14_1
  try clear hfz17_0
  try clear hfz17_1
  try clear hfz20_0
  try clear hfz20_1
  obtain ⟨kq, x45_3, rfl, HA, HJ3, BK192, BK193, HB⟩ := hcut
  cases kq with
  | zero => exact absurd HA.out (by simp [zal.j0])
  | succ kj3 =>
   have H := HA.out
   clear HA
   simp only [zal.j0] at H
   by_cases c21 : x45_3 = true
   ·subst c21
    have H1 : (some (true, 0, 0, 0)) = some (r1, r2, r3, r4) := by rw [if_pos rfl] at H; exact H
    clear H
    have H := H1
    clear H1
    simp only [Option.some.injEq, Prod.mk.injEq] at H
    obtain ⟨rfl, rfl, rfl, rfl⟩ := H
    have hnb22 := NB193_192.out
    have hnc22 := NB192_193.out
    have hcz23_0 : wc.cell? ⟨gb193, 0, none⟩ = some (.int .i64 0) := (zaj BK193.out 0).trans rfl
    have hcz23_1 : wc.cell? ⟨gb193, 1, none⟩ = some (.int .i64 0) := (zaj BK193.out 1).trans rfl
    have hcz23_2 : wc.cell? ⟨gb193, 2, none⟩ = some (.int .i64 0) := (zaj BK193.out 2).trans rfl
    have hfz23_0 := zak BK193.out 0
    have hfz23_1 := zak BK193.out 1
    have hfz23_2 := zak BK193.out 2
    go_wp2
    refine bodyPost_ret (zdE rfl _ _ gb193 43 #[.int .i64 0, .int .i64 0, .int .i64 0] (0, 0) _ rfl (by (with_reducible repeat (first | refine zaf ?_ _ | refine zai ?_ | refine zae ?_ _)); refine zaT (cs := #[.int .i64 0, .int .i64 0, .int .i64 0]) ?_ 2 _ rfl; (with_reducible repeat (first | refine zaf ?_ _ | refine zai ?_ | refine zae ?_ _)); refine zaT (cs := #[.int .i64 0, .int .i64 0, .int .i64 0]) ?_ 1 _ rfl; (with_reducible repeat (first | refine zaf ?_ _ | refine zai ?_ | refine zae ?_ _)); refine zaT (cs := #[.int .i64 0, .int .i64 0, .int .i64 0]) ?_ 0 _ rfl; (with_reducible repeat (first | refine zaf ?_ _ | refine zai ?_ | refine zae ?_ _)); exact BK193.out) Tryd.underlying43 rfl (by kernel_rfl)) rfl ?_
    exact ⟨by first | rfl | (simp [zam, zan] <;> rfl) | (simp [*, zam, zan] <;> rfl), by repeat (first | (with_reducible first | exact HB.out | apply zac | apply zab | apply zad | refine zah ?_ GE192.out | refine zah ?_ GE193.out) | exact HB.out)⟩
   ·replace c21 := Bool.eq_false_iff.mpr c21
    subst c21
    have H1 : ((zax.f kj3 l0_0 l0_1).bind fun t195 => (zal.l0 kj3 a1 a2 t195 0 l0_0 l0_1)) = some (r1, r2, r3, r4) := by rw [if_neg (show ¬ (false = true) by decide)] at H; exact H
    clear H
    have H := H1
    clear H1
    replace H := Option.bind_eq_some_iff.mp H
    obtain ⟨t195, A240, H⟩ := H
    replace H : (zal.l0 kj3 a1 a2 t195 0 l0_0 l0_1) = some (r1, r2, r3, r4) := H
    have A24 := zaa.mk A240
    clear A240
    have H' := zaa.mk H
    clear H
    have hnb25 := NB192_193.out
    have hnc25 := NB193_192.out
    have hcz26_0 : wc.cell? ⟨gb192, 0, none⟩ = some (.slice A0_0 l0_0.length c0_0) := (zaj BK192.out 0).trans rfl
    have hcz26_1 : wc.cell? ⟨gb192, 1, none⟩ = some (.slice A0_1 l0_1.length c0_1) := (zaj BK192.out 1).trans rfl
    have hfz26_0 := zak BK192.out 0
    have hfz26_1 := zak BK192.out 1
    go_wp2_with (first | ((with_reducible refine zaI (f := 73) rfl ?_); refine za5 (some 48) rfl rfl Tryd.func73 (by kernel_rfl) rfl #[.agg #[.slice A0_0 l0_0.length c0_0, .slice A0_1 l0_1.length c0_1]] rfl (by (try simp only [List.map_toArray, List.map_cons, List.map_nil]); first | done | rfl | (simp only [List.length_drop, List.length_take]; rfl)) ?_; (with_reducible refine (zax.calls kj3 (fun k_ => k_ < w.heap.size) _ _ l0_0 (fun k_ => k_ < w.heap.size) _ _ l0_1 t195 _ ?side1 ?side2 A24.out).mono ?_); (case side1 => exact Kd.V_mk HC0_0.out (Kd.zc0 (Kd.C_F zfA HR0_0.out) (by repeat (first | (with_reducible first | exact HB.out | apply zac | apply zab | apply zad | refine zah ?_ GE192.out | refine zah ?_ GE193.out) | exact HB.out)))); (case side2 => exact Kd.V_mk HC0_1.out (Kd.zc0 (Kd.C_F (Kd.zcS 62 zeS) HR0_1.out) (by repeat (first | (with_reducible first | exact HB.out | apply zac | apply zab | apply zad | refine zah ?_ GE192.out | refine zah ?_ GE193.out) | exact HB.out)))); rintro e w27 ⟨v196, rfl, ho0, hb⟩; refine ⟨_, rfl, ?_⟩; have n0_ := zaa.mk (Kd.zfI (Kd.zbP (ok' := fun k_ => k_ ≠ gb192 ∧ k_ ≠ gb193) ho0 (fun k_ hk_ => ⟨Or.elim hk_ (fun hs_ => Or.elim hs_ (fun hs_ => fun e_ => Nat.not_le.2 hs_ (by rw [e_]; exact GW192.out)) (fun hs_ => fun e_ => Nat.not_le.2 hs_ (by rw [e_]; exact GW192.out))) (fun hn_ => (Kd.zcn (g := gb192) (o := .cells #[.slice A0_0 l0_0.length c0_0, .slice A0_1 l0_1.length c0_1] 41 (0, 0)) (by (with_reducible repeat (first | refine zaf ?_ _ | refine zai ?_ | refine zae ?_ _)); exact BK192.out) k_ hn_)), Or.elim hk_ (fun hs_ => Or.elim hs_ (fun hs_ => fun e_ => Nat.not_le.2 hs_ (by rw [e_]; exact GW193.out)) (fun hs_ => fun e_ => Nat.not_le.2 hs_ (by rw [e_]; exact GW193.out))) (fun hn_ => (Kd.zcn (g := gb193) (o := .cells #[.int .i64 0, .int .i64 0, .int .i64 0] 43 (0, 0)) (by (with_reducible repeat (first | refine zaf ?_ _ | refine zai ?_ | refine zae ?_ _)); exact BK193.out) k_ hn_))⟩)) (zas (by repeat (first | (with_reducible first | exact HB.out | apply zac | apply zab | apply zad | refine zah ?_ GE192.out | refine zah ?_ GE193.out) | exact HB.out)))); have n1_ := zaa.mk (zaM (g := gb192) (o := .cells #[.slice A0_0 l0_0.length c0_0, .slice A0_1 l0_1.length c0_1] 41 (0, 0)) (by (with_reducible repeat (first | refine zaf ?_ _ | refine zai ?_ | refine zae ?_ _)); exact BK192.out) hb); have n2_ := zaa.mk (zaM (g := gb193) (o := .cells #[.int .i64 0, .int .i64 0, .int .i64 0] 43 (0, 0)) (by (with_reducible repeat (first | refine zaf ?_ _ | refine zai ?_ | refine zae ?_ _)); exact BK193.out) hb); have n3_ := zaa.mk (zat (by repeat (first | (with_reducible first | exact HB.out | apply zac | apply zab | apply zad | refine zah ?_ GE192.out | refine zah ?_ GE193.out) | exact HB.out)) hb); clear BK192; clear BK193; clear HB; have HO197 := n0_; have BK192 := n1_; have BK193 := n2_; have HB := n3_; clear n0_ n1_ n2_ n3_; (try clear hb); (try clear hb2); (try clear hk); (try clear hi); (try clear ho0)))
    go_loopg [9] kj3 (fun kq v9 w' => ∃ (x9_2 : Int) (x194000_2 : Int) (x194001_2 : Int) (x194002_2 : Int), v9 = .int .i64 x9_2 ∧ zaa (zal.l0 kq a1 a2 t195 x9_2 l0_0 l0_1 = some (r1, r2, r3, r4)) ∧ zaa (kq ≤ kj3) ∧ zaa (Kd.N (Kd.slice 62 k62) 54 w' w.heap.size (fun k_ => k_ ≠ gb192 ∧ k_ ≠ gb193) v196 t195) ∧ zaa (w'.heap[gb192]? = some (.cells #[(.slice A0_0 l0_0.length c0_0), (.slice A0_1 l0_1.length c0_1)] 41 (0, 0))) ∧ zaa (w'.heap[gb193]? = some (.cells #[.int .i64 x194000_2, .int .i64 x194001_2, .int .i64 x194002_2] 43 (0, 0))) ∧ zaa (Below w.heap.size w w'))
    case atStart => exact ⟨(0), (0), (0), (0), (by first | rfl | (simp; done) | (simp [*]; done)), H', ⟨Nat.le_refl _⟩, ⟨by (with_reducible repeat (first | apply Kd.zbs | apply Kd.zbu | apply Kd.zbr)); exact HO197.out⟩, ⟨by (with_reducible repeat (first | refine zaf ?_ _ | refine zai ?_ | refine zae ?_ _)); exact BK192.out⟩, ⟨by (with_reducible repeat (first | refine zaf ?_ _ | refine zai ?_ | refine zae ?_ _)); exact BK193.out⟩, ⟨by repeat (first | (with_reducible first | exact HB.out | apply zac | apply zab | apply zad | refine zah ?_ GE192.out | refine zah ?_ GE193.out) | exact HB.out)⟩⟩
    case round =>
     clear H'
     try clear c1
     try clear c2
     try clear p2
     try clear c7
     try clear c7b0
     try clear c8
     try clear c8b0
     try clear c9
     try clear c9b0
     try clear c10
     try clear c10b0
     try clear c11
     try clear c11b0
     try clear c11b1
     try clear c12
     try clear c12b0
     try clear c12b1
     try clear c13
     try clear c16
     try clear c19
     try clear c21
     try clear c22
     try clear c25
     try clear hcz14_0
     try clear hcz14_1
     try clear hcz17_0
     try clear hcz17_1
     try clear hcz20_0
     try clear hcz20_1
     try clear hcz23_0
     try clear hcz23_1
     try clear hcz23_2
     try clear hcz26_0
     try clear hcz26_1
     try clear hfz14_0
     try clear hfz14_1
     try clear hfz17_0
     try clear hfz17_1
     try clear hfz20_0
     try clear hfz20_1
     try clear hfz23_0
     try clear hfz23_1
     try clear hfz23_2
     try clear hfz26_0
     try clear hfz26_1
     try clear p2
     obtain ⟨x9_2, x194000_2, x194001_2, x194002_2, rfl, HA, HK2, HO_8, BK192, BK193, HB⟩ := hrel
     cases gk with
     | zero => exact absurd HA.out (by simp [zal.l0])
     | succ k2 =>
      have H := HA.out
      clear HA
      simp only [zal.l0] at H
      by_cases c28 : x9_2 < (t195.length : Int)
      ·rw [if_pos c28] at H
       have c28b0 : decide (x9_2 < (t195.length : Int)) = true := decide_eq_true c28
       clear c28
       obtain ⟨ji29, hji29⟩ : ∃ j_ : Int, (mn x9_2 (l0_0.length : Int)) = j_ := ⟨_, rfl⟩
       replace H : (if x9_2 < (l0_0.length : Int) then (if 0 ≤ x9_2 then ((zbT.f ((zbg l0_0 x9_2).f0)).bind fun t199 => (zal.l1 k2 a1 a2 t195 x9_2 ji29 t199 0 l0_0 l0_1)) else (none)) else (zal.j3 k2 a1 a2 t195 x9_2 ji29 l0_0 l0_1)) = some (r1, r2, r3, r4) := by first | (rw [hji29] at H; exact H) | (simp only [hji29] at H ⊢; exact H)
       have HC30 := zaa.mk H
       clear H
       obtain ⟨Ao31, co31, eo31⟩ := Kd.zcq HO_8.out
       subst eo31
       have hnb32 := NB192_193.out
       have hnc32 := NB193_192.out
       have hcz33_0 : wr.cell? ⟨gb192, 0, none⟩ = some (.slice A0_0 l0_0.length c0_0) := (zaj BK192.out 0).trans rfl
       have hcz33_1 : wr.cell? ⟨gb192, 1, none⟩ = some (.slice A0_1 l0_1.length c0_1) := (zaj BK192.out 1).trans rfl
       have hfz33_0 := zak BK192.out 0
       have hfz33_1 := zak BK192.out 1
       go_upto_if 64 with (fail)
       go_cut [] (fun wc => ∃ (kq : Nat) (x194000_29 : Int) (x194001_29 : Int) (x194002_29 : Int), zaa (zal.j3 kq a1 a2 t195 x9_2 ji29 l0_0 l0_1 = some (r1, r2, r3, r4)) ∧ zaa (kq ≤ k2) ∧ zaa (Kd.N (Kd.slice 62 k62) 54 wc w.heap.size (fun k_ => k_ ≠ gb192 ∧ k_ ≠ gb193) (.slice Ao31 t195.length co31) t195) ∧ zaa (wc.heap[gb192]? = some (.cells #[(.slice A0_0 l0_0.length c0_0), (.slice A0_1 l0_1.length c0_1)] 41 (0, 0))) ∧ zaa (wc.heap[gb193]? = some (.cells #[.int .i64 x194000_29, .int .i64 x194001_29, .int .i64 x194002_29] 43 (0, 0))) ∧ zaa (Below w.heap.size w wc))
       case first =>
        have H := HC30.out
        clear HC30
        by_cases c34 : x9_2 < (l0_0.length : Int)
        ·rw [if_pos c34] at H
         have c34b0 : decide (x9_2 < (l0_0.length : Int)) = true := decide_eq_true c34
         clear c34
         (first | rw [c34b0] | (simp only [zaC, zaD]; rw [c34b0]) | skip)
         by_cases c35 : 0 ≤ x9_2
         ·rw [if_pos c35] at H
          have c35b0 : decide (0 ≤ x9_2) = true := decide_eq_true c35
          clear c35
          replace H := Option.bind_eq_some_iff.mp H
          obtain ⟨t199, A360, H⟩ := H
          replace H : (zal.l1 k2 a1 a2 t195 x9_2 ji29 t199 0 l0_0 l0_1) = some (r1, r2, r3, r4) := H
          have A36 := zaa.mk A360
          clear A360
          have H' := zaa.mk H
          clear H
          have hnb37 := NB192_193.out
          have hnc37 := NB193_192.out
          have hcz38_0 : wr.cell? ⟨gb192, 0, none⟩ = some (.slice A0_0 l0_0.length c0_0) := (zaj BK192.out 0).trans rfl
          have hcz38_1 : wr.cell? ⟨gb192, 1, none⟩ = some (.slice A0_1 l0_1.length c0_1) := (zaj BK192.out 1).trans rfl
          have hfz38_0 := zak BK192.out 0
          have hfz38_1 := zak BK192.out 1
          have p198 : 0 ≤ (x9_2 : Int) := of_decide_eq_true (by first | (with_reducible assumption) | assumption)
          have q198 : x9_2 < (l0_0.length : Int) := of_decide_eq_true (by first | (with_reducible assumption) | assumption)
          obtain ⟨ad198, A198_1, c198_1, e198, hx198_0, hx198_1, hl198_1, hi198_1⟩ := zc1 HR0_0.out x9_2 p198 q198
          cases e198
          replace hx198_0 := (HB.out.cell (World.block_lt_of_cell? w _ hx198_0)).trans hx198_0
          replace hx198_1 := (HB.out.cell (World.block_lt_of_cell? w _ hx198_1)).trans hx198_1
          have HR198_1 := zaa.mk hi198_1
          have HC198_1 := zaa.mk hl198_1
          clear hi198_1 hl198_1
          replace p198 := eq_true p198
          replace q198 := eq_true q198
          go_wp2_with (first | ((with_reducible refine zaI (f := 36) rfl ?_); refine za5 (some 71) rfl rfl Tryd.func36 (by kernel_rfl) rfl #[.string ((zbg l0_0 x9_2).f0)] rfl (by (try simp only [List.map_toArray, List.map_cons, List.map_nil]); first | done | rfl | (simp only [List.length_drop, List.length_take]; rfl)) ?_; (with_reducible refine (zbT.calls ((zbg l0_0 x9_2).f0) t199 _ A36.out).mono ?_); rintro e w39 ⟨rfl, hb⟩; refine ⟨_, rfl, ?_⟩; have n0_ := zaa.mk (Kd.zcI (by (with_reducible repeat (first | apply Kd.zbs | apply Kd.zbu | apply Kd.zbr)); exact HO_8.out) hb); have n1_ := zaa.mk (zaM (g := gb192) (o := .cells #[.slice (some ad198) l0_0.length c0_0, .slice A0_1 l0_1.length c0_1] 41 (0, 0)) (by (with_reducible repeat (first | refine zaf ?_ _ | refine zai ?_ | refine zae ?_ _)); exact BK192.out) hb); have n2_ := zaa.mk (zaM (g := gb193) (o := .cells #[.int .i64 x194000_2, .int .i64 x194001_2, .int .i64 x194002_2] 43 (0, 0)) (by (with_reducible repeat (first | refine zaf ?_ _ | refine zai ?_ | refine zae ?_ _)); exact BK193.out) hb); have n3_ := zaa.mk (zat (by repeat (first | (with_reducible first | exact HB.out | apply zac | apply zab | apply zad | refine zah ?_ GE192.out | refine zah ?_ GE193.out) | exact HB.out)) hb); clear HO_8; clear BK192; clear BK193; clear HB; have HO_8 := n0_; have BK192 := n1_; have BK193 := n2_; have HB := n3_; clear n0_ n1_ n2_ n3_; (try clear hb); (try clear hb2); (try clear hk); (try clear hi)))
          go_loopg [11, 12] k2 (fun kq v11 v12 w' => ∃ (x11_3 : Bool) (x12_3 : Int), v11 = .bool x11_3 ∧ v12 = .int .i64 x12_3 ∧ zaa (zal.l1 kq a1 a2 t195 x9_2 ji29 x11_3 x12_3 l0_0 l0_1 = some (r1, r2, r3, r4)) ∧ zaa (kq ≤ k2) ∧ zaa (Kd.N (Kd.slice 62 k62) 54 w' w.heap.size (fun k_ => k_ ≠ gb192 ∧ k_ ≠ gb193) (.slice Ao31 t195.length co31) t195) ∧ zaa (w'.heap[gb192]? = some (.cells #[(.slice (some ad198) l0_0.length c0_0), (.slice A0_1 l0_1.length c0_1)] 41 (0, 0))) ∧ zaa (w'.heap[gb193]? = some (.cells #[.int .i64 x194000_2, .int .i64 x194001_2, .int .i64 x194002_2] 43 (0, 0))) ∧ zaa (Below w.heap.size w w'))
          case atStart => exact ⟨(t199), (0), (by first | rfl | (simp; done) | (simp [*]; done)), (by first | rfl | (simp; done) | (simp [*]; done)), H', ⟨Nat.le_refl _⟩, ⟨by (with_reducible repeat (first | apply Kd.zbs | apply Kd.zbu | apply Kd.zbr)); exact HO_8.out⟩, ⟨by (with_reducible repeat (first | refine zaf ?_ _ | refine zai ?_ | refine zae ?_ _)); exact BK192.out⟩, ⟨by (with_reducible repeat (first | refine zaf ?_ _ | refine zai ?_ | refine zae ?_ _)); exact BK193.out⟩, ⟨by repeat (first | (with_reducible first | exact HB.out | apply zac | apply zab | apply zad | refine zah ?_ GE192.out | refine zah ?_ GE193.out) | exact HB.out)⟩⟩
          case round =>
           clear H'
           try clear c1
           try clear p1
           try clear q1
           try clear hx1
           try clear c2
           try clear p2
           try clear c3
           try clear c7
           try clear c7b0
           try clear c8
           try clear c8b0
           try clear c9
           try clear c9b0
           try clear c10
           try clear c10b0
           try clear c11
           try clear c11b0
           try clear c11b1
           try clear c12
           try clear c12b0
           try clear c12b1
           try clear c13
           try clear c16
           try clear c19
           try clear p19
           try clear q19
           try clear hx19
           try clear c21
           try clear c22
           try clear c25
           try clear c28
           try clear c28b0
           try clear c32
           try clear c34
           try clear c34b0
           try clear c35
           try clear c35b0
           try clear c36
           try clear c37
           try clear hcz14_0
           try clear hcz14_1
           try clear hcz17_0
           try clear hcz17_1
           try clear hcz20_0
           try clear hcz20_1
           try clear hcz23_0
           try clear hcz23_1
           try clear hcz23_2
           try clear hcz26_0
           try clear hcz26_1
           try clear hcz33_0
           try clear hcz33_1
           try clear hcz38_0
           try clear hcz38_1
           try clear hfz14_0
           try clear hfz14_1
           try clear hfz17_0
           try clear hfz17_1
           try clear hfz20_0
           try clear hfz20_1
           try clear hfz23_0
           try clear hfz23_1
           try clear hfz23_2
           try clear hfz26_0
           try clear hfz26_1
           try clear hfz33_0
           try clear hfz33_1
           try clear hfz38_0
           try clear hfz38_1
           try clear hx198_0
           try clear hx198_1
           try clear p198
           try clear p2
           try clear q198
           obtain ⟨x11_3, x12_3, rfl, rfl, HA, HK3, HO_8, BK192, BK193, HB⟩ := hrel
           cases gk with
           | zero => exact absurd HA.out (by simp [zal.l1])
           | succ k3 =>
            have H := HA.out
            clear HA
            simp only [zal.l1] at H
            by_cases c40 : x12_3 < x9_2
            ·rw [if_pos c40] at H
             have c40b0 : decide (x12_3 < x9_2) = true := decide_eq_true c40
             clear c40
             by_cases c41 : x11_3 = true
             ·subst c41
              have H1 : (if 0 ≤ x12_3 then (if x12_3 < (l0_0.length : Int) then (if 0 ≤ x9_2 then (if x9_2 < (l0_0.length : Int) then (zal.l1 k3 a1 a2 t195 x9_2 ji29 (((zbg l0_0 x12_3).f0).toList != ((zbg l0_0 x9_2).f0).toList) (wrap64 (x12_3 + 1)) l0_0 l0_1) else (none)) else (none)) else (none)) else (none)) = some (r1, r2, r3, r4) := by rw [if_pos rfl] at H; exact H
              clear H
              have H := H1
              clear H1
              by_cases c42 : 0 ≤ x12_3
              ·rw [if_pos c42] at H
               have c42b0 : decide (0 ≤ x12_3) = true := decide_eq_true c42
               clear c42
               by_cases c43 : x12_3 < (l0_0.length : Int)
               ·rw [if_pos c43] at H
                have c43b0 : decide (x12_3 < (l0_0.length : Int)) = true := decide_eq_true c43
                clear c43
                by_cases c44 : 0 ≤ x9_2
                ·rw [if_pos c44] at H
                 have c44b0 : decide (0 ≤ x9_2) = true := decide_eq_true c44
                 clear c44
                 by_cases c45 : x9_2 < (l0_0.length : Int)
                 ·rw [if_pos c45] at H
                  have c45b0 : decide (x9_2 < (l0_0.length : Int)) = true := decide_eq_true c45
                  clear c45
                  have H' := zaa.mk H
                  clear H
                  try go_wp2
                  have n0_ := zaa.mk (Kd.zbr HO_8.out)
                  have n1_ := zaa.mk (zai BK192.out)
                  have n2_ := zaa.mk (zai BK193.out)
                  have n3_ := zaa.mk (zad HB.out)
                  clear HO_8
                  clear BK192
                  clear BK193
                  clear HB
                  have HO_8 := n0_
                  have BK192 := n1_
                  have BK193 := n2_
                  have HB := n3_
                  clear n0_ n1_ n2_ n3_
                  have p200 : 0 ≤ (x12_3 : Int) := of_decide_eq_true (by first | (with_reducible assumption) | assumption)
                  have q200 : x12_3 < (l0_0.length : Int) := of_decide_eq_true (by first | (with_reducible assumption) | assumption)
                  obtain ⟨ad200, A200_1, c200_1, e200, hx200_0, hx200_1, hl200_1, hi200_1⟩ := zc1 HR0_0.out x12_3 p200 q200
                  have hw200_1 := hx200_1
                  have hw200_0 := hx200_0
                  obtain rfl : ad198 = ad200 := (by injection e200)
                  replace hx200_0 := (HB.out.cell (World.block_lt_of_cell? w _ hx200_0)).trans hx200_0
                  replace hx200_1 := (HB.out.cell (World.block_lt_of_cell? w _ hx200_1)).trans hx200_1
                  have HR200_1 := zaa.mk hi200_1
                  have HC200_1 := zaa.mk hl200_1
                  clear hi200_1 hl200_1
                  replace p200 := eq_true p200
                  replace q200 := eq_true q200
                  have p201 : 0 ≤ (x9_2 : Int) := of_decide_eq_true (by first | (with_reducible assumption) | assumption)
                  have q201 : x9_2 < (l0_0.length : Int) := of_decide_eq_true (by first | (with_reducible assumption) | assumption)
                  obtain ⟨ad201, A201_1, c201_1, e201, hx201_0, hx201_1, hl201_1, hi201_1⟩ := zc1 HR0_0.out x9_2 p201 q201
                  have hw201_1 := hx201_1
                  have hw201_0 := hx201_0
                  obtain rfl : ad198 = ad201 := (by injection e201)
                  replace hx201_0 := (HB.out.cell (World.block_lt_of_cell? w _ hx201_0)).trans hx201_0
                  replace hx201_1 := (HB.out.cell (World.block_lt_of_cell? w _ hx201_1)).trans hx201_1
                  have HR201_1 := zaa.mk hi201_1
                  have HC201_1 := zaa.mk hl201_1
                  clear hi201_1 hl201_1
                  replace p201 := eq_true p201
                  replace q201 := eq_true q201
                  refine zdq (n := 17) (S := fun w' => w'.cell? ⟨gb192, 0, none⟩ = some (.slice (some ad198) l0_0.length c0_0) ∧ w'.cell? ⟨gb192, 1, none⟩ = some (.slice A0_1 l0_1.length c0_1) ∧ w'.cell? (ad198.add ((x12_3).toNat * 2)) = some (.string ((zbg l0_0 x12_3).f0)) ∧ w'.cell? ⟨(ad198.add ((x12_3).toNat * 2)).block, (ad198.add ((x12_3).toNat * 2)).off + 1, none⟩ = some (.slice A200_1 ((zbg l0_0 x12_3).f1).length c200_1) ∧ w'.cell? (ad198.add ((x9_2).toNat * 2)) = some (.string ((zbg l0_0 x9_2).f0)) ∧ w'.cell? ⟨(ad198.add ((x9_2).toNat * 2)).block, (ad198.add ((x9_2).toNat * 2)).off + 1, none⟩ = some (.slice A201_1 ((zbg l0_0 x9_2).f1).length c201_1)) (ds := []) #[false, false, false, false, false, false, false, false, false, false, false, false, false, false, false, false, false] (by kernel_rfl) rfl rfl ⟨(zaj BK192.out 0).trans rfl, (zaj BK192.out 1).trans rfl, ((HB.out.cell (World.block_lt_of_cell? w _ hw200_0)).trans hw200_0), ((HB.out.cell (World.block_lt_of_cell? w _ hw200_1)).trans hw200_1), ((HB.out.cell (World.block_lt_of_cell? w _ hw201_0)).trans hw201_0), ((HB.out.cell (World.block_lt_of_cell? w _ hw201_1)).trans hw201_1)⟩ (fun hHeld => ?_); refine zcF zal.zkh zal.ziX (fun HT_ HW_ => ?_)
                  generalize wr.drew = w46 at HO_8 BK192 BK193 HB HR200_1 HR201_1 hx200_0 hx200_1 hx201_0 hx201_1 hHeld ⊢
                  refine zaR (i := 0) (N := some 77) (v := ?_) (a' := ?_) #[true, false, false, false, false, false, false, false, false, false, false, false, false, false, false, false, false] rfl rfl (zaL HT_.out (by kernel_rfl)) (fun _ _ _ h => h) (Or.inl ⟨by rfl, ?_⟩) ?_ ?_
                  rotate_left
                  ·intro w'
                   go_simp
                   with_reducible rfl
                  rotate_left
                  ·simp only [Act.put, List.setIfInBounds_toArray, List.set_cons_zero, List.set_cons_succ, zaC, zaD]
                   rfl
                  refine zaR (i := 1) (N := some 78) (v := ?_) (a' := ?_) #[true, true, false, false, false, false, false, false, false, false, false, false, false, false, false, false, false] rfl rfl (zaL HT_.out (by kernel_rfl)) (fun _ _ _ h => h) (Or.inl ⟨by rfl, ?_⟩) ?_ ?_
                  rotate_left
                  ·intro w'
                   go_simp
                   with_reducible rfl
                  rotate_left
                  ·simp only [Act.put, List.setIfInBounds_toArray, List.set_cons_zero, List.set_cons_succ, zaC, zaD]
                   rfl
                  refine zaR (i := 2) (N := some 79) (v := ?_) (a' := ?_) #[true, true, true, false, false, false, false, false, false, false, false, false, false, false, false, false, false] rfl rfl (zaL HT_.out (by kernel_rfl)) (fun _ _ _ h => h) (Or.inl ⟨by rfl, ?_⟩) ?_ ?_
                  rotate_left
                  ·intro w'
                   go_simp
                   with_reducible rfl
                  rotate_left
                  ·simp only [Act.put, List.setIfInBounds_toArray, List.set_cons_zero, List.set_cons_succ, zaC, zaD]
                   rfl
                  refine zaR (i := 4) (N := some 81) (v := ?_) (a' := ?_) #[true, true, true, false, true, false, false, false, false, false, false, false, false, false, false, false, false] rfl rfl (zaL HT_.out (by kernel_rfl)) (fun _ _ _ h => h) (Or.inl ⟨by rfl, ?_⟩) ?_ ?_
                  rotate_left
                  ·intro w'
                   go_simp
                   with_reducible rfl
                  rotate_left
                  ·simp only [Act.put, List.setIfInBounds_toArray, List.set_cons_zero, List.set_cons_succ, zaC, zaD]
                   rfl
                  refine zaR (i := 8) (N := some 85) (v := ?_) (a' := ?_) #[true, true, true, false, true, false, false, false, true, false, false, false, false, false, false, false, false] rfl rfl (zaL HT_.out (by kernel_rfl)) (fun _ _ _ h => h) (Or.inl ⟨by rfl, ?_⟩) ?_ ?_
                  rotate_left
                  ·intro w'
                   go_simp
                   with_reducible rfl
                  rotate_left
                  ·simp only [Act.put, List.setIfInBounds_toArray, List.set_cons_zero, List.set_cons_succ, zaC, zaD]
                   rfl
                  refine zaR (i := 10) (N := some 87) (v := ?_) (a' := ?_) #[true, true, true, false, true, false, false, false, true, false, true, false, false, false, false, false, false] rfl rfl (zaL HT_.out (by kernel_rfl)) (fun _ _ _ h => h) (Or.inl ⟨by rfl, ?_⟩) ?_ ?_
                  rotate_left
                  ·intro w'
                   go_simp
                   with_reducible rfl
                  rotate_left
                  ·simp only [Act.put, List.setIfInBounds_toArray, List.set_cons_zero, List.set_cons_succ, zaC, zaD]
                   rfl
                  refine zbW (i := 3) (N := some 80) (v := ?_) (a' := ?_) #[true, true, true, true, true, false, false, false, true, false, true, false, false, false, false, false, false] rfl rfl (zbC HT_.out HW_.out (by kernel_rfl)) (fun _ _ _ h => h) (Or.inl ⟨by rfl, ?_⟩) hHeld ?_ ?_
                  rotate_left
                  ·rintro w' ⟨s0, s1, s2, s3, s4, s5⟩
                   go_simp
                   with_reducible rfl
                  rotate_left
                  ·simp only [Act.put, List.setIfInBounds_toArray, List.set_cons_zero, List.set_cons_succ, zaC, zaD]
                   rfl
                  refine zaR (i := 5) (N := some 82) (v := ?_) (a' := ?_) #[true, true, true, true, true, true, false, false, true, false, true, false, false, false, false, false, false] rfl rfl (zaL HT_.out (by kernel_rfl)) (fun _ _ _ h => h) (Or.inl ⟨by rfl, ?_⟩) ?_ ?_
                  rotate_left
                  ·intro w'
                   go_simp
                   with_reducible rfl
                  rotate_left
                  ·simp only [Act.put, List.setIfInBounds_toArray, List.set_cons_zero, List.set_cons_succ, zaC, zaD]
                   rfl
                  refine zaR (i := 6) (N := some 83) (v := ?_) (a' := ?_) #[true, true, true, true, true, true, true, false, true, false, true, false, false, false, false, false, false] rfl rfl (zaL HT_.out (by kernel_rfl)) (fun _ _ _ h => h) (Or.inl ⟨by rfl, ?_⟩) ?_ ?_
                  rotate_left
                  ·intro w'
                   go_simp
                   with_reducible rfl
                  rotate_left
                  ·simp only [Act.put, List.setIfInBounds_toArray, List.set_cons_zero, List.set_cons_succ, zaC, zaD]
                   rfl
                  refine zbW (i := 7) (N := some 84) (v := ?_) (a' := ?_) #[true, true, true, true, true, true, true, true, true, false, true, false, false, false, false, false, false] rfl rfl (zbC HT_.out HW_.out (by kernel_rfl)) (fun _ _ _ h => h) (Or.inl ⟨by rfl, ?_⟩) hHeld ?_ ?_
                  rotate_left
                  ·rintro w' ⟨s0, s1, s2, s3, s4, s5⟩
                   go_simp
                   with_reducible rfl
                  rotate_left
                  ·simp only [Act.put, List.setIfInBounds_toArray, List.set_cons_zero, List.set_cons_succ, zaC, zaD]
                   rfl
                  refine zbW (i := 9) (N := some 86) (v := ?_) (a' := ?_) #[true, true, true, true, true, true, true, true, true, true, true, false, false, false, false, false, false] rfl rfl (zbC HT_.out HW_.out (by kernel_rfl)) (fun _ _ _ h => h) (Or.inl ⟨by rfl, ?_⟩) hHeld ?_ ?_
                  rotate_left
                  ·rintro w' ⟨s0, s1, s2, s3, s4, s5⟩
                   go_simp
                   with_reducible rfl
                  rotate_left
                  ·simp only [Act.put, List.setIfInBounds_toArray, List.set_cons_zero, List.set_cons_succ, zaC, zaD]
                   rfl
                  refine zaR (i := 11) (N := some 88) (v := ?_) (a' := ?_) #[true, true, true, true, true, true, true, true, true, true, true, true, false, false, false, false, false] rfl rfl (zaL HT_.out (by kernel_rfl)) (fun _ _ _ h => h) (Or.inl ⟨by rfl, ?_⟩) ?_ ?_
                  rotate_left
                  ·intro w'
                   go_simp
                   with_reducible rfl
                  rotate_left
                  ·simp only [Act.put, List.setIfInBounds_toArray, List.set_cons_zero, List.set_cons_succ, zaC, zaD]
                   rfl
                  refine zaR (i := 12) (N := some 89) (v := ?_) (a' := ?_) #[true, true, true, true, true, true, true, true, true, true, true, true, true, false, false, false, false] rfl rfl (zaL HT_.out (by kernel_rfl)) (fun _ _ _ h => h) (Or.inl ⟨by rfl, ?_⟩) ?_ ?_
                  rotate_left
                  ·intro w'
                   go_simp
                   with_reducible rfl
                  rotate_left
                  ·simp only [Act.put, List.setIfInBounds_toArray, List.set_cons_zero, List.set_cons_succ, zaC, zaD]
                   rfl
                  refine zbW (i := 13) (N := some 90) (v := ?_) (a' := ?_) #[true, true, true, true, true, true, true, true, true, true, true, true, true, true, false, false, false] rfl rfl (zbC HT_.out HW_.out (by kernel_rfl)) (fun _ _ _ h => h) (Or.inl ⟨by rfl, ?_⟩) hHeld ?_ ?_
                  rotate_left
                  ·rintro w' ⟨s0, s1, s2, s3, s4, s5⟩
                   go_simp
                   with_reducible rfl
                  rotate_left
                  ·simp only [Act.put, List.setIfInBounds_toArray, List.set_cons_zero, List.set_cons_succ, zaC, zaD]
                   rfl
                  refine zaR (i := 14) (N := some 91) (v := ?_) (a' := ?_) #[true, true, true, true, true, true, true, true, true, true, true, true, true, true, true, false, false] rfl rfl (zaL HT_.out (by kernel_rfl)) (fun _ _ _ h => h) (Or.inl ⟨by rfl, ?_⟩) ?_ ?_
                  rotate_left
                  ·intro w'
                   go_simp
                   with_reducible rfl
                  rotate_left
                  ·simp only [Act.put, List.setIfInBounds_toArray, List.set_cons_zero, List.set_cons_succ, zaC, zaD]
                   rfl
                  refine zaR (i := 15) (N := some 92) (v := ?_) (a' := ?_) #[true, true, true, true, true, true, true, true, true, true, true, true, true, true, true, true, false] rfl rfl (zaL HT_.out (by kernel_rfl)) (fun _ _ _ h => h) (Or.inl ⟨by rfl, ?_⟩) ?_ ?_
                  rotate_left
                  ·intro w'
                   go_simp
                   with_reducible rfl
                  rotate_left
                  ·simp only [Act.put, List.setIfInBounds_toArray, List.set_cons_zero, List.set_cons_succ, zaC, zaD]
                   rfl
                  refine zaR (i := 16) (N := some 11) (v := ?_) (a' := ?_) #[true, true, true, true, true, true, true, true, true, true, true, true, true, true, true, true, true] rfl rfl (zaL HT_.out (by kernel_rfl)) (fun _ _ _ h => h) (Or.inl ⟨by rfl, ?_⟩) ?_ ?_
                  rotate_left
                  ·intro w'
                   go_simp
                   with_reducible rfl
                  rotate_left
                  ·simp only [Act.put, List.setIfInBounds_toArray, List.set_cons_zero, List.set_cons_succ, zaC, zaD]
                   rfl
                  refine zdM (zde HT_.out (by kernel_rfl)) ?_
                  try go_wp2
                  go_roundg k3
                  case measure => have := HJ3.out; have := HK2.out; have := HK3.out; omega
                  case rel => exact ⟨((((zbg l0_0 x12_3).f0).toList != ((zbg l0_0 x9_2).f0).toList)), (wrap64 (x12_3 + 1)), (by first | rfl | (simp; done) | (simp [*]; done)), (by first | rfl | (simp; done) | (simp [*]; done)), H', ⟨by have := HJ3.out; have := HK2.out; have := HK3.out; omega⟩, ⟨by (with_reducible repeat (first | apply Kd.zbs | apply Kd.zbu | apply Kd.zbr)); exact HO_8.out⟩, ⟨by (with_reducible repeat (first | refine zaf ?_ _ | refine zai ?_ | refine zae ?_ _)); exact BK192.out⟩, ⟨by (with_reducible repeat (first | refine zaf ?_ _ | refine zai ?_ | refine zae ?_ _)); exact BK193.out⟩, ⟨by repeat (first | (with_reducible first | exact HB.out | apply zac | apply zab | apply zad | refine zah ?_ GE192.out | refine zah ?_ GE193.out) | exact HB.out)⟩⟩
                 ·rw [if_neg c45] at H
                  exact absurd H (by simp)
                ·rw [if_neg c44] at H
                 exact absurd H (by simp)
               ·rw [if_neg c43] at H
                exact absurd H (by simp)
              ·rw [if_neg c42] at H
               exact absurd H (by simp)
             ·replace c41 := Bool.eq_false_iff.mpr c41
              subst c41
              have H1 : (zal.l1 k3 a1 a2 t195 x9_2 ji29 false (wrap64 (x12_3 + 1)) l0_0 l0_1) = some (r1, r2, r3, r4) := by rw [if_neg (show ¬ (false = true) by decide)] at H; exact H
              clear H
              have H := H1
              clear H1
              have H' := zaa.mk H
              clear H
              try go_wp2
              have n0_ := zaa.mk (Kd.zbr HO_8.out)
              have n1_ := zaa.mk (zai BK192.out)
              have n2_ := zaa.mk (zai BK193.out)
              have n3_ := zaa.mk (zad HB.out)
              clear HO_8
              clear BK192
              clear BK193
              clear HB
              have HO_8 := n0_
              have BK192 := n1_
              have BK193 := n2_
              have HB := n3_
              clear n0_ n1_ n2_ n3_
              refine zdq (n := 17) (S := fun w' => True) (ds := []) #[false, false, false, false, false, false, false, false, false, false, false, false, false, false, false, false, false] (by kernel_rfl) rfl rfl trivial (fun hHeld => ?_); refine zcF zal.zkh zal.ziX (fun HT_ HW_ => ?_)
              generalize wr.drew = w47 at HO_8 BK192 BK193 HB hHeld ⊢
              refine zaR (i := 0) (N := some 77) (v := ?_) (a' := ?_) #[true, false, false, false, false, false, false, false, false, false, false, false, false, false, false, false, false] rfl rfl (zaL HT_.out (by kernel_rfl)) (fun _ _ _ h => h) (Or.inl ⟨by rfl, ?_⟩) ?_ ?_
              rotate_left
              ·intro w'
               go_simp
               with_reducible rfl
              rotate_left
              ·simp only [Act.put, List.setIfInBounds_toArray, List.set_cons_zero, List.set_cons_succ, zaC, zaD]
               rfl
              refine zaR (i := 1) (N := some 78) (v := ?_) (a' := ?_) #[true, true, false, false, false, false, false, false, false, false, false, false, false, false, false, false, false] rfl rfl (zaL HT_.out (by kernel_rfl)) (fun _ _ _ h => h) (Or.inl ⟨by rfl, ?_⟩) ?_ ?_
              rotate_left
              ·intro w'
               go_simp
               with_reducible rfl
              rotate_left
              ·simp only [Act.put, List.setIfInBounds_toArray, List.set_cons_zero, List.set_cons_succ, zaC, zaD]
               rfl
              refine zaR (i := 2) (N := some 79) (v := undef) (a' := ?_) #[true, true, true, false, false, false, false, false, false, false, false, false, false, false, false, false, false] rfl rfl (zaL HT_.out (by kernel_rfl)) (fun _ _ _ h => h) (Or.inr ⟨by rfl, rfl⟩) ?_ ?_
              rotate_left
              ·simp only [Act.put, List.setIfInBounds_toArray, List.set_cons_zero, List.set_cons_succ, zaC, zaD]
               rfl
              refine zaR (i := 3) (N := some 80) (v := undef) (a' := ?_) #[true, true, true, true, false, false, false, false, false, false, false, false, false, false, false, false, false] rfl rfl (zaL HT_.out (by kernel_rfl)) (fun _ _ _ h => h) (Or.inr ⟨by rfl, rfl⟩) ?_ ?_
              rotate_left
              ·simp only [Act.put, List.setIfInBounds_toArray, List.set_cons_zero, List.set_cons_succ, zaC, zaD]
               rfl
              refine zaR (i := 4) (N := some 81) (v := undef) (a' := ?_) #[true, true, true, true, true, false, false, false, false, false, false, false, false, false, false, false, false] rfl rfl (zaL HT_.out (by kernel_rfl)) (fun _ _ _ h => h) (Or.inr ⟨by rfl, rfl⟩) ?_ ?_
              rotate_left
              ·simp only [Act.put, List.setIfInBounds_toArray, List.set_cons_zero, List.set_cons_succ, zaC, zaD]
               rfl
              refine zaR (i := 5) (N := some 82) (v := undef) (a' := ?_) #[true, true, true, true, true, true, false, false, false, false, false, false, false, false, false, false, false] rfl rfl (zaL HT_.out (by kernel_rfl)) (fun _ _ _ h => h) (Or.inr ⟨by rfl, rfl⟩) ?_ ?_
              rotate_left
              ·simp only [Act.put, List.setIfInBounds_toArray, List.set_cons_zero, List.set_cons_succ, zaC, zaD]
               rfl
              refine zaR (i := 6) (N := some 83) (v := undef) (a' := ?_) #[true, true, true, true, true, true, true, false, false, false, false, false, false, false, false, false, false] rfl rfl (zaL HT_.out (by kernel_rfl)) (fun _ _ _ h => h) (Or.inr ⟨by rfl, rfl⟩) ?_ ?_
              rotate_left
              ·simp only [Act.put, List.setIfInBounds_toArray, List.set_cons_zero, List.set_cons_succ, zaC, zaD]
               rfl
              refine zaR (i := 7) (N := some 84) (v := undef) (a' := ?_) #[true, true, true, true, true, true, true, true, false, false, false, false, false, false, false, false, false] rfl rfl (zaL HT_.out (by kernel_rfl)) (fun _ _ _ h => h) (Or.inr ⟨by rfl, rfl⟩) ?_ ?_
              rotate_left
              ·simp only [Act.put, List.setIfInBounds_toArray, List.set_cons_zero, List.set_cons_succ, zaC, zaD]
               rfl
              refine zaR (i := 8) (N := some 85) (v := undef) (a' := ?_) #[true, true, true, true, true, true, true, true, true, false, false, false, false, false, false, false, false] rfl rfl (zaL HT_.out (by kernel_rfl)) (fun _ _ _ h => h) (Or.inr ⟨by rfl, rfl⟩) ?_ ?_
              rotate_left
              ·simp only [Act.put, List.setIfInBounds_toArray, List.set_cons_zero, List.set_cons_succ, zaC, zaD]
               rfl
              refine zaR (i := 9) (N := some 86) (v := undef) (a' := ?_) #[true, true, true, true, true, true, true, true, true, true, false, false, false, false, false, false, false] rfl rfl (zaL HT_.out (by kernel_rfl)) (fun _ _ _ h => h) (Or.inr ⟨by rfl, rfl⟩) ?_ ?_
              rotate_left
              ·simp only [Act.put, List.setIfInBounds_toArray, List.set_cons_zero, List.set_cons_succ, zaC, zaD]
               rfl
              refine zaR (i := 10) (N := some 87) (v := undef) (a' := ?_) #[true, true, true, true, true, true, true, true, true, true, true, false, false, false, false, false, false] rfl rfl (zaL HT_.out (by kernel_rfl)) (fun _ _ _ h => h) (Or.inr ⟨by rfl, rfl⟩) ?_ ?_
              rotate_left
              ·simp only [Act.put, List.setIfInBounds_toArray, List.set_cons_zero, List.set_cons_succ, zaC, zaD]
               rfl
              refine zaR (i := 11) (N := some 88) (v := undef) (a' := ?_) #[true, true, true, true, true, true, true, true, true, true, true, true, false, false, false, false, false] rfl rfl (zaL HT_.out (by kernel_rfl)) (fun _ _ _ h => h) (Or.inr ⟨by rfl, rfl⟩) ?_ ?_
              rotate_left
              ·simp only [Act.put, List.setIfInBounds_toArray, List.set_cons_zero, List.set_cons_succ, zaC, zaD]
               rfl
              refine zaR (i := 12) (N := some 89) (v := undef) (a' := ?_) #[true, true, true, true, true, true, true, true, true, true, true, true, true, false, false, false, false] rfl rfl (zaL HT_.out (by kernel_rfl)) (fun _ _ _ h => h) (Or.inr ⟨by rfl, rfl⟩) ?_ ?_
              rotate_left
              ·simp only [Act.put, List.setIfInBounds_toArray, List.set_cons_zero, List.set_cons_succ, zaC, zaD]
               rfl
              refine zaR (i := 13) (N := some 90) (v := undef) (a' := ?_) #[true, true, true, true, true, true, true, true, true, true, true, true, true, true, false, false, false] rfl rfl (zaL HT_.out (by kernel_rfl)) (fun _ _ _ h => h) (Or.inr ⟨by rfl, rfl⟩) ?_ ?_
              rotate_left
              ·simp only [Act.put, List.setIfInBounds_toArray, List.set_cons_zero, List.set_cons_succ, zaC, zaD]
               rfl
              refine zaR (i := 14) (N := some 91) (v := undef) (a' := ?_) #[true, true, true, true, true, true, true, true, true, true, true, true, true, true, true, false, false] rfl rfl (zaL HT_.out (by kernel_rfl)) (fun _ _ _ h => h) (Or.inr ⟨by rfl, rfl⟩) ?_ ?_
              rotate_left
              ·simp only [Act.put, List.setIfInBounds_toArray, List.set_cons_zero, List.set_cons_succ, zaC, zaD]
               rfl
              refine zaR (i := 15) (N := some 92) (v := ?_) (a' := ?_) #[true, true, true, true, true, true, true, true, true, true, true, true, true, true, true, true, false] rfl rfl (zaL HT_.out (by kernel_rfl)) (fun _ _ _ h => h) (Or.inl ⟨by rfl, ?_⟩) ?_ ?_
              rotate_left
              ·intro w'
               go_simp
               with_reducible rfl
              rotate_left
              ·simp only [Act.put, List.setIfInBounds_toArray, List.set_cons_zero, List.set_cons_succ, zaC, zaD]
               rfl
              refine zaR (i := 16) (N := some 11) (v := ?_) (a' := ?_) #[true, true, true, true, true, true, true, true, true, true, true, true, true, true, true, true, true] rfl rfl (zaL HT_.out (by kernel_rfl)) (fun _ _ _ h => h) (Or.inl ⟨by rfl, ?_⟩) ?_ ?_
              rotate_left
              ·intro w'
               go_simp
               with_reducible rfl
              rotate_left
              ·simp only [Act.put, List.setIfInBounds_toArray, List.set_cons_zero, List.set_cons_succ, zaC, zaD]
               rfl
              refine zdM (zde HT_.out (by kernel_rfl)) ?_
              try go_wp2
              go_roundg k3
              case measure => have := HJ3.out; have := HK2.out; have := HK3.out; omega
              case rel => exact ⟨(false), (wrap64 (x12_3 + 1)), (by first | rfl | (simp; done) | (simp [*]; done)), (by first | rfl | (simp; done) | (simp [*]; done)), H', ⟨by have := HJ3.out; have := HK2.out; have := HK3.out; omega⟩, ⟨by (with_reducible repeat (first | apply Kd.zbs | apply Kd.zbu | apply Kd.zbr)); exact HO_8.out⟩, ⟨by (with_reducible repeat (first | refine zaf ?_ _ | refine zai ?_ | refine zae ?_ _)); exact BK192.out⟩, ⟨by (with_reducible repeat (first | refine zaf ?_ _ | refine zai ?_ | refine zae ?_ _)); exact BK193.out⟩, ⟨by repeat (first | (with_reducible first | exact HB.out | apply zac | apply zab | apply zad | refine zah ?_ GE192.out | refine zah ?_ GE193.out) | exact HB.out)⟩⟩
            ·rw [if_neg c40] at H
             have c40b0 : decide (x12_3 < x9_2) = false := decide_eq_false c40
             clear c40
             by_cases c48 : x11_3 = true
             ·subst c48
              have H1 : (zal.j3 k3 a1 a2 t195 x9_2 ji29 l0_0 l0_1) = some (r1, r2, r3, r4) := by rw [if_pos rfl] at H; exact H
              clear H
              have H := H1
              clear H1
              have H' := zaa.mk H
              clear H
              go_wp2
              go_meet
              case rel => exact ⟨_, (x194000_2), (x194001_2), (x194002_2), H', ⟨by have := HJ3.out; have := HK2.out; have := HK3.out; first | omega | exact Nat.le_refl _⟩, ⟨by (with_reducible repeat (first | apply Kd.zbs | apply Kd.zbu | apply Kd.zbr)); exact HO_8.out⟩, ⟨by (with_reducible repeat (first | refine zaf ?_ _ | refine zai ?_ | refine zae ?_ _)); exact BK192.out⟩, ⟨by (with_reducible repeat (first | refine zaf ?_ _ | refine zai ?_ | refine zae ?_ _)); exact BK193.out⟩, ⟨by repeat (first | (with_reducible first | exact HB.out | apply zac | apply zab | apply zad | refine zah ?_ GE192.out | refine zah ?_ GE193.out) | exact HB.out)⟩⟩
             ·replace c48 := Bool.eq_false_iff.mpr c48
              subst c48
              have H1 : (some (true, wrap64 (x9_2 + 1), 1, 0)) = some (r1, r2, r3, r4) := by rw [if_neg (show ¬ (false = true) by decide)] at H; exact H
              clear H
              have H := H1
              clear H1
              simp only [Option.some.injEq, Prod.mk.injEq] at H
              obtain ⟨rfl, rfl, rfl, rfl⟩ := H
              have hnb49 := NB193_192.out
              have hnc49 := NB192_193.out
              have hcz50_0 : wr.cell? ⟨gb193, 0, none⟩ = some (.int .i64 x194000_2) := (zaj BK193.out 0).trans rfl
              have hcz50_1 : wr.cell? ⟨gb193, 1, none⟩ = some (.int .i64 x194001_2) := (zaj BK193.out 1).trans rfl
              have hcz50_2 : wr.cell? ⟨gb193, 2, none⟩ = some (.int .i64 x194002_2) := (zaj BK193.out 2).trans rfl
              have hfz50_0 := zak BK193.out 0
              have hfz50_1 := zak BK193.out 1
              have hfz50_2 := zak BK193.out 2
              go_wp2
              refine bodyPost_ret (zdE rfl _ _ gb193 43 #[.int .i64 (wrap64 (x9_2 + 1)), .int .i64 1, .int .i64 0] (0, 0) _ rfl (by (with_reducible repeat (first | refine zaf ?_ _ | refine zai ?_ | refine zae ?_ _)); refine zaT (cs := #[.int .i64 (wrap64 (x9_2 + 1)), .int .i64 1, .int .i64 x194002_2]) ?_ 2 _ rfl; (with_reducible repeat (first | refine zaf ?_ _ | refine zai ?_ | refine zae ?_ _)); refine zaT (cs := #[.int .i64 (wrap64 (x9_2 + 1)), .int .i64 x194001_2, .int .i64 x194002_2]) ?_ 1 _ rfl; (with_reducible repeat (first | refine zaf ?_ _ | refine zai ?_ | refine zae ?_ _)); refine zaT (cs := #[.int .i64 x194000_2, .int .i64 x194001_2, .int .i64 x194002_2]) ?_ 0 _ rfl; (with_reducible repeat (first | refine zaf ?_ _ | refine zai ?_ | refine zae ?_ _)); exact BK193.out) Tryd.underlying43 rfl (by kernel_rfl)) rfl ?_
              exact ⟨by first | rfl | (simp [zam, zan] <;> rfl) | (simp only [← hji29]; first | rfl | (simp [zam, zan] <;> rfl)) | (simp [*, zam, zan] <;> rfl), by repeat (first | (with_reducible first | exact HB.out | apply zac | apply zab | apply zad | refine zah ?_ GE192.out | refine zah ?_ GE193.out) | exact HB.out)⟩
         ·rw [if_neg c35] at H
          exact absurd H (by simp)
        ·rw [if_neg c34] at H
         have c34b0 : decide (x9_2 < (l0_0.length : Int)) = false := decide_eq_false c34
         clear c34
         (first | rw [c34b0] | (simp only [zaC, zaD]; rw [c34b0]) | skip)
         have H' := zaa.mk H
         clear H
         go_wp2
         go_meet
         case rel => exact ⟨_, (x194000_2), (x194001_2), (x194002_2), H', ⟨by have := HJ3.out; have := HK2.out; first | omega | exact Nat.le_refl _⟩, ⟨by (with_reducible repeat (first | apply Kd.zbs | apply Kd.zbu | apply Kd.zbr)); exact HO_8.out⟩, ⟨by (with_reducible repeat (first | refine zaf ?_ _ | refine zai ?_ | refine zae ?_ _)); exact BK192.out⟩, ⟨by (with_reducible repeat (first | refine zaf ?_ _ | refine zai ?_ | refine zae ?_ _)); exact BK193.out⟩, ⟨by repeat (first | (with_reducible first | exact HB.out | apply zac | apply zab | apply zad | refine zah ?_ GE192.out | refine zah ?_ GE193.out) | exact HB.out)⟩⟩
       case rest =>
        clear HC30
        try clear c1
        try clear p1
        try clear q1
        try clear hx1
        try clear c2
        try clear p2
        try clear q2
        try clear hx2
        try clear c3
        try clear c4
        try clear p6
        try clear c7
        try clear c7b0
        try clear c8
        try clear c8b0
        try clear c9
        try clear c9b0
        try clear c10
        try clear c10b0
        try clear c11
        try clear c11b0
        try clear c11b1
        try clear c12
        try clear c12b0
        try clear c12b1
        try clear c13
        try clear c16
        try clear c19
        try clear p19
        try clear q19
        try clear hx19
        try clear c20
        try clear p20
        try clear q20
        try clear hx20
        try clear c21
        try clear c22
        try clear c25
        try clear c28
        try clear c28b0
        try clear c32
        try clear c34
        try clear c34b0
        try clear c35
        try clear c35b0
        try clear c36
        try clear c37
        try clear c40
        try clear c40b0
        try clear c41
        try clear c42
        try clear c42b0
        try clear c43
        try clear c43b0
        try clear c44
        try clear c44b0
        try clear c45
        try clear c45b0
        try clear c48
        try clear c49
        try clear hcz14_0
        try clear hcz14_1
        try clear hcz17_0
        try clear hcz17_1
        try clear hcz20_0
        try clear hcz20_1
        try clear hcz23_0
        try clear hcz23_1
        try clear hcz23_2
        try clear hcz26_0
        try clear hcz26_1
        try clear hcz33_0
        try clear hcz33_1
        try clear hcz38_0
        try clear hcz38_1
        try clear hcz50_0
        try clear hcz50_1
        try clear hcz50_2
        try clear hfz14_0
        try clear hfz14_1
        try clear hfz17_0
        try clear hfz17_1
        try clear hfz20_0
        try clear hfz20_1
        try clear hfz23_0
        try clear hfz23_1
        try clear hfz23_2
        try clear hfz26_0
        try clear hfz26_1
        try clear hfz33_0
        try clear hfz33_1
        try clear hfz38_0
        try clear hfz38_1
        try clear hfz50_0
        try clear hfz50_1
        try clear hfz50_2
        try clear hx198_0
        try clear hx198_1
        try clear hx200_0
        try clear hx200_1
        try clear hx201_0
        try clear hx201_1
        try clear p1
        try clear p19
        try clear p198
        try clear p2
        try clear p200
        try clear p201
        try clear q1
        try clear q19
        try clear q198
        try clear q200
        try clear q201
        obtain ⟨kq, x194000_29, x194001_29, x194002_29, HA, HJ29, HO_8, BK192, BK193, HB⟩ := hcut
        cases kq with
        | zero => exact absurd HA.out (by simp [zal.j3])
        | succ kj29 =>
         have H := HA.out
         clear HA
         simp only [zal.j3] at H
         by_cases c51 : 0 ≤ x9_2
         ·rw [if_pos c51] at H
          have c51b0 : decide (0 ≤ x9_2) = true := decide_eq_true c51
          clear c51
          by_cases c52 : x9_2 < (t195.length : Int)
          ·rw [if_pos c52] at H
           have c52b0 : decide (x9_2 < (t195.length : Int)) = true := decide_eq_true c52
           clear c52
           replace H := Option.bind_eq_some_iff.mp H
           obtain ⟨t203, A530, H⟩ := H
           replace H : (if t203 ≥ 0 then (some (true, wrap64 (x9_2 + 1), 0, t203)) else ((zaZ.f kj29 (zbH t195 x9_2)).bind fun t205 => (if t205 > 40 then (some (true, wrap64 (x9_2 + 1), 0, ((zbH t195 x9_2).length : Int))) else (zal.l0 kj29 a1 a2 t195 (wrap64 (x9_2 + 1)) l0_0 l0_1)))) = some (r1, r2, r3, r4) := H
           have A53 := zaa.mk A530
           clear A530
           by_cases c54 : t203 ≥ 0
           ·rw [if_pos c54] at H
            have c54b0 : decide (0 ≤ t203) = true := decide_eq_true c54
            clear c54
            simp only [Option.some.injEq, Prod.mk.injEq] at H
            obtain ⟨rfl, rfl, rfl, rfl⟩ := H
            have p202 : 0 ≤ (x9_2 : Int) := of_decide_eq_true (by first | (with_reducible assumption) | assumption)
            have q202 : x9_2 < (t195.length : Int) := of_decide_eq_true (by first | (with_reducible assumption) | assumption)
            obtain ⟨ad202, A202_0, c202_0, e202, hx202_0, hl202_0, hi202_0⟩ := zdS (Kd.zbR HO_8.out).2.2 x9_2 p202 q202
            cases e202
            obtain ⟨ce202, hce202, hMe202, hcc202⟩ := Kd.zeM HO_8.out [] x9_2 p202 (by first | exact q202 | exact of_decide_eq_true (by first | (with_reducible assumption) | assumption) | (have e_ := (Kd.zbR HO_8.out).1; omega))
            obtain ⟨ua202_0, uc202_0, rfl, ul202_0, ge202_0⟩ := Kd.zcm hMe202
            have hv202_0 := hcc202 0 _ rfl
            rw [Nat.add_zero, show ((Kd.slice 62 k62)).sz = 1 from rfl, Nat.mul_one] at hv202_0
            replace hv202_0 := Option.some.inj (hv202_0.symm.trans hx202_0)
            injection hv202_0 with hva_ hvn_ hvc_
            rw [hva_] at ge202_0
            rw [hvc_] at ul202_0
            have HL202_0 := zaa.mk (show Kd.V k62 62 _ w.heap.size _ _ (zbH t195 x9_2) from Kd.V_mk ul202_0 ge202_0)
            clear hva_ hvn_ hvc_ ge202_0 ul202_0
            clear hcc202 hce202
            have HR202_0 := zaa.mk hi202_0
            have HC202_0 := zaa.mk hl202_0
            clear hi202_0 hl202_0
            replace p202 := eq_true p202
            replace q202 := eq_true q202
            go_wp2_with (first | ((with_reducible refine zaI (f := 34) rfl ?_); refine za5 (some 105) rfl rfl Tryd.func34 (by kernel_rfl) rfl #[.slice A202_0 (zbH t195 x9_2).length c202_0, .int .i64 a1, .int .i64 a2, .int .i64 ji29] rfl (by (try simp only [List.map_toArray, List.map_cons, List.map_nil]); first | done | (simp only [hji29]; rfl) | rfl | (simp only [List.length_drop, List.length_take]; rfl)) ?_; (with_reducible refine (zaA.calls kj29 _ _ (zbH t195 x9_2) a1 a2 ji29 t203 _ ?side1 ?side2 A53.out).mono ?_); (case side1 => repeat (first | exact (by repeat (first | (with_reducible exact HR202_0.out) | (with_reducible refine Kd.zaU ?_ _) | (with_reducible refine Kd.zaY ?_ _) | (with_reducible refine Kd.za3 ?_) | exact HR202_0.out)) | (with_reducible refine Kd.zaU ?_ _) | (with_reducible refine Kd.zaY ?_ _) | (with_reducible refine Kd.za3 ?_))); (case side2 => exact HC202_0.out); rintro e w55 ⟨rfl, hb⟩; refine ⟨_, rfl, ?_⟩; have n0_ := zaa.mk (Kd.zcI (by (with_reducible repeat (first | apply Kd.zbs | apply Kd.zbu | apply Kd.zbr)); exact HO_8.out) hb); have n1_ := zaa.mk (Kd.zct (by (with_reducible repeat (first | apply Kd.zbb | apply Kd.zbc | apply Kd.zbf)); exact HL202_0.out) hb); have n2_ := zaa.mk (zaM (g := gb192) (o := .cells #[.slice A0_0 l0_0.length c0_0, .slice A0_1 l0_1.length c0_1] 41 (0, 0)) (by (with_reducible repeat (first | refine zaf ?_ _ | refine zai ?_ | refine zae ?_ _)); exact BK192.out) hb); have n3_ := zaa.mk (zaM (g := gb193) (o := .cells #[.int .i64 x194000_29, .int .i64 x194001_29, .int .i64 x194002_29] 43 (0, 0)) (by (with_reducible repeat (first | refine zaf ?_ _ | refine zai ?_ | refine zae ?_ _)); exact BK193.out) hb); have n4_ := zaa.mk (Kd.za1 (by repeat (first | (with_reducible exact HR202_0.out) | (with_reducible refine Kd.zaU ?_ _) | (with_reducible refine Kd.zaY ?_ _) | (with_reducible refine Kd.za3 ?_) | exact HR202_0.out)) hb); have n5_ := zaa.mk (zat (by repeat (first | (with_reducible first | exact HB.out | apply zac | apply zab | apply zad | refine zah ?_ GE192.out | refine zah ?_ GE193.out) | exact HB.out)) hb); clear HO_8; clear HL202_0; clear BK192; clear BK193; clear HR202_0; clear HB; have HO_8 := n0_; have HL202_0 := n1_; have BK192 := n2_; have BK193 := n3_; have HR202_0 := n4_; have HB := n5_; clear n0_ n1_ n2_ n3_ n4_ n5_; (try clear hb); (try clear hb2); (try clear hk); (try clear hi); have hnb56 := NB193_192.out; have hnc56 := NB192_193.out; have hcz57_0 : w55.cell? ⟨gb193, 0, none⟩ = some (.int .i64 x194000_29) := (zaj BK193.out 0).trans rfl; have hcz57_1 : w55.cell? ⟨gb193, 1, none⟩ = some (.int .i64 x194001_29) := (zaj BK193.out 1).trans rfl; have hcz57_2 : w55.cell? ⟨gb193, 2, none⟩ = some (.int .i64 x194002_29) := (zaj BK193.out 2).trans rfl; have hfz57_0 := zak BK193.out 0; have hfz57_1 := zak BK193.out 1; have hfz57_2 := zak BK193.out 2))
            refine bodyPost_ret (zdE rfl _ _ gb193 43 #[.int .i64 (wrap64 (x9_2 + 1)), .int .i64 0, .int .i64 t203] (0, 0) _ rfl (by (with_reducible repeat (first | refine zaf ?_ _ | refine zai ?_ | refine zae ?_ _)); refine zaT (cs := #[.int .i64 (wrap64 (x9_2 + 1)), .int .i64 0, .int .i64 x194002_29]) ?_ 2 _ rfl; (with_reducible repeat (first | refine zaf ?_ _ | refine zai ?_ | refine zae ?_ _)); refine zaT (cs := #[.int .i64 (wrap64 (x9_2 + 1)), .int .i64 x194001_29, .int .i64 x194002_29]) ?_ 1 _ rfl; (with_reducible repeat (first | refine zaf ?_ _ | refine zai ?_ | refine zae ?_ _)); refine zaT (cs := #[.int .i64 x194000_29, .int .i64 x194001_29, .int .i64 x194002_29]) ?_ 0 _ rfl; (with_reducible repeat (first | refine zaf ?_ _ | refine zai ?_ | refine zae ?_ _)); exact BK193.out) Tryd.underlying43 rfl (by kernel_rfl)) rfl ?_
            exact ⟨by first | rfl | (simp [zam, zan] <;> rfl) | (simp only [← hji29]; first | rfl | (simp [zam, zan] <;> rfl)) | (simp [*, zam, zan] <;> rfl), by repeat (first | (with_reducible first | exact HB.out | apply zac | apply zab | apply zad | refine zah ?_ GE192.out | refine zah ?_ GE193.out) | exact HB.out)⟩
           ·rw [if_neg c54] at H
            have c54b0 : decide (0 ≤ t203) = false := decide_eq_false c54
            clear c54
            replace H := Option.bind_eq_some_iff.mp H
            obtain ⟨t205, A580, H⟩ := H
            replace H : (if t205 > 40 then (some (true, wrap64 (x9_2 + 1), 0, ((zbH t195 x9_2).length : Int))) else (zal.l0 kj29 a1 a2 t195 (wrap64 (x9_2 + 1)) l0_0 l0_1)) = some (r1, r2, r3, r4) := H
            have A58 := zaa.mk A580
            clear A580
            by_cases c59 : t205 > 40
            ·rw [if_pos c59] at H
             have c59b0 : decide (40 < t205) = true := decide_eq_true c59
             clear c59
             simp only [Option.some.injEq, Prod.mk.injEq] at H
             obtain ⟨rfl, rfl, rfl, rfl⟩ := H
             have p202 : 0 ≤ (x9_2 : Int) := of_decide_eq_true (by first | (with_reducible assumption) | assumption)
             have q202 : x9_2 < (t195.length : Int) := of_decide_eq_true (by first | (with_reducible assumption) | assumption)
             obtain ⟨ad202, A202_0, c202_0, e202, hx202_0, hl202_0, hi202_0⟩ := zdS (Kd.zbR HO_8.out).2.2 x9_2 p202 q202
             cases e202
             obtain ⟨ce202, hce202, hMe202, hcc202⟩ := Kd.zeM HO_8.out [] x9_2 p202 (by first | exact q202 | exact of_decide_eq_true (by first | (with_reducible assumption) | assumption) | (have e_ := (Kd.zbR HO_8.out).1; omega))
             obtain ⟨ua202_0, uc202_0, rfl, ul202_0, ge202_0⟩ := Kd.zcm hMe202
             have hv202_0 := hcc202 0 _ rfl
             rw [Nat.add_zero, show ((Kd.slice 62 k62)).sz = 1 from rfl, Nat.mul_one] at hv202_0
             replace hv202_0 := Option.some.inj (hv202_0.symm.trans hx202_0)
             injection hv202_0 with hva_ hvn_ hvc_
             rw [hva_] at ge202_0
             rw [hvc_] at ul202_0
             have HL202_0 := zaa.mk (show Kd.V k62 62 _ w.heap.size _ _ (zbH t195 x9_2) from Kd.V_mk ul202_0 ge202_0)
             clear hva_ hvn_ hvc_ ge202_0 ul202_0
             clear hcc202 hce202
             have HR202_0 := zaa.mk hi202_0
             have HC202_0 := zaa.mk hl202_0
             clear hi202_0 hl202_0
             replace p202 := eq_true p202
             replace q202 := eq_true q202
             try go_wp2_with (first | ((with_reducible refine zaI (f := 34) rfl ?_); refine za5 (some 105) rfl rfl Tryd.func34 (by kernel_rfl) rfl #[.slice A202_0 (zbH t195 x9_2).length c202_0, .int .i64 a1, .int .i64 a2, .int .i64 ji29] rfl (by (try simp only [List.map_toArray, List.map_cons, List.map_nil]); first | done | (simp only [hji29]; rfl) | rfl | (simp only [List.length_drop, List.length_take]; rfl)) ?_; (with_reducible refine (zaA.calls kj29 _ _ (zbH t195 x9_2) a1 a2 ji29 t203 _ ?side1 ?side2 A53.out).mono ?_); (case side1 => repeat (first | exact (by repeat (first | (with_reducible exact HR202_0.out) | (with_reducible refine Kd.zaU ?_ _) | (with_reducible refine Kd.zaY ?_ _) | (with_reducible refine Kd.za3 ?_) | exact HR202_0.out)) | (with_reducible refine Kd.zaU ?_ _) | (with_reducible refine Kd.zaY ?_ _) | (with_reducible refine Kd.za3 ?_))); (case side2 => exact HC202_0.out); rintro e w60 ⟨rfl, hb⟩; refine ⟨_, rfl, ?_⟩; have n0_ := zaa.mk (Kd.zcI (by (with_reducible repeat (first | apply Kd.zbs | apply Kd.zbu | apply Kd.zbr)); exact HO_8.out) hb); have n1_ := zaa.mk (Kd.zct (by (with_reducible repeat (first | apply Kd.zbb | apply Kd.zbc | apply Kd.zbf)); exact HL202_0.out) hb); have n2_ := zaa.mk (zaM (g := gb192) (o := .cells #[.slice A0_0 l0_0.length c0_0, .slice A0_1 l0_1.length c0_1] 41 (0, 0)) (by (with_reducible repeat (first | refine zaf ?_ _ | refine zai ?_ | refine zae ?_ _)); exact BK192.out) hb); have n3_ := zaa.mk (zaM (g := gb193) (o := .cells #[.int .i64 x194000_29, .int .i64 x194001_29, .int .i64 x194002_29] 43 (0, 0)) (by (with_reducible repeat (first | refine zaf ?_ _ | refine zai ?_ | refine zae ?_ _)); exact BK193.out) hb); have n4_ := zaa.mk (Kd.za1 (by repeat (first | (with_reducible exact HR202_0.out) | (with_reducible refine Kd.zaU ?_ _) | (with_reducible refine Kd.zaY ?_ _) | (with_reducible refine Kd.za3 ?_) | exact HR202_0.out)) hb); have n5_ := zaa.mk (zat (by repeat (first | (with_reducible first | exact HB.out | apply zac | apply zab | apply zad | refine zah ?_ GE192.out | refine zah ?_ GE193.out) | exact HB.out)) hb); clear HO_8; clear HL202_0; clear BK192; clear BK193; clear HR202_0; clear HB; have HO_8 := n0_; have HL202_0 := n1_; have BK192 := n2_; have BK193 := n3_; have HR202_0 := n4_; have HB := n5_; clear n0_ n1_ n2_ n3_ n4_ n5_; (try clear hb); (try clear hb2); (try clear hk); (try clear hi); have p204 : 0 ≤ (x9_2 : Int) := of_decide_eq_true (by first | (with_reducible assumption) | assumption); have q204 : x9_2 < (t195.length : Int) := of_decide_eq_true (by first | (with_reducible assumption) | assumption); obtain ⟨ad204, A204_0, c204_0, e204, hx204_0, hl204_0, hi204_0⟩ := zdS (Kd.zbR HO_8.out).2.2 x9_2 p204 q204; obtain rfl : ad202 = ad204 := (by injection e204); obtain ⟨ce204, hce204, hMe204, hcc204⟩ := Kd.zeM HO_8.out [] x9_2 p204 (by first | exact q204 | exact of_decide_eq_true (by first | (with_reducible assumption) | assumption) | (have e_ := (Kd.zbR HO_8.out).1; omega)); obtain ⟨ua204_0, uc204_0, rfl, ul204_0, ge204_0⟩ := Kd.zcm hMe204; have hv204_0 := hcc204 0 _ rfl; rw [Nat.add_zero, show ((Kd.slice 62 k62)).sz = 1 from rfl, Nat.mul_one] at hv204_0; replace hv204_0 := Option.some.inj (hv204_0.symm.trans hx204_0); injection hv204_0 with hva_ hvn_ hvc_; rw [hva_] at ge204_0; rw [hvc_] at ul204_0; have HL204_0 := zaa.mk (show Kd.V k62 62 _ w.heap.size _ _ (zbH t195 x9_2) from Kd.V_mk ul204_0 ge204_0); clear hva_ hvn_ hvc_ ge204_0 ul204_0; clear hcc204 hce204; have HR204_0 := zaa.mk hi204_0; have HC204_0 := zaa.mk hl204_0; clear hi204_0 hl204_0; replace p204 := eq_true p204; replace q204 := eq_true q204) | ((with_reducible refine zaI (f := 74) rfl ?_); refine za5 (some 116) rfl rfl Tryd.func74 (by kernel_rfl) rfl #[.slice A204_0 (zbH t195 x9_2).length c204_0] rfl (by (try simp only [List.map_toArray, List.map_cons, List.map_nil]); first | done | rfl | (simp only [List.length_drop, List.length_take]; rfl)) ?_; (with_reducible refine (zaZ.calls kj29 _ _ (zbH t195 x9_2) t205 _ ?side1 ?side2 A58.out).mono ?_); (case side1 => repeat (first | exact (by repeat (first | (with_reducible exact HR204_0.out) | (with_reducible refine Kd.zaU ?_ _) | (with_reducible refine Kd.zaY ?_ _) | (with_reducible refine Kd.za3 ?_) | exact HR204_0.out)) | (with_reducible refine Kd.zaU ?_ _) | (with_reducible refine Kd.zaY ?_ _) | (with_reducible refine Kd.za3 ?_))); (case side2 => exact HC204_0.out); rintro e w61 ⟨rfl, hb⟩; refine ⟨_, rfl, ?_⟩; have n0_ := zaa.mk (Kd.zcI (by (with_reducible repeat (first | apply Kd.zbs | apply Kd.zbu | apply Kd.zbr)); exact HO_8.out) hb); have n1_ := zaa.mk (Kd.zct (by (with_reducible repeat (first | apply Kd.zbb | apply Kd.zbc | apply Kd.zbf)); exact HL202_0.out) hb); have n2_ := zaa.mk (Kd.zct (by (with_reducible repeat (first | apply Kd.zbb | apply Kd.zbc | apply Kd.zbf)); exact HL204_0.out) hb); have n3_ := zaa.mk (zaM (g := gb192) (o := .cells #[.slice A0_0 l0_0.length c0_0, .slice A0_1 l0_1.length c0_1] 41 (0, 0)) (by (with_reducible repeat (first | refine zaf ?_ _ | refine zai ?_ | refine zae ?_ _)); exact BK192.out) hb); have n4_ := zaa.mk (zaM (g := gb193) (o := .cells #[.int .i64 x194000_29, .int .i64 x194001_29, .int .i64 x194002_29] 43 (0, 0)) (by (with_reducible repeat (first | refine zaf ?_ _ | refine zai ?_ | refine zae ?_ _)); exact BK193.out) hb); have n5_ := zaa.mk (Kd.za1 (by repeat (first | (with_reducible exact HR202_0.out) | (with_reducible refine Kd.zaU ?_ _) | (with_reducible refine Kd.zaY ?_ _) | (with_reducible refine Kd.za3 ?_) | exact HR202_0.out)) hb); have n6_ := zaa.mk (Kd.za1 (by repeat (first | (with_reducible exact HR204_0.out) | (with_reducible refine Kd.zaU ?_ _) | (with_reducible refine Kd.zaY ?_ _) | (with_reducible refine Kd.za3 ?_) | exact HR204_0.out)) hb); have n7_ := zaa.mk (zat (by repeat (first | (with_reducible first | exact HB.out | apply zac | apply zab | apply zad | refine zah ?_ GE192.out | refine zah ?_ GE193.out) | exact HB.out)) hb); clear HO_8; clear HL202_0; clear HL204_0; clear BK192; clear BK193; clear HR202_0; clear HR204_0; clear HB; have HO_8 := n0_; have HL202_0 := n1_; have HL204_0 := n2_; have BK192 := n3_; have BK193 := n4_; have HR202_0 := n5_; have HR204_0 := n6_; have HB := n7_; clear n0_ n1_ n2_ n3_ n4_ n5_ n6_ n7_; (try clear hb); (try clear hb2); (try clear hk); (try clear hi)))
             have n0_ := zaa.mk (Kd.zbr HO_8.out)
             have n1_ := zaa.mk (Kd.zbf HL202_0.out)
             have n2_ := zaa.mk (Kd.zbf HL204_0.out)
             have n3_ := zaa.mk (zai BK192.out)
             have n4_ := zaa.mk (zai BK193.out)
             have n5_ := zaa.mk (Kd.za3 HR202_0.out)
             have n6_ := zaa.mk (Kd.za3 HR204_0.out)
             have n7_ := zaa.mk (zad HB.out)
             clear HO_8
             clear HL202_0
             clear HL204_0
             clear BK192
             clear BK193
             clear HR202_0
             clear HR204_0
             clear HB
             have HO_8 := n0_
             have HL202_0 := n1_
             have HL204_0 := n2_
             have BK192 := n3_
             have BK193 := n4_
             have HR202_0 := n5_
             have HR204_0 := n6_
             have HB := n7_
             clear n0_ n1_ n2_ n3_ n4_ n5_ n6_ n7_
             have p206 : 0 ≤ (x9_2 : Int) := of_decide_eq_true (by first | (with_reducible assumption) | assumption)
             have q206 : x9_2 < (t195.length : Int) := of_decide_eq_true (by first | (with_reducible assumption) | assumption)
             obtain ⟨ad206, A206_0, c206_0, e206, hx206_0, hl206_0, hi206_0⟩ := zdS (Kd.zbR HO_8.out).2.2 x9_2 p206 q206
             obtain rfl : ad202 = ad206 := (by injection e206)
             obtain ⟨ce206, hce206, hMe206, hcc206⟩ := Kd.zeM HO_8.out [] x9_2 p206 (by first | exact q206 | exact of_decide_eq_true (by first | (with_reducible assumption) | assumption) | (have e_ := (Kd.zbR HO_8.out).1; omega))
             obtain ⟨ua206_0, uc206_0, rfl, ul206_0, ge206_0⟩ := Kd.zcm hMe206
             have hv206_0 := hcc206 0 _ rfl
             rw [Nat.add_zero, show ((Kd.slice 62 k62)).sz = 1 from rfl, Nat.mul_one] at hv206_0
             replace hv206_0 := Option.some.inj (hv206_0.symm.trans hx206_0)
             injection hv206_0 with hva_ hvn_ hvc_
             rw [hva_] at ge206_0
             rw [hvc_] at ul206_0
             have HL206_0 := zaa.mk (show Kd.V k62 62 _ w.heap.size _ _ (zbH t195 x9_2) from Kd.V_mk ul206_0 ge206_0)
             clear hva_ hvn_ hvc_ ge206_0 ul206_0
             clear hcc206 hce206
             have HR206_0 := zaa.mk hi206_0
             have HC206_0 := zaa.mk hl206_0
             clear hi206_0 hl206_0
             replace p206 := eq_true p206
             replace q206 := eq_true q206
             refine zdq (n := 10) (S := fun w' => w'.cell? (ad202.add (x9_2).toNat) = some (.slice A206_0 (zbH t195 x9_2).length c206_0)) (ds := []) #[false, false, false, false, false, false, false, false, false, false] (by kernel_rfl) rfl rfl (hx206_0) (fun hHeld => ?_); refine zcF zal.zlH zal.zll (fun HT_ HW_ => ?_)
             generalize w61.drew = w62 at HO_8 HL202_0 HL204_0 BK192 BK193 HR202_0 HR204_0 HB HL206_0 HR206_0 hx206_0 hHeld ⊢
             refine zaR (i := 0) (N := some 118) (v := ?_) (a' := ?_) #[true, false, false, false, false, false, false, false, false, false] rfl rfl (zaL HT_.out (by kernel_rfl)) (fun _ _ _ h => h) (Or.inl ⟨by rfl, ?_⟩) ?_ ?_
             rotate_left
             ·intro w'
              go_simp
              with_reducible rfl
             rotate_left
             ·simp only [Act.put, List.setIfInBounds_toArray, List.set_cons_zero, List.set_cons_succ, zaC, zaD]
              rfl
             refine zaR (i := 1) (N := some 119) (v := ?_) (a' := ?_) #[true, true, false, false, false, false, false, false, false, false] rfl rfl (zaL HT_.out (by kernel_rfl)) (fun _ _ _ h => h) (Or.inl ⟨by rfl, ?_⟩) ?_ ?_
             rotate_left
             ·intro w'
              go_simp
              with_reducible rfl
             rotate_left
             ·simp only [Act.put, List.setIfInBounds_toArray, List.set_cons_zero, List.set_cons_succ, zaC, zaD]
              rfl
             refine zaR (i := 2) (N := some 120) (v := ?_) (a' := ?_) #[true, true, true, false, false, false, false, false, false, false] rfl rfl (zaL HT_.out (by kernel_rfl)) (fun _ _ _ h => h) (Or.inl ⟨by rfl, ?_⟩) ?_ ?_
             rotate_left
             ·intro w'
              go_simp
              with_reducible rfl
             rotate_left
             ·simp only [Act.put, List.setIfInBounds_toArray, List.set_cons_zero, List.set_cons_succ, zaC, zaD]
              rfl
             refine zaR (i := 3) (N := some 121) (v := ?_) (a' := ?_) #[true, true, true, true, false, false, false, false, false, false] rfl rfl (zaL HT_.out (by kernel_rfl)) (fun _ _ _ h => h) (Or.inl ⟨by rfl, ?_⟩) ?_ ?_
             rotate_left
             ·intro w'
              go_simp
              with_reducible rfl
             rotate_left
             ·simp only [Act.put, List.setIfInBounds_toArray, List.set_cons_zero, List.set_cons_succ, zaC, zaD]
              rfl
             refine zaR (i := 4) (N := some 122) (v := ?_) (a' := ?_) #[true, true, true, true, true, false, false, false, false, false] rfl rfl (zaL HT_.out (by kernel_rfl)) (fun _ _ _ h => h) (Or.inl ⟨by rfl, ?_⟩) ?_ ?_
             rotate_left
             ·intro w'
              go_simp
              with_reducible rfl
             rotate_left
             ·simp only [Act.put, List.setIfInBounds_toArray, List.set_cons_zero, List.set_cons_succ, zaC, zaD]
              rfl
             refine zaR (i := 8) (N := some 6) (v := ?_) (a' := ?_) #[true, true, true, true, true, false, false, false, true, false] rfl rfl (zaL HT_.out (by kernel_rfl)) (fun _ _ _ h => h) (Or.inl ⟨by rfl, ?_⟩) ?_ ?_
             rotate_left
             ·intro w'
              go_simp
              with_reducible rfl
             rotate_left
             ·simp only [Act.put, List.setIfInBounds_toArray, List.set_cons_zero, List.set_cons_succ, zaC, zaD]
              rfl
             refine zbW (i := 5) (N := some 123) (v := ?_) (a' := ?_) #[true, true, true, true, true, true, false, false, true, false] rfl rfl (zbC HT_.out HW_.out (by kernel_rfl)) (fun _ _ _ h => h) (Or.inl ⟨by rfl, ?_⟩) hHeld ?_ ?_
             rotate_left
             ·intro w' s0
              go_simp
              with_reducible rfl
             rotate_left
             ·simp only [Act.put, List.setIfInBounds_toArray, List.set_cons_zero, List.set_cons_succ, zaC, zaD]
              rfl
             refine zaR (i := 6) (N := some 124) (v := ?_) (a' := ?_) #[true, true, true, true, true, true, true, false, true, false] rfl rfl (zaL HT_.out (by kernel_rfl)) (fun _ _ _ h => h) (Or.inl ⟨by rfl, ?_⟩) ?_ ?_
             rotate_left
             ·intro w'
              go_simp
              with_reducible rfl
             rotate_left
             ·simp only [Act.put, List.setIfInBounds_toArray, List.set_cons_zero, List.set_cons_succ, zaC, zaD]
              rfl
             refine zaR (i := 7) (N := some 125) (v := ?_) (a' := ?_) #[true, true, true, true, true, true, true, true, true, false] rfl rfl (zaL HT_.out (by kernel_rfl)) (fun _ _ _ h => h) (Or.inl ⟨by rfl, ?_⟩) ?_ ?_
             rotate_left
             ·intro w'
              go_simp
              with_reducible rfl
             rotate_left
             ·simp only [Act.put, List.setIfInBounds_toArray, List.set_cons_zero, List.set_cons_succ, zaC, zaD]
              rfl
             refine one_ (i := 9) (N := none) #[true, true, true, true, true, true, true, true, true, true] rfl rfl (zcd HT_.out (by kernel_rfl)) (by decide) (fun K hK => ?_)
             have hs63 : w62.cell? ⟨gb193, 0, none⟩ = some (.int .i64 x194000_29) := (zaj BK193.out 0).trans rfl
             have hfs63 := zak BK193.out 0
             have hns63_0 := NB192_193.out
             have hms63_0 := NB193_192.out
             have hs64 : w62.cell? ⟨gb193, 1, none⟩ = some (.int .i64 x194001_29) := (zaj BK193.out 1).trans rfl
             have hfs64 := zak BK193.out 1
             have hns64_0 := NB192_193.out
             have hms64_0 := NB193_192.out
             have hs65 : w62.cell? ⟨gb193, 2, none⟩ = some (.int .i64 x194002_29) := (zaj BK193.out 2).trans rfl
             have hfs65 := zak BK193.out 2
             have hns65_0 := NB192_193.out
             have hms65_0 := NB193_192.out
             refine zix (w1 := ?_) (by rfl) rfl ?_ ?_
             rotate_left
             ·go_simp
              rfl
             refine hK.out _ _ (((cell_far (p := ⟨gb193, _, none⟩) (by first | exact Kd.zcH (Kd.zda HO_8.out (fun _ hk => hk.2)) | (rw [add_block]; exact Kd.zcH (Kd.zda HO_8.out (fun _ hk => hk.2))) | (show (Addr.add _ _).block ≠ _; rw [add_block]; exact Kd.zcH (Kd.zda HO_8.out (fun _ hk => hk.2))) | (dsimp only; exact Kd.zcH (Kd.zda HO_8.out (fun _ hk => hk.2)))) _).trans (((cell_far (p := ⟨gb193, _, none⟩) (by first | exact Kd.zcH (Kd.zda HO_8.out (fun _ hk => hk.2)) | (rw [add_block]; exact Kd.zcH (Kd.zda HO_8.out (fun _ hk => hk.2))) | (show (Addr.add _ _).block ≠ _; rw [add_block]; exact Kd.zcH (Kd.zda HO_8.out (fun _ hk => hk.2))) | (dsimp only; exact Kd.zcH (Kd.zda HO_8.out (fun _ hk => hk.2)))) _).trans (((cell_far (p := ⟨gb193, _, none⟩) (by first | exact Kd.zcH (Kd.zda HO_8.out (fun _ hk => hk.2)) | (rw [add_block]; exact Kd.zcH (Kd.zda HO_8.out (fun _ hk => hk.2))) | (show (Addr.add _ _).block ≠ _; rw [add_block]; exact Kd.zcH (Kd.zda HO_8.out (fun _ hk => hk.2))) | (dsimp only; exact Kd.zcH (Kd.zda HO_8.out (fun _ hk => hk.2)))) _).trans (hHeld))))))) (fun hHeld => ?_)
             clear hK K
             refine zdM (zde HT_.out (by kernel_rfl)) ?_
             try go_wp2
             refine bodyPost_ret (zdE rfl _ _ gb193 43 #[.int .i64 (wrap64 (x9_2 + 1)), .int .i64 0, .int .i64 ((zbH t195 x9_2).length : Int)] (0, 0) _ rfl (by (with_reducible repeat (first | refine zaf ?_ _ | refine zai ?_ | refine zae ?_ _)); refine zaT (cs := #[.int .i64 (wrap64 (x9_2 + 1)), .int .i64 0, .int .i64 x194002_29]) ?_ 2 _ rfl; (with_reducible repeat (first | refine zaf ?_ _ | refine zai ?_ | refine zae ?_ _)); refine zaT (cs := #[.int .i64 (wrap64 (x9_2 + 1)), .int .i64 x194001_29, .int .i64 x194002_29]) ?_ 1 _ rfl; (with_reducible repeat (first | refine zaf ?_ _ | refine zai ?_ | refine zae ?_ _)); refine zaT (cs := #[.int .i64 x194000_29, .int .i64 x194001_29, .int .i64 x194002_29]) ?_ 0 _ rfl; (with_reducible repeat (first | refine zaf ?_ _ | refine zai ?_ | refine zae ?_ _)); exact BK193.out) Tryd.underlying43 rfl (by kernel_rfl)) rfl ?_
             exact ⟨by first | rfl | (simp [zam, zan] <;> rfl) | (simp only [← hji29]; first | rfl | (simp [zam, zan] <;> rfl)) | (simp [*, zam, zan] <;> rfl), by repeat (first | (with_reducible first | exact HB.out | apply zac | apply zab | apply zad | refine zah ?_ GE192.out | refine zah ?_ GE193.out) | exact HB.out)⟩
            ·rw [if_neg c59] at H
             have c59b0 : decide (40 < t205) = false := decide_eq_false c59
             clear c59
             have H' := zaa.mk H
             clear H
             have p202 : 0 ≤ (x9_2 : Int) := of_decide_eq_true (by first | (with_reducible assumption) | assumption)
             have q202 : x9_2 < (t195.length : Int) := of_decide_eq_true (by first | (with_reducible assumption) | assumption)
             obtain ⟨ad202, A202_0, c202_0, e202, hx202_0, hl202_0, hi202_0⟩ := zdS (Kd.zbR HO_8.out).2.2 x9_2 p202 q202
             cases e202
             obtain ⟨ce202, hce202, hMe202, hcc202⟩ := Kd.zeM HO_8.out [] x9_2 p202 (by first | exact q202 | exact of_decide_eq_true (by first | (with_reducible assumption) | assumption) | (have e_ := (Kd.zbR HO_8.out).1; omega))
             obtain ⟨ua202_0, uc202_0, rfl, ul202_0, ge202_0⟩ := Kd.zcm hMe202
             have hv202_0 := hcc202 0 _ rfl
             rw [Nat.add_zero, show ((Kd.slice 62 k62)).sz = 1 from rfl, Nat.mul_one] at hv202_0
             replace hv202_0 := Option.some.inj (hv202_0.symm.trans hx202_0)
             injection hv202_0 with hva_ hvn_ hvc_
             rw [hva_] at ge202_0
             rw [hvc_] at ul202_0
             have HL202_0 := zaa.mk (show Kd.V k62 62 _ w.heap.size _ _ (zbH t195 x9_2) from Kd.V_mk ul202_0 ge202_0)
             clear hva_ hvn_ hvc_ ge202_0 ul202_0
             clear hcc202 hce202
             have HR202_0 := zaa.mk hi202_0
             have HC202_0 := zaa.mk hl202_0
             clear hi202_0 hl202_0
             replace p202 := eq_true p202
             replace q202 := eq_true q202
             go_wp2_with (first | ((with_reducible refine zaI (f := 34) rfl ?_); refine za5 (some 105) rfl rfl Tryd.func34 (by kernel_rfl) rfl #[.slice A202_0 (zbH t195 x9_2).length c202_0, .int .i64 a1, .int .i64 a2, .int .i64 ji29] rfl (by (try simp only [List.map_toArray, List.map_cons, List.map_nil]); first | done | (simp only [hji29]; rfl) | rfl | (simp only [List.length_drop, List.length_take]; rfl)) ?_; (with_reducible refine (zaA.calls kj29 _ _ (zbH t195 x9_2) a1 a2 ji29 t203 _ ?side1 ?side2 A53.out).mono ?_); (case side1 => repeat (first | exact (by repeat (first | (with_reducible exact HR202_0.out) | (with_reducible refine Kd.zaU ?_ _) | (with_reducible refine Kd.zaY ?_ _) | (with_reducible refine Kd.za3 ?_) | exact HR202_0.out)) | (with_reducible refine Kd.zaU ?_ _) | (with_reducible refine Kd.zaY ?_ _) | (with_reducible refine Kd.za3 ?_))); (case side2 => exact HC202_0.out); rintro e w66 ⟨rfl, hb⟩; refine ⟨_, rfl, ?_⟩; have n0_ := zaa.mk (Kd.zcI (by (with_reducible repeat (first | apply Kd.zbs | apply Kd.zbu | apply Kd.zbr)); exact HO_8.out) hb); have n1_ := zaa.mk (Kd.zct (by (with_reducible repeat (first | apply Kd.zbb | apply Kd.zbc | apply Kd.zbf)); exact HL202_0.out) hb); have n2_ := zaa.mk (zaM (g := gb192) (o := .cells #[.slice A0_0 l0_0.length c0_0, .slice A0_1 l0_1.length c0_1] 41 (0, 0)) (by (with_reducible repeat (first | refine zaf ?_ _ | refine zai ?_ | refine zae ?_ _)); exact BK192.out) hb); have n3_ := zaa.mk (zaM (g := gb193) (o := .cells #[.int .i64 x194000_29, .int .i64 x194001_29, .int .i64 x194002_29] 43 (0, 0)) (by (with_reducible repeat (first | refine zaf ?_ _ | refine zai ?_ | refine zae ?_ _)); exact BK193.out) hb); have n4_ := zaa.mk (Kd.za1 (by repeat (first | (with_reducible exact HR202_0.out) | (with_reducible refine Kd.zaU ?_ _) | (with_reducible refine Kd.zaY ?_ _) | (with_reducible refine Kd.za3 ?_) | exact HR202_0.out)) hb); have n5_ := zaa.mk (zat (by repeat (first | (with_reducible first | exact HB.out | apply zac | apply zab | apply zad | refine zah ?_ GE192.out | refine zah ?_ GE193.out) | exact HB.out)) hb); clear HO_8; clear HL202_0; clear BK192; clear BK193; clear HR202_0; clear HB; have HO_8 := n0_; have HL202_0 := n1_; have BK192 := n2_; have BK193 := n3_; have HR202_0 := n4_; have HB := n5_; clear n0_ n1_ n2_ n3_ n4_ n5_; (try clear hb); (try clear hb2); (try clear hk); (try clear hi); have p204 : 0 ≤ (x9_2 : Int) := of_decide_eq_true (by first | (with_reducible assumption) | assumption); have q204 : x9_2 < (t195.length : Int) := of_decide_eq_true (by first | (with_reducible assumption) | assumption); obtain ⟨ad204, A204_0, c204_0, e204, hx204_0, hl204_0, hi204_0⟩ := zdS (Kd.zbR HO_8.out).2.2 x9_2 p204 q204; obtain rfl : ad202 = ad204 := (by injection e204); obtain ⟨ce204, hce204, hMe204, hcc204⟩ := Kd.zeM HO_8.out [] x9_2 p204 (by first | exact q204 | exact of_decide_eq_true (by first | (with_reducible assumption) | assumption) | (have e_ := (Kd.zbR HO_8.out).1; omega)); obtain ⟨ua204_0, uc204_0, rfl, ul204_0, ge204_0⟩ := Kd.zcm hMe204; have hv204_0 := hcc204 0 _ rfl; rw [Nat.add_zero, show ((Kd.slice 62 k62)).sz = 1 from rfl, Nat.mul_one] at hv204_0; replace hv204_0 := Option.some.inj (hv204_0.symm.trans hx204_0); injection hv204_0 with hva_ hvn_ hvc_; rw [hva_] at ge204_0; rw [hvc_] at ul204_0; have HL204_0 := zaa.mk (show Kd.V k62 62 _ w.heap.size _ _ (zbH t195 x9_2) from Kd.V_mk ul204_0 ge204_0); clear hva_ hvn_ hvc_ ge204_0 ul204_0; clear hcc204 hce204; have HR204_0 := zaa.mk hi204_0; have HC204_0 := zaa.mk hl204_0; clear hi204_0 hl204_0; replace p204 := eq_true p204; replace q204 := eq_true q204) | ((with_reducible refine zaI (f := 74) rfl ?_); refine za5 (some 116) rfl rfl Tryd.func74 (by kernel_rfl) rfl #[.slice A204_0 (zbH t195 x9_2).length c204_0] rfl (by (try simp only [List.map_toArray, List.map_cons, List.map_nil]); first | done | rfl | (simp only [List.length_drop, List.length_take]; rfl)) ?_; (with_reducible refine (zaZ.calls kj29 _ _ (zbH t195 x9_2) t205 _ ?side1 ?side2 A58.out).mono ?_); (case side1 => repeat (first | exact (by repeat (first | (with_reducible exact HR204_0.out) | (with_reducible refine Kd.zaU ?_ _) | (with_reducible refine Kd.zaY ?_ _) | (with_reducible refine Kd.za3 ?_) | exact HR204_0.out)) | (with_reducible refine Kd.zaU ?_ _) | (with_reducible refine Kd.zaY ?_ _) | (with_reducible refine Kd.za3 ?_))); (case side2 => exact HC204_0.out); rintro e w67 ⟨rfl, hb⟩; refine ⟨_, rfl, ?_⟩; have n0_ := zaa.mk (Kd.zcI (by (with_reducible repeat (first | apply Kd.zbs | apply Kd.zbu | apply Kd.zbr)); exact HO_8.out) hb); have n1_ := zaa.mk (Kd.zct (by (with_reducible repeat (first | apply Kd.zbb | apply Kd.zbc | apply Kd.zbf)); exact HL202_0.out) hb); have n2_ := zaa.mk (Kd.zct (by (with_reducible repeat (first | apply Kd.zbb | apply Kd.zbc | apply Kd.zbf)); exact HL204_0.out) hb); have n3_ := zaa.mk (zaM (g := gb192) (o := .cells #[.slice A0_0 l0_0.length c0_0, .slice A0_1 l0_1.length c0_1] 41 (0, 0)) (by (with_reducible repeat (first | refine zaf ?_ _ | refine zai ?_ | refine zae ?_ _)); exact BK192.out) hb); have n4_ := zaa.mk (zaM (g := gb193) (o := .cells #[.int .i64 x194000_29, .int .i64 x194001_29, .int .i64 x194002_29] 43 (0, 0)) (by (with_reducible repeat (first | refine zaf ?_ _ | refine zai ?_ | refine zae ?_ _)); exact BK193.out) hb); have n5_ := zaa.mk (Kd.za1 (by repeat (first | (with_reducible exact HR202_0.out) | (with_reducible refine Kd.zaU ?_ _) | (with_reducible refine Kd.zaY ?_ _) | (with_reducible refine Kd.za3 ?_) | exact HR202_0.out)) hb); have n6_ := zaa.mk (Kd.za1 (by repeat (first | (with_reducible exact HR204_0.out) | (with_reducible refine Kd.zaU ?_ _) | (with_reducible refine Kd.zaY ?_ _) | (with_reducible refine Kd.za3 ?_) | exact HR204_0.out)) hb); have n7_ := zaa.mk (zat (by repeat (first | (with_reducible first | exact HB.out | apply zac | apply zab | apply zad | refine zah ?_ GE192.out | refine zah ?_ GE193.out) | exact HB.out)) hb); clear HO_8; clear HL202_0; clear HL204_0; clear BK192; clear BK193; clear HR202_0; clear HR204_0; clear HB; have HO_8 := n0_; have HL202_0 := n1_; have HL204_0 := n2_; have BK192 := n3_; have BK193 := n4_; have HR202_0 := n5_; have HR204_0 := n6_; have HB := n7_; clear n0_ n1_ n2_ n3_ n4_ n5_ n6_ n7_; (try clear hb); (try clear hb2); (try clear hk); (try clear hi)))
             go_roundg kj29
             case measure => have := HJ3.out; have := HK2.out; have := HJ29.out; omega
             case rel => exact ⟨(wrap64 (x9_2 + 1)), (x194000_29), (x194001_29), (x194002_29), (by first | rfl | (simp; done) | (simp [*]; done)), H', ⟨by have := HJ3.out; have := HK2.out; have := HJ29.out; omega⟩, ⟨by (with_reducible repeat (first | apply Kd.zbs | apply Kd.zbu | apply Kd.zbr)); exact HO_8.out⟩, ⟨by (with_reducible repeat (first | refine zaf ?_ _ | refine zai ?_ | refine zae ?_ _)); exact BK192.out⟩, ⟨by (with_reducible repeat (first | refine zaf ?_ _ | refine zai ?_ | refine zae ?_ _)); exact BK193.out⟩, ⟨by repeat (first | (with_reducible first | exact HB.out | apply zac | apply zab | apply zad | refine zah ?_ GE192.out | refine zah ?_ GE193.out) | exact HB.out)⟩⟩
          ·rw [if_neg c52] at H
           exact absurd H (by simp)
         ·rw [if_neg c51] at H
          exact absurd H (by simp)
      ·rw [if_neg c28] at H
       have c28b0 : decide (x9_2 < (t195.length : Int)) = false := decide_eq_false c28
       clear c28
       simp only [Option.some.injEq, Prod.mk.injEq] at H
       obtain ⟨rfl, rfl, rfl, rfl⟩ := H
       obtain ⟨Ao68, co68, eo68⟩ := Kd.zcq HO_8.out
       subst eo68
       have hnb69 := NB193_192.out
       have hnc69 := NB192_193.out
       have hcz70_0 : wr.cell? ⟨gb193, 0, none⟩ = some (.int .i64 x194000_2) := (zaj BK193.out 0).trans rfl
       have hcz70_1 : wr.cell? ⟨gb193, 1, none⟩ = some (.int .i64 x194001_2) := (zaj BK193.out 1).trans rfl
       have hcz70_2 : wr.cell? ⟨gb193, 2, none⟩ = some (.int .i64 x194002_2) := (zaj BK193.out 2).trans rfl
       have hfz70_0 := zak BK193.out 0
       have hfz70_1 := zak BK193.out 1
       have hfz70_2 := zak BK193.out 2
       go_wp2
       refine bodyPost_ret (zdE rfl _ _ gb193 43 #[.int .i64 0, .int .i64 0, .int .i64 0] (0, 0) _ rfl (by (with_reducible repeat (first | refine zaf ?_ _ | refine zai ?_ | refine zae ?_ _)); refine zaT (cs := #[.int .i64 0, .int .i64 0, .int .i64 x194002_2]) ?_ 2 _ rfl; (with_reducible repeat (first | refine zaf ?_ _ | refine zai ?_ | refine zae ?_ _)); refine zaT (cs := #[.int .i64 0, .int .i64 x194001_2, .int .i64 x194002_2]) ?_ 1 _ rfl; (with_reducible repeat (first | refine zaf ?_ _ | refine zai ?_ | refine zae ?_ _)); refine zaT (cs := #[.int .i64 x194000_2, .int .i64 x194001_2, .int .i64 x194002_2]) ?_ 0 _ rfl; (with_reducible repeat (first | refine zaf ?_ _ | refine zai ?_ | refine zae ?_ _)); exact BK193.out) Tryd.underlying43 rfl (by kernel_rfl)) rfl ?_
       exact ⟨by first | rfl | (simp [zam, zan] <;> rfl) | (simp [*, zam, zan] <;> rfl), by repeat (first | (with_reducible first | exact HB.out | apply zac | apply zab | apply zad | refine zah ?_ GE192.out | refine zah ?_ GE193.out) | exact HB.out)⟩
end Go.Proofs.YtbicjgaadknmfaaDoor.P
end
section
namespace Go.Proofs.YtbicjgaadknmfaaDoor.M
open Go.RowKit Go.Proofs.YtbicjgaadknmfaaDoorW.PrintWords Go.Proofs.YtbicjgaadknmfaaDoor.P Go.Proofs.YtbicjgaadknmfaaDoorW.PrintMore
set_option linter.unusedVariables false
set_option linter.unusedSimpArgs false
abbrev SL := S127
abbrev RL := S121
def zbM (x : RL) : SL := ⟨x.f0, x.f1.map toN⟩
structure Fit (L : List SL) (O : List (List SN)) (m : Nat) : Prop where
  lets : L.length ≤ 100
  outs : O.length ≤ 100
  name : ∀ x ∈ L, x.f0.size ≤ 4000
  code : ∀ x ∈ L, x.f1.length ≤ m ∧ ∀ n ∈ x.f1, Nw n
  out : ∀ c ∈ O, c.length ≤ m ∧ ∀ n ∈ c, Nw n
theorem rdL {l : List SL} {i : Nat} (h : i < l.length) : zaS l (i : Int) = l[i] := by
  unfold zaS
  simp [List.getD_eq_getElem?_getD, h]
theorem rdRL {l : List RL} {i : Nat} (h : i < l.length) : zbg l (i : Int) = l[i] := by
  unfold zbg
  simp [List.getD_eq_getElem?_getD, h]
theorem rdC {l : List (List SN)} {i : Nat} (h : i < l.length) : l.getD i [] = l[i] := by simp [List.getD_eq_getElem?_getD, h]
theorem rdRC {l : List (List RN)} {i : Nat} (h : i < l.length) : l.getD i [] = l[i] := by simp [List.getD_eq_getElem?_getD, h]
theorem zfW (c : List SN) (hc : ∀ x ∈ c, Nw x) (hl : c.length ≤ 1000000) : Ev (fun k => zaW.f k c) c := by
  have go : ∀ (r : List SN) (i : Nat) (acc : List SN), c.drop i = r → i ≤ c.length → acc = c.take i → Ev (fun k => zaW.l0 k acc c (c.length : Int) (i : Int)) c := by
    intro r
    induction r with
    | nil =>
      intro i acc hd hi ha
      have : c.length ≤ i := by simpa using hd
      refine Ev.step (f := fun _ => some acc) (fun k => ?_) ?_
      · simp only [zaW.l0]
        rw [if_neg (by omega)]
      · rw [ha, List.take_of_length_le this]; exact Ev.now _
    | cons a r ih =>
      intro i acc hd hi ha
      obtain ⟨hlt, h1, hr⟩ := zbw hd
      have hn := (hc a (by rw [← h1]; exact List.getElem_mem _)).2
      refine Ev.step (f := fun k => zaW.l0 k (acc ++ [a]) c (c.length : Int) ((i + 1 : Nat) : Int)) (fun k => ?_) (ih (i + 1) _ hr (by omega) (by rw [ha, ← h1, List.take_succ_eq_append_getElem hlt]))
      have hal : acc.length = i := by rw [ha]; simp; omega
      simp only [zaW.l0]
      rw [if_pos (by omega), if_pos (by omega), if_pos (by omega), rdS hlt, h1, if_pos (by simp; omega), if_pos (by omega), zbh (by omega) (by omega), List.nil_append]
      rfl
  exact go c 0 [] rfl (by omega) rfl
def zb2 (L : List SL) (O : List (List SN)) : List (List SN) := L.map (·.f1) ++ O
theorem zgt {L : List SL} {O : List (List SN)} {m : Nat} (h : Fit L O m) (hm : m ≤ 1000000) : Ev (fun k => zaX.f k L O) (zb2 L O) := by
  have hl := h.lets
  have ho := h.outs
  have goO : ∀ (r : List (List SN)) (i : Nat) (acc : List (List SN)), O.drop i = r → i ≤ O.length → acc = L.map (·.f1) ++ O.take i → Ev (fun k => zaX.l1 k acc O (O.length : Int) (i : Int)) (zb2 L O) := by
    intro r
    induction r with
    | nil =>
      intro i acc hd hi ha
      have : O.length ≤ i := by simpa using hd
      refine Ev.step (f := fun _ => some acc) (fun k => ?_) ?_
      · simp only [zaX.l1]
        rw [if_neg (by omega)]
      · rw [ha, List.take_of_length_le this]; exact Ev.now _
    | cons a r ih =>
      intro i acc hd hi ha
      obtain ⟨hlt, h1, hr⟩ := zbw hd
      have hn := h.out a (by rw [← h1]; exact List.getElem_mem _)
      have hal : acc.length ≤ 1000 := by rw [ha]; simp; omega
      refine Ev.step (f := fun k => (zaW.f k a).bind fun t => if acc.length < 5864062014805 then zaX.l1 k (acc ++ [t]) O (O.length : Int) (wrap64 ((i : Int) + 1)) else none) (fun k => ?_) (Ev.bind (zfW a hn.2 (by omega)) (Ev.congr (fun k => ?_) (ih (i + 1) (acc ++ [a]) hr (by omega) (by rw [ha, ← h1, List.take_succ_eq_append_getElem hlt, List.append_assoc]))))
      · simp only [zaX.l1]
        rw [if_pos (by omega), if_pos (by omega), if_pos (by omega)]
        congr 1
        show zaW.f k (O.getD (i : Int).toNat []) = _
        rw [Int.toNat_natCast, rdC hlt, h1]
      · rw [if_pos (by omega), zbh (by omega) (by omega)]
        rfl
  have goL : ∀ (r : List SL) (i : Nat) (acc : List (List SN)), L.drop i = r → i ≤ L.length → acc = (L.take i).map (·.f1) → Ev (fun k => zaX.l0 k acc L (L.length : Int) (i : Int) L O) (zb2 L O) := by
    intro r
    induction r with
    | nil =>
      intro i acc hd hi ha
      have : L.length ≤ i := by simpa using hd
      refine Ev.step (f := fun k => zaX.l1 k acc O (O.length : Int) 0) (fun k => ?_) (goO O 0 acc rfl (by omega) (by rw [ha, List.take_of_length_le this]; simp))
      simp only [zaX.l0]
      rw [if_neg (by omega)]
    | cons a r ih =>
      intro i acc hd hi ha
      obtain ⟨hlt, h1, hr⟩ := zbw hd
      have hn := h.code a (by rw [← h1]; exact List.getElem_mem _)
      have hal : acc.length ≤ 1000 := by rw [ha]; simp; omega
      refine Ev.step (f := fun k => (zaW.f k a.f1).bind fun t => if acc.length < 5864062014805 then zaX.l0 k (acc ++ [t]) L (L.length : Int) (wrap64 ((i : Int) + 1)) L O else none) (fun k => ?_) (Ev.bind (zfW a.f1 hn.2 (by omega)) (Ev.congr (fun k => ?_) (ih (i + 1) (acc ++ [a.f1]) hr (by omega) (by rw [ha, ← h1, List.take_succ_eq_append_getElem hlt, List.map_append]; rfl))))
      · simp only [zaX.l0]
        rw [if_pos (by omega), if_pos (by omega), if_pos (by omega), rdL hlt, h1]
      · rw [if_pos (by omega), zbh (by omega) (by omega)]
        rfl
  exact goL L 0 [] rfl (by omega) rfl
def zb1 (C : List (List SN)) : Nat := (C.map List.length).sum
theorem size_le (C : List (List SN)) (m : Nat) (h : ∀ c ∈ C, c.length ≤ m) : zb1 C ≤ C.length * m := by
  induction C with
  | nil => simp [zb1]
  | cons a r ih =>
    have h1 := ih (fun c hc => h c (List.mem_cons_of_mem _ hc))
    have h2 := h a List.mem_cons_self
    simp only [zb1, List.map_cons, List.sum_cons, List.length_cons, Nat.succ_mul] at *
    omega
theorem zfx {L : List SL} {O : List (List SN)} {m : Nat} (h : Fit L O m) : (zb2 L O).length ≤ 200 ∧ ∀ c ∈ zb2 L O, c.length ≤ m ∧ ∀ n ∈ c, Nw n := by
  refine ⟨by have := h.lets; have := h.outs; simp [zb2]; omega, fun c hc => ?_⟩
  rcases List.mem_append.1 hc with hc | hc
  · obtain ⟨x, hx, rfl⟩ := List.mem_map.1 hc
    exact h.code x hx
  · exact h.out c hc
theorem size_take {C : List (List SN)} {i : Nat} (h : i < C.length) : zb1 (C.take (i + 1)) = zb1 (C.take i) + C[i].length := by
  unfold zb1
  rw [List.take_succ_eq_append_getElem h, List.map_append, List.sum_append]
  simp
theorem zfn (C : List (List SN)) (i : Nat) : zb1 (C.take i) ≤ zb1 C := by
  conv => rhs; rw [← List.take_append_drop i C]
  unfold zb1
  rw [List.map_append, List.sum_append]
  omega
theorem zgV {L : List SL} {O : List (List SN)} {m : Nat} (h : Fit L O m) (hm : m ≤ 1000000) : Ev (fun k => zbj.f k L O) ((zb1 (zb2 L O) : Nat) : Int) := by
  refine Ev.bind (zgt h hm) ?_
  obtain ⟨f1, f2⟩ := zfx h
  generalize zb2 L O = C at *
  have hs := size_le C m (fun c hc => (f2 c hc).1)
  have hs2 : C.length * m ≤ 200 * 1000000 := Nat.mul_le_mul f1 hm
  have go : ∀ (r : List (List SN)) (i : Nat), C.drop i = r → i ≤ C.length → Ev (fun k => zbj.l0 k ((zb1 (C.take i) : Nat) : Int) C (C.length : Int) (i : Int)) ((zb1 C : Nat) : Int) := by
    intro r
    induction r with
    | nil =>
      intro i hd hi
      have : C.length ≤ i := by simpa using hd
      rw [List.take_of_length_le this]
      refine Ev.step (f := fun _ => some ((zb1 C : Nat) : Int)) (fun k => ?_) (Ev.now _)
      simp only [zbj.l0]
      rw [if_neg (by omega)]
    | cons a r ih =>
      intro i hd hi
      obtain ⟨hlt, h1, hr⟩ := zbw hd
      refine Ev.step (f := fun k => zbj.l0 k ((zb1 (C.take (i + 1)) : Nat) : Int) C (C.length : Int) ((i + 1 : Nat) : Int)) (fun k => ?_) (ih (i + 1) hr (by omega))
      simp only [zbj.l0]
      have e1 := size_take hlt
      have e2 := zfn C (i + 1)
      rw [if_pos (by omega), if_pos (by omega), if_pos (by omega)]
      have e3 : (C.getD (i : Int).toNat []).length = C[i].length := by rw [Int.toNat_natCast, rdC hlt]
      show zbj.l0 k (wrap64 (((zb1 (C.take i) : Nat) : Int) + (((C.getD (i : Int).toNat []).length : Nat) : Int))) C _ _ = _
      rw [e3, zbh (by omega) (by omega), zbh (by omega) (by omega), e1]
      rfl
  exact go C 0 rfl (by omega)
theorem zgT {L : List RL} {O : List (List RN)} (hl : L.length ≤ 100) (ho : O.length ≤ 100) : Ev (fun k => zax.f k L O) (L.map (·.f1) ++ O) := by
  have goL : ∀ (r : List RL) (i : Nat) (acc : List (List RN)), L.drop i = r → i ≤ L.length → acc = (L.take i).map (·.f1) → Ev (fun k => zax.l0 k acc (i : Int) L O) (L.map (·.f1) ++ O) := by
    intro r
    induction r with
    | nil =>
      intro i acc hd hi ha
      have : L.length ≤ i := by simpa using hd
      rw [List.take_of_length_le this] at ha
      subst ha
      refine Ev.step (f := fun _ => some (L.map (·.f1) ++ O)) (fun k => ?_) (Ev.now _)
      simp only [zax.l0]
      rw [if_neg (by omega), if_pos (by simp; omega)]
    | cons a r ih =>
      intro i acc hd hi ha
      obtain ⟨hlt, h1, hr⟩ := zbw hd
      have hal : acc.length ≤ 1000 := by rw [ha]; simp; omega
      refine Ev.step (f := fun k => zax.l0 k (acc ++ [a.f1]) ((i + 1 : Nat) : Int) L O) (fun k => ?_) (ih (i + 1) (acc ++ [a.f1]) hr (by omega) (by rw [ha, ← h1, List.take_succ_eq_append_getElem hlt, List.map_append]; rfl))
      simp only [zax.l0]
      rw [if_pos (by omega), if_pos (by omega), if_pos (by omega), rdRL hlt, h1, zbh (by omega) (by omega)]
      rfl
  exact goL L 0 [] rfl (by omega) rfl
theorem zjV {L : List RL} {O : List (List RN)} {m : Nat} (h : Fit (L.map zbM) (O.map (List.map toN)) m) (hm : m ≤ 1000000) : Ev (fun k => zaH.f k L O) ((zb1 (zb2 (L.map zbM) (O.map (List.map toN))) : Nat) : Int) := by
  have hl := h.lets
  have ho := h.outs
  rw [List.length_map] at hl ho
  refine Ev.bind (zgT hl ho) ?_
  have hC : zb2 (L.map zbM) (O.map (List.map toN)) = (L.map (·.f1) ++ O).map (List.map toN) := by
    unfold zb2
    rw [List.map_append, List.map_map, List.map_map]
    rfl
  obtain ⟨f1, f2⟩ := zfx h
  rw [hC] at f1 f2 ⊢
  generalize L.map (·.f1) ++ O = D at *
  have hs := size_le (D.map (List.map toN)) m (fun c hc => (f2 c hc).1)
  have hs2 : (D.map (List.map toN)).length * m ≤ 200 * 1000000 := Nat.mul_le_mul f1 hm
  have go : ∀ (r : List (List RN)) (i : Nat), D.drop i = r → i ≤ D.length → Ev (fun k => zaH.l0 k ((zb1 ((D.map (List.map toN)).take i) : Nat) : Int) D (i : Int)) ((zb1 (D.map (List.map toN)) : Nat) : Int) := by
    intro r
    induction r with
    | nil =>
      intro i hd hi
      have : D.length ≤ i := by simpa using hd
      rw [List.take_of_length_le (by rw [List.length_map]; exact this)]
      refine Ev.step (f := fun _ => some ((zb1 (D.map (List.map toN)) : Nat) : Int)) (fun k => ?_) (Ev.now _)
      simp only [zaH.l0]
      rw [if_neg (by omega)]
    | cons a r ih =>
      intro i hd hi
      obtain ⟨hlt, h1, hr⟩ := zbw hd
      rw [List.length_map] at f1
      refine Ev.step (f := fun k => zaH.l0 k ((zb1 ((D.map (List.map toN)).take (i + 1)) : Nat) : Int) D ((i + 1 : Nat) : Int)) (fun k => ?_) (ih (i + 1) hr (by omega))
      simp only [zaH.l0]
      have e1 := size_take (C := D.map (List.map toN)) (i := i) (by rw [List.length_map]; exact hlt)
      have e2 := zfn (D.map (List.map toN)) (i + 1)
      rw [if_pos (by omega), if_pos (by omega)]
      have e3 : (D.getD (i : Int).toNat []).length = ((D.map (List.map toN))[i]'(by rw [List.length_map]; exact hlt)).length := by rw [Int.toNat_natCast, rdRC hlt, List.getElem_map, List.length_map]
      show zaH.l0 k (wrap64 (((zb1 ((D.map (List.map toN)).take i) : Nat) : Int) + (((D.getD (i : Int).toNat []).length : Nat) : Int))) D _ = _
      rw [e3, zbh (by omega) (by omega), zbh (by omega) (by omega), e1]
      rfl
  exact go D 0 rfl (by omega)
end Go.Proofs.YtbicjgaadknmfaaDoor.M
end
section
namespace Go.Proofs.YtbicjgaadknmfaaDoor.M
open Go.RowKit Go.Proofs.YtbicjgaadknmfaaDoorW.PrintWords Go.Proofs.YtbicjgaadknmfaaDoor.P Go.Proofs.YtbicjgaadknmfaaDoorW.PrintMore
set_option linter.unusedVariables false
set_option linter.unusedSimpArgs false
abbrev Q4 := Int × Int × Int × Int
def z4 : Q4 := (0, 0, 0, 0)
theorem ne4 (q : Q4) : (!(q.1 == 0) || (!(q.2.1 == 0) || (!(q.2.2.1 == 0) || (!(q.2.2.2 == 0))))) = !decide (q = z4) := by
  obtain ⟨a, b, c, d⟩ := q
  unfold z4
  rw [Bool.eq_iff_iff]
  simp
theorem eta4 (q : Q4) : (q.1, q.2.1, q.2.2.1, q.2.2.2) = q := rfl
noncomputable def zc8 (c : List SN) (num d p l : Int) : Q4 := if zdD c d p l < 0 then (if 40 < zcN c then (2, num, 0, (c.length : Int)) else z4) else (2, num, 0, zdD c d p l)
def zcy (L : List SL) (i : Nat) : Bool := (L.take i).any fun x => decide (toL x.f0 = toL (L.getD i z127).f0)
noncomputable def letQ (L : List SL) (d p : Int) (i : Nat) (x : SL) : Q4 := if zb3 x.f0 = true ∧ zcy L i = false then zc8 x.f1 ((i : Int) + 1) d p (i : Int) else (2, (i : Int) + 1, 1, 0)
noncomputable def zdo (d p : Int) (nl : Nat) : List (List SN) → Nat → Q4
  | [], _ => z4
  | c :: r, i => if zc8 c ((nl : Int) + i + 1) d p nl = z4 then zdo d p nl r (i + 1) else zc8 c ((nl : Int) + i + 1) d p nl
noncomputable def zdN (L : List SL) (d p : Int) (z : Q4) : List SL → Nat → Q4
  | [], _ => z
  | x :: r, i => if letQ L d p i x = z4 then zdN L d p z r (i + 1) else letQ L d p i x
def zdr (L : List SL) (O : List (List SN)) (d p : Int) : Bool := decide (1 ≤ d ∧ d ≤ 6 ∧ 0 ≤ p ∧ p ≤ 6 ∧ (O.length : Int) = d ∧ L.length ≤ 10 ∧ zb1 (zb2 L O) ≤ 300)
noncomputable def zdh (L : List SL) (O : List (List SN)) (d p : Int) : Q4 := if zdr L O d p = true then zdN L d p (zdo d p L.length O 0) L 0 else (2, 0, 0, 0)
theorem zgW (c : List SN) (hc : ∀ x ∈ c, Nw x) (hl : c.length ≤ 1000000) (num d p l : Int) : Ev (fun k => za2.f k c num d p l) (zc8 c num d p l) := by
  have round : ∀ a b k, za2.j0 (k + 1) c num a b = if b = true then (if (c.length : Int) < 0 then some (0, 0, 0, 0) else some (2, num, 0, (c.length : Int))) else if a < 0 then some (0, 0, 0, 0) else some (2, num, 0, a) := fun a b k => by simp only [za2.j0]
  unfold zc8
  refine Ev.bind (ziL c hc hl d p l) ?_
  generalize zdD c d p l = a
  by_cases h : a < 0
  · rw [if_pos h]
    refine Ev.congr (fun k => if_pos h) (Ev.bind (zgw c hl) (Ev.step (fun k => round a _ k) ?_))
    by_cases h2 : 40 < zcN c
    · rw [if_pos h2]
      exact Ev.congr (fun k => by rw [if_pos (decide_eq_true (show zcN c > 40 from h2)), if_neg (by omega)]) (Ev.now _)
    · rw [if_neg h2]
      exact Ev.congr (fun k => by rw [if_neg (by rw [decide_eq_false (show ¬ zcN c > 40 from h2)]; decide), if_pos h]; rfl) (Ev.now _)
  · rw [if_neg h]
    exact Ev.congr (fun k => if_neg h) (Ev.step (fun k => round a false k) (Ev.congr (fun k => by rw [if_neg (by decide), if_neg h]) (Ev.now _)))
theorem zir (L : List SL) (hL : L.length ≤ 100) (i : Nat) (hi : i < L.length) : Ev (fun k => za4.f k L (i : Int)) (zcy L i) := by
  have go : ∀ (n j : Nat), i - j = n → j ≤ i → Ev (fun k => za4.l0 k L (i : Int) (i : Int) (j : Int)) (((L.take i).drop j).any fun x => decide (toL x.f0 = toL (L.getD i z127).f0)) := by
    intro n
    induction n with
    | zero =>
      intro j hn hj
      obtain rfl : j = i := by omega
      rw [List.drop_of_length_le (by simp; omega)]
      refine Ev.step (f := fun _ => some false) (fun k => ?_) (Ev.now _)
      simp only [za4.l0]
      rw [if_neg (by omega)]
    | succ n ih =>
      intro j hn hj
      have hji : j < L.length := by omega
      have hd : (L.take i).drop j = L[j] :: (L.take i).drop (j + 1) := by
        rw [List.drop_eq_getElem_cons (by simp; omega), List.getElem_take]
      rw [hd, List.any_cons]
      have hx : (L.getD i z127) = L[i] := by simp [List.getD_eq_getElem?_getD, hi]
      rw [hx]
      by_cases h : toL L[j].f0 = toL L[i].f0
      · rw [decide_eq_true h, Bool.true_or]
        refine Ev.step (f := fun _ => some true) (fun k => ?_) (Ev.now _)
        simp only [za4.l0]
        rw [if_pos (by omega), if_pos (by omega), if_pos (by omega), if_pos (by omega), if_pos (by omega), rdL hji, rdL hi, toList_eq, toList_eq, if_pos h]
      · rw [decide_eq_false h, Bool.false_or]
        have := ih (j + 1) (by omega) (by omega)
        rw [hx] at this
        refine Ev.step (f := fun k => za4.l0 k L (i : Int) (i : Int) ((j + 1 : Nat) : Int)) (fun k => ?_) this
        simp only [za4.l0]
        rw [if_pos (by omega), if_pos (by omega), if_pos (by omega), if_pos (by omega), if_pos (by omega), rdL hji, rdL hi, toList_eq, toList_eq, if_neg h, zbh (by omega) (by omega)]
        rfl
  exact go i 0 (by omega) (by omega)
theorem ziv {L : List SL} {O : List (List SN)} {m : Nat} (h : Fit L O m) (hm : m ≤ 1000000) (d p : Int) : Ev (fun k => zbB.f k L O d p) (zdr L O d p) := by
  unfold zbB.f zdr
  have no : ∀ {q : Prop} [Decidable q], ¬ q → Ev (fun _ : Nat => some false) (decide q) := fun hq => by rw [decide_eq_false hq]; exact Ev.now _
  by_cases c1 : 1 ≤ d
  case neg => exact Ev.congr (fun k => if_neg c1) (no (fun h => c1 h.1))
  refine Ev.congr (fun k => if_pos c1) ?_
  by_cases c2 : d ≤ 6
  case neg => exact Ev.congr (fun k => if_neg c2) (no (fun h => c2 h.2.1))
  refine Ev.congr (fun k => if_pos c2) ?_
  by_cases c3 : 0 ≤ p
  case neg => exact Ev.congr (fun k => if_neg c3) (no (fun h => c3 h.2.2.1))
  refine Ev.congr (fun k => if_pos c3) ?_
  by_cases c4 : p ≤ 6
  case neg => exact Ev.congr (fun k => if_neg c4) (no (fun h => c4 h.2.2.2.1))
  refine Ev.congr (fun k => if_pos c4) ?_
  by_cases c5 : (O.length : Int) = d
  case neg => exact Ev.congr (fun k => if_neg c5) (no (fun h => c5 h.2.2.2.2.1))
  refine Ev.congr (fun k => if_pos c5) ?_
  by_cases c6 : L.length ≤ 10
  case neg => exact Ev.congr (fun k => if_neg (by omega)) (no (fun h => c6 h.2.2.2.2.2.1))
  refine Ev.congr (fun k => if_pos (by omega)) (Ev.bind (zgV h hm) ?_)
  have e : decide (1 ≤ d ∧ d ≤ 6 ∧ 0 ≤ p ∧ p ≤ 6 ∧ (O.length : Int) = d ∧ L.length ≤ 10 ∧ zb1 (zb2 L O) ≤ 300) = decide (((zb1 (zb2 L O) : Nat) : Int) ≤ 300) := by
    rw [decide_eq_decide]; omega
  rw [e]
  exact Ev.now _
theorem ze7 {L : List SL} {O : List (List SN)} {m : Nat} (h : Fit L O m) (hm : m ≤ 1000000) (d p : Int) : Ev (fun k => zaG.f k L O d p) (zdh L O d p) := by
  refine Ev.bind (ziv h hm d p) ?_
  unfold zdh
  cases zdr L O d p with
  | false => exact Ev.congr (fun k => if_neg (by decide)) (Ev.now _)
  | true =>
  rw [if_pos rfl]
  refine Ev.congr (fun k => if_pos rfl) ?_
  have hl := h.lets
  have ho := h.outs
  have outs : ∀ (r : List (List SN)) (i : Nat), O.drop i = r → Ev (fun k => zaG.l1 k d p O (O.length : Int) (i : Int) L O) (zdo d p L.length r i) := by
    intro r
    induction r with
    | nil =>
      intro i hd
      have : O.length ≤ i := by simpa using hd
      refine Ev.step (f := fun _ => some z4) (fun k => ?_) (Ev.now _)
      simp only [zaG.l1]
      rw [if_neg (by omega)]
      rfl
    | cons a r ih =>
      intro i hd
      obtain ⟨hlt, h1, hr⟩ := zbw hd
      have hn := h.out a (by rw [← h1]; exact List.getElem_mem _)
      refine Ev.step (f := fun k => (za2.f k a ((L.length : Int) + i + 1) d p (L.length : Int)).bind fun q => if (!decide (q = z4)) = true then some q else zaG.l1 k d p O (O.length : Int) ((i + 1 : Nat) : Int) L O) (fun k => ?_) (Ev.bind (zgW a hn.2 (by omega) _ d p _) ?_)
      · simp only [zaG.l1, ne4, eta4]
        rw [if_pos (by omega), if_pos (by omega), if_pos (by omega), zbh (n := (L.length : Int) + (i : Int)) (by omega) (by omega), zbh (by omega) (by omega), zbh (by omega) (by omega)]
        show (za2.f k (O.getD (i : Int).toNat []) _ d p _).bind _ = _
        rw [Int.toNat_natCast, rdC hlt, h1]
        rfl
      · unfold zdo
        generalize zc8 a ((L.length : Int) + i + 1) d p L.length = q
        by_cases hq : q = z4
        · rw [if_pos hq]
          exact Ev.congr (fun k => if_neg (by rw [decide_eq_true hq]; decide)) (ih (i + 1) hr)
        · rw [if_neg hq]
          exact Ev.congr (fun k => if_pos (by rw [decide_eq_false hq]; rfl)) (Ev.now _)
  have lets : ∀ (r : List SL) (i : Nat), L.drop i = r → Ev (fun k => zaG.l0 k d p L (L.length : Int) (i : Int) L O) (zdN L d p (zdo d p L.length O 0) r i) := by
    intro r
    induction r with
    | nil =>
      intro i hd
      have : L.length ≤ i := by simpa using hd
      refine Ev.step (f := fun k => zaG.l1 k d p O (O.length : Int) 0 L O) (fun k => ?_) (outs O 0 rfl)
      simp only [zaG.l0]
      rw [if_neg (by omega)]
    | cons a r ih =>
      intro i hd
      obtain ⟨hlt, h1, hr⟩ := zbw hd
      have ha : a ∈ L := by rw [← h1]; exact List.getElem_mem _
      have hn := h.code a ha
      have j1 : ∀ b : Bool, b = (!(zb3 a.f0 && !zcy L i)) → Ev (fun k => zaG.j1 k d p (i : Int) L (L.length : Int) (i : Int) b L O a.f0 a.f1) (zdN L d p (zdo d p L.length O 0) (a :: r) i) := by
        intro b hb
        unfold zdN letQ
        cases b with
        | true =>
          have : ¬ (zb3 a.f0 = true ∧ zcy L i = false) := by
            rintro ⟨h1, h2⟩; rw [h1, h2] at hb; cases hb
          rw [if_neg this, if_neg (by unfold z4; simp)]
          refine Ev.step (f := fun _ => some ((2, (i : Int) + 1, 1, 0) : Q4)) (fun k => ?_) (Ev.now _)
          simp only [zaG.j1]
          rw [if_pos trivial, zbh (by omega) (by omega)]
        | false =>
          have : zb3 a.f0 = true ∧ zcy L i = false := by
            cases h1 : zb3 a.f0 <;> cases h2 : zcy L i <;> rw [h1, h2] at hb <;> simp at hb ⊢
          rw [if_pos this]
          refine Ev.step (f := fun k => (za2.f k a.f1 ((i : Int) + 1) d p (i : Int)).bind fun q => if (!decide (q = z4)) = true then some q else zaG.l0 k d p L (L.length : Int) ((i + 1 : Nat) : Int) L O) (fun k => ?_) (Ev.bind (zgW a.f1 hn.2 (by omega) _ d p _) ?_)
          · simp only [zaG.j1, ne4, eta4]
            rw [if_neg (by decide), zbh (by omega) (by omega)]
            rfl
          · generalize zc8 a.f1 ((i : Int) + 1) d p (i : Int) = q
            by_cases hq : q = z4
            · rw [if_pos hq]
              exact Ev.congr (fun k => if_neg (by rw [decide_eq_true hq]; decide)) (ih (i + 1) hr)
            · rw [if_neg hq]
              exact Ev.congr (fun k => if_pos (by rw [decide_eq_false hq]; rfl)) (Ev.now _)
      refine Ev.step (f := fun k => if zb3 a.f0 = true then (za4.f k L (i : Int)).bind fun t2 => zaG.j1 k d p (i : Int) L (L.length : Int) (i : Int) t2 L O a.f0 a.f1 else zaG.j1 k d p (i : Int) L (L.length : Int) (i : Int) true L O a.f0 a.f1) (fun k => ?_) ?_
      · simp only [zaG.l0]
        rw [if_pos (by omega), if_pos (by omega), if_pos (by omega), rdL hlt, h1, zjB a.f0 (h.name a ha)]
        rfl
      · cases hn2 : zb3 a.f0 with
        | true =>
          refine Ev.congr (fun k => if_pos rfl) (Ev.bind (zir L hl i hlt) (j1 _ ?_))
          rw [hn2]; simp
        | false => exact Ev.congr (fun k => if_neg (by decide)) (j1 true (by rw [hn2]; rfl))
  exact lets L 0 rfl
def refQ (q : Q4) : Bool × Int × Int × Int := if q = z4 then (false, 0, 0, 0) else (true, q.2)
theorem zlK {L : List RL} {O : List (List RN)} {m : Nat} (h : Fit (L.map zbM) (O.map (List.map toN)) m) (hm : m ≤ 1000000) (d p : Int) :
    Ev (fun k => zal.f k L O d p) (refQ (zdh (L.map zbM) (O.map (List.map toN)) d p)) := by
  have hl := h.lets
  have ho := h.outs
  rw [List.length_map] at hl ho
  have bad : Ev (fun k => zal.j0 k d p true L O) (true, 0, 0, 0) := by
    refine Ev.step (f := fun _ => some (true, 0, 0, 0)) (fun k => ?_) (Ev.now _)
    simp only [zal.j0]
    rw [if_pos trivial]
  have no : ¬ zdr (L.map zbM) (O.map (List.map toN)) d p = true → refQ (zdh (L.map zbM) (O.map (List.map toN)) d p) = (true, 0, 0, 0) := fun hw => by
    unfold zdh refQ
    rw [if_neg hw, if_neg (by unfold z4; simp)]
  unfold zdr at no
  rw [decide_eq_true_eq, List.length_map, List.length_map] at no
  unfold zal.f
  by_cases c1 : d < 1
  · rw [no (by omega)]; exact Ev.congr (fun k => if_pos c1) bad
  refine Ev.congr (fun k => if_neg c1) ?_
  by_cases c2 : 6 < d
  · rw [no (by omega)]; exact Ev.congr (fun k => if_pos c2) bad
  refine Ev.congr (fun k => if_neg c2) ?_
  by_cases c3 : p < 0
  · rw [no (by omega)]; exact Ev.congr (fun k => if_pos c3) bad
  refine Ev.congr (fun k => if_neg c3) ?_
  by_cases c4 : 6 < p
  · rw [no (by omega)]; exact Ev.congr (fun k => if_pos c4) bad
  refine Ev.congr (fun k => if_neg c4) ?_
  by_cases c5 : (O.length : Int) = d
  case neg => rw [no (by omega)]; exact Ev.congr (fun k => if_neg c5) bad
  refine Ev.congr (fun k => if_pos c5) ?_
  by_cases c6 : 10 < L.length
  · rw [no (by omega)]; exact Ev.congr (fun k => if_pos (by omega)) bad
  refine Ev.congr (fun k => if_neg (by omega)) (Ev.bind (zjV h hm) ?_)
  by_cases c7 : 300 < zb1 (zb2 (L.map zbM) (O.map (List.map toN)))
  · rw [no (by omega), decide_eq_true (by omega)]; exact bad
  rw [decide_eq_false (by omega)]
  have hw : zdr (L.map zbM) (O.map (List.map toN)) d p = true := by
    unfold zdr
    rw [decide_eq_true_eq, List.length_map, List.length_map]
    omega
  unfold zdh
  rw [if_pos hw]
  clear no c1 c2 c3 c4 c6 c7 hw
  refine Ev.step (f := fun k => (zax.f k L O).bind fun t => zal.l0 k d p t 0 L O) (fun k => ?_) (Ev.bind (zgT hl ho) ?_)
  · simp only [zal.j0]
    rw [if_neg (by decide)]
  have hC : ∀ i, (hi : i < (L.map (·.f1) ++ O).length) → ∀ c, (L.map (·.f1) ++ O)[i] = c → (c.map toN).length ≤ m ∧ ∀ n ∈ c.map toN, Nw n := by
    intro i hi c hc
    have hmem : c ∈ L.map (·.f1) ++ O := by rw [← hc]; exact List.getElem_mem _
    rcases List.mem_append.1 hmem with hc | hc
    · obtain ⟨x, hx, rfl⟩ := List.mem_map.1 hc
      exact h.code (zbM x) (List.mem_map.2 ⟨x, hx, rfl⟩)
    · exact h.out _ (List.mem_map.2 ⟨c, hc, rfl⟩)
  have j3 : ∀ (i : Nat) (c : List RN) (hi : i < (L.map (·.f1) ++ O).length), (L.map (·.f1) ++ O)[i] = c → i < 1000 → ∀ (l : Int) (R : Q4), Ev (fun k => zal.l0 k d p (L.map (·.f1) ++ O) ((i + 1 : Nat) : Int) L O) (refQ R) →
      Ev (fun k => zal.j3 k d p (L.map (·.f1) ++ O) (i : Int) l L O) (refQ (if zc8 (c.map toN) ((i : Int) + 1) d p l = z4 then R else zc8 (c.map toN) ((i : Int) + 1) d p l)) := by
    intro i c hi hc hi2 l R hk
    obtain ⟨f1, f2⟩ := hC i hi c hc
    rw [List.length_map] at f1
    have f3 : ∀ x ∈ c, Nw (toN x) := fun x hx => f2 _ (List.mem_map.2 ⟨x, hx, rfl⟩)
    generalize hD : L.map (·.f1) ++ O = D at *
    refine Ev.step (f := fun k => (zaA.f k c d p l).bind fun t => if t ≥ 0 then some (true, (i : Int) + 1, 0, t) else (zaZ.f k c).bind fun t2 => if t2 > 40 then some (true, (i : Int) + 1, 0, (c.length : Int)) else zal.l0 k d p D ((i + 1 : Nat) : Int) L O) (fun k => ?_) (Ev.bind (zjr c f3 (by omega) d p l) ?_)
    · simp only [zal.j3]
      have e : D.getD (i : Int).toNat [] = c := by rw [Int.toNat_natCast, rdRC hi, hc]
      rw [if_pos (by omega), if_pos (by omega), zbh (n := (i : Int) + 1) (by omega) (by omega)]
      show (zaA.f k (D.getD (i : Int).toNat []) d p l).bind (fun t => if t ≥ 0 then some (true, (i : Int) + 1, 0, t) else (zaZ.f k (D.getD (i : Int).toNat [])).bind fun t2 => if t2 > 40 then some (true, (i : Int) + 1, 0, ((D.getD (i : Int).toNat []).length : Int)) else zal.l0 k d p D ((i : Int) + 1) L O) = _
      rw [e]
      rfl
    · unfold zc8
      generalize zdD (c.map toN) d p l = a
      by_cases ha : a < 0
      · refine Ev.congr (fun k => if_neg (by omega)) (Ev.bind (zi3 c (by omega)) ?_)
        rw [if_pos ha]
        by_cases h40 : 40 < zcN (c.map toN)
        · have ne : ¬ ((2, (i : Int) + 1, 0, ((c.map toN).length : Int)) : Q4) = z4 := by unfold z4; simp
          rw [if_pos h40, if_neg ne]
          unfold refQ
          rw [if_neg ne, List.length_map]
          exact Ev.congr (fun k => if_pos h40) (Ev.now _)
        · rw [if_neg h40, if_pos rfl]
          exact Ev.congr (fun k => if_neg h40) hk
      · have ne : ¬ ((2, (i : Int) + 1, 0, a) : Q4) = z4 := by unfold z4; simp
        rw [if_neg ha, if_neg ne]
        unfold refQ
        rw [if_neg ne]
        exact Ev.congr (fun k => if_pos (by omega)) (Ev.now _)
  have mnL : ∀ i : Nat, mn (i : Int) (L.length : Int) = if L.length < i then (L.length : Int) else (i : Int) := fun i => by unfold mn; split <;> split <;> omega
  have outs : ∀ (r : List (List RN)) (i : Nat), O.drop i = r → i ≤ O.length → Ev (fun k => zal.l0 k d p (L.map (·.f1) ++ O) ((L.length + i : Nat) : Int) L O) (refQ (zdo d p L.length (r.map (List.map toN)) i)) := by
    intro r
    induction r with
    | nil =>
      intro i hd hi
      have : O.length ≤ i := by simpa using hd
      refine Ev.step (f := fun _ => some (false, 0, 0, 0)) (fun k => ?_) (Ev.now _)
      simp only [zal.l0]
      rw [if_neg (by simp; omega)]
    | cons a r ih =>
      intro i hd hi
      obtain ⟨hlt, h1, hr⟩ := zbw hd
      have hg : L.length + i < (L.map (·.f1) ++ O).length := by simp; omega
      have hgc : (L.map (·.f1) ++ O)[L.length + i] = a := by
        rw [List.getElem_append_right (by simp)]
        simp [h1]
      have := j3 (L.length + i) a hg hgc (by omega) (L.length : Int) (zdo d p L.length (r.map (List.map toN)) (i + 1)) (ih (i + 1) hr (by omega))
      refine Ev.step (f := fun k => zal.j3 k d p (L.map (·.f1) ++ O) ((L.length + i : Nat) : Int) (L.length : Int) L O) (fun k => ?_) ?_
      · simp only [zal.l0]
        rw [if_pos (by omega), if_neg (by omega), mnL]
        congr 1
        split <;> omega
      · rw [List.map_cons]
        unfold zdo
        have e : ((L.length + i : Nat) : Int) + 1 = (L.length : Int) + i + 1 := by omega
        rw [e] at this
        exact this
  have lets : ∀ (r : List RL) (i : Nat), L.drop i = r → i ≤ L.length → Ev (fun k => zal.l0 k d p (L.map (·.f1) ++ O) (i : Int) L O) (refQ (zdN (L.map zbM) d p (zdo d p L.length (O.map (List.map toN)) 0) (r.map zbM) i)) := by
    intro r
    induction r with
    | nil =>
      intro i hd hi
      have : L.length ≤ i := by simpa using hd
      obtain rfl : i = L.length := by omega
      exact outs O 0 rfl (by omega)
    | cons a r ih =>
      intro i hd hi
      obtain ⟨hlt, h1, hr⟩ := zbw hd
      have ha : a ∈ L := by rw [← h1]; exact List.getElem_mem _
      have hg : i < (L.map (·.f1) ++ O).length := by simp; omega
      have hgc : (L.map (·.f1) ++ O)[i] = a.f1 := by
        rw [List.getElem_append_left (by simpa using hlt)]
        simp [h1]
      have hx : ((L.map zbM).getD i z127).f0 = a.f0 := by simp [List.getD_eq_getElem?_getD, hlt, h1, zbM]
      have hj := j3 i a.f1 hg hgc (by omega) (i : Int) _ (ih (i + 1) hr (by omega))
      have tw : ∀ (n j : Nat) (right : Bool), i - j = n → j ≤ i → right = (zb3 a.f0 && !(((L.map zbM).take j).any fun x => decide (toL x.f0 = toL a.f0))) →
          Ev (fun k => zal.l1 k d p (L.map (·.f1) ++ O) (i : Int) (i : Int) right (j : Int) L O) (refQ (zdN (L.map zbM) d p (zdo d p L.length (O.map (List.map toN)) 0) ((a :: r).map zbM) i)) := by
        intro n
        induction n with
        | zero =>
          intro j right hn hj2 hright
          obtain rfl : j = i := by omega
          have htw : zcy (L.map zbM) j = ((L.map zbM).take j).any fun x => decide (toL x.f0 = toL a.f0) := by unfold zcy; rw [hx]
          rw [← htw] at hright
          rw [List.map_cons]
          unfold zdN letQ
          show Ev _ (refQ (if (if zb3 a.f0 = true ∧ zcy (L.map zbM) j = false then zc8 (a.f1.map toN) ((j : Int) + 1) d p (j : Int) else (2, (j : Int) + 1, 1, 0)) = z4 then _ else (if zb3 a.f0 = true ∧ zcy (L.map zbM) j = false then zc8 (a.f1.map toN) ((j : Int) + 1) d p (j : Int) else (2, (j : Int) + 1, 1, 0))))
          cases right with
          | true =>
            have : zb3 a.f0 = true ∧ zcy (L.map zbM) j = false := by
              cases h1 : zb3 a.f0 <;> cases h2 : zcy (L.map zbM) j <;> rw [h1, h2] at hright <;> simp at hright ⊢
            rw [if_pos this]
            refine Ev.step (f := fun k => zal.j3 k d p (L.map (·.f1) ++ O) (j : Int) (j : Int) L O) (fun k => ?_) hj
            simp only [zal.l1]
            rw [if_neg (by omega), if_pos trivial]
          | false =>
            have : ¬ (zb3 a.f0 = true ∧ zcy (L.map zbM) j = false) := by
              rintro ⟨h1, h2⟩; rw [h1, h2] at hright; cases hright
            have ne : ¬ ((2, (j : Int) + 1, 1, 0) : Q4) = z4 := by unfold z4; simp
            rw [if_neg this, if_neg ne]
            unfold refQ
            rw [if_neg ne]
            refine Ev.step (f := fun _ => some (true, (j : Int) + 1, 1, 0)) (fun k => ?_) (Ev.now _)
            simp only [zal.l1]
            rw [if_neg (by omega), if_neg (by decide), zbh (by omega) (by omega)]
        | succ n ihn =>
          intro j right hn hj2 hright
          have hjl : j < L.length := by omega
          have hsucc : (((L.map zbM).take (j + 1)).any fun x => decide (toL x.f0 = toL a.f0)) = ((((L.map zbM).take j).any fun x => decide (toL x.f0 = toL a.f0)) || decide (toL L[j].f0 = toL a.f0)) := by
            rw [List.take_succ_eq_append_getElem (by simpa using hjl), List.any_append]
            simp [zbM]
          refine Ev.step (f := fun k => zal.l1 k d p (L.map (·.f1) ++ O) (i : Int) (i : Int) (right && !decide (toL L[j].f0 = toL a.f0)) ((j + 1 : Nat) : Int) L O) (fun k => ?_) (ihn (j + 1) (right && !decide (toL L[j].f0 = toL a.f0)) (by omega) (by omega) (by rw [hsucc, hright]; cases zb3 a.f0 <;> simp))
          simp only [zal.l1]
          rw [if_pos (by omega), zbh (by omega) (by omega)]
          cases right with
          | true =>
            rw [if_pos rfl, if_pos (by omega), if_pos (by omega), if_pos (by omega), if_pos (by omega), rdRL hjl, rdRL hlt, h1, toList_eq, toList_eq, Bool.true_and, show (toL L[j].f0 != toL a.f0) = !decide (toL L[j].f0 = toL a.f0) by rw [Bool.eq_iff_iff]; simp]
            rfl
          | false => rw [if_neg (by decide)]; rfl
      refine Ev.step (f := fun k => zal.l1 k d p (L.map (·.f1) ++ O) (i : Int) (i : Int) (zb3 a.f0) 0 L O) (fun k => ?_) (tw i 0 _ (by omega) (by omega) (by simp))
      simp only [zal.l0]
      rw [if_pos (by omega), if_pos (by omega), if_pos (by omega), rdRL hlt, h1, zjF a.f0 (h.name (zbM a) (List.mem_map.2 ⟨a, ha, rfl⟩)), mnL, if_neg (by omega)]
      rfl
  rw [List.length_map]
  exact lets L 0 rfl (by omega)
end Go.Proofs.YtbicjgaadknmfaaDoor.M
end
