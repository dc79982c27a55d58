import Derived.Test.YtbicjgaadknmfaaDoorQ1
import Derived.Test.YtbicjgaadknmfaaDoorQ8
import Derived.Test.YtbicjgaadknmfaaDoorQ6
section
namespace Go.Proofs.YtbicjgaadknmfaaDoor.P
open Go.RowKit Go.Proofs.YtbicjgaadknmfaaDoorW.PrintWords Go.Proofs.YtbicjgaadknmfaaDoorW.PrintLast Go.Proofs.YtbicjgaadknmfaaDoorW.PrintMore
attribute [local go_sem] zco zcn zce zcf zbU zbT zb5 zb3
set_option linter.unusedVariables false
set_option linter.unusedSimpArgs false
mutual
def zaq.l0 : Nat → Int → List (S121) → List (List (S62)) → List (S127) → Option ((List (S127)) × (List (List (S60))))
 | 0, _, _, _, _ => none
 | k + 1, x4, x300000, x300001, x302000 => if x4 < (x300000.length : Int) then (if 0 ≤ x4 then ((zaF.f k ((zbi x300000 x4).f1)).bind fun t304 => (if x302000.length < 3518437208883 then (zaq.l0 k (wrap64 (x4 + 1)) x300000 x300001 (x302000 ++ [(⟨(zbi x300000 x4).f0, t304⟩ : S127)])) else (none))) else (none)) else (zaq.l1 k 0 x300000 x300001 x302000 ([] : List (List (S60))))
def zaq.l1 : Nat → Int → List (S121) → List (List (S62)) → List (S127) → List (List (S60)) → Option ((List (S127)) × (List (List (S60))))
 | 0, _, _, _, _, _ => none
 | k + 1, x5, x300000, x300001, x302000, x302001 => if x5 < (x300001.length : Int) then (if 0 ≤ x5 then ((zaF.f k (zbH x300001 x5)).bind fun t311 => (if x302001.length < 5864062014805 then (zaq.l1 k (wrap64 (x5 + 1)) x300000 x300001 x302000 (x302001 ++ [t311])) else (none))) else (none)) else (some (x302000, x302001))
end
def zaq.f (k : Nat) (l0_0 : List (S121)) (l0_1 : List (List (S62))) : Option ((List (S127)) × (List (List (S60)))) := zaq.l0 k 0 l0_0 l0_1 ([] : List (S127))
theorem zaq.zaX : ∀ k, (∀ y0 y1 y2 y3, LeO (zaq.l0 k y0 y1 y2 y3) (zaq.l0 (k + 1) y0 y1 y2 y3)) ∧ (∀ y0 y1 y2 y3 y4, LeO (zaq.l1 k y0 y1 y2 y3 y4) (zaq.l1 (k + 1) y0 y1 y2 y3 y4))
 | 0 => ⟨fun _ _ _ _ r h => by simp [zaq.l0] at h, fun _ _ _ _ _ r h => by simp [zaq.l1] at h⟩
 | k + 1 => by
  obtain ⟨ih0, ih1⟩ := zaq.zaX k
  refine ⟨?_, ?_⟩
  ·intro y0 y1 y2 y3
   unfold zaq.l0
   repeat' first
   | (with_reducible exact ih0 _ _ _ _)
   | (with_reducible exact ih1 _ _ _ _ _)
   | (with_reducible exact zaF.mono _ _)
   | (with_reducible exact LeO.refl _)
   | (with_reducible exact LeO.none _)
   | (with_reducible refine LeO.ite ?_ ?_)
   | (with_reducible refine LeO.bind ?_ (fun _ => ?_))
   | exact ih0 _ _ _ _
   | exact ih1 _ _ _ _ _
   | exact zaF.mono _ _
   | exact LeO.none _
   | refine LeO.ite ?_ ?_
   | refine LeO.bind ?_ (fun _ => ?_)
  ·intro y0 y1 y2 y3 y4
   unfold zaq.l1
   repeat' first
   | (with_reducible exact ih0 _ _ _ _)
   | (with_reducible exact ih1 _ _ _ _ _)
   | (with_reducible exact zaF.mono _ _)
   | (with_reducible exact LeO.refl _)
   | (with_reducible exact LeO.none _)
   | (with_reducible refine LeO.ite ?_ ?_)
   | (with_reducible refine LeO.bind ?_ (fun _ => ?_))
   | exact ih0 _ _ _ _
   | exact ih1 _ _ _ _ _
   | exact zaF.mono _ _
   | exact LeO.none _
   | refine LeO.ite ?_ ?_
   | refine LeO.bind ?_ (fun _ => ?_)
theorem zaq.mono : ∀ a0 a1 k, LeO (zaq.f k a0 a1) (zaq.f (k + 1) a0 a1) := by
 intro a0 a1 k
 obtain ⟨ih0, ih1⟩ := zaq.zaX k
 unfold zaq.f
 repeat' first
   | (with_reducible exact ih0 _ _ _ _)
   | (with_reducible exact ih1 _ _ _ _ _)
   | (with_reducible exact zaF.mono _ _)
   | (with_reducible exact LeO.refl _)
   | (with_reducible exact LeO.none _)
   | (with_reducible refine LeO.ite ?_ ?_)
   | (with_reducible refine LeO.bind ?_ (fun _ => ?_))
   | exact ih0 _ _ _ _
   | exact ih1 _ _ _ _ _
   | exact zaF.mono _ _
   | exact LeO.none _
   | refine LeO.ite ?_ ?_
   | refine LeO.bind ?_ (fun _ => ?_)
def zaq.T5 : Bool × List (List Nat × List Nat) := (true, [([], []), ([0], [0]), ([], []), ([2], [2]), ([], []), ([3, 4], [3, 4]), ([5], [5]), ([6], [6]), ([], []), ([8], [8]), ([], []), ([9, 10], [9, 10]), ([11], [11]), ([12], [12]), ([13], [13]), ([7, 14], [7, 14]), ([15], [15]), ([1, 16, 14], [1, 16]), ([0, 1, 2, 3, 4, 5, 6, 7, 8, 9, 10, 11, 12, 13, 14, 15, 16, 17], []), ([18, 17, 17, 0, 1, 2, 3, 4, 5, 6, 7, 8, 9, 10, 11, 12, 13, 14, 15, 16, 17], [17, 18])])
def zaq.B5 : List Nat := [0, 1, 0, 4, 0, 28, 60, 124, 0, 256, 0, 1792, 3840, 7936, 16128, 32764, 65532, 131071, 262143, 524287]
theorem zaq.tab5 : rtab .any (opsOf Tryd.f27 5) = zaq.T5 := by kernel_rfl
theorem zaq.zfG : zcN zaq.T5.2 zaq.B5 = true := by kernel_rfl
def zaq.T9 : Bool × List (List Nat × List Nat) := (true, [([], []), ([0], [0]), ([], []), ([2], [2]), ([], []), ([3, 4], [3, 4]), ([5], [5]), ([6], [6]), ([7], [7]), ([1, 8, 7], [1, 8]), ([0, 1, 2, 3, 4, 5, 6, 7, 8, 9], []), ([10, 9, 9, 0, 1, 2, 3, 4, 5, 6, 7, 8, 9], [9, 10])])
def zaq.B9 : List Nat := [0, 1, 0, 4, 0, 28, 60, 124, 252, 511, 1023, 2047]
theorem zaq.tab9 : rtab .any (opsOf Tryd.f27 9) = zaq.T9 := by kernel_rfl
theorem zaq.zkR : zcN zaq.T9.2 zaq.B9 = true := by kernel_rfl
set_option maxHeartbeats 8000000 in
set_option maxRecDepth 100000 in
theorem zaq.calls (k : Nat) (P0_0_ : Nat → Prop) (A0_0 : Option Addr) (c0_0 : Nat) (l0_0 : List (S121)) (P0_1_ : Nat → Prop) (A0_1 : Option Addr) (c0_1 : Nat) (l0_1 : List (List (S62))) (r1 : List (S127)) (r2 : List (List (S60))) (w : World) (hs0_0 : Kd.V k121 121 w w.heap.size (fun k_ => P0_0_ k_) (.slice A0_0 l0_0.length c0_0) l0_0) (hs0_1 : Kd.V (Kd.slice 62 k62) 54 w w.heap.size (fun k_ => P0_1_ k_) (.slice A0_1 l0_1.length c0_1) l0_1) (h : zaq.f k l0_0 l0_1 = some (r1, r2)) :
  Calls Tryd.prog 27 #[.agg #[.slice A0_0 l0_0.length c0_0, .slice A0_1 l0_1.length c0_1]] w fun e w' => ∃ v0_ v1_ : Value, e = .returned (.agg #[v0_, v1_]) ∧ Kd.N k127 127 w' w.heap.size (fun k_ => ((P0_0_ k_ ∨ P0_1_ k_) ∨ w.heap.size ≤ k_) ∧ some k_ ≠ (v1_ : Value).ownBlock) v0_ r1 ∧ Kd.N (Kd.slice 60 k60) 56 w' w.heap.size (fun k_ => ((P0_0_ k_ ∨ P0_1_ k_) ∨ w.heap.size ≤ k_) ∧ some k_ ≠ (v0_ : Value).ownBlock) v1_ r2 ∧ Below w.heap.size w w' := by
 have hu41 := Tryd.underlying41
 have hu50 := Tryd.underlying50
 have hu127 := Tryd.underlying127
 have HO0_0 := zaa.mk (show Kd.V k121 121 w w.heap.size (fun k_ => ((P0_0_ k_ ∨ P0_1_ k_) ∨ w.heap.size ≤ k_)) (.slice A0_0 l0_0.length c0_0) l0_0 from Kd.zbB hs0_0 (fun k_ hk => .inl (.inl hk)))
 have HO0_1 := zaa.mk (show Kd.V (Kd.slice 62 k62) 54 w w.heap.size (fun k_ => ((P0_0_ k_ ∨ P0_1_ k_) ∨ w.heap.size ≤ k_)) (.slice A0_1 l0_1.length c0_1) l0_1 from Kd.zbB hs0_1 (fun k_ hk => .inl (.inr hk)))
 have HB := zaa.mk (Below.refl w.heap.size w)
 have H : (zaq.l0 k 0 l0_0 l0_1 ([] : List (S127))) = some (r1, r2) := h
 clear h
 have H' := zaa.mk H
 clear H
 go_enter Tryd.func27, Tryd.ntmps27
 go_wp2_with (first | ((with_reducible refine za8 (N := 1) rfl ?_); refine za6 ?hg (N := 1) ?hd (cs := #[.slice A0_0 l0_0.length c0_0, .slice A0_1 l0_1.length c0_1]) (t := 41) ?hr ?_; (case hd => rfl); (case hg => rfl); (case hr => first | (go_simp; done) | (go_simp; rfl)); intro gb299 hg w2 hbox hb; have n0_ := zaa.mk (Kd.zcv (Kd.zdf (by (with_reducible repeat (first | apply Kd.zbd | apply Kd.zbc | apply Kd.zbg)); exact HO0_0.out) gb299 (Nat.le_of_eq hg.symm)) hb); have n1_ := zaa.mk (Kd.zcv (Kd.zdf (by (with_reducible repeat (first | apply Kd.zbd | apply Kd.zbc | apply Kd.zbg)); exact HO0_1.out) gb299 (Nat.le_of_eq hg.symm)) hb); have n2_ := zaa.mk (zat (by repeat (first | (with_reducible first | exact HB.out | apply zac | apply zab | apply zad) | exact HB.out)) hb); have n3_ := zaa.mk (hbox); have n4_ := zaa.mk ((by rw [hg]; exact (zas (by repeat (first | (with_reducible first | exact HB.out | apply zac | apply zab | apply zad) | exact HB.out))) : w.heap.size ≤ gb299)); have n5_ := zaa.mk ((by rw [hg]; exact (zas (by repeat (first | (with_reducible first | exact HB.out | apply zac | apply zab | apply zad) | exact HB.out))) : w.heap.size ≤ gb299)); clear HO0_0; clear HO0_1; clear HB; have HO0_0 := n0_; have HO0_1 := n1_; have HB := n2_; have BK299 := n3_; have GW299 := n4_; have GE299 := n5_; clear n0_ n1_ n2_ n3_ n4_ n5_; clear hb hbox hg) | ((with_reducible refine za8 (N := 2) rfl ?_); refine za6 ?hg (N := 2) ?hd (cs := #[.slice none 0 0, .slice none 0 0]) (t := 50) ?hr ?_; (case hd => rfl); (case hg => rfl); (case hr => first | (go_simp; done) | (go_simp; rfl)); intro gb300 hg w3 hbox hb; have n0_ := zaa.mk (Kd.zcv (Kd.zdf (by (with_reducible repeat (first | apply Kd.zbd | apply Kd.zbc | apply Kd.zbg)); exact HO0_0.out) gb300 (Nat.le_of_eq hg.symm)) hb); have n1_ := zaa.mk (Kd.zcv (Kd.zdf (by (with_reducible repeat (first | apply Kd.zbd | apply Kd.zbc | apply Kd.zbg)); exact HO0_1.out) gb300 (Nat.le_of_eq hg.symm)) hb); have n2_ := zaa.mk (zaE (g := gb299) (o := .cells #[.slice A0_0 l0_0.length c0_0, .slice A0_1 l0_1.length c0_1] 41 (0, 0)) (by (with_reducible repeat (first | refine zaf ?_ _ | refine zai ?_ | refine zae ?_ _)); exact BK299.out) hb); have n3_ := zaa.mk (zat (by repeat (first | (with_reducible first | exact HB.out | apply zac | apply zab | apply zad | refine zah ?_ GE299.out) | exact HB.out)) hb); have n4_ := zaa.mk (hbox); have n5_ := zaa.mk ((by rw [hg]; exact (zas (by repeat (first | (with_reducible first | exact HB.out | apply zac | apply zab | apply zad | refine zah ?_ GE299.out) | exact HB.out))) : w.heap.size ≤ gb300)); have n6_ := zaa.mk ((by rw [hg]; exact (zas (by repeat (first | (with_reducible first | exact HB.out | apply zac | apply zab | apply zad | refine zah ?_ GE299.out) | exact HB.out))) : w.heap.size ≤ gb300)); have n7_ := zaa.mk ((by rw [hg]; exact Nat.ne_of_lt (zbq (g := gb299) (o := .cells #[.slice A0_0 l0_0.length c0_0, .slice A0_1 l0_1.length c0_1] 41 (0, 0)) (by (with_reducible repeat (first | refine zaf ?_ _ | refine zai ?_ | refine zae ?_ _)); exact BK299.out)) : gb299 ≠ gb300)); have n8_ := zaa.mk ((by rw [hg]; exact Nat.ne_of_gt (zbq (g := gb299) (o := .cells #[.slice A0_0 l0_0.length c0_0, .slice A0_1 l0_1.length c0_1] 41 (0, 0)) (by (with_reducible repeat (first | refine zaf ?_ _ | refine zai ?_ | refine zae ?_ _)); exact BK299.out)) : gb300 ≠ gb299)); clear HO0_0; clear HO0_1; clear BK299; clear HB; have HO0_0 := n0_; have HO0_1 := n1_; have BK299 := n2_; have HB := n3_; have BK300 := n4_; have GW300 := n5_; have GE300 := n6_; have NB299_300 := n7_; have NB300_299 := n8_; clear n0_ n1_ n2_ n3_ n4_ n5_ n6_ n7_ n8_; clear hb hbox hg) | ((with_reducible refine za8 (N := 3) rfl ?_); refine za6 ?hg (N := 3) ?hd (cs := #[.slice none 0 0, .slice none 0 0]) (t := 50) ?hr ?_; (case hd => rfl); (case hg => rfl); (case hr => first | (go_simp; done) | (go_simp; rfl)); intro gb301 hg w4 hbox hb; have n0_ := zaa.mk (Kd.zcv (Kd.zdf (by (with_reducible repeat (first | apply Kd.zbd | apply Kd.zbc | apply Kd.zbg)); exact HO0_0.out) gb301 (Nat.le_of_eq hg.symm)) hb); have n1_ := zaa.mk (Kd.zcv (Kd.zdf (by (with_reducible repeat (first | apply Kd.zbd | apply Kd.zbc | apply Kd.zbg)); exact HO0_1.out) gb301 (Nat.le_of_eq hg.symm)) hb); have n2_ := zaa.mk (zaE (g := gb299) (o := .cells #[.slice A0_0 l0_0.length c0_0, .slice A0_1 l0_1.length c0_1] 41 (0, 0)) (by (with_reducible repeat (first | refine zaf ?_ _ | refine zai ?_ | refine zae ?_ _)); exact BK299.out) hb); have n3_ := zaa.mk (zaE (g := gb300) (o := .cells #[.slice none 0 0, .slice none 0 0] 50 (0, 0)) (by (with_reducible repeat (first | refine zaf ?_ _ | refine zai ?_ | refine zae ?_ _)); exact BK300.out) hb); have n4_ := zaa.mk (zat (by repeat (first | (with_reducible first | exact HB.out | apply zac | apply zab | apply zad | refine zah ?_ GE299.out | refine zah ?_ GE300.out) | exact HB.out)) hb); have n5_ := zaa.mk (hbox); have n6_ := zaa.mk ((by rw [hg]; exact (zas (by repeat (first | (with_reducible first | exact HB.out | apply zac | apply zab | apply zad | refine zah ?_ GE299.out | refine zah ?_ GE300.out) | exact HB.out))) : w.heap.size ≤ gb301)); have n7_ := zaa.mk ((by rw [hg]; exact (zas (by repeat (first | (with_reducible first | exact HB.out | apply zac | apply zab | apply zad | refine zah ?_ GE299.out | refine zah ?_ GE300.out) | exact HB.out))) : w.heap.size ≤ gb301)); have n8_ := zaa.mk ((by rw [hg]; exact Nat.ne_of_lt (zbq (g := gb299) (o := .cells #[.slice A0_0 l0_0.length c0_0, .slice A0_1 l0_1.length c0_1] 41 (0, 0)) (by (with_reducible repeat (first | refine zaf ?_ _ | refine zai ?_ | refine zae ?_ _)); exact BK299.out)) : gb299 ≠ gb301)); have n9_ := zaa.mk ((by rw [hg]; exact Nat.ne_of_gt (zbq (g := gb299) (o := .cells #[.slice A0_0 l0_0.length c0_0, .slice A0_1 l0_1.length c0_1] 41 (0, 0)) (by (with_reducible repeat (first | refine zaf ?_ _ | refine zai ?_ | refine zae ?_ _)); exact BK299.out)) : gb301 ≠ gb299)); have n10_ := zaa.mk ((by rw [hg]; exact Nat.ne_of_lt (zbq (g := gb300) (o := .cells #[.slice none 0 0, .slice none 0 0] 50 (0, 0)) (by (with_reducible repeat (first | refine zaf ?_ _ | refine zai ?_ | refine zae ?_ _)); exact BK300.out)) : gb300 ≠ gb301)); have n11_ := zaa.mk ((by rw [hg]; exact Nat.ne_of_gt (zbq (g := gb300) (o := .cells #[.slice none 0 0, .slice none 0 0] 50 (0, 0)) (by (with_reducible repeat (first | refine zaf ?_ _ | refine zai ?_ | refine zae ?_ _)); exact BK300.out)) : gb301 ≠ gb300)); clear HO0_0; clear HO0_1; clear BK299; clear BK300; clear HB; have HO0_0 := n0_; have HO0_1 := n1_; have BK299 := n2_; have BK300 := n3_; have HB := n4_; have BK301 := n5_; have GW301 := n6_; have GE301 := n7_; have NB299_301 := n8_; have NB301_299 := n9_; have NB300_301 := n10_; have NB301_300 := n11_; clear n0_ n1_ n2_ n3_ n4_ n5_ n6_ n7_ n8_ n9_ n10_ n11_; clear hb hbox hg))
 go_loopg [4] k (fun kq v4 w' => ∃ (x4_1 : Int) (x302000_1 : List (S127)) (u302000 : Value), v4 = .int .i64 x4_1 ∧ zaa (zaq.l0 kq x4_1 l0_0 l0_1 x302000_1 = some (r1, r2)) ∧ zaa (kq ≤ k) ∧ zaa (Kd.V k121 121 w' w.heap.size (fun k_ => ((P0_0_ k_ ∨ P0_1_ k_) ∨ w.heap.size ≤ k_) ∧ some k_ ≠ (u302000 : Value).ownBlock ∧ k_ ≠ gb299 ∧ k_ ≠ gb300 ∧ k_ ≠ gb301) (.slice A0_0 l0_0.length c0_0) l0_0) ∧ zaa (Kd.V (Kd.slice 62 k62) 54 w' w.heap.size (fun k_ => ((P0_0_ k_ ∨ P0_1_ k_) ∨ w.heap.size ≤ k_) ∧ some k_ ≠ (u302000 : Value).ownBlock ∧ k_ ≠ gb299 ∧ k_ ≠ gb300 ∧ k_ ≠ gb301) (.slice A0_1 l0_1.length c0_1) l0_1) ∧ zaa (Kd.N k127 127 w' w.heap.size (fun k_ => ((P0_0_ k_ ∨ P0_1_ k_) ∨ w.heap.size ≤ k_) ∧ k_ ≠ gb299 ∧ k_ ≠ gb300 ∧ k_ ≠ gb301) u302000 x302000_1) ∧ zaa (w'.heap[gb299]? = some (.cells #[(.slice A0_0 l0_0.length c0_0), (.slice A0_1 l0_1.length c0_1)] 41 (0, 0))) ∧ zaa (w'.heap[gb300]? = some (.cells #[(.slice none 0 0), (.slice none 0 0)] 50 (0, 0))) ∧ zaa (w'.heap[gb301]? = some (.cells #[u302000, (.slice none 0 0)] 50 (0, 0))) ∧ zaa (Below w.heap.size w w'))
 case atStart => exact ⟨(0), (([] : List (S127))), (.slice none 0 0), (by first | rfl | (simp; done) | (simp [*]; done)), H', ⟨Nat.le_refl _⟩, ⟨by (with_reducible repeat (first | apply Kd.zbd | apply Kd.zbc | apply Kd.zbg)); exact Kd.zbB HO0_0.out (fun _ hk => ⟨hk.1.1.1, ⟨(by simp [Value.ownBlock]), ⟨hk.1.1.2, ⟨hk.1.2, hk.2⟩⟩⟩⟩)⟩, ⟨by (with_reducible repeat (first | apply Kd.zbd | apply Kd.zbc | apply Kd.zbg)); exact Kd.zbB HO0_1.out (fun _ hk => ⟨hk.1.1.1, ⟨(by simp [Value.ownBlock]), ⟨hk.1.1.2, ⟨hk.1.2, hk.2⟩⟩⟩⟩)⟩, ⟨by first | exact Kd.zdd _ _ _ _ _ | exact Kd.zel _ _ _ _ _ | exact Kd.zej _ _ _ _ _ | exact Kd.zep _ _ _ _ _ | exact Kd.zei _ _ _ _ _⟩, ⟨by (with_reducible repeat (first | refine zaf ?_ _ | refine zai ?_ | refine zae ?_ _)); exact BK299.out⟩, ⟨by (with_reducible repeat (first | refine zaf ?_ _ | refine zai ?_ | refine zae ?_ _)); exact BK300.out⟩, ⟨by (with_reducible repeat (first | refine zaf ?_ _ | refine zai ?_ | refine zae ?_ _)); exact BK301.out⟩, ⟨by repeat (first | (with_reducible first | exact HB.out | apply zac | apply zab | apply zad | refine zah ?_ GE299.out | refine zah ?_ GE300.out | refine zah ?_ GE301.out) | exact HB.out)⟩⟩
 case round =>
  clear H'
  try clear c2
  try clear p2
  obtain ⟨x4_1, x302000_1, u302000, rfl, HA, HK1, HO_300000, HO_300001, HO_302000, BK299, BK300, BK301, HB⟩ := hrel
  cases gk with
  | zero => exact absurd HA.out (by simp [zaq.l0])
  | succ k1 =>
   have H := HA.out
   clear HA
   simp only [zaq.l0] at H
   by_cases c5 : x4_1 < (l0_0.length : Int)
   ·rw [if_pos c5] at H
    have c5b0 : decide (x4_1 < (l0_0.length : Int)) = true := decide_eq_true c5
    clear c5
    by_cases c6 : 0 ≤ x4_1
    ·rw [if_pos c6] at H
     have c6b0 : decide (0 ≤ x4_1) = true := decide_eq_true c6
     clear c6
     replace H := Option.bind_eq_some_iff.mp H
     obtain ⟨t304, A70, H⟩ := H
     replace H : (if x302000_1.length < 3518437208883 then (zaq.l0 k1 (wrap64 (x4_1 + 1)) l0_0 l0_1 (x302000_1 ++ [(⟨(zbi l0_0 x4_1).f0, t304⟩ : S127)])) else (none)) = some (r1, r2) := H
     have A7 := zaa.mk A70
     clear A70
     by_cases c8 : x302000_1.length < 3518437208883
     ·rw [if_pos c8] at H
      have LMc8 := zaa.mk c8
      clear c8
      obtain ⟨y307, hy307⟩ : ∃ y_ : List (S127), y_ = (x302000_1 ++ [(⟨(zbi l0_0 x4_1).f0, t304⟩ : S127)]) := ⟨_, rfl⟩
      replace H : (zaq.l0 k1 (wrap64 (x4_1 + 1)) l0_0 l0_1 y307) = some (r1, r2) := by first | (rw [hy307]; with_reducible exact H) | (have H2_ := (Option.bind_some _ _).symm.trans H; rw [hy307]; with_reducible exact H2_) | (have H2_ := (Option.bind_some _ _).symm.trans H; with_reducible exact H2_) | with_reducible exact H | (rw [hy307]; exact H) | exact H
      have Ny307 := zaa.mk hy307
      clear hy307
      have H' := zaa.mk H
      clear H
      have hnb9 := NB299_300.out
      have hnc9 := NB300_299.out
      have hnb10 := NB299_301.out
      have hnc10 := NB301_299.out
      have hcz11_0 : wr.cell? ⟨gb299, 0, none⟩ = some (.slice A0_0 l0_0.length c0_0) := (zaj BK299.out 0).trans rfl
      have hcz11_1 : wr.cell? ⟨gb299, 1, none⟩ = some (.slice A0_1 l0_1.length c0_1) := (zaj BK299.out 1).trans rfl
      have hfz11_0 := zak BK299.out 0
      have hfz11_1 := zak BK299.out 1
      try go_wp2
      have n0_ := zaa.mk (Kd.zbg HO_300000.out)
      have n1_ := zaa.mk (Kd.zbg HO_300001.out)
      have n2_ := zaa.mk (Kd.zbn HO_302000.out)
      have n3_ := zaa.mk (zai BK299.out)
      have n4_ := zaa.mk (zai BK300.out)
      have n5_ := zaa.mk (zai BK301.out)
      have n6_ := zaa.mk (zad HB.out)
      clear HO_300000
      clear HO_300001
      clear HO_302000
      clear BK299
      clear BK300
      clear BK301
      clear HB
      have HO_300000 := n0_
      have HO_300001 := n1_
      have HO_302000 := n2_
      have BK299 := n3_
      have BK300 := n4_
      have BK301 := n5_
      have HB := n6_
      clear n0_ n1_ n2_ n3_ n4_ n5_ n6_
      have p302 : 0 ≤ (x4_1 : Int) := of_decide_eq_true (by first | (with_reducible assumption) | assumption)
      have q302 : x4_1 < (l0_0.length : Int) := of_decide_eq_true (by first | (with_reducible assumption) | assumption)
      obtain ⟨ad302, A302_1, c302_1, e302, hx302_0, hx302_1, hl302_1, hi302_1⟩ := zcZ (Kd.zb8 HO_300000.out).2.2 x4_1 p302 q302
      cases e302
      obtain ⟨ce302, hce302, hMe302, hcc302⟩ := Kd.zeD HO_300000.out z121 x4_1 p302 (by first | exact q302 | exact of_decide_eq_true (by first | (with_reducible assumption) | assumption) | (have e_ := (Kd.zb8 HO_300000.out).1; omega))
      obtain ⟨ua302_1, uc302_1, rfl, ul302_1, ge302_1⟩ := zeA hMe302
      have hv302_1 := hcc302 1 _ rfl
      rw [zb0 _ _ 1 (by omega)] at hv302_1
      replace hv302_1 := Option.some.inj (hv302_1.symm.trans hx302_1)
      injection hv302_1 with hva_ hvn_ hvc_
      rw [hva_] at ge302_1
      rw [hvc_] at ul302_1
      have HL302_1 := zaa.mk (show Kd.V k62 62 _ w.heap.size _ _ ((zbi l0_0 x4_1).f1) from Kd.V_mk ul302_1 ge302_1)
      clear hva_ hvn_ hvc_ ge302_1 ul302_1
      clear hcc302 hce302
      have HR302_1 := zaa.mk hi302_1
      have HC302_1 := zaa.mk hl302_1
      clear hi302_1 hl302_1
      replace p302 := eq_true p302
      replace q302 := eq_true q302
      have p303 : 0 ≤ (x4_1 : Int) := of_decide_eq_true (by first | (with_reducible assumption) | assumption)
      have q303 : x4_1 < (l0_0.length : Int) := of_decide_eq_true (by first | (with_reducible assumption) | assumption)
      obtain ⟨ad303, A303_1, c303_1, e303, hx303_0, hx303_1, hl303_1, hi303_1⟩ := zcZ (Kd.zb8 HO_300000.out).2.2 x4_1 p303 q303
      obtain rfl : ad302 = ad303 := (by injection e303)
      obtain ⟨ce303, hce303, hMe303, hcc303⟩ := Kd.zeD HO_300000.out z121 x4_1 p303 (by first | exact q303 | exact of_decide_eq_true (by first | (with_reducible assumption) | assumption) | (have e_ := (Kd.zb8 HO_300000.out).1; omega))
      obtain ⟨ua303_1, uc303_1, rfl, ul303_1, ge303_1⟩ := zeA hMe303
      have hv303_1 := hcc303 1 _ rfl
      rw [zb0 _ _ 1 (by omega)] at hv303_1
      replace hv303_1 := Option.some.inj (hv303_1.symm.trans hx303_1)
      injection hv303_1 with hva_ hvn_ hvc_
      rw [hva_] at ge303_1
      rw [hvc_] at ul303_1
      have HL303_1 := zaa.mk (show Kd.V k62 62 _ w.heap.size _ _ ((zbi l0_0 x4_1).f1) from Kd.V_mk ul303_1 ge303_1)
      clear hva_ hvn_ hvc_ ge303_1 ul303_1
      clear hcc303 hce303
      have HR303_1 := zaa.mk hi303_1
      have HC303_1 := zaa.mk hl303_1
      clear hi303_1 hl303_1
      replace p303 := eq_true p303
      replace q303 := eq_true q303
      have ea_ := Option.some.inj (hx302_1.symm.trans hx303_1)
      injection ea_ with ea_ en_ ec_
      subst ea_
      subst ec_
      clear en_
      refine zc7 (n := 20) (S := fun w' => w'.cell? ⟨gb301, 0, none⟩ = some (u302000) ∧ w'.cell? ⟨gb301, 1, none⟩ = some (.slice none 0 0) ∧ w'.cell? ⟨gb299, 0, none⟩ = some (.slice (some ad302) l0_0.length c0_0) ∧ w'.cell? ⟨gb299, 1, none⟩ = some (.slice A0_1 l0_1.length c0_1) ∧ w'.cell? (ad302.add ((x4_1).toNat * 2)) = some (.string ((zbi l0_0 x4_1).f0)) ∧ w'.cell? ⟨(ad302.add ((x4_1).toNat * 2)).block, (ad302.add ((x4_1).toNat * 2)).off + 1, none⟩ = some (.slice A302_1 ((zbi l0_0 x4_1).f1).length c302_1) ∧ w'.cell? (ad302.add ((x4_1).toNat * 2)) = some (.string ((zbi l0_0 x4_1).f0)) ∧ w'.cell? ⟨(ad302.add ((x4_1).toNat * 2)).block, (ad302.add ((x4_1).toNat * 2)).off + 1, none⟩ = some (.slice A302_1 ((zbi l0_0 x4_1).f1).length c302_1)) (ds := [17, 19]) #[false, false, false, false, false, false, false, false, false, false, false, false, false, false, false, false, false, false, false, false] (by kernel_rfl) rfl rfl ⟨(zaj BK301.out 0).trans rfl, (zaj BK301.out 1).trans rfl, (zaj BK299.out 0).trans rfl, (zaj BK299.out 1).trans rfl, hx302_0, hx302_1, hx303_0, hx303_1⟩ (fun hHeld => ?_); refine zcp zaq.tab5 zaq.zfG (fun HT_ HW_ => ?_)
      generalize wr.drew = w12 at HO_300000 HO_300001 HO_302000 BK299 BK300 BK301 HB HL302_1 HL303_1 HR302_1 HR303_1 hx302_0 hx302_1 hx303_0 hx303_1 hHeld ⊢
      refine zaO (i := 0) (N := some 13) (v := ?_) (a' := ?_) #[true, false, false, false, false, false, false, false, false, false, false, false, false, false, false, false, false, false, false, false] rfl rfl (zaK HT_.out (by kernel_rfl)) (fun _ _ _ h => h) (Or.inl ⟨by rfl, ?_⟩) ?_ ?_
      rotate_left
      ·intro w'
       go_simp
       with_reducible rfl
      rotate_left
      ·simp only [Act.put, List.setIfInBounds_toArray, List.set_cons_zero, List.set_cons_succ, zax, zay]
       rfl
      refine zaO (i := 2) (N := some 15) (v := ?_) (a' := ?_) #[true, false, true, false, false, false, false, false, false, false, false, false, false, false, false, false, false, false, false, false] rfl rfl (zaK HT_.out (by kernel_rfl)) (fun _ _ _ h => h) (Or.inl ⟨by rfl, ?_⟩) ?_ ?_
      rotate_left
      ·intro w'
       go_simp
       with_reducible rfl
      rotate_left
      ·simp only [Act.put, List.setIfInBounds_toArray, List.set_cons_zero, List.set_cons_succ, zax, zay]
       rfl
      refine zaO (i := 4) (N := some 17) (v := ?_) (a' := ?_) #[true, false, true, false, true, false, false, false, false, false, false, false, false, false, false, false, false, false, false, false] rfl rfl (zaK HT_.out (by kernel_rfl)) (fun _ _ _ h => h) (Or.inl ⟨by rfl, ?_⟩) ?_ ?_
      rotate_left
      ·intro w'
       go_simp
       with_reducible rfl
      rotate_left
      ·simp only [Act.put, List.setIfInBounds_toArray, List.set_cons_zero, List.set_cons_succ, zax, zay]
       rfl
      refine zaO (i := 8) (N := some 21) (v := ?_) (a' := ?_) #[true, false, true, false, true, false, false, false, true, false, false, false, false, false, false, false, false, false, false, false] rfl rfl (zaK HT_.out (by kernel_rfl)) (fun _ _ _ h => h) (Or.inl ⟨by rfl, ?_⟩) ?_ ?_
      rotate_left
      ·intro w'
       go_simp
       with_reducible rfl
      rotate_left
      ·simp only [Act.put, List.setIfInBounds_toArray, List.set_cons_zero, List.set_cons_succ, zax, zay]
       rfl
      refine zaO (i := 10) (N := some 23) (v := ?_) (a' := ?_) #[true, false, true, false, true, false, false, false, true, false, true, false, false, false, false, false, false, false, false, false] rfl rfl (zaK HT_.out (by kernel_rfl)) (fun _ _ _ h => h) (Or.inl ⟨by rfl, ?_⟩) ?_ ?_
      rotate_left
      ·intro w'
       go_simp
       with_reducible rfl
      rotate_left
      ·simp only [Act.put, List.setIfInBounds_toArray, List.set_cons_zero, List.set_cons_succ, zax, zay]
       rfl
      refine zbQ (i := 1) (N := some 14) (v := ?_) (a' := ?_) #[true, true, true, false, true, false, false, false, true, false, true, false, false, false, false, false, false, false, false, false] rfl rfl (zbA HT_.out HW_.out (by kernel_rfl)) (fun _ _ _ h => h) (Or.inl ⟨by rfl, ?_⟩) hHeld ?_ ?_
      rotate_left
      ·rintro w' ⟨s0, s1, s2, s3, s4, s5, s6, s7⟩
       go_simp
       with_reducible rfl
      rotate_left
      ·simp only [Act.put, List.setIfInBounds_toArray, List.set_cons_zero, List.set_cons_succ, zax, zay]
       rfl
      refine zbQ (i := 3) (N := some 16) (v := ?_) (a' := ?_) #[true, true, true, true, true, false, false, false, true, false, true, false, false, false, false, false, false, false, false, false] rfl rfl (zbA HT_.out HW_.out (by kernel_rfl)) (fun _ _ _ h => h) (Or.inl ⟨by rfl, ?_⟩) hHeld ?_ ?_
      rotate_left
      ·rintro w' ⟨s0, s1, s2, s3, s4, s5, s6, s7⟩
       go_simp
       with_reducible rfl
      rotate_left
      ·simp only [Act.put, List.setIfInBounds_toArray, List.set_cons_zero, List.set_cons_succ, zax, zay]
       rfl
      refine zaO (i := 5) (N := some 18) (v := ?_) (a' := ?_) #[true, true, true, true, true, true, false, false, true, false, true, false, false, false, false, false, false, false, false, false] rfl rfl (zaK HT_.out (by kernel_rfl)) (fun _ _ _ h => h) (Or.inl ⟨by rfl, ?_⟩) ?_ ?_
      rotate_left
      ·intro w'
       go_simp
       with_reducible rfl
      rotate_left
      ·simp only [Act.put, List.setIfInBounds_toArray, List.set_cons_zero, List.set_cons_succ, zax, zay]
       rfl
      refine zaO (i := 6) (N := some 19) (v := ?_) (a' := ?_) #[true, true, true, true, true, true, true, false, true, false, true, false, false, false, false, false, false, false, false, false] rfl rfl (zaK HT_.out (by kernel_rfl)) (fun _ _ _ h => h) (Or.inl ⟨by rfl, ?_⟩) ?_ ?_
      rotate_left
      ·intro w'
       go_simp
       with_reducible rfl
      rotate_left
      ·simp only [Act.put, List.setIfInBounds_toArray, List.set_cons_zero, List.set_cons_succ, zax, zay]
       rfl
      refine zbQ (i := 7) (N := some 20) (v := ?_) (a' := ?_) #[true, true, true, true, true, true, true, true, true, false, true, false, false, false, false, false, false, false, false, false] rfl rfl (zbA HT_.out HW_.out (by kernel_rfl)) (fun _ _ _ h => h) (Or.inl ⟨by rfl, ?_⟩) hHeld ?_ ?_
      rotate_left
      ·rintro w' ⟨s0, s1, s2, s3, s4, s5, s6, s7⟩
       go_simp
       with_reducible rfl
      rotate_left
      ·simp only [Act.put, List.setIfInBounds_toArray, List.set_cons_zero, List.set_cons_succ, zax, zay]
       rfl
      refine zbQ (i := 9) (N := some 22) (v := ?_) (a' := ?_) #[true, true, true, true, true, true, true, true, true, true, true, false, false, false, false, false, false, false, false, false] rfl rfl (zbA HT_.out HW_.out (by kernel_rfl)) (fun _ _ _ h => h) (Or.inl ⟨by rfl, ?_⟩) hHeld ?_ ?_
      rotate_left
      ·rintro w' ⟨s0, s1, s2, s3, s4, s5, s6, s7⟩
       go_simp
       with_reducible rfl
      rotate_left
      ·simp only [Act.put, List.setIfInBounds_toArray, List.set_cons_zero, List.set_cons_succ, zax, zay]
       rfl
      refine zaO (i := 11) (N := some 24) (v := ?_) (a' := ?_) #[true, true, true, true, true, true, true, true, true, true, true, true, false, false, false, false, false, false, false, false] rfl rfl (zaK HT_.out (by kernel_rfl)) (fun _ _ _ h => h) (Or.inl ⟨by rfl, ?_⟩) ?_ ?_
      rotate_left
      ·intro w'
       go_simp
       with_reducible rfl
      rotate_left
      ·simp only [Act.put, List.setIfInBounds_toArray, List.set_cons_zero, List.set_cons_succ, zax, zay]
       rfl
      refine zaO (i := 12) (N := some 25) (v := ?_) (a' := ?_) #[true, true, true, true, true, true, true, true, true, true, true, true, true, false, false, false, false, false, false, false] rfl rfl (zaK HT_.out (by kernel_rfl)) (fun _ _ _ h => h) (Or.inl ⟨by rfl, ?_⟩) ?_ ?_
      rotate_left
      ·intro w'
       go_simp
       with_reducible rfl
      rotate_left
      ·simp only [Act.put, List.setIfInBounds_toArray, List.set_cons_zero, List.set_cons_succ, zax, zay]
       rfl
      refine zbQ (i := 13) (N := some 26) (v := ?_) (a' := ?_) #[true, true, true, true, true, true, true, true, true, true, true, true, true, true, false, false, false, false, false, false] rfl rfl (zbA HT_.out HW_.out (by kernel_rfl)) (fun _ _ _ h => h) (Or.inl ⟨by rfl, ?_⟩) hHeld ?_ ?_
      rotate_left
      ·rintro w' ⟨s0, s1, s2, s3, s4, s5, s6, s7⟩
       go_simp
       with_reducible rfl
      rotate_left
      ·simp only [Act.put, List.setIfInBounds_toArray, List.set_cons_zero, List.set_cons_succ, zax, zay]
       rfl
      refine one_ (i := 14) (N := some 27) #[true, true, true, true, true, true, true, true, true, true, true, true, true, true, true, false, false, false, false, false] rfl rfl (zbV HT_.out (by kernel_rfl)) (by decide) (fun K hK => ?_)
      refine zde Tryd.func30 (by kernel_rfl) rfl #[.slice A302_1 ((zbi l0_0 x4_1).f1).length c302_1] (by rfl) rfl rfl (by (try simp only [List.map_toArray, List.map_cons, List.map_nil]); first | done | rfl | (simp only [List.length_drop, List.length_take]; rfl)) ?_
      with_reducible refine (zaF.calls k1 (fun k_ => (((P0_0_ k_ ∨ P0_1_ k_) ∨ w.heap.size ≤ k_) ∧ (some k_ ≠ (u302000 : Value).ownBlock ∧ (k_ ≠ gb299 ∧ (k_ ≠ gb300 ∧ k_ ≠ gb301))))) _ _ ((zbi l0_0 x4_1).f1) t304 _ ?side1 A7.out).mono ?_
      (case side1 => exact HL303_1.out)
      rintro e w13 ⟨v305, rfl, ho0, hb⟩
      have HS4_ := (hb.cell (World.block_lt_of_cell? _ _ (hHeld.2.2.2.2.1))).trans (hHeld.2.2.2.2.1)
      have HS5_ := (hb.cell (World.block_lt_of_cell? _ _ (hHeld.2.2.2.2.2.1))).trans (hHeld.2.2.2.2.2.1)
      have HS6_ := (hb.cell (World.block_lt_of_cell? _ _ (hHeld.2.2.2.2.2.2.1))).trans (hHeld.2.2.2.2.2.2.1)
      have HS7_ := (hb.cell (World.block_lt_of_cell? _ _ (hHeld.2.2.2.2.2.2.2))).trans (hHeld.2.2.2.2.2.2.2)
      refine ⟨_, rfl, ?_⟩
      have n0_ := zaa.mk (Kd.zds (by (with_reducible repeat (first | apply Kd.zbd | apply Kd.zbc | apply Kd.zbg)); exact HO_300000.out) (Kd.zdo ho0) hb)
      have n1_ := zaa.mk (Kd.zds (by (with_reducible repeat (first | apply Kd.zbd | apply Kd.zbc | apply Kd.zbg)); exact HO_300001.out) (Kd.zdo ho0) hb)
      have n2_ := zaa.mk (Kd.zfz (by (with_reducible repeat (first | apply Kd.zbj | apply Kd.zbk | apply Kd.zbn)); exact HO_302000.out) (Kd.zdo ho0) hb)
      have n3_ := zaa.mk (Kd.zds (by (with_reducible repeat (first | apply Kd.zbd | apply Kd.zbc | apply Kd.zbg)); exact HL302_1.out) (Kd.zdo ho0) hb)
      have n4_ := zaa.mk (Kd.zds (by (with_reducible repeat (first | apply Kd.zbd | apply Kd.zbc | apply Kd.zbg)); exact HL303_1.out) (Kd.zdo ho0) hb)
      have n5_ := zaa.mk (Kd.zdz (Kd.zbO (ok' := fun k_ => ((P0_0_ k_ ∨ P0_1_ k_) ∨ w.heap.size ≤ k_) ∧ some k_ ≠ (u302000 : Value).ownBlock ∧ k_ ≠ gb299 ∧ k_ ≠ gb300 ∧ k_ ≠ gb301) ho0 (fun k_ hk_ => ⟨Or.elim hk_ (fun hs_ => hs_.1) (fun hn_ => (.inr (Nat.le_trans (zas (by repeat (first | (with_reducible first | exact HB.out | apply zac | apply zab | apply zad | refine zah ?_ GE299.out | refine zah ?_ GE300.out | refine zah ?_ GE301.out) | exact HB.out))) hn_))), Or.elim hk_ (fun hs_ => hs_.2.1) (fun hn_ => (Kd.fresh' (Kd.N_lt (by (with_reducible repeat (first | apply Kd.zbj | apply Kd.zbk | apply Kd.zbn)); exact HO_302000.out)) k_ hn_)), Or.elim hk_ (fun hs_ => hs_.2.2.1) (fun hn_ => (Kd.zbW (g := gb299) (o := .cells #[.slice (some ad302) l0_0.length c0_0, .slice A0_1 l0_1.length c0_1] 41 (0, 0)) (by (with_reducible repeat (first | refine zaf ?_ _ | refine zai ?_ | refine zae ?_ _)); exact BK299.out) k_ hn_)), Or.elim hk_ (fun hs_ => hs_.2.2.2.1) (fun hn_ => (Kd.zbW (g := gb300) (o := .cells #[.slice none 0 0, .slice none 0 0] 50 (0, 0)) (by (with_reducible repeat (first | refine zaf ?_ _ | refine zai ?_ | refine zae ?_ _)); exact BK300.out) k_ hn_)), Or.elim hk_ (fun hs_ => hs_.2.2.2.2) (fun hn_ => (Kd.zbW (g := gb301) (o := .cells #[u302000, .slice none 0 0] 50 (0, 0)) (by (with_reducible repeat (first | refine zaf ?_ _ | refine zai ?_ | refine zae ?_ _)); exact BK301.out) k_ hn_))⟩)) (zas (by repeat (first | (with_reducible first | exact HB.out | apply zac | apply zab | apply zad | refine zah ?_ GE299.out | refine zah ?_ GE300.out | refine zah ?_ GE301.out) | exact HB.out))))
      have n6_ := zaa.mk (zaE (g := gb299) (o := .cells #[.slice (some ad302) l0_0.length c0_0, .slice A0_1 l0_1.length c0_1] 41 (0, 0)) (by (with_reducible repeat (first | refine zaf ?_ _ | refine zai ?_ | refine zae ?_ _)); exact BK299.out) hb)
      have n7_ := zaa.mk (zaE (g := gb300) (o := .cells #[.slice none 0 0, .slice none 0 0] 50 (0, 0)) (by (with_reducible repeat (first | refine zaf ?_ _ | refine zai ?_ | refine zae ?_ _)); exact BK300.out) hb)
      have n8_ := zaa.mk (zaE (g := gb301) (o := .cells #[u302000, .slice none 0 0] 50 (0, 0)) (by (with_reducible repeat (first | refine zaf ?_ _ | refine zai ?_ | refine zae ?_ _)); exact BK301.out) hb)
      have n9_ := zaa.mk (Kd.za2 (by repeat (first | (with_reducible exact HR302_1.out) | (with_reducible refine Kd.zaQ ?_ _) | (with_reducible refine Kd.zaR ?_ _) | (with_reducible refine Kd.zaZ ?_) | exact HR302_1.out)) hb)
      have n10_ := zaa.mk (Kd.za2 (by repeat (first | (with_reducible exact HR303_1.out) | (with_reducible refine Kd.zaQ ?_ _) | (with_reducible refine Kd.zaR ?_ _) | (with_reducible refine Kd.zaZ ?_) | exact HR303_1.out)) hb)
      have n11_ := zaa.mk (zat (by repeat (first | (with_reducible first | exact HB.out | apply zac | apply zab | apply zad | refine zah ?_ GE299.out | refine zah ?_ GE300.out | refine zah ?_ GE301.out) | exact HB.out)) hb)
      clear HO_300000
      clear HO_300001
      clear HO_302000
      clear HL302_1
      clear HL303_1
      clear BK299
      clear BK300
      clear BK301
      clear HR302_1
      clear HR303_1
      clear HB
      have HO_300000 := n0_
      have HO_300001 := n1_
      have HO_302000 := n2_
      have HL302_1 := n3_
      have HL303_1 := n4_
      have HO306 := n5_
      have BK299 := n6_
      have BK300 := n7_
      have BK301 := n8_
      have HR302_1 := n9_
      have HR303_1 := n10_
      have HB := n11_
      clear n0_ n1_ n2_ n3_ n4_ n5_ n6_ n7_ n8_ n9_ n10_ n11_
      (try clear hb)
      (try clear hb2)
      (try clear hk)
      (try clear hi)
      (try clear ho0)
      obtain ⟨Ao14, co14, eo14⟩ := Kd.zcB HO306.out
      (first | subst eo14 | (injection eo14 with f1_ f2_ f3_; have f4_ := f1_.symm; have f5_ := f3_.symm; clear f1_ f2_ f3_; subst f4_; subst f5_))
      refine hK.out _ _ ⟨(zaj BK301.out 0).trans rfl, (zaj BK301.out 1).trans rfl, (zaj BK299.out 0).trans rfl, (zaj BK299.out 1).trans rfl, HS4_, HS5_, HS6_, HS7_⟩ (fun hHeld => ?_)
      clear hK K
      refine zck (a' := ?_) ?_ ?_
      rotate_left
      ·show Act.put _ (some 27) _ = _
       simp only [Act.put, List.setIfInBounds_toArray, List.set_cons_zero, List.set_cons_succ, zax, zay]
       rfl
      refine zaO (i := 15) (N := some 28) (v := ?_) (a' := ?_) #[true, true, true, true, true, true, true, true, true, true, true, true, true, true, true, true, false, false, false, false] rfl rfl (zaK HT_.out (by kernel_rfl)) (fun _ _ _ h => h) (Or.inl ⟨by rfl, ?_⟩) ?_ ?_
      rotate_left
      ·intro w'
       go_simp
       with_reducible rfl
      rotate_left
      ·simp only [Act.put, List.setIfInBounds_toArray, List.set_cons_zero, List.set_cons_succ, zax, zay]
       rfl
      refine one_ (i := 16) (N := some 29) #[true, true, true, true, true, true, true, true, true, true, true, true, true, true, true, true, true, false, false, false] rfl rfl (zbV HT_.out (by kernel_rfl)) (by decide) (fun K hK => ?_)
      refine zfW (w1 := ?_) (v := ?_) (by rfl) rfl ?_ ?_
      rotate_left 2
      ·go_simp
       constructor
       ·rfl
       ·rfl
      refine hK.out _ _ ⟨(zaj (zae BK301.out _) 0).trans rfl, (zaj (zae BK301.out _) 1).trans rfl, (zaj (zae BK299.out _) 0).trans rfl, (zaj (zae BK299.out _) 1).trans rfl, (World.cell?_alloc_lt _ _ _ (World.block_lt_of_cell? _ _ (hHeld.2.2.2.2.1))).trans (hHeld.2.2.2.2.1), (World.cell?_alloc_lt _ _ _ (World.block_lt_of_cell? _ _ (hHeld.2.2.2.2.2.1))).trans (hHeld.2.2.2.2.2.1), (World.cell?_alloc_lt _ _ _ (World.block_lt_of_cell? _ _ (hHeld.2.2.2.2.2.2.1))).trans (hHeld.2.2.2.2.2.2.1), (World.cell?_alloc_lt _ _ _ (World.block_lt_of_cell? _ _ (hHeld.2.2.2.2.2.2.2))).trans (hHeld.2.2.2.2.2.2.2)⟩ (fun hHeld => ?_)
      clear hK K
      refine zck (a' := ?_) ?_ ?_
      rotate_left
      ·show Act.put _ (some 29) _ = _
       simp only [Act.put, List.setIfInBounds_toArray, List.set_cons_zero, List.set_cons_succ, zax, zay]
       rfl
      refine zfd (i := 17) (N := some 30) #[true, true, true, true, true, true, true, true, true, true, true, true, true, true, true, true, true, true, false, false] rfl rfl (zbV HT_.out (by kernel_rfl)) (by decide) (fun K hK => ?_)
      refine Kd.zdX k127 (w0 := w) w.heap.size (by rfl) (.tmp 14) (.tmp 29) 47 127 (.agg #[(.string ⟨#[]⟩), (.slice none 0 0)]) 40 rfl Tryd.underlying47 zj9 rfl (by decide) (by omega) u302000 x302000_1 (⟨(zbi l0_0 x4_1).f0, t304⟩ : S127) [.string ((zbi l0_0 x4_1).f0), .slice Ao14 t304.length co14] (fun k_ => ((P0_0_ k_ ∨ P0_1_ k_) ∨ w.heap.size ≤ k_) ∧ k_ ≠ gb299 ∧ k_ ≠ gb300 ∧ k_ ≠ gb301) (fun k_ => ((fun k_ => ((P0_0_ k_ ∨ P0_1_ k_) ∨ w.heap.size ≤ k_) ∧ k_ ≠ gb299 ∧ k_ ≠ gb300 ∧ k_ ≠ gb301)) k_ ∧ some k_ ≠ (u302000 : Value).ownBlock) rfl rfl ?aP (fun _ hk => hk) ?aF ?aO ?aB ?aS ?aL ?_
      (case aP => exact (zji _ _ (⟨(zbi l0_0 x4_1).f0, t304⟩ : S127) (Kd.zbI (Kd.zbO (ok' := (fun k_ => ((fun k_ => ((P0_0_ k_ ∨ P0_1_ k_) ∨ w.heap.size ≤ k_) ∧ k_ ≠ gb299 ∧ k_ ≠ gb300 ∧ k_ ≠ gb301)) k_ ∧ some k_ ≠ (u302000 : Value).ownBlock)) (HO306.out) (fun k_ hk => ⟨⟨hk.1, ⟨hk.2.2.1, ⟨hk.2.2.2.1, hk.2.2.2.2⟩⟩⟩, hk.2.1⟩))).2.1 (Kd.N_F (Kd.zbO (ok' := (fun k_ => ((fun k_ => ((P0_0_ k_ ∨ P0_1_ k_) ∨ w.heap.size ≤ k_) ∧ k_ ≠ gb299 ∧ k_ ≠ gb300 ∧ k_ ≠ gb301)) k_ ∧ some k_ ≠ (u302000 : Value).ownBlock)) (HO306.out) (fun k_ hk => ⟨⟨hk.1, ⟨hk.2.2.1, ⟨hk.2.2.2.1, hk.2.2.2.2⟩⟩⟩, hk.2.1⟩)))))
      (case aB => exact (by repeat (first | (with_reducible first | exact HB.out | apply zac | apply zab | apply zad | refine zah ?_ GE299.out | refine zah ?_ GE300.out | refine zah ?_ GE301.out) | exact HB.out)))
      (case aF => exact (fun k_ hk => ⟨(.inr (Nat.le_trans (zas (by repeat (first | (with_reducible first | exact HB.out | apply zac | apply zab | apply zad | refine zah ?_ GE299.out | refine zah ?_ GE300.out | refine zah ?_ GE301.out) | exact HB.out))) hk)), Kd.zbW (g := gb299) (o := .cells #[.slice (some ad302) l0_0.length c0_0, .slice A0_1 l0_1.length c0_1] 41 (0, 0)) (by (with_reducible repeat (first | refine zaf ?_ _ | refine zai ?_ | refine zae ?_ _)); exact BK299.out) k_ hk, Kd.zbW (g := gb300) (o := .cells #[.slice none 0 0, .slice none 0 0] 50 (0, 0)) (by (with_reducible repeat (first | refine zaf ?_ _ | refine zai ?_ | refine zae ?_ _)); exact BK300.out) k_ hk, Kd.zbW (g := gb301) (o := .cells #[u302000, .slice none 0 0] 50 (0, 0)) (by (with_reducible repeat (first | refine zaf ?_ _ | refine zai ?_ | refine zae ?_ _)); exact BK301.out) k_ hk⟩))
      (case aO => exact (by (with_reducible repeat (first | apply Kd.zbj | apply Kd.zbk | apply Kd.zbn)); exact Kd.zbO HO_302000.out (fun _ hk => ⟨hk.1.1, ⟨hk.1.2.1, ⟨hk.1.2.2.1, hk.1.2.2.2⟩⟩⟩)))
      (case aS => exact (zas (by repeat (first | (with_reducible first | exact HB.out | apply zac | apply zab | apply zad | refine zah ?_ GE299.out | refine zah ?_ GE300.out | refine zah ?_ GE301.out) | exact HB.out))))
      (case aL => have := LMc8.out; omega)
      intro v308 w15 ho hb hg hat
      rw [← Ny307.out] at ho
      have n0_ := zaa.mk (Kd.zb9 (ok := (fun k_ => ((P0_0_ k_ ∨ P0_1_ k_) ∨ w.heap.size ≤ k_) ∧ some k_ ≠ (.slice Ao14 t304.length co14 : Value).ownBlock ∧ k_ ≠ gb299 ∧ k_ ≠ gb300 ∧ k_ ≠ gb301)) (by (with_reducible repeat (first | apply Kd.zbd | apply Kd.zbc | apply Kd.zbg)); exact Kd.zbB HO_300000.out (fun _ hk => ⟨⟨hk.1.1, ⟨hk.2, ⟨hk.1.2.2.1, ⟨hk.1.2.2.2.1, hk.1.2.2.2.2⟩⟩⟩⟩, hk.1.2.1⟩)) hg hat)
      have n1_ := zaa.mk (Kd.zb9 (ok := (fun k_ => ((P0_0_ k_ ∨ P0_1_ k_) ∨ w.heap.size ≤ k_) ∧ some k_ ≠ (.slice Ao14 t304.length co14 : Value).ownBlock ∧ k_ ≠ gb299 ∧ k_ ≠ gb300 ∧ k_ ≠ gb301)) (by (with_reducible repeat (first | apply Kd.zbd | apply Kd.zbc | apply Kd.zbg)); exact Kd.zbB HO_300001.out (fun _ hk => ⟨⟨hk.1.1, ⟨hk.2, ⟨hk.1.2.2.1, ⟨hk.1.2.2.2.1, hk.1.2.2.2.2⟩⟩⟩⟩, hk.1.2.1⟩)) hg hat)
      have n2_ := zaa.mk (zca (g := gb299) (o := .cells #[.slice (some ad302) l0_0.length c0_0, .slice A0_1 l0_1.length c0_1] 41 (0, 0)) (by (with_reducible repeat (first | refine zaf ?_ _ | refine zai ?_ | refine zae ?_ _)); exact BK299.out) hg (Kd.N_ne HO_302000.out BK299.out (by decide)))
      have n3_ := zaa.mk (zca (g := gb300) (o := .cells #[.slice none 0 0, .slice none 0 0] 50 (0, 0)) (by (with_reducible repeat (first | refine zaf ?_ _ | refine zai ?_ | refine zae ?_ _)); exact BK300.out) hg (Kd.N_ne HO_302000.out BK300.out (by decide)))
      have n4_ := zaa.mk (zca (g := gb301) (o := .cells #[u302000, .slice none 0 0] 50 (0, 0)) (by (with_reducible repeat (first | refine zaf ?_ _ | refine zai ?_ | refine zae ?_ _)); exact BK301.out) hg (Kd.N_ne HO_302000.out BK301.out (by decide)))
      have n5_ := zaa.mk (Kd.zb9 (ok := (fun k_ => ((P0_0_ k_ ∨ P0_1_ k_) ∨ w.heap.size ≤ k_) ∧ some k_ ≠ (.slice Ao14 t304.length co14 : Value).ownBlock ∧ k_ ≠ gb299 ∧ k_ ≠ gb300 ∧ k_ ≠ gb301)) (by (with_reducible repeat (first | apply Kd.zbd | apply Kd.zbc | apply Kd.zbg)); exact Kd.zbB HL302_1.out (fun _ hk => ⟨⟨hk.1.1, ⟨hk.2, ⟨hk.1.2.2.1, ⟨hk.1.2.2.2.1, hk.1.2.2.2.2⟩⟩⟩⟩, hk.1.2.1⟩)) hg hat)
      have n6_ := zaa.mk (Kd.zb9 (ok := (fun k_ => ((P0_0_ k_ ∨ P0_1_ k_) ∨ w.heap.size ≤ k_) ∧ some k_ ≠ (.slice Ao14 t304.length co14 : Value).ownBlock ∧ k_ ≠ gb299 ∧ k_ ≠ gb300 ∧ k_ ≠ gb301)) (by (with_reducible repeat (first | apply Kd.zbd | apply Kd.zbc | apply Kd.zbg)); exact Kd.zbB HL303_1.out (fun _ hk => ⟨⟨hk.1.1, ⟨hk.2, ⟨hk.1.2.2.1, ⟨hk.1.2.2.2.1, hk.1.2.2.2.2⟩⟩⟩⟩, hk.1.2.1⟩)) hg hat)
      have n7_ := zaa.mk (hb)
      have n8_ := zaa.mk (ho)
      clear HO_300000
      clear HO_300001
      clear BK299
      clear BK300
      clear BK301
      clear HL302_1
      clear HL303_1
      clear HB
      clear HO_302000
      clear HO306
      have HO_300000 := n0_
      have HO_300001 := n1_
      have BK299 := n2_
      have BK300 := n3_
      have BK301 := n4_
      have HL302_1 := n5_
      have HL303_1 := n6_
      have HB := n7_
      have HO309 := n8_
      clear n0_ n1_ n2_ n3_ n4_ n5_ n6_ n7_ n8_
      clear ho hb hg hat
      obtain ⟨Ao16, co16, eo16⟩ := Kd.zcB HO309.out
      (first | subst eo16 | (injection eo16 with f1_ f2_ f3_; have f4_ := f1_.symm; have f5_ := f3_.symm; clear f1_ f2_ f3_; subst f4_; subst f5_))
      refine hK.out _ _ ?_
      clear hK K
      refine zck (a' := ?_) ?_ ?_
      rotate_left
      ·show Act.put _ (some 30) _ = _
       simp only [Act.put, List.setIfInBounds_toArray, List.set_cons_zero, List.set_cons_succ, zax, zay]
       rfl
      refine zaO (i := 18) (N := some 31) (v := ?_) (a' := ?_) #[true, true, true, true, true, true, true, true, true, true, true, true, true, true, true, true, true, true, true, false] rfl rfl (zaK HT_.out (by kernel_rfl)) (fun _ _ _ h => h) (Or.inl ⟨by rfl, ?_⟩) ?_ ?_
      rotate_left
      ·intro w'
       go_simp
       with_reducible rfl
      rotate_left
      ·simp only [Act.put, List.setIfInBounds_toArray, List.set_cons_zero, List.set_cons_succ, zax, zay]
       rfl
      refine zfd (i := 19) (N := none) #[true, true, true, true, true, true, true, true, true, true, true, true, true, true, true, true, true, true, true, true] rfl rfl (zbV HT_.out (by kernel_rfl)) (by decide) (fun K hK => ?_)
      have hs17 : w15.cell? ⟨gb301, 0, none⟩ = some (u302000) := (zaj BK301.out 0).trans rfl
      have hfs17 := zak BK301.out 0
      have hns17_0 := NB299_301.out
      have hns17_1 := NB300_301.out
      have hms17_0 := NB301_299.out
      have hms17_1 := NB301_300.out
      refine zhZ (w1 := ?_) (by rfl) rfl ?_ ?_
      rotate_left
      ·go_simp
       rfl
      refine hK.out _ _ ?_
      clear hK K
      refine zdq (zcS HT_.out (by kernel_rfl)) ?_
      try go_wp2
      go_roundg k1
      case measure => have := HK1.out; omega
      case rel => exact ⟨(wrap64 (x4_1 + 1)), (y307), (.slice Ao16 y307.length co16), (by first | rfl | (simp; done) | (simp [*]; done)), H', ⟨by have := HK1.out; omega⟩, ⟨by (with_reducible repeat (first | apply Kd.zbd | apply Kd.zbc | apply Kd.zbg)); exact Kd.zbB (Kd.zgD (p := ⟨gb301, 0, none⟩) (Kd.zbB HO_300000.out (fun k_ hk => (⟨hk, hk.1.2.2.2.2⟩ : _ ∧ k_ ≠ gb301))) (fun _ hk => hk.2) (.slice Ao16 y307.length co16)) (fun _ hk => ⟨hk.1.1.1, ⟨hk.1.2, ⟨hk.1.1.2.2.1, ⟨hk.1.1.2.2.2.1, hk.1.1.2.2.2.2⟩⟩⟩⟩)⟩, ⟨by (with_reducible repeat (first | apply Kd.zbd | apply Kd.zbc | apply Kd.zbg)); exact Kd.zbB (Kd.zgD (p := ⟨gb301, 0, none⟩) (Kd.zbB HO_300001.out (fun k_ hk => (⟨hk, hk.1.2.2.2.2⟩ : _ ∧ k_ ≠ gb301))) (fun _ hk => hk.2) (.slice Ao16 y307.length co16)) (fun _ hk => ⟨hk.1.1.1, ⟨hk.1.2, ⟨hk.1.1.2.2.1, ⟨hk.1.1.2.2.2.1, hk.1.1.2.2.2.2⟩⟩⟩⟩)⟩, ⟨by (with_reducible repeat (first | apply Kd.zbj | apply Kd.zbk | apply Kd.zbn)); exact Kd.zbO (Kd.zeM (p := ⟨gb301, 0, none⟩) (Kd.zbO HO309.out (fun k_ hk => (⟨hk, hk.2.2.2⟩ : _ ∧ k_ ≠ gb301))) (fun _ hk => hk.2) (.slice Ao16 y307.length co16)) (fun _ hk => ⟨hk.1.1, ⟨hk.1.2.1, ⟨hk.1.2.2.1, hk.1.2.2.2⟩⟩⟩)⟩, ⟨by (with_reducible repeat (first | refine zaf ?_ _ | refine zai ?_ | refine zae ?_ _)); refine zbo ?_ NB299_301.out _; (with_reducible repeat (first | refine zaf ?_ _ | refine zai ?_ | refine zae ?_ _)); exact BK299.out⟩, ⟨by (with_reducible repeat (first | refine zaf ?_ _ | refine zai ?_ | refine zae ?_ _)); refine zbo ?_ NB300_301.out _; (with_reducible repeat (first | refine zaf ?_ _ | refine zai ?_ | refine zae ?_ _)); exact BK300.out⟩, ⟨by (with_reducible repeat (first | refine zaf ?_ _ | refine zai ?_ | refine zae ?_ _)); refine zaT (cs := #[u302000, .slice none 0 0]) ?_ 0 _ rfl; (with_reducible repeat (first | refine zaf ?_ _ | refine zai ?_ | refine zae ?_ _)); exact BK301.out⟩, ⟨by repeat (first | (with_reducible first | exact HB.out | apply zac | apply zab | apply zad | refine zah ?_ GE299.out | refine zah ?_ GE300.out | refine zah ?_ GE301.out) | exact HB.out)⟩⟩
     ·rw [if_neg c8] at H
      exact absurd H (by simp)
    ·rw [if_neg c6] at H
     exact absurd H (by simp)
   ·rw [if_neg c5] at H
    have c5b0 : decide (x4_1 < (l0_0.length : Int)) = false := decide_eq_false c5
    clear c5
    have H' := zaa.mk H
    clear H
    have hnb18 := NB299_300.out
    have hnc18 := NB300_299.out
    have hnb19 := NB299_301.out
    have hnc19 := NB301_299.out
    have hcz20_0 : wr.cell? ⟨gb299, 0, none⟩ = some (.slice A0_0 l0_0.length c0_0) := (zaj BK299.out 0).trans rfl
    have hcz20_1 : wr.cell? ⟨gb299, 1, none⟩ = some (.slice A0_1 l0_1.length c0_1) := (zaj BK299.out 1).trans rfl
    have hfz20_0 := zak BK299.out 0
    have hfz20_1 := zak BK299.out 1
    go_wp2
    go_loopg [5] k1 (fun kq v5 w' => ∃ (x5_2 : Int) (x302001_2 : List (List (S60))) (u302001 : Value), v5 = .int .i64 x5_2 ∧ zaa (zaq.l1 kq x5_2 l0_0 l0_1 x302000_1 x302001_2 = some (r1, r2)) ∧ zaa (kq ≤ k1) ∧ zaa (Kd.V k121 121 w' w.heap.size (fun k_ => ((P0_0_ k_ ∨ P0_1_ k_) ∨ w.heap.size ≤ k_) ∧ some k_ ≠ (u302000 : Value).ownBlock ∧ some k_ ≠ (u302001 : Value).ownBlock ∧ k_ ≠ gb299 ∧ k_ ≠ gb300 ∧ k_ ≠ gb301) (.slice A0_0 l0_0.length c0_0) l0_0) ∧ zaa (Kd.V (Kd.slice 62 k62) 54 w' w.heap.size (fun k_ => ((P0_0_ k_ ∨ P0_1_ k_) ∨ w.heap.size ≤ k_) ∧ some k_ ≠ (u302000 : Value).ownBlock ∧ some k_ ≠ (u302001 : Value).ownBlock ∧ k_ ≠ gb299 ∧ k_ ≠ gb300 ∧ k_ ≠ gb301) (.slice A0_1 l0_1.length c0_1) l0_1) ∧ zaa (Kd.N k127 127 w' w.heap.size (fun k_ => ((P0_0_ k_ ∨ P0_1_ k_) ∨ w.heap.size ≤ k_) ∧ some k_ ≠ (u302001 : Value).ownBlock ∧ k_ ≠ gb299 ∧ k_ ≠ gb300 ∧ k_ ≠ gb301) u302000 x302000_1) ∧ zaa (Kd.N (Kd.slice 60 k60) 56 w' w.heap.size (fun k_ => ((P0_0_ k_ ∨ P0_1_ k_) ∨ w.heap.size ≤ k_) ∧ some k_ ≠ (u302000 : Value).ownBlock ∧ k_ ≠ gb299 ∧ k_ ≠ gb300 ∧ k_ ≠ gb301) u302001 x302001_2) ∧ zaa (w'.heap[gb299]? = some (.cells #[(.slice A0_0 l0_0.length c0_0), (.slice A0_1 l0_1.length c0_1)] 41 (0, 0))) ∧ zaa (w'.heap[gb300]? = some (.cells #[(.slice none 0 0), (.slice none 0 0)] 50 (0, 0))) ∧ zaa (w'.heap[gb301]? = some (.cells #[u302000, u302001] 50 (0, 0))) ∧ zaa (Below w.heap.size w w'))
    case atStart => exact ⟨(0), (([] : List (List (S60)))), (.slice none 0 0), (by first | rfl | (simp; done) | (simp [*]; done)), H', ⟨Nat.le_refl _⟩, ⟨by (with_reducible repeat (first | apply Kd.zbd | apply Kd.zbc | apply Kd.zbg)); exact Kd.zbB HO_300000.out (fun _ hk => ⟨hk.1, ⟨hk.2.1, ⟨(by simp [Value.ownBlock]), ⟨hk.2.2.1, ⟨hk.2.2.2.1, hk.2.2.2.2⟩⟩⟩⟩⟩)⟩, ⟨by (with_reducible repeat (first | apply Kd.zbd | apply Kd.zbc | apply Kd.zbg)); exact Kd.zbB HO_300001.out (fun _ hk => ⟨hk.1, ⟨hk.2.1, ⟨(by simp [Value.ownBlock]), ⟨hk.2.2.1, ⟨hk.2.2.2.1, hk.2.2.2.2⟩⟩⟩⟩⟩)⟩, ⟨by (with_reducible repeat (first | apply Kd.zbj | apply Kd.zbk | apply Kd.zbn)); exact Kd.zbO HO_302000.out (fun _ hk => ⟨hk.1, ⟨(by simp [Value.ownBlock]), ⟨hk.2.1, ⟨hk.2.2.1, hk.2.2.2⟩⟩⟩⟩)⟩, ⟨by first | exact Kd.zdd _ _ _ _ _ | exact Kd.zel _ _ _ _ _ | exact Kd.zej _ _ _ _ _ | exact Kd.zep _ _ _ _ _ | exact Kd.zei _ _ _ _ _⟩, ⟨by (with_reducible repeat (first | refine zaf ?_ _ | refine zai ?_ | refine zae ?_ _)); exact BK299.out⟩, ⟨by (with_reducible repeat (first | refine zaf ?_ _ | refine zai ?_ | refine zae ?_ _)); exact BK300.out⟩, ⟨by (with_reducible repeat (first | refine zaf ?_ _ | refine zai ?_ | refine zae ?_ _)); exact BK301.out⟩, ⟨by repeat (first | (with_reducible first | exact HB.out | apply zac | apply zab | apply zad | refine zah ?_ GE299.out | refine zah ?_ GE300.out | refine zah ?_ GE301.out) | exact HB.out)⟩⟩
    case round =>
     clear H'
     try clear c1
     try clear c2
     try clear p2
     try clear c3
     try clear p3
     try clear q3
     try clear hx3
     try clear c5
     try clear c5b0
     try clear c6
     try clear c6b0
     try clear p6
     try clear c8
     try clear c9
     try clear c10
     try clear c18
     try clear c19
     try clear hcz11_0
     try clear hcz11_1
     try clear hcz20_0
     try clear hcz20_1
     try clear hfz11_0
     try clear hfz11_1
     try clear hfz20_0
     try clear hfz20_1
     try clear hx302_0
     try clear hx302_1
     try clear hx303_0
     try clear hx303_1
     try clear p2
     try clear p302
     try clear p303
     try clear q302
     try clear q303
     obtain ⟨x5_2, x302001_2, u302001, rfl, HA, HK2, HO_300000, HO_300001, HO_302000, HO_302001, BK299, BK300, BK301, HB⟩ := hrel
     cases gk with
     | zero => exact absurd HA.out (by simp [zaq.l1])
     | succ k2 =>
      have H := HA.out
      clear HA
      simp only [zaq.l1] at H
      by_cases c21 : x5_2 < (l0_1.length : Int)
      ·rw [if_pos c21] at H
       have c21b0 : decide (x5_2 < (l0_1.length : Int)) = true := decide_eq_true c21
       clear c21
       by_cases c22 : 0 ≤ x5_2
       ·rw [if_pos c22] at H
        have c22b0 : decide (0 ≤ x5_2) = true := decide_eq_true c22
        clear c22
        replace H := Option.bind_eq_some_iff.mp H
        obtain ⟨t311, A230, H⟩ := H
        replace H : (if x302001_2.length < 5864062014805 then (zaq.l1 k2 (wrap64 (x5_2 + 1)) l0_0 l0_1 x302000_1 (x302001_2 ++ [t311])) else (none)) = some (r1, r2) := H
        have A23 := zaa.mk A230
        clear A230
        by_cases c24 : x302001_2.length < 5864062014805
        ·rw [if_pos c24] at H
         have LMc24 := zaa.mk c24
         clear c24
         obtain ⟨y314, hy314⟩ : ∃ y_ : List (List (S60)), y_ = (x302001_2 ++ [t311]) := ⟨_, rfl⟩
         replace H : (zaq.l1 k2 (wrap64 (x5_2 + 1)) l0_0 l0_1 x302000_1 y314) = some (r1, r2) := by first | (rw [hy314]; with_reducible exact H) | (have H2_ := (Option.bind_some _ _).symm.trans H; rw [hy314]; with_reducible exact H2_) | (have H2_ := (Option.bind_some _ _).symm.trans H; with_reducible exact H2_) | with_reducible exact H | (rw [hy314]; exact H) | exact H
         have Ny314 := zaa.mk hy314
         clear hy314
         have H' := zaa.mk H
         clear H
         have hnb25 := NB299_300.out
         have hnc25 := NB300_299.out
         have hnb26 := NB299_301.out
         have hnc26 := NB301_299.out
         have hcz27_0 : wr.cell? ⟨gb299, 0, none⟩ = some (.slice A0_0 l0_0.length c0_0) := (zaj BK299.out 0).trans rfl
         have hcz27_1 : wr.cell? ⟨gb299, 1, none⟩ = some (.slice A0_1 l0_1.length c0_1) := (zaj BK299.out 1).trans rfl
         have hfz27_0 := zak BK299.out 0
         have hfz27_1 := zak BK299.out 1
         try go_wp2
         have n0_ := zaa.mk (Kd.zbg HO_300000.out)
         have n1_ := zaa.mk (Kd.zbg HO_300001.out)
         have n2_ := zaa.mk (Kd.zbn HO_302000.out)
         have n3_ := zaa.mk (Kd.zbn HO_302001.out)
         have n4_ := zaa.mk (zai BK299.out)
         have n5_ := zaa.mk (zai BK300.out)
         have n6_ := zaa.mk (zai BK301.out)
         have n7_ := zaa.mk (zad HB.out)
         clear HO_300000
         clear HO_300001
         clear HO_302000
         clear HO_302001
         clear BK299
         clear BK300
         clear BK301
         clear HB
         have HO_300000 := n0_
         have HO_300001 := n1_
         have HO_302000 := n2_
         have HO_302001 := n3_
         have BK299 := n4_
         have BK300 := n5_
         have BK301 := n6_
         have HB := n7_
         clear n0_ n1_ n2_ n3_ n4_ n5_ n6_ n7_
         have p310 : 0 ≤ (x5_2 : Int) := of_decide_eq_true (by first | (with_reducible assumption) | assumption)
         have q310 : x5_2 < (l0_1.length : Int) := of_decide_eq_true (by first | (with_reducible assumption) | assumption)
         obtain ⟨ad310, A310_0, c310_0, e310, hx310_0, hl310_0, hi310_0⟩ := zdK (Kd.zb8 HO_300001.out).2.2 x5_2 p310 q310
         cases e310
         obtain ⟨ce310, hce310, hMe310, hcc310⟩ := Kd.zeD HO_300001.out [] x5_2 p310 (by first | exact q310 | exact of_decide_eq_true (by first | (with_reducible assumption) | assumption) | (have e_ := (Kd.zb8 HO_300001.out).1; omega))
         obtain ⟨ua310_0, uc310_0, rfl, ul310_0, ge310_0⟩ := Kd.zcr hMe310
         have hv310_0 := hcc310 0 _ rfl
         rw [Nat.add_zero, show ((Kd.slice 62 k62)).sz = 1 from rfl, Nat.mul_one] at hv310_0
         replace hv310_0 := Option.some.inj (hv310_0.symm.trans hx310_0)
         injection hv310_0 with hva_ hvn_ hvc_
         rw [hva_] at ge310_0
         rw [hvc_] at ul310_0
         have HL310_0 := zaa.mk (show Kd.V k62 62 _ w.heap.size _ _ (zbH l0_1 x5_2) from Kd.V_mk ul310_0 ge310_0)
         clear hva_ hvn_ hvc_ ge310_0 ul310_0
         clear hcc310 hce310
         have HR310_0 := zaa.mk hi310_0
         have HC310_0 := zaa.mk hl310_0
         clear hi310_0 hl310_0
         replace p310 := eq_true p310
         replace q310 := eq_true q310
         refine zc7 (n := 12) (S := fun w' => w'.cell? ⟨gb301, 0, none⟩ = some (u302000) ∧ w'.cell? ⟨gb301, 1, none⟩ = some (u302001) ∧ w'.cell? ⟨gb299, 0, none⟩ = some (.slice A0_0 l0_0.length c0_0) ∧ w'.cell? ⟨gb299, 1, none⟩ = some (.slice (some ad310) l0_1.length c0_1) ∧ w'.cell? (ad310.add (x5_2).toNat) = some (.slice A310_0 (zbH l0_1 x5_2).length c310_0)) (ds := [9, 11]) #[false, false, false, false, false, false, false, false, false, false, false, false] (by kernel_rfl) rfl rfl ⟨(zaj BK301.out 0).trans rfl, (zaj BK301.out 1).trans rfl, (zaj BK299.out 0).trans rfl, (zaj BK299.out 1).trans rfl, hx310_0⟩ (fun hHeld => ?_); refine zcp zaq.tab9 zaq.zkR (fun HT_ HW_ => ?_)
         generalize wr.drew = w28 at HO_300000 HO_300001 HO_302000 HO_302001 BK299 BK300 BK301 HB HL310_0 HR310_0 hx310_0 hHeld ⊢
         refine zaO (i := 0) (N := some 39) (v := ?_) (a' := ?_) #[true, false, false, false, false, false, false, false, false, false, false, false] rfl rfl (zaK HT_.out (by kernel_rfl)) (fun _ _ _ h => h) (Or.inl ⟨by rfl, ?_⟩) ?_ ?_
         rotate_left
         ·intro w'
          go_simp
          with_reducible rfl
         rotate_left
         ·simp only [Act.put, List.setIfInBounds_toArray, List.set_cons_zero, List.set_cons_succ, zax, zay]
          rfl
         refine zaO (i := 2) (N := some 41) (v := ?_) (a' := ?_) #[true, false, true, false, false, false, false, false, false, false, false, false] rfl rfl (zaK HT_.out (by kernel_rfl)) (fun _ _ _ h => h) (Or.inl ⟨by rfl, ?_⟩) ?_ ?_
         rotate_left
         ·intro w'
          go_simp
          with_reducible rfl
         rotate_left
         ·simp only [Act.put, List.setIfInBounds_toArray, List.set_cons_zero, List.set_cons_succ, zax, zay]
          rfl
         refine zaO (i := 4) (N := some 43) (v := ?_) (a' := ?_) #[true, false, true, false, true, false, false, false, false, false, false, false] rfl rfl (zaK HT_.out (by kernel_rfl)) (fun _ _ _ h => h) (Or.inl ⟨by rfl, ?_⟩) ?_ ?_
         rotate_left
         ·intro w'
          go_simp
          with_reducible rfl
         rotate_left
         ·simp only [Act.put, List.setIfInBounds_toArray, List.set_cons_zero, List.set_cons_succ, zax, zay]
          rfl
         refine zbQ (i := 1) (N := some 40) (v := ?_) (a' := ?_) #[true, true, true, false, true, false, false, false, false, false, false, false] rfl rfl (zbA HT_.out HW_.out (by kernel_rfl)) (fun _ _ _ h => h) (Or.inl ⟨by rfl, ?_⟩) hHeld ?_ ?_
         rotate_left
         ·rintro w' ⟨s0, s1, s2, s3, s4⟩
          go_simp
          with_reducible rfl
         rotate_left
         ·simp only [Act.put, List.setIfInBounds_toArray, List.set_cons_zero, List.set_cons_succ, zax, zay]
          rfl
         refine zbQ (i := 3) (N := some 42) (v := ?_) (a' := ?_) #[true, true, true, true, true, false, false, false, false, false, false, false] rfl rfl (zbA HT_.out HW_.out (by kernel_rfl)) (fun _ _ _ h => h) (Or.inl ⟨by rfl, ?_⟩) hHeld ?_ ?_
         rotate_left
         ·rintro w' ⟨s0, s1, s2, s3, s4⟩
          go_simp
          with_reducible rfl
         rotate_left
         ·simp only [Act.put, List.setIfInBounds_toArray, List.set_cons_zero, List.set_cons_succ, zax, zay]
          rfl
         refine zaO (i := 5) (N := some 44) (v := ?_) (a' := ?_) #[true, true, true, true, true, true, false, false, false, false, false, false] rfl rfl (zaK HT_.out (by kernel_rfl)) (fun _ _ _ h => h) (Or.inl ⟨by rfl, ?_⟩) ?_ ?_
         rotate_left
         ·intro w'
          go_simp
          with_reducible rfl
         rotate_left
         ·simp only [Act.put, List.setIfInBounds_toArray, List.set_cons_zero, List.set_cons_succ, zax, zay]
          rfl
         refine zbQ (i := 6) (N := some 45) (v := ?_) (a' := ?_) #[true, true, true, true, true, true, true, false, false, false, false, false] rfl rfl (zbA HT_.out HW_.out (by kernel_rfl)) (fun _ _ _ h => h) (Or.inl ⟨by rfl, ?_⟩) hHeld ?_ ?_
         rotate_left
         ·rintro w' ⟨s0, s1, s2, s3, s4⟩
          go_simp
          with_reducible rfl
         rotate_left
         ·simp only [Act.put, List.setIfInBounds_toArray, List.set_cons_zero, List.set_cons_succ, zax, zay]
          rfl
         refine one_ (i := 7) (N := some 46) #[true, true, true, true, true, true, true, true, false, false, false, false] rfl rfl (zbV HT_.out (by kernel_rfl)) (by decide) (fun K hK => ?_)
         refine zde Tryd.func30 (by kernel_rfl) rfl #[.slice A310_0 (zbH l0_1 x5_2).length c310_0] (by rfl) rfl rfl (by (try simp only [List.map_toArray, List.map_cons, List.map_nil]); first | done | rfl | (simp only [List.length_drop, List.length_take]; rfl)) ?_
         with_reducible refine (zaF.calls k2 (fun k_ => (((P0_0_ k_ ∨ P0_1_ k_) ∨ w.heap.size ≤ k_) ∧ (some k_ ≠ (u302000 : Value).ownBlock ∧ (some k_ ≠ (u302001 : Value).ownBlock ∧ (k_ ≠ gb299 ∧ (k_ ≠ gb300 ∧ k_ ≠ gb301)))))) _ _ (zbH l0_1 x5_2) t311 _ ?side1 A23.out).mono ?_
         (case side1 => exact HL310_0.out)
         rintro e w29 ⟨v312, rfl, ho0, hb⟩
         have HS4_ := (hb.cell (World.block_lt_of_cell? _ _ (hHeld.2.2.2.2))).trans (hHeld.2.2.2.2)
         refine ⟨_, rfl, ?_⟩
         have n0_ := zaa.mk (Kd.zds (by (with_reducible repeat (first | apply Kd.zbd | apply Kd.zbc | apply Kd.zbg)); exact HO_300000.out) (Kd.zdo ho0) hb)
         have n1_ := zaa.mk (Kd.zds (by (with_reducible repeat (first | apply Kd.zbd | apply Kd.zbc | apply Kd.zbg)); exact HO_300001.out) (Kd.zdo ho0) hb)
         have n2_ := zaa.mk (Kd.zfz (by (with_reducible repeat (first | apply Kd.zbj | apply Kd.zbk | apply Kd.zbn)); exact HO_302000.out) (Kd.zdo ho0) hb)
         have n3_ := zaa.mk (Kd.zfz (by (with_reducible repeat (first | apply Kd.zbj | apply Kd.zbk | apply Kd.zbn)); exact HO_302001.out) (Kd.zdo ho0) hb)
         have n4_ := zaa.mk (Kd.zds (by (with_reducible repeat (first | apply Kd.zbd | apply Kd.zbc | apply Kd.zbg)); exact HL310_0.out) (Kd.zdo ho0) hb)
         have n5_ := zaa.mk (Kd.zdz (Kd.zbO (ok' := fun k_ => ((P0_0_ k_ ∨ P0_1_ k_) ∨ w.heap.size ≤ k_) ∧ some k_ ≠ (u302000 : Value).ownBlock ∧ some k_ ≠ (u302001 : Value).ownBlock ∧ k_ ≠ gb299 ∧ k_ ≠ gb300 ∧ k_ ≠ gb301) ho0 (fun k_ hk_ => ⟨Or.elim hk_ (fun hs_ => hs_.1) (fun hn_ => (.inr (Nat.le_trans (zas (by repeat (first | (with_reducible first | exact HB.out | apply zac | apply zab | apply zad | refine zah ?_ GE299.out | refine zah ?_ GE300.out | refine zah ?_ GE301.out) | exact HB.out))) hn_))), Or.elim hk_ (fun hs_ => hs_.2.1) (fun hn_ => (Kd.fresh' (Kd.N_lt (by (with_reducible repeat (first | apply Kd.zbj | apply Kd.zbk | apply Kd.zbn)); exact HO_302000.out)) k_ hn_)), Or.elim hk_ (fun hs_ => hs_.2.2.1) (fun hn_ => (Kd.fresh' (Kd.N_lt (by (with_reducible repeat (first | apply Kd.zbj | apply Kd.zbk | apply Kd.zbn)); exact HO_302001.out)) k_ hn_)), Or.elim hk_ (fun hs_ => hs_.2.2.2.1) (fun hn_ => (Kd.zbW (g := gb299) (o := .cells #[.slice A0_0 l0_0.length c0_0, .slice (some ad310) l0_1.length c0_1] 41 (0, 0)) (by (with_reducible repeat (first | refine zaf ?_ _ | refine zai ?_ | refine zae ?_ _)); exact BK299.out) k_ hn_)), Or.elim hk_ (fun hs_ => hs_.2.2.2.2.1) (fun hn_ => (Kd.zbW (g := gb300) (o := .cells #[.slice none 0 0, .slice none 0 0] 50 (0, 0)) (by (with_reducible repeat (first | refine zaf ?_ _ | refine zai ?_ | refine zae ?_ _)); exact BK300.out) k_ hn_)), Or.elim hk_ (fun hs_ => hs_.2.2.2.2.2) (fun hn_ => (Kd.zbW (g := gb301) (o := .cells #[u302000, u302001] 50 (0, 0)) (by (with_reducible repeat (first | refine zaf ?_ _ | refine zai ?_ | refine zae ?_ _)); exact BK301.out) k_ hn_))⟩)) (zas (by repeat (first | (with_reducible first | exact HB.out | apply zac | apply zab | apply zad | refine zah ?_ GE299.out | refine zah ?_ GE300.out | refine zah ?_ GE301.out) | exact HB.out))))
         have n6_ := zaa.mk (zaE (g := gb299) (o := .cells #[.slice A0_0 l0_0.length c0_0, .slice (some ad310) l0_1.length c0_1] 41 (0, 0)) (by (with_reducible repeat (first | refine zaf ?_ _ | refine zai ?_ | refine zae ?_ _)); exact BK299.out) hb)
         have n7_ := zaa.mk (zaE (g := gb300) (o := .cells #[.slice none 0 0, .slice none 0 0] 50 (0, 0)) (by (with_reducible repeat (first | refine zaf ?_ _ | refine zai ?_ | refine zae ?_ _)); exact BK300.out) hb)
         have n8_ := zaa.mk (zaE (g := gb301) (o := .cells #[u302000, u302001] 50 (0, 0)) (by (with_reducible repeat (first | refine zaf ?_ _ | refine zai ?_ | refine zae ?_ _)); exact BK301.out) hb)
         have n9_ := zaa.mk (Kd.za2 (by repeat (first | (with_reducible exact HR310_0.out) | (with_reducible refine Kd.zaQ ?_ _) | (with_reducible refine Kd.zaR ?_ _) | (with_reducible refine Kd.zaZ ?_) | exact HR310_0.out)) hb)
         have n10_ := zaa.mk (zat (by repeat (first | (with_reducible first | exact HB.out | apply zac | apply zab | apply zad | refine zah ?_ GE299.out | refine zah ?_ GE300.out | refine zah ?_ GE301.out) | exact HB.out)) hb)
         clear HO_300000
         clear HO_300001
         clear HO_302000
         clear HO_302001
         clear HL310_0
         clear BK299
         clear BK300
         clear BK301
         clear HR310_0
         clear HB
         have HO_300000 := n0_
         have HO_300001 := n1_
         have HO_302000 := n2_
         have HO_302001 := n3_
         have HL310_0 := n4_
         have HO313 := n5_
         have BK299 := n6_
         have BK300 := n7_
         have BK301 := n8_
         have HR310_0 := n9_
         have HB := n10_
         clear n0_ n1_ n2_ n3_ n4_ n5_ n6_ n7_ n8_ n9_ n10_
         (try clear hb)
         (try clear hb2)
         (try clear hk)
         (try clear hi)
         (try clear ho0)
         obtain ⟨Ao31, co31, eo31⟩ := Kd.zcB HO313.out
         (first | subst eo31 | (injection eo31 with f1_ f2_ f3_; have f4_ := f1_.symm; have f5_ := f3_.symm; clear f1_ f2_ f3_; subst f4_; subst f5_))
         refine hK.out _ _ ⟨(zaj BK301.out 0).trans rfl, (zaj BK301.out 1).trans rfl, (zaj BK299.out 0).trans rfl, (zaj BK299.out 1).trans rfl, HS4_⟩ (fun hHeld => ?_)
         clear hK K
         refine zck (a' := ?_) ?_ ?_
         rotate_left
         ·show Act.put _ (some 46) _ = _
          simp only [Act.put, List.setIfInBounds_toArray, List.set_cons_zero, List.set_cons_succ, zax, zay]
          rfl
         refine one_ (i := 8) (N := some 47) #[true, true, true, true, true, true, true, true, true, false, false, false] rfl rfl (zbV HT_.out (by kernel_rfl)) (by decide) (fun K hK => ?_)
         refine zfW (w1 := ?_) (v := ?_) (by rfl) rfl ?_ ?_
         rotate_left 2
         ·go_simp
          constructor
          ·rfl
          ·rfl
         refine hK.out _ _ ⟨(zaj (zae BK301.out _) 0).trans rfl, (zaj (zae BK301.out _) 1).trans rfl, (zaj (zae BK299.out _) 0).trans rfl, (zaj (zae BK299.out _) 1).trans rfl, (World.cell?_alloc_lt _ _ _ (World.block_lt_of_cell? _ _ (hHeld.2.2.2.2))).trans (hHeld.2.2.2.2)⟩ (fun hHeld => ?_)
         clear hK K
         refine zck (a' := ?_) ?_ ?_
         rotate_left
         ·show Act.put _ (some 47) _ = _
          simp only [Act.put, List.setIfInBounds_toArray, List.set_cons_zero, List.set_cons_succ, zax, zay]
          rfl
         refine zfd (i := 9) (N := some 48) #[true, true, true, true, true, true, true, true, true, true, false, false] rfl rfl (zbV HT_.out (by kernel_rfl)) (by decide) (fun K hK => ?_)
         refine Kd.zdX (Kd.slice 60 k60) (w0 := w) w.heap.size (by rfl) (.tmp 40) (.tmp 47) 48 56 (.slice none 0 0) 24 rfl Tryd.underlying48 zg9 rfl (by decide) (by omega) u302001 x302001_2 t311 [.slice Ao31 t311.length co31] (fun k_ => ((P0_0_ k_ ∨ P0_1_ k_) ∨ w.heap.size ≤ k_) ∧ some k_ ≠ (u302000 : Value).ownBlock ∧ k_ ≠ gb299 ∧ k_ ≠ gb300 ∧ k_ ≠ gb301) (fun k_ => ((fun k_ => ((P0_0_ k_ ∨ P0_1_ k_) ∨ w.heap.size ≤ k_) ∧ some k_ ≠ (u302000 : Value).ownBlock ∧ k_ ≠ gb299 ∧ k_ ≠ gb300 ∧ k_ ≠ gb301)) k_ ∧ some k_ ≠ (u302001 : Value).ownBlock) rfl rfl ?aP (fun _ hk => hk) ?aF ?aO ?aB ?aS ?aL ?_
         (case aP => exact (Kd.zfo (Kd.zbI (Kd.zbO (ok' := (fun k_ => ((fun k_ => ((P0_0_ k_ ∨ P0_1_ k_) ∨ w.heap.size ≤ k_) ∧ some k_ ≠ (u302000 : Value).ownBlock ∧ k_ ≠ gb299 ∧ k_ ≠ gb300 ∧ k_ ≠ gb301)) k_ ∧ some k_ ≠ (u302001 : Value).ownBlock)) (HO313.out) (fun k_ hk => ⟨⟨hk.1, ⟨hk.2.1, ⟨hk.2.2.2.1, ⟨hk.2.2.2.2.1, hk.2.2.2.2.2⟩⟩⟩⟩, hk.2.2.1⟩))).2.1 (Kd.N_F (Kd.zbO (ok' := (fun k_ => ((fun k_ => ((P0_0_ k_ ∨ P0_1_ k_) ∨ w.heap.size ≤ k_) ∧ some k_ ≠ (u302000 : Value).ownBlock ∧ k_ ≠ gb299 ∧ k_ ≠ gb300 ∧ k_ ≠ gb301)) k_ ∧ some k_ ≠ (u302001 : Value).ownBlock)) (HO313.out) (fun k_ hk => ⟨⟨hk.1, ⟨hk.2.1, ⟨hk.2.2.2.1, ⟨hk.2.2.2.2.1, hk.2.2.2.2.2⟩⟩⟩⟩, hk.2.2.1⟩)))))
         (case aB => exact (by repeat (first | (with_reducible first | exact HB.out | apply zac | apply zab | apply zad | refine zah ?_ GE299.out | refine zah ?_ GE300.out | refine zah ?_ GE301.out) | exact HB.out)))
         (case aF => exact (fun k_ hk => ⟨(.inr (Nat.le_trans (zas (by repeat (first | (with_reducible first | exact HB.out | apply zac | apply zab | apply zad | refine zah ?_ GE299.out | refine zah ?_ GE300.out | refine zah ?_ GE301.out) | exact HB.out))) hk)), Kd.fresh' (Kd.N_lt (by (with_reducible repeat (first | apply Kd.zbj | apply Kd.zbk | apply Kd.zbn)); exact HO_302000.out)) k_ hk, Kd.zbW (g := gb299) (o := .cells #[.slice A0_0 l0_0.length c0_0, .slice (some ad310) l0_1.length c0_1] 41 (0, 0)) (by (with_reducible repeat (first | refine zaf ?_ _ | refine zai ?_ | refine zae ?_ _)); exact BK299.out) k_ hk, Kd.zbW (g := gb300) (o := .cells #[.slice none 0 0, .slice none 0 0] 50 (0, 0)) (by (with_reducible repeat (first | refine zaf ?_ _ | refine zai ?_ | refine zae ?_ _)); exact BK300.out) k_ hk, Kd.zbW (g := gb301) (o := .cells #[u302000, u302001] 50 (0, 0)) (by (with_reducible repeat (first | refine zaf ?_ _ | refine zai ?_ | refine zae ?_ _)); exact BK301.out) k_ hk⟩))
         (case aO => exact (by (with_reducible repeat (first | apply Kd.zbj | apply Kd.zbk | apply Kd.zbn)); exact Kd.zbO HO_302001.out (fun _ hk => ⟨hk.1.1, ⟨hk.1.2.1, ⟨hk.1.2.2.1, ⟨hk.1.2.2.2.1, hk.1.2.2.2.2⟩⟩⟩⟩)))
         (case aS => exact (zas (by repeat (first | (with_reducible first | exact HB.out | apply zac | apply zab | apply zad | refine zah ?_ GE299.out | refine zah ?_ GE300.out | refine zah ?_ GE301.out) | exact HB.out))))
         (case aL => have := LMc24.out; omega)
         intro v315 w30 ho hb hg hat
         rw [← Ny314.out] at ho
         have n0_ := zaa.mk (Kd.zb9 (ok := (fun k_ => ((P0_0_ k_ ∨ P0_1_ k_) ∨ w.heap.size ≤ k_) ∧ some k_ ≠ (u302000 : Value).ownBlock ∧ some k_ ≠ (.slice Ao31 t311.length co31 : Value).ownBlock ∧ k_ ≠ gb299 ∧ k_ ≠ gb300 ∧ k_ ≠ gb301)) (by (with_reducible repeat (first | apply Kd.zbd | apply Kd.zbc | apply Kd.zbg)); exact Kd.zbB HO_300000.out (fun _ hk => ⟨⟨hk.1.1, ⟨hk.1.2.1, ⟨hk.2, ⟨hk.1.2.2.2.1, ⟨hk.1.2.2.2.2.1, hk.1.2.2.2.2.2⟩⟩⟩⟩⟩, hk.1.2.2.1⟩)) hg hat)
         have n1_ := zaa.mk (Kd.zb9 (ok := (fun k_ => ((P0_0_ k_ ∨ P0_1_ k_) ∨ w.heap.size ≤ k_) ∧ some k_ ≠ (u302000 : Value).ownBlock ∧ some k_ ≠ (.slice Ao31 t311.length co31 : Value).ownBlock ∧ k_ ≠ gb299 ∧ k_ ≠ gb300 ∧ k_ ≠ gb301)) (by (with_reducible repeat (first | apply Kd.zbd | apply Kd.zbc | apply Kd.zbg)); exact Kd.zbB HO_300001.out (fun _ hk => ⟨⟨hk.1.1, ⟨hk.1.2.1, ⟨hk.2, ⟨hk.1.2.2.2.1, ⟨hk.1.2.2.2.2.1, hk.1.2.2.2.2.2⟩⟩⟩⟩⟩, hk.1.2.2.1⟩)) hg hat)
         have n2_ := zaa.mk (Kd.zjh (ok := (fun k_ => ((P0_0_ k_ ∨ P0_1_ k_) ∨ w.heap.size ≤ k_) ∧ some k_ ≠ (.slice Ao31 t311.length co31 : Value).ownBlock ∧ k_ ≠ gb299 ∧ k_ ≠ gb300 ∧ k_ ≠ gb301)) (by (with_reducible repeat (first | apply Kd.zbj | apply Kd.zbk | apply Kd.zbn)); exact Kd.zbO HO_302000.out (fun _ hk => ⟨⟨hk.1.1, ⟨hk.2, ⟨hk.1.2.2.1, ⟨hk.1.2.2.2.1, hk.1.2.2.2.2⟩⟩⟩⟩, hk.1.2.1⟩)) hg hat)
         have n3_ := zaa.mk (zca (g := gb299) (o := .cells #[.slice A0_0 l0_0.length c0_0, .slice (some ad310) l0_1.length c0_1] 41 (0, 0)) (by (with_reducible repeat (first | refine zaf ?_ _ | refine zai ?_ | refine zae ?_ _)); exact BK299.out) hg (Kd.N_ne HO_302001.out BK299.out (by decide)))
         have n4_ := zaa.mk (zca (g := gb300) (o := .cells #[.slice none 0 0, .slice none 0 0] 50 (0, 0)) (by (with_reducible repeat (first | refine zaf ?_ _ | refine zai ?_ | refine zae ?_ _)); exact BK300.out) hg (Kd.N_ne HO_302001.out BK300.out (by decide)))
         have n5_ := zaa.mk (zca (g := gb301) (o := .cells #[u302000, u302001] 50 (0, 0)) (by (with_reducible repeat (first | refine zaf ?_ _ | refine zai ?_ | refine zae ?_ _)); exact BK301.out) hg (Kd.N_ne HO_302001.out BK301.out (by decide)))
         have n6_ := zaa.mk (Kd.zb9 (ok := (fun k_ => ((P0_0_ k_ ∨ P0_1_ k_) ∨ w.heap.size ≤ k_) ∧ some k_ ≠ (u302000 : Value).ownBlock ∧ some k_ ≠ (.slice Ao31 t311.length co31 : Value).ownBlock ∧ k_ ≠ gb299 ∧ k_ ≠ gb300 ∧ k_ ≠ gb301)) (by (with_reducible repeat (first | apply Kd.zbd | apply Kd.zbc | apply Kd.zbg)); exact Kd.zbB HL310_0.out (fun _ hk => ⟨⟨hk.1.1, ⟨hk.1.2.1, ⟨hk.2, ⟨hk.1.2.2.2.1, ⟨hk.1.2.2.2.2.1, hk.1.2.2.2.2.2⟩⟩⟩⟩⟩, hk.1.2.2.1⟩)) hg hat)
         have n7_ := zaa.mk (hb)
         have n8_ := zaa.mk (ho)
         clear HO_300000
         clear HO_300001
         clear HO_302000
         clear BK299
         clear BK300
         clear BK301
         clear HL310_0
         clear HB
         clear HO_302001
         clear HO313
         have HO_300000 := n0_
         have HO_300001 := n1_
         have HO_302000 := n2_
         have BK299 := n3_
         have BK300 := n4_
         have BK301 := n5_
         have HL310_0 := n6_
         have HB := n7_
         have HO316 := n8_
         clear n0_ n1_ n2_ n3_ n4_ n5_ n6_ n7_ n8_
         clear ho hb hg hat
         obtain ⟨Ao32, co32, eo32⟩ := Kd.zcB HO316.out
         (first | subst eo32 | (injection eo32 with f1_ f2_ f3_; have f4_ := f1_.symm; have f5_ := f3_.symm; clear f1_ f2_ f3_; subst f4_; subst f5_))
         refine hK.out _ _ ?_
         clear hK K
         refine zck (a' := ?_) ?_ ?_
         rotate_left
         ·show Act.put _ (some 48) _ = _
          simp only [Act.put, List.setIfInBounds_toArray, List.set_cons_zero, List.set_cons_succ, zax, zay]
          rfl
         refine zaO (i := 10) (N := some 49) (v := ?_) (a' := ?_) #[true, true, true, true, true, true, true, true, true, true, true, false] rfl rfl (zaK HT_.out (by kernel_rfl)) (fun _ _ _ h => h) (Or.inl ⟨by rfl, ?_⟩) ?_ ?_
         rotate_left
         ·intro w'
          go_simp
          with_reducible rfl
         rotate_left
         ·simp only [Act.put, List.setIfInBounds_toArray, List.set_cons_zero, List.set_cons_succ, zax, zay]
          rfl
         refine zfd (i := 11) (N := none) #[true, true, true, true, true, true, true, true, true, true, true, true] rfl rfl (zbV HT_.out (by kernel_rfl)) (by decide) (fun K hK => ?_)
         have hs33 : w30.cell? ⟨gb301, 1, none⟩ = some (u302001) := (zaj BK301.out 1).trans rfl
         have hfs33 := zak BK301.out 1
         have hns33_0 := NB299_301.out
         have hns33_1 := NB300_301.out
         have hms33_0 := NB301_299.out
         have hms33_1 := NB301_300.out
         refine zhZ (w1 := ?_) (by rfl) rfl ?_ ?_
         rotate_left
         ·go_simp
          rfl
         refine hK.out _ _ ?_
         clear hK K
         refine zdq (zcS HT_.out (by kernel_rfl)) ?_
         try go_wp2
         go_roundg k2
         case measure => have := HK1.out; have := HK2.out; omega
         case rel => exact ⟨(wrap64 (x5_2 + 1)), (y314), (.slice Ao32 y314.length co32), (by first | rfl | (simp; done) | (simp [*]; done)), H', ⟨by have := HK1.out; have := HK2.out; omega⟩, ⟨by (with_reducible repeat (first | apply Kd.zbd | apply Kd.zbc | apply Kd.zbg)); exact Kd.zbB (Kd.zgD (p := ⟨gb301, 1, none⟩) (Kd.zbB HO_300000.out (fun k_ hk => (⟨hk, hk.1.2.2.2.2.2⟩ : _ ∧ k_ ≠ gb301))) (fun _ hk => hk.2) (.slice Ao32 y314.length co32)) (fun _ hk => ⟨hk.1.1.1, ⟨hk.1.1.2.1, ⟨hk.1.2, ⟨hk.1.1.2.2.2.1, ⟨hk.1.1.2.2.2.2.1, hk.1.1.2.2.2.2.2⟩⟩⟩⟩⟩)⟩, ⟨by (with_reducible repeat (first | apply Kd.zbd | apply Kd.zbc | apply Kd.zbg)); exact Kd.zbB (Kd.zgD (p := ⟨gb301, 1, none⟩) (Kd.zbB HO_300001.out (fun k_ hk => (⟨hk, hk.1.2.2.2.2.2⟩ : _ ∧ k_ ≠ gb301))) (fun _ hk => hk.2) (.slice Ao32 y314.length co32)) (fun _ hk => ⟨hk.1.1.1, ⟨hk.1.1.2.1, ⟨hk.1.2, ⟨hk.1.1.2.2.2.1, ⟨hk.1.1.2.2.2.2.1, hk.1.1.2.2.2.2.2⟩⟩⟩⟩⟩)⟩, ⟨by (with_reducible repeat (first | apply Kd.zbj | apply Kd.zbk | apply Kd.zbn)); exact Kd.zbO (Kd.zeM (p := ⟨gb301, 1, none⟩) (Kd.zbO HO_302000.out (fun k_ hk => (⟨hk, hk.1.2.2.2.2⟩ : _ ∧ k_ ≠ gb301))) (fun _ hk => hk.2) (.slice Ao32 y314.length co32)) (fun _ hk => ⟨hk.1.1.1, ⟨hk.1.2, ⟨hk.1.1.2.2.1, ⟨hk.1.1.2.2.2.1, hk.1.1.2.2.2.2⟩⟩⟩⟩)⟩, ⟨by (with_reducible repeat (first | apply Kd.zbj | apply Kd.zbk | apply Kd.zbn)); exact Kd.zbO (Kd.zeM (p := ⟨gb301, 1, none⟩) (Kd.zbO HO316.out (fun k_ hk => (⟨hk, hk.2.2.2.2⟩ : _ ∧ k_ ≠ gb301))) (fun _ hk => hk.2) (.slice Ao32 y314.length co32)) (fun _ hk => ⟨hk.1.1, ⟨hk.1.2.1, ⟨hk.1.2.2.1, ⟨hk.1.2.2.2.1, hk.1.2.2.2.2⟩⟩⟩⟩)⟩, ⟨by (with_reducible repeat (first | refine zaf ?_ _ | refine zai ?_ | refine zae ?_ _)); refine zbo ?_ NB299_301.out _; (with_reducible repeat (first | refine zaf ?_ _ | refine zai ?_ | refine zae ?_ _)); exact BK299.out⟩, ⟨by (with_reducible repeat (first | refine zaf ?_ _ | refine zai ?_ | refine zae ?_ _)); refine zbo ?_ NB300_301.out _; (with_reducible repeat (first | refine zaf ?_ _ | refine zai ?_ | refine zae ?_ _)); exact BK300.out⟩, ⟨by (with_reducible repeat (first | refine zaf ?_ _ | refine zai ?_ | refine zae ?_ _)); refine zaT (cs := #[u302000, u302001]) ?_ 1 _ rfl; (with_reducible repeat (first | refine zaf ?_ _ | refine zai ?_ | refine zae ?_ _)); exact BK301.out⟩, ⟨by repeat (first | (with_reducible first | exact HB.out | apply zac | apply zab | apply zad | refine zah ?_ GE299.out | refine zah ?_ GE300.out | refine zah ?_ GE301.out) | exact HB.out)⟩⟩
        ·rw [if_neg c24] at H
         exact absurd H (by simp)
       ·rw [if_neg c22] at H
        exact absurd H (by simp)
      ·rw [if_neg c21] at H
       have c21b0 : decide (x5_2 < (l0_1.length : Int)) = false := decide_eq_false c21
       clear c21
       simp only [Option.some.injEq, Prod.mk.injEq] at H
       obtain ⟨rfl, rfl⟩ := H
       have hnb34 := NB299_300.out
       have hnc34 := NB300_299.out
       have hnb35 := NB299_301.out
       have hnc35 := NB301_299.out
       have hcz36_0 : wr.cell? ⟨gb299, 0, none⟩ = some (.slice A0_0 l0_0.length c0_0) := (zaj BK299.out 0).trans rfl
       have hcz36_1 : wr.cell? ⟨gb299, 1, none⟩ = some (.slice A0_1 l0_1.length c0_1) := (zaj BK299.out 1).trans rfl
       have hfz36_0 := zak BK299.out 0
       have hfz36_1 := zak BK299.out 1
       have hnb37 := NB301_300.out
       have hnc37 := NB300_301.out
       have hcz38_0 : wr.cell? ⟨gb301, 0, none⟩ = some (u302000) := (zaj BK301.out 0).trans rfl
       have hcz38_1 : wr.cell? ⟨gb301, 1, none⟩ = some (u302001) := (zaj BK301.out 1).trans rfl
       have hfz38_0 := zak BK301.out 0
       have hfz38_1 := zak BK301.out 1
       obtain ⟨Ao39, co39, eo39⟩ := Kd.zcB HO_302000.out
       subst eo39
       have hcz40_0 : wr.cell? ⟨gb300, 0, none⟩ = some (.slice none 0 0) := (zaj BK300.out 0).trans rfl
       have hcz40_1 : wr.cell? ⟨gb300, 1, none⟩ = some (.slice none 0 0) := (zaj BK300.out 1).trans rfl
       have hfz40_0 := zak BK300.out 0
       have hfz40_1 := zak BK300.out 1
       obtain ⟨Ao41, co41, eo41⟩ := Kd.zcB HO_302001.out
       subst eo41
       go_wp2
       refine bodyPost_ret (results_cell_row rfl _ _ gb300 50 #[.slice Ao39 x302000_1.length co39, .slice Ao41 x302001_2.length co41] (0, 0) _ rfl (by (with_reducible repeat (first | refine zaf ?_ _ | refine zai ?_ | refine zae ?_ _)); refine zaT (cs := #[.slice Ao39 x302000_1.length co39, .slice none 0 0]) ?_ 1 _ rfl; (with_reducible repeat (first | refine zaf ?_ _ | refine zai ?_ | refine zae ?_ _)); refine zaT (cs := #[.slice none 0 0, .slice none 0 0]) ?_ 0 _ rfl; (with_reducible repeat (first | refine zaf ?_ _ | refine zai ?_ | refine zae ?_ _)); exact BK300.out) Tryd.underlying50 rfl (by kernel_rfl)) rfl ?_
       exact ⟨_, _, by first | rfl | (simp [zam, zan] <;> rfl) | (simp [*, zam, zan] <;> rfl), by (with_reducible repeat (first | apply Kd.zbj | apply Kd.zbk | apply Kd.zbn)); exact Kd.zbO (Kd.zeM (p := ⟨gb300, 1, none⟩) (Kd.zeM (p := ⟨gb300, 0, none⟩) (Kd.zbO HO_302000.out (fun k_ hk => (⟨hk, hk.2.2.2.1⟩ : _ ∧ k_ ≠ gb300))) (fun _ hk => hk.2) (.slice Ao39 x302000_1.length co39)) (fun _ hk => hk.2) (.slice Ao41 x302001_2.length co41)) (fun _ hk => ⟨hk.1.1, hk.1.2.1⟩), by (with_reducible repeat (first | apply Kd.zbj | apply Kd.zbk | apply Kd.zbn)); exact Kd.zbO (Kd.zeM (p := ⟨gb300, 1, none⟩) (Kd.zeM (p := ⟨gb300, 0, none⟩) (Kd.zbO HO_302001.out (fun k_ hk => (⟨hk, hk.2.2.2.1⟩ : _ ∧ k_ ≠ gb300))) (fun _ hk => hk.2) (.slice Ao39 x302000_1.length co39)) (fun _ hk => hk.2) (.slice Ao41 x302001_2.length co41)) (fun _ hk => ⟨hk.1.1, hk.1.2.1⟩), by repeat (first | (with_reducible first | exact HB.out | apply zac | apply zab | apply zad | refine zah ?_ GE299.out | refine zah ?_ GE300.out | refine zah ?_ GE301.out) | exact HB.out)⟩
def zbt.f (a0 : Bool) (a1_0 : Int) (a1_1 : Int) (a1_2 : Int) : Option (Int × Int × Int × Int) := if a0 = true then (some (2, a1_0, a1_1, a1_2)) else (some (0, 0, 0, 0))
set_option maxHeartbeats 8000000 in
set_option maxRecDepth 100000 in
theorem zbt.calls (a0 : Bool) (a1_0 : Int) (a1_1 : Int) (a1_2 : Int) (r1 : Int) (r2 : Int) (r3 : Int) (r4 : Int) (w : World) (h : zbt.f a0 a1_0 a1_1 a1_2 = some (r1, r2, r3, r4)) :
  Calls Tryd.prog 28 #[.bool a0, .agg #[.int .i64 a1_0, .int .i64 a1_1, .int .i64 a1_2]] w fun e w' => e = .returned (.agg #[.int .i64 r1, .int .i64 r2, .int .i64 r3, .int .i64 r4]) ∧ Below w.heap.size w w' := by
 have hu43 := Tryd.underlying43
 have hu25 := Tryd.underlying25
 have HB := zaa.mk (Below.refl w.heap.size w)
 have H : (if a0 = true then (some (2, a1_0, a1_1, a1_2)) else (some (0, 0, 0, 0))) = some (r1, r2, r3, r4) := h
 clear h
 by_cases c3 : a0 = true
 ·subst c3
  have H1 : (some (2, a1_0, a1_1, a1_2)) = some (r1, r2, r3, r4) := by rw [if_pos rfl] at H; exact H
  clear H
  have H := H1
  clear H1
  simp only [Option.some.injEq, Prod.mk.injEq] at H
  obtain ⟨rfl, rfl, rfl, rfl⟩ := H
  go_enter Tryd.func28, Tryd.ntmps28
  go_wp2_with (first | ((with_reducible refine za8 (N := 3) rfl ?_); refine za6 ?hg (N := 3) ?hd (cs := #[.int .i64 a1_0, .int .i64 a1_1, .int .i64 a1_2]) (t := 43) ?hr ?_; (case hd => rfl); (case hg => rfl); (case hr => first | (go_simp; done) | (go_simp; rfl)); intro gb317 hg w4 hbox hb; have n0_ := zaa.mk (zat (by repeat (first | (with_reducible first | exact HB.out | apply zac | apply zab | apply zad) | exact HB.out)) hb); have n1_ := zaa.mk (hbox); have n2_ := zaa.mk ((by rw [hg]; exact (zas (by repeat (first | (with_reducible first | exact HB.out | apply zac | apply zab | apply zad) | exact HB.out))) : w.heap.size ≤ gb317)); have n3_ := zaa.mk ((by rw [hg]; exact (zas (by repeat (first | (with_reducible first | exact HB.out | apply zac | apply zab | apply zad) | exact HB.out))) : w.heap.size ≤ gb317)); clear HB; have HB := n0_; have BK317 := n1_; have GW317 := n2_; have GE317 := n3_; clear n0_ n1_ n2_ n3_; clear hb hbox hg) | ((with_reducible refine za8 (N := 4) rfl ?_); refine za6 ?hg (N := 4) ?hd (cs := #[.int .i64 0, .int .i64 0, .int .i64 0, .int .i64 0]) (t := 25) ?hr ?_; (case hd => rfl); (case hg => rfl); (case hr => first | (go_simp; done) | (go_simp; rfl)); intro gb318 hg w5 hbox hb; have n0_ := zaa.mk (zaE (g := gb317) (o := .cells #[.int .i64 a1_0, .int .i64 a1_1, .int .i64 a1_2] 43 (0, 0)) (by (with_reducible repeat (first | refine zaf ?_ _ | refine zai ?_ | refine zae ?_ _)); exact BK317.out) hb); have n1_ := zaa.mk (zat (by repeat (first | (with_reducible first | exact HB.out | apply zac | apply zab | apply zad | refine zah ?_ GE317.out) | exact HB.out)) hb); have n2_ := zaa.mk (hbox); have n3_ := zaa.mk ((by rw [hg]; exact (zas (by repeat (first | (with_reducible first | exact HB.out | apply zac | apply zab | apply zad | refine zah ?_ GE317.out) | exact HB.out))) : w.heap.size ≤ gb318)); have n4_ := zaa.mk ((by rw [hg]; exact (zas (by repeat (first | (with_reducible first | exact HB.out | apply zac | apply zab | apply zad | refine zah ?_ GE317.out) | exact HB.out))) : w.heap.size ≤ gb318)); have n5_ := zaa.mk ((by rw [hg]; exact Nat.ne_of_lt (zbq (g := gb317) (o := .cells #[.int .i64 a1_0, .int .i64 a1_1, .int .i64 a1_2] 43 (0, 0)) (by (with_reducible repeat (first | refine zaf ?_ _ | refine zai ?_ | refine zae ?_ _)); exact BK317.out)) : gb317 ≠ gb318)); have n6_ := zaa.mk ((by rw [hg]; exact Nat.ne_of_gt (zbq (g := gb317) (o := .cells #[.int .i64 a1_0, .int .i64 a1_1, .int .i64 a1_2] 43 (0, 0)) (by (with_reducible repeat (first | refine zaf ?_ _ | refine zai ?_ | refine zae ?_ _)); exact BK317.out)) : gb318 ≠ gb317)); clear BK317; clear HB; have BK317 := n0_; have HB := n1_; have BK318 := n2_; have GW318 := n3_; have GE318 := n4_; have NB317_318 := n5_; have NB318_317 := n6_; clear n0_ n1_ n2_ n3_ n4_ n5_ n6_; clear hb hbox hg; have hnb6 := NB317_318.out; have hnc6 := NB318_317.out; have hcz7_0 : w5.cell? ⟨gb317, 0, none⟩ = some (.int .i64 a1_0) := (zaj BK317.out 0).trans rfl; have hcz7_1 : w5.cell? ⟨gb317, 1, none⟩ = some (.int .i64 a1_1) := (zaj BK317.out 1).trans rfl; have hcz7_2 : w5.cell? ⟨gb317, 2, none⟩ = some (.int .i64 a1_2) := (zaj BK317.out 2).trans rfl; have hfz7_0 := zak BK317.out 0; have hfz7_1 := zak BK317.out 1; have hfz7_2 := zak BK317.out 2; have hcz8_0 : w5.cell? ⟨gb318, 0, none⟩ = some (.int .i64 0) := (zaj BK318.out 0).trans rfl; have hcz8_1 : w5.cell? ⟨gb318, 1, none⟩ = some (.int .i64 0) := (zaj BK318.out 1).trans rfl; have hcz8_2 : w5.cell? ⟨gb318, 2, none⟩ = some (.int .i64 0) := (zaj BK318.out 2).trans rfl; have hcz8_3 : w5.cell? ⟨gb318, 3, none⟩ = some (.int .i64 0) := (zaj BK318.out 3).trans rfl; have hfz8_0 := zak BK318.out 0; have hfz8_1 := zak BK318.out 1; have hfz8_2 := zak BK318.out 2; have hfz8_3 := zak BK318.out 3))
  refine bodyPost_ret (results_cell_row rfl _ _ gb318 25 #[.int .i64 2, .int .i64 a1_0, .int .i64 a1_1, .int .i64 a1_2] (0, 0) _ rfl (by (with_reducible repeat (first | refine zaf ?_ _ | refine zai ?_ | refine zae ?_ _)); refine zaT (cs := #[.int .i64 2, .int .i64 a1_0, .int .i64 a1_1, .int .i64 0]) ?_ 3 _ rfl; (with_reducible repeat (first | refine zaf ?_ _ | refine zai ?_ | refine zae ?_ _)); refine zaT (cs := #[.int .i64 2, .int .i64 a1_0, .int .i64 0, .int .i64 0]) ?_ 2 _ rfl; (with_reducible repeat (first | refine zaf ?_ _ | refine zai ?_ | refine zae ?_ _)); refine zaT (cs := #[.int .i64 2, .int .i64 0, .int .i64 0, .int .i64 0]) ?_ 1 _ rfl; (with_reducible repeat (first | refine zaf ?_ _ | refine zai ?_ | refine zae ?_ _)); refine zaT (cs := #[.int .i64 0, .int .i64 0, .int .i64 0, .int .i64 0]) ?_ 0 _ rfl; (with_reducible repeat (first | refine zaf ?_ _ | refine zai ?_ | refine zae ?_ _)); exact BK318.out) Tryd.underlying25 rfl (by kernel_rfl)) rfl ?_
  exact ⟨by first | rfl | (simp [zam, zan] <;> rfl) | (simp [*, zam, zan] <;> rfl), by repeat (first | (with_reducible first | exact HB.out | apply zac | apply zab | apply zad | refine zah ?_ GE317.out | refine zah ?_ GE318.out) | exact HB.out)⟩
 ·replace c3 := Bool.eq_false_iff.mpr c3
  subst c3
  have H1 : (some (0, 0, 0, 0)) = some (r1, r2, r3, r4) := by rw [if_neg (show ¬ (false = true) by decide)] at H; exact H
  clear H
  have H := H1
  clear H1
  simp only [Option.some.injEq, Prod.mk.injEq] at H
  obtain ⟨rfl, rfl, rfl, rfl⟩ := H
  go_enter Tryd.func28, Tryd.ntmps28
  go_wp2_with (first | ((with_reducible refine za8 (N := 3) rfl ?_); refine za6 ?hg (N := 3) ?hd (cs := #[.int .i64 a1_0, .int .i64 a1_1, .int .i64 a1_2]) (t := 43) ?hr ?_; (case hd => rfl); (case hg => rfl); (case hr => first | (go_simp; done) | (go_simp; rfl)); intro gb317 hg w9 hbox hb; have n0_ := zaa.mk (zat (by repeat (first | (with_reducible first | exact HB.out | apply zac | apply zab | apply zad) | exact HB.out)) hb); have n1_ := zaa.mk (hbox); have n2_ := zaa.mk ((by rw [hg]; exact (zas (by repeat (first | (with_reducible first | exact HB.out | apply zac | apply zab | apply zad) | exact HB.out))) : w.heap.size ≤ gb317)); have n3_ := zaa.mk ((by rw [hg]; exact (zas (by repeat (first | (with_reducible first | exact HB.out | apply zac | apply zab | apply zad) | exact HB.out))) : w.heap.size ≤ gb317)); clear HB; have HB := n0_; have BK317 := n1_; have GW317 := n2_; have GE317 := n3_; clear n0_ n1_ n2_ n3_; clear hb hbox hg) | ((with_reducible refine za8 (N := 4) rfl ?_); refine za6 ?hg (N := 4) ?hd (cs := #[.int .i64 0, .int .i64 0, .int .i64 0, .int .i64 0]) (t := 25) ?hr ?_; (case hd => rfl); (case hg => rfl); (case hr => first | (go_simp; done) | (go_simp; rfl)); intro gb318 hg w10 hbox hb; have n0_ := zaa.mk (zaE (g := gb317) (o := .cells #[.int .i64 a1_0, .int .i64 a1_1, .int .i64 a1_2] 43 (0, 0)) (by (with_reducible repeat (first | refine zaf ?_ _ | refine zai ?_ | refine zae ?_ _)); exact BK317.out) hb); have n1_ := zaa.mk (zat (by repeat (first | (with_reducible first | exact HB.out | apply zac | apply zab | apply zad | refine zah ?_ GE317.out) | exact HB.out)) hb); have n2_ := zaa.mk (hbox); have n3_ := zaa.mk ((by rw [hg]; exact (zas (by repeat (first | (with_reducible first | exact HB.out | apply zac | apply zab | apply zad | refine zah ?_ GE317.out) | exact HB.out))) : w.heap.size ≤ gb318)); have n4_ := zaa.mk ((by rw [hg]; exact (zas (by repeat (first | (with_reducible first | exact HB.out | apply zac | apply zab | apply zad | refine zah ?_ GE317.out) | exact HB.out))) : w.heap.size ≤ gb318)); have n5_ := zaa.mk ((by rw [hg]; exact Nat.ne_of_lt (zbq (g := gb317) (o := .cells #[.int .i64 a1_0, .int .i64 a1_1, .int .i64 a1_2] 43 (0, 0)) (by (with_reducible repeat (first | refine zaf ?_ _ | refine zai ?_ | refine zae ?_ _)); exact BK317.out)) : gb317 ≠ gb318)); have n6_ := zaa.mk ((by rw [hg]; exact Nat.ne_of_gt (zbq (g := gb317) (o := .cells #[.int .i64 a1_0, .int .i64 a1_1, .int .i64 a1_2] 43 (0, 0)) (by (with_reducible repeat (first | refine zaf ?_ _ | refine zai ?_ | refine zae ?_ _)); exact BK317.out)) : gb318 ≠ gb317)); clear BK317; clear HB; have BK317 := n0_; have HB := n1_; have BK318 := n2_; have GW318 := n3_; have GE318 := n4_; have NB317_318 := n5_; have NB318_317 := n6_; clear n0_ n1_ n2_ n3_ n4_ n5_ n6_; clear hb hbox hg; have hnb11 := NB318_317.out; have hnc11 := NB317_318.out; have hcz12_0 : w10.cell? ⟨gb318, 0, none⟩ = some (.int .i64 0) := (zaj BK318.out 0).trans rfl; have hcz12_1 : w10.cell? ⟨gb318, 1, none⟩ = some (.int .i64 0) := (zaj BK318.out 1).trans rfl; have hcz12_2 : w10.cell? ⟨gb318, 2, none⟩ = some (.int .i64 0) := (zaj BK318.out 2).trans rfl; have hcz12_3 : w10.cell? ⟨gb318, 3, none⟩ = some (.int .i64 0) := (zaj BK318.out 3).trans rfl; have hfz12_0 := zak BK318.out 0; have hfz12_1 := zak BK318.out 1; have hfz12_2 := zak BK318.out 2; have hfz12_3 := zak BK318.out 3))
  refine bodyPost_ret (results_cell_row rfl _ _ gb318 25 #[.int .i64 0, .int .i64 0, .int .i64 0, .int .i64 0] (0, 0) _ rfl (by (with_reducible repeat (first | refine zaf ?_ _ | refine zai ?_ | refine zae ?_ _)); refine zaT (cs := #[.int .i64 0, .int .i64 0, .int .i64 0, .int .i64 0]) ?_ 3 _ rfl; (with_reducible repeat (first | refine zaf ?_ _ | refine zai ?_ | refine zae ?_ _)); refine zaT (cs := #[.int .i64 0, .int .i64 0, .int .i64 0, .int .i64 0]) ?_ 2 _ rfl; (with_reducible repeat (first | refine zaf ?_ _ | refine zai ?_ | refine zae ?_ _)); refine zaT (cs := #[.int .i64 0, .int .i64 0, .int .i64 0, .int .i64 0]) ?_ 1 _ rfl; (with_reducible repeat (first | refine zaf ?_ _ | refine zai ?_ | refine zae ?_ _)); refine zaT (cs := #[.int .i64 0, .int .i64 0, .int .i64 0, .int .i64 0]) ?_ 0 _ rfl; (with_reducible repeat (first | refine zaf ?_ _ | refine zai ?_ | refine zae ?_ _)); exact BK318.out) Tryd.underlying25 rfl (by kernel_rfl)) rfl ?_
  exact ⟨by first | rfl | (simp [zam, zan] <;> rfl) | (simp [*, zam, zan] <;> rfl), by repeat (first | (with_reducible first | exact HB.out | apply zac | apply zab | apply zad | refine zah ?_ GE317.out | refine zah ?_ GE318.out) | exact HB.out)⟩
end Go.Proofs.YtbicjgaadknmfaaDoor.P
end
section
namespace Go.Proofs.YtbicjgaadknmfaaDoor.P
open Go.RowKit Go.Proofs.YtbicjgaadknmfaaDoorW.PrintWords
set_option linter.unusedVariables false
set_option linter.unusedSimpArgs false
abbrev kN := k60
theorem zju {α : Type} (d : Kd α) (e : Nat) (W : World) (x : α) (cs : List Value) (h : d.K (W.alloc (.cells cs.toArray e)) x cs) :
    d.C (W.alloc (.cells cs.toArray e)) (some ⟨W.heap.size, 0, none⟩) 1 [x] := by
  have hl := d.K_len h
  have ho := World.ownsRow_lit (base := W.heap.size) (e := e) (size := d.sz) W cs.toArray 1 (Nat.le_refl _) (by unfold maxLen; omega) (by simpa using hl)
  have hR : Reps (d.K (W.alloc (.cells cs.toArray e))) d.sz [x] cs.toArray.toList := (Reps.none _ d.sz).snoc (by simpa using h) (by simpa using hl)
  obtain ⟨A, c, hv, hr⟩ := zeQ ho hR rfl
  injection hv with h1 _ _
  subst h1
  exact hr
theorem zhw (W : World) (i : Int) (n : Nat) (hn : W.heap.size = n) : Kd.C (Kd.slice 60 kN) ((W.alloc (.cells #[.int .i64 3, .int .i64 i, .slice none 0 0] 60)).alloc (.cells #[.slice (some ⟨n, 0, none⟩) 1 1] 56)) (some ⟨n + 1, 0, none⟩) 1 [[⟨3, i, []⟩]] := by
  subst hn
  have h1 := zju kN 60 W ⟨3, i, []⟩ _ (ziN _ ⟨3, i, []⟩ (A2 := none) (c2 := 0) (Nat.le_refl _) (Kd.zgF _ _))
  have h2 := zju (Kd.slice 60 kN) 56 (W.alloc (.cells #[.int .i64 3, .int .i64 i, .slice none 0 0] 60)) [⟨3, i, []⟩] [.slice (some ⟨W.heap.size, 0, none⟩) 1 1] ⟨_, _, rfl, Nat.le_refl _, Kd.za2 h1 (zac (Below.refl _ _) _)⟩
  have e : (W.alloc (.cells #[.int .i64 3, .int .i64 i, .slice none 0 0] 60)).heap.size = W.heap.size + 1 := by simp
  rw [e] at h2
  exact h2
theorem ex1 : zaG.f 30 [] [[⟨3, 0, []⟩]] 1 0 = some (0, 0, 0, 0) := by kernel_rfl
theorem ex2 : zaG.f 30 [] [[⟨3, 1, []⟩]] 1 0 = some (2, 1, 0, 0) := by kernel_rfl
theorem ex3 : zcj.f ⟨#[97]⟩ = some true := by kernel_rfl
theorem ex4 : zcj.f ⟨#[116]⟩ = some false := by kernel_rfl
theorem zgm (W : World) (A : Option Addr) (i q1 q2 q3 q4 : Int) (hq : zaG.f 30 [] [[⟨3, i, []⟩]] 1 0 = some (q1, q2, q3, q4)) (h : Kd.C (Kd.slice 60 kN) W A 1 [[⟨3, i, []⟩]]) :
    Calls Tryd.prog 26 #[.agg #[.slice none 0 0, .slice A 1 1], .int .i64 1, .int .i64 0] W fun e w' => e = .returned (.agg #[.int .i64 q1, .int .i64 q2, .int .i64 q3, .int .i64 q4]) ∧ Below W.heap.size W w' :=
  zaG.calls 30 none 0 [] A 1 [[⟨3, i, []⟩]] 1 0 q1 q2 q3 q4 W (Kd.zgF _ _) (Nat.le_refl _) h (Nat.le_refl _) hq
def zbh.f : Option Bool := some true
set_option maxHeartbeats 1000000 in
set_option maxRecDepth 100000 in
theorem zbh.calls (r : Bool) (w : World) (h : zbh.f = some r) :
    Calls Tryd.prog 24 #[] w fun e w' => e = .returned (.bool r) ∧ Below w.heap.size w w' := by
  obtain rfl := Option.some.inj h
  clear h
  go_enter Tryd.func24, Tryd.ntmps24
  go_wp2_with fail
  refine (zgm _ _ 0 _ _ _ _ ex1 (Kd.zaQ (Kd.zaQ (Kd.zaQ (Kd.zaQ (zhw w 0 _ rfl) _) _) _) _)).mono ?_
  rintro e w1 ⟨rfl, hb⟩
  have HB := zaa.mk hb
  have k0 := zbR hb (a := ⟨w.heap.size + 1 + 1 + 1 + 1 + 1, 0, none⟩) (v := .slice none 0 0) (by go_simp)
  have k1 := zbR hb (a := ⟨w.heap.size + 1 + 1 + 1 + 1 + 1, 1, none⟩) (v := .slice (some ⟨w.heap.size + 1 + 1 + 1 + 1, 0, none⟩) 1 1) (by go_simp)
  have HC := zaa.mk (Kd.za2 (Kd.zaQ (zhw (((w.alloc (.cells #[.int .i64 3, .int .i64 0, .slice none 0 0] 60)).alloc (.cells #[.slice (some ⟨w.heap.size, 0, none⟩) 1 1] 56)).alloc (.cells #[.slice none 0 0, .slice (some ⟨w.heap.size + 1, 0, none⟩) 1 1] 50)) 1 (w.heap.size + 1 + 1 + 1) (by simp)) _) hb)
  clear hb
  go_wp2_with fail
  refine (zgm _ _ 1 _ _ _ _ ex2 HC.out).mono ?_
  rintro e w2 ⟨rfl, hb⟩
  have HB2 := zaa.mk hb
  clear hb
  go_wp2_with fail
  refine (zcj.calls _ _ _ ex3).mono ?_
  rintro e w3 ⟨rfl, hb⟩
  have HB3 := zaa.mk hb
  clear hb
  go_wp2_with fail
  refine (zcj.calls _ _ _ ex4).mono ?_
  rintro e w4 ⟨rfl, hb⟩
  have HB4 := zaa.mk hb
  clear hb
  go_wp2_with fail
  go_ret
  refine ⟨rfl, ?_⟩
  exact zat (zat (zat (zat (zac (zac (zac (zac (zac (zac (Below.refl _ _) _) _) _) _) _) _) HB.out) HB2.out) HB3.out) HB4.out
end Go.Proofs.YtbicjgaadknmfaaDoor.P
end
