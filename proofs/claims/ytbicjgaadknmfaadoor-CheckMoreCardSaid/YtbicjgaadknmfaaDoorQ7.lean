import Derived.Test.YtbicjgaadknmfaaDoorQ1
import Derived.Test.YtbicjgaadknmfaaDoorQ6
import Derived.Test.YtbicjgaadknmfaaDoorQ5
import Derived.Test.YtbicjgaadknmfaaDoorQ3
import Derived.Test.YtbicjgaadknmfaaDoorQ4
import Derived.Test.YtbicjgaadknmfaaDoorQ0
section
namespace Go.Proofs.YtbicjgaadknmfaaDoor.P
open Go.RowKit Go.Proofs.YtbicjgaadknmfaaDoorW.PrintWords Go.Proofs.YtbicjgaadknmfaaDoorW.PrintLast Go.Proofs.YtbicjgaadknmfaaDoorW.PrintMore
attribute [local go_sem] zcu zcp zcl zck zbZ zbX zb9 zb7
set_option linter.unusedVariables false
set_option linter.unusedSimpArgs false
mutual
def zaq.l0 : Nat → Int → List (S121) → List (List (S62)) → List (S127) → Option ((List (S127)) × (List (List (S60))))
 | 0, _, _, _, _ => none
 | k + 1, x4, x300000, x300001, x302000 => if x4 < (x300000.length : Int) then (if 0 ≤ x4 then ((zaE.f k ((zbg x300000 x4).f1)).bind fun t304 => (if x302000.length < 3518437208883 then (zaq.l0 k (wrap64 (x4 + 1)) x300000 x300001 (x302000 ++ [(⟨(zbg x300000 x4).f0, t304⟩ : S127)])) else (none))) else (none)) else (zaq.l1 k 0 x300000 x300001 x302000 ([] : List (List (S60))))
def zaq.l1 : Nat → Int → List (S121) → List (List (S62)) → List (S127) → List (List (S60)) → Option ((List (S127)) × (List (List (S60))))
 | 0, _, _, _, _, _ => none
 | k + 1, x5, x300000, x300001, x302000, x302001 => if x5 < (x300001.length : Int) then (if 0 ≤ x5 then ((zaE.f k (zbH x300001 x5)).bind fun t311 => (if x302001.length < 5864062014805 then (zaq.l1 k (wrap64 (x5 + 1)) x300000 x300001 x302000 (x302001 ++ [t311])) else (none))) else (none)) else (some (x302000, x302001))
end
def zaq.f (k : Nat) (l0_0 : List (S121)) (l0_1 : List (List (S62))) : Option ((List (S127)) × (List (List (S60)))) := zaq.l0 k 0 l0_0 l0_1 ([] : List (S127))
theorem zaq.zaV : ∀ k, (∀ y0 y1 y2 y3, LeO (zaq.l0 k y0 y1 y2 y3) (zaq.l0 (k + 1) y0 y1 y2 y3)) ∧ (∀ y0 y1 y2 y3 y4, LeO (zaq.l1 k y0 y1 y2 y3 y4) (zaq.l1 (k + 1) y0 y1 y2 y3 y4))
 | 0 => ⟨fun _ _ _ _ r h => by simp [zaq.l0] at h, fun _ _ _ _ _ r h => by simp [zaq.l1] at h⟩
 | k + 1 => by
  obtain ⟨ih0, ih1⟩ := zaq.zaV k
  refine ⟨?_, ?_⟩
  ·intro y0 y1 y2 y3
   unfold zaq.l0
   repeat' first
   | (with_reducible exact ih0 _ _ _ _)
   | (with_reducible exact ih1 _ _ _ _ _)
   | (with_reducible exact zaE.mono _ _)
   | (with_reducible exact LeO.refl _)
   | (with_reducible exact LeO.none _)
   | (with_reducible refine LeO.ite ?_ ?_)
   | (with_reducible refine LeO.bind ?_ (fun _ => ?_))
   | exact ih0 _ _ _ _
   | exact ih1 _ _ _ _ _
   | exact zaE.mono _ _
   | exact LeO.none _
   | refine LeO.ite ?_ ?_
   | refine LeO.bind ?_ (fun _ => ?_)
  ·intro y0 y1 y2 y3 y4
   unfold zaq.l1
   repeat' first
   | (with_reducible exact ih0 _ _ _ _)
   | (with_reducible exact ih1 _ _ _ _ _)
   | (with_reducible exact zaE.mono _ _)
   | (with_reducible exact LeO.refl _)
   | (with_reducible exact LeO.none _)
   | (with_reducible refine LeO.ite ?_ ?_)
   | (with_reducible refine LeO.bind ?_ (fun _ => ?_))
   | exact ih0 _ _ _ _
   | exact ih1 _ _ _ _ _
   | exact zaE.mono _ _
   | exact LeO.none _
   | refine LeO.ite ?_ ?_
   | refine LeO.bind ?_ (fun _ => ?_)
theorem zaq.mono : ∀ a0 a1 k, LeO (zaq.f k a0 a1) (zaq.f (k + 1) a0 a1) := by
 intro a0 a1 k
 obtain ⟨ih0, ih1⟩ := zaq.zaV k
 unfold zaq.f
 repeat' first
   | (with_reducible exact ih0 _ _ _ _)
   | (with_reducible exact ih1 _ _ _ _ _)
   | (with_reducible exact zaE.mono _ _)
   | (with_reducible exact LeO.refl _)
   | (with_reducible exact LeO.none _)
   | (with_reducible refine LeO.ite ?_ ?_)
   | (with_reducible refine LeO.bind ?_ (fun _ => ?_))
   | exact ih0 _ _ _ _
   | exact ih1 _ _ _ _ _
   | exact zaE.mono _ _
   | exact LeO.none _
   | refine LeO.ite ?_ ?_
   | refine LeO.bind ?_ (fun _ => ?_)
def zaq.T5 : Bool × List (List Nat × List Nat) := (true, [([], []), ([0], [0]), ([], []), ([2], [2]), ([], []), ([3, 4], [3, 4]), ([5], [5]), ([6], [6]), ([], []), ([8], [8]), ([], []), ([9, 10], [9, 10]), ([11], [11]), ([12], [12]), ([13], [13]), ([7, 14], [7, 14]), ([15], [15]), ([1, 16, 14], [1, 16]), ([0, 1, 2, 3, 4, 5, 6, 7, 8, 9, 10, 11, 12, 13, 14, 15, 16, 17], []), ([18, 17, 17, 0, 1, 2, 3, 4, 5, 6, 7, 8, 9, 10, 11, 12, 13, 14, 15, 16, 17], [17, 18])])
def zaq.B5 : List Nat := [0, 1, 0, 4, 0, 28, 60, 124, 0, 256, 0, 1792, 3840, 7936, 16128, 32764, 65532, 131071, 262143, 524287]
theorem zaq.tab5 : rtab .any (opsOf Tryd.f27 5) = zaq.T5 := by kernel_rfl
theorem zaq.zgo : zc2 zaq.T5.2 zaq.B5 = true := by kernel_rfl
def zaq.T9 : Bool × List (List Nat × List Nat) := (true, [([], []), ([0], [0]), ([], []), ([2], [2]), ([], []), ([3, 4], [3, 4]), ([5], [5]), ([6], [6]), ([7], [7]), ([1, 8, 7], [1, 8]), ([0, 1, 2, 3, 4, 5, 6, 7, 8, 9], []), ([10, 9, 9, 0, 1, 2, 3, 4, 5, 6, 7, 8, 9], [9, 10])])
def zaq.B9 : List Nat := [0, 1, 0, 4, 0, 28, 60, 124, 252, 511, 1023, 2047]
theorem zaq.tab9 : rtab .any (opsOf Tryd.f27 9) = zaq.T9 := by kernel_rfl
theorem zaq.zlG : zc2 zaq.T9.2 zaq.B9 = true := by kernel_rfl
set_option maxHeartbeats 8000000 in
set_option maxRecDepth 100000 in
theorem zaq.calls (k : Nat) (P0_0_ : Nat → Prop) (A0_0 : Option Addr) (c0_0 : Nat) (l0_0 : List (S121)) (P0_1_ : Nat → Prop) (A0_1 : Option Addr) (c0_1 : Nat) (l0_1 : List (List (S62))) (r1 : List (S127)) (r2 : List (List (S60))) (w : World) (hs0_0 : Kd.V k121 121 w w.heap.size (fun k_ => P0_0_ k_) (.slice A0_0 l0_0.length c0_0) l0_0) (hs0_1 : Kd.V (Kd.slice 62 k62) 54 w w.heap.size (fun k_ => P0_1_ k_) (.slice A0_1 l0_1.length c0_1) l0_1) (h : zaq.f k l0_0 l0_1 = some (r1, r2)) :
  Calls Tryd.prog 27 #[.agg #[.slice A0_0 l0_0.length c0_0, .slice A0_1 l0_1.length c0_1]] w fun e w' => ∃ v0_ v1_ : Value, e = .returned (.agg #[v0_, v1_]) ∧ Kd.N k127 127 w' w.heap.size (fun k_ => ((P0_0_ k_ ∨ P0_1_ k_) ∨ w.heap.size ≤ k_) ∧ some k_ ≠ (v1_ : Value).ownBlock) v0_ r1 ∧ Kd.N (Kd.slice 60 k60) 56 w' w.heap.size (fun k_ => ((P0_0_ k_ ∨ P0_1_ k_) ∨ w.heap.size ≤ k_) ∧ some k_ ≠ (v0_ : Value).ownBlock) v1_ r2 ∧ Below w.heap.size w w' := by
 have hu41 := Tryd.underlying41
 have hu50 := Tryd.underlying50
 have hu127 := Tryd.underlying127
 have HO0_0 := zaa.mk (show Kd.V k121 121 w w.heap.size (fun k_ => ((P0_0_ k_ ∨ P0_1_ k_) ∨ w.heap.size ≤ k_)) (.slice A0_0 l0_0.length c0_0) l0_0 from Kd.zby hs0_0 (fun k_ hk => .inl (.inl hk)))
 have HO0_1 := zaa.mk (show Kd.V (Kd.slice 62 k62) 54 w w.heap.size (fun k_ => ((P0_0_ k_ ∨ P0_1_ k_) ∨ w.heap.size ≤ k_)) (.slice A0_1 l0_1.length c0_1) l0_1 from Kd.zby hs0_1 (fun k_ hk => .inl (.inr hk)))
 have HB := zaa.mk (Below.refl w.heap.size w)
 have H : (zaq.l0 k 0 l0_0 l0_1 ([] : List (S127))) = some (r1, r2) := h
 clear h
 have H' := zaa.mk H
 clear H
 go_enter Tryd.func27, Tryd.ntmps27
 go_wp2_with (first | ((with_reducible refine zba (N := 1) rfl ?_); refine za6 ?hg (N := 1) ?hd (cs := #[.slice A0_0 l0_0.length c0_0, .slice A0_1 l0_1.length c0_1]) (t := 41) ?hr ?_; (case hd => rfl); (case hg => rfl); (case hr => first | (go_simp; done) | (go_simp; rfl)); intro gb299 hg w2 hbox hb; have n0_ := zaa.mk (Kd.zct (Kd.zdj (by (with_reducible repeat (first | apply Kd.zbb | apply Kd.zbc | apply Kd.zbf)); exact HO0_0.out) gb299 (Nat.le_of_eq hg.symm)) hb); have n1_ := zaa.mk (Kd.zct (Kd.zdj (by (with_reducible repeat (first | apply Kd.zbb | apply Kd.zbc | apply Kd.zbf)); exact HO0_1.out) gb299 (Nat.le_of_eq hg.symm)) hb); have n2_ := zaa.mk (zat (by repeat (first | (with_reducible first | exact HB.out | apply zac | apply zab | apply zad) | exact HB.out)) hb); have n3_ := zaa.mk (hbox); have n4_ := zaa.mk ((by rw [hg]; exact (zas (by repeat (first | (with_reducible first | exact HB.out | apply zac | apply zab | apply zad) | exact HB.out))) : w.heap.size ≤ gb299)); have n5_ := zaa.mk ((by rw [hg]; exact (zas (by repeat (first | (with_reducible first | exact HB.out | apply zac | apply zab | apply zad) | exact HB.out))) : w.heap.size ≤ gb299)); clear HO0_0; clear HO0_1; clear HB; have HO0_0 := n0_; have HO0_1 := n1_; have HB := n2_; have BK299 := n3_; have GW299 := n4_; have GE299 := n5_; clear n0_ n1_ n2_ n3_ n4_ n5_; clear hb hbox hg) | ((with_reducible refine zba (N := 2) rfl ?_); refine za6 ?hg (N := 2) ?hd (cs := #[.slice none 0 0, .slice none 0 0]) (t := 50) ?hr ?_; (case hd => rfl); (case hg => rfl); (case hr => first | (go_simp; done) | (go_simp; rfl)); intro gb300 hg w3 hbox hb; have n0_ := zaa.mk (Kd.zct (Kd.zdj (by (with_reducible repeat (first | apply Kd.zbb | apply Kd.zbc | apply Kd.zbf)); exact HO0_0.out) gb300 (Nat.le_of_eq hg.symm)) hb); have n1_ := zaa.mk (Kd.zct (Kd.zdj (by (with_reducible repeat (first | apply Kd.zbb | apply Kd.zbc | apply Kd.zbf)); exact HO0_1.out) gb300 (Nat.le_of_eq hg.symm)) hb); have n2_ := zaa.mk (zaM (g := gb299) (o := .cells #[.slice A0_0 l0_0.length c0_0, .slice A0_1 l0_1.length c0_1] 41 (0, 0)) (by (with_reducible repeat (first | refine zaf ?_ _ | refine zai ?_ | refine zae ?_ _)); exact BK299.out) hb); have n3_ := zaa.mk (zat (by repeat (first | (with_reducible first | exact HB.out | apply zac | apply zab | apply zad | refine zah ?_ GE299.out) | exact HB.out)) hb); have n4_ := zaa.mk (hbox); have n5_ := zaa.mk ((by rw [hg]; exact (zas (by repeat (first | (with_reducible first | exact HB.out | apply zac | apply zab | apply zad | refine zah ?_ GE299.out) | exact HB.out))) : w.heap.size ≤ gb300)); have n6_ := zaa.mk ((by rw [hg]; exact (zas (by repeat (first | (with_reducible first | exact HB.out | apply zac | apply zab | apply zad | refine zah ?_ GE299.out) | exact HB.out))) : w.heap.size ≤ gb300)); have n7_ := zaa.mk ((by rw [hg]; exact Nat.ne_of_lt (zbk (g := gb299) (o := .cells #[.slice A0_0 l0_0.length c0_0, .slice A0_1 l0_1.length c0_1] 41 (0, 0)) (by (with_reducible repeat (first | refine zaf ?_ _ | refine zai ?_ | refine zae ?_ _)); exact BK299.out)) : gb299 ≠ gb300)); have n8_ := zaa.mk ((by rw [hg]; exact Nat.ne_of_gt (zbk (g := gb299) (o := .cells #[.slice A0_0 l0_0.length c0_0, .slice A0_1 l0_1.length c0_1] 41 (0, 0)) (by (with_reducible repeat (first | refine zaf ?_ _ | refine zai ?_ | refine zae ?_ _)); exact BK299.out)) : gb300 ≠ gb299)); clear HO0_0; clear HO0_1; clear BK299; clear HB; have HO0_0 := n0_; have HO0_1 := n1_; have BK299 := n2_; have HB := n3_; have BK300 := n4_; have GW300 := n5_; have GE300 := n6_; have NB299_300 := n7_; have NB300_299 := n8_; clear n0_ n1_ n2_ n3_ n4_ n5_ n6_ n7_ n8_; clear hb hbox hg) | ((with_reducible refine zba (N := 3) rfl ?_); refine za6 ?hg (N := 3) ?hd (cs := #[.slice none 0 0, .slice none 0 0]) (t := 50) ?hr ?_; (case hd => rfl); (case hg => rfl); (case hr => first | (go_simp; done) | (go_simp; rfl)); intro gb301 hg w4 hbox hb; have n0_ := zaa.mk (Kd.zct (Kd.zdj (by (with_reducible repeat (first | apply Kd.zbb | apply Kd.zbc | apply Kd.zbf)); exact HO0_0.out) gb301 (Nat.le_of_eq hg.symm)) hb); have n1_ := zaa.mk (Kd.zct (Kd.zdj (by (with_reducible repeat (first | apply Kd.zbb | apply Kd.zbc | apply Kd.zbf)); exact HO0_1.out) gb301 (Nat.le_of_eq hg.symm)) hb); have n2_ := zaa.mk (zaM (g := gb299) (o := .cells #[.slice A0_0 l0_0.length c0_0, .slice A0_1 l0_1.length c0_1] 41 (0, 0)) (by (with_reducible repeat (first | refine zaf ?_ _ | refine zai ?_ | refine zae ?_ _)); exact BK299.out) hb); have n3_ := zaa.mk (zaM (g := gb300) (o := .cells #[.slice none 0 0, .slice none 0 0] 50 (0, 0)) (by (with_reducible repeat (first | refine zaf ?_ _ | refine zai ?_ | refine zae ?_ _)); exact BK300.out) hb); have n4_ := zaa.mk (zat (by repeat (first | (with_reducible first | exact HB.out | apply zac | apply zab | apply zad | refine zah ?_ GE299.out | refine zah ?_ GE300.out) | exact HB.out)) hb); have n5_ := zaa.mk (hbox); have n6_ := zaa.mk ((by rw [hg]; exact (zas (by repeat (first | (with_reducible first | exact HB.out | apply zac | apply zab | apply zad | refine zah ?_ GE299.out | refine zah ?_ GE300.out) | exact HB.out))) : w.heap.size ≤ gb301)); have n7_ := zaa.mk ((by rw [hg]; exact (zas (by repeat (first | (with_reducible first | exact HB.out | apply zac | apply zab | apply zad | refine zah ?_ GE299.out | refine zah ?_ GE300.out) | exact HB.out))) : w.heap.size ≤ gb301)); have n8_ := zaa.mk ((by rw [hg]; exact Nat.ne_of_lt (zbk (g := gb299) (o := .cells #[.slice A0_0 l0_0.length c0_0, .slice A0_1 l0_1.length c0_1] 41 (0, 0)) (by (with_reducible repeat (first | refine zaf ?_ _ | refine zai ?_ | refine zae ?_ _)); exact BK299.out)) : gb299 ≠ gb301)); have n9_ := zaa.mk ((by rw [hg]; exact Nat.ne_of_gt (zbk (g := gb299) (o := .cells #[.slice A0_0 l0_0.length c0_0, .slice A0_1 l0_1.length c0_1] 41 (0, 0)) (by (with_reducible repeat (first | refine zaf ?_ _ | refine zai ?_ | refine zae ?_ _)); exact BK299.out)) : gb301 ≠ gb299)); have n10_ := zaa.mk ((by rw [hg]; exact Nat.ne_of_lt (zbk (g := gb300) (o := .cells #[.slice none 0 0, .slice none 0 0] 50 (0, 0)) (by (with_reducible repeat (first | refine zaf ?_ _ | refine zai ?_ | refine zae ?_ _)); exact BK300.out)) : gb300 ≠ gb301)); have n11_ := zaa.mk ((by rw [hg]; exact Nat.ne_of_gt (zbk (g := gb300) (o := .cells #[.slice none 0 0, .slice none 0 0] 50 (0, 0)) (by (with_reducible repeat (first | refine zaf ?_ _ | refine zai ?_ | refine zae ?_ _)); exact BK300.out)) : gb301 ≠ gb300)); clear HO0_0; clear HO0_1; clear BK299; clear BK300; clear HB; have HO0_0 := n0_; have HO0_1 := n1_; have BK299 := n2_; have BK300 := n3_; have HB := n4_; have BK301 := n5_; have GW301 := n6_; have GE301 := n7_; have NB299_301 := n8_; have NB301_299 := n9_; have NB300_301 := n10_; have NB301_300 := n11_; clear n0_ n1_ n2_ n3_ n4_ n5_ n6_ n7_ n8_ n9_ n10_ n11_; clear hb hbox hg))
 go_loopg [4] k (fun kq v4 w' => ∃ (x4_1 : Int) (x302000_1 : List (S127)) (u302000 : Value), v4 = .int .i64 x4_1 ∧ zaa (zaq.l0 kq x4_1 l0_0 l0_1 x302000_1 = some (r1, r2)) ∧ zaa (kq ≤ k) ∧ zaa (Kd.V k121 121 w' w.heap.size (fun k_ => ((P0_0_ k_ ∨ P0_1_ k_) ∨ w.heap.size ≤ k_) ∧ some k_ ≠ (u302000 : Value).ownBlock ∧ k_ ≠ gb299 ∧ k_ ≠ gb300 ∧ k_ ≠ gb301) (.slice A0_0 l0_0.length c0_0) l0_0) ∧ zaa (Kd.V (Kd.slice 62 k62) 54 w' w.heap.size (fun k_ => ((P0_0_ k_ ∨ P0_1_ k_) ∨ w.heap.size ≤ k_) ∧ some k_ ≠ (u302000 : Value).ownBlock ∧ k_ ≠ gb299 ∧ k_ ≠ gb300 ∧ k_ ≠ gb301) (.slice A0_1 l0_1.length c0_1) l0_1) ∧ zaa (Kd.N k127 127 w' w.heap.size (fun k_ => ((P0_0_ k_ ∨ P0_1_ k_) ∨ w.heap.size ≤ k_) ∧ k_ ≠ gb299 ∧ k_ ≠ gb300 ∧ k_ ≠ gb301) u302000 x302000_1) ∧ zaa (w'.heap[gb299]? = some (.cells #[(.slice A0_0 l0_0.length c0_0), (.slice A0_1 l0_1.length c0_1)] 41 (0, 0))) ∧ zaa (w'.heap[gb300]? = some (.cells #[(.slice none 0 0), (.slice none 0 0)] 50 (0, 0))) ∧ zaa (w'.heap[gb301]? = some (.cells #[u302000, (.slice none 0 0)] 50 (0, 0))) ∧ zaa (Below w.heap.size w w'))
 case atStart => exact ⟨(0), (([] : List (S127))), (.slice none 0 0), (by first | rfl | (simp; done) | (simp [*]; done)), H', ⟨Nat.le_refl _⟩, ⟨by (with_reducible repeat (first | apply Kd.zbb | apply Kd.zbc | apply Kd.zbf)); exact Kd.zby HO0_0.out (fun _ hk => ⟨hk.1.1.1, ⟨(by simp [Value.ownBlock]), ⟨hk.1.1.2, ⟨hk.1.2, hk.2⟩⟩⟩⟩)⟩, ⟨by (with_reducible repeat (first | apply Kd.zbb | apply Kd.zbc | apply Kd.zbf)); exact Kd.zby HO0_1.out (fun _ hk => ⟨hk.1.1.1, ⟨(by simp [Value.ownBlock]), ⟨hk.1.1.2, ⟨hk.1.2, hk.2⟩⟩⟩⟩)⟩, ⟨by first | exact Kd.zdg _ _ _ _ _ | exact Kd.zet _ _ _ _ _ | exact Kd.zer _ _ _ _ _ | exact Kd.zew _ _ _ _ _ | exact Kd.zeu _ _ _ _ _⟩, ⟨by (with_reducible repeat (first | refine zaf ?_ _ | refine zai ?_ | refine zae ?_ _)); exact BK299.out⟩, ⟨by (with_reducible repeat (first | refine zaf ?_ _ | refine zai ?_ | refine zae ?_ _)); exact BK300.out⟩, ⟨by (with_reducible repeat (first | refine zaf ?_ _ | refine zai ?_ | refine zae ?_ _)); exact BK301.out⟩, ⟨by repeat (first | (with_reducible first | exact HB.out | apply zac | apply zab | apply zad | refine zah ?_ GE299.out | refine zah ?_ GE300.out | refine zah ?_ GE301.out) | exact HB.out)⟩⟩
 case round =>
  clear H'
  try clear c2
  try clear p2
  obtain ⟨x4_1, x302000_1, u302000, rfl, HA, HK1, HO_300000, HO_300001, HO_302000, BK299, BK300, BK301, HB⟩ := hrel
  cases gk with
  | zero => exact absurd HA.out (by simp [zaq.l0])
  | succ k1 =>
   have H := HA.out
   clear HA
   simp only [zaq.l0] at H
   by_cases c5 : x4_1 < (l0_0.length : Int)
   ·rw [if_pos c5] at H
    have c5b0 : decide (x4_1 < (l0_0.length : Int)) = true := decide_eq_true c5
    clear c5
    by_cases c6 : 0 ≤ x4_1
    ·rw [if_pos c6] at H
     have c6b0 : decide (0 ≤ x4_1) = true := decide_eq_true c6
     clear c6
     replace H := Option.bind_eq_some_iff.mp H
     obtain ⟨t304, A70, H⟩ := H
     replace H : (if x302000_1.length < 3518437208883 then (zaq.l0 k1 (wrap64 (x4_1 + 1)) l0_0 l0_1 (x302000_1 ++ [(⟨(zbg l0_0 x4_1).f0, t304⟩ : S127)])) else (none)) = some (r1, r2) := H
     have A7 := zaa.mk A70
     clear A70
     by_cases c8 : x302000_1.length < 3518437208883
     ·rw [if_pos c8] at H
      have LMc8 := zaa.mk c8
      clear c8
      obtain ⟨y307, hy307⟩ : ∃ y_ : List (S127), y_ = (x302000_1 ++ [(⟨(zbg l0_0 x4_1).f0, t304⟩ : S127)]) := ⟨_, rfl⟩
      replace H : (zaq.l0 k1 (wrap64 (x4_1 + 1)) l0_0 l0_1 y307) = some (r1, r2) := by first | (rw [hy307]; with_reducible exact H) | (have H2_ := (Option.bind_some _ _).symm.trans H; rw [hy307]; with_reducible exact H2_) | (have H2_ := (Option.bind_some _ _).symm.trans H; with_reducible exact H2_) | with_reducible exact H | (rw [hy307]; exact H) | exact H
      have Ny307 := zaa.mk hy307
      clear hy307
      have H' := zaa.mk H
      clear H
      have hnb9 := NB299_300.out
      have hnc9 := NB300_299.out
      have hnb10 := NB299_301.out
      have hnc10 := NB301_299.out
      have hcz11_0 : wr.cell? ⟨gb299, 0, none⟩ = some (.slice A0_0 l0_0.length c0_0) := (zaj BK299.out 0).trans rfl
      have hcz11_1 : wr.cell? ⟨gb299, 1, none⟩ = some (.slice A0_1 l0_1.length c0_1) := (zaj BK299.out 1).trans rfl
      have hfz11_0 := zak BK299.out 0
      have hfz11_1 := zak BK299.out 1
      try go_wp2
      have n0_ := zaa.mk (Kd.zbf HO_300000.out)
      have n1_ := zaa.mk (Kd.zbf HO_300001.out)
      have n2_ := zaa.mk (Kd.zbr HO_302000.out)
      have n3_ := zaa.mk (zai BK299.out)
      have n4_ := zaa.mk (zai BK300.out)
      have n5_ := zaa.mk (zai BK301.out)
      have n6_ := zaa.mk (zad HB.out)
      clear HO_300000
      clear HO_300001
      clear HO_302000
      clear BK299
      clear BK300
      clear BK301
      clear HB
      have HO_300000 := n0_
      have HO_300001 := n1_
      have HO_302000 := n2_
      have BK299 := n3_
      have BK300 := n4_
      have BK301 := n5_
      have HB := n6_
      clear n0_ n1_ n2_ n3_ n4_ n5_ n6_
      have p302 : 0 ≤ (x4_1 : Int) := of_decide_eq_true (by first | (with_reducible assumption) | assumption)
      have q302 : x4_1 < (l0_0.length : Int) := of_decide_eq_true (by first | (with_reducible assumption) | assumption)
      obtain ⟨ad302, A302_1, c302_1, e302, hx302_0, hx302_1, hl302_1, hi302_1⟩ := zc1 (Kd.zb8 HO_300000.out).2.2 x4_1 p302 q302
      cases e302
      obtain ⟨ce302, hce302, hMe302, hcc302⟩ := Kd.zeW HO_300000.out z121 x4_1 p302 (by first | exact q302 | exact of_decide_eq_true (by first | (with_reducible assumption) | assumption) | (have e_ := (Kd.zb8 HO_300000.out).1; omega))
      obtain ⟨ua302_1, uc302_1, rfl, ul302_1, ge302_1⟩ := ze6 hMe302
      have hv302_1 := hcc302 1 _ rfl
      rw [zbY _ _ 1 (by omega)] at hv302_1
      replace hv302_1 := Option.some.inj (hv302_1.symm.trans hx302_1)
      injection hv302_1 with hva_ hvn_ hvc_
      rw [hva_] at ge302_1
      rw [hvc_] at ul302_1
      have HL302_1 := zaa.mk (show Kd.V k62 62 _ w.heap.size _ _ ((zbg l0_0 x4_1).f1) from Kd.V_mk ul302_1 ge302_1)
      clear hva_ hvn_ hvc_ ge302_1 ul302_1
      clear hcc302 hce302
      have HR302_1 := zaa.mk hi302_1
      have HC302_1 := zaa.mk hl302_1
      clear hi302_1 hl302_1
      replace p302 := eq_true p302
      replace q302 := eq_true q302
      have p303 : 0 ≤ (x4_1 : Int) := of_decide_eq_true (by first | (with_reducible assumption) | assumption)
      have q303 : x4_1 < (l0_0.length : Int) := of_decide_eq_true (by first | (with_reducible assumption) | assumption)
      obtain ⟨ad303, A303_1, c303_1, e303, hx303_0, hx303_1, hl303_1, hi303_1⟩ := zc1 (Kd.zb8 HO_300000.out).2.2 x4_1 p303 q303
      obtain rfl : ad302 = ad303 := (by injection e303)
      obtain ⟨ce303, hce303, hMe303, hcc303⟩ := Kd.zeW HO_300000.out z121 x4_1 p303 (by first | exact q303 | exact of_decide_eq_true (by first | (with_reducible assumption) | assumption) | (have e_ := (Kd.zb8 HO_300000.out).1; omega))
      obtain ⟨ua303_1, uc303_1, rfl, ul303_1, ge303_1⟩ := ze6 hMe303
      have hv303_1 := hcc303 1 _ rfl
      rw [zbY _ _ 1 (by omega)] at hv303_1
      replace hv303_1 := Option.some.inj (hv303_1.symm.trans hx303_1)
      injection hv303_1 with hva_ hvn_ hvc_
      rw [hva_] at ge303_1
      rw [hvc_] at ul303_1
      have HL303_1 := zaa.mk (show Kd.V k62 62 _ w.heap.size _ _ ((zbg l0_0 x4_1).f1) from Kd.V_mk ul303_1 ge303_1)
      clear hva_ hvn_ hvc_ ge303_1 ul303_1
      clear hcc303 hce303
      have HR303_1 := zaa.mk hi303_1
      have HC303_1 := zaa.mk hl303_1
      clear hi303_1 hl303_1
      replace p303 := eq_true p303
      replace q303 := eq_true q303
      have ea_ := Option.some.inj (hx302_1.symm.trans hx303_1)
      injection ea_ with ea_ en_ ec_
      subst ea_
      subst ec_
      clear en_
      refine zdq (n := 20) (S := fun w' => w'.cell? ⟨gb301, 0, none⟩ = some (u302000) ∧ w'.cell? ⟨gb301, 1, none⟩ = some (.slice none 0 0) ∧ w'.cell? ⟨gb299, 0, none⟩ = some (.slice (some ad302) l0_0.length c0_0) ∧ w'.cell? ⟨gb299, 1, none⟩ = some (.slice A0_1 l0_1.length c0_1) ∧ w'.cell? (ad302.add ((x4_1).toNat * 2)) = some (.string ((zbg l0_0 x4_1).f0)) ∧ w'.cell? ⟨(ad302.add ((x4_1).toNat * 2)).block, (ad302.add ((x4_1).toNat * 2)).off + 1, none⟩ = some (.slice A302_1 ((zbg l0_0 x4_1).f1).length c302_1) ∧ w'.cell? (ad302.add ((x4_1).toNat * 2)) = some (.string ((zbg l0_0 x4_1).f0)) ∧ w'.cell? ⟨(ad302.add ((x4_1).toNat * 2)).block, (ad302.add ((x4_1).toNat * 2)).off + 1, none⟩ = some (.slice A302_1 ((zbg l0_0 x4_1).f1).length c302_1)) (ds := [17, 19]) #[false, false, false, false, false, false, false, false, false, false, false, false, false, false, false, false, false, false, false, false] (by kernel_rfl) rfl rfl ⟨(zaj BK301.out 0).trans rfl, (zaj BK301.out 1).trans rfl, (zaj BK299.out 0).trans rfl, (zaj BK299.out 1).trans rfl, hx302_0, hx302_1, hx303_0, hx303_1⟩ (fun hHeld => ?_); refine zcF zaq.tab5 zaq.zgo (fun HT_ HW_ => ?_)
      generalize wr.drew = w12 at HO_300000 HO_300001 HO_302000 BK299 BK300 BK301 HB HL302_1 HL303_1 HR302_1 HR303_1 hx302_0 hx302_1 hx303_0 hx303_1 hHeld ⊢
      refine zaR (i := 0) (N := some 13) (v := ?_) (a' := ?_) #[true, false, false, false, false, false, false, false, false, false, false, false, false, false, false, false, false, false, false, false] rfl rfl (zaL HT_.out (by kernel_rfl)) (fun _ _ _ h => h) (Or.inl ⟨by rfl, ?_⟩) ?_ ?_
      rotate_left
      ·intro w'
       go_simp
       with_reducible rfl
      rotate_left
      ·simp only [Act.put, List.setIfInBounds_toArray, List.set_cons_zero, List.set_cons_succ, zaC, zaD]
       rfl
      refine zaR (i := 2) (N := some 15) (v := ?_) (a' := ?_) #[true, false, true, false, false, false, false, false, false, false, false, false, false, false, false, false, false, false, false, false] rfl rfl (zaL HT_.out (by kernel_rfl)) (fun _ _ _ h => h) (Or.inl ⟨by rfl, ?_⟩) ?_ ?_
      rotate_left
      ·intro w'
       go_simp
       with_reducible rfl
      rotate_left
      ·simp only [Act.put, List.setIfInBounds_toArray, List.set_cons_zero, List.set_cons_succ, zaC, zaD]
       rfl
      refine zaR (i := 4) (N := some 17) (v := ?_) (a' := ?_) #[true, false, true, false, true, false, false, false, false, false, false, false, false, false, false, false, false, false, false, false] rfl rfl (zaL HT_.out (by kernel_rfl)) (fun _ _ _ h => h) (Or.inl ⟨by rfl, ?_⟩) ?_ ?_
      rotate_left
      ·intro w'
       go_simp
       with_reducible rfl
      rotate_left
      ·simp only [Act.put, List.setIfInBounds_toArray, List.set_cons_zero, List.set_cons_succ, zaC, zaD]
       rfl
      refine zaR (i := 8) (N := some 21) (v := ?_) (a' := ?_) #[true, false, true, false, true, false, false, false, true, false, false, false, false, false, false, false, false, false, false, false] rfl rfl (zaL HT_.out (by kernel_rfl)) (fun _ _ _ h => h) (Or.inl ⟨by rfl, ?_⟩) ?_ ?_
      rotate_left
      ·intro w'
       go_simp
       with_reducible rfl
      rotate_left
      ·simp only [Act.put, List.setIfInBounds_toArray, List.set_cons_zero, List.set_cons_succ, zaC, zaD]
       rfl
      refine zaR (i := 10) (N := some 23) (v := ?_) (a' := ?_) #[true, false, true, false, true, false, false, false, true, false, true, false, false, false, false, false, false, false, false, false] rfl rfl (zaL HT_.out (by kernel_rfl)) (fun _ _ _ h => h) (Or.inl ⟨by rfl, ?_⟩) ?_ ?_
      rotate_left
      ·intro w'
       go_simp
       with_reducible rfl
      rotate_left
      ·simp only [Act.put, List.setIfInBounds_toArray, List.set_cons_zero, List.set_cons_succ, zaC, zaD]
       rfl
      refine zbW (i := 1) (N := some 14) (v := ?_) (a' := ?_) #[true, true, true, false, true, false, false, false, true, false, true, false, false, false, false, false, false, false, false, false] rfl rfl (zbC HT_.out HW_.out (by kernel_rfl)) (fun _ _ _ h => h) (Or.inl ⟨by rfl, ?_⟩) hHeld ?_ ?_
      rotate_left
      ·rintro w' ⟨s0, s1, s2, s3, s4, s5, s6, s7⟩
       go_simp
       with_reducible rfl
      rotate_left
      ·simp only [Act.put, List.setIfInBounds_toArray, List.set_cons_zero, List.set_cons_succ, zaC, zaD]
       rfl
      refine zbW (i := 3) (N := some 16) (v := ?_) (a' := ?_) #[true, true, true, true, true, false, false, false, true, false, true, false, false, false, false, false, false, false, false, false] rfl rfl (zbC HT_.out HW_.out (by kernel_rfl)) (fun _ _ _ h => h) (Or.inl ⟨by rfl, ?_⟩) hHeld ?_ ?_
      rotate_left
      ·rintro w' ⟨s0, s1, s2, s3, s4, s5, s6, s7⟩
       go_simp
       with_reducible rfl
      rotate_left
      ·simp only [Act.put, List.setIfInBounds_toArray, List.set_cons_zero, List.set_cons_succ, zaC, zaD]
       rfl
      refine zaR (i := 5) (N := some 18) (v := ?_) (a' := ?_) #[true, true, true, true, true, true, false, false, true, false, true, false, false, false, false, false, false, false, false, false] rfl rfl (zaL HT_.out (by kernel_rfl)) (fun _ _ _ h => h) (Or.inl ⟨by rfl, ?_⟩) ?_ ?_
      rotate_left
      ·intro w'
       go_simp
       with_reducible rfl
      rotate_left
      ·simp only [Act.put, List.setIfInBounds_toArray, List.set_cons_zero, List.set_cons_succ, zaC, zaD]
       rfl
      refine zaR (i := 6) (N := some 19) (v := ?_) (a' := ?_) #[true, true, true, true, true, true, true, false, true, false, true, false, false, false, false, false, false, false, false, false] rfl rfl (zaL HT_.out (by kernel_rfl)) (fun _ _ _ h => h) (Or.inl ⟨by rfl, ?_⟩) ?_ ?_
      rotate_left
      ·intro w'
       go_simp
       with_reducible rfl
      rotate_left
      ·simp only [Act.put, List.setIfInBounds_toArray, List.set_cons_zero, List.set_cons_succ, zaC, zaD]
       rfl
      refine zbW (i := 7) (N := some 20) (v := ?_) (a' := ?_) #[true, true, true, true, true, true, true, true, true, false, true, false, false, false, false, false, false, false, false, false] rfl rfl (zbC HT_.out HW_.out (by kernel_rfl)) (fun _ _ _ h => h) (Or.inl ⟨by rfl, ?_⟩) hHeld ?_ ?_
      rotate_left
      ·rintro w' ⟨s0, s1, s2, s3, s4, s5, s6, s7⟩
       go_simp
       with_reducible rfl
      rotate_left
      ·simp only [Act.put, List.setIfInBounds_toArray, List.set_cons_zero, List.set_cons_succ, zaC, zaD]
       rfl
      refine zbW (i := 9) (N := some 22) (v := ?_) (a' := ?_) #[true, true, true, true, true, true, true, true, true, true, true, false, false, false, false, false, false, false, false, false] rfl rfl (zbC HT_.out HW_.out (by kernel_rfl)) (fun _ _ _ h => h) (Or.inl ⟨by rfl, ?_⟩) hHeld ?_ ?_
      rotate_left
      ·rintro w' ⟨s0, s1, s2, s3, s4, s5, s6, s7⟩
       go_simp
       with_reducible rfl
      rotate_left
      ·simp only [Act.put, List.setIfInBounds_toArray, List.set_cons_zero, List.set_cons_succ, zaC, zaD]
       rfl
      refine zaR (i := 11) (N := some 24) (v := ?_) (a' := ?_) #[true, true, true, true, true, true, true, true, true, true, true, true, false, false, false, false, false, false, false, false] rfl rfl (zaL HT_.out (by kernel_rfl)) (fun _ _ _ h => h) (Or.inl ⟨by rfl, ?_⟩) ?_ ?_
      rotate_left
      ·intro w'
       go_simp
       with_reducible rfl
      rotate_left
      ·simp only [Act.put, List.setIfInBounds_toArray, List.set_cons_zero, List.set_cons_succ, zaC, zaD]
       rfl
      refine zaR (i := 12) (N := some 25) (v := ?_) (a' := ?_) #[true, true, true, true, true, true, true, true, true, true, true, true, true, false, false, false, false, false, false, false] rfl rfl (zaL HT_.out (by kernel_rfl)) (fun _ _ _ h => h) (Or.inl ⟨by rfl, ?_⟩) ?_ ?_
      rotate_left
      ·intro w'
       go_simp
       with_reducible rfl
      rotate_left
      ·simp only [Act.put, List.setIfInBounds_toArray, List.set_cons_zero, List.set_cons_succ, zaC, zaD]
       rfl
      refine zbW (i := 13) (N := some 26) (v := ?_) (a' := ?_) #[true, true, true, true, true, true, true, true, true, true, true, true, true, true, false, false, false, false, false, false] rfl rfl (zbC HT_.out HW_.out (by kernel_rfl)) (fun _ _ _ h => h) (Or.inl ⟨by rfl, ?_⟩) hHeld ?_ ?_
      rotate_left
      ·rintro w' ⟨s0, s1, s2, s3, s4, s5, s6, s7⟩
       go_simp
       with_reducible rfl
      rotate_left
      ·simp only [Act.put, List.setIfInBounds_toArray, List.set_cons_zero, List.set_cons_succ, zaC, zaD]
       rfl
      refine one_ (i := 14) (N := some 27) #[true, true, true, true, true, true, true, true, true, true, true, true, true, true, true, false, false, false, false, false] rfl rfl (zcd HT_.out (by kernel_rfl)) (by decide) (fun K hK => ?_)
      refine ze5 Tryd.func30 (by kernel_rfl) rfl #[.slice A302_1 ((zbg l0_0 x4_1).f1).length c302_1] (by rfl) rfl rfl (by (try simp only [List.map_toArray, List.map_cons, List.map_nil]); first | done | rfl | (simp only [List.length_drop, List.length_take]; rfl)) ?_
      with_reducible refine (zaE.calls k1 (fun k_ => (((P0_0_ k_ ∨ P0_1_ k_) ∨ w.heap.size ≤ k_) ∧ (some k_ ≠ (u302000 : Value).ownBlock ∧ (k_ ≠ gb299 ∧ (k_ ≠ gb300 ∧ k_ ≠ gb301))))) _ _ ((zbg l0_0 x4_1).f1) t304 _ ?side1 A7.out).mono ?_
      (case side1 => exact HL303_1.out)
      rintro e w13 ⟨v305, rfl, ho0, hb⟩
      have HS4_ := (hb.cell (World.block_lt_of_cell? _ _ (hHeld.2.2.2.2.1))).trans (hHeld.2.2.2.2.1)
      have HS5_ := (hb.cell (World.block_lt_of_cell? _ _ (hHeld.2.2.2.2.2.1))).trans (hHeld.2.2.2.2.2.1)
      have HS6_ := (hb.cell (World.block_lt_of_cell? _ _ (hHeld.2.2.2.2.2.2.1))).trans (hHeld.2.2.2.2.2.2.1)
      have HS7_ := (hb.cell (World.block_lt_of_cell? _ _ (hHeld.2.2.2.2.2.2.2))).trans (hHeld.2.2.2.2.2.2.2)
      refine ⟨_, rfl, ?_⟩
      have n0_ := zaa.mk (Kd.zdv (by (with_reducible repeat (first | apply Kd.zbb | apply Kd.zbc | apply Kd.zbf)); exact HO_300000.out) (Kd.zdl ho0) hb)
      have n1_ := zaa.mk (Kd.zdv (by (with_reducible repeat (first | apply Kd.zbb | apply Kd.zbc | apply Kd.zbf)); exact HO_300001.out) (Kd.zdl ho0) hb)
      have n2_ := zaa.mk (Kd.zf6 (by (with_reducible repeat (first | apply Kd.zbs | apply Kd.zbu | apply Kd.zbr)); exact HO_302000.out) (Kd.zdl ho0) hb)
      have n3_ := zaa.mk (Kd.zdv (by (with_reducible repeat (first | apply Kd.zbb | apply Kd.zbc | apply Kd.zbf)); exact HL302_1.out) (Kd.zdl ho0) hb)
      have n4_ := zaa.mk (Kd.zdv (by (with_reducible repeat (first | apply Kd.zbb | apply Kd.zbc | apply Kd.zbf)); exact HL303_1.out) (Kd.zdl ho0) hb)
      have n5_ := zaa.mk (Kd.zfI (Kd.zbP (ok' := fun k_ => ((P0_0_ k_ ∨ P0_1_ k_) ∨ w.heap.size ≤ k_) ∧ some k_ ≠ (u302000 : Value).ownBlock ∧ k_ ≠ gb299 ∧ k_ ≠ gb300 ∧ k_ ≠ gb301) ho0 (fun k_ hk_ => ⟨Or.elim hk_ (fun hs_ => hs_.1) (fun hn_ => (.inr (Nat.le_trans (zas (by repeat (first | (with_reducible first | exact HB.out | apply zac | apply zab | apply zad | refine zah ?_ GE299.out | refine zah ?_ GE300.out | refine zah ?_ GE301.out) | exact HB.out))) hn_))), Or.elim hk_ (fun hs_ => hs_.2.1) (fun hn_ => (Kd.fresh' (Kd.N_lt (by (with_reducible repeat (first | apply Kd.zbs | apply Kd.zbu | apply Kd.zbr)); exact HO_302000.out)) k_ hn_)), Or.elim hk_ (fun hs_ => hs_.2.2.1) (fun hn_ => (Kd.zcn (g := gb299) (o := .cells #[.slice (some ad302) l0_0.length c0_0, .slice A0_1 l0_1.length c0_1] 41 (0, 0)) (by (with_reducible repeat (first | refine zaf ?_ _ | refine zai ?_ | refine zae ?_ _)); exact BK299.out) k_ hn_)), Or.elim hk_ (fun hs_ => hs_.2.2.2.1) (fun hn_ => (Kd.zcn (g := gb300) (o := .cells #[.slice none 0 0, .slice none 0 0] 50 (0, 0)) (by (with_reducible repeat (first | refine zaf ?_ _ | refine zai ?_ | refine zae ?_ _)); exact BK300.out) k_ hn_)), Or.elim hk_ (fun hs_ => hs_.2.2.2.2) (fun hn_ => (Kd.zcn (g := gb301) (o := .cells #[u302000, .slice none 0 0] 50 (0, 0)) (by (with_reducible repeat (first | refine zaf ?_ _ | refine zai ?_ | refine zae ?_ _)); exact BK301.out) k_ hn_))⟩)) (zas (by repeat (first | (with_reducible first | exact HB.out | apply zac | apply zab | apply zad | refine zah ?_ GE299.out | refine zah ?_ GE300.out | refine zah ?_ GE301.out) | exact HB.out))))
      have n6_ := zaa.mk (zaM (g := gb299) (o := .cells #[.slice (some ad302) l0_0.length c0_0, .slice A0_1 l0_1.length c0_1] 41 (0, 0)) (by (with_reducible repeat (first | refine zaf ?_ _ | refine zai ?_ | refine zae ?_ _)); exact BK299.out) hb)
      have n7_ := zaa.mk (zaM (g := gb300) (o := .cells #[.slice none 0 0, .slice none 0 0] 50 (0, 0)) (by (with_reducible repeat (first | refine zaf ?_ _ | refine zai ?_ | refine zae ?_ _)); exact BK300.out) hb)
      have n8_ := zaa.mk (zaM (g := gb301) (o := .cells #[u302000, .slice none 0 0] 50 (0, 0)) (by (with_reducible repeat (first | refine zaf ?_ _ | refine zai ?_ | refine zae ?_ _)); exact BK301.out) hb)
      have n9_ := zaa.mk (Kd.za1 (by repeat (first | (with_reducible exact HR302_1.out) | (with_reducible refine Kd.zaU ?_ _) | (with_reducible refine Kd.zaY ?_ _) | (with_reducible refine Kd.za3 ?_) | exact HR302_1.out)) hb)
      have n10_ := zaa.mk (Kd.za1 (by repeat (first | (with_reducible exact HR303_1.out) | (with_reducible refine Kd.zaU ?_ _) | (with_reducible refine Kd.zaY ?_ _) | (with_reducible refine Kd.za3 ?_) | exact HR303_1.out)) hb)
      have n11_ := zaa.mk (zat (by repeat (first | (with_reducible first | exact HB.out | apply zac | apply zab | apply zad | refine zah ?_ GE299.out | refine zah ?_ GE300.out | refine zah ?_ GE301.out) | exact HB.out)) hb)
      clear HO_300000
      clear HO_300001
      clear HO_302000
      clear HL302_1
      clear HL303_1
      clear BK299
      clear BK300
      clear BK301
      clear HR302_1
      clear HR303_1
      clear HB
      have HO_300000 := n0_
      have HO_300001 := n1_
      have HO_302000 := n2_
      have HL302_1 := n3_
      have HL303_1 := n4_
      have HO306 := n5_
      have BK299 := n6_
      have BK300 := n7_
      have BK301 := n8_
      have HR302_1 := n9_
      have HR303_1 := n10_
      have HB := n11_
      clear n0_ n1_ n2_ n3_ n4_ n5_ n6_ n7_ n8_ n9_ n10_ n11_
      (try clear hb)
      (try clear hb2)
      (try clear hk)
      (try clear hi)
      (try clear ho0)
      obtain ⟨Ao14, co14, eo14⟩ := Kd.zcq HO306.out
      (first | subst eo14 | (injection eo14 with f1_ f2_ f3_; have f4_ := f1_.symm; have f5_ := f3_.symm; clear f1_ f2_ f3_; subst f4_; subst f5_))
      refine hK.out _ _ ⟨(zaj BK301.out 0).trans rfl, (zaj BK301.out 1).trans rfl, (zaj BK299.out 0).trans rfl, (zaj BK299.out 1).trans rfl, HS4_, HS5_, HS6_, HS7_⟩ (fun hHeld => ?_)
      clear hK K
      refine zcY (a' := ?_) ?_ ?_
      rotate_left
      ·show Act.put _ (some 27) _ = _
       simp only [Act.put, List.setIfInBounds_toArray, List.set_cons_zero, List.set_cons_succ, zaC, zaD]
       rfl
      refine zaR (i := 15) (N := some 28) (v := ?_) (a' := ?_) #[true, true, true, true, true, true, true, true, true, true, true, true, true, true, true, true, false, false, false, false] rfl rfl (zaL HT_.out (by kernel_rfl)) (fun _ _ _ h => h) (Or.inl ⟨by rfl, ?_⟩) ?_ ?_
      rotate_left
      ·intro w'
       go_simp
       with_reducible rfl
      rotate_left
      ·simp only [Act.put, List.setIfInBounds_toArray, List.set_cons_zero, List.set_cons_succ, zaC, zaD]
       rfl
      refine one_ (i := 16) (N := some 29) #[true, true, true, true, true, true, true, true, true, true, true, true, true, true, true, true, true, false, false, false] rfl rfl (zcd HT_.out (by kernel_rfl)) (by decide) (fun K hK => ?_)
      refine zgv (w1 := ?_) (v := ?_) (by rfl) rfl ?_ ?_
      rotate_left 2
      ·go_simp
       constructor
       ·rfl
       ·rfl
      refine hK.out _ _ ⟨(zaj (zae BK301.out _) 0).trans rfl, (zaj (zae BK301.out _) 1).trans rfl, (zaj (zae BK299.out _) 0).trans rfl, (zaj (zae BK299.out _) 1).trans rfl, (World.cell?_alloc_lt _ _ _ (World.block_lt_of_cell? _ _ (hHeld.2.2.2.2.1))).trans (hHeld.2.2.2.2.1), (World.cell?_alloc_lt _ _ _ (World.block_lt_of_cell? _ _ (hHeld.2.2.2.2.2.1))).trans (hHeld.2.2.2.2.2.1), (World.cell?_alloc_lt _ _ _ (World.block_lt_of_cell? _ _ (hHeld.2.2.2.2.2.2.1))).trans (hHeld.2.2.2.2.2.2.1), (World.cell?_alloc_lt _ _ _ (World.block_lt_of_cell? _ _ (hHeld.2.2.2.2.2.2.2))).trans (hHeld.2.2.2.2.2.2.2)⟩ (fun hHeld => ?_)
      clear hK K
      refine zcY (a' := ?_) ?_ ?_
      rotate_left
      ·show Act.put _ (some 29) _ = _
       simp only [Act.put, List.setIfInBounds_toArray, List.set_cons_zero, List.set_cons_succ, zaC, zaD]
       rfl
      refine zfD (i := 17) (N := some 30) #[true, true, true, true, true, true, true, true, true, true, true, true, true, true, true, true, true, true, false, false] rfl rfl (zcd HT_.out (by kernel_rfl)) (by decide) (fun K hK => ?_)
      refine Kd.zd3 k127 (w0 := w) w.heap.size (by rfl) (.tmp 14) (.tmp 29) 47 127 (.agg #[(.string ⟨#[]⟩), (.slice none 0 0)]) 40 rfl Tryd.underlying47 zkM rfl (by decide) (by omega) u302000 x302000_1 (⟨(zbg l0_0 x4_1).f0, t304⟩ : S127) [.string ((zbg l0_0 x4_1).f0), .slice Ao14 t304.length co14] (fun k_ => ((P0_0_ k_ ∨ P0_1_ k_) ∨ w.heap.size ≤ k_) ∧ k_ ≠ gb299 ∧ k_ ≠ gb300 ∧ k_ ≠ gb301) (fun k_ => ((fun k_ => ((P0_0_ k_ ∨ P0_1_ k_) ∨ w.heap.size ≤ k_) ∧ k_ ≠ gb299 ∧ k_ ≠ gb300 ∧ k_ ≠ gb301)) k_ ∧ some k_ ≠ (u302000 : Value).ownBlock) rfl rfl ?aP (fun _ hk => hk) ?aF ?aO ?aB ?aS ?aL ?_
      (case aP => exact (zjR _ _ (⟨(zbg l0_0 x4_1).f0, t304⟩ : S127) (Kd.zbR (Kd.zbP (ok' := (fun k_ => ((fun k_ => ((P0_0_ k_ ∨ P0_1_ k_) ∨ w.heap.size ≤ k_) ∧ k_ ≠ gb299 ∧ k_ ≠ gb300 ∧ k_ ≠ gb301)) k_ ∧ some k_ ≠ (u302000 : Value).ownBlock)) (HO306.out) (fun k_ hk => ⟨⟨hk.1, ⟨hk.2.2.1, ⟨hk.2.2.2.1, hk.2.2.2.2⟩⟩⟩, hk.2.1⟩))).2.1 (Kd.N_F (Kd.zbP (ok' := (fun k_ => ((fun k_ => ((P0_0_ k_ ∨ P0_1_ k_) ∨ w.heap.size ≤ k_) ∧ k_ ≠ gb299 ∧ k_ ≠ gb300 ∧ k_ ≠ gb301)) k_ ∧ some k_ ≠ (u302000 : Value).ownBlock)) (HO306.out) (fun k_ hk => ⟨⟨hk.1, ⟨hk.2.2.1, ⟨hk.2.2.2.1, hk.2.2.2.2⟩⟩⟩, hk.2.1⟩)))))
      (case aB => exact (by repeat (first | (with_reducible first | exact HB.out | apply zac | apply zab | apply zad | refine zah ?_ GE299.out | refine zah ?_ GE300.out | refine zah ?_ GE301.out) | exact HB.out)))
      (case aF => exact (fun k_ hk => ⟨(.inr (Nat.le_trans (zas (by repeat (first | (with_reducible first | exact HB.out | apply zac | apply zab | apply zad | refine zah ?_ GE299.out | refine zah ?_ GE300.out | refine zah ?_ GE301.out) | exact HB.out))) hk)), Kd.zcn (g := gb299) (o := .cells #[.slice (some ad302) l0_0.length c0_0, .slice A0_1 l0_1.length c0_1] 41 (0, 0)) (by (with_reducible repeat (first | refine zaf ?_ _ | refine zai ?_ | refine zae ?_ _)); exact BK299.out) k_ hk, Kd.zcn (g := gb300) (o := .cells #[.slice none 0 0, .slice none 0 0] 50 (0, 0)) (by (with_reducible repeat (first | refine zaf ?_ _ | refine zai ?_ | refine zae ?_ _)); exact BK300.out) k_ hk, Kd.zcn (g := gb301) (o := .cells #[u302000, .slice none 0 0] 50 (0, 0)) (by (with_reducible repeat (first | refine zaf ?_ _ | refine zai ?_ | refine zae ?_ _)); exact BK301.out) k_ hk⟩))
      (case aO => exact (by (with_reducible repeat (first | apply Kd.zbs | apply Kd.zbu | apply Kd.zbr)); exact Kd.zbP HO_302000.out (fun _ hk => ⟨hk.1.1, ⟨hk.1.2.1, ⟨hk.1.2.2.1, hk.1.2.2.2⟩⟩⟩)))
      (case aS => exact (zas (by repeat (first | (with_reducible first | exact HB.out | apply zac | apply zab | apply zad | refine zah ?_ GE299.out | refine zah ?_ GE300.out | refine zah ?_ GE301.out) | exact HB.out))))
      (case aL => have := LMc8.out; omega)
      intro v308 w15 ho hb hg hat
      rw [← Ny307.out] at ho
      have n0_ := zaa.mk (Kd.zb6 (ok := (fun k_ => ((P0_0_ k_ ∨ P0_1_ k_) ∨ w.heap.size ≤ k_) ∧ some k_ ≠ (.slice Ao14 t304.length co14 : Value).ownBlock ∧ k_ ≠ gb299 ∧ k_ ≠ gb300 ∧ k_ ≠ gb301)) (by (with_reducible repeat (first | apply Kd.zbb | apply Kd.zbc | apply Kd.zbf)); exact Kd.zby HO_300000.out (fun _ hk => ⟨⟨hk.1.1, ⟨hk.2, ⟨hk.1.2.2.1, ⟨hk.1.2.2.2.1, hk.1.2.2.2.2⟩⟩⟩⟩, hk.1.2.1⟩)) hg hat)
      have n1_ := zaa.mk (Kd.zb6 (ok := (fun k_ => ((P0_0_ k_ ∨ P0_1_ k_) ∨ w.heap.size ≤ k_) ∧ some k_ ≠ (.slice Ao14 t304.length co14 : Value).ownBlock ∧ k_ ≠ gb299 ∧ k_ ≠ gb300 ∧ k_ ≠ gb301)) (by (with_reducible repeat (first | apply Kd.zbb | apply Kd.zbc | apply Kd.zbf)); exact Kd.zby HO_300001.out (fun _ hk => ⟨⟨hk.1.1, ⟨hk.2, ⟨hk.1.2.2.1, ⟨hk.1.2.2.2.1, hk.1.2.2.2.2⟩⟩⟩⟩, hk.1.2.1⟩)) hg hat)
      have n2_ := zaa.mk (zbm (g := gb299) (o := .cells #[.slice (some ad302) l0_0.length c0_0, .slice A0_1 l0_1.length c0_1] 41 (0, 0)) (by (with_reducible repeat (first | refine zaf ?_ _ | refine zai ?_ | refine zae ?_ _)); exact BK299.out) hg (Kd.N_ne HO_302000.out BK299.out (by decide)))
      have n3_ := zaa.mk (zbm (g := gb300) (o := .cells #[.slice none 0 0, .slice none 0 0] 50 (0, 0)) (by (with_reducible repeat (first | refine zaf ?_ _ | refine zai ?_ | refine zae ?_ _)); exact BK300.out) hg (Kd.N_ne HO_302000.out BK300.out (by decide)))
      have n4_ := zaa.mk (zbm (g := gb301) (o := .cells #[u302000, .slice none 0 0] 50 (0, 0)) (by (with_reducible repeat (first | refine zaf ?_ _ | refine zai ?_ | refine zae ?_ _)); exact BK301.out) hg (Kd.N_ne HO_302000.out BK301.out (by decide)))
      have n5_ := zaa.mk (Kd.zb6 (ok := (fun k_ => ((P0_0_ k_ ∨ P0_1_ k_) ∨ w.heap.size ≤ k_) ∧ some k_ ≠ (.slice Ao14 t304.length co14 : Value).ownBlock ∧ k_ ≠ gb299 ∧ k_ ≠ gb300 ∧ k_ ≠ gb301)) (by (with_reducible repeat (first | apply Kd.zbb | apply Kd.zbc | apply Kd.zbf)); exact Kd.zby HL302_1.out (fun _ hk => ⟨⟨hk.1.1, ⟨hk.2, ⟨hk.1.2.2.1, ⟨hk.1.2.2.2.1, hk.1.2.2.2.2⟩⟩⟩⟩, hk.1.2.1⟩)) hg hat)
      have n6_ := zaa.mk (Kd.zb6 (ok := (fun k_ => ((P0_0_ k_ ∨ P0_1_ k_) ∨ w.heap.size ≤ k_) ∧ some k_ ≠ (.slice Ao14 t304.length co14 : Value).ownBlock ∧ k_ ≠ gb299 ∧ k_ ≠ gb300 ∧ k_ ≠ gb301)) (by (with_reducible repeat (first | apply Kd.zbb | apply Kd.zbc | apply Kd.zbf)); exact Kd.zby HL303_1.out (fun _ hk => ⟨⟨hk.1.1, ⟨hk.2, ⟨hk.1.2.2.1, ⟨hk.1.2.2.2.1, hk.1.2.2.2.2⟩⟩⟩⟩, hk.1.2.1⟩)) hg hat)
      have n7_ := zaa.mk (hb)
      have n8_ := zaa.mk (ho)
      clear HO_300000
      clear HO_300001
      clear BK299
      clear BK300
      clear BK301
      clear HL302_1
      clear HL303_1
      clear HB
      clear HO_302000
      clear HO306
      have HO_300000 := n0_
      have HO_300001 := n1_
      have BK299 := n2_
      have BK300 := n3_
      have BK301 := n4_
      have HL302_1 := n5_
      have HL303_1 := n6_
      have HB := n7_
      have HO309 := n8_
      clear n0_ n1_ n2_ n3_ n4_ n5_ n6_ n7_ n8_
      clear ho hb hg hat
      obtain ⟨Ao16, co16, eo16⟩ := Kd.zcq HO309.out
      (first | subst eo16 | (injection eo16 with f1_ f2_ f3_; have f4_ := f1_.symm; have f5_ := f3_.symm; clear f1_ f2_ f3_; subst f4_; subst f5_))
      refine hK.out _ _ ?_
      clear hK K
      refine zcY (a' := ?_) ?_ ?_
      rotate_left
      ·show Act.put _ (some 30) _ = _
       simp only [Act.put, List.setIfInBounds_toArray, List.set_cons_zero, List.set_cons_succ, zaC, zaD]
       rfl
      refine zaR (i := 18) (N := some 31) (v := ?_) (a' := ?_) #[true, true, true, true, true, true, true, true, true, true, true, true, true, true, true, true, true, true, true, false] rfl rfl (zaL HT_.out (by kernel_rfl)) (fun _ _ _ h => h) (Or.inl ⟨by rfl, ?_⟩) ?_ ?_
      rotate_left
      ·intro w'
       go_simp
       with_reducible rfl
      rotate_left
      ·simp only [Act.put, List.setIfInBounds_toArray, List.set_cons_zero, List.set_cons_succ, zaC, zaD]
       rfl
      refine zfD (i := 19) (N := none) #[true, true, true, true, true, true, true, true, true, true, true, true, true, true, true, true, true, true, true, true] rfl rfl (zcd HT_.out (by kernel_rfl)) (by decide) (fun K hK => ?_)
      have hs17 : w15.cell? ⟨gb301, 0, none⟩ = some (u302000) := (zaj BK301.out 0).trans rfl
      have hfs17 := zak BK301.out 0
      have hns17_0 := NB299_301.out
      have hns17_1 := NB300_301.out
      have hms17_0 := NB301_299.out
      have hms17_1 := NB301_300.out
      refine zix (w1 := ?_) (by rfl) rfl ?_ ?_
      rotate_left
      ·go_simp
       rfl
      refine hK.out _ _ ?_
      clear hK K
      refine zdM (zde HT_.out (by kernel_rfl)) ?_
      try go_wp2
      go_roundg k1
      case measure => have := HK1.out; omega
      case rel => exact ⟨(wrap64 (x4_1 + 1)), (y307), (.slice Ao16 y307.length co16), (by first | rfl | (simp; done) | (simp [*]; done)), H', ⟨by have := HK1.out; omega⟩, ⟨by (with_reducible repeat (first | apply Kd.zbb | apply Kd.zbc | apply Kd.zbf)); exact Kd.zby (Kd.zhl (p := ⟨gb301, 0, none⟩) (Kd.zby HO_300000.out (fun k_ hk => (⟨hk, hk.1.2.2.2.2⟩ : _ ∧ k_ ≠ gb301))) (fun _ hk => hk.2) (.slice Ao16 y307.length co16)) (fun _ hk => ⟨hk.1.1.1, ⟨hk.1.2, ⟨hk.1.1.2.2.1, ⟨hk.1.1.2.2.2.1, hk.1.1.2.2.2.2⟩⟩⟩⟩)⟩, ⟨by (with_reducible repeat (first | apply Kd.zbb | apply Kd.zbc | apply Kd.zbf)); exact Kd.zby (Kd.zhl (p := ⟨gb301, 0, none⟩) (Kd.zby HO_300001.out (fun k_ hk => (⟨hk, hk.1.2.2.2.2⟩ : _ ∧ k_ ≠ gb301))) (fun _ hk => hk.2) (.slice Ao16 y307.length co16)) (fun _ hk => ⟨hk.1.1.1, ⟨hk.1.2, ⟨hk.1.1.2.2.1, ⟨hk.1.1.2.2.2.1, hk.1.1.2.2.2.2⟩⟩⟩⟩)⟩, ⟨by (with_reducible repeat (first | apply Kd.zbs | apply Kd.zbu | apply Kd.zbr)); exact Kd.zbP (Kd.zd7 (p := ⟨gb301, 0, none⟩) (Kd.zbP HO309.out (fun k_ hk => (⟨hk, hk.2.2.2⟩ : _ ∧ k_ ≠ gb301))) (fun _ hk => hk.2) (.slice Ao16 y307.length co16)) (fun _ hk => ⟨hk.1.1, ⟨hk.1.2.1, ⟨hk.1.2.2.1, hk.1.2.2.2⟩⟩⟩)⟩, ⟨by (with_reducible repeat (first | refine zaf ?_ _ | refine zai ?_ | refine zae ?_ _)); refine zbv ?_ NB299_301.out _; (with_reducible repeat (first | refine zaf ?_ _ | refine zai ?_ | refine zae ?_ _)); exact BK299.out⟩, ⟨by (with_reducible repeat (first | refine zaf ?_ _ | refine zai ?_ | refine zae ?_ _)); refine zbv ?_ NB300_301.out _; (with_reducible repeat (first | refine zaf ?_ _ | refine zai ?_ | refine zae ?_ _)); exact BK300.out⟩, ⟨by (with_reducible repeat (first | refine zaf ?_ _ | refine zai ?_ | refine zae ?_ _)); refine zaT (cs := #[u302000, .slice none 0 0]) ?_ 0 _ rfl; (with_reducible repeat (first | refine zaf ?_ _ | refine zai ?_ | refine zae ?_ _)); exact BK301.out⟩, ⟨by repeat (first | (with_reducible first | exact HB.out | apply zac | apply zab | apply zad | refine zah ?_ GE299.out | refine zah ?_ GE300.out | refine zah ?_ GE301.out) | exact HB.out)⟩⟩
     ·rw [if_neg c8] at H
      exact absurd H (by simp)
    ·rw [if_neg c6] at H
     exact absurd H (by simp)
   ·rw [if_neg c5] at H
    have c5b0 : decide (x4_1 < (l0_0.length : Int)) = false := decide_eq_false c5
    clear c5
    have H' := zaa.mk H
    clear H
    have hnb18 := NB299_300.out
    have hnc18 := NB300_299.out
    have hnb19 := NB299_301.out
    have hnc19 := NB301_299.out
    have hcz20_0 : wr.cell? ⟨gb299, 0, none⟩ = some (.slice A0_0 l0_0.length c0_0) := (zaj BK299.out 0).trans rfl
    have hcz20_1 : wr.cell? ⟨gb299, 1, none⟩ = some (.slice A0_1 l0_1.length c0_1) := (zaj BK299.out 1).trans rfl
    have hfz20_0 := zak BK299.out 0
    have hfz20_1 := zak BK299.out 1
    go_wp2
    go_loopg [5] k1 (fun kq v5 w' => ∃ (x5_2 : Int) (x302001_2 : List (List (S60))) (u302001 : Value), v5 = .int .i64 x5_2 ∧ zaa (zaq.l1 kq x5_2 l0_0 l0_1 x302000_1 x302001_2 = some (r1, r2)) ∧ zaa (kq ≤ k1) ∧ zaa (Kd.V k121 121 w' w.heap.size (fun k_ => ((P0_0_ k_ ∨ P0_1_ k_) ∨ w.heap.size ≤ k_) ∧ some k_ ≠ (u302000 : Value).ownBlock ∧ some k_ ≠ (u302001 : Value).ownBlock ∧ k_ ≠ gb299 ∧ k_ ≠ gb300 ∧ k_ ≠ gb301) (.slice A0_0 l0_0.length c0_0) l0_0) ∧ zaa (Kd.V (Kd.slice 62 k62) 54 w' w.heap.size (fun k_ => ((P0_0_ k_ ∨ P0_1_ k_) ∨ w.heap.size ≤ k_) ∧ some k_ ≠ (u302000 : Value).ownBlock ∧ some k_ ≠ (u302001 : Value).ownBlock ∧ k_ ≠ gb299 ∧ k_ ≠ gb300 ∧ k_ ≠ gb301) (.slice A0_1 l0_1.length c0_1) l0_1) ∧ zaa (Kd.N k127 127 w' w.heap.size (fun k_ => ((P0_0_ k_ ∨ P0_1_ k_) ∨ w.heap.size ≤ k_) ∧ some k_ ≠ (u302001 : Value).ownBlock ∧ k_ ≠ gb299 ∧ k_ ≠ gb300 ∧ k_ ≠ gb301) u302000 x302000_1) ∧ zaa (Kd.N (Kd.slice 60 k60) 56 w' w.heap.size (fun k_ => ((P0_0_ k_ ∨ P0_1_ k_) ∨ w.heap.size ≤ k_) ∧ some k_ ≠ (u302000 : Value).ownBlock ∧ k_ ≠ gb299 ∧ k_ ≠ gb300 ∧ k_ ≠ gb301) u302001 x302001_2) ∧ zaa (w'.heap[gb299]? = some (.cells #[(.slice A0_0 l0_0.length c0_0), (.slice A0_1 l0_1.length c0_1)] 41 (0, 0))) ∧ zaa (w'.heap[gb300]? = some (.cells #[(.slice none 0 0), (.slice none 0 0)] 50 (0, 0))) ∧ zaa (w'.heap[gb301]? = some (.cells #[u302000, u302001] 50 (0, 0))) ∧ zaa (Below w.heap.size w w'))
    case atStart => exact ⟨(0), (([] : List (List (S60)))), (.slice none 0 0), (by first | rfl | (simp; done) | (simp [*]; done)), H', ⟨Nat.le_refl _⟩, ⟨by (with_reducible repeat (first | apply Kd.zbb | apply Kd.zbc | apply Kd.zbf)); exact Kd.zby HO_300000.out (fun _ hk => ⟨hk.1, ⟨hk.2.1, ⟨(by simp [Value.ownBlock]), ⟨hk.2.2.1, ⟨hk.2.2.2.1, hk.2.2.2.2⟩⟩⟩⟩⟩)⟩, ⟨by (with_reducible repeat (first | apply Kd.zbb | apply Kd.zbc | apply Kd.zbf)); exact Kd.zby HO_300001.out (fun _ hk => ⟨hk.1, ⟨hk.2.1, ⟨(by simp [Value.ownBlock]), ⟨hk.2.2.1, ⟨hk.2.2.2.1, hk.2.2.2.2⟩⟩⟩⟩⟩)⟩, ⟨by (with_reducible repeat (first | apply Kd.zbs | apply Kd.zbu | apply Kd.zbr)); exact Kd.zbP HO_302000.out (fun _ hk => ⟨hk.1, ⟨(by simp [Value.ownBlock]), ⟨hk.2.1, ⟨hk.2.2.1, hk.2.2.2⟩⟩⟩⟩)⟩, ⟨by first | exact Kd.zdg _ _ _ _ _ | exact Kd.zet _ _ _ _ _ | exact Kd.zer _ _ _ _ _ | exact Kd.zew _ _ _ _ _ | exact Kd.zeu _ _ _ _ _⟩, ⟨by (with_reducible repeat (first | refine zaf ?_ _ | refine zai ?_ | refine zae ?_ _)); exact BK299.out⟩, ⟨by (with_reducible repeat (first | refine zaf ?_ _ | refine zai ?_ | refine zae ?_ _)); exact BK300.out⟩, ⟨by (with_reducible repeat (first | refine zaf ?_ _ | refine zai ?_ | refine zae ?_ _)); exact BK301.out⟩, ⟨by repeat (first | (with_reducible first | exact HB.out | apply zac | apply zab | apply zad | refine zah ?_ GE299.out | refine zah ?_ GE300.out | refine zah ?_ GE301.out) | exact HB.out)⟩⟩
    case round =>
     clear H'
     try clear c1
     try clear c2
     try clear p2
     try clear c3
     try clear p3
     try clear q3
     try clear hx3
     try clear c5
     try clear c5b0
     try clear c6
     try clear c6b0
     try clear p6
     try clear c8
     try clear c9
     try clear c10
     try clear c18
     try clear c19
     try clear hcz11_0
     try clear hcz11_1
     try clear hcz20_0
     try clear hcz20_1
     try clear hfz11_0
     try clear hfz11_1
     try clear hfz20_0
     try clear hfz20_1
     try clear hx302_0
     try clear hx302_1
     try clear hx303_0
     try clear hx303_1
     try clear p2
     try clear p302
     try clear p303
     try clear q302
     try clear q303
     obtain ⟨x5_2, x302001_2, u302001, rfl, HA, HK2, HO_300000, HO_300001, HO_302000, HO_302001, BK299, BK300, BK301, HB⟩ := hrel
     cases gk with
     | zero => exact absurd HA.out (by simp [zaq.l1])
     | succ k2 =>
      have H := HA.out
      clear HA
      simp only [zaq.l1] at H
      by_cases c21 : x5_2 < (l0_1.length : Int)
      ·rw [if_pos c21] at H
       have c21b0 : decide (x5_2 < (l0_1.length : Int)) = true := decide_eq_true c21
       clear c21
       by_cases c22 : 0 ≤ x5_2
       ·rw [if_pos c22] at H
        have c22b0 : decide (0 ≤ x5_2) = true := decide_eq_true c22
        clear c22
        replace H := Option.bind_eq_some_iff.mp H
        obtain ⟨t311, A230, H⟩ := H
        replace H : (if x302001_2.length < 5864062014805 then (zaq.l1 k2 (wrap64 (x5_2 + 1)) l0_0 l0_1 x302000_1 (x302001_2 ++ [t311])) else (none)) = some (r1, r2) := H
        have A23 := zaa.mk A230
        clear A230
        by_cases c24 : x302001_2.length < 5864062014805
        ·rw [if_pos c24] at H
         have LMc24 := zaa.mk c24
         clear c24
         obtain ⟨y314, hy314⟩ : ∃ y_ : List (List (S60)), y_ = (x302001_2 ++ [t311]) := ⟨_, rfl⟩
         replace H : (zaq.l1 k2 (wrap64 (x5_2 + 1)) l0_0 l0_1 x302000_1 y314) = some (r1, r2) := by first | (rw [hy314]; with_reducible exact H) | (have H2_ := (Option.bind_some _ _).symm.trans H; rw [hy314]; with_reducible exact H2_) | (have H2_ := (Option.bind_some _ _).symm.trans H; with_reducible exact H2_) | with_reducible exact H | (rw [hy314]; exact H) | exact H
         have Ny314 := zaa.mk hy314
         clear hy314
         have H' := zaa.mk H
         clear H
         have hnb25 := NB299_300.out
         have hnc25 := NB300_299.out
         have hnb26 := NB299_301.out
         have hnc26 := NB301_299.out
         have hcz27_0 : wr.cell? ⟨gb299, 0, none⟩ = some (.slice A0_0 l0_0.length c0_0) := (zaj BK299.out 0).trans rfl
         have hcz27_1 : wr.cell? ⟨gb299, 1, none⟩ = some (.slice A0_1 l0_1.length c0_1) := (zaj BK299.out 1).trans rfl
         have hfz27_0 := zak BK299.out 0
         have hfz27_1 := zak BK299.out 1
         try go_wp2
         have n0_ := zaa.mk (Kd.zbf HO_300000.out)
         have n1_ := zaa.mk (Kd.zbf HO_300001.out)
         have n2_ := zaa.mk (Kd.zbr HO_302000.out)
         have n3_ := zaa.mk (Kd.zbr HO_302001.out)
         have n4_ := zaa.mk (zai BK299.out)
         have n5_ := zaa.mk (zai BK300.out)
         have n6_ := zaa.mk (zai BK301.out)
         have n7_ := zaa.mk (zad HB.out)
         clear HO_300000
         clear HO_300001
         clear HO_302000
         clear HO_302001
         clear BK299
         clear BK300
         clear BK301
         clear HB
         have HO_300000 := n0_
         have HO_300001 := n1_
         have HO_302000 := n2_
         have HO_302001 := n3_
         have BK299 := n4_
         have BK300 := n5_
         have BK301 := n6_
         have HB := n7_
         clear n0_ n1_ n2_ n3_ n4_ n5_ n6_ n7_
         have p310 : 0 ≤ (x5_2 : Int) := of_decide_eq_true (by first | (with_reducible assumption) | assumption)
         have q310 : x5_2 < (l0_1.length : Int) := of_decide_eq_true (by first | (with_reducible assumption) | assumption)
         obtain ⟨ad310, A310_0, c310_0, e310, hx310_0, hl310_0, hi310_0⟩ := zdS (Kd.zb8 HO_300001.out).2.2 x5_2 p310 q310
         cases e310
         obtain ⟨ce310, hce310, hMe310, hcc310⟩ := Kd.zeW HO_300001.out [] x5_2 p310 (by first | exact q310 | exact of_decide_eq_true (by first | (with_reducible assumption) | assumption) | (have e_ := (Kd.zb8 HO_300001.out).1; omega))
         obtain ⟨ua310_0, uc310_0, rfl, ul310_0, ge310_0⟩ := Kd.zcm hMe310
         have hv310_0 := hcc310 0 _ rfl
         rw [Nat.add_zero, show ((Kd.slice 62 k62)).sz = 1 from rfl, Nat.mul_one] at hv310_0
         replace hv310_0 := Option.some.inj (hv310_0.symm.trans hx310_0)
         injection hv310_0 with hva_ hvn_ hvc_
         rw [hva_] at ge310_0
         rw [hvc_] at ul310_0
         have HL310_0 := zaa.mk (show Kd.V k62 62 _ w.heap.size _ _ (zbH l0_1 x5_2) from Kd.V_mk ul310_0 ge310_0)
         clear hva_ hvn_ hvc_ ge310_0 ul310_0
         clear hcc310 hce310
         have HR310_0 := zaa.mk hi310_0
         have HC310_0 := zaa.mk hl310_0
         clear hi310_0 hl310_0
         replace p310 := eq_true p310
         replace q310 := eq_true q310
         refine zdq (n := 12) (S := fun w' => w'.cell? ⟨gb301, 0, none⟩ = some (u302000) ∧ w'.cell? ⟨gb301, 1, none⟩ = some (u302001) ∧ w'.cell? ⟨gb299, 0, none⟩ = some (.slice A0_0 l0_0.length c0_0) ∧ w'.cell? ⟨gb299, 1, none⟩ = some (.slice (some ad310) l0_1.length c0_1) ∧ w'.cell? (ad310.add (x5_2).toNat) = some (.slice A310_0 (zbH l0_1 x5_2).length c310_0)) (ds := [9, 11]) #[false, false, false, false, false, false, false, false, false, false, false, false] (by kernel_rfl) rfl rfl ⟨(zaj BK301.out 0).trans rfl, (zaj BK301.out 1).trans rfl, (zaj BK299.out 0).trans rfl, (zaj BK299.out 1).trans rfl, hx310_0⟩ (fun hHeld => ?_); refine zcF zaq.tab9 zaq.zlG (fun HT_ HW_ => ?_)
         generalize wr.drew = w28 at HO_300000 HO_300001 HO_302000 HO_302001 BK299 BK300 BK301 HB HL310_0 HR310_0 hx310_0 hHeld ⊢
         refine zaR (i := 0) (N := some 39) (v := ?_) (a' := ?_) #[true, false, false, false, false, false, false, false, false, false, false, false] rfl rfl (zaL HT_.out (by kernel_rfl)) (fun _ _ _ h => h) (Or.inl ⟨by rfl, ?_⟩) ?_ ?_
         rotate_left
         ·intro w'
          go_simp
          with_reducible rfl
         rotate_left
         ·simp only [Act.put, List.setIfInBounds_toArray, List.set_cons_zero, List.set_cons_succ, zaC, zaD]
          rfl
         refine zaR (i := 2) (N := some 41) (v := ?_) (a' := ?_) #[true, false, true, false, false, false, false, false, false, false, false, false] rfl rfl (zaL HT_.out (by kernel_rfl)) (fun _ _ _ h => h) (Or.inl ⟨by rfl, ?_⟩) ?_ ?_
         rotate_left
         ·intro w'
          go_simp
          with_reducible rfl
         rotate_left
         ·simp only [Act.put, List.setIfInBounds_toArray, List.set_cons_zero, List.set_cons_succ, zaC, zaD]
          rfl
         refine zaR (i := 4) (N := some 43) (v := ?_) (a' := ?_) #[true, false, true, false, true, false, false, false, false, false, false, false] rfl rfl (zaL HT_.out (by kernel_rfl)) (fun _ _ _ h => h) (Or.inl ⟨by rfl, ?_⟩) ?_ ?_
         rotate_left
         ·intro w'
          go_simp
          with_reducible rfl
         rotate_left
         ·simp only [Act.put, List.setIfInBounds_toArray, List.set_cons_zero, List.set_cons_succ, zaC, zaD]
          rfl
         refine zbW (i := 1) (N := some 40) (v := ?_) (a' := ?_) #[true, true, true, false, true, false, false, false, false, false, false, false] rfl rfl (zbC HT_.out HW_.out (by kernel_rfl)) (fun _ _ _ h => h) (Or.inl ⟨by rfl, ?_⟩) hHeld ?_ ?_
         rotate_left
         ·rintro w' ⟨s0, s1, s2, s3, s4⟩
          go_simp
          with_reducible rfl
         rotate_left
         ·simp only [Act.put, List.setIfInBounds_toArray, List.set_cons_zero, List.set_cons_succ, zaC, zaD]
          rfl
         refine zbW (i := 3) (N := some 42) (v := ?_) (a' := ?_) #[true, true, true, true, true, false, false, false, false, false, false, false] rfl rfl (zbC HT_.out HW_.out (by kernel_rfl)) (fun _ _ _ h => h) (Or.inl ⟨by rfl, ?_⟩) hHeld ?_ ?_
         rotate_left
         ·rintro w' ⟨s0, s1, s2, s3, s4⟩
          go_simp
          with_reducible rfl
         rotate_left
         ·simp only [Act.put, List.setIfInBounds_toArray, List.set_cons_zero, List.set_cons_succ, zaC, zaD]
          rfl
         refine zaR (i := 5) (N := some 44) (v := ?_) (a' := ?_) #[true, true, true, true, true, true, false, false, false, false, false, false] rfl rfl (zaL HT_.out (by kernel_rfl)) (fun _ _ _ h => h) (Or.inl ⟨by rfl, ?_⟩) ?_ ?_
         rotate_left
         ·intro w'
          go_simp
          with_reducible rfl
         rotate_left
         ·simp only [Act.put, List.setIfInBounds_toArray, List.set_cons_zero, List.set_cons_succ, zaC, zaD]
          rfl
         refine zbW (i := 6) (N := some 45) (v := ?_) (a' := ?_) #[true, true, true, true, true, true, true, false, false, false, false, false] rfl rfl (zbC HT_.out HW_.out (by kernel_rfl)) (fun _ _ _ h => h) (Or.inl ⟨by rfl, ?_⟩) hHeld ?_ ?_
         rotate_left
         ·rintro w' ⟨s0, s1, s2, s3, s4⟩
          go_simp
          with_reducible rfl
         rotate_left
         ·simp only [Act.put, List.setIfInBounds_toArray, List.set_cons_zero, List.set_cons_succ, zaC, zaD]
          rfl
         refine one_ (i := 7) (N := some 46) #[true, true, true, true, true, true, true, true, false, false, false, false] rfl rfl (zcd HT_.out (by kernel_rfl)) (by decide) (fun K hK => ?_)
         refine ze5 Tryd.func30 (by kernel_rfl) rfl #[.slice A310_0 (zbH l0_1 x5_2).length c310_0] (by rfl) rfl rfl (by (try simp only [List.map_toArray, List.map_cons, List.map_nil]); first | done | rfl | (simp only [List.length_drop, List.length_take]; rfl)) ?_
         with_reducible refine (zaE.calls k2 (fun k_ => (((P0_0_ k_ ∨ P0_1_ k_) ∨ w.heap.size ≤ k_) ∧ (some k_ ≠ (u302000 : Value).ownBlock ∧ (some k_ ≠ (u302001 : Value).ownBlock ∧ (k_ ≠ gb299 ∧ (k_ ≠ gb300 ∧ k_ ≠ gb301)))))) _ _ (zbH l0_1 x5_2) t311 _ ?side1 A23.out).mono ?_
         (case side1 => exact HL310_0.out)
         rintro e w29 ⟨v312, rfl, ho0, hb⟩
         have HS4_ := (hb.cell (World.block_lt_of_cell? _ _ (hHeld.2.2.2.2))).trans (hHeld.2.2.2.2)
         refine ⟨_, rfl, ?_⟩
         have n0_ := zaa.mk (Kd.zdv (by (with_reducible repeat (first | apply Kd.zbb | apply Kd.zbc | apply Kd.zbf)); exact HO_300000.out) (Kd.zdl ho0) hb)
         have n1_ := zaa.mk (Kd.zdv (by (with_reducible repeat (first | apply Kd.zbb | apply Kd.zbc | apply Kd.zbf)); exact HO_300001.out) (Kd.zdl ho0) hb)
         have n2_ := zaa.mk (Kd.zf6 (by (with_reducible repeat (first | apply Kd.zbs | apply Kd.zbu | apply Kd.zbr)); exact HO_302000.out) (Kd.zdl ho0) hb)
         have n3_ := zaa.mk (Kd.zf6 (by (with_reducible repeat (first | apply Kd.zbs | apply Kd.zbu | apply Kd.zbr)); exact HO_302001.out) (Kd.zdl ho0) hb)
         have n4_ := zaa.mk (Kd.zdv (by (with_reducible repeat (first | apply Kd.zbb | apply Kd.zbc | apply Kd.zbf)); exact HL310_0.out) (Kd.zdl ho0) hb)
         have n5_ := zaa.mk (Kd.zfI (Kd.zbP (ok' := fun k_ => ((P0_0_ k_ ∨ P0_1_ k_) ∨ w.heap.size ≤ k_) ∧ some k_ ≠ (u302000 : Value).ownBlock ∧ some k_ ≠ (u302001 : Value).ownBlock ∧ k_ ≠ gb299 ∧ k_ ≠ gb300 ∧ k_ ≠ gb301) ho0 (fun k_ hk_ => ⟨Or.elim hk_ (fun hs_ => hs_.1) (fun hn_ => (.inr (Nat.le_trans (zas (by repeat (first | (with_reducible first | exact HB.out | apply zac | apply zab | apply zad | refine zah ?_ GE299.out | refine zah ?_ GE300.out | refine zah ?_ GE301.out) | exact HB.out))) hn_))), Or.elim hk_ (fun hs_ => hs_.2.1) (fun hn_ => (Kd.fresh' (Kd.N_lt (by (with_reducible repeat (first | apply Kd.zbs | apply Kd.zbu | apply Kd.zbr)); exact HO_302000.out)) k_ hn_)), Or.elim hk_ (fun hs_ => hs_.2.2.1) (fun hn_ => (Kd.fresh' (Kd.N_lt (by (with_reducible repeat (first | apply Kd.zbs | apply Kd.zbu | apply Kd.zbr)); exact HO_302001.out)) k_ hn_)), Or.elim hk_ (fun hs_ => hs_.2.2.2.1) (fun hn_ => (Kd.zcn (g := gb299) (o := .cells #[.slice A0_0 l0_0.length c0_0, .slice (some ad310) l0_1.length c0_1] 41 (0, 0)) (by (with_reducible repeat (first | refine zaf ?_ _ | refine zai ?_ | refine zae ?_ _)); exact BK299.out) k_ hn_)), Or.elim hk_ (fun hs_ => hs_.2.2.2.2.1) (fun hn_ => (Kd.zcn (g := gb300) (o := .cells #[.slice none 0 0, .slice none 0 0] 50 (0, 0)) (by (with_reducible repeat (first | refine zaf ?_ _ | refine zai ?_ | refine zae ?_ _)); exact BK300.out) k_ hn_)), Or.elim hk_ (fun hs_ => hs_.2.2.2.2.2) (fun hn_ => (Kd.zcn (g := gb301) (o := .cells #[u302000, u302001] 50 (0, 0)) (by (with_reducible repeat (first | refine zaf ?_ _ | refine zai ?_ | refine zae ?_ _)); exact BK301.out) k_ hn_))⟩)) (zas (by repeat (first | (with_reducible first | exact HB.out | apply zac | apply zab | apply zad | refine zah ?_ GE299.out | refine zah ?_ GE300.out | refine zah ?_ GE301.out) | exact HB.out))))
         have n6_ := zaa.mk (zaM (g := gb299) (o := .cells #[.slice A0_0 l0_0.length c0_0, .slice (some ad310) l0_1.length c0_1] 41 (0, 0)) (by (with_reducible repeat (first | refine zaf ?_ _ | refine zai ?_ | refine zae ?_ _)); exact BK299.out) hb)
         have n7_ := zaa.mk (zaM (g := gb300) (o := .cells #[.slice none 0 0, .slice none 0 0] 50 (0, 0)) (by (with_reducible repeat (first | refine zaf ?_ _ | refine zai ?_ | refine zae ?_ _)); exact BK300.out) hb)
         have n8_ := zaa.mk (zaM (g := gb301) (o := .cells #[u302000, u302001] 50 (0, 0)) (by (with_reducible repeat (first | refine zaf ?_ _ | refine zai ?_ | refine zae ?_ _)); exact BK301.out) hb)
         have n9_ := zaa.mk (Kd.za1 (by repeat (first | (with_reducible exact HR310_0.out) | (with_reducible refine Kd.zaU ?_ _) | (with_reducible refine Kd.zaY ?_ _) | (with_reducible refine Kd.za3 ?_) | exact HR310_0.out)) hb)
         have n10_ := zaa.mk (zat (by repeat (first | (with_reducible first | exact HB.out | apply zac | apply zab | apply zad | refine zah ?_ GE299.out | refine zah ?_ GE300.out | refine zah ?_ GE301.out) | exact HB.out)) hb)
         clear HO_300000
         clear HO_300001
         clear HO_302000
         clear HO_302001
         clear HL310_0
         clear BK299
         clear BK300
         clear BK301
         clear HR310_0
         clear HB
         have HO_300000 := n0_
         have HO_300001 := n1_
         have HO_302000 := n2_
         have HO_302001 := n3_
         have HL310_0 := n4_
         have HO313 := n5_
         have BK299 := n6_
         have BK300 := n7_
         have BK301 := n8_
         have HR310_0 := n9_
         have HB := n10_
         clear n0_ n1_ n2_ n3_ n4_ n5_ n6_ n7_ n8_ n9_ n10_
         (try clear hb)
         (try clear hb2)
         (try clear hk)
         (try clear hi)
         (try clear ho0)
         obtain ⟨Ao31, co31, eo31⟩ := Kd.zcq HO313.out
         (first | subst eo31 | (injection eo31 with f1_ f2_ f3_; have f4_ := f1_.symm; have f5_ := f3_.symm; clear f1_ f2_ f3_; subst f4_; subst f5_))
         refine hK.out _ _ ⟨(zaj BK301.out 0).trans rfl, (zaj BK301.out 1).trans rfl, (zaj BK299.out 0).trans rfl, (zaj BK299.out 1).trans rfl, HS4_⟩ (fun hHeld => ?_)
         clear hK K
         refine zcY (a' := ?_) ?_ ?_
         rotate_left
         ·show Act.put _ (some 46) _ = _
          simp only [Act.put, List.setIfInBounds_toArray, List.set_cons_zero, List.set_cons_succ, zaC, zaD]
          rfl
         refine one_ (i := 8) (N := some 47) #[true, true, true, true, true, true, true, true, true, false, false, false] rfl rfl (zcd HT_.out (by kernel_rfl)) (by decide) (fun K hK => ?_)
         refine zgv (w1 := ?_) (v := ?_) (by rfl) rfl ?_ ?_
         rotate_left 2
         ·go_simp
          constructor
          ·rfl
          ·rfl
         refine hK.out _ _ ⟨(zaj (zae BK301.out _) 0).trans rfl, (zaj (zae BK301.out _) 1).trans rfl, (zaj (zae BK299.out _) 0).trans rfl, (zaj (zae BK299.out _) 1).trans rfl, (World.cell?_alloc_lt _ _ _ (World.block_lt_of_cell? _ _ (hHeld.2.2.2.2))).trans (hHeld.2.2.2.2)⟩ (fun hHeld => ?_)
         clear hK K
         refine zcY (a' := ?_) ?_ ?_
         rotate_left
         ·show Act.put _ (some 47) _ = _
          simp only [Act.put, List.setIfInBounds_toArray, List.set_cons_zero, List.set_cons_succ, zaC, zaD]
          rfl
         refine zfD (i := 9) (N := some 48) #[true, true, true, true, true, true, true, true, true, true, false, false] rfl rfl (zcd HT_.out (by kernel_rfl)) (by decide) (fun K hK => ?_)
         refine Kd.zd3 (Kd.slice 60 k60) (w0 := w) w.heap.size (by rfl) (.tmp 40) (.tmp 47) 48 56 (.slice none 0 0) 24 rfl Tryd.underlying48 zfk rfl (by decide) (by omega) u302001 x302001_2 t311 [.slice Ao31 t311.length co31] (fun k_ => ((P0_0_ k_ ∨ P0_1_ k_) ∨ w.heap.size ≤ k_) ∧ some k_ ≠ (u302000 : Value).ownBlock ∧ k_ ≠ gb299 ∧ k_ ≠ gb300 ∧ k_ ≠ gb301) (fun k_ => ((fun k_ => ((P0_0_ k_ ∨ P0_1_ k_) ∨ w.heap.size ≤ k_) ∧ some k_ ≠ (u302000 : Value).ownBlock ∧ k_ ≠ gb299 ∧ k_ ≠ gb300 ∧ k_ ≠ gb301)) k_ ∧ some k_ ≠ (u302001 : Value).ownBlock) rfl rfl ?aP (fun _ hk => hk) ?aF ?aO ?aB ?aS ?aL ?_
         (case aP => exact (Kd.zfR (Kd.zbR (Kd.zbP (ok' := (fun k_ => ((fun k_ => ((P0_0_ k_ ∨ P0_1_ k_) ∨ w.heap.size ≤ k_) ∧ some k_ ≠ (u302000 : Value).ownBlock ∧ k_ ≠ gb299 ∧ k_ ≠ gb300 ∧ k_ ≠ gb301)) k_ ∧ some k_ ≠ (u302001 : Value).ownBlock)) (HO313.out) (fun k_ hk => ⟨⟨hk.1, ⟨hk.2.1, ⟨hk.2.2.2.1, ⟨hk.2.2.2.2.1, hk.2.2.2.2.2⟩⟩⟩⟩, hk.2.2.1⟩))).2.1 (Kd.N_F (Kd.zbP (ok' := (fun k_ => ((fun k_ => ((P0_0_ k_ ∨ P0_1_ k_) ∨ w.heap.size ≤ k_) ∧ some k_ ≠ (u302000 : Value).ownBlock ∧ k_ ≠ gb299 ∧ k_ ≠ gb300 ∧ k_ ≠ gb301)) k_ ∧ some k_ ≠ (u302001 : Value).ownBlock)) (HO313.out) (fun k_ hk => ⟨⟨hk.1, ⟨hk.2.1, ⟨hk.2.2.2.1, ⟨hk.2.2.2.2.1, hk.2.2.2.2.2⟩⟩⟩⟩, hk.2.2.1⟩)))))
         (case aB => exact (by repeat (first | (with_reducible first | exact HB.out | apply zac | apply zab | apply zad | refine zah ?_ GE299.out | refine zah ?_ GE300.out | refine zah ?_ GE301.out) | exact HB.out)))
         (case aF => exact (fun k_ hk => ⟨(.inr (Nat.le_trans (zas (by repeat (first | (with_reducible first | exact HB.out | apply zac | apply zab | apply zad | refine zah ?_ GE299.out | refine zah ?_ GE300.out | refine zah ?_ GE301.out) | exact HB.out))) hk)), Kd.fresh' (Kd.N_lt (by (with_reducible repeat (first | apply Kd.zbs | apply Kd.zbu | apply Kd.zbr)); exact HO_302000.out)) k_ hk, Kd.zcn (g := gb299) (o := .cells #[.slice A0_0 l0_0.length c0_0, .slice (some ad310) l0_1.length c0_1] 41 (0, 0)) (by (with_reducible repeat (first | refine zaf ?_ _ | refine zai ?_ | refine zae ?_ _)); exact BK299.out) k_ hk, Kd.zcn (g := gb300) (o := .cells #[.slice none 0 0, .slice none 0 0] 50 (0, 0)) (by (with_reducible repeat (first | refine zaf ?_ _ | refine zai ?_ | refine zae ?_ _)); exact BK300.out) k_ hk, Kd.zcn (g := gb301) (o := .cells #[u302000, u302001] 50 (0, 0)) (by (with_reducible repeat (first | refine zaf ?_ _ | refine zai ?_ | refine zae ?_ _)); exact BK301.out) k_ hk⟩))
         (case aO => exact (by (with_reducible repeat (first | apply Kd.zbs | apply Kd.zbu | apply Kd.zbr)); exact Kd.zbP HO_302001.out (fun _ hk => ⟨hk.1.1, ⟨hk.1.2.1, ⟨hk.1.2.2.1, ⟨hk.1.2.2.2.1, hk.1.2.2.2.2⟩⟩⟩⟩)))
         (case aS => exact (zas (by repeat (first | (with_reducible first | exact HB.out | apply zac | apply zab | apply zad | refine zah ?_ GE299.out | refine zah ?_ GE300.out | refine zah ?_ GE301.out) | exact HB.out))))
         (case aL => have := LMc24.out; omega)
         intro v315 w30 ho hb hg hat
         rw [← Ny314.out] at ho
         have n0_ := zaa.mk (Kd.zb6 (ok := (fun k_ => ((P0_0_ k_ ∨ P0_1_ k_) ∨ w.heap.size ≤ k_) ∧ some k_ ≠ (u302000 : Value).ownBlock ∧ some k_ ≠ (.slice Ao31 t311.length co31 : Value).ownBlock ∧ k_ ≠ gb299 ∧ k_ ≠ gb300 ∧ k_ ≠ gb301)) (by (with_reducible repeat (first | apply Kd.zbb | apply Kd.zbc | apply Kd.zbf)); exact Kd.zby HO_300000.out (fun _ hk => ⟨⟨hk.1.1, ⟨hk.1.2.1, ⟨hk.2, ⟨hk.1.2.2.2.1, ⟨hk.1.2.2.2.2.1, hk.1.2.2.2.2.2⟩⟩⟩⟩⟩, hk.1.2.2.1⟩)) hg hat)
         have n1_ := zaa.mk (Kd.zb6 (ok := (fun k_ => ((P0_0_ k_ ∨ P0_1_ k_) ∨ w.heap.size ≤ k_) ∧ some k_ ≠ (u302000 : Value).ownBlock ∧ some k_ ≠ (.slice Ao31 t311.length co31 : Value).ownBlock ∧ k_ ≠ gb299 ∧ k_ ≠ gb300 ∧ k_ ≠ gb301)) (by (with_reducible repeat (first | apply Kd.zbb | apply Kd.zbc | apply Kd.zbf)); exact Kd.zby HO_300001.out (fun _ hk => ⟨⟨hk.1.1, ⟨hk.1.2.1, ⟨hk.2, ⟨hk.1.2.2.2.1, ⟨hk.1.2.2.2.2.1, hk.1.2.2.2.2.2⟩⟩⟩⟩⟩, hk.1.2.2.1⟩)) hg hat)
         have n2_ := zaa.mk (Kd.zjP (ok := (fun k_ => ((P0_0_ k_ ∨ P0_1_ k_) ∨ w.heap.size ≤ k_) ∧ some k_ ≠ (.slice Ao31 t311.length co31 : Value).ownBlock ∧ k_ ≠ gb299 ∧ k_ ≠ gb300 ∧ k_ ≠ gb301)) (by (with_reducible repeat (first | apply Kd.zbs | apply Kd.zbu | apply Kd.zbr)); exact Kd.zbP HO_302000.out (fun _ hk => ⟨⟨hk.1.1, ⟨hk.2, ⟨hk.1.2.2.1, ⟨hk.1.2.2.2.1, hk.1.2.2.2.2⟩⟩⟩⟩, hk.1.2.1⟩)) hg hat)
         have n3_ := zaa.mk (zbm (g := gb299) (o := .cells #[.slice A0_0 l0_0.length c0_0, .slice (some ad310) l0_1.length c0_1] 41 (0, 0)) (by (with_reducible repeat (first | refine zaf ?_ _ | refine zai ?_ | refine zae ?_ _)); exact BK299.out) hg (Kd.N_ne HO_302001.out BK299.out (by decide)))
         have n4_ := zaa.mk (zbm (g := gb300) (o := .cells #[.slice none 0 0, .slice none 0 0] 50 (0, 0)) (by (with_reducible repeat (first | refine zaf ?_ _ | refine zai ?_ | refine zae ?_ _)); exact BK300.out) hg (Kd.N_ne HO_302001.out BK300.out (by decide)))
         have n5_ := zaa.mk (zbm (g := gb301) (o := .cells #[u302000, u302001] 50 (0, 0)) (by (with_reducible repeat (first | refine zaf ?_ _ | refine zai ?_ | refine zae ?_ _)); exact BK301.out) hg (Kd.N_ne HO_302001.out BK301.out (by decide)))
         have n6_ := zaa.mk (Kd.zb6 (ok := (fun k_ => ((P0_0_ k_ ∨ P0_1_ k_) ∨ w.heap.size ≤ k_) ∧ some k_ ≠ (u302000 : Value).ownBlock ∧ some k_ ≠ (.slice Ao31 t311.length co31 : Value).ownBlock ∧ k_ ≠ gb299 ∧ k_ ≠ gb300 ∧ k_ ≠ gb301)) (by (with_reducible repeat (first | apply Kd.zbb | apply Kd.zbc | apply Kd.zbf)); exact Kd.zby HL310_0.out (fun _ hk => ⟨⟨hk.1.1, ⟨hk.1.2.1, ⟨hk.2, ⟨hk.1.2.2.2.1, ⟨hk.1.2.2.2.2.1, hk.1.2.2.2.2.2⟩⟩⟩⟩⟩, hk.1.2.2.1⟩)) hg hat)
         have n7_ := zaa.mk (hb)
         have n8_ := zaa.mk (ho)
         clear HO_300000
         clear HO_300001
         clear HO_302000
         clear BK299
         clear BK300
         clear BK301
         clear HL310_0
         clear HB
         clear HO_302001
         clear HO313
         have HO_300000 := n0_
         have HO_300001 := n1_
         have HO_302000 := n2_
         have BK299 := n3_
         have BK300 := n4_
         have BK301 := n5_
         have HL310_0 := n6_
         have HB := n7_
         have HO316 := n8_
         clear n0_ n1_ n2_ n3_ n4_ n5_ n6_ n7_ n8_
         clear ho hb hg hat
         obtain ⟨Ao32, co32, eo32⟩ := Kd.zcq HO316.out
         (first | subst eo32 | (injection eo32 with f1_ f2_ f3_; have f4_ := f1_.symm; have f5_ := f3_.symm; clear f1_ f2_ f3_; subst f4_; subst f5_))
         refine hK.out _ _ ?_
         clear hK K
         refine zcY (a' := ?_) ?_ ?_
         rotate_left
         ·show Act.put _ (some 48) _ = _
          simp only [Act.put, List.setIfInBounds_toArray, List.set_cons_zero, List.set_cons_succ, zaC, zaD]
          rfl
         refine zaR (i := 10) (N := some 49) (v := ?_) (a' := ?_) #[true, true, true, true, true, true, true, true, true, true, true, false] rfl rfl (zaL HT_.out (by kernel_rfl)) (fun _ _ _ h => h) (Or.inl ⟨by rfl, ?_⟩) ?_ ?_
         rotate_left
         ·intro w'
          go_simp
          with_reducible rfl
         rotate_left
         ·simp only [Act.put, List.setIfInBounds_toArray, List.set_cons_zero, List.set_cons_succ, zaC, zaD]
          rfl
         refine zfD (i := 11) (N := none) #[true, true, true, true, true, true, true, true, true, true, true, true] rfl rfl (zcd HT_.out (by kernel_rfl)) (by decide) (fun K hK => ?_)
         have hs33 : w30.cell? ⟨gb301, 1, none⟩ = some (u302001) := (zaj BK301.out 1).trans rfl
         have hfs33 := zak BK301.out 1
         have hns33_0 := NB299_301.out
         have hns33_1 := NB300_301.out
         have hms33_0 := NB301_299.out
         have hms33_1 := NB301_300.out
         refine zix (w1 := ?_) (by rfl) rfl ?_ ?_
         rotate_left
         ·go_simp
          rfl
         refine hK.out _ _ ?_
         clear hK K
         refine zdM (zde HT_.out (by kernel_rfl)) ?_
         try go_wp2
         go_roundg k2
         case measure => have := HK1.out; have := HK2.out; omega
         case rel => exact ⟨(wrap64 (x5_2 + 1)), (y314), (.slice Ao32 y314.length co32), (by first | rfl | (simp; done) | (simp [*]; done)), H', ⟨by have := HK1.out; have := HK2.out; omega⟩, ⟨by (with_reducible repeat (first | apply Kd.zbb | apply Kd.zbc | apply Kd.zbf)); exact Kd.zby (Kd.zhl (p := ⟨gb301, 1, none⟩) (Kd.zby HO_300000.out (fun k_ hk => (⟨hk, hk.1.2.2.2.2.2⟩ : _ ∧ k_ ≠ gb301))) (fun _ hk => hk.2) (.slice Ao32 y314.length co32)) (fun _ hk => ⟨hk.1.1.1, ⟨hk.1.1.2.1, ⟨hk.1.2, ⟨hk.1.1.2.2.2.1, ⟨hk.1.1.2.2.2.2.1, hk.1.1.2.2.2.2.2⟩⟩⟩⟩⟩)⟩, ⟨by (with_reducible repeat (first | apply Kd.zbb | apply Kd.zbc | apply Kd.zbf)); exact Kd.zby (Kd.zhl (p := ⟨gb301, 1, none⟩) (Kd.zby HO_300001.out (fun k_ hk => (⟨hk, hk.1.2.2.2.2.2⟩ : _ ∧ k_ ≠ gb301))) (fun _ hk => hk.2) (.slice Ao32 y314.length co32)) (fun _ hk => ⟨hk.1.1.1, ⟨hk.1.1.2.1, ⟨hk.1.2, ⟨hk.1.1.2.2.2.1, ⟨hk.1.1.2.2.2.2.1, hk.1.1.2.2.2.2.2⟩⟩⟩⟩⟩)⟩, ⟨by (with_reducible repeat (first | apply Kd.zbs | apply Kd.zbu | apply Kd.zbr)); exact Kd.zbP (Kd.zd7 (p := ⟨gb301, 1, none⟩) (Kd.zbP HO_302000.out (fun k_ hk => (⟨hk, hk.1.2.2.2.2⟩ : _ ∧ k_ ≠ gb301))) (fun _ hk => hk.2) (.slice Ao32 y314.length co32)) (fun _ hk => ⟨hk.1.1.1, ⟨hk.1.2, ⟨hk.1.1.2.2.1, ⟨hk.1.1.2.2.2.1, hk.1.1.2.2.2.2⟩⟩⟩⟩)⟩, ⟨by (with_reducible repeat (first | apply Kd.zbs | apply Kd.zbu | apply Kd.zbr)); exact Kd.zbP (Kd.zd7 (p := ⟨gb301, 1, none⟩) (Kd.zbP HO316.out (fun k_ hk => (⟨hk, hk.2.2.2.2⟩ : _ ∧ k_ ≠ gb301))) (fun _ hk => hk.2) (.slice Ao32 y314.length co32)) (fun _ hk => ⟨hk.1.1, ⟨hk.1.2.1, ⟨hk.1.2.2.1, ⟨hk.1.2.2.2.1, hk.1.2.2.2.2⟩⟩⟩⟩)⟩, ⟨by (with_reducible repeat (first | refine zaf ?_ _ | refine zai ?_ | refine zae ?_ _)); refine zbv ?_ NB299_301.out _; (with_reducible repeat (first | refine zaf ?_ _ | refine zai ?_ | refine zae ?_ _)); exact BK299.out⟩, ⟨by (with_reducible repeat (first | refine zaf ?_ _ | refine zai ?_ | refine zae ?_ _)); refine zbv ?_ NB300_301.out _; (with_reducible repeat (first | refine zaf ?_ _ | refine zai ?_ | refine zae ?_ _)); exact BK300.out⟩, ⟨by (with_reducible repeat (first | refine zaf ?_ _ | refine zai ?_ | refine zae ?_ _)); refine zaT (cs := #[u302000, u302001]) ?_ 1 _ rfl; (with_reducible repeat (first | refine zaf ?_ _ | refine zai ?_ | refine zae ?_ _)); exact BK301.out⟩, ⟨by repeat (first | (with_reducible first | exact HB.out | apply zac | apply zab | apply zad | refine zah ?_ GE299.out | refine zah ?_ GE300.out | refine zah ?_ GE301.out) | exact HB.out)⟩⟩
        ·rw [if_neg c24] at H
         exact absurd H (by simp)
       ·rw [if_neg c22] at H
        exact absurd H (by simp)
      ·rw [if_neg c21] at H
       have c21b0 : decide (x5_2 < (l0_1.length : Int)) = false := decide_eq_false c21
       clear c21
       simp only [Option.some.injEq, Prod.mk.injEq] at H
       obtain ⟨rfl, rfl⟩ := H
       have hnb34 := NB299_300.out
       have hnc34 := NB300_299.out
       have hnb35 := NB299_301.out
       have hnc35 := NB301_299.out
       have hcz36_0 : wr.cell? ⟨gb299, 0, none⟩ = some (.slice A0_0 l0_0.length c0_0) := (zaj BK299.out 0).trans rfl
       have hcz36_1 : wr.cell? ⟨gb299, 1, none⟩ = some (.slice A0_1 l0_1.length c0_1) := (zaj BK299.out 1).trans rfl
       have hfz36_0 := zak BK299.out 0
       have hfz36_1 := zak BK299.out 1
       have hnb37 := NB301_300.out
       have hnc37 := NB300_301.out
       have hcz38_0 : wr.cell? ⟨gb301, 0, none⟩ = some (u302000) := (zaj BK301.out 0).trans rfl
       have hcz38_1 : wr.cell? ⟨gb301, 1, none⟩ = some (u302001) := (zaj BK301.out 1).trans rfl
       have hfz38_0 := zak BK301.out 0
       have hfz38_1 := zak BK301.out 1
       obtain ⟨Ao39, co39, eo39⟩ := Kd.zcq HO_302000.out
       subst eo39
       have hcz40_0 : wr.cell? ⟨gb300, 0, none⟩ = some (.slice none 0 0) := (zaj BK300.out 0).trans rfl
       have hcz40_1 : wr.cell? ⟨gb300, 1, none⟩ = some (.slice none 0 0) := (zaj BK300.out 1).trans rfl
       have hfz40_0 := zak BK300.out 0
       have hfz40_1 := zak BK300.out 1
       obtain ⟨Ao41, co41, eo41⟩ := Kd.zcq HO_302001.out
       subst eo41
       go_wp2
       refine bodyPost_ret (results_cell_row rfl _ _ gb300 50 #[.slice Ao39 x302000_1.length co39, .slice Ao41 x302001_2.length co41] (0, 0) _ rfl (by (with_reducible repeat (first | refine zaf ?_ _ | refine zai ?_ | refine zae ?_ _)); refine zaT (cs := #[.slice Ao39 x302000_1.length co39, .slice none 0 0]) ?_ 1 _ rfl; (with_reducible repeat (first | refine zaf ?_ _ | refine zai ?_ | refine zae ?_ _)); refine zaT (cs := #[.slice none 0 0, .slice none 0 0]) ?_ 0 _ rfl; (with_reducible repeat (first | refine zaf ?_ _ | refine zai ?_ | refine zae ?_ _)); exact BK300.out) Tryd.underlying50 rfl (by kernel_rfl)) rfl ?_
       exact ⟨_, _, by first | rfl | (simp [zam, zan] <;> rfl) | (simp [*, zam, zan] <;> rfl), by (with_reducible repeat (first | apply Kd.zbs | apply Kd.zbu | apply Kd.zbr)); exact Kd.zbP (Kd.zd7 (p := ⟨gb300, 1, none⟩) (Kd.zd7 (p := ⟨gb300, 0, none⟩) (Kd.zbP HO_302000.out (fun k_ hk => (⟨hk, hk.2.2.2.1⟩ : _ ∧ k_ ≠ gb300))) (fun _ hk => hk.2) (.slice Ao39 x302000_1.length co39)) (fun _ hk => hk.2) (.slice Ao41 x302001_2.length co41)) (fun _ hk => ⟨hk.1.1, hk.1.2.1⟩), by (with_reducible repeat (first | apply Kd.zbs | apply Kd.zbu | apply Kd.zbr)); exact Kd.zbP (Kd.zd7 (p := ⟨gb300, 1, none⟩) (Kd.zd7 (p := ⟨gb300, 0, none⟩) (Kd.zbP HO_302001.out (fun k_ hk => (⟨hk, hk.2.2.2.1⟩ : _ ∧ k_ ≠ gb300))) (fun _ hk => hk.2) (.slice Ao39 x302000_1.length co39)) (fun _ hk => hk.2) (.slice Ao41 x302001_2.length co41)) (fun _ hk => ⟨hk.1.1, hk.1.2.1⟩), by repeat (first | (with_reducible first | exact HB.out | apply zac | apply zab | apply zad | refine zah ?_ GE299.out | refine zah ?_ GE300.out | refine zah ?_ GE301.out) | exact HB.out)⟩
def zdz.f (a0 : Bool) (a1_0 : Int) (a1_1 : Int) (a1_2 : Int) : Option (Int × Int × Int × Int) := if a0 = true then (some (2, a1_0, a1_1, a1_2)) else (some (0, 0, 0, 0))
set_option maxHeartbeats 8000000 in
set_option maxRecDepth 100000 in
theorem zdz.calls (a0 : Bool) (a1_0 : Int) (a1_1 : Int) (a1_2 : Int) (r1 : Int) (r2 : Int) (r3 : Int) (r4 : Int) (w : World) (h : zdz.f a0 a1_0 a1_1 a1_2 = some (r1, r2, r3, r4)) :
  Calls Tryd.prog 28 #[.bool a0, .agg #[.int .i64 a1_0, .int .i64 a1_1, .int .i64 a1_2]] w fun e w' => e = .returned (.agg #[.int .i64 r1, .int .i64 r2, .int .i64 r3, .int .i64 r4]) ∧ Below w.heap.size w w' := by
 have hu43 := Tryd.underlying43
 have hu25 := Tryd.underlying25
 have HB := zaa.mk (Below.refl w.heap.size w)
 have H : (if a0 = true then (some (2, a1_0, a1_1, a1_2)) else (some (0, 0, 0, 0))) = some (r1, r2, r3, r4) := h
 clear h
 by_cases c3 : a0 = true
 ·subst c3
  have H1 : (some (2, a1_0, a1_1, a1_2)) = some (r1, r2, r3, r4) := by rw [if_pos rfl] at H; exact H
  clear H
  have H := H1
  clear H1
  simp only [Option.some.injEq, Prod.mk.injEq] at H
  obtain ⟨rfl, rfl, rfl, rfl⟩ := H
  go_enter Tryd.func28, Tryd.ntmps28
  go_wp2_with (first | ((with_reducible refine zba (N := 3) rfl ?_); refine za6 ?hg (N := 3) ?hd (cs := #[.int .i64 a1_0, .int .i64 a1_1, .int .i64 a1_2]) (t := 43) ?hr ?_; (case hd => rfl); (case hg => rfl); (case hr => first | (go_simp; done) | (go_simp; rfl)); intro gb317 hg w4 hbox hb; have n0_ := zaa.mk (zat (by repeat (first | (with_reducible first | exact HB.out | apply zac | apply zab | apply zad) | exact HB.out)) hb); have n1_ := zaa.mk (hbox); have n2_ := zaa.mk ((by rw [hg]; exact (zas (by repeat (first | (with_reducible first | exact HB.out | apply zac | apply zab | apply zad) | exact HB.out))) : w.heap.size ≤ gb317)); have n3_ := zaa.mk ((by rw [hg]; exact (zas (by repeat (first | (with_reducible first | exact HB.out | apply zac | apply zab | apply zad) | exact HB.out))) : w.heap.size ≤ gb317)); clear HB; have HB := n0_; have BK317 := n1_; have GW317 := n2_; have GE317 := n3_; clear n0_ n1_ n2_ n3_; clear hb hbox hg) | ((with_reducible refine zba (N := 4) rfl ?_); refine za6 ?hg (N := 4) ?hd (cs := #[.int .i64 0, .int .i64 0, .int .i64 0, .int .i64 0]) (t := 25) ?hr ?_; (case hd => rfl); (case hg => rfl); (case hr => first | (go_simp; done) | (go_simp; rfl)); intro gb318 hg w5 hbox hb; have n0_ := zaa.mk (zaM (g := gb317) (o := .cells #[.int .i64 a1_0, .int .i64 a1_1, .int .i64 a1_2] 43 (0, 0)) (by (with_reducible repeat (first | refine zaf ?_ _ | refine zai ?_ | refine zae ?_ _)); exact BK317.out) hb); have n1_ := zaa.mk (zat (by repeat (first | (with_reducible first | exact HB.out | apply zac | apply zab | apply zad | refine zah ?_ GE317.out) | exact HB.out)) hb); have n2_ := zaa.mk (hbox); have n3_ := zaa.mk ((by rw [hg]; exact (zas (by repeat (first | (with_reducible first | exact HB.out | apply zac | apply zab | apply zad | refine zah ?_ GE317.out) | exact HB.out))) : w.heap.size ≤ gb318)); have n4_ := zaa.mk ((by rw [hg]; exact (zas (by repeat (first | (with_reducible first | exact HB.out | apply zac | apply zab | apply zad | refine zah ?_ GE317.out) | exact HB.out))) : w.heap.size ≤ gb318)); have n5_ := zaa.mk ((by rw [hg]; exact Nat.ne_of_lt (zbk (g := gb317) (o := .cells #[.int .i64 a1_0, .int .i64 a1_1, .int .i64 a1_2] 43 (0, 0)) (by (with_reducible repeat (first | refine zaf ?_ _ | refine zai ?_ | refine zae ?_ _)); exact BK317.out)) : gb317 ≠ gb318)); have n6_ := zaa.mk ((by rw [hg]; exact Nat.ne_of_gt (zbk (g := gb317) (o := .cells #[.int .i64 a1_0, .int .i64 a1_1, .int .i64 a1_2] 43 (0, 0)) (by (with_reducible repeat (first | refine zaf ?_ _ | refine zai ?_ | refine zae ?_ _)); exact BK317.out)) : gb318 ≠ gb317)); clear BK317; clear HB; have BK317 := n0_; have HB := n1_; have BK318 := n2_; have GW318 := n3_; have GE318 := n4_; have NB317_318 := n5_; have NB318_317 := n6_; clear n0_ n1_ n2_ n3_ n4_ n5_ n6_; clear hb hbox hg; have hnb6 := NB317_318.out; have hnc6 := NB318_317.out; have hcz7_0 : w5.cell? ⟨gb317, 0, none⟩ = some (.int .i64 a1_0) := (zaj BK317.out 0).trans rfl; have hcz7_1 : w5.cell? ⟨gb317, 1, none⟩ = some (.int .i64 a1_1) := (zaj BK317.out 1).trans rfl; have hcz7_2 : w5.cell? ⟨gb317, 2, none⟩ = some (.int .i64 a1_2) := (zaj BK317.out 2).trans rfl; have hfz7_0 := zak BK317.out 0; have hfz7_1 := zak BK317.out 1; have hfz7_2 := zak BK317.out 2; have hcz8_0 : w5.cell? ⟨gb318, 0, none⟩ = some (.int .i64 0) := (zaj BK318.out 0).trans rfl; have hcz8_1 : w5.cell? ⟨gb318, 1, none⟩ = some (.int .i64 0) := (zaj BK318.out 1).trans rfl; have hcz8_2 : w5.cell? ⟨gb318, 2, none⟩ = some (.int .i64 0) := (zaj BK318.out 2).trans rfl; have hcz8_3 : w5.cell? ⟨gb318, 3, none⟩ = some (.int .i64 0) := (zaj BK318.out 3).trans rfl; have hfz8_0 := zak BK318.out 0; have hfz8_1 := zak BK318.out 1; have hfz8_2 := zak BK318.out 2; have hfz8_3 := zak BK318.out 3))
  refine bodyPost_ret (results_cell_row rfl _ _ gb318 25 #[.int .i64 2, .int .i64 a1_0, .int .i64 a1_1, .int .i64 a1_2] (0, 0) _ rfl (by (with_reducible repeat (first | refine zaf ?_ _ | refine zai ?_ | refine zae ?_ _)); refine zaT (cs := #[.int .i64 2, .int .i64 a1_0, .int .i64 a1_1, .int .i64 0]) ?_ 3 _ rfl; (with_reducible repeat (first | refine zaf ?_ _ | refine zai ?_ | refine zae ?_ _)); refine zaT (cs := #[.int .i64 2, .int .i64 a1_0, .int .i64 0, .int .i64 0]) ?_ 2 _ rfl; (with_reducible repeat (first | refine zaf ?_ _ | refine zai ?_ | refine zae ?_ _)); refine zaT (cs := #[.int .i64 2, .int .i64 0, .int .i64 0, .int .i64 0]) ?_ 1 _ rfl; (with_reducible repeat (first | refine zaf ?_ _ | refine zai ?_ | refine zae ?_ _)); refine zaT (cs := #[.int .i64 0, .int .i64 0, .int .i64 0, .int .i64 0]) ?_ 0 _ rfl; (with_reducible repeat (first | refine zaf ?_ _ | refine zai ?_ | refine zae ?_ _)); exact BK318.out) Tryd.underlying25 rfl (by kernel_rfl)) rfl ?_
  exact ⟨by first | rfl | (simp [zam, zan] <;> rfl) | (simp [*, zam, zan] <;> rfl), by repeat (first | (with_reducible first | exact HB.out | apply zac | apply zab | apply zad | refine zah ?_ GE317.out | refine zah ?_ GE318.out) | exact HB.out)⟩
 ·replace c3 := Bool.eq_false_iff.mpr c3
  subst c3
  have H1 : (some (0, 0, 0, 0)) = some (r1, r2, r3, r4) := by rw [if_neg (show ¬ (false = true) by decide)] at H; exact H
  clear H
  have H := H1
  clear H1
  simp only [Option.some.injEq, Prod.mk.injEq] at H
  obtain ⟨rfl, rfl, rfl, rfl⟩ := H
  go_enter Tryd.func28, Tryd.ntmps28
  go_wp2_with (first | ((with_reducible refine zba (N := 3) rfl ?_); refine za6 ?hg (N := 3) ?hd (cs := #[.int .i64 a1_0, .int .i64 a1_1, .int .i64 a1_2]) (t := 43) ?hr ?_; (case hd => rfl); (case hg => rfl); (case hr => first | (go_simp; done) | (go_simp; rfl)); intro gb317 hg w9 hbox hb; have n0_ := zaa.mk (zat (by repeat (first | (with_reducible first | exact HB.out | apply zac | apply zab | apply zad) | exact HB.out)) hb); have n1_ := zaa.mk (hbox); have n2_ := zaa.mk ((by rw [hg]; exact (zas (by repeat (first | (with_reducible first | exact HB.out | apply zac | apply zab | apply zad) | exact HB.out))) : w.heap.size ≤ gb317)); have n3_ := zaa.mk ((by rw [hg]; exact (zas (by repeat (first | (with_reducible first | exact HB.out | apply zac | apply zab | apply zad) | exact HB.out))) : w.heap.size ≤ gb317)); clear HB; have HB := n0_; have BK317 := n1_; have GW317 := n2_; have GE317 := n3_; clear n0_ n1_ n2_ n3_; clear hb hbox hg) | ((with_reducible refine zba (N := 4) rfl ?_); refine za6 ?hg (N := 4) ?hd (cs := #[.int .i64 0, .int .i64 0, .int .i64 0, .int .i64 0]) (t := 25) ?hr ?_; (case hd => rfl); (case hg => rfl); (case hr => first | (go_simp; done) | (go_simp; rfl)); intro gb318 hg w10 hbox hb; have n0_ := zaa.mk (zaM (g := gb317) (o := .cells #[.int .i64 a1_0, .int .i64 a1_1, .int .i64 a1_2] 43 (0, 0)) (by (with_reducible repeat (first | refine zaf ?_ _ | refine zai ?_ | refine zae ?_ _)); exact BK317.out) hb); have n1_ := zaa.mk (zat (by repeat (first | (with_reducible first | exact HB.out | apply zac | apply zab | apply zad | refine zah ?_ GE317.out) | exact HB.out)) hb); have n2_ := zaa.mk (hbox); have n3_ := zaa.mk ((by rw [hg]; exact (zas (by repeat (first | (with_reducible first | exact HB.out | apply zac | apply zab | apply zad | refine zah ?_ GE317.out) | exact HB.out))) : w.heap.size ≤ gb318)); have n4_ := zaa.mk ((by rw [hg]; exact (zas (by repeat (first | (with_reducible first | exact HB.out | apply zac | apply zab | apply zad | refine zah ?_ GE317.out) | exact HB.out))) : w.heap.size ≤ gb318)); have n5_ := zaa.mk ((by rw [hg]; exact Nat.ne_of_lt (zbk (g := gb317) (o := .cells #[.int .i64 a1_0, .int .i64 a1_1, .int .i64 a1_2] 43 (0, 0)) (by (with_reducible repeat (first | refine zaf ?_ _ | refine zai ?_ | refine zae ?_ _)); exact BK317.out)) : gb317 ≠ gb318)); have n6_ := zaa.mk ((by rw [hg]; exact Nat.ne_of_gt (zbk (g := gb317) (o := .cells #[.int .i64 a1_0, .int .i64 a1_1, .int .i64 a1_2] 43 (0, 0)) (by (with_reducible repeat (first | refine zaf ?_ _ | refine zai ?_ | refine zae ?_ _)); exact BK317.out)) : gb318 ≠ gb317)); clear BK317; clear HB; have BK317 := n0_; have HB := n1_; have BK318 := n2_; have GW318 := n3_; have GE318 := n4_; have NB317_318 := n5_; have NB318_317 := n6_; clear n0_ n1_ n2_ n3_ n4_ n5_ n6_; clear hb hbox hg; have hnb11 := NB318_317.out; have hnc11 := NB317_318.out; have hcz12_0 : w10.cell? ⟨gb318, 0, none⟩ = some (.int .i64 0) := (zaj BK318.out 0).trans rfl; have hcz12_1 : w10.cell? ⟨gb318, 1, none⟩ = some (.int .i64 0) := (zaj BK318.out 1).trans rfl; have hcz12_2 : w10.cell? ⟨gb318, 2, none⟩ = some (.int .i64 0) := (zaj BK318.out 2).trans rfl; have hcz12_3 : w10.cell? ⟨gb318, 3, none⟩ = some (.int .i64 0) := (zaj BK318.out 3).trans rfl; have hfz12_0 := zak BK318.out 0; have hfz12_1 := zak BK318.out 1; have hfz12_2 := zak BK318.out 2; have hfz12_3 := zak BK318.out 3))
  refine bodyPost_ret (results_cell_row rfl _ _ gb318 25 #[.int .i64 0, .int .i64 0, .int .i64 0, .int .i64 0] (0, 0) _ rfl (by (with_reducible repeat (first | refine zaf ?_ _ | refine zai ?_ | refine zae ?_ _)); refine zaT (cs := #[.int .i64 0, .int .i64 0, .int .i64 0, .int .i64 0]) ?_ 3 _ rfl; (with_reducible repeat (first | refine zaf ?_ _ | refine zai ?_ | refine zae ?_ _)); refine zaT (cs := #[.int .i64 0, .int .i64 0, .int .i64 0, .int .i64 0]) ?_ 2 _ rfl; (with_reducible repeat (first | refine zaf ?_ _ | refine zai ?_ | refine zae ?_ _)); refine zaT (cs := #[.int .i64 0, .int .i64 0, .int .i64 0, .int .i64 0]) ?_ 1 _ rfl; (with_reducible repeat (first | refine zaf ?_ _ | refine zai ?_ | refine zae ?_ _)); refine zaT (cs := #[.int .i64 0, .int .i64 0, .int .i64 0, .int .i64 0]) ?_ 0 _ rfl; (with_reducible repeat (first | refine zaf ?_ _ | refine zai ?_ | refine zae ?_ _)); exact BK318.out) Tryd.underlying25 rfl (by kernel_rfl)) rfl ?_
  exact ⟨by first | rfl | (simp [zam, zan] <;> rfl) | (simp [*, zam, zan] <;> rfl), by repeat (first | (with_reducible first | exact HB.out | apply zac | apply zab | apply zad | refine zah ?_ GE317.out | refine zah ?_ GE318.out) | exact HB.out)⟩
end Go.Proofs.YtbicjgaadknmfaaDoor.P
end
section
namespace Go.Proofs.YtbicjgaadknmfaaDoor.P
open Go.RowKit Go.Proofs.YtbicjgaadknmfaaDoorW.PrintWords
set_option linter.unusedVariables false
set_option linter.unusedSimpArgs false
abbrev LN := S127
abbrev LR := S121
abbrev NR := S62
def At (w W : World) (g : Nat) (AL : Option Addr) (L : List LN) (cL : Nat) (AO : Option Addr) (O : List (List CN)) (cO : Nat) : Prop :=
  Kd.C k127 W AL L.length L ∧ Kd.C dC W AO O.length O ∧ W.heap[g]? = some (.cells #[.slice AL L.length cL, .slice AO O.length cO] TF (0, 0)) ∧ Below w.heap.size w W ∧ L.length ≤ cL ∧ O.length ≤ cO
theorem At.step {w W W1 : World} {g : Nat} {AL : Option Addr} {L : List LN} {cL : Nat} {AO : Option Addr} {O : List (List CN)} {cO : Nat} (h : At w W g AL L cL AO O cO) (hb : Below W.heap.size W W1) : At w W1 g AL L cL AO O cO :=
  ⟨Kd.za1 h.1 hb, Kd.za1 h.2.1 hb, zaM h.2.2.1 hb, zat h.2.2.2.1 hb, h.2.2.2.2⟩
theorem zel {w W : World} {g : Nat} {AL : Option Addr} {L : List LN} {cL : Nat} {AO : Option Addr} {O : List (List CN)} {cO : Nat} (h : At w W g AL L cL AO O cO) (k : Nat) (d p q1 q2 q3 q4 : Int) (hq : zaG.f k L O d p = some (q1, q2, q3, q4)) :
    Calls Tryd.prog 26 #[.agg #[.slice AL L.length cL, .slice AO O.length cO], .int .i64 d, .int .i64 p] W fun e w' => e = .returned (.agg #[.int .i64 q1, .int .i64 q2, .int .i64 q3, .int .i64 q4]) ∧ At w w' g AL L cL AO O cO ∧ Below W.heap.size W w' :=
  (zaG.calls k AL cL L AO cO O d p q1 q2 q3 q4 W h.1 h.2.2.2.2.1 h.2.1 h.2.2.2.2.2 hq).mono fun e w' ⟨he, hb⟩ => ⟨he, h.step hb, hb⟩
def More (k : Nat) (L : List LR) (O : List (List NR)) (a1 a2 : Int) : Prop := ∃ (L' : List LN) (O' : List (List CN)) (q1 q2 q3 q4 : Int), zaq.f k L O = some (L', O') ∧ O'.length ≤ 1000 ∧
  zaG.f k L' O' O'.length a1 = some (q1, q2, q3, q4) ∧ (¬ (q1 = 0 ∧ q2 = 0 ∧ q3 = 0 ∧ q4 = 0) ∨ (0 ≤ a1 ∧ a1 ≤ 6 ∧ q1 = 0 ∧ q2 = 0 ∧ q3 = 0 ∧ q4 = 0 ∧
    (∃ C, zaX.f k L' O' = some C ∧ C.length ≤ 100000 ∧ ∀ (i : Nat) (h : i < C.length), zbI.f k C[i] = some true ∧ ∃ d, zaP.f k C[i] = some d ∧ d ≤ 40) ∧
    (a1 + a2 ≤ 6 → zaG.f k L' O' O'.length (a1 + a2) = some (0, 0, 0, 0)) ∧
    ∃ s r1 r2 r3 r4, zbj.f k L' O' = some s ∧ zaG.f k L' (O' ++ [[⟨3, O'.length, []⟩]]) (O'.length + 1) a1 = some (r1, r2, r3, r4) ∧
      ((r1 = 0 ∧ r2 = 0 ∧ r3 = 0 ∧ r4 = 0) ↔ (O'.length < 6 ∧ s < 300))))
set_option maxHeartbeats 4000000 in
set_option maxRecDepth 100000 in
theorem zit (k : Nat) (A0 : Option Addr) (c0 : Nat) (L : List LR) (A1 : Option Addr) (c1 : Nat) (O : List (List NR)) (a1 a2 : Int) (b : Bool) (w : World) (hr0 : Kd.C k121 w A0 L.length L) (hc0 : L.length ≤ c0)
    (hr1 : Kd.C (Kd.slice 62 k62) w A1 O.length O) (hc1 : O.length ≤ c1) (hf : zao.f k L O 6 60 9 = some b) (hb : b = true ∨ a2 < 0 ∨ 6 < a2) :
    Calls Tryd.prog 8 #[.agg #[.slice A0 L.length c0, .slice A1 O.length c1], .int .i64 a1, .int .i64 a2] w fun e w' => e = .returned (.bool true) ∧ Below w.heap.size w w' := by
  have HX := zaa.mk (fun (W : World) (hb : Below w.heap.size w W) => zao.calls k A0 c0 L A1 c1 O 6 60 9 b W (Kd.za1 hr0 hb) hc0 (Kd.za1 hr1 hb) hc1 hf)
  have HB0 := zaa.mk hb
  clear hr0 hc0 hr1 hc1 hf hb
  go_enter Tryd.func8, Tryd.ntmps8
  go_wp2_with fail
  refine (HX.out _ (zac (Below.refl _ _) _)).mono ?_
  rintro e w1 ⟨rfl, hb⟩
  have HB := zaa.mk (zat (zac (Below.refl _ _) _) hb)
  clear hb HX
  have hb := HB0.out
  clear HB0
  cases b with
  | true =>
    clear hb
    go_wp2_with fail
    refine (zbG.calls true _ rfl).mono ?_
    rintro e w2 ⟨rfl, hb⟩
    have HB2 := zaa.mk (zat HB.out hb)
    clear hb
    go_wp2_with fail
    go_ret
    exact ⟨rfl, HB2.out⟩
  | false =>
    have hb : a2 < 0 ∨ 6 < a2 := by simpa using hb
    by_cases h : a2 < 0
    · clear hb
      go_wp2_with fail
      refine (zbG.calls true _ rfl).mono ?_
      rintro e w2 ⟨rfl, hb⟩
      have HB2 := zaa.mk (zat HB.out hb)
      clear hb
      go_wp2_with fail
      go_ret
      exact ⟨rfl, HB2.out⟩
    · have h6 : 6 < a2 := by omega
      clear hb
      go_wp2_with fail
      refine (zbG.calls true _ rfl).mono ?_
      rintro e w2 ⟨rfl, hb⟩
      have HB2 := zaa.mk (zat HB.out hb)
      clear hb
      go_wp2_with fail
      go_ret
      exact ⟨rfl, HB2.out⟩
attribute [local go_sem high] zkj
set_option maxHeartbeats 8000000 in
set_option maxRecDepth 100000 in
theorem zi8 (k : Nat) (A0 : Option Addr) (c0 : Nat) (L : List LR) (A1 : Option Addr) (c1 : Nat) (O : List (List NR)) (a1 a2 : Int) (w : World) (hr0 : Kd.C k121 w A0 L.length L) (hc0 : L.length ≤ c0)
    (hr1 : Kd.C (Kd.slice 62 k62) w A1 O.length O) (hc1 : O.length ≤ c1) (hf : zao.f k L O 6 60 9 = some false) (h0 : ¬ a2 < 0) (h6 : ¬ 6 < a2) (hm : More k L O a1 a2) :
    Calls Tryd.prog 8 #[.agg #[.slice A0 L.length c0, .slice A1 O.length c1], .int .i64 a1, .int .i64 a2] w fun e w' => e = .returned (.bool true) ∧ Below w.heap.size w w' := by
  obtain ⟨L', O', q1, q2, q3, q4, hto, hlen, hck, hrest⟩ := hm
  have HX := zaa.mk (fun (W : World) (hb : Below w.heap.size w W) => zao.calls k A0 c0 L A1 c1 O 6 60 9 false W (Kd.za1 hr0 hb) hc0 (Kd.za1 hr1 hb) hc1 hf)
  have HT := zaa.mk (fun (W : World) (hb : Below w.heap.size w W) => zaq.calls k (fun k_ => k_ < w.heap.size) A0 c0 L (fun k_ => k_ < w.heap.size) A1 c1 O L' O' W (Kd.V_mk hc0 (Kd.zc0 (Kd.C_F zfA hr0) hb)) (Kd.V_mk hc1 (Kd.zc0 (Kd.C_F (Kd.zcS 62 zeS) hr1) hb)) hto)
  have HL := zaa.mk hlen
  have HK := zaa.mk hck
  have HM := zaa.mk hrest
  clear hr0 hc0 hr1 hc1 hf hto hlen hck hrest
  go_enter Tryd.func8, Tryd.ntmps8
  go_wp2_with fail
  refine (HX.out _ (zac (Below.refl _ _) _)).mono ?_
  rintro e w1 ⟨rfl, hb⟩
  have HB := zaa.mk (zat (zac (Below.refl _ _) _) hb)
  have k0 := zbA hb (a := ⟨w.heap.size, 0, none⟩) (v := .slice A0 L.length c0) (by go_simp)
  have k1 := zbA hb (a := ⟨w.heap.size, 1, none⟩) (v := .slice A1 O.length c1) (by go_simp)
  clear hb HX
  go_wp2_with fail
  refine (HT.out _ HB.out).mono ?_
  rintro e w2 ⟨v0, v1, rfl, n0, n1, hb⟩
  obtain ⟨AL, cL, rfl⟩ := Kd.zcq n0
  obtain ⟨AO, cO, rfl⟩ := Kd.zcq n1
  have HN := zaa.mk (And.intro n0 n1)
  have HB2 := zaa.mk (zat HB.out hb)
  clear k0 k1 hb HT HB n0 n1
  go_wp2_with fail
  have n := HN.out
  have r0 := Kd.zbR n.1
  have r1 := Kd.zbR n.2
  have HA := zaa.mk (show At w (w2.alloc (.cells #[.slice AL L'.length cL, .slice AO O'.length cO] TF)) w2.heap.size AL L' cL AO O' cO from ⟨Kd.zaU r0.2.2 _, Kd.zaU r1.2.2 _, zeC _ _, zac HB2.out _, r0.2.1, r1.2.1⟩)
  clear n r0 r1 HN HB2
  refine (zel HA.out k _ _ _ _ _ _ HK.out).mono ?_
  rintro e w3 ⟨rfl, ha, hz⟩
  clear HA HK hz
  generalize w2.heap.size = g at *
  have HA := zaa.mk ha
  have k0 := zaj ha.2.2.1 0
  have k1 := zaj ha.2.2.1 1
  clear ha
  rcases HM.out with hq | hm
  · have hq : (!(q1 == 0) || (!(q2 == 0) || (!(q3 == 0) || (!(q4 == 0))))) = true := by
      simp only [Bool.or_eq_true, Bool.not_eq_true', beq_eq_false_iff_ne, ne_eq]
      by_cases z1 : q1 = 0
      · by_cases z2 : q2 = 0
        · by_cases z3 : q3 = 0
          · exact .inr (.inr (.inr fun z4 => hq ⟨z1, z2, z3, z4⟩))
          · exact .inr (.inr (.inl z3))
        · exact .inr (.inl z2)
      · exact .inl z1
    clear HM HL
    go_wp2_with fail
    refine (zbG.calls true _ rfl).mono ?_
    rintro e w4 ⟨rfl, hb⟩
    have HB2 := zaa.mk (HA.out.step hb)
    clear hb
    go_wp2_with fail
    go_ret
    exact ⟨rfl, HB2.out.2.2.2.1⟩
  obtain ⟨l0, l6, rfl, rfl, rfl, rfl, ⟨C, hC, hCl, hCC⟩, hmore, s, r1, r2, r3, r4, hs, hr, hiff⟩ := hm
  have HCC := zaa.mk hCC
  have HCl := zaa.mk hCl
  have HMo := zaa.mk hmore
  have HSz := zaa.mk hs
  have HR := zaa.mk hr
  have HI := zaa.mk hiff
  have HCo := zaa.mk hC
  have HL6 := zaa.mk (And.intro l0 l6)
  clear HM hCC hCl hmore hs hr hiff hC l0 l6
  go_wp2_with fail
  refine (zaX.calls k AL cL L' AO cO O' C w3 HA.out.1 HA.out.2.2.2.2.1 HA.out.2.1 HA.out.2.2.2.2.2 HCo.out).mono ?_
  rintro e w4 ⟨vC, rfl, hR, hb⟩
  obtain ⟨AC, cC, rfl⟩ := Kd.zbO hR
  have HR4 := zaa.mk (Kd.zbD hR).2.2
  have HA4 := zaa.mk (HA.out.step hb)
  clear k0 k1 hR hb HA HCo
  go_wp2
  go_loopw [10] (fun v10 w' => ∃ (i : Nat), v10 = .int .i64 i ∧ i ≤ C.length ∧ zaa (At w w' g AL L' cL AO O' cO) ∧ zaa (Kd.C dC w' AC C.length C)) (fun v10 _ => C.length - (intOf v10).toNat)
  case atStart => exact ⟨0, rfl, by omega, HA4, HR4⟩
  case round =>
    obtain ⟨i, rfl, hi, HA, HCr⟩ := hrel
    by_cases hlt : i < C.length
    · obtain ⟨ad, c, rfl, hcl, hK, hcc⟩ := Kd.zdn HCr.out [] (i : Int) (by omega) (by omega)
      obtain ⟨Ai, ci, rfl, hci, hCi⟩ := hK
      have hx : C.getD (i : Int).toNat [] = C[i] := by simp [List.getD_eq_getElem?_getD, hlt]
      rw [hx] at hci hCi hcc
      have hc0 := hcc 0 _ rfl
      simp only [Int.toNat_natCast, Nat.mul_one, Nat.add_zero, show dC.sz = 1 from rfl] at hc0
      obtain ⟨hri, d, hde, hd⟩ := HCC.out i hlt
      have HCi := zaa.mk hCi
      have HRi := zaa.mk hri
      have HDe := zaa.mk hde
      have HD := zaa.mk hci
      have hd2 : ¬ 40 < d := by omega
      have hCl := HCl.out
      generalize C[i] = ce at *
      clear hx hcc hcl hCi hri hde hci hd
      go_wp2_with fail
      refine (zbI.calls k Ai ci ce true wr HCi.out HD.out HRi.out).mono ?_
      rintro e w5 ⟨rfl, hb⟩
      have hc1 := zbA hb hc0
      have HA5 := zaa.mk (HA.out.step hb)
      have HC5 := zaa.mk (Kd.za1 HCr.out hb)
      have HCi5 := zaa.mk (Kd.za1 HCi.out hb)
      clear hb hc0 HA HCr HCi HRi
      go_wp2_with fail
      refine (zaP.calls k Ai ci ce d w5 HCi5.out HD.out HDe.out).mono ?_
      rintro e w6 ⟨rfl, hb⟩
      have HA6 := zaa.mk (HA5.out.step hb)
      have HC6 := zaa.mk (Kd.za1 HC5.out hb)
      clear hb hc1 HA5 HC5 HCi5 HD HDe
      go_wp2_with fail
      go_roundw
      case rel => exact ⟨i + 1, by simp, by omega, HA6, HC6⟩
      case measure => simp [intOf]; omega
    · have hw : IntKind.i64.wrap (a1 + a2) = a1 + a2 := IntWalk.i64_in _ (by have := HL6.out; omega)
      have hout : ¬ (i : Int) < C.length := by omega
      have k0 := zaj HA.out.2.2.1 0
      have k1 := zaj HA.out.2.2.1 1
      go_upto_region 13 with (fail)
      go_cut [71] (fun v71 wc => v71 = .bool false ∧ zaa (At w wc g AL L' cL AO O' cO))
      case first =>
        by_cases h : a1 + a2 ≤ 6
        · have hck := zaa.mk (HMo.out h)
          go_wp2_with fail
          refine (zel HA.out k _ _ _ _ _ _ hck.out).mono ?_
          rintro e w5 ⟨rfl, ha, hz⟩
          have HA5 := zaa.mk ha
          clear ha hz k0 k1 HA
          go_wp2_with fail
          go_meet
          case rel => exact ⟨rfl, HA5⟩
        · go_wp2_with fail
          go_meet
          case rel => exact ⟨rfl, HA⟩
      case rest =>
        obtain ⟨rfl, HA⟩ := hcut
        clear k0 k1 hw
        go_upto_region 15 with (fail)
        refine zke _ _ g (O'.length : Int) AL L'.length cL AO cO O' (by simp) rfl rfl (zaj HA.out.2.2.1 0) (zaj HA.out.2.2.1 1) HA.out.2.1 (by have := HL.out; omega) ?_
        intro x72 x73 x74 x75 x76 x77 x78 x79 x80 x81 x82 x83 gw AW cW w5 hgw hbk hcW hCW hbel
        have HO := zaa.mk (HA.out.step hbel)
        have hr := HR.out
        generalize O' ++ [[(⟨3, (O'.length : Int), []⟩ : CN)]] = OW at *
        have HR := zaa.mk hr
        clear hr
        have HW := zaa.mk (show At w w5 gw AL L' cL AW OW cW from ⟨HO.out.1, hCW, hbk, HO.out.2.2.2.1, HO.out.2.2.2.2.1, hcW⟩)
        have k0 := zaj HO.out.2.2.1 0
        have k1 := zaj HO.out.2.2.1 1
        have hw2 : IntKind.i64.wrap ((O'.length : Int) + 1) = (O'.length : Int) + 1 := IntWalk.i64_in _ (by have := HL.out; omega)
        clear hbk hCW hcW hbel hgw HA
        have hl := HL.out
        simp only [Act.put, List.setIfInBounds_toArray, List.set_cons_zero, List.set_cons_succ]
        by_cases hz : r1 = 0 ∧ r2 = 0 ∧ r3 = 0 ∧ r4 = 0
        · obtain ⟨c6, cs⟩ := HI.out.1 hz
          obtain ⟨rfl, rfl, rfl, rfl⟩ := hz
          have c7 : (O'.length : Int) < 6 := by omega
          clear HI
          go_wp2_with fail
          refine (zbj.calls k AL cL L' AO cO O' s w5 HO.out.1 HO.out.2.2.2.2.1 HO.out.2.1 HO.out.2.2.2.2.2 HSz.out).mono ?_
          rintro e w6 ⟨rfl, hb⟩
          have HW6 := zaa.mk (HW.out.step hb)
          clear hb k0 k1 HW HO HSz
          have q0 := zaj HW6.out.2.2.1 0
          have q1 := zaj HW6.out.2.2.1 1
          go_wp2_with fail
          refine (zel HW6.out k _ _ _ _ _ _ HR.out).mono ?_
          rintro e w7 ⟨rfl, ha, hz⟩
          have HB7 := zaa.mk ha.2.2.2.1
          clear ha hz q0 q1 HW6 HR
          go_wp2_with fail
          refine (zbG.calls true _ rfl).mono ?_
          rintro e w8 ⟨rfl, hb⟩
          have HB8 := zaa.mk (zat HB7.out hb)
          clear hb HB7
          go_wp2_with fail
          go_ret
          exact ⟨rfl, HB8.out⟩
        · have hq : (r1 == 0 && (r2 == 0 && (r3 == 0 && (r4 == 0)))) = false := by
            rw [Bool.eq_false_iff]
            intro h
            simp only [Bool.and_eq_true, beq_iff_eq] at h
            exact hz h
          by_cases c6 : O'.length < 6
          · have c7 : (O'.length : Int) < 6 := by omega
            have cs : ¬ s < 300 := fun h => hz (HI.out.2 ⟨c6, h⟩)
            clear HI hz
            go_wp2_with fail
            refine (zbj.calls k AL cL L' AO cO O' s w5 HO.out.1 HO.out.2.2.2.2.1 HO.out.2.1 HO.out.2.2.2.2.2 HSz.out).mono ?_
            rintro e w6 ⟨rfl, hb⟩
            have HW6 := zaa.mk (HW.out.step hb)
            clear hb k0 k1 HW HO HSz
            have q0 := zaj HW6.out.2.2.1 0
            have q1 := zaj HW6.out.2.2.1 1
            go_wp2_with fail
            refine (zel HW6.out k _ _ _ _ _ _ HR.out).mono ?_
            rintro e w7 ⟨rfl, ha, hz⟩
            have HB7 := zaa.mk ha.2.2.2.1
            clear ha hz q0 q1 HW6 HR
            go_wp2_with fail
            refine (zbG.calls true _ rfl).mono ?_
            rintro e w8 ⟨rfl, hb⟩
            have HB8 := zaa.mk (zat HB7.out hb)
            clear hb HB7
            go_wp2_with fail
            go_ret
            have ds : decide (s < 300) = false := decide_eq_false (by omega)
            exact ⟨by first | rfl | (simp only [ds]; rfl), HB8.out⟩
          · have c7 : ¬ (O'.length : Int) < 6 := by omega
            clear HI hz HO k0 k1
            have q0 := zaj HW.out.2.2.1 0
            have q1 := zaj HW.out.2.2.1 1
            go_wp2_with fail
            refine (zel HW.out k _ _ _ _ _ _ HR.out).mono ?_
            rintro e w7 ⟨rfl, ha, hz⟩
            have HB7 := zaa.mk ha.2.2.2.1
            clear ha hz q0 q1 HW HR
            go_wp2_with fail
            refine (zbG.calls true _ rfl).mono ?_
            rintro e w8 ⟨rfl, hb⟩
            have HB8 := zaa.mk (zat HB7.out hb)
            clear hb HB7
            go_wp2_with fail
            go_ret
            exact ⟨rfl, HB8.out⟩
end Go.Proofs.YtbicjgaadknmfaaDoor.P
end
section
namespace Go.Proofs.YtbicjgaadknmfaaDoor.M
set_option linter.unusedVariables false
set_option linter.unusedSimpArgs false
inductive Ex (α : Type) where
  | leaf (a : α)
  | un (a : α) (x : Ex α)
  | bin (a : α) (x y : Ex α)
namespace Ex
variable {α β : Type}
def flat : Ex α → List α
  | leaf a => [a]
  | un a x => x.flat ++ [a]
  | bin a x y => x.flat ++ (y.flat ++ [a])
def root : Ex α → α
  | leaf a => a
  | un a _ => a
  | bin a _ _ => a
def depth : Ex α → Nat
  | leaf _ => 1
  | un _ x => x.depth + 1
  | bin _ x y => max x.depth y.depth + 1
def ok (ar : α → Int) : Ex α → Prop
  | leaf a => ar a = 0
  | un a x => ar a = 1 ∧ x.ok ar
  | bin a x y => ar a = 2 ∧ x.ok ar ∧ y.ok ar
def map (f : α → β) : Ex α → Ex β
  | leaf a => leaf (f a)
  | un a x => un (f a) (x.map f)
  | bin a x y => bin (f a) (x.map f) (y.map f)
theorem zlZ (f : α → β) (e : Ex α) : (e.map f).flat = e.flat.map f := by
  induction e with
  | leaf a => rfl
  | un a x ih => simp [map, flat, ih]
  | bin a x y ih ih2 => simp [map, flat, ih, ih2]
theorem zlM (f : α → β) (e : Ex α) : (e.map f).depth = e.depth := by
  induction e with
  | leaf a => rfl
  | un a x ih => simp [map, depth, ih]
  | bin a x y ih ih2 => simp [map, depth, ih, ih2]
theorem zlX (f : α → β) (e : Ex α) : (e.map f).root = f e.root := by cases e <;> rfl
theorem zme (f : α → β) (ar : α → Int) (ar' : β → Int) (h : ∀ a, ar' (f a) = ar a) (e : Ex α) : (e.map f).ok ar' ↔ e.ok ar := by
  induction e with
  | leaf a => simp [map, ok, h]
  | un a x ih => simp [map, ok, h, ih]
  | bin a x y ih ih2 => simp [map, ok, h, ih, ih2]
theorem zhH (e : Ex α) : 0 < e.flat.length := by cases e <;> simp [flat] <;> omega
theorem zlQ (e : Ex α) : 0 < e.depth := by cases e <;> simp [depth]
theorem zdI (e : Ex α) : e.depth ≤ e.flat.length := by
  induction e with
  | leaf a => simp [depth, flat]
  | un a x ih => simp [depth, flat]; omega
  | bin a x y ih ih2 => simp [depth, flat]; omega
theorem zlW (e : Ex α) : ∃ l, e.flat = l ++ [e.root] := by
  cases e with
  | leaf a => exact ⟨[], rfl⟩
  | un a x => exact ⟨x.flat, rfl⟩
  | bin a x y => exact ⟨x.flat ++ y.flat, by simp [flat, root]⟩
theorem zl9 {ar : α → Int} {e : Ex α} (h : e.ok ar) : 0 ≤ ar e.root ∧ ar e.root ≤ 2 := by
  cases e with
  | leaf a => have : ar a = 0 := h; simp [root]; omega
  | un a x => have := h.1; simp [root]; omega
  | bin a x y => have := h.1; simp [root]; omega
end Ex
section
variable {α : Type} (ar : α → Int)
def zbJ : List α → Int → Int → Int
  | [], o, i => if o = 1 then -1 else i
  | a :: l, o, i => if ar a < 0 ∨ o < ar a then i else zbJ l (o + 1 - ar a) (i + 1)
def zch (l : List α) : Int := zbJ ar l 0 0
def ze8 : List (Ex α) → List α
  | [] => []
  | e :: st => ze8 st ++ e.flat
variable {ar}
theorem zkd (l : List α) : ∀ o i, 0 ≤ i → zbJ ar l o i = -1 ∨ (i ≤ zbJ ar l o i ∧ zbJ ar l o i ≤ i + l.length) := by
  induction l with
  | nil => intro o i hi; unfold zbJ; split <;> simp
  | cons a l ih =>
    intro o i hi
    unfold zbJ
    split
    · right; simp; omega
    · rcases ih (o + 1 - ar a) (i + 1) (by omega) with h | h
      · exact .inl h
      · right; simp; omega
theorem zio (h2 : ∀ a, ar a ≤ 2) (l : List α) : ∀ (st : List (Ex α)) (i : Int), 0 ≤ i → (∀ e ∈ st, e.ok ar) → zbJ ar l (st.length : Int) i = -1 → ∃ e : Ex α, e.ok ar ∧ e.flat = ze8 st ++ l := by
  induction l with
  | nil =>
    intro st i hi hst h
    unfold zbJ at h
    split at h
    · match st, hst with
      | [e], hst => exact ⟨e, hst e (by simp), by simp [ze8]⟩
      | [], _ => simp at *
      | _ :: _ :: _, _ => simp at *; omega
    · omega
  | cons a l ih =>
    intro st i hi hst h
    unfold zbJ at h
    split at h
    · omega
    · rename_i hc
      have hr : 0 ≤ ar a ∧ ar a ≤ (st.length : Int) := by omega
      have h2a := h2 a
      have : ar a = 0 ∨ ar a = 1 ∨ ar a = 2 := by omega
      rcases this with h0 | h0 | h0
      · obtain ⟨e, he, hf⟩ := ih (Ex.leaf a :: st) (i + 1) (by omega) (by
          intro e he
          rcases List.mem_cons.1 he with rfl | he
          · exact h0
          · exact hst e he) (by rw [← h, h0]; simp)
        exact ⟨e, he, by simp [hf, ze8, Ex.flat]⟩
      · match st, hst, hr with
        | x :: st, hst, _ =>
          obtain ⟨e, he, hf⟩ := ih (Ex.un a x :: st) (i + 1) (by omega) (by
            intro e he
            rcases List.mem_cons.1 he with rfl | he
            · exact ⟨h0, hst x (by simp)⟩
            · exact hst e (by simp [he])) (by rw [← h, h0]; congr 1; simp)
          exact ⟨e, he, by simp [hf, ze8, Ex.flat]⟩
        | [], _, hr => simp at hr; omega
      · match st, hst, hr with
        | y :: x :: st, hst, _ =>
          obtain ⟨e, he, hf⟩ := ih (Ex.bin a x y :: st) (i + 1) (by omega) (by
            intro e he
            rcases List.mem_cons.1 he with rfl | he
            · exact ⟨h0, hst x (by simp), hst y (by simp)⟩
            · exact hst e (by simp [he])) (by rw [← h, h0]; congr 1; simp; omega)
          exact ⟨e, he, by simp [hf, ze8, Ex.flat]⟩
        | [_], _, hr => simp at hr; omega
        | [], _, hr => simp at hr; omega
theorem zfa (h2 : ∀ a, ar a ≤ 2) {l : List α} (h : zch ar l < 0) : ∃ e : Ex α, e.ok ar ∧ e.flat = l := by
  have h' : zch ar l = -1 := by
    rcases zkd (ar := ar) l 0 0 (by omega) with h1 | h1
    · exact h1
    · unfold zch at h; omega
  obtain ⟨e, he, hf⟩ := zio h2 l [] 0 (by omega) (by simp) h'
  exact ⟨e, he, by simpa [ze8] using hf⟩
theorem ziJ {e : Ex α} (he : e.ok ar) : ∀ (r : List α) (o i : Int), 0 ≤ o → zbJ ar (e.flat ++ r) o i = zbJ ar r (o + 1) (i + e.flat.length) := by
  induction e with
  | leaf a =>
    intro r o i ho
    have h0 : ar a = 0 := he
    simp only [Ex.flat, List.singleton_append, zbJ, List.length_singleton]
    rw [if_neg (by omega), h0]; simp
  | un a x ih =>
    intro r o i ho
    have h0 := he.1
    simp only [Ex.flat, List.append_assoc, List.singleton_append]
    rw [ih he.2 _ _ _ ho]
    simp only [zbJ]
    rw [if_neg (by omega), h0]
    congr 1
    · omega
    · simp; omega
  | bin a x y ih ih2 =>
    intro r o i ho
    have h0 := he.1
    simp only [Ex.flat, List.append_assoc, List.singleton_append]
    rw [ih he.2.1 _ _ _ ho, ih2 he.2.2 _ _ _ (by omega)]
    simp only [zbJ]
    rw [if_neg (by omega), h0]
    congr 1
    · omega
    · simp; omega
theorem ze9 {e : Ex α} (he : e.ok ar) : zch ar e.flat = -1 := by
  have := ziJ he [] 0 0 (by omega)
  rw [List.append_nil] at this
  unfold zch
  rw [this]
  simp [zbJ]
theorem zhX {e f : Ex α} (he : e.ok ar) (hf : f.ok ar) : ∀ {p q : List α}, p ++ e.flat = q ++ f.flat → e = f ∧ p = q := by
  induction e generalizing f with
  | leaf a =>
    intro p q h
    have h0 : ar a = 0 := he
    cases f with
    | leaf b =>
      have := List.append_inj' h rfl
      simp [Ex.flat] at this
      exact ⟨by rw [this.2], this.1⟩
    | un b x =>
      have h' := h
      simp only [Ex.flat, ← List.append_assoc] at h'
      have := (List.append_inj' h' rfl).2
      simp at this
      have := hf.1
      subst_vars
      omega
    | bin b x y =>
      have h' := h
      simp only [Ex.flat, ← List.append_assoc] at h'
      have := (List.append_inj' h' rfl).2
      simp at this
      have := hf.1
      subst_vars
      omega
  | un a x ih =>
    intro p q h
    have h0 := he.1
    cases f with
    | leaf b =>
      have h' := h
      simp only [Ex.flat, ← List.append_assoc] at h'
      have := (List.append_inj' h' rfl).2
      simp at this
      have : ar b = 0 := hf
      subst_vars
      omega
    | un b z =>
      have h' := h
      simp only [Ex.flat, ← List.append_assoc] at h'
      obtain ⟨h1, h2⟩ := List.append_inj' h' rfl
      simp at h2
      obtain ⟨rfl, rfl⟩ := ih he.2 hf.2 h1
      exact ⟨by rw [h2], rfl⟩
    | bin b z z2 =>
      have h' := h
      simp only [Ex.flat, ← List.append_assoc] at h'
      have := (List.append_inj' h' rfl).2
      simp at this
      have := hf.1
      subst_vars
      omega
  | bin a x y ih ih2 =>
    intro p q h
    have h0 := he.1
    cases f with
    | leaf b =>
      have h' := h
      simp only [Ex.flat, ← List.append_assoc] at h'
      have := (List.append_inj' h' rfl).2
      simp at this
      have : ar b = 0 := hf
      subst_vars
      omega
    | un b z =>
      have h' := h
      simp only [Ex.flat, ← List.append_assoc] at h'
      have := (List.append_inj' h' rfl).2
      simp at this
      have := hf.1
      subst_vars
      omega
    | bin b z z2 =>
      have h' := h
      simp only [Ex.flat, ← List.append_assoc] at h'
      obtain ⟨h1, h2⟩ := List.append_inj' h' rfl
      simp at h2
      obtain ⟨rfl, h3⟩ := ih2 he.2.2 hf.2.2 h1
      obtain ⟨rfl, rfl⟩ := ih he.2.1 hf.2.1 h3
      exact ⟨by rw [h2], rfl⟩
theorem zkb {e f : Ex α} (he : e.ok ar) (hf : f.ok ar) (h : e.flat = f.flat) : e = f := (zhX he hf (p := []) (q := []) (by simpa using h)).1
end
end Go.Proofs.YtbicjgaadknmfaaDoor.M
end
section
namespace Go.Proofs.YtbicjgaadknmfaaDoor.P
open Go.RowKit Go.Proofs.YtbicjgaadknmfaaDoorW.PrintWords Go.Proofs.YtbicjgaadknmfaaDoorW.PrintLast Go.Proofs.YtbicjgaadknmfaaDoorW.PrintMore
attribute [local go_sem] zcu zcp zcl zck zbZ zbX zb9 zb7
set_option linter.unusedVariables false
set_option linter.unusedSimpArgs false
def zaN.l0 : Nat → List Int → Int → Int → Option (Int × List Int)
 | 0, _, _, _ => none
 | k + 1, x0, x3, x4 => if x4 ≥ 0 then (if 0 ≤ x4 then (if x4 < (x0.length : Int) then (zaN.l0 k (x0.set (x4 : Int).toNat ((IntKind.u64.wrap (Int.tdiv (IntKind.u64.wrap ((IntKind.u64.wrap (x3 * 4294967296)) + (IntKind.u64.wrap (rd x0 x4)))) 10)) % 4294967296)) (Int.tmod (IntKind.u64.wrap ((IntKind.u64.wrap (x3 * 4294967296)) + (IntKind.u64.wrap (rd x0 x4)))) 10) (wrap64 (x4 - 1))) else (none)) else (none)) else (some (x3, x0))
def zaN.f (k : Nat) (l0 : List Int) : Option (Int × List Int) := zaN.l0 k l0 0 (wrap64 ((l0.length : Int) - 1))
theorem zaN.zaV : ∀ k, (∀ y0 y1 y2, LeO (zaN.l0 k y0 y1 y2) (zaN.l0 (k + 1) y0 y1 y2))
 | 0 => fun _ _ _ r h => by simp [zaN.l0] at h
 | k + 1 => by
  have ih0 := zaN.zaV k
  ·intro y0 y1 y2
   unfold zaN.l0
   repeat' first
   | (with_reducible exact ih0 _ _ _)
   | (with_reducible exact LeO.refl _)
   | (with_reducible exact LeO.none _)
   | (with_reducible refine LeO.ite ?_ ?_)
   | (with_reducible refine LeO.bind ?_ (fun _ => ?_))
   | exact ih0 _ _ _
   | exact LeO.none _
   | refine LeO.ite ?_ ?_
   | refine LeO.bind ?_ (fun _ => ?_)
theorem zaN.mono : ∀ a0 k, LeO (zaN.f k a0) (zaN.f (k + 1) a0) := by
 intro a0 k
 have ih0 := zaN.zaV k
 unfold zaN.f
 repeat' first
   | (with_reducible exact ih0 _ _ _)
   | (with_reducible exact LeO.refl _)
   | (with_reducible exact LeO.none _)
   | (with_reducible refine LeO.ite ?_ ?_)
   | (with_reducible refine LeO.bind ?_ (fun _ => ?_))
   | exact ih0 _ _ _
   | exact LeO.none _
   | refine LeO.ite ?_ ?_
   | refine LeO.bind ?_ (fun _ => ?_)
set_option maxHeartbeats 8000000 in
set_option maxRecDepth 100000 in
theorem zaN.calls (k : Nat) (P0_ : Nat → Prop) (u9000_ : Value) (l0 : List Int) (r1 : Int) (r2 : List Int) (w0 w : World) (hB : Below w0.heap.size w0 w) (ho0 : Kd.R (Kd.int .u32) 101 w w0.heap.size P0_ u9000_ l0) (h : zaN.f k l0 = some (r1, r2)) :
  Calls Tryd.prog 64 #[u9000_] w fun e w' => e = .returned (.int .u64 r1) ∧ Kd.R (Kd.int .u32) 101 w' w0.heap.size (fun k_ => (P0_ k_ ∨ w.heap.size ≤ k_)) u9000_ r2 ∧ Below w0.heap.size w0 w' ∧ Kept w w' (fun k_ => P0_ k_) := by
 have HO0 := zaa.mk (show Kd.R (Kd.int .u32) 101 w w0.heap.size (fun k_ => (P0_ k_ ∨ w.heap.size ≤ k_)) u9000_ l0 from Kd.zb0 ho0 (fun k_ hk => (.inl hk)))
 have HK := zaa.mk (Kept.refl w (fun k_ => P0_ k_))
 have HW0 := zaa.mk hB.size
 have HB := zaa.mk hB
 clear hB
 have H : (zaN.l0 k l0 0 (wrap64 ((l0.length : Int) - 1))) = some (r1, r2) := h
 clear h
 have H' := zaa.mk H
 clear H
 obtain ⟨Ao2, co2, eo2⟩ := Kd.zbO HO0.out
 subst eo2
 go_enter Tryd.func64, Tryd.ntmps64
 go_wp2
 go_loopg [3, 4] k (fun kq v3 v4 w' => ∃ (x0_1 : List Int) (x3_1 : Int) (x4_1 : Int), v3 = .int .u64 x3_1 ∧ v4 = .int .i64 x4_1 ∧ zaa (zaN.l0 kq x0_1 x3_1 x4_1 = some (r1, r2)) ∧ zaa (kq ≤ k) ∧ zaa (Kd.R (Kd.int .u32) 101 w' w0.heap.size (fun k_ => (P0_ k_ ∨ w.heap.size ≤ k_)) (.slice Ao2 l0.length co2) x0_1) ∧ zaa (Kept w w' (fun k_ => P0_ k_)) ∧ zaa (Below w0.heap.size w0 w'))
 case atStart => exact ⟨(l0), (0), (wrap64 ((l0.length : Int) - 1)), (by first | rfl | (simp; done) | (simp [*]; done)), (by first | rfl | (simp; done) | (simp [*]; done)), H', ⟨Nat.le_refl _⟩, ⟨by (with_reducible repeat (first | apply Kd.zbo | apply Kd.zbl | apply Kd.zbz)); exact HO0.out⟩, ⟨by repeat (first | (with_reducible first | exact HK.out | apply Kept.alloc | apply Kept.drewN | apply Kept.drew) | exact HK.out)⟩, ⟨by repeat (first | (with_reducible first | exact HB.out | apply zac | apply zab | apply zad) | exact HB.out)⟩⟩
 case round =>
  clear H'
  try clear p2
  obtain ⟨x0_1, x3_1, x4_1, rfl, rfl, HA, HK1, HO_0, HK, HB⟩ := hrel
  have hl0_1 := (Kd.zbD HO_0.out).1
  rw [hl0_1] at HO_0
  (try simp only [hl0_1])
  cases gk with
  | zero => exact absurd HA.out (by simp [zaN.l0])
  | succ k1 =>
   have H := HA.out
   clear HA
   simp only [zaN.l0] at H
   by_cases c3 : x4_1 ≥ 0
   ·rw [if_pos c3] at H
    have c3b0 : decide (0 ≤ x4_1) = true := decide_eq_true c3
    clear c3
    by_cases c4 : 0 ≤ x4_1
    ·rw [if_pos c4] at H
     have c4b0 : decide (0 ≤ x4_1) = true := decide_eq_true c4
     clear c4
     by_cases c5 : x4_1 < (x0_1.length : Int)
     ·rw [if_pos c5] at H
      have c5b0 : decide (x4_1 < (x0_1.length : Int)) = true := decide_eq_true c5
      clear c5
      obtain ⟨y151, hy151⟩ : ∃ y_ : List Int, y_ = (x0_1.set (x4_1 : Int).toNat ((IntKind.u64.wrap (Int.tdiv (IntKind.u64.wrap ((IntKind.u64.wrap (x3_1 * 4294967296)) + (IntKind.u64.wrap (rd x0_1 x4_1)))) 10)) % 4294967296)) := ⟨_, rfl⟩
      replace H : (zaN.l0 k1 y151 (Int.tmod (IntKind.u64.wrap ((IntKind.u64.wrap (x3_1 * 4294967296)) + (IntKind.u64.wrap (rd x0_1 x4_1)))) 10) (wrap64 (x4_1 - 1))) = some (r1, r2) := by first | (rw [hy151]; with_reducible exact H) | (have H2_ := (Option.bind_some _ _).symm.trans H; rw [hy151]; with_reducible exact H2_) | (have H2_ := (Option.bind_some _ _).symm.trans H; with_reducible exact H2_) | with_reducible exact H | (rw [hy151]; exact H) | exact H
      have Ny151 := zaa.mk hy151
      clear hy151
      have H' := zaa.mk H
      clear H
      have p150 : 0 ≤ (x4_1 : Int) := of_decide_eq_true (by first | (with_reducible assumption) | assumption)
      have q150 : x4_1 < (x0_1.length : Int) := of_decide_eq_true (by first | (with_reducible assumption) | assumption)
      obtain ⟨ad150, e150, hx150_0⟩ := Kd.zdi (Kd.zbD HO_0.out).2.2 x4_1 p150 q150
      cases e150
      replace p150 := eq_true p150
      replace q150 := eq_true q150
      have p6 : 0 ≤ (x4_1 : Int) := of_decide_eq_true (by first | (with_reducible assumption) | assumption)
      have q6 : (x4_1 : Int) < ((x0_1.length : Int) : Int) := of_decide_eq_true (by first | (with_reducible assumption) | assumption)
      obtain ⟨go6, co6, eo6, gb6, gl6, cl6, HG6⟩ := Kd.zjv HO_0.out (by omega)
      (first | cases eo6 | (injection eo6 with ea_ en_ ec_; (first | subst ea_ | (injection ea_ with ea_; subst ea_)); subst ec_; clear en_))
      have GB6 := zaa.mk gb6
      have GG6 := zaa.mk HG6
      clear gb6 gl6 HG6
      have HMgo6 := zaa.mk (show (P0_ go6 ∨ w.heap.size ≤ go6) from (HO_0.out.1 _ rfl))
      (first | simp only [add_plain] at hx150_0 | skip)
      obtain ⟨hx6_0, hf6_0⟩ := Kd.zgC 0 HO_0.out (x4_1 : Int) p6 q6
      replace p6 := eq_true p6
      replace q6 := eq_true q6
      have HP7 := Kd.zi4 HO_0.out (x4_1 : Int) ((IntKind.u64.wrap (Int.tdiv (IntKind.u64.wrap ((IntKind.u64.wrap (x3_1 * 4294967296)) + (IntKind.u64.wrap (rd x0_1 x4_1)))) 10)) % 4294967296)
      go_wp2_with (first | ((with_reducible refine zge (t := 101) (p := 25) rfl ?_); refine zfT (t := 101) (p := 25) (v := ?vo_w8) (w1 := (wr.setCell ⟨go6, (x4_1 : Int).toNat, none⟩ (.int .u32 ((IntKind.u64.wrap (Int.tdiv (IntKind.u64.wrap ((IntKind.u64.wrap (x3_1 * 4294967296)) + (IntKind.u64.wrap (rd x0_1 x4_1)))) 10)) % 4294967296)))) ?hg ?ho ?hn ?hr ?_; (case ho => rfl); (case hg => rfl); (case hn => rfl); (case hr => first | (go_simp; done) | (go_simp; rfl)); intro w8 hw; have hg : wr.grownBy w8 (some go6) := (by rw [hw]; exact HP7.2); have hp_ : Kd.R (Kd.int .u32) 101 w8 w0.heap.size (fun k_ => (P0_ k_ ∨ w.heap.size ≤ k_)) (.slice (some ⟨go6, 0, none⟩) x0_1.length co2) y151 := (by rw [hw, Ny151.out]; exact HP7.1); clear HP7; have n0_ := zaa.mk (hp_); have n1_ := zaa.mk ((by rw [hw]; exact zah (HB.out) GB6.out : Below w0.heap.size w0 w8)); have n2_ := zaa.mk (Kept.zhN (S := (fun k_ => P0_ k_)) hg (by repeat (first | (with_reducible first | exact HK.out | apply Kept.alloc | apply Kept.drewN | apply Kept.drew) | exact HK.out)) (fun k_ e_ => (HO_0.out.1 k_ e_))); clear HO_0; clear HB; clear HK; have HO_0 := n0_; have HB := n1_; have HK := n2_; clear n0_ n1_ n2_; clear hg hw hp_))
      (try simp only [← hl0_1])
      go_roundg k1
      case measure => have := HK1.out; omega
      case rel => exact ⟨(y151), (Int.tmod (IntKind.u64.wrap ((IntKind.u64.wrap (x3_1 * 4294967296)) + (IntKind.u64.wrap (rd x0_1 x4_1)))) 10), (wrap64 (x4_1 - 1)), (by first | rfl | (simp; done) | (simp [*]; done)), (by first | rfl | (simp; done) | (simp [*]; done)), H', ⟨by have := HK1.out; omega⟩, ⟨by (try simp only [hl0_1]); (with_reducible repeat (first | apply Kd.zbo | apply Kd.zbl | apply Kd.zbz)); exact HO_0.out⟩, ⟨by repeat (first | (with_reducible first | exact HK.out | apply Kept.alloc | apply Kept.drewN | apply Kept.drew) | exact HK.out)⟩, ⟨by repeat (first | (with_reducible first | exact HB.out | apply zac | apply zab | apply zad) | exact HB.out)⟩⟩
     ·rw [if_neg c5] at H
      exact absurd H (by simp)
    ·rw [if_neg c4] at H
     exact absurd H (by simp)
   ·rw [if_neg c3] at H
    have c3b0 : decide (0 ≤ x4_1) = false := decide_eq_false c3
    clear c3
    simp only [Option.some.injEq, Prod.mk.injEq] at H
    obtain ⟨rfl, rfl⟩ := H
    go_wp2
    go_ret
    exact ⟨by first | rfl | (simp [zam, zan] <;> rfl) | (simp [*, zam, zan] <;> rfl), (by first | exact (by (with_reducible repeat (first | apply Kd.zbo | apply Kd.zbl | apply Kd.zbz)); exact HO_0.out) | (simp only [hl0_1]; exact (by (with_reducible repeat (first | apply Kd.zbo | apply Kd.zbl | apply Kd.zbz)); exact HO_0.out))), by repeat (first | (with_reducible first | exact HB.out | apply zac | apply zab | apply zad) | exact HB.out), by repeat (first | (with_reducible first | exact HK.out | apply Kept.alloc | apply Kept.drewN | apply Kept.drew) | exact HK.out)⟩
mutual
def zau.l0 : Nat → List Int → ByteArray → Option (ByteArray)
 | 0, _, _ => none
 | k + 1, x3, x4 => if (x3.length : Int) > 0 then (zau.j1 k x3 x4 true) else (zau.j1 k x3 x4 (x4.toList == ([] : List UInt8)))
def zau.j1 : Nat → List Int → ByteArray → Bool → Option (ByteArray)
 | 0, _, _, _ => none
 | k + 1, x3, x4, x14 => if x14 = true then ((zaN.f k x3).bind fun bt155 => (if 0 ≤ bt155.1 then (if bt155.1 ≤ (IntKind.u64.wrap (bt155.1 + 1)) then (if (IntKind.u64.wrap (bt155.1 + 1)) ≤ 10 then (if ((⟨#[48, 49, 50, 51, 52, 53, 54, 55, 56, 57]⟩ : ByteArray).extract (bt155.1 : Int).toNat ((IntKind.u64.wrap (bt155.1 + 1)) : Int).toNat).size + x4.size ≤ 9223372036854775807 then ((zaB.f k bt155.2).bind fun t157 => (zau.l0 k t157 (((⟨#[48, 49, 50, 51, 52, 53, 54, 55, 56, 57]⟩ : ByteArray).extract (bt155.1 : Int).toNat ((IntKind.u64.wrap (bt155.1 + 1)) : Int).toNat) ++ x4))) else (none)) else (none)) else (none)) else (none))) else (some x4)
end
def zau.f (k : Nat) (l0 : List Int) : Option (ByteArray) := (zaB.f k l0).bind fun t152 => (zau.l0 k t152 (⟨#[]⟩ : ByteArray))
theorem zau.zaV : ∀ k, (∀ y0 y1, LeO (zau.l0 k y0 y1) (zau.l0 (k + 1) y0 y1)) ∧ (∀ y0 y1 y2, LeO (zau.j1 k y0 y1 y2) (zau.j1 (k + 1) y0 y1 y2))
 | 0 => ⟨fun _ _ r h => by simp [zau.l0] at h, fun _ _ _ r h => by simp [zau.j1] at h⟩
 | k + 1 => by
  obtain ⟨ih0, ih1⟩ := zau.zaV k
  refine ⟨?_, ?_⟩
  ·intro y0 y1
   unfold zau.l0
   repeat' first
   | (with_reducible exact ih0 _ _)
   | (with_reducible exact ih1 _ _ _)
   | (with_reducible exact zaB.mono _ _)
   | (with_reducible exact zaN.mono _ _)
   | (with_reducible exact LeO.refl _)
   | (with_reducible exact LeO.none _)
   | (with_reducible refine LeO.ite ?_ ?_)
   | (with_reducible refine LeO.bind ?_ (fun _ => ?_))
   | exact ih0 _ _
   | exact ih1 _ _ _
   | exact zaB.mono _ _
   | exact zaN.mono _ _
   | exact LeO.none _
   | refine LeO.ite ?_ ?_
   | refine LeO.bind ?_ (fun _ => ?_)
  ·intro y0 y1 y2
   unfold zau.j1
   repeat' first
   | (with_reducible exact ih0 _ _)
   | (with_reducible exact ih1 _ _ _)
   | (with_reducible exact zaB.mono _ _)
   | (with_reducible exact zaN.mono _ _)
   | (with_reducible exact LeO.refl _)
   | (with_reducible exact LeO.none _)
   | (with_reducible refine LeO.ite ?_ ?_)
   | (with_reducible refine LeO.bind ?_ (fun _ => ?_))
   | exact ih0 _ _
   | exact ih1 _ _ _
   | exact zaB.mono _ _
   | exact zaN.mono _ _
   | exact LeO.none _
   | refine LeO.ite ?_ ?_
   | refine LeO.bind ?_ (fun _ => ?_)
theorem zau.mono : ∀ a0 k, LeO (zau.f k a0) (zau.f (k + 1) a0) := by
 intro a0 k
 obtain ⟨ih0, ih1⟩ := zau.zaV k
 unfold zau.f
 repeat' first
   | (with_reducible exact ih0 _ _)
   | (with_reducible exact ih1 _ _ _)
   | (with_reducible exact zaB.mono _ _)
   | (with_reducible exact zaN.mono _ _)
   | (with_reducible exact LeO.refl _)
   | (with_reducible exact LeO.none _)
   | (with_reducible refine LeO.ite ?_ ?_)
   | (with_reducible refine LeO.bind ?_ (fun _ => ?_))
   | exact ih0 _ _
   | exact ih1 _ _ _
   | exact zaB.mono _ _
   | exact zaN.mono _ _
   | exact LeO.none _
   | refine LeO.ite ?_ ?_
   | refine LeO.bind ?_ (fun _ => ?_)
set_option maxHeartbeats 8000000 in
set_option maxRecDepth 100000 in
theorem zau.calls (k : Nat) (A0 : Option Addr) (c0 : Nat) (l0 : List Int) (r : ByteArray) (w : World) (hr0 : Kd.C (Kd.int .u32) w A0 l0.length l0) (hc0 : l0.length ≤ c0) (h : zau.f k l0 = some r) :
  Calls Tryd.prog 18 #[.slice A0 l0.length c0] w fun e w' => e = .returned (.string r) ∧ Below w.heap.size w w' := by
 have HR0 := zaa.mk hr0
 have HC0 := zaa.mk hc0
 clear hr0 hc0
 have HB := zaa.mk (Below.refl w.heap.size w)
 have H : ((zaB.f k l0).bind fun t152 => (zau.l0 k t152 (⟨#[]⟩ : ByteArray))) = some r := h
 clear h
 replace H := Option.bind_eq_some_iff.mp H
 obtain ⟨t152, A20, H⟩ := H
 replace H : (zau.l0 k t152 (⟨#[]⟩ : ByteArray)) = some r := H
 have A2 := zaa.mk A20
 clear A20
 have H' := zaa.mk H
 clear H
 go_enter Tryd.func18, Tryd.ntmps18
 go_wp2_with (first | ((with_reducible refine zaI (f := 63) rfl ?_); refine za5 (some 7) rfl rfl Tryd.func63 (by kernel_rfl) rfl #[.slice A0 l0.length c0] rfl (by (try simp only [List.map_toArray, List.map_cons, List.map_nil]); first | done | rfl | (simp only [List.length_drop, List.length_take]; rfl)) ?_; (with_reducible refine (zaB.calls k _ _ l0 t152 _ ?side1 ?side2 A2.out).mono ?_); (case side1 => repeat (first | exact HR0.out | (with_reducible refine Kd.zaU ?_ _) | (with_reducible refine Kd.zaY ?_ _) | (with_reducible refine Kd.za3 ?_))); (case side2 => exact HC0.out); rintro e w3 ⟨v153, rfl, ho0, hb⟩; refine ⟨_, rfl, ?_⟩; have n0_ := zaa.mk (Kd.zcA ho0 (zas (by repeat (first | (with_reducible first | exact HB.out | apply zac | apply zab | apply zad) | exact HB.out)))); have n1_ := zaa.mk (zat (by repeat (first | (with_reducible first | exact HB.out | apply zac | apply zab | apply zad) | exact HB.out)) hb); clear HB; have HO154 := n0_; have HB := n1_; clear n0_ n1_; (try clear hb); (try clear hb2); (try clear hk); (try clear hi); (try clear ho0)))
 go_loopg [3, 4] k (fun kq v3 v4 w' => ∃ (x3_1 : List Int) (x4_1 : ByteArray), v4 = .string x4_1 ∧ zaa (zau.l0 kq x3_1 x4_1 = some r) ∧ zaa (kq ≤ k) ∧ zaa (Kd.R (Kd.int .u32) 101 w' w.heap.size (fun _ => True) v3 x3_1) ∧ zaa (Below w.heap.size w w'))
 case atStart => exact ⟨(t152), ((⟨#[]⟩ : ByteArray)), (by first | rfl | (simp; done) | (simp [*]; done)), H', ⟨Nat.le_refl _⟩, ⟨by (with_reducible repeat (first | apply Kd.zbo | apply Kd.zbl | apply Kd.zbz)); exact HO154.out⟩, ⟨by repeat (first | (with_reducible first | exact HB.out | apply zac | apply zab | apply zad) | exact HB.out)⟩⟩
 case round =>
  clear H'
  try clear c1
  try clear p2
  obtain ⟨x3_1, x4_1, rfl, HA, HK1, HO_3, HB⟩ := hrel
  cases gk with
  | zero => exact absurd HA.out (by simp [zau.l0])
  | succ k1 =>
   have H := HA.out
   clear HA
   simp only [zau.l0] at H
   have HC4 := zaa.mk H
   clear H
   go_upto_region 3 with (fail)
   go_cut [14] (fun v14 wc => ∃ (kq : Nat) (x14_3 : Bool), v14 = .bool x14_3 ∧ zaa (zau.j1 kq x3_1 x4_1 x14_3 = some r) ∧ zaa (kq ≤ k1) ∧ zaa (Kd.R (Kd.int .u32) 101 wc w.heap.size (fun _ => True) u3 x3_1) ∧ zaa (Below w.heap.size w wc))
   case first =>
    have H := HC4.out
    clear HC4
    by_cases c5 : (x3_1.length : Int) > 0
    ·rw [if_pos c5] at H
     have c5b0 : decide (0 < (x3_1.length : Int)) = true := decide_eq_true c5
     have c5b1 : decide (0 < x3_1.length) = true := decide_eq_true (by omega)
     clear c5
     (first | rw [c5b0] | (simp only [zaC, zaD]; rw [c5b0]) | skip)
     have H' := zaa.mk H
     clear H
     obtain ⟨Ao6, co6, eo6⟩ := Kd.zbO HO_3.out
     subst eo6
     go_wp2
     go_meet
     case rel => exact ⟨_, (true), (by first | rfl | (simp; done) | (simp [*]; done)), H', ⟨by have := HK1.out; first | omega | exact Nat.le_refl _⟩, ⟨by (with_reducible repeat (first | apply Kd.zbo | apply Kd.zbl | apply Kd.zbz)); exact HO_3.out⟩, ⟨by repeat (first | (with_reducible first | exact HB.out | apply zac | apply zab | apply zad) | exact HB.out)⟩⟩
    ·rw [if_neg c5] at H
     have c5b0 : decide (0 < (x3_1.length : Int)) = false := decide_eq_false c5
     have c5b1 : decide (0 < x3_1.length) = false := decide_eq_false (by omega)
     clear c5
     (first | rw [c5b0] | (simp only [zaC, zaD]; rw [c5b0]) | skip)
     have H' := zaa.mk H
     clear H
     obtain ⟨Ao7, co7, eo7⟩ := Kd.zbO HO_3.out
     subst eo7
     go_wp2
     go_meet
     case rel => exact ⟨_, ((x4_1.toList == ([] : List UInt8))), (by first | rfl | (simp; done) | (simp [*]; done)), H', ⟨by have := HK1.out; first | omega | exact Nat.le_refl _⟩, ⟨by (with_reducible repeat (first | apply Kd.zbo | apply Kd.zbl | apply Kd.zbz)); exact HO_3.out⟩, ⟨by repeat (first | (with_reducible first | exact HB.out | apply zac | apply zab | apply zad) | exact HB.out)⟩⟩
   case rest =>
    clear HC4
    try clear c1
    try clear p2
    try clear c5
    try clear c5b0
    try clear c5b1
    try clear c6
    try clear p2
    obtain ⟨kq, x14_3, rfl, HA, HJ3, HO_3, HB⟩ := hcut
    cases kq with
    | zero => exact absurd HA.out (by simp [zau.j1])
    | succ kj3 =>
     have H := HA.out
     clear HA
     simp only [zau.j1] at H
     by_cases c8 : x14_3 = true
     ·subst c8
      have H1 : ((zaN.f kj3 x3_1).bind fun bt155 => (if 0 ≤ bt155.1 then (if bt155.1 ≤ (IntKind.u64.wrap (bt155.1 + 1)) then (if (IntKind.u64.wrap (bt155.1 + 1)) ≤ 10 then (if ((⟨#[48, 49, 50, 51, 52, 53, 54, 55, 56, 57]⟩ : ByteArray).extract (bt155.1 : Int).toNat ((IntKind.u64.wrap (bt155.1 + 1)) : Int).toNat).size + x4_1.size ≤ 9223372036854775807 then ((zaB.f kj3 bt155.2).bind fun t157 => (zau.l0 kj3 t157 (((⟨#[48, 49, 50, 51, 52, 53, 54, 55, 56, 57]⟩ : ByteArray).extract (bt155.1 : Int).toNat ((IntKind.u64.wrap (bt155.1 + 1)) : Int).toNat) ++ x4_1))) else (none)) else (none)) else (none)) else (none))) = some r := by rw [if_pos rfl] at H; exact H
      clear H
      have H := H1
      clear H1
      replace H := Option.bind_eq_some_iff.mp H
      obtain ⟨⟨t155, t156⟩, A90, H⟩ := H
      replace H : (if 0 ≤ t155 then (if t155 ≤ (IntKind.u64.wrap (t155 + 1)) then (if (IntKind.u64.wrap (t155 + 1)) ≤ 10 then (if ((⟨#[48, 49, 50, 51, 52, 53, 54, 55, 56, 57]⟩ : ByteArray).extract (t155 : Int).toNat ((IntKind.u64.wrap (t155 + 1)) : Int).toNat).size + x4_1.size ≤ 9223372036854775807 then ((zaB.f kj3 t156).bind fun t157 => (zau.l0 kj3 t157 (((⟨#[48, 49, 50, 51, 52, 53, 54, 55, 56, 57]⟩ : ByteArray).extract (t155 : Int).toNat ((IntKind.u64.wrap (t155 + 1)) : Int).toNat) ++ x4_1))) else (none)) else (none)) else (none)) else (none)) = some r := H
      have A9 := zaa.mk A90
      clear A90
      by_cases c10 : 0 ≤ t155
      ·rw [if_pos c10] at H
       have c10b0 := eq_true c10
       have c10b1 : decide (0 ≤ t155) = true := decide_eq_true c10
       clear c10
       by_cases c11 : t155 ≤ (IntKind.u64.wrap (t155 + 1))
       ·rw [if_pos c11] at H
        have c11b0 := eq_true c11
        have c11b1 : decide (t155 ≤ (IntKind.u64.wrap (t155 + 1))) = true := decide_eq_true c11
        by_cases c12 : (IntKind.u64.wrap (t155 + 1)) ≤ 10
        ·rw [if_pos c12] at H
         have c12b0 := eq_true c12
         have c12b1 : decide ((IntKind.u64.wrap (t155 + 1)) ≤ 10) = true := decide_eq_true c12
         by_cases c13 : ((⟨#[48, 49, 50, 51, 52, 53, 54, 55, 56, 57]⟩ : ByteArray).extract (t155 : Int).toNat ((IntKind.u64.wrap (t155 + 1)) : Int).toNat).size + x4_1.size ≤ 9223372036854775807
         ·rw [if_pos c13] at H
          have c13b0 := eq_true c13
          have c13b1 : decide (((⟨#[48, 49, 50, 51, 52, 53, 54, 55, 56, 57]⟩ : ByteArray).extract (t155 : Int).toNat ((IntKind.u64.wrap (t155 + 1)) : Int).toNat).size + x4_1.size ≤ 9223372036854775807) = true := decide_eq_true c13
          try have c13b2 : (9223372036854775807 < ((⟨#[48, 49, 50, 51, 52, 53, 54, 55, 56, 57]⟩ : ByteArray).extract (t155 : Int).toNat ((IntKind.u64.wrap (t155 + 1)) : Int).toNat).size + x4_1.size) = False := eq_false (Nat.not_lt.2 c13)
          replace H := Option.bind_eq_some_iff.mp H
          obtain ⟨t157, A140, H⟩ := H
          replace H : (zau.l0 kj3 t157 (((⟨#[48, 49, 50, 51, 52, 53, 54, 55, 56, 57]⟩ : ByteArray).extract (t155 : Int).toNat ((IntKind.u64.wrap (t155 + 1)) : Int).toNat) ++ x4_1)) = some r := H
          have A14 := zaa.mk A140
          clear A140
          have H' := zaa.mk H
          clear H
          obtain ⟨Ao15, co15, eo15⟩ := Kd.zbO HO_3.out
          subst eo15
          go_wp2_with (first | ((with_reducible refine zaI (f := 64) rfl ?_); refine za5 (some 16) rfl rfl Tryd.func64 (by kernel_rfl) rfl #[.slice Ao15 x3_1.length co15] rfl (by (try simp only [List.map_toArray, List.map_cons, List.map_nil]); first | done | rfl | (simp only [List.length_drop, List.length_take]; rfl)) ?_; (with_reducible refine (zaN.calls kj3 (fun k_ => some k_ = (.slice Ao15 x3_1.length co15 : Value).ownBlock) (.slice Ao15 x3_1.length co15) x3_1 t155 t156 w _ ?side1 ?side2 A9.out).mono ?_); (case side1 => repeat (first | (with_reducible first | exact HB.out | apply zac | apply zab | apply zad) | exact HB.out)); (case side2 => exact Kd.zfJ rfl HO_3.out); rintro e w16 ⟨rfl, hy0, hb, hkp⟩; refine ⟨_, rfl, ?_⟩; have n0_ := zaa.mk (Kd.zls rfl hy0 (fun k_ e_ => HO_3.out.1 k_ e_)); have n1_ := zaa.mk (hb); clear HO_3; clear HB; have HO_3 := n0_; have HB := n1_; clear n0_ n1_; (try clear hb); (try clear hkp); (try clear hy0)) | ((with_reducible refine zaI (f := 63) rfl ?_); refine za5 (some 24) rfl rfl Tryd.func63 (by kernel_rfl) rfl #[.slice Ao15 t156.length co15] rfl (by (try simp only [List.map_toArray, List.map_cons, List.map_nil]); first | done | (rw [show t156.length = x3_1.length from (Kd.zbD HO_3.out).1.symm] <;> rfl) | rfl | (simp only [List.length_drop, List.length_take]; rfl)) ?_; (with_reducible refine (zaB.calls kj3 _ _ t156 t157 _ ?side1 ?side2 A14.out).mono ?_); (case side1 => repeat (first | exact (Kd.zbD HO_3.out).2.2 | (with_reducible refine Kd.zaU ?_ _) | (with_reducible refine Kd.zaY ?_ _) | (with_reducible refine Kd.za3 ?_))); (case side2 => rw [show t156.length = x3_1.length from (Kd.zbD HO_3.out).1.symm]; exact (Kd.zbD HO_3.out).2.1); rintro e w17 ⟨v158, rfl, ho0, hb⟩; refine ⟨_, rfl, ?_⟩; have n0_ := zaa.mk (Kd.zeN (by (with_reducible repeat (first | apply Kd.zbo | apply Kd.zbl | apply Kd.zbz)); exact HO_3.out) (Kd.zgu ho0) hb); have n1_ := zaa.mk (Kd.zcA (Kd.ziV ho0 (Kd.R_lt (by (with_reducible repeat (first | apply Kd.zbo | apply Kd.zbl | apply Kd.zbz)); exact HO_3.out))) (zas (by repeat (first | (with_reducible first | exact HB.out | apply zac | apply zab | apply zad) | exact HB.out)))); have n2_ := zaa.mk (zat (by repeat (first | (with_reducible first | exact HB.out | apply zac | apply zab | apply zad) | exact HB.out)) hb); clear HO_3; clear HB; have HO_3 := n0_; have HO159 := n1_; have HB := n2_; clear n0_ n1_ n2_; (try clear hb); (try clear hb2); (try clear hk); (try clear hi); (try clear ho0)))
          go_roundg kj3
          case measure => have := HK1.out; have := HJ3.out; omega
          case rel => exact ⟨(t157), (((⟨#[48, 49, 50, 51, 52, 53, 54, 55, 56, 57]⟩ : ByteArray).extract (t155 : Int).toNat ((IntKind.u64.wrap (t155 + 1)) : Int).toNat) ++ x4_1), (by first | rfl | (simp; done) | (simp [*]; done)), H', ⟨by have := HK1.out; have := HJ3.out; omega⟩, ⟨by (with_reducible repeat (first | apply Kd.zbo | apply Kd.zbl | apply Kd.zbz)); exact Kd.zb0 HO159.out (fun _ hk => trivial)⟩, ⟨by repeat (first | (with_reducible first | exact HB.out | apply zac | apply zab | apply zad) | exact HB.out)⟩⟩
         ·rw [if_neg c13] at H
          exact absurd H (by simp)
        ·rw [if_neg c12] at H
         exact absurd H (by simp)
       ·rw [if_neg c11] at H
        exact absurd H (by simp)
      ·rw [if_neg c10] at H
       exact absurd H (by simp)
     ·replace c8 := Bool.eq_false_iff.mpr c8
      subst c8
      have H1 : (some x4_1) = some r := by rw [if_neg (show ¬ (false = true) by decide)] at H; exact H
      clear H
      have H := H1
      clear H1
      obtain rfl := Option.some.inj H
      go_wp2
      go_ret
      exact ⟨by first | rfl | (simp [zam, zan] <;> rfl) | (simp [*, zam, zan] <;> rfl), by repeat (first | (with_reducible first | exact HB.out | apply zac | apply zab | apply zad) | exact HB.out)⟩
end Go.Proofs.YtbicjgaadknmfaaDoor.P
end
