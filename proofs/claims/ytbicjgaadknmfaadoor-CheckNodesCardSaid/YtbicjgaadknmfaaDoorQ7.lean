import Derived.Test.YtbicjgaadknmfaaDoorQ1
import Derived.Test.YtbicjgaadknmfaaDoorQ6
import Derived.Test.YtbicjgaadknmfaaDoorQ4
import Derived.Test.YtbicjgaadknmfaaDoorQ5
section
namespace Go.Proofs.YtbicjgaadknmfaaDoor.P
open Go.RowKit Go.Proofs.YtbicjgaadknmfaaDoorW.PrintWords Go.Proofs.YtbicjgaadknmfaaDoorW.PrintLast Go.Proofs.YtbicjgaadknmfaaDoorW.PrintMore
attribute [local go_sem] zck zcl zca zcc zbQ zbP zb0 zb1
set_option linter.unusedVariables false
set_option linter.unusedSimpArgs false
attribute [local go_sem high] zj1
mutual
def zaO.l0 : Nat → Int → Int → List (S127) → Int → Int → List (S127) → List (List (S60)) → Option (Int × Int × Int × Int)
 | 0, _, _, _, _, _, _, _ => none
 | k + 1, x1, x2, x20, x21, x22, x276000, x276001 => if x22 < x21 then (if 0 ≤ x22 then (if x22 < (x20.length : Int) then ((zbD.f ((zaQ x20 x22).f0)).bind fun t280 => (if t280 = true then ((zba.f k x276000 x22).bind fun t281 => (zaO.j1 k x1 x2 x22 x20 x21 x22 t281 x276000 x276001 ((zaQ x20 x22).f0) ((zaQ x20 x22).f1))) else (zaO.j1 k x1 x2 x22 x20 x21 x22 true x276000 x276001 ((zaQ x20 x22).f0) ((zaQ x20 x22).f1)))) else (none)) else (none)) else (zaO.l1 k x1 x2 x276001 (x276001.length : Int) 0 x276000 x276001)
def zaO.j1 : Nat → Int → Int → Int → List (S127) → Int → Int → Bool → List (S127) → List (List (S60)) → ByteArray → List (S60) → Option (Int × Int × Int × Int)
 | 0, _, _, _, _, _, _, _, _, _, _, _ => none
 | k + 1, x1, x2, x7, x20, x21, x22, x36, x276000, x276001, x280000, x280001 => if x36 = true then (some (2, wrap64 (x7 + 1), 1, 0)) else ((za3.f k x280001 (wrap64 (x7 + 1)) x1 x2 x7).bind fun bt282 => (if (!(bt282.1 == 0) || (!(bt282.2.1 == 0) || (!(bt282.2.2.1 == 0) || (!(bt282.2.2.2 == 0))))) = true then (some (bt282.1, bt282.2.1, bt282.2.2.1, bt282.2.2.2)) else (zaO.l0 k x1 x2 x20 x21 (wrap64 (x22 + 1)) x276000 x276001)))
def zaO.l1 : Nat → Int → Int → List (List (S60)) → Int → Int → List (S127) → List (List (S60)) → Option (Int × Int × Int × Int)
 | 0, _, _, _, _, _, _, _ => none
 | k + 1, x1, x2, x54, x55, x56, x276000, x276001 => if x56 < x55 then (if 0 ≤ x56 then (if x56 < (x54.length : Int) then ((za3.f k (zcv x54 x56) (wrap64 ((wrap64 ((x276000.length : Int) + x56)) + 1)) x1 x2 (x276000.length : Int)).bind fun bt288 => (if (!(bt288.1 == 0) || (!(bt288.2.1 == 0) || (!(bt288.2.2.1 == 0) || (!(bt288.2.2.2 == 0))))) = true then (some (bt288.1, bt288.2.1, bt288.2.2.1, bt288.2.2.2)) else (zaO.l1 k x1 x2 x54 x55 (wrap64 (x56 + 1)) x276000 x276001))) else (none)) else (none)) else (some (0, 0, 0, 0))
end
def zaO.f (k : Nat) (l0_0 : List (S127)) (l0_1 : List (List (S60))) (a1 : Int) (a2 : Int) : Option (Int × Int × Int × Int) := (zbu.f k l0_0 l0_1 a1 a2).bind fun t277 => (if t277 = true then (zaO.l0 k a1 a2 l0_0 (l0_0.length : Int) 0 l0_0 l0_1) else (some (2, 0, 0, 0)))
theorem zaO.zaR : ∀ k, (∀ y0 y1 y2 y3 y4 y5 y6, LeO (zaO.l0 k y0 y1 y2 y3 y4 y5 y6) (zaO.l0 (k + 1) y0 y1 y2 y3 y4 y5 y6)) ∧ (∀ y0 y1 y2 y3 y4 y5 y6 y7 y8 y9 y10, LeO (zaO.j1 k y0 y1 y2 y3 y4 y5 y6 y7 y8 y9 y10) (zaO.j1 (k + 1) y0 y1 y2 y3 y4 y5 y6 y7 y8 y9 y10)) ∧ (∀ y0 y1 y2 y3 y4 y5 y6, LeO (zaO.l1 k y0 y1 y2 y3 y4 y5 y6) (zaO.l1 (k + 1) y0 y1 y2 y3 y4 y5 y6))
 | 0 => ⟨fun _ _ _ _ _ _ _ r h => by simp [zaO.l0] at h, fun _ _ _ _ _ _ _ _ _ _ _ r h => by simp [zaO.j1] at h, fun _ _ _ _ _ _ _ r h => by simp [zaO.l1] at h⟩
 | k + 1 => by
  obtain ⟨ih0, ih1, ih2⟩ := zaO.zaR k
  refine ⟨?_, ?_, ?_⟩
  ·intro y0 y1 y2 y3 y4 y5 y6
   unfold zaO.l0
   repeat' first
   | (with_reducible exact ih0 _ _ _ _ _ _ _)
   | (with_reducible exact ih1 _ _ _ _ _ _ _ _ _ _ _)
   | (with_reducible exact ih2 _ _ _ _ _ _ _)
   | (with_reducible exact za3.mono _ _ _ _ _ _)
   | (with_reducible exact zba.mono _ _ _)
   | (with_reducible exact zbu.mono _ _ _ _ _)
   | (with_reducible exact LeO.refl _)
   | (with_reducible exact LeO.none _)
   | (with_reducible refine LeO.ite ?_ ?_)
   | (with_reducible refine LeO.bind ?_ (fun _ => ?_))
   | exact ih0 _ _ _ _ _ _ _
   | exact ih1 _ _ _ _ _ _ _ _ _ _ _
   | exact ih2 _ _ _ _ _ _ _
   | exact za3.mono _ _ _ _ _ _
   | exact zba.mono _ _ _
   | exact zbu.mono _ _ _ _ _
   | exact LeO.none _
   | refine LeO.ite ?_ ?_
   | refine LeO.bind ?_ (fun _ => ?_)
  ·intro y0 y1 y2 y3 y4 y5 y6 y7 y8 y9 y10
   unfold zaO.j1
   repeat' first
   | (with_reducible exact ih0 _ _ _ _ _ _ _)
   | (with_reducible exact ih1 _ _ _ _ _ _ _ _ _ _ _)
   | (with_reducible exact ih2 _ _ _ _ _ _ _)
   | (with_reducible exact za3.mono _ _ _ _ _ _)
   | (with_reducible exact zba.mono _ _ _)
   | (with_reducible exact zbu.mono _ _ _ _ _)
   | (with_reducible exact LeO.refl _)
   | (with_reducible exact LeO.none _)
   | (with_reducible refine LeO.ite ?_ ?_)
   | (with_reducible refine LeO.bind ?_ (fun _ => ?_))
   | exact ih0 _ _ _ _ _ _ _
   | exact ih1 _ _ _ _ _ _ _ _ _ _ _
   | exact ih2 _ _ _ _ _ _ _
   | exact za3.mono _ _ _ _ _ _
   | exact zba.mono _ _ _
   | exact zbu.mono _ _ _ _ _
   | exact LeO.none _
   | refine LeO.ite ?_ ?_
   | refine LeO.bind ?_ (fun _ => ?_)
  ·intro y0 y1 y2 y3 y4 y5 y6
   unfold zaO.l1
   repeat' first
   | (with_reducible exact ih0 _ _ _ _ _ _ _)
   | (with_reducible exact ih1 _ _ _ _ _ _ _ _ _ _ _)
   | (with_reducible exact ih2 _ _ _ _ _ _ _)
   | (with_reducible exact za3.mono _ _ _ _ _ _)
   | (with_reducible exact zba.mono _ _ _)
   | (with_reducible exact zbu.mono _ _ _ _ _)
   | (with_reducible exact LeO.refl _)
   | (with_reducible exact LeO.none _)
   | (with_reducible refine LeO.ite ?_ ?_)
   | (with_reducible refine LeO.bind ?_ (fun _ => ?_))
   | exact ih0 _ _ _ _ _ _ _
   | exact ih1 _ _ _ _ _ _ _ _ _ _ _
   | exact ih2 _ _ _ _ _ _ _
   | exact za3.mono _ _ _ _ _ _
   | exact zba.mono _ _ _
   | exact zbu.mono _ _ _ _ _
   | exact LeO.none _
   | refine LeO.ite ?_ ?_
   | refine LeO.bind ?_ (fun _ => ?_)
theorem zaO.mono : ∀ a0 a1 a2 a3 k, LeO (zaO.f k a0 a1 a2 a3) (zaO.f (k + 1) a0 a1 a2 a3) := by
 intro a0 a1 a2 a3 k
 obtain ⟨ih0, ih1, ih2⟩ := zaO.zaR k
 unfold zaO.f
 repeat' first
   | (with_reducible exact ih0 _ _ _ _ _ _ _)
   | (with_reducible exact ih1 _ _ _ _ _ _ _ _ _ _ _)
   | (with_reducible exact ih2 _ _ _ _ _ _ _)
   | (with_reducible exact za3.mono _ _ _ _ _ _)
   | (with_reducible exact zba.mono _ _ _)
   | (with_reducible exact zbu.mono _ _ _ _ _)
   | (with_reducible exact LeO.refl _)
   | (with_reducible exact LeO.none _)
   | (with_reducible refine LeO.ite ?_ ?_)
   | (with_reducible refine LeO.bind ?_ (fun _ => ?_))
   | exact ih0 _ _ _ _ _ _ _
   | exact ih1 _ _ _ _ _ _ _ _ _ _ _
   | exact ih2 _ _ _ _ _ _ _
   | exact za3.mono _ _ _ _ _ _
   | exact zba.mono _ _ _
   | exact zbu.mono _ _ _ _ _
   | exact LeO.none _
   | refine LeO.ite ?_ ?_
   | refine LeO.bind ?_ (fun _ => ?_)
set_option maxHeartbeats 8000000 in
set_option maxRecDepth 100000 in
theorem zaO.calls (k : Nat) (A0_0 : Option Addr) (c0_0 : Nat) (l0_0 : List (S127)) (A0_1 : Option Addr) (c0_1 : Nat) (l0_1 : List (List (S60))) (a1 : Int) (a2 : Int) (r1 : Int) (r2 : Int) (r3 : Int) (r4 : Int) (w : World) (hr0_0 : Kd.C k127 w A0_0 l0_0.length l0_0) (hc0_0 : l0_0.length ≤ c0_0) (hr0_1 : Kd.C (Kd.slice 60 k60) w A0_1 l0_1.length l0_1) (hc0_1 : l0_1.length ≤ c0_1) (h : zaO.f k l0_0 l0_1 a1 a2 = some (r1, r2, r3, r4)) :
  Calls Tryd.prog 26 #[.agg #[.slice A0_0 l0_0.length c0_0, .slice A0_1 l0_1.length c0_1], .int .i64 a1, .int .i64 a2] w fun e w' => e = .returned (.agg #[.int .i64 r1, .int .i64 r2, .int .i64 r3, .int .i64 r4]) ∧ Below w.heap.size w w' := by
 have hu50 := Tryd.underlying50
 have hu25 := Tryd.underlying25
 have hu127 := Tryd.underlying127
 have HR0_0 := zaa.mk hr0_0
 have HC0_0 := zaa.mk hc0_0
 clear hr0_0 hc0_0
 have HR0_1 := zaa.mk hr0_1
 have HC0_1 := zaa.mk hc0_1
 clear hr0_1 hc0_1
 have HB := zaa.mk (Below.refl w.heap.size w)
 have H : ((zbu.f k l0_0 l0_1 a1 a2).bind fun t277 => (if t277 = true then (zaO.l0 k a1 a2 l0_0 (l0_0.length : Int) 0 l0_0 l0_1) else (some (2, 0, 0, 0)))) = some (r1, r2, r3, r4) := h
 clear h
 replace H := Option.bind_eq_some_iff.mp H
 obtain ⟨t277, A40, H⟩ := H
 replace H : (if t277 = true then (zaO.l0 k a1 a2 l0_0 (l0_0.length : Int) 0 l0_0 l0_1) else (some (2, 0, 0, 0))) = some (r1, r2, r3, r4) := H
 have A4 := zaa.mk A40
 clear A40
 by_cases c5 : t277 = true
 ·subst c5
  have H1 : (zaO.l0 k a1 a2 l0_0 (l0_0.length : Int) 0 l0_0 l0_1) = some (r1, r2, r3, r4) := by rw [if_pos rfl] at H; exact H
  clear H
  have H := H1
  clear H1
  have H' := zaa.mk H
  clear H
  go_enter Tryd.func26, Tryd.ntmps26
  go_wp2_with (first | ((with_reducible refine zbc (N := 3) rfl ?_); refine zbb ?hg (N := 3) ?hd (cs := #[.slice A0_0 l0_0.length c0_0, .slice A0_1 l0_1.length c0_1]) (t := 50) ?hr ?_; (case hd => rfl); (case hg => rfl); (case hr => first | (go_simp; done) | (go_simp; rfl)); intro gb275 hg w6 hbox hb; have n0_ := zaa.mk (zax (by repeat (first | (with_reducible first | exact HB.out | apply zac | apply zab | apply zad) | exact HB.out)) hb); have n1_ := zaa.mk (hbox); have n2_ := zaa.mk ((by rw [hg]; exact (zay (by repeat (first | (with_reducible first | exact HB.out | apply zac | apply zab | apply zad) | exact HB.out))) : w.heap.size ≤ gb275)); have n3_ := zaa.mk ((by rw [hg]; exact (zay (by repeat (first | (with_reducible first | exact HB.out | apply zac | apply zab | apply zad) | exact HB.out))) : w.heap.size ≤ gb275)); clear HB; have HB := n0_; have BK275 := n1_; have GW275 := n2_; have GE275 := n3_; clear n0_ n1_ n2_ n3_; clear hb hbox hg) | ((with_reducible refine zbc (N := 6) rfl ?_); refine zbb ?hg (N := 6) ?hd (cs := #[.int .i64 0, .int .i64 0, .int .i64 0, .int .i64 0]) (t := 25) ?hr ?_; (case hd => rfl); (case hg => rfl); (case hr => first | (go_simp; done) | (go_simp; rfl)); intro gb276 hg w7 hbox hb; have n0_ := zaa.mk (zaP (g := gb275) (o := .cells #[.slice A0_0 l0_0.length c0_0, .slice A0_1 l0_1.length c0_1] 50 (0, 0)) (by (with_reducible repeat (first | refine zah ?_ _ | refine zak ?_ | refine zaf ?_ _)); exact BK275.out) hb); have n1_ := zaa.mk (zax (by repeat (first | (with_reducible first | exact HB.out | apply zac | apply zab | apply zad | refine zai ?_ GE275.out) | exact HB.out)) hb); have n2_ := zaa.mk (hbox); have n3_ := zaa.mk ((by rw [hg]; exact (zay (by repeat (first | (with_reducible first | exact HB.out | apply zac | apply zab | apply zad | refine zai ?_ GE275.out) | exact HB.out))) : w.heap.size ≤ gb276)); have n4_ := zaa.mk ((by rw [hg]; exact (zay (by repeat (first | (with_reducible first | exact HB.out | apply zac | apply zab | apply zad | refine zai ?_ GE275.out) | exact HB.out))) : w.heap.size ≤ gb276)); have n5_ := zaa.mk ((by rw [hg]; exact Nat.ne_of_lt (zbt (g := gb275) (o := .cells #[.slice A0_0 l0_0.length c0_0, .slice A0_1 l0_1.length c0_1] 50 (0, 0)) (by (with_reducible repeat (first | refine zah ?_ _ | refine zak ?_ | refine zaf ?_ _)); exact BK275.out)) : gb275 ≠ gb276)); have n6_ := zaa.mk ((by rw [hg]; exact Nat.ne_of_gt (zbt (g := gb275) (o := .cells #[.slice A0_0 l0_0.length c0_0, .slice A0_1 l0_1.length c0_1] 50 (0, 0)) (by (with_reducible repeat (first | refine zah ?_ _ | refine zak ?_ | refine zaf ?_ _)); exact BK275.out)) : gb276 ≠ gb275)); clear BK275; clear HB; have BK275 := n0_; have HB := n1_; have BK276 := n2_; have GW276 := n3_; have GE276 := n4_; have NB275_276 := n5_; have NB276_275 := n6_; clear n0_ n1_ n2_ n3_ n4_ n5_ n6_; clear hb hbox hg; have hnb8 := NB275_276.out; have hnc8 := NB276_275.out; have hcz9_0 : w7.cell? ⟨gb275, 0, none⟩ = some (.slice A0_0 l0_0.length c0_0) := (zae BK275.out 0).trans rfl; have hcz9_1 : w7.cell? ⟨gb275, 1, none⟩ = some (.slice A0_1 l0_1.length c0_1) := (zae BK275.out 1).trans rfl; have hfz9_0 := zaj BK275.out 0; have hfz9_1 := zaj BK275.out 1) | ((with_reducible refine zaG (f := 75) rfl ?_); refine za2 (some 16) rfl rfl Tryd.func75 (by kernel_rfl) rfl #[.agg #[.slice A0_0 l0_0.length c0_0, .slice A0_1 l0_1.length c0_1], .int .i64 a1, .int .i64 a2] rfl (by (try simp only [List.map_toArray, List.map_cons, List.map_nil]); first | done | rfl | (simp only [List.length_drop, List.length_take]; rfl)) ?_; (with_reducible refine (zbu.calls k _ _ l0_0 _ _ l0_1 a1 a2 true _ ?side1 ?side2 ?side3 ?side4 A4.out).mono ?_); (case side1 => repeat (first | exact (Kd.za7 HR0_0.out HB.out) | (with_reducible refine Kd.zaT ?_ _) | (with_reducible refine Kd.zaU ?_ _) | (with_reducible refine Kd.za0 ?_))); (case side2 => exact HC0_0.out); (case side3 => repeat (first | exact (Kd.za7 HR0_1.out HB.out) | (with_reducible refine Kd.zaT ?_ _) | (with_reducible refine Kd.zaU ?_ _) | (with_reducible refine Kd.za0 ?_))); (case side4 => exact HC0_1.out); rintro e w10 ⟨rfl, hb⟩; refine ⟨_, rfl, ?_⟩; have n0_ := zaa.mk (zaP (g := gb275) (o := .cells #[.slice A0_0 l0_0.length c0_0, .slice A0_1 l0_1.length c0_1] 50 (0, 0)) (by (with_reducible repeat (first | refine zah ?_ _ | refine zak ?_ | refine zaf ?_ _)); exact BK275.out) hb); have n1_ := zaa.mk (zaP (g := gb276) (o := .cells #[.int .i64 0, .int .i64 0, .int .i64 0, .int .i64 0] 25 (0, 0)) (by (with_reducible repeat (first | refine zah ?_ _ | refine zak ?_ | refine zaf ?_ _)); exact BK276.out) hb); have n2_ := zaa.mk (zax (by repeat (first | (with_reducible first | exact HB.out | apply zac | apply zab | apply zad | refine zai ?_ GE275.out | refine zai ?_ GE276.out) | exact HB.out)) hb); clear BK275; clear BK276; clear HB; have BK275 := n0_; have BK276 := n1_; have HB := n2_; clear n0_ n1_ n2_; (try clear hb); (try clear hb2); (try clear hk); (try clear hi); have hcz11_0 : w10.cell? ⟨gb275, 0, none⟩ = some (.slice A0_0 l0_0.length c0_0) := (zae BK275.out 0).trans rfl; have hcz11_1 : w10.cell? ⟨gb275, 1, none⟩ = some (.slice A0_1 l0_1.length c0_1) := (zae BK275.out 1).trans rfl; have hfz11_0 := zaj BK275.out 0; have hfz11_1 := zaj BK275.out 1))
  go_loopg [22] k (fun kq v22 w' => ∃ (x22_1 : Int) (x277000_1 : Int) (x277001_1 : Int) (x277002_1 : Int) (x277003_1 : Int), v22 = .int .i64 x22_1 ∧ zaa (zaO.l0 kq a1 a2 l0_0 (l0_0.length : Int) x22_1 l0_0 l0_1 = some (r1, r2, r3, r4)) ∧ zaa (kq ≤ k) ∧ zaa (w'.heap[gb275]? = some (.cells #[(.slice A0_0 l0_0.length c0_0), (.slice A0_1 l0_1.length c0_1)] 50 (0, 0))) ∧ zaa (w'.heap[gb276]? = some (.cells #[.int .i64 x277000_1, .int .i64 x277001_1, .int .i64 x277002_1, .int .i64 x277003_1] 25 (0, 0))) ∧ zaa (Below w.heap.size w w'))
  case atStart => exact ⟨(0), (0), (0), (0), (0), (by first | rfl | (simp; done) | (simp [*]; done)), H', ⟨Nat.le_refl _⟩, ⟨by (with_reducible repeat (first | refine zah ?_ _ | refine zak ?_ | refine zaf ?_ _)); exact BK275.out⟩, ⟨by (with_reducible repeat (first | refine zah ?_ _ | refine zak ?_ | refine zaf ?_ _)); exact BK276.out⟩, ⟨by repeat (first | (with_reducible first | exact HB.out | apply zac | apply zab | apply zad | refine zai ?_ GE275.out | refine zai ?_ GE276.out) | exact HB.out)⟩⟩
  case round =>
   clear H'
   try clear c2
   try clear p2
   try clear c5
   try clear c7
   try clear c8
   try clear hcz11_0
   try clear hcz11_1
   try clear hcz9_0
   try clear hcz9_1
   try clear hfz11_0
   try clear hfz11_1
   try clear hfz9_0
   try clear hfz9_1
   obtain ⟨x22_1, x277000_1, x277001_1, x277002_1, x277003_1, rfl, HA, HK1, BK275, BK276, HB⟩ := hrel
   cases gk with
   | zero => exact absurd HA.out (by simp [zaO.l0])
   | succ k1 =>
    have H := HA.out
    clear HA
    simp only [zaO.l0] at H
    by_cases c12 : x22_1 < (l0_0.length : Int)
    ·rw [if_pos c12] at H
     have c12b0 : decide (x22_1 < (l0_0.length : Int)) = true := decide_eq_true c12
     clear c12
     by_cases c13 : 0 ≤ x22_1
     ·rw [if_pos c13] at H
      have c13b0 : decide (0 ≤ x22_1) = true := decide_eq_true c13
      clear c13
      by_cases c14 : x22_1 < (l0_0.length : Int)
      ·rw [if_pos c14] at H
       have c14b0 : decide (x22_1 < (l0_0.length : Int)) = true := decide_eq_true c14
       clear c14
       have HC15 := zaa.mk H
       clear H
       have p278 : 0 ≤ (x22_1 : Int) := of_decide_eq_true (by first | (with_reducible assumption) | assumption)
       have q278 : x22_1 < (l0_0.length : Int) := of_decide_eq_true (by first | (with_reducible assumption) | assumption)
       obtain ⟨ad278, A278_1, c278_1, e278, hx278_0, hx278_1, hl278_1, hi278_1⟩ := zdA HR0_0.out x22_1 p278 q278
       cases e278
       replace hx278_0 := (HB.out.cell (World.block_lt_of_cell? w _ hx278_0)).trans hx278_0
       replace hx278_1 := (HB.out.cell (World.block_lt_of_cell? w _ hx278_1)).trans hx278_1
       have HR278_1 := zaa.mk hi278_1
       have HC278_1 := zaa.mk hl278_1
       clear hi278_1 hl278_1
       replace p278 := eq_true p278
       replace q278 := eq_true q278
       go_upto_region 6 with (first | ((with_reducible refine zbc (N := 8) rfl ?_); refine zbb ?hg (N := 8) ?hd (cs := #[.string (⟨#[]⟩ : ByteArray), .slice none 0 0]) (t := 127) ?hr ?_; (case hd => rfl); (case hg => rfl); (case hr => first | (go_simp; done) | (go_simp; rfl)); intro gb279 hg w16 hbox hb; have n0_ := zaa.mk (zaP (g := gb275) (o := .cells #[.slice (some ad278) l0_0.length c0_0, .slice A0_1 l0_1.length c0_1] 50 (0, 0)) (by (with_reducible repeat (first | refine zah ?_ _ | refine zak ?_ | refine zaf ?_ _)); exact BK275.out) hb); have n1_ := zaa.mk (zaP (g := gb276) (o := .cells #[.int .i64 x277000_1, .int .i64 x277001_1, .int .i64 x277002_1, .int .i64 x277003_1] 25 (0, 0)) (by (with_reducible repeat (first | refine zah ?_ _ | refine zak ?_ | refine zaf ?_ _)); exact BK276.out) hb); have n2_ := zaa.mk (zax (by repeat (first | (with_reducible first | exact HB.out | apply zac | apply zab | apply zad | refine zai ?_ GE275.out | refine zai ?_ GE276.out) | exact HB.out)) hb); have n3_ := zaa.mk (hbox); have n4_ := zaa.mk ((by rw [hg]; exact (zay (by repeat (first | (with_reducible first | exact HB.out | apply zac | apply zab | apply zad | refine zai ?_ GE275.out | refine zai ?_ GE276.out) | exact HB.out))) : w.heap.size ≤ gb279)); have n5_ := zaa.mk ((by rw [hg]; exact (zay (by repeat (first | (with_reducible first | exact HB.out | apply zac | apply zab | apply zad | refine zai ?_ GE275.out | refine zai ?_ GE276.out) | exact HB.out))) : w.heap.size ≤ gb279)); have n6_ := zaa.mk ((by rw [hg]; exact Nat.ne_of_lt (zbt (g := gb275) (o := .cells #[.slice (some ad278) l0_0.length c0_0, .slice A0_1 l0_1.length c0_1] 50 (0, 0)) (by (with_reducible repeat (first | refine zah ?_ _ | refine zak ?_ | refine zaf ?_ _)); exact BK275.out)) : gb275 ≠ gb279)); have n7_ := zaa.mk ((by rw [hg]; exact Nat.ne_of_gt (zbt (g := gb275) (o := .cells #[.slice (some ad278) l0_0.length c0_0, .slice A0_1 l0_1.length c0_1] 50 (0, 0)) (by (with_reducible repeat (first | refine zah ?_ _ | refine zak ?_ | refine zaf ?_ _)); exact BK275.out)) : gb279 ≠ gb275)); have n8_ := zaa.mk ((by rw [hg]; exact Nat.ne_of_lt (zbt (g := gb276) (o := .cells #[.int .i64 x277000_1, .int .i64 x277001_1, .int .i64 x277002_1, .int .i64 x277003_1] 25 (0, 0)) (by (with_reducible repeat (first | refine zah ?_ _ | refine zak ?_ | refine zaf ?_ _)); exact BK276.out)) : gb276 ≠ gb279)); have n9_ := zaa.mk ((by rw [hg]; exact Nat.ne_of_gt (zbt (g := gb276) (o := .cells #[.int .i64 x277000_1, .int .i64 x277001_1, .int .i64 x277002_1, .int .i64 x277003_1] 25 (0, 0)) (by (with_reducible repeat (first | refine zah ?_ _ | refine zak ?_ | refine zaf ?_ _)); exact BK276.out)) : gb279 ≠ gb276)); clear BK275; clear BK276; clear HB; have BK275 := n0_; have BK276 := n1_; have HB := n2_; have BK279 := n3_; have GW279 := n4_; have GE279 := n5_; have NB275_279 := n6_; have NB279_275 := n7_; have NB276_279 := n8_; have NB279_276 := n9_; clear n0_ n1_ n2_ n3_ n4_ n5_ n6_ n7_ n8_ n9_; clear hb hbox hg; have hnb17 := NB279_275.out; have hnc17 := NB275_279.out; have hnb18 := NB279_276.out; have hnc18 := NB276_279.out; have hcz19_0 : w16.cell? ⟨gb279, 0, none⟩ = some (.string (⟨#[]⟩ : ByteArray)) := (zae BK279.out 0).trans rfl; have hcz19_1 : w16.cell? ⟨gb279, 1, none⟩ = some (.slice none 0 0) := (zae BK279.out 1).trans rfl; have hfz19_0 := zaj BK279.out 0; have hfz19_1 := zaj BK279.out 1))
       (try simp only [Act.put, List.setIfInBounds_toArray, List.set_cons_zero, List.set_cons_succ])
       go_cut [36] (fun v36 wc => ∃ (kq : Nat) (x36_14 : Bool), v36 = .bool x36_14 ∧ zaa (zaO.j1 kq a1 a2 x22_1 l0_0 (l0_0.length : Int) x22_1 x36_14 l0_0 l0_1 ((zaQ l0_0 x22_1).f0) ((zaQ l0_0 x22_1).f1) = some (r1, r2, r3, r4)) ∧ zaa (kq ≤ k1) ∧ zaa (wc.heap[gb275]? = some (.cells #[(.slice (some ad278) l0_0.length c0_0), (.slice A0_1 l0_1.length c0_1)] 50 (0, 0))) ∧ zaa (wc.heap[gb276]? = some (.cells #[.int .i64 x277000_1, .int .i64 x277001_1, .int .i64 x277002_1, .int .i64 x277003_1] 25 (0, 0))) ∧ zaa (wc.heap[gb279]? = some (.cells #[.string ((zaQ l0_0 x22_1).f0), (.slice A278_1 ((zaQ l0_0 x22_1).f1).length c278_1)] 127 (0, 0))) ∧ zaa (Below w.heap.size w wc))
       case first =>
        have H := HC15.out
        clear HC15
        replace H := Option.bind_eq_some_iff.mp H
        obtain ⟨t280, A200, H⟩ := H
        replace H : (if t280 = true then ((zba.f k1 l0_0 x22_1).bind fun t281 => (zaO.j1 k1 a1 a2 x22_1 l0_0 (l0_0.length : Int) x22_1 t281 l0_0 l0_1 ((zaQ l0_0 x22_1).f0) ((zaQ l0_0 x22_1).f1))) else (zaO.j1 k1 a1 a2 x22_1 l0_0 (l0_0.length : Int) x22_1 true l0_0 l0_1 ((zaQ l0_0 x22_1).f0) ((zaQ l0_0 x22_1).f1))) = some (r1, r2, r3, r4) := H
        have A20 := zaa.mk A200
        clear A200
        by_cases c21 : t280 = true
        ·subst c21
         have H1 : ((zba.f k1 l0_0 x22_1).bind fun t281 => (zaO.j1 k1 a1 a2 x22_1 l0_0 (l0_0.length : Int) x22_1 t281 l0_0 l0_1 ((zaQ l0_0 x22_1).f0) ((zaQ l0_0 x22_1).f1))) = some (r1, r2, r3, r4) := by rw [if_pos rfl] at H; exact H
         clear H
         have H := H1
         clear H1
         replace H := Option.bind_eq_some_iff.mp H
         obtain ⟨t281, A220, H⟩ := H
         replace H : (zaO.j1 k1 a1 a2 x22_1 l0_0 (l0_0.length : Int) x22_1 t281 l0_0 l0_1 ((zaQ l0_0 x22_1).f0) ((zaQ l0_0 x22_1).f1)) = some (r1, r2, r3, r4) := H
         have A22 := zaa.mk A220
         clear A220
         have H' := zaa.mk H
         clear H
         have hnb23 := NB279_275.out
         have hnc23 := NB275_279.out
         have hnb24 := NB279_276.out
         have hnc24 := NB276_279.out
         have hcz25_0 : w16.cell? ⟨gb279, 0, none⟩ = some (.string (⟨#[]⟩ : ByteArray)) := (zae BK279.out 0).trans rfl
         have hcz25_1 : w16.cell? ⟨gb279, 1, none⟩ = some (.slice none 0 0) := (zae BK279.out 1).trans rfl
         have hfz25_0 := zaj BK279.out 0
         have hfz25_1 := zaj BK279.out 1
         go_wp2_with (first | ((with_reducible refine zaG (f := 35) rfl ?_); refine za2 (some 29) rfl rfl Tryd.func35 (by kernel_rfl) rfl #[.string ((zaQ l0_0 x22_1).f0)] rfl (by (try simp only [List.map_toArray, List.map_cons, List.map_nil]); first | done | rfl | (simp only [List.length_drop, List.length_take]; rfl)) ?_; (with_reducible refine (zbD.calls ((zaQ l0_0 x22_1).f0) true _ A20.out).mono ?_); rintro e w26 ⟨rfl, hb⟩; refine ⟨_, rfl, ?_⟩; have n0_ := zaa.mk (zaP (g := gb275) (o := .cells #[.slice (some ad278) l0_0.length c0_0, .slice A0_1 l0_1.length c0_1] 50 (0, 0)) (by (with_reducible repeat (first | refine zah ?_ _ | refine zak ?_ | refine zaf ?_ _)); refine zbm ?_ NB275_279.out _; (with_reducible repeat (first | refine zah ?_ _ | refine zak ?_ | refine zaf ?_ _)); refine zbm ?_ NB275_279.out _; (with_reducible repeat (first | refine zah ?_ _ | refine zak ?_ | refine zaf ?_ _)); exact BK275.out) hb); have n1_ := zaa.mk (zaP (g := gb276) (o := .cells #[.int .i64 x277000_1, .int .i64 x277001_1, .int .i64 x277002_1, .int .i64 x277003_1] 25 (0, 0)) (by (with_reducible repeat (first | refine zah ?_ _ | refine zak ?_ | refine zaf ?_ _)); refine zbm ?_ NB276_279.out _; (with_reducible repeat (first | refine zah ?_ _ | refine zak ?_ | refine zaf ?_ _)); refine zbm ?_ NB276_279.out _; (with_reducible repeat (first | refine zah ?_ _ | refine zak ?_ | refine zaf ?_ _)); exact BK276.out) hb); have n2_ := zaa.mk (zaP (g := gb279) (o := .cells #[.string ((zaQ l0_0 x22_1).f0), .slice A278_1 ((zaQ l0_0 x22_1).f1).length c278_1] 127 (0, 0)) (by (with_reducible repeat (first | refine zah ?_ _ | refine zak ?_ | refine zaf ?_ _)); refine za8 (cs := #[.string ((zaQ l0_0 x22_1).f0), .slice none 0 0]) ?_ 1 _ rfl; (with_reducible repeat (first | refine zah ?_ _ | refine zak ?_ | refine zaf ?_ _)); refine za8 (cs := #[.string (⟨#[]⟩ : ByteArray), .slice none 0 0]) ?_ 0 _ rfl; (with_reducible repeat (first | refine zah ?_ _ | refine zak ?_ | refine zaf ?_ _)); exact BK279.out) hb); have n3_ := zaa.mk (zax (by repeat (first | (with_reducible first | exact HB.out | apply zac | apply zab | apply zad | refine zai ?_ GE275.out | refine zai ?_ GE276.out | refine zai ?_ GE279.out) | exact HB.out)) hb); clear BK275; clear BK276; clear BK279; clear HB; have BK275 := n0_; have BK276 := n1_; have BK279 := n2_; have HB := n3_; clear n0_ n1_ n2_ n3_; (try clear hb); (try clear hb2); (try clear hk); (try clear hi); have hnb27 := NB275_276.out; have hnc27 := NB276_275.out; have hcz28_0 : w26.cell? ⟨gb275, 0, none⟩ = some (.slice (some ad278) l0_0.length c0_0) := (zae BK275.out 0).trans rfl; have hcz28_1 : w26.cell? ⟨gb275, 1, none⟩ = some (.slice A0_1 l0_1.length c0_1) := (zae BK275.out 1).trans rfl; have hfz28_0 := zaj BK275.out 0; have hfz28_1 := zaj BK275.out 1) | (go_at_call 76; (with_reducible refine (zba.calls k1 _ _ l0_0 x22_1 t281 _ ?side1 ?side2 A22.out).mono ?_); (case side1 => repeat (first | exact (Kd.za7 HR0_0.out HB.out) | (with_reducible refine Kd.zaT ?_ _) | (with_reducible refine Kd.zaU ?_ _) | (with_reducible refine Kd.za0 ?_))); (case side2 => exact HC0_0.out); rintro e w' ⟨rfl, ⟨nd, rfl⟩⟩))
         go_meet
         case rel => exact ⟨_, (t281), (by first | rfl | (simp; done) | (simp [*]; done)), H', ⟨by have := HK1.out; first | omega | exact Nat.le_refl _⟩, ⟨by (with_reducible repeat (first | refine zah ?_ _ | refine zak ?_ | refine zaf ?_ _)); exact BK275.out⟩, ⟨by (with_reducible repeat (first | refine zah ?_ _ | refine zak ?_ | refine zaf ?_ _)); exact BK276.out⟩, ⟨by (with_reducible repeat (first | refine zah ?_ _ | refine zak ?_ | refine zaf ?_ _)); exact BK279.out⟩, ⟨by repeat (first | (with_reducible first | exact HB.out | apply zac | apply zab | apply zad | refine zai ?_ GE275.out | refine zai ?_ GE276.out | refine zai ?_ GE279.out) | exact HB.out)⟩⟩
        ·replace c21 := Bool.eq_false_iff.mpr c21
         subst c21
         have H1 : (zaO.j1 k1 a1 a2 x22_1 l0_0 (l0_0.length : Int) x22_1 true l0_0 l0_1 ((zaQ l0_0 x22_1).f0) ((zaQ l0_0 x22_1).f1)) = some (r1, r2, r3, r4) := by rw [if_neg (show ¬ (false = true) by decide)] at H; exact H
         clear H
         have H := H1
         clear H1
         have H' := zaa.mk H
         clear H
         have hnb29 := NB279_275.out
         have hnc29 := NB275_279.out
         have hnb30 := NB279_276.out
         have hnc30 := NB276_279.out
         have hcz31_0 : w16.cell? ⟨gb279, 0, none⟩ = some (.string (⟨#[]⟩ : ByteArray)) := (zae BK279.out 0).trans rfl
         have hcz31_1 : w16.cell? ⟨gb279, 1, none⟩ = some (.slice none 0 0) := (zae BK279.out 1).trans rfl
         have hfz31_0 := zaj BK279.out 0
         have hfz31_1 := zaj BK279.out 1
         go_wp2_with (first | ((with_reducible refine zaG (f := 35) rfl ?_); refine za2 (some 29) rfl rfl Tryd.func35 (by kernel_rfl) rfl #[.string ((zaQ l0_0 x22_1).f0)] rfl (by (try simp only [List.map_toArray, List.map_cons, List.map_nil]); first | done | rfl | (simp only [List.length_drop, List.length_take]; rfl)) ?_; (with_reducible refine (zbD.calls ((zaQ l0_0 x22_1).f0) false _ A20.out).mono ?_); rintro e w32 ⟨rfl, hb⟩; refine ⟨_, rfl, ?_⟩; have n0_ := zaa.mk (zaP (g := gb275) (o := .cells #[.slice (some ad278) l0_0.length c0_0, .slice A0_1 l0_1.length c0_1] 50 (0, 0)) (by (with_reducible repeat (first | refine zah ?_ _ | refine zak ?_ | refine zaf ?_ _)); refine zbm ?_ NB275_279.out _; (with_reducible repeat (first | refine zah ?_ _ | refine zak ?_ | refine zaf ?_ _)); refine zbm ?_ NB275_279.out _; (with_reducible repeat (first | refine zah ?_ _ | refine zak ?_ | refine zaf ?_ _)); exact BK275.out) hb); have n1_ := zaa.mk (zaP (g := gb276) (o := .cells #[.int .i64 x277000_1, .int .i64 x277001_1, .int .i64 x277002_1, .int .i64 x277003_1] 25 (0, 0)) (by (with_reducible repeat (first | refine zah ?_ _ | refine zak ?_ | refine zaf ?_ _)); refine zbm ?_ NB276_279.out _; (with_reducible repeat (first | refine zah ?_ _ | refine zak ?_ | refine zaf ?_ _)); refine zbm ?_ NB276_279.out _; (with_reducible repeat (first | refine zah ?_ _ | refine zak ?_ | refine zaf ?_ _)); exact BK276.out) hb); have n2_ := zaa.mk (zaP (g := gb279) (o := .cells #[.string ((zaQ l0_0 x22_1).f0), .slice A278_1 ((zaQ l0_0 x22_1).f1).length c278_1] 127 (0, 0)) (by (with_reducible repeat (first | refine zah ?_ _ | refine zak ?_ | refine zaf ?_ _)); refine za8 (cs := #[.string ((zaQ l0_0 x22_1).f0), .slice none 0 0]) ?_ 1 _ rfl; (with_reducible repeat (first | refine zah ?_ _ | refine zak ?_ | refine zaf ?_ _)); refine za8 (cs := #[.string (⟨#[]⟩ : ByteArray), .slice none 0 0]) ?_ 0 _ rfl; (with_reducible repeat (first | refine zah ?_ _ | refine zak ?_ | refine zaf ?_ _)); exact BK279.out) hb); have n3_ := zaa.mk (zax (by repeat (first | (with_reducible first | exact HB.out | apply zac | apply zab | apply zad | refine zai ?_ GE275.out | refine zai ?_ GE276.out | refine zai ?_ GE279.out) | exact HB.out)) hb); clear BK275; clear BK276; clear BK279; clear HB; have BK275 := n0_; have BK276 := n1_; have BK279 := n2_; have HB := n3_; clear n0_ n1_ n2_ n3_; (try clear hb); (try clear hb2); (try clear hk); (try clear hi)))
         go_meet
         case rel => exact ⟨_, (true), (by first | rfl | (simp; done) | (simp [*]; done)), H', ⟨by have := HK1.out; first | omega | exact Nat.le_refl _⟩, ⟨by (with_reducible repeat (first | refine zah ?_ _ | refine zak ?_ | refine zaf ?_ _)); exact BK275.out⟩, ⟨by (with_reducible repeat (first | refine zah ?_ _ | refine zak ?_ | refine zaf ?_ _)); exact BK276.out⟩, ⟨by (with_reducible repeat (first | refine zah ?_ _ | refine zak ?_ | refine zaf ?_ _)); exact BK279.out⟩, ⟨by repeat (first | (with_reducible first | exact HB.out | apply zac | apply zab | apply zad | refine zai ?_ GE275.out | refine zai ?_ GE276.out | refine zai ?_ GE279.out) | exact HB.out)⟩⟩
       case rest =>
        clear HC15
        try clear c1
        try clear c2
        try clear p2
        try clear q2
        try clear hx2
        try clear c3
        try clear c5
        try clear c7
        try clear c8
        try clear c12
        try clear c12b0
        try clear c13
        try clear c13b0
        try clear c14
        try clear c14b0
        try clear c17
        try clear c18
        try clear c21
        try clear c23
        try clear c24
        try clear c26
        try clear c27
        try clear p27
        try clear q27
        try clear hx27
        try clear c29
        try clear c30
        try clear hcz11_0
        try clear hcz11_1
        try clear hcz19_0
        try clear hcz19_1
        try clear hcz25_0
        try clear hcz25_1
        try clear hcz28_0
        try clear hcz28_1
        try clear hcz31_0
        try clear hcz31_1
        try clear hcz9_0
        try clear hcz9_1
        try clear hfz11_0
        try clear hfz11_1
        try clear hfz19_0
        try clear hfz19_1
        try clear hfz25_0
        try clear hfz25_1
        try clear hfz28_0
        try clear hfz28_1
        try clear hfz31_0
        try clear hfz31_1
        try clear hfz9_0
        try clear hfz9_1
        try clear hx278_0
        try clear hx278_1
        try clear p2
        try clear p278
        try clear q278
        obtain ⟨kq, x36_14, rfl, HA, HJ14, BK275, BK276, BK279, HB⟩ := hcut
        cases kq with
        | zero => exact absurd HA.out (by simp [zaO.j1])
        | succ kj14 =>
         have H := HA.out
         clear HA
         simp only [zaO.j1] at H
         by_cases c33 : x36_14 = true
         ·subst c33
          have H1 : (some (2, wrap64 (x22_1 + 1), 1, 0)) = some (r1, r2, r3, r4) := by rw [if_pos rfl] at H; exact H
          clear H
          have H := H1
          clear H1
          simp only [Option.some.injEq, Prod.mk.injEq] at H
          obtain ⟨rfl, rfl, rfl, rfl⟩ := H
          have hnb34 := NB276_275.out
          have hnc34 := NB275_276.out
          have hnb35 := NB276_279.out
          have hnc35 := NB279_276.out
          have hcz36_0 : wc.cell? ⟨gb276, 0, none⟩ = some (.int .i64 x277000_1) := (zae BK276.out 0).trans rfl
          have hcz36_1 : wc.cell? ⟨gb276, 1, none⟩ = some (.int .i64 x277001_1) := (zae BK276.out 1).trans rfl
          have hcz36_2 : wc.cell? ⟨gb276, 2, none⟩ = some (.int .i64 x277002_1) := (zae BK276.out 2).trans rfl
          have hcz36_3 : wc.cell? ⟨gb276, 3, none⟩ = some (.int .i64 x277003_1) := (zae BK276.out 3).trans rfl
          have hfz36_0 := zaj BK276.out 0
          have hfz36_1 := zaj BK276.out 1
          have hfz36_2 := zaj BK276.out 2
          have hfz36_3 := zaj BK276.out 3
          go_wp2
          refine bodyPost_ret (results_cell_row rfl _ _ gb276 25 #[.int .i64 2, .int .i64 (wrap64 (x22_1 + 1)), .int .i64 1, .int .i64 0] (0, 0) _ rfl (by (with_reducible repeat (first | refine zah ?_ _ | refine zak ?_ | refine zaf ?_ _)); refine za8 (cs := #[.int .i64 2, .int .i64 (wrap64 (x22_1 + 1)), .int .i64 1, .int .i64 x277003_1]) ?_ 3 _ rfl; (with_reducible repeat (first | refine zah ?_ _ | refine zak ?_ | refine zaf ?_ _)); refine za8 (cs := #[.int .i64 2, .int .i64 (wrap64 (x22_1 + 1)), .int .i64 x277002_1, .int .i64 x277003_1]) ?_ 2 _ rfl; (with_reducible repeat (first | refine zah ?_ _ | refine zak ?_ | refine zaf ?_ _)); refine za8 (cs := #[.int .i64 2, .int .i64 x277001_1, .int .i64 x277002_1, .int .i64 x277003_1]) ?_ 1 _ rfl; (with_reducible repeat (first | refine zah ?_ _ | refine zak ?_ | refine zaf ?_ _)); refine za8 (cs := #[.int .i64 x277000_1, .int .i64 x277001_1, .int .i64 x277002_1, .int .i64 x277003_1]) ?_ 0 _ rfl; (with_reducible repeat (first | refine zah ?_ _ | refine zak ?_ | refine zaf ?_ _)); exact BK276.out) Tryd.underlying25 rfl (by kernel_rfl)) rfl ?_
          exact ⟨by first | rfl | (simp [zan, zam] <;> rfl) | (simp [*, zan, zam] <;> rfl), by repeat (first | (with_reducible first | exact HB.out | apply zac | apply zab | apply zad | refine zai ?_ GE275.out | refine zai ?_ GE276.out | refine zai ?_ GE279.out) | exact HB.out)⟩
         ·replace c33 := Bool.eq_false_iff.mpr c33
          subst c33
          have H1 : ((za3.f kj14 ((zaQ l0_0 x22_1).f1) (wrap64 (x22_1 + 1)) a1 a2 x22_1).bind fun bt282 => (if (!(bt282.1 == 0) || (!(bt282.2.1 == 0) || (!(bt282.2.2.1 == 0) || (!(bt282.2.2.2 == 0))))) = true then (some (bt282.1, bt282.2.1, bt282.2.2.1, bt282.2.2.2)) else (zaO.l0 kj14 a1 a2 l0_0 (l0_0.length : Int) (wrap64 (x22_1 + 1)) l0_0 l0_1))) = some (r1, r2, r3, r4) := by rw [if_neg (show ¬ (false = true) by decide)] at H; exact H
          clear H
          have H := H1
          clear H1
          replace H := Option.bind_eq_some_iff.mp H
          obtain ⟨⟨t282, t283, t284, t285⟩, A370, H⟩ := H
          replace H : (if (!(t282 == 0) || (!(t283 == 0) || (!(t284 == 0) || (!(t285 == 0))))) = true then (some (t282, t283, t284, t285)) else (zaO.l0 kj14 a1 a2 l0_0 (l0_0.length : Int) (wrap64 (x22_1 + 1)) l0_0 l0_1)) = some (r1, r2, r3, r4) := H
          have A37 := zaa.mk A370
          clear A370
          by_cases c38 : (!(t282 == 0) || (!(t283 == 0) || (!(t284 == 0) || (!(t285 == 0))))) = true
          ·rw [if_pos c38] at H
           have c38b0 : (!(t282 == 0) || (!(t283 == 0) || (!(t284 == 0) || (!(t285 == 0))))) = true := c38
           clear c38
           simp only [Option.some.injEq, Prod.mk.injEq] at H
           obtain ⟨rfl, rfl, rfl, rfl⟩ := H
           have hnb39 := NB279_275.out
           have hnc39 := NB275_279.out
           have hnb40 := NB279_276.out
           have hnc40 := NB276_279.out
           have hcz41_0 : wc.cell? ⟨gb279, 0, none⟩ = some (.string ((zaQ l0_0 x22_1).f0)) := (zae BK279.out 0).trans rfl
           have hcz41_1 : wc.cell? ⟨gb279, 1, none⟩ = some (.slice A278_1 ((zaQ l0_0 x22_1).f1).length c278_1) := (zae BK279.out 1).trans rfl
           have hfz41_0 := zaj BK279.out 0
           have hfz41_1 := zaj BK279.out 1
           go_wp2_with (first | ((with_reducible refine zaG (f := 77) rfl ?_); refine za2 (some 47) rfl rfl Tryd.func77 (by kernel_rfl) rfl #[.slice A278_1 ((zaQ l0_0 x22_1).f1).length c278_1, .int .i64 (wrap64 (x22_1 + 1)), .int .i64 a1, .int .i64 a2, .int .i64 x22_1] rfl (by (try simp only [List.map_toArray, List.map_cons, List.map_nil]); first | done | rfl | (simp only [List.length_drop, List.length_take]; rfl)) ?_; (with_reducible refine (za3.calls kj14 _ _ ((zaQ l0_0 x22_1).f1) (wrap64 (x22_1 + 1)) a1 a2 x22_1 t282 t283 t284 t285 _ ?side1 ?side2 A37.out).mono ?_); (case side1 => repeat (first | exact (Kd.za7 HR278_1.out HB.out) | (with_reducible refine Kd.zaT ?_ _) | (with_reducible refine Kd.zaU ?_ _) | (with_reducible refine Kd.za0 ?_))); (case side2 => exact HC278_1.out); rintro e w42 ⟨rfl, hb⟩; refine ⟨_, rfl, ?_⟩; have n0_ := zaa.mk (zaP (g := gb275) (o := .cells #[.slice (some ad278) l0_0.length c0_0, .slice A0_1 l0_1.length c0_1] 50 (0, 0)) (by (with_reducible repeat (first | refine zah ?_ _ | refine zak ?_ | refine zaf ?_ _)); exact BK275.out) hb); have n1_ := zaa.mk (zaP (g := gb276) (o := .cells #[.int .i64 x277000_1, .int .i64 x277001_1, .int .i64 x277002_1, .int .i64 x277003_1] 25 (0, 0)) (by (with_reducible repeat (first | refine zah ?_ _ | refine zak ?_ | refine zaf ?_ _)); exact BK276.out) hb); have n2_ := zaa.mk (zaP (g := gb279) (o := .cells #[.string ((zaQ l0_0 x22_1).f0), .slice A278_1 ((zaQ l0_0 x22_1).f1).length c278_1] 127 (0, 0)) (by (with_reducible repeat (first | refine zah ?_ _ | refine zak ?_ | refine zaf ?_ _)); exact BK279.out) hb); have n3_ := zaa.mk (zax (by repeat (first | (with_reducible first | exact HB.out | apply zac | apply zab | apply zad | refine zai ?_ GE275.out | refine zai ?_ GE276.out | refine zai ?_ GE279.out) | exact HB.out)) hb); clear BK275; clear BK276; clear BK279; clear HB; have BK275 := n0_; have BK276 := n1_; have BK279 := n2_; have HB := n3_; clear n0_ n1_ n2_ n3_; (try clear hb); (try clear hb2); (try clear hk); (try clear hi)) | ((with_reducible refine zbc (N := 9) rfl ?_); refine zbb ?hg (N := 9) ?hd (cs := #[.int .i64 0, .int .i64 0, .int .i64 0, .int .i64 0]) (t := 25) ?hr ?_; (case hd => rfl); (case hg => rfl); (case hr => first | (go_simp; done) | (go_simp; rfl)); intro gb286 hg w43 hbox hb; have n0_ := zaa.mk (zaP (g := gb275) (o := .cells #[.slice (some ad278) l0_0.length c0_0, .slice A0_1 l0_1.length c0_1] 50 (0, 0)) (by (with_reducible repeat (first | refine zah ?_ _ | refine zak ?_ | refine zaf ?_ _)); exact BK275.out) hb); have n1_ := zaa.mk (zaP (g := gb276) (o := .cells #[.int .i64 x277000_1, .int .i64 x277001_1, .int .i64 x277002_1, .int .i64 x277003_1] 25 (0, 0)) (by (with_reducible repeat (first | refine zah ?_ _ | refine zak ?_ | refine zaf ?_ _)); exact BK276.out) hb); have n2_ := zaa.mk (zaP (g := gb279) (o := .cells #[.string ((zaQ l0_0 x22_1).f0), .slice A278_1 ((zaQ l0_0 x22_1).f1).length c278_1] 127 (0, 0)) (by (with_reducible repeat (first | refine zah ?_ _ | refine zak ?_ | refine zaf ?_ _)); exact BK279.out) hb); have n3_ := zaa.mk (zax (by repeat (first | (with_reducible first | exact HB.out | apply zac | apply zab | apply zad | refine zai ?_ GE275.out | refine zai ?_ GE276.out | refine zai ?_ GE279.out) | exact HB.out)) hb); have n4_ := zaa.mk (hbox); have n5_ := zaa.mk ((by rw [hg]; exact (zay (by repeat (first | (with_reducible first | exact HB.out | apply zac | apply zab | apply zad | refine zai ?_ GE275.out | refine zai ?_ GE276.out | refine zai ?_ GE279.out) | exact HB.out))) : w.heap.size ≤ gb286)); have n6_ := zaa.mk ((by rw [hg]; exact (zay (by repeat (first | (with_reducible first | exact HB.out | apply zac | apply zab | apply zad | refine zai ?_ GE275.out | refine zai ?_ GE276.out | refine zai ?_ GE279.out) | exact HB.out))) : w.heap.size ≤ gb286)); have n7_ := zaa.mk ((by rw [hg]; exact Nat.ne_of_lt (zbt (g := gb275) (o := .cells #[.slice (some ad278) l0_0.length c0_0, .slice A0_1 l0_1.length c0_1] 50 (0, 0)) (by (with_reducible repeat (first | refine zah ?_ _ | refine zak ?_ | refine zaf ?_ _)); exact BK275.out)) : gb275 ≠ gb286)); have n8_ := zaa.mk ((by rw [hg]; exact Nat.ne_of_gt (zbt (g := gb275) (o := .cells #[.slice (some ad278) l0_0.length c0_0, .slice A0_1 l0_1.length c0_1] 50 (0, 0)) (by (with_reducible repeat (first | refine zah ?_ _ | refine zak ?_ | refine zaf ?_ _)); exact BK275.out)) : gb286 ≠ gb275)); have n9_ := zaa.mk ((by rw [hg]; exact Nat.ne_of_lt (zbt (g := gb276) (o := .cells #[.int .i64 x277000_1, .int .i64 x277001_1, .int .i64 x277002_1, .int .i64 x277003_1] 25 (0, 0)) (by (with_reducible repeat (first | refine zah ?_ _ | refine zak ?_ | refine zaf ?_ _)); exact BK276.out)) : gb276 ≠ gb286)); have n10_ := zaa.mk ((by rw [hg]; exact Nat.ne_of_gt (zbt (g := gb276) (o := .cells #[.int .i64 x277000_1, .int .i64 x277001_1, .int .i64 x277002_1, .int .i64 x277003_1] 25 (0, 0)) (by (with_reducible repeat (first | refine zah ?_ _ | refine zak ?_ | refine zaf ?_ _)); exact BK276.out)) : gb286 ≠ gb276)); have n11_ := zaa.mk ((by rw [hg]; exact Nat.ne_of_lt (zbt (g := gb279) (o := .cells #[.string ((zaQ l0_0 x22_1).f0), .slice A278_1 ((zaQ l0_0 x22_1).f1).length c278_1] 127 (0, 0)) (by (with_reducible repeat (first | refine zah ?_ _ | refine zak ?_ | refine zaf ?_ _)); exact BK279.out)) : gb279 ≠ gb286)); have n12_ := zaa.mk ((by rw [hg]; exact Nat.ne_of_gt (zbt (g := gb279) (o := .cells #[.string ((zaQ l0_0 x22_1).f0), .slice A278_1 ((zaQ l0_0 x22_1).f1).length c278_1] 127 (0, 0)) (by (with_reducible repeat (first | refine zah ?_ _ | refine zak ?_ | refine zaf ?_ _)); exact BK279.out)) : gb286 ≠ gb279)); clear BK275; clear BK276; clear BK279; clear HB; have BK275 := n0_; have BK276 := n1_; have BK279 := n2_; have HB := n3_; have BK286 := n4_; have GW286 := n5_; have GE286 := n6_; have NB275_286 := n7_; have NB286_275 := n8_; have NB276_286 := n9_; have NB286_276 := n10_; have NB279_286 := n11_; have NB286_279 := n12_; clear n0_ n1_ n2_ n3_ n4_ n5_ n6_ n7_ n8_ n9_ n10_ n11_ n12_; clear hb hbox hg; have hnb44 := NB286_275.out; have hnc44 := NB275_286.out; have hnb45 := NB286_276.out; have hnc45 := NB276_286.out; have hnb46 := NB286_279.out; have hnc46 := NB279_286.out; have hcz47_0 : w43.cell? ⟨gb286, 0, none⟩ = some (.int .i64 0) := (zae BK286.out 0).trans rfl; have hcz47_1 : w43.cell? ⟨gb286, 1, none⟩ = some (.int .i64 0) := (zae BK286.out 1).trans rfl; have hcz47_2 : w43.cell? ⟨gb286, 2, none⟩ = some (.int .i64 0) := (zae BK286.out 2).trans rfl; have hcz47_3 : w43.cell? ⟨gb286, 3, none⟩ = some (.int .i64 0) := (zae BK286.out 3).trans rfl; have hfz47_0 := zaj BK286.out 0; have hfz47_1 := zaj BK286.out 1; have hfz47_2 := zaj BK286.out 2; have hfz47_3 := zaj BK286.out 3; have hnb48 := NB276_275.out; have hnc48 := NB275_276.out; have hcz49_0 : w43.cell? ⟨gb276, 0, none⟩ = some (.int .i64 x277000_1) := (zae BK276.out 0).trans rfl; have hcz49_1 : w43.cell? ⟨gb276, 1, none⟩ = some (.int .i64 x277001_1) := (zae BK276.out 1).trans rfl; have hcz49_2 : w43.cell? ⟨gb276, 2, none⟩ = some (.int .i64 x277002_1) := (zae BK276.out 2).trans rfl; have hcz49_3 : w43.cell? ⟨gb276, 3, none⟩ = some (.int .i64 x277003_1) := (zae BK276.out 3).trans rfl; have hfz49_0 := zaj BK276.out 0; have hfz49_1 := zaj BK276.out 1; have hfz49_2 := zaj BK276.out 2; have hfz49_3 := zaj BK276.out 3))
           refine bodyPost_ret (results_cell_row rfl _ _ gb276 25 #[.int .i64 t282, .int .i64 t283, .int .i64 t284, .int .i64 t285] (0, 0) _ rfl (by (with_reducible repeat (first | refine zah ?_ _ | refine zak ?_ | refine zaf ?_ _)); refine za8 (cs := #[.int .i64 t282, .int .i64 t283, .int .i64 t284, .int .i64 x277003_1]) ?_ 3 _ rfl; (with_reducible repeat (first | refine zah ?_ _ | refine zak ?_ | refine zaf ?_ _)); refine za8 (cs := #[.int .i64 t282, .int .i64 t283, .int .i64 x277002_1, .int .i64 x277003_1]) ?_ 2 _ rfl; (with_reducible repeat (first | refine zah ?_ _ | refine zak ?_ | refine zaf ?_ _)); refine za8 (cs := #[.int .i64 t282, .int .i64 x277001_1, .int .i64 x277002_1, .int .i64 x277003_1]) ?_ 1 _ rfl; (with_reducible repeat (first | refine zah ?_ _ | refine zak ?_ | refine zaf ?_ _)); refine za8 (cs := #[.int .i64 x277000_1, .int .i64 x277001_1, .int .i64 x277002_1, .int .i64 x277003_1]) ?_ 0 _ rfl; (with_reducible repeat (first | refine zah ?_ _ | refine zak ?_ | refine zaf ?_ _)); refine zbm ?_ NB276_286.out _; (with_reducible repeat (first | refine zah ?_ _ | refine zak ?_ | refine zaf ?_ _)); refine zbm ?_ NB276_286.out _; (with_reducible repeat (first | refine zah ?_ _ | refine zak ?_ | refine zaf ?_ _)); refine zbm ?_ NB276_286.out _; (with_reducible repeat (first | refine zah ?_ _ | refine zak ?_ | refine zaf ?_ _)); refine zbm ?_ NB276_286.out _; (with_reducible repeat (first | refine zah ?_ _ | refine zak ?_ | refine zaf ?_ _)); exact BK276.out) Tryd.underlying25 rfl (by kernel_rfl)) rfl ?_
           exact ⟨by first | rfl | (simp [zan, zam] <;> rfl) | (simp [*, zan, zam] <;> rfl), by repeat (first | (with_reducible first | exact HB.out | apply zac | apply zab | apply zad | refine zai ?_ GE275.out | refine zai ?_ GE276.out | refine zai ?_ GE279.out | refine zai ?_ GE286.out) | exact HB.out)⟩
          ·rw [if_neg c38] at H
           have c38b0 : (!(t282 == 0) || (!(t283 == 0) || (!(t284 == 0) || (!(t285 == 0))))) = false := by simpa using c38
           clear c38
           have H' := zaa.mk H
           clear H
           have hnb50 := NB279_275.out
           have hnc50 := NB275_279.out
           have hnb51 := NB279_276.out
           have hnc51 := NB276_279.out
           have hcz52_0 : wc.cell? ⟨gb279, 0, none⟩ = some (.string ((zaQ l0_0 x22_1).f0)) := (zae BK279.out 0).trans rfl
           have hcz52_1 : wc.cell? ⟨gb279, 1, none⟩ = some (.slice A278_1 ((zaQ l0_0 x22_1).f1).length c278_1) := (zae BK279.out 1).trans rfl
           have hfz52_0 := zaj BK279.out 0
           have hfz52_1 := zaj BK279.out 1
           go_wp2_with (first | ((with_reducible refine zaG (f := 77) rfl ?_); refine za2 (some 47) rfl rfl Tryd.func77 (by kernel_rfl) rfl #[.slice A278_1 ((zaQ l0_0 x22_1).f1).length c278_1, .int .i64 (wrap64 (x22_1 + 1)), .int .i64 a1, .int .i64 a2, .int .i64 x22_1] rfl (by (try simp only [List.map_toArray, List.map_cons, List.map_nil]); first | done | rfl | (simp only [List.length_drop, List.length_take]; rfl)) ?_; (with_reducible refine (za3.calls kj14 _ _ ((zaQ l0_0 x22_1).f1) (wrap64 (x22_1 + 1)) a1 a2 x22_1 t282 t283 t284 t285 _ ?side1 ?side2 A37.out).mono ?_); (case side1 => repeat (first | exact (Kd.za7 HR278_1.out HB.out) | (with_reducible refine Kd.zaT ?_ _) | (with_reducible refine Kd.zaU ?_ _) | (with_reducible refine Kd.za0 ?_))); (case side2 => exact HC278_1.out); rintro e w53 ⟨rfl, hb⟩; refine ⟨_, rfl, ?_⟩; have n0_ := zaa.mk (zaP (g := gb275) (o := .cells #[.slice (some ad278) l0_0.length c0_0, .slice A0_1 l0_1.length c0_1] 50 (0, 0)) (by (with_reducible repeat (first | refine zah ?_ _ | refine zak ?_ | refine zaf ?_ _)); exact BK275.out) hb); have n1_ := zaa.mk (zaP (g := gb276) (o := .cells #[.int .i64 x277000_1, .int .i64 x277001_1, .int .i64 x277002_1, .int .i64 x277003_1] 25 (0, 0)) (by (with_reducible repeat (first | refine zah ?_ _ | refine zak ?_ | refine zaf ?_ _)); exact BK276.out) hb); have n2_ := zaa.mk (zaP (g := gb279) (o := .cells #[.string ((zaQ l0_0 x22_1).f0), .slice A278_1 ((zaQ l0_0 x22_1).f1).length c278_1] 127 (0, 0)) (by (with_reducible repeat (first | refine zah ?_ _ | refine zak ?_ | refine zaf ?_ _)); exact BK279.out) hb); have n3_ := zaa.mk (zax (by repeat (first | (with_reducible first | exact HB.out | apply zac | apply zab | apply zad | refine zai ?_ GE275.out | refine zai ?_ GE276.out | refine zai ?_ GE279.out) | exact HB.out)) hb); clear BK275; clear BK276; clear BK279; clear HB; have BK275 := n0_; have BK276 := n1_; have BK279 := n2_; have HB := n3_; clear n0_ n1_ n2_ n3_; (try clear hb); (try clear hb2); (try clear hk); (try clear hi)) | ((with_reducible refine zbc (N := 9) rfl ?_); refine zbb ?hg (N := 9) ?hd (cs := #[.int .i64 0, .int .i64 0, .int .i64 0, .int .i64 0]) (t := 25) ?hr ?_; (case hd => rfl); (case hg => rfl); (case hr => first | (go_simp; done) | (go_simp; rfl)); intro gb286 hg w54 hbox hb; have n0_ := zaa.mk (zaP (g := gb275) (o := .cells #[.slice (some ad278) l0_0.length c0_0, .slice A0_1 l0_1.length c0_1] 50 (0, 0)) (by (with_reducible repeat (first | refine zah ?_ _ | refine zak ?_ | refine zaf ?_ _)); exact BK275.out) hb); have n1_ := zaa.mk (zaP (g := gb276) (o := .cells #[.int .i64 x277000_1, .int .i64 x277001_1, .int .i64 x277002_1, .int .i64 x277003_1] 25 (0, 0)) (by (with_reducible repeat (first | refine zah ?_ _ | refine zak ?_ | refine zaf ?_ _)); exact BK276.out) hb); have n2_ := zaa.mk (zaP (g := gb279) (o := .cells #[.string ((zaQ l0_0 x22_1).f0), .slice A278_1 ((zaQ l0_0 x22_1).f1).length c278_1] 127 (0, 0)) (by (with_reducible repeat (first | refine zah ?_ _ | refine zak ?_ | refine zaf ?_ _)); exact BK279.out) hb); have n3_ := zaa.mk (zax (by repeat (first | (with_reducible first | exact HB.out | apply zac | apply zab | apply zad | refine zai ?_ GE275.out | refine zai ?_ GE276.out | refine zai ?_ GE279.out) | exact HB.out)) hb); have n4_ := zaa.mk (hbox); have n5_ := zaa.mk ((by rw [hg]; exact (zay (by repeat (first | (with_reducible first | exact HB.out | apply zac | apply zab | apply zad | refine zai ?_ GE275.out | refine zai ?_ GE276.out | refine zai ?_ GE279.out) | exact HB.out))) : w.heap.size ≤ gb286)); have n6_ := zaa.mk ((by rw [hg]; exact (zay (by repeat (first | (with_reducible first | exact HB.out | apply zac | apply zab | apply zad | refine zai ?_ GE275.out | refine zai ?_ GE276.out | refine zai ?_ GE279.out) | exact HB.out))) : w.heap.size ≤ gb286)); have n7_ := zaa.mk ((by rw [hg]; exact Nat.ne_of_lt (zbt (g := gb275) (o := .cells #[.slice (some ad278) l0_0.length c0_0, .slice A0_1 l0_1.length c0_1] 50 (0, 0)) (by (with_reducible repeat (first | refine zah ?_ _ | refine zak ?_ | refine zaf ?_ _)); exact BK275.out)) : gb275 ≠ gb286)); have n8_ := zaa.mk ((by rw [hg]; exact Nat.ne_of_gt (zbt (g := gb275) (o := .cells #[.slice (some ad278) l0_0.length c0_0, .slice A0_1 l0_1.length c0_1] 50 (0, 0)) (by (with_reducible repeat (first | refine zah ?_ _ | refine zak ?_ | refine zaf ?_ _)); exact BK275.out)) : gb286 ≠ gb275)); have n9_ := zaa.mk ((by rw [hg]; exact Nat.ne_of_lt (zbt (g := gb276) (o := .cells #[.int .i64 x277000_1, .int .i64 x277001_1, .int .i64 x277002_1, .int .i64 x277003_1] 25 (0, 0)) (by (with_reducible repeat (first | refine zah ?_ _ | refine zak ?_ | refine zaf ?_ _)); exact BK276.out)) : gb276 ≠ gb286)); have n10_ := zaa.mk ((by rw [hg]; exact Nat.ne_of_gt (zbt (g := gb276) (o := .cells #[.int .i64 x277000_1, .int .i64 x277001_1, .int .i64 x277002_1, .int .i64 x277003_1] 25 (0, 0)) (by (with_reducible repeat (first | refine zah ?_ _ | refine zak ?_ | refine zaf ?_ _)); exact BK276.out)) : gb286 ≠ gb276)); have n11_ := zaa.mk ((by rw [hg]; exact Nat.ne_of_lt (zbt (g := gb279) (o := .cells #[.string ((zaQ l0_0 x22_1).f0), .slice A278_1 ((zaQ l0_0 x22_1).f1).length c278_1] 127 (0, 0)) (by (with_reducible repeat (first | refine zah ?_ _ | refine zak ?_ | refine zaf ?_ _)); exact BK279.out)) : gb279 ≠ gb286)); have n12_ := zaa.mk ((by rw [hg]; exact Nat.ne_of_gt (zbt (g := gb279) (o := .cells #[.string ((zaQ l0_0 x22_1).f0), .slice A278_1 ((zaQ l0_0 x22_1).f1).length c278_1] 127 (0, 0)) (by (with_reducible repeat (first | refine zah ?_ _ | refine zak ?_ | refine zaf ?_ _)); exact BK279.out)) : gb286 ≠ gb279)); clear BK275; clear BK276; clear BK279; clear HB; have BK275 := n0_; have BK276 := n1_; have BK279 := n2_; have HB := n3_; have BK286 := n4_; have GW286 := n5_; have GE286 := n6_; have NB275_286 := n7_; have NB286_275 := n8_; have NB276_286 := n9_; have NB286_276 := n10_; have NB279_286 := n11_; have NB286_279 := n12_; clear n0_ n1_ n2_ n3_ n4_ n5_ n6_ n7_ n8_ n9_ n10_ n11_ n12_; clear hb hbox hg; have hnb55 := NB286_275.out; have hnc55 := NB275_286.out; have hnb56 := NB286_276.out; have hnc56 := NB276_286.out; have hnb57 := NB286_279.out; have hnc57 := NB279_286.out; have hcz58_0 : w54.cell? ⟨gb286, 0, none⟩ = some (.int .i64 0) := (zae BK286.out 0).trans rfl; have hcz58_1 : w54.cell? ⟨gb286, 1, none⟩ = some (.int .i64 0) := (zae BK286.out 1).trans rfl; have hcz58_2 : w54.cell? ⟨gb286, 2, none⟩ = some (.int .i64 0) := (zae BK286.out 2).trans rfl; have hcz58_3 : w54.cell? ⟨gb286, 3, none⟩ = some (.int .i64 0) := (zae BK286.out 3).trans rfl; have hfz58_0 := zaj BK286.out 0; have hfz58_1 := zaj BK286.out 1; have hfz58_2 := zaj BK286.out 2; have hfz58_3 := zaj BK286.out 3))
           go_roundg kj14
           case measure => have := HK1.out; have := HJ14.out; omega
           case rel => exact ⟨(wrap64 (x22_1 + 1)), (x277000_1), (x277001_1), (x277002_1), (x277003_1), (by first | rfl | (simp; done) | (simp [*]; done)), H', ⟨by have := HK1.out; have := HJ14.out; omega⟩, ⟨by (with_reducible repeat (first | refine zah ?_ _ | refine zak ?_ | refine zaf ?_ _)); refine zbm ?_ NB275_286.out _; (with_reducible repeat (first | refine zah ?_ _ | refine zak ?_ | refine zaf ?_ _)); refine zbm ?_ NB275_286.out _; (with_reducible repeat (first | refine zah ?_ _ | refine zak ?_ | refine zaf ?_ _)); refine zbm ?_ NB275_286.out _; (with_reducible repeat (first | refine zah ?_ _ | refine zak ?_ | refine zaf ?_ _)); refine zbm ?_ NB275_286.out _; (with_reducible repeat (first | refine zah ?_ _ | refine zak ?_ | refine zaf ?_ _)); exact BK275.out⟩, ⟨by (with_reducible repeat (first | refine zah ?_ _ | refine zak ?_ | refine zaf ?_ _)); refine zbm ?_ NB276_286.out _; (with_reducible repeat (first | refine zah ?_ _ | refine zak ?_ | refine zaf ?_ _)); refine zbm ?_ NB276_286.out _; (with_reducible repeat (first | refine zah ?_ _ | refine zak ?_ | refine zaf ?_ _)); refine zbm ?_ NB276_286.out _; (with_reducible repeat (first | refine zah ?_ _ | refine zak ?_ | refine zaf ?_ _)); refine zbm ?_ NB276_286.out _; (with_reducible repeat (first | refine zah ?_ _ | refine zak ?_ | refine zaf ?_ _)); exact BK276.out⟩, ⟨by repeat (first | (with_reducible first | exact HB.out | apply zac | apply zab | apply zad | refine zai ?_ GE275.out | refine zai ?_ GE276.out | refine zai ?_ GE279.out | refine zai ?_ GE286.out) | exact HB.out)⟩⟩
      ·rw [if_neg c14] at H
       exact absurd H (by simp)
     ·rw [if_neg c13] at H
      exact absurd H (by simp)
    ·rw [if_neg c12] at H
     have c12b0 : decide (x22_1 < (l0_0.length : Int)) = false := decide_eq_false c12
     clear c12
     have H' := zaa.mk H
     clear H
     have hnb59 := NB275_276.out
     have hnc59 := NB276_275.out
     have hcz60_0 : wr.cell? ⟨gb275, 0, none⟩ = some (.slice A0_0 l0_0.length c0_0) := (zae BK275.out 0).trans rfl
     have hcz60_1 : wr.cell? ⟨gb275, 1, none⟩ = some (.slice A0_1 l0_1.length c0_1) := (zae BK275.out 1).trans rfl
     have hfz60_0 := zaj BK275.out 0
     have hfz60_1 := zaj BK275.out 1
     go_wp2
     go_loopg [56] k1 (fun kq v56 w' => ∃ (x56_2 : Int) (x277000_2 : Int) (x277001_2 : Int) (x277002_2 : Int) (x277003_2 : Int), v56 = .int .i64 x56_2 ∧ zaa (zaO.l1 kq a1 a2 l0_1 (l0_1.length : Int) x56_2 l0_0 l0_1 = some (r1, r2, r3, r4)) ∧ zaa (kq ≤ k1) ∧ zaa (w'.heap[gb275]? = some (.cells #[(.slice A0_0 l0_0.length c0_0), (.slice A0_1 l0_1.length c0_1)] 50 (0, 0))) ∧ zaa (w'.heap[gb276]? = some (.cells #[.int .i64 x277000_2, .int .i64 x277001_2, .int .i64 x277002_2, .int .i64 x277003_2] 25 (0, 0))) ∧ zaa (Below w.heap.size w w'))
     case atStart => exact ⟨(0), (x277000_1), (x277001_1), (x277002_1), (x277003_1), (by first | rfl | (simp; done) | (simp [*]; done)), H', ⟨Nat.le_refl _⟩, ⟨by (with_reducible repeat (first | refine zah ?_ _ | refine zak ?_ | refine zaf ?_ _)); exact BK275.out⟩, ⟨by (with_reducible repeat (first | refine zah ?_ _ | refine zak ?_ | refine zaf ?_ _)); exact BK276.out⟩, ⟨by repeat (first | (with_reducible first | exact HB.out | apply zac | apply zab | apply zad | refine zai ?_ GE275.out | refine zai ?_ GE276.out) | exact HB.out)⟩⟩
     case round =>
      clear H'
      try clear c1
      try clear c2
      try clear p2
      try clear q2
      try clear hx2
      try clear c3
      try clear c4
      try clear c5
      try clear p6
      try clear c7
      try clear c8
      try clear c12
      try clear c12b0
      try clear c13
      try clear c13b0
      try clear c14
      try clear c14b0
      try clear c17
      try clear c18
      try clear c21
      try clear c23
      try clear c24
      try clear c26
      try clear c27
      try clear p27
      try clear q27
      try clear hx27
      try clear c29
      try clear c30
      try clear c33
      try clear c34
      try clear c35
      try clear c38
      try clear c38b0
      try clear c39
      try clear c40
      try clear c44
      try clear c45
      try clear c46
      try clear c48
      try clear c50
      try clear c51
      try clear c55
      try clear c56
      try clear c57
      try clear c59
      try clear hcz11_0
      try clear hcz11_1
      try clear hcz19_0
      try clear hcz19_1
      try clear hcz25_0
      try clear hcz25_1
      try clear hcz28_0
      try clear hcz28_1
      try clear hcz31_0
      try clear hcz31_1
      try clear hcz36_0
      try clear hcz36_1
      try clear hcz36_2
      try clear hcz36_3
      try clear hcz41_0
      try clear hcz41_1
      try clear hcz47_0
      try clear hcz47_1
      try clear hcz47_2
      try clear hcz47_3
      try clear hcz49_0
      try clear hcz49_1
      try clear hcz49_2
      try clear hcz49_3
      try clear hcz52_0
      try clear hcz52_1
      try clear hcz58_0
      try clear hcz58_1
      try clear hcz58_2
      try clear hcz58_3
      try clear hcz60_0
      try clear hcz60_1
      try clear hcz9_0
      try clear hcz9_1
      try clear hfz11_0
      try clear hfz11_1
      try clear hfz19_0
      try clear hfz19_1
      try clear hfz25_0
      try clear hfz25_1
      try clear hfz28_0
      try clear hfz28_1
      try clear hfz31_0
      try clear hfz31_1
      try clear hfz36_0
      try clear hfz36_1
      try clear hfz36_2
      try clear hfz36_3
      try clear hfz41_0
      try clear hfz41_1
      try clear hfz47_0
      try clear hfz47_1
      try clear hfz47_2
      try clear hfz47_3
      try clear hfz49_0
      try clear hfz49_1
      try clear hfz49_2
      try clear hfz49_3
      try clear hfz52_0
      try clear hfz52_1
      try clear hfz58_0
      try clear hfz58_1
      try clear hfz58_2
      try clear hfz58_3
      try clear hfz60_0
      try clear hfz60_1
      try clear hfz9_0
      try clear hfz9_1
      try clear hx278_0
      try clear hx278_1
      try clear p2
      try clear p27
      try clear p278
      try clear q2
      try clear q27
      try clear q278
      obtain ⟨x56_2, x277000_2, x277001_2, x277002_2, x277003_2, rfl, HA, HK2, BK275, BK276, HB⟩ := hrel
      cases gk with
      | zero => exact absurd HA.out (by simp [zaO.l1])
      | succ k2 =>
       have H := HA.out
       clear HA
       simp only [zaO.l1] at H
       by_cases c61 : x56_2 < (l0_1.length : Int)
       ·rw [if_pos c61] at H
        have c61b0 : decide (x56_2 < (l0_1.length : Int)) = true := decide_eq_true c61
        clear c61
        by_cases c62 : 0 ≤ x56_2
        ·rw [if_pos c62] at H
         have c62b0 : decide (0 ≤ x56_2) = true := decide_eq_true c62
         clear c62
         by_cases c63 : x56_2 < (l0_1.length : Int)
         ·rw [if_pos c63] at H
          have c63b0 : decide (x56_2 < (l0_1.length : Int)) = true := decide_eq_true c63
          clear c63
          replace H := Option.bind_eq_some_iff.mp H
          obtain ⟨⟨t288, t289, t290, t291⟩, A640, H⟩ := H
          replace H : (if (!(t288 == 0) || (!(t289 == 0) || (!(t290 == 0) || (!(t291 == 0))))) = true then (some (t288, t289, t290, t291)) else (zaO.l1 k2 a1 a2 l0_1 (l0_1.length : Int) (wrap64 (x56_2 + 1)) l0_0 l0_1)) = some (r1, r2, r3, r4) := H
          have A64 := zaa.mk A640
          clear A640
          by_cases c65 : (!(t288 == 0) || (!(t289 == 0) || (!(t290 == 0) || (!(t291 == 0))))) = true
          ·rw [if_pos c65] at H
           have c65b0 : (!(t288 == 0) || (!(t289 == 0) || (!(t290 == 0) || (!(t291 == 0))))) = true := c65
           clear c65
           simp only [Option.some.injEq, Prod.mk.injEq] at H
           obtain ⟨rfl, rfl, rfl, rfl⟩ := H
           have p287 : 0 ≤ (x56_2 : Int) := of_decide_eq_true (by first | (with_reducible assumption) | assumption)
           have q287 : x56_2 < (l0_1.length : Int) := of_decide_eq_true (by first | (with_reducible assumption) | assumption)
           obtain ⟨ad287, A287_0, c287_0, e287, hx287_0, hl287_0, hi287_0⟩ := zff HR0_1.out x56_2 p287 q287
           cases e287
           replace hx287_0 := (HB.out.cell (World.block_lt_of_cell? w _ hx287_0)).trans hx287_0
           have HR287_0 := zaa.mk hi287_0
           have HC287_0 := zaa.mk hl287_0
           clear hi287_0 hl287_0
           replace p287 := eq_true p287
           replace q287 := eq_true q287
           have hnb66 := NB275_276.out
           have hnc66 := NB276_275.out
           have hcz67_0 : wr.cell? ⟨gb275, 0, none⟩ = some (.slice A0_0 l0_0.length c0_0) := (zae BK275.out 0).trans rfl
           have hcz67_1 : wr.cell? ⟨gb275, 1, none⟩ = some (.slice (some ad287) l0_1.length c0_1) := (zae BK275.out 1).trans rfl
           have hfz67_0 := zaj BK275.out 0
           have hfz67_1 := zaj BK275.out 1
           go_wp2_with (first | ((with_reducible refine zaG (f := 77) rfl ?_); refine za2 (some 73) rfl rfl Tryd.func77 (by kernel_rfl) rfl #[.slice A287_0 (zcv l0_1 x56_2).length c287_0, .int .i64 (wrap64 ((wrap64 ((l0_0.length : Int) + x56_2)) + 1)), .int .i64 a1, .int .i64 a2, .int .i64 (l0_0.length : Int)] rfl (by (try simp only [List.map_toArray, List.map_cons, List.map_nil]); first | done | rfl | (simp only [List.length_drop, List.length_take]; rfl)) ?_; (with_reducible refine (za3.calls k2 _ _ (zcv l0_1 x56_2) (wrap64 ((wrap64 ((l0_0.length : Int) + x56_2)) + 1)) a1 a2 (l0_0.length : Int) t288 t289 t290 t291 _ ?side1 ?side2 A64.out).mono ?_); (case side1 => repeat (first | exact (Kd.za7 HR287_0.out HB.out) | (with_reducible refine Kd.zaT ?_ _) | (with_reducible refine Kd.zaU ?_ _) | (with_reducible refine Kd.za0 ?_))); (case side2 => exact HC287_0.out); rintro e w68 ⟨rfl, hb⟩; refine ⟨_, rfl, ?_⟩; have n0_ := zaa.mk (zaP (g := gb275) (o := .cells #[.slice A0_0 l0_0.length c0_0, .slice (some ad287) l0_1.length c0_1] 50 (0, 0)) (by (with_reducible repeat (first | refine zah ?_ _ | refine zak ?_ | refine zaf ?_ _)); exact BK275.out) hb); have n1_ := zaa.mk (zaP (g := gb276) (o := .cells #[.int .i64 x277000_2, .int .i64 x277001_2, .int .i64 x277002_2, .int .i64 x277003_2] 25 (0, 0)) (by (with_reducible repeat (first | refine zah ?_ _ | refine zak ?_ | refine zaf ?_ _)); exact BK276.out) hb); have n2_ := zaa.mk (zax (by repeat (first | (with_reducible first | exact HB.out | apply zac | apply zab | apply zad | refine zai ?_ GE275.out | refine zai ?_ GE276.out) | exact HB.out)) hb); clear BK275; clear BK276; clear HB; have BK275 := n0_; have BK276 := n1_; have HB := n2_; clear n0_ n1_ n2_; (try clear hb); (try clear hb2); (try clear hk); (try clear hi)) | ((with_reducible refine zbc (N := 12) rfl ?_); refine zbb ?hg (N := 12) ?hd (cs := #[.int .i64 0, .int .i64 0, .int .i64 0, .int .i64 0]) (t := 25) ?hr ?_; (case hd => rfl); (case hg => rfl); (case hr => first | (go_simp; done) | (go_simp; rfl)); intro gb292 hg w69 hbox hb; have n0_ := zaa.mk (zaP (g := gb275) (o := .cells #[.slice A0_0 l0_0.length c0_0, .slice (some ad287) l0_1.length c0_1] 50 (0, 0)) (by (with_reducible repeat (first | refine zah ?_ _ | refine zak ?_ | refine zaf ?_ _)); exact BK275.out) hb); have n1_ := zaa.mk (zaP (g := gb276) (o := .cells #[.int .i64 x277000_2, .int .i64 x277001_2, .int .i64 x277002_2, .int .i64 x277003_2] 25 (0, 0)) (by (with_reducible repeat (first | refine zah ?_ _ | refine zak ?_ | refine zaf ?_ _)); exact BK276.out) hb); have n2_ := zaa.mk (zax (by repeat (first | (with_reducible first | exact HB.out | apply zac | apply zab | apply zad | refine zai ?_ GE275.out | refine zai ?_ GE276.out) | exact HB.out)) hb); have n3_ := zaa.mk (hbox); have n4_ := zaa.mk ((by rw [hg]; exact (zay (by repeat (first | (with_reducible first | exact HB.out | apply zac | apply zab | apply zad | refine zai ?_ GE275.out | refine zai ?_ GE276.out) | exact HB.out))) : w.heap.size ≤ gb292)); have n5_ := zaa.mk ((by rw [hg]; exact (zay (by repeat (first | (with_reducible first | exact HB.out | apply zac | apply zab | apply zad | refine zai ?_ GE275.out | refine zai ?_ GE276.out) | exact HB.out))) : w.heap.size ≤ gb292)); have n6_ := zaa.mk ((by rw [hg]; exact Nat.ne_of_lt (zbt (g := gb275) (o := .cells #[.slice A0_0 l0_0.length c0_0, .slice (some ad287) l0_1.length c0_1] 50 (0, 0)) (by (with_reducible repeat (first | refine zah ?_ _ | refine zak ?_ | refine zaf ?_ _)); exact BK275.out)) : gb275 ≠ gb292)); have n7_ := zaa.mk ((by rw [hg]; exact Nat.ne_of_gt (zbt (g := gb275) (o := .cells #[.slice A0_0 l0_0.length c0_0, .slice (some ad287) l0_1.length c0_1] 50 (0, 0)) (by (with_reducible repeat (first | refine zah ?_ _ | refine zak ?_ | refine zaf ?_ _)); exact BK275.out)) : gb292 ≠ gb275)); have n8_ := zaa.mk ((by rw [hg]; exact Nat.ne_of_lt (zbt (g := gb276) (o := .cells #[.int .i64 x277000_2, .int .i64 x277001_2, .int .i64 x277002_2, .int .i64 x277003_2] 25 (0, 0)) (by (with_reducible repeat (first | refine zah ?_ _ | refine zak ?_ | refine zaf ?_ _)); exact BK276.out)) : gb276 ≠ gb292)); have n9_ := zaa.mk ((by rw [hg]; exact Nat.ne_of_gt (zbt (g := gb276) (o := .cells #[.int .i64 x277000_2, .int .i64 x277001_2, .int .i64 x277002_2, .int .i64 x277003_2] 25 (0, 0)) (by (with_reducible repeat (first | refine zah ?_ _ | refine zak ?_ | refine zaf ?_ _)); exact BK276.out)) : gb292 ≠ gb276)); clear BK275; clear BK276; clear HB; have BK275 := n0_; have BK276 := n1_; have HB := n2_; have BK292 := n3_; have GW292 := n4_; have GE292 := n5_; have NB275_292 := n6_; have NB292_275 := n7_; have NB276_292 := n8_; have NB292_276 := n9_; clear n0_ n1_ n2_ n3_ n4_ n5_ n6_ n7_ n8_ n9_; clear hb hbox hg; have hnb70 := NB292_275.out; have hnc70 := NB275_292.out; have hnb71 := NB292_276.out; have hnc71 := NB276_292.out; have hcz72_0 : w69.cell? ⟨gb292, 0, none⟩ = some (.int .i64 0) := (zae BK292.out 0).trans rfl; have hcz72_1 : w69.cell? ⟨gb292, 1, none⟩ = some (.int .i64 0) := (zae BK292.out 1).trans rfl; have hcz72_2 : w69.cell? ⟨gb292, 2, none⟩ = some (.int .i64 0) := (zae BK292.out 2).trans rfl; have hcz72_3 : w69.cell? ⟨gb292, 3, none⟩ = some (.int .i64 0) := (zae BK292.out 3).trans rfl; have hfz72_0 := zaj BK292.out 0; have hfz72_1 := zaj BK292.out 1; have hfz72_2 := zaj BK292.out 2; have hfz72_3 := zaj BK292.out 3; have hcz73_0 : w69.cell? ⟨gb276, 0, none⟩ = some (.int .i64 x277000_2) := (zae BK276.out 0).trans rfl; have hcz73_1 : w69.cell? ⟨gb276, 1, none⟩ = some (.int .i64 x277001_2) := (zae BK276.out 1).trans rfl; have hcz73_2 : w69.cell? ⟨gb276, 2, none⟩ = some (.int .i64 x277002_2) := (zae BK276.out 2).trans rfl; have hcz73_3 : w69.cell? ⟨gb276, 3, none⟩ = some (.int .i64 x277003_2) := (zae BK276.out 3).trans rfl; have hfz73_0 := zaj BK276.out 0; have hfz73_1 := zaj BK276.out 1; have hfz73_2 := zaj BK276.out 2; have hfz73_3 := zaj BK276.out 3))
           refine bodyPost_ret (results_cell_row rfl _ _ gb276 25 #[.int .i64 t288, .int .i64 t289, .int .i64 t290, .int .i64 t291] (0, 0) _ rfl (by (with_reducible repeat (first | refine zah ?_ _ | refine zak ?_ | refine zaf ?_ _)); refine za8 (cs := #[.int .i64 t288, .int .i64 t289, .int .i64 t290, .int .i64 x277003_2]) ?_ 3 _ rfl; (with_reducible repeat (first | refine zah ?_ _ | refine zak ?_ | refine zaf ?_ _)); refine za8 (cs := #[.int .i64 t288, .int .i64 t289, .int .i64 x277002_2, .int .i64 x277003_2]) ?_ 2 _ rfl; (with_reducible repeat (first | refine zah ?_ _ | refine zak ?_ | refine zaf ?_ _)); refine za8 (cs := #[.int .i64 t288, .int .i64 x277001_2, .int .i64 x277002_2, .int .i64 x277003_2]) ?_ 1 _ rfl; (with_reducible repeat (first | refine zah ?_ _ | refine zak ?_ | refine zaf ?_ _)); refine za8 (cs := #[.int .i64 x277000_2, .int .i64 x277001_2, .int .i64 x277002_2, .int .i64 x277003_2]) ?_ 0 _ rfl; (with_reducible repeat (first | refine zah ?_ _ | refine zak ?_ | refine zaf ?_ _)); refine zbm ?_ NB276_292.out _; (with_reducible repeat (first | refine zah ?_ _ | refine zak ?_ | refine zaf ?_ _)); refine zbm ?_ NB276_292.out _; (with_reducible repeat (first | refine zah ?_ _ | refine zak ?_ | refine zaf ?_ _)); refine zbm ?_ NB276_292.out _; (with_reducible repeat (first | refine zah ?_ _ | refine zak ?_ | refine zaf ?_ _)); refine zbm ?_ NB276_292.out _; (with_reducible repeat (first | refine zah ?_ _ | refine zak ?_ | refine zaf ?_ _)); exact BK276.out) Tryd.underlying25 rfl (by kernel_rfl)) rfl ?_
           exact ⟨by first | rfl | (simp [zan, zam] <;> rfl) | (simp [*, zan, zam] <;> rfl), by repeat (first | (with_reducible first | exact HB.out | apply zac | apply zab | apply zad | refine zai ?_ GE275.out | refine zai ?_ GE276.out | refine zai ?_ GE292.out) | exact HB.out)⟩
          ·rw [if_neg c65] at H
           have c65b0 : (!(t288 == 0) || (!(t289 == 0) || (!(t290 == 0) || (!(t291 == 0))))) = false := by simpa using c65
           clear c65
           have H' := zaa.mk H
           clear H
           have p287 : 0 ≤ (x56_2 : Int) := of_decide_eq_true (by first | (with_reducible assumption) | assumption)
           have q287 : x56_2 < (l0_1.length : Int) := of_decide_eq_true (by first | (with_reducible assumption) | assumption)
           obtain ⟨ad287, A287_0, c287_0, e287, hx287_0, hl287_0, hi287_0⟩ := zff HR0_1.out x56_2 p287 q287
           cases e287
           replace hx287_0 := (HB.out.cell (World.block_lt_of_cell? w _ hx287_0)).trans hx287_0
           have HR287_0 := zaa.mk hi287_0
           have HC287_0 := zaa.mk hl287_0
           clear hi287_0 hl287_0
           replace p287 := eq_true p287
           replace q287 := eq_true q287
           have hnb74 := NB275_276.out
           have hnc74 := NB276_275.out
           have hcz75_0 : wr.cell? ⟨gb275, 0, none⟩ = some (.slice A0_0 l0_0.length c0_0) := (zae BK275.out 0).trans rfl
           have hcz75_1 : wr.cell? ⟨gb275, 1, none⟩ = some (.slice (some ad287) l0_1.length c0_1) := (zae BK275.out 1).trans rfl
           have hfz75_0 := zaj BK275.out 0
           have hfz75_1 := zaj BK275.out 1
           go_wp2_with (first | ((with_reducible refine zaG (f := 77) rfl ?_); refine za2 (some 73) rfl rfl Tryd.func77 (by kernel_rfl) rfl #[.slice A287_0 (zcv l0_1 x56_2).length c287_0, .int .i64 (wrap64 ((wrap64 ((l0_0.length : Int) + x56_2)) + 1)), .int .i64 a1, .int .i64 a2, .int .i64 (l0_0.length : Int)] rfl (by (try simp only [List.map_toArray, List.map_cons, List.map_nil]); first | done | rfl | (simp only [List.length_drop, List.length_take]; rfl)) ?_; (with_reducible refine (za3.calls k2 _ _ (zcv l0_1 x56_2) (wrap64 ((wrap64 ((l0_0.length : Int) + x56_2)) + 1)) a1 a2 (l0_0.length : Int) t288 t289 t290 t291 _ ?side1 ?side2 A64.out).mono ?_); (case side1 => repeat (first | exact (Kd.za7 HR287_0.out HB.out) | (with_reducible refine Kd.zaT ?_ _) | (with_reducible refine Kd.zaU ?_ _) | (with_reducible refine Kd.za0 ?_))); (case side2 => exact HC287_0.out); rintro e w76 ⟨rfl, hb⟩; refine ⟨_, rfl, ?_⟩; have n0_ := zaa.mk (zaP (g := gb275) (o := .cells #[.slice A0_0 l0_0.length c0_0, .slice (some ad287) l0_1.length c0_1] 50 (0, 0)) (by (with_reducible repeat (first | refine zah ?_ _ | refine zak ?_ | refine zaf ?_ _)); exact BK275.out) hb); have n1_ := zaa.mk (zaP (g := gb276) (o := .cells #[.int .i64 x277000_2, .int .i64 x277001_2, .int .i64 x277002_2, .int .i64 x277003_2] 25 (0, 0)) (by (with_reducible repeat (first | refine zah ?_ _ | refine zak ?_ | refine zaf ?_ _)); exact BK276.out) hb); have n2_ := zaa.mk (zax (by repeat (first | (with_reducible first | exact HB.out | apply zac | apply zab | apply zad | refine zai ?_ GE275.out | refine zai ?_ GE276.out) | exact HB.out)) hb); clear BK275; clear BK276; clear HB; have BK275 := n0_; have BK276 := n1_; have HB := n2_; clear n0_ n1_ n2_; (try clear hb); (try clear hb2); (try clear hk); (try clear hi)) | ((with_reducible refine zbc (N := 12) rfl ?_); refine zbb ?hg (N := 12) ?hd (cs := #[.int .i64 0, .int .i64 0, .int .i64 0, .int .i64 0]) (t := 25) ?hr ?_; (case hd => rfl); (case hg => rfl); (case hr => first | (go_simp; done) | (go_simp; rfl)); intro gb292 hg w77 hbox hb; have n0_ := zaa.mk (zaP (g := gb275) (o := .cells #[.slice A0_0 l0_0.length c0_0, .slice (some ad287) l0_1.length c0_1] 50 (0, 0)) (by (with_reducible repeat (first | refine zah ?_ _ | refine zak ?_ | refine zaf ?_ _)); exact BK275.out) hb); have n1_ := zaa.mk (zaP (g := gb276) (o := .cells #[.int .i64 x277000_2, .int .i64 x277001_2, .int .i64 x277002_2, .int .i64 x277003_2] 25 (0, 0)) (by (with_reducible repeat (first | refine zah ?_ _ | refine zak ?_ | refine zaf ?_ _)); exact BK276.out) hb); have n2_ := zaa.mk (zax (by repeat (first | (with_reducible first | exact HB.out | apply zac | apply zab | apply zad | refine zai ?_ GE275.out | refine zai ?_ GE276.out) | exact HB.out)) hb); have n3_ := zaa.mk (hbox); have n4_ := zaa.mk ((by rw [hg]; exact (zay (by repeat (first | (with_reducible first | exact HB.out | apply zac | apply zab | apply zad | refine zai ?_ GE275.out | refine zai ?_ GE276.out) | exact HB.out))) : w.heap.size ≤ gb292)); have n5_ := zaa.mk ((by rw [hg]; exact (zay (by repeat (first | (with_reducible first | exact HB.out | apply zac | apply zab | apply zad | refine zai ?_ GE275.out | refine zai ?_ GE276.out) | exact HB.out))) : w.heap.size ≤ gb292)); have n6_ := zaa.mk ((by rw [hg]; exact Nat.ne_of_lt (zbt (g := gb275) (o := .cells #[.slice A0_0 l0_0.length c0_0, .slice (some ad287) l0_1.length c0_1] 50 (0, 0)) (by (with_reducible repeat (first | refine zah ?_ _ | refine zak ?_ | refine zaf ?_ _)); exact BK275.out)) : gb275 ≠ gb292)); have n7_ := zaa.mk ((by rw [hg]; exact Nat.ne_of_gt (zbt (g := gb275) (o := .cells #[.slice A0_0 l0_0.length c0_0, .slice (some ad287) l0_1.length c0_1] 50 (0, 0)) (by (with_reducible repeat (first | refine zah ?_ _ | refine zak ?_ | refine zaf ?_ _)); exact BK275.out)) : gb292 ≠ gb275)); have n8_ := zaa.mk ((by rw [hg]; exact Nat.ne_of_lt (zbt (g := gb276) (o := .cells #[.int .i64 x277000_2, .int .i64 x277001_2, .int .i64 x277002_2, .int .i64 x277003_2] 25 (0, 0)) (by (with_reducible repeat (first | refine zah ?_ _ | refine zak ?_ | refine zaf ?_ _)); exact BK276.out)) : gb276 ≠ gb292)); have n9_ := zaa.mk ((by rw [hg]; exact Nat.ne_of_gt (zbt (g := gb276) (o := .cells #[.int .i64 x277000_2, .int .i64 x277001_2, .int .i64 x277002_2, .int .i64 x277003_2] 25 (0, 0)) (by (with_reducible repeat (first | refine zah ?_ _ | refine zak ?_ | refine zaf ?_ _)); exact BK276.out)) : gb292 ≠ gb276)); clear BK275; clear BK276; clear HB; have BK275 := n0_; have BK276 := n1_; have HB := n2_; have BK292 := n3_; have GW292 := n4_; have GE292 := n5_; have NB275_292 := n6_; have NB292_275 := n7_; have NB276_292 := n8_; have NB292_276 := n9_; clear n0_ n1_ n2_ n3_ n4_ n5_ n6_ n7_ n8_ n9_; clear hb hbox hg; have hnb78 := NB292_275.out; have hnc78 := NB275_292.out; have hnb79 := NB292_276.out; have hnc79 := NB276_292.out; have hcz80_0 : w77.cell? ⟨gb292, 0, none⟩ = some (.int .i64 0) := (zae BK292.out 0).trans rfl; have hcz80_1 : w77.cell? ⟨gb292, 1, none⟩ = some (.int .i64 0) := (zae BK292.out 1).trans rfl; have hcz80_2 : w77.cell? ⟨gb292, 2, none⟩ = some (.int .i64 0) := (zae BK292.out 2).trans rfl; have hcz80_3 : w77.cell? ⟨gb292, 3, none⟩ = some (.int .i64 0) := (zae BK292.out 3).trans rfl; have hfz80_0 := zaj BK292.out 0; have hfz80_1 := zaj BK292.out 1; have hfz80_2 := zaj BK292.out 2; have hfz80_3 := zaj BK292.out 3))
           go_roundg k2
           case measure => have := HK1.out; have := HK2.out; omega
           case rel => exact ⟨(wrap64 (x56_2 + 1)), (x277000_2), (x277001_2), (x277002_2), (x277003_2), (by first | rfl | (simp; done) | (simp [*]; done)), H', ⟨by have := HK1.out; have := HK2.out; omega⟩, ⟨by (with_reducible repeat (first | refine zah ?_ _ | refine zak ?_ | refine zaf ?_ _)); refine zbm ?_ NB275_292.out _; (with_reducible repeat (first | refine zah ?_ _ | refine zak ?_ | refine zaf ?_ _)); refine zbm ?_ NB275_292.out _; (with_reducible repeat (first | refine zah ?_ _ | refine zak ?_ | refine zaf ?_ _)); refine zbm ?_ NB275_292.out _; (with_reducible repeat (first | refine zah ?_ _ | refine zak ?_ | refine zaf ?_ _)); refine zbm ?_ NB275_292.out _; (with_reducible repeat (first | refine zah ?_ _ | refine zak ?_ | refine zaf ?_ _)); exact BK275.out⟩, ⟨by (with_reducible repeat (first | refine zah ?_ _ | refine zak ?_ | refine zaf ?_ _)); refine zbm ?_ NB276_292.out _; (with_reducible repeat (first | refine zah ?_ _ | refine zak ?_ | refine zaf ?_ _)); refine zbm ?_ NB276_292.out _; (with_reducible repeat (first | refine zah ?_ _ | refine zak ?_ | refine zaf ?_ _)); refine zbm ?_ NB276_292.out _; (with_reducible repeat (first | refine zah ?_ _ | refine zak ?_ | refine zaf ?_ _)); refine zbm ?_ NB276_292.out _; (with_reducible repeat (first | refine zah ?_ _ | refine zak ?_ | refine zaf ?_ _)); exact BK276.out⟩, ⟨by repeat (first | (with_reducible first | exact HB.out | apply zac | apply zab | apply zad | refine zai ?_ GE275.out | refine zai ?_ GE276.out | refine zai ?_ GE292.out) | exact HB.out)⟩⟩
         ·rw [if_neg c63] at H
          exact absurd H (by simp)
        ·rw [if_neg c62] at H
         exact absurd H (by simp)
       ·rw [if_neg c61] at H
        have c61b0 : decide (x56_2 < (l0_1.length : Int)) = false := decide_eq_false c61
        clear c61
        simp only [Option.some.injEq, Prod.mk.injEq] at H
        obtain ⟨rfl, rfl, rfl, rfl⟩ := H
        have hnb81 := NB276_275.out
        have hnc81 := NB275_276.out
        have hcz82_0 : wr.cell? ⟨gb276, 0, none⟩ = some (.int .i64 x277000_2) := (zae BK276.out 0).trans rfl
        have hcz82_1 : wr.cell? ⟨gb276, 1, none⟩ = some (.int .i64 x277001_2) := (zae BK276.out 1).trans rfl
        have hcz82_2 : wr.cell? ⟨gb276, 2, none⟩ = some (.int .i64 x277002_2) := (zae BK276.out 2).trans rfl
        have hcz82_3 : wr.cell? ⟨gb276, 3, none⟩ = some (.int .i64 x277003_2) := (zae BK276.out 3).trans rfl
        have hfz82_0 := zaj BK276.out 0
        have hfz82_1 := zaj BK276.out 1
        have hfz82_2 := zaj BK276.out 2
        have hfz82_3 := zaj BK276.out 3
        go_wp2
        refine bodyPost_ret (results_cell_row rfl _ _ gb276 25 #[.int .i64 0, .int .i64 0, .int .i64 0, .int .i64 0] (0, 0) _ rfl (by (with_reducible repeat (first | refine zah ?_ _ | refine zak ?_ | refine zaf ?_ _)); refine za8 (cs := #[.int .i64 0, .int .i64 0, .int .i64 0, .int .i64 x277003_2]) ?_ 3 _ rfl; (with_reducible repeat (first | refine zah ?_ _ | refine zak ?_ | refine zaf ?_ _)); refine za8 (cs := #[.int .i64 0, .int .i64 0, .int .i64 x277002_2, .int .i64 x277003_2]) ?_ 2 _ rfl; (with_reducible repeat (first | refine zah ?_ _ | refine zak ?_ | refine zaf ?_ _)); refine za8 (cs := #[.int .i64 0, .int .i64 x277001_2, .int .i64 x277002_2, .int .i64 x277003_2]) ?_ 1 _ rfl; (with_reducible repeat (first | refine zah ?_ _ | refine zak ?_ | refine zaf ?_ _)); refine za8 (cs := #[.int .i64 x277000_2, .int .i64 x277001_2, .int .i64 x277002_2, .int .i64 x277003_2]) ?_ 0 _ rfl; (with_reducible repeat (first | refine zah ?_ _ | refine zak ?_ | refine zaf ?_ _)); exact BK276.out) Tryd.underlying25 rfl (by kernel_rfl)) rfl ?_
        exact ⟨by first | rfl | (simp [zan, zam] <;> rfl) | (simp [*, zan, zam] <;> rfl), by repeat (first | (with_reducible first | exact HB.out | apply zac | apply zab | apply zad | refine zai ?_ GE275.out | refine zai ?_ GE276.out) | exact HB.out)⟩
 ·replace c5 := Bool.eq_false_iff.mpr c5
  subst c5
  have H1 : (some (2, 0, 0, 0)) = some (r1, r2, r3, r4) := by rw [if_neg (show ¬ (false = true) by decide)] at H; exact H
  clear H
  have H := H1
  clear H1
  simp only [Option.some.injEq, Prod.mk.injEq] at H
  obtain ⟨rfl, rfl, rfl, rfl⟩ := H
  go_enter Tryd.func26, Tryd.ntmps26
  go_wp2_with (first | ((with_reducible refine zbc (N := 3) rfl ?_); refine zbb ?hg (N := 3) ?hd (cs := #[.slice A0_0 l0_0.length c0_0, .slice A0_1 l0_1.length c0_1]) (t := 50) ?hr ?_; (case hd => rfl); (case hg => rfl); (case hr => first | (go_simp; done) | (go_simp; rfl)); intro gb275 hg w83 hbox hb; have n0_ := zaa.mk (zax (by repeat (first | (with_reducible first | exact HB.out | apply zac | apply zab | apply zad) | exact HB.out)) hb); have n1_ := zaa.mk (hbox); have n2_ := zaa.mk ((by rw [hg]; exact (zay (by repeat (first | (with_reducible first | exact HB.out | apply zac | apply zab | apply zad) | exact HB.out))) : w.heap.size ≤ gb275)); have n3_ := zaa.mk ((by rw [hg]; exact (zay (by repeat (first | (with_reducible first | exact HB.out | apply zac | apply zab | apply zad) | exact HB.out))) : w.heap.size ≤ gb275)); clear HB; have HB := n0_; have BK275 := n1_; have GW275 := n2_; have GE275 := n3_; clear n0_ n1_ n2_ n3_; clear hb hbox hg) | ((with_reducible refine zbc (N := 6) rfl ?_); refine zbb ?hg (N := 6) ?hd (cs := #[.int .i64 0, .int .i64 0, .int .i64 0, .int .i64 0]) (t := 25) ?hr ?_; (case hd => rfl); (case hg => rfl); (case hr => first | (go_simp; done) | (go_simp; rfl)); intro gb276 hg w84 hbox hb; have n0_ := zaa.mk (zaP (g := gb275) (o := .cells #[.slice A0_0 l0_0.length c0_0, .slice A0_1 l0_1.length c0_1] 50 (0, 0)) (by (with_reducible repeat (first | refine zah ?_ _ | refine zak ?_ | refine zaf ?_ _)); exact BK275.out) hb); have n1_ := zaa.mk (zax (by repeat (first | (with_reducible first | exact HB.out | apply zac | apply zab | apply zad | refine zai ?_ GE275.out) | exact HB.out)) hb); have n2_ := zaa.mk (hbox); have n3_ := zaa.mk ((by rw [hg]; exact (zay (by repeat (first | (with_reducible first | exact HB.out | apply zac | apply zab | apply zad | refine zai ?_ GE275.out) | exact HB.out))) : w.heap.size ≤ gb276)); have n4_ := zaa.mk ((by rw [hg]; exact (zay (by repeat (first | (with_reducible first | exact HB.out | apply zac | apply zab | apply zad | refine zai ?_ GE275.out) | exact HB.out))) : w.heap.size ≤ gb276)); have n5_ := zaa.mk ((by rw [hg]; exact Nat.ne_of_lt (zbt (g := gb275) (o := .cells #[.slice A0_0 l0_0.length c0_0, .slice A0_1 l0_1.length c0_1] 50 (0, 0)) (by (with_reducible repeat (first | refine zah ?_ _ | refine zak ?_ | refine zaf ?_ _)); exact BK275.out)) : gb275 ≠ gb276)); have n6_ := zaa.mk ((by rw [hg]; exact Nat.ne_of_gt (zbt (g := gb275) (o := .cells #[.slice A0_0 l0_0.length c0_0, .slice A0_1 l0_1.length c0_1] 50 (0, 0)) (by (with_reducible repeat (first | refine zah ?_ _ | refine zak ?_ | refine zaf ?_ _)); exact BK275.out)) : gb276 ≠ gb275)); clear BK275; clear HB; have BK275 := n0_; have HB := n1_; have BK276 := n2_; have GW276 := n3_; have GE276 := n4_; have NB275_276 := n5_; have NB276_275 := n6_; clear n0_ n1_ n2_ n3_ n4_ n5_ n6_; clear hb hbox hg; have hnb85 := NB275_276.out; have hnc85 := NB276_275.out; have hcz86_0 : w84.cell? ⟨gb275, 0, none⟩ = some (.slice A0_0 l0_0.length c0_0) := (zae BK275.out 0).trans rfl; have hcz86_1 : w84.cell? ⟨gb275, 1, none⟩ = some (.slice A0_1 l0_1.length c0_1) := (zae BK275.out 1).trans rfl; have hfz86_0 := zaj BK275.out 0; have hfz86_1 := zaj BK275.out 1) | ((with_reducible refine zaG (f := 75) rfl ?_); refine za2 (some 16) rfl rfl Tryd.func75 (by kernel_rfl) rfl #[.agg #[.slice A0_0 l0_0.length c0_0, .slice A0_1 l0_1.length c0_1], .int .i64 a1, .int .i64 a2] rfl (by (try simp only [List.map_toArray, List.map_cons, List.map_nil]); first | done | rfl | (simp only [List.length_drop, List.length_take]; rfl)) ?_; (with_reducible refine (zbu.calls k _ _ l0_0 _ _ l0_1 a1 a2 false _ ?side1 ?side2 ?side3 ?side4 A4.out).mono ?_); (case side1 => repeat (first | exact (Kd.za7 HR0_0.out HB.out) | (with_reducible refine Kd.zaT ?_ _) | (with_reducible refine Kd.zaU ?_ _) | (with_reducible refine Kd.za0 ?_))); (case side2 => exact HC0_0.out); (case side3 => repeat (first | exact (Kd.za7 HR0_1.out HB.out) | (with_reducible refine Kd.zaT ?_ _) | (with_reducible refine Kd.zaU ?_ _) | (with_reducible refine Kd.za0 ?_))); (case side4 => exact HC0_1.out); rintro e w87 ⟨rfl, hb⟩; refine ⟨_, rfl, ?_⟩; have n0_ := zaa.mk (zaP (g := gb275) (o := .cells #[.slice A0_0 l0_0.length c0_0, .slice A0_1 l0_1.length c0_1] 50 (0, 0)) (by (with_reducible repeat (first | refine zah ?_ _ | refine zak ?_ | refine zaf ?_ _)); exact BK275.out) hb); have n1_ := zaa.mk (zaP (g := gb276) (o := .cells #[.int .i64 0, .int .i64 0, .int .i64 0, .int .i64 0] 25 (0, 0)) (by (with_reducible repeat (first | refine zah ?_ _ | refine zak ?_ | refine zaf ?_ _)); exact BK276.out) hb); have n2_ := zaa.mk (zax (by repeat (first | (with_reducible first | exact HB.out | apply zac | apply zab | apply zad | refine zai ?_ GE275.out | refine zai ?_ GE276.out) | exact HB.out)) hb); clear BK275; clear BK276; clear HB; have BK275 := n0_; have BK276 := n1_; have HB := n2_; clear n0_ n1_ n2_; (try clear hb); (try clear hb2); (try clear hk); (try clear hi); have hcz88_0 : w87.cell? ⟨gb276, 0, none⟩ = some (.int .i64 0) := (zae BK276.out 0).trans rfl; have hcz88_1 : w87.cell? ⟨gb276, 1, none⟩ = some (.int .i64 0) := (zae BK276.out 1).trans rfl; have hcz88_2 : w87.cell? ⟨gb276, 2, none⟩ = some (.int .i64 0) := (zae BK276.out 2).trans rfl; have hcz88_3 : w87.cell? ⟨gb276, 3, none⟩ = some (.int .i64 0) := (zae BK276.out 3).trans rfl; have hfz88_0 := zaj BK276.out 0; have hfz88_1 := zaj BK276.out 1; have hfz88_2 := zaj BK276.out 2; have hfz88_3 := zaj BK276.out 3))
  refine bodyPost_ret (results_cell_row rfl _ _ gb276 25 #[.int .i64 2, .int .i64 0, .int .i64 0, .int .i64 0] (0, 0) _ rfl (by (with_reducible repeat (first | refine zah ?_ _ | refine zak ?_ | refine zaf ?_ _)); refine za8 (cs := #[.int .i64 2, .int .i64 0, .int .i64 0, .int .i64 0]) ?_ 3 _ rfl; (with_reducible repeat (first | refine zah ?_ _ | refine zak ?_ | refine zaf ?_ _)); refine za8 (cs := #[.int .i64 2, .int .i64 0, .int .i64 0, .int .i64 0]) ?_ 2 _ rfl; (with_reducible repeat (first | refine zah ?_ _ | refine zak ?_ | refine zaf ?_ _)); refine za8 (cs := #[.int .i64 2, .int .i64 0, .int .i64 0, .int .i64 0]) ?_ 1 _ rfl; (with_reducible repeat (first | refine zah ?_ _ | refine zak ?_ | refine zaf ?_ _)); refine za8 (cs := #[.int .i64 0, .int .i64 0, .int .i64 0, .int .i64 0]) ?_ 0 _ rfl; (with_reducible repeat (first | refine zah ?_ _ | refine zak ?_ | refine zaf ?_ _)); exact BK276.out) Tryd.underlying25 rfl (by kernel_rfl)) rfl ?_
  exact ⟨by first | rfl | (simp [zan, zam] <;> rfl) | (simp [*, zan, zam] <;> rfl), by repeat (first | (with_reducible first | exact HB.out | apply zac | apply zab | apply zad | refine zai ?_ GE275.out | refine zai ?_ GE276.out) | exact HB.out)⟩
end Go.Proofs.YtbicjgaadknmfaaDoor.P
end
section
namespace Go.Proofs.YtbicjgaadknmfaaDoor.P
open Go.RowKit Go.Proofs.YtbicjgaadknmfaaDoorW.PrintWords
set_option linter.unusedVariables false
set_option linter.unusedSimpArgs false
abbrev kN := k60
theorem ziL {α : Type} (d : Kd α) (e : Nat) (W : World) (x : α) (cs : List Value) (h : d.K (W.alloc (.cells cs.toArray e)) x cs) :
    d.C (W.alloc (.cells cs.toArray e)) (some ⟨W.heap.size, 0, none⟩) 1 [x] := by
  have hl := d.K_len h
  have ho := World.ownsRow_lit (base := W.heap.size) (e := e) (size := d.sz) W cs.toArray 1 (Nat.le_refl _) (by unfold maxLen; omega) (by simpa using hl)
  have hR : Reps (d.K (W.alloc (.cells cs.toArray e))) d.sz [x] cs.toArray.toList := (Reps.none _ d.sz).snoc (by simpa using h) (by simpa using hl)
  obtain ⟨A, c, hv, hr⟩ := zec ho hR rfl
  injection hv with h1 _ _
  subst h1
  exact hr
theorem zgW (W : World) (i : Int) (n : Nat) (hn : W.heap.size = n) : Kd.C (Kd.slice 60 kN) ((W.alloc (.cells #[.int .i64 3, .int .i64 i, .slice none 0 0] 60)).alloc (.cells #[.slice (some ⟨n, 0, none⟩) 1 1] 56)) (some ⟨n + 1, 0, none⟩) 1 [[⟨3, i, []⟩]] := by
  subst hn
  have h1 := ziL kN 60 W ⟨3, i, []⟩ _ (zhG _ ⟨3, i, []⟩ (A2 := none) (c2 := 0) (Nat.le_refl _) (Kd.zf0 _ _))
  have h2 := ziL (Kd.slice 60 kN) 56 (W.alloc (.cells #[.int .i64 3, .int .i64 i, .slice none 0 0] 60)) [⟨3, i, []⟩] [.slice (some ⟨W.heap.size, 0, none⟩) 1 1] ⟨_, _, rfl, Nat.le_refl _, Kd.za7 h1 (zac (Below.refl _ _) _)⟩
  have e : (W.alloc (.cells #[.int .i64 3, .int .i64 i, .slice none 0 0] 60)).heap.size = W.heap.size + 1 := by simp
  rw [e] at h2
  exact h2
theorem ex1 : zaO.f 30 [] [[⟨3, 0, []⟩]] 1 0 = some (0, 0, 0, 0) := by kernel_rfl
theorem ex2 : zaO.f 30 [] [[⟨3, 1, []⟩]] 1 0 = some (2, 1, 0, 0) := by kernel_rfl
theorem ex3 : zbD.f ⟨#[97]⟩ = some true := by kernel_rfl
theorem ex4 : zbD.f ⟨#[116]⟩ = some false := by kernel_rfl
theorem zfA (W : World) (A : Option Addr) (i q1 q2 q3 q4 : Int) (hq : zaO.f 30 [] [[⟨3, i, []⟩]] 1 0 = some (q1, q2, q3, q4)) (h : Kd.C (Kd.slice 60 kN) W A 1 [[⟨3, i, []⟩]]) :
    Calls Tryd.prog 26 #[.agg #[.slice none 0 0, .slice A 1 1], .int .i64 1, .int .i64 0] W fun e w' => e = .returned (.agg #[.int .i64 q1, .int .i64 q2, .int .i64 q3, .int .i64 q4]) ∧ Below W.heap.size W w' :=
  zaO.calls 30 none 0 [] A 1 [[⟨3, i, []⟩]] 1 0 q1 q2 q3 q4 W (Kd.zf0 _ _) (Nat.le_refl _) h (Nat.le_refl _) hq
def zbj.f : Option Bool := some true
set_option maxHeartbeats 1000000 in
set_option maxRecDepth 100000 in
theorem zbj.calls (r : Bool) (w : World) (h : zbj.f = some r) :
    Calls Tryd.prog 24 #[] w fun e w' => e = .returned (.bool r) ∧ Below w.heap.size w w' := by
  obtain rfl := Option.some.inj h
  clear h
  go_enter Tryd.func24, Tryd.ntmps24
  go_wp2_with fail
  refine (zfA _ _ 0 _ _ _ _ ex1 (Kd.zaT (Kd.zaT (Kd.zaT (Kd.zaT (zgW w 0 _ rfl) _) _) _) _)).mono ?_
  rintro e w1 ⟨rfl, hb⟩
  have HB := zaa.mk hb
  have k0 := zbF hb (a := ⟨w.heap.size + 1 + 1 + 1 + 1 + 1, 0, none⟩) (v := .slice none 0 0) (by go_simp)
  have k1 := zbF hb (a := ⟨w.heap.size + 1 + 1 + 1 + 1 + 1, 1, none⟩) (v := .slice (some ⟨w.heap.size + 1 + 1 + 1 + 1, 0, none⟩) 1 1) (by go_simp)
  have HC := zaa.mk (Kd.za7 (Kd.zaT (zgW (((w.alloc (.cells #[.int .i64 3, .int .i64 0, .slice none 0 0] 60)).alloc (.cells #[.slice (some ⟨w.heap.size, 0, none⟩) 1 1] 56)).alloc (.cells #[.slice none 0 0, .slice (some ⟨w.heap.size + 1, 0, none⟩) 1 1] 50)) 1 (w.heap.size + 1 + 1 + 1) (by simp)) _) hb)
  clear hb
  go_wp2_with fail
  refine (zfA _ _ 1 _ _ _ _ ex2 HC.out).mono ?_
  rintro e w2 ⟨rfl, hb⟩
  have HB2 := zaa.mk hb
  clear hb
  go_wp2_with fail
  refine (zbD.calls _ _ _ ex3).mono ?_
  rintro e w3 ⟨rfl, hb⟩
  have HB3 := zaa.mk hb
  clear hb
  go_wp2_with fail
  refine (zbD.calls _ _ _ ex4).mono ?_
  rintro e w4 ⟨rfl, hb⟩
  have HB4 := zaa.mk hb
  clear hb
  go_wp2_with fail
  go_ret
  refine ⟨rfl, ?_⟩
  exact zax (zax (zax (zax (zac (zac (zac (zac (zac (zac (Below.refl _ _) _) _) _) _) _) _) HB.out) HB2.out) HB3.out) HB4.out
end Go.Proofs.YtbicjgaadknmfaaDoor.P
end
