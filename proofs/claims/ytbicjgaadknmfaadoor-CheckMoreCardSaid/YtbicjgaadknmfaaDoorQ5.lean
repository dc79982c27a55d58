import Derived.Test.YtbicjgaadknmfaaDoorQ1
import Derived.Test.YtbicjgaadknmfaaDoorQ3
import Derived.Test.YtbicjgaadknmfaaDoorQ4
import Derived.Test.YtbicjgaadknmfaaDoorQ0
section
namespace Go.Proofs.YtbicjgaadknmfaaDoor.P
open Go.RowKit Go.Proofs.YtbicjgaadknmfaaDoorW.PrintWords Go.Proofs.YtbicjgaadknmfaaDoorW.PrintLast Go.Proofs.YtbicjgaadknmfaaDoorW.PrintMore
attribute [local go_sem] zcu zcp zcl zck zbZ zbX zb9 zb7
set_option linter.unusedVariables false
set_option linter.unusedSimpArgs false
attribute [local go_sem high] zkj
mutual
def zaG.l0 : Nat → Int → Int → List (S127) → Int → Int → List (S127) → List (List (S60)) → Option (Int × Int × Int × Int)
 | 0, _, _, _, _, _, _, _ => none
 | k + 1, x1, x2, x20, x21, x22, x276000, x276001 => if x22 < x21 then (if 0 ≤ x22 then (if x22 < (x20.length : Int) then ((zcf.f ((zaS x20 x22).f0)).bind fun t280 => (if t280 = true then ((za4.f k x276000 x22).bind fun t281 => (zaG.j1 k x1 x2 x22 x20 x21 x22 t281 x276000 x276001 ((zaS x20 x22).f0) ((zaS x20 x22).f1))) else (zaG.j1 k x1 x2 x22 x20 x21 x22 true x276000 x276001 ((zaS x20 x22).f0) ((zaS x20 x22).f1)))) else (none)) else (none)) else (zaG.l1 k x1 x2 x276001 (x276001.length : Int) 0 x276000 x276001)
def zaG.j1 : Nat → Int → Int → Int → List (S127) → Int → Int → Bool → List (S127) → List (List (S60)) → ByteArray → List (S60) → Option (Int × Int × Int × Int)
 | 0, _, _, _, _, _, _, _, _, _, _, _ => none
 | k + 1, x1, x2, x7, x20, x21, x22, x36, x276000, x276001, x280000, x280001 => if x36 = true then (some (2, wrap64 (x7 + 1), 1, 0)) else ((za2.f k x280001 (wrap64 (x7 + 1)) x1 x2 x7).bind fun bt282 => (if (!(bt282.1 == 0) || (!(bt282.2.1 == 0) || (!(bt282.2.2.1 == 0) || (!(bt282.2.2.2 == 0))))) = true then (some (bt282.1, bt282.2.1, bt282.2.2.1, bt282.2.2.2)) else (zaG.l0 k x1 x2 x20 x21 (wrap64 (x22 + 1)) x276000 x276001)))
def zaG.l1 : Nat → Int → Int → List (List (S60)) → Int → Int → List (S127) → List (List (S60)) → Option (Int × Int × Int × Int)
 | 0, _, _, _, _, _, _, _ => none
 | k + 1, x1, x2, x54, x55, x56, x276000, x276001 => if x56 < x55 then (if 0 ≤ x56 then (if x56 < (x54.length : Int) then ((za2.f k (zcO x54 x56) (wrap64 ((wrap64 ((x276000.length : Int) + x56)) + 1)) x1 x2 (x276000.length : Int)).bind fun bt288 => (if (!(bt288.1 == 0) || (!(bt288.2.1 == 0) || (!(bt288.2.2.1 == 0) || (!(bt288.2.2.2 == 0))))) = true then (some (bt288.1, bt288.2.1, bt288.2.2.1, bt288.2.2.2)) else (zaG.l1 k x1 x2 x54 x55 (wrap64 (x56 + 1)) x276000 x276001))) else (none)) else (none)) else (some (0, 0, 0, 0))
end
def zaG.f (k : Nat) (l0_0 : List (S127)) (l0_1 : List (List (S60))) (a1 : Int) (a2 : Int) : Option (Int × Int × Int × Int) := (zbB.f k l0_0 l0_1 a1 a2).bind fun t277 => (if t277 = true then (zaG.l0 k a1 a2 l0_0 (l0_0.length : Int) 0 l0_0 l0_1) else (some (2, 0, 0, 0)))
theorem zaG.zaV : ∀ k, (∀ y0 y1 y2 y3 y4 y5 y6, LeO (zaG.l0 k y0 y1 y2 y3 y4 y5 y6) (zaG.l0 (k + 1) y0 y1 y2 y3 y4 y5 y6)) ∧ (∀ y0 y1 y2 y3 y4 y5 y6 y7 y8 y9 y10, LeO (zaG.j1 k y0 y1 y2 y3 y4 y5 y6 y7 y8 y9 y10) (zaG.j1 (k + 1) y0 y1 y2 y3 y4 y5 y6 y7 y8 y9 y10)) ∧ (∀ y0 y1 y2 y3 y4 y5 y6, LeO (zaG.l1 k y0 y1 y2 y3 y4 y5 y6) (zaG.l1 (k + 1) y0 y1 y2 y3 y4 y5 y6))
 | 0 => ⟨fun _ _ _ _ _ _ _ r h => by simp [zaG.l0] at h, fun _ _ _ _ _ _ _ _ _ _ _ r h => by simp [zaG.j1] at h, fun _ _ _ _ _ _ _ r h => by simp [zaG.l1] at h⟩
 | k + 1 => by
  obtain ⟨ih0, ih1, ih2⟩ := zaG.zaV k
  refine ⟨?_, ?_, ?_⟩
  ·intro y0 y1 y2 y3 y4 y5 y6
   unfold zaG.l0
   repeat' first
   | (with_reducible exact ih0 _ _ _ _ _ _ _)
   | (with_reducible exact ih1 _ _ _ _ _ _ _ _ _ _ _)
   | (with_reducible exact ih2 _ _ _ _ _ _ _)
   | (with_reducible exact za2.mono _ _ _ _ _ _)
   | (with_reducible exact za4.mono _ _ _)
   | (with_reducible exact zbB.mono _ _ _ _ _)
   | (with_reducible exact LeO.refl _)
   | (with_reducible exact LeO.none _)
   | (with_reducible refine LeO.ite ?_ ?_)
   | (with_reducible refine LeO.bind ?_ (fun _ => ?_))
   | exact ih0 _ _ _ _ _ _ _
   | exact ih1 _ _ _ _ _ _ _ _ _ _ _
   | exact ih2 _ _ _ _ _ _ _
   | exact za2.mono _ _ _ _ _ _
   | exact za4.mono _ _ _
   | exact zbB.mono _ _ _ _ _
   | exact LeO.none _
   | refine LeO.ite ?_ ?_
   | refine LeO.bind ?_ (fun _ => ?_)
  ·intro y0 y1 y2 y3 y4 y5 y6 y7 y8 y9 y10
   unfold zaG.j1
   repeat' first
   | (with_reducible exact ih0 _ _ _ _ _ _ _)
   | (with_reducible exact ih1 _ _ _ _ _ _ _ _ _ _ _)
   | (with_reducible exact ih2 _ _ _ _ _ _ _)
   | (with_reducible exact za2.mono _ _ _ _ _ _)
   | (with_reducible exact za4.mono _ _ _)
   | (with_reducible exact zbB.mono _ _ _ _ _)
   | (with_reducible exact LeO.refl _)
   | (with_reducible exact LeO.none _)
   | (with_reducible refine LeO.ite ?_ ?_)
   | (with_reducible refine LeO.bind ?_ (fun _ => ?_))
   | exact ih0 _ _ _ _ _ _ _
   | exact ih1 _ _ _ _ _ _ _ _ _ _ _
   | exact ih2 _ _ _ _ _ _ _
   | exact za2.mono _ _ _ _ _ _
   | exact za4.mono _ _ _
   | exact zbB.mono _ _ _ _ _
   | exact LeO.none _
   | refine LeO.ite ?_ ?_
   | refine LeO.bind ?_ (fun _ => ?_)
  ·intro y0 y1 y2 y3 y4 y5 y6
   unfold zaG.l1
   repeat' first
   | (with_reducible exact ih0 _ _ _ _ _ _ _)
   | (with_reducible exact ih1 _ _ _ _ _ _ _ _ _ _ _)
   | (with_reducible exact ih2 _ _ _ _ _ _ _)
   | (with_reducible exact za2.mono _ _ _ _ _ _)
   | (with_reducible exact za4.mono _ _ _)
   | (with_reducible exact zbB.mono _ _ _ _ _)
   | (with_reducible exact LeO.refl _)
   | (with_reducible exact LeO.none _)
   | (with_reducible refine LeO.ite ?_ ?_)
   | (with_reducible refine LeO.bind ?_ (fun _ => ?_))
   | exact ih0 _ _ _ _ _ _ _
   | exact ih1 _ _ _ _ _ _ _ _ _ _ _
   | exact ih2 _ _ _ _ _ _ _
   | exact za2.mono _ _ _ _ _ _
   | exact za4.mono _ _ _
   | exact zbB.mono _ _ _ _ _
   | exact LeO.none _
   | refine LeO.ite ?_ ?_
   | refine LeO.bind ?_ (fun _ => ?_)
theorem zaG.mono : ∀ a0 a1 a2 a3 k, LeO (zaG.f k a0 a1 a2 a3) (zaG.f (k + 1) a0 a1 a2 a3) := by
 intro a0 a1 a2 a3 k
 obtain ⟨ih0, ih1, ih2⟩ := zaG.zaV k
 unfold zaG.f
 repeat' first
   | (with_reducible exact ih0 _ _ _ _ _ _ _)
   | (with_reducible exact ih1 _ _ _ _ _ _ _ _ _ _ _)
   | (with_reducible exact ih2 _ _ _ _ _ _ _)
   | (with_reducible exact za2.mono _ _ _ _ _ _)
   | (with_reducible exact za4.mono _ _ _)
   | (with_reducible exact zbB.mono _ _ _ _ _)
   | (with_reducible exact LeO.refl _)
   | (with_reducible exact LeO.none _)
   | (with_reducible refine LeO.ite ?_ ?_)
   | (with_reducible refine LeO.bind ?_ (fun _ => ?_))
   | exact ih0 _ _ _ _ _ _ _
   | exact ih1 _ _ _ _ _ _ _ _ _ _ _
   | exact ih2 _ _ _ _ _ _ _
   | exact za2.mono _ _ _ _ _ _
   | exact za4.mono _ _ _
   | exact zbB.mono _ _ _ _ _
   | exact LeO.none _
   | refine LeO.ite ?_ ?_
   | refine LeO.bind ?_ (fun _ => ?_)
set_option maxHeartbeats 8000000 in
set_option maxRecDepth 100000 in
theorem zaG.calls (k : Nat) (A0_0 : Option Addr) (c0_0 : Nat) (l0_0 : List (S127)) (A0_1 : Option Addr) (c0_1 : Nat) (l0_1 : List (List (S60))) (a1 : Int) (a2 : Int) (r1 : Int) (r2 : Int) (r3 : Int) (r4 : Int) (w : World) (hr0_0 : Kd.C k127 w A0_0 l0_0.length l0_0) (hc0_0 : l0_0.length ≤ c0_0) (hr0_1 : Kd.C (Kd.slice 60 k60) w A0_1 l0_1.length l0_1) (hc0_1 : l0_1.length ≤ c0_1) (h : zaG.f k l0_0 l0_1 a1 a2 = some (r1, r2, r3, r4)) :
  Calls Tryd.prog 26 #[.agg #[.slice A0_0 l0_0.length c0_0, .slice A0_1 l0_1.length c0_1], .int .i64 a1, .int .i64 a2] w fun e w' => e = .returned (.agg #[.int .i64 r1, .int .i64 r2, .int .i64 r3, .int .i64 r4]) ∧ Below w.heap.size w w' := by
 have hu50 := Tryd.underlying50
 have hu25 := Tryd.underlying25
 have hu127 := Tryd.underlying127
 have HR0_0 := zaa.mk hr0_0
 have HC0_0 := zaa.mk hc0_0
 clear hr0_0 hc0_0
 have HR0_1 := zaa.mk hr0_1
 have HC0_1 := zaa.mk hc0_1
 clear hr0_1 hc0_1
 have HB := zaa.mk (Below.refl w.heap.size w)
 have H : ((zbB.f k l0_0 l0_1 a1 a2).bind fun t277 => (if t277 = true then (zaG.l0 k a1 a2 l0_0 (l0_0.length : Int) 0 l0_0 l0_1) else (some (2, 0, 0, 0)))) = some (r1, r2, r3, r4) := h
 clear h
 replace H := Option.bind_eq_some_iff.mp H
 obtain ⟨t277, A40, H⟩ := H
 replace H : (if t277 = true then (zaG.l0 k a1 a2 l0_0 (l0_0.length : Int) 0 l0_0 l0_1) else (some (2, 0, 0, 0))) = some (r1, r2, r3, r4) := H
 have A4 := zaa.mk A40
 clear A40
 by_cases c5 : t277 = true
 ·subst c5
  have H1 : (zaG.l0 k a1 a2 l0_0 (l0_0.length : Int) 0 l0_0 l0_1) = some (r1, r2, r3, r4) := by rw [if_pos rfl] at H; exact H
  clear H
  have H := H1
  clear H1
  have H' := zaa.mk H
  clear H
  go_enter Tryd.func26, Tryd.ntmps26
  go_wp2_with (first | ((with_reducible refine zba (N := 3) rfl ?_); refine za6 ?hg (N := 3) ?hd (cs := #[.slice A0_0 l0_0.length c0_0, .slice A0_1 l0_1.length c0_1]) (t := 50) ?hr ?_; (case hd => rfl); (case hg => rfl); (case hr => first | (go_simp; done) | (go_simp; rfl)); intro gb275 hg w6 hbox hb; have n0_ := zaa.mk (zat (by repeat (first | (with_reducible first | exact HB.out | apply zac | apply zab | apply zad) | exact HB.out)) hb); have n1_ := zaa.mk (hbox); have n2_ := zaa.mk ((by rw [hg]; exact (zas (by repeat (first | (with_reducible first | exact HB.out | apply zac | apply zab | apply zad) | exact HB.out))) : w.heap.size ≤ gb275)); have n3_ := zaa.mk ((by rw [hg]; exact (zas (by repeat (first | (with_reducible first | exact HB.out | apply zac | apply zab | apply zad) | exact HB.out))) : w.heap.size ≤ gb275)); clear HB; have HB := n0_; have BK275 := n1_; have GW275 := n2_; have GE275 := n3_; clear n0_ n1_ n2_ n3_; clear hb hbox hg) | ((with_reducible refine zba (N := 6) rfl ?_); refine za6 ?hg (N := 6) ?hd (cs := #[.int .i64 0, .int .i64 0, .int .i64 0, .int .i64 0]) (t := 25) ?hr ?_; (case hd => rfl); (case hg => rfl); (case hr => first | (go_simp; done) | (go_simp; rfl)); intro gb276 hg w7 hbox hb; have n0_ := zaa.mk (zaM (g := gb275) (o := .cells #[.slice A0_0 l0_0.length c0_0, .slice A0_1 l0_1.length c0_1] 50 (0, 0)) (by (with_reducible repeat (first | refine zaf ?_ _ | refine zai ?_ | refine zae ?_ _)); exact BK275.out) hb); have n1_ := zaa.mk (zat (by repeat (first | (with_reducible first | exact HB.out | apply zac | apply zab | apply zad | refine zah ?_ GE275.out) | exact HB.out)) hb); have n2_ := zaa.mk (hbox); have n3_ := zaa.mk ((by rw [hg]; exact (zas (by repeat (first | (with_reducible first | exact HB.out | apply zac | apply zab | apply zad | refine zah ?_ GE275.out) | exact HB.out))) : w.heap.size ≤ gb276)); have n4_ := zaa.mk ((by rw [hg]; exact (zas (by repeat (first | (with_reducible first | exact HB.out | apply zac | apply zab | apply zad | refine zah ?_ GE275.out) | exact HB.out))) : w.heap.size ≤ gb276)); have n5_ := zaa.mk ((by rw [hg]; exact Nat.ne_of_lt (zbk (g := gb275) (o := .cells #[.slice A0_0 l0_0.length c0_0, .slice A0_1 l0_1.length c0_1] 50 (0, 0)) (by (with_reducible repeat (first | refine zaf ?_ _ | refine zai ?_ | refine zae ?_ _)); exact BK275.out)) : gb275 ≠ gb276)); have n6_ := zaa.mk ((by rw [hg]; exact Nat.ne_of_gt (zbk (g := gb275) (o := .cells #[.slice A0_0 l0_0.length c0_0, .slice A0_1 l0_1.length c0_1] 50 (0, 0)) (by (with_reducible repeat (first | refine zaf ?_ _ | refine zai ?_ | refine zae ?_ _)); exact BK275.out)) : gb276 ≠ gb275)); clear BK275; clear HB; have BK275 := n0_; have HB := n1_; have BK276 := n2_; have GW276 := n3_; have GE276 := n4_; have NB275_276 := n5_; have NB276_275 := n6_; clear n0_ n1_ n2_ n3_ n4_ n5_ n6_; clear hb hbox hg; have hnb8 := NB275_276.out; have hnc8 := NB276_275.out; have hcz9_0 : w7.cell? ⟨gb275, 0, none⟩ = some (.slice A0_0 l0_0.length c0_0) := (zaj BK275.out 0).trans rfl; have hcz9_1 : w7.cell? ⟨gb275, 1, none⟩ = some (.slice A0_1 l0_1.length c0_1) := (zaj BK275.out 1).trans rfl; have hfz9_0 := zak BK275.out 0; have hfz9_1 := zak BK275.out 1) | ((with_reducible refine zaI (f := 75) rfl ?_); refine za5 (some 16) rfl rfl Tryd.func75 (by kernel_rfl) rfl #[.agg #[.slice A0_0 l0_0.length c0_0, .slice A0_1 l0_1.length c0_1], .int .i64 a1, .int .i64 a2] rfl (by (try simp only [List.map_toArray, List.map_cons, List.map_nil]); first | done | rfl | (simp only [List.length_drop, List.length_take]; rfl)) ?_; (with_reducible refine (zbB.calls k _ _ l0_0 _ _ l0_1 a1 a2 true _ ?side1 ?side2 ?side3 ?side4 A4.out).mono ?_); (case side1 => repeat (first | exact (Kd.za1 HR0_0.out HB.out) | (with_reducible refine Kd.zaU ?_ _) | (with_reducible refine Kd.zaY ?_ _) | (with_reducible refine Kd.za3 ?_))); (case side2 => exact HC0_0.out); (case side3 => repeat (first | exact (Kd.za1 HR0_1.out HB.out) | (with_reducible refine Kd.zaU ?_ _) | (with_reducible refine Kd.zaY ?_ _) | (with_reducible refine Kd.za3 ?_))); (case side4 => exact HC0_1.out); rintro e w10 ⟨rfl, hb⟩; refine ⟨_, rfl, ?_⟩; have n0_ := zaa.mk (zaM (g := gb275) (o := .cells #[.slice A0_0 l0_0.length c0_0, .slice A0_1 l0_1.length c0_1] 50 (0, 0)) (by (with_reducible repeat (first | refine zaf ?_ _ | refine zai ?_ | refine zae ?_ _)); exact BK275.out) hb); have n1_ := zaa.mk (zaM (g := gb276) (o := .cells #[.int .i64 0, .int .i64 0, .int .i64 0, .int .i64 0] 25 (0, 0)) (by (with_reducible repeat (first | refine zaf ?_ _ | refine zai ?_ | refine zae ?_ _)); exact BK276.out) hb); have n2_ := zaa.mk (zat (by repeat (first | (with_reducible first | exact HB.out | apply zac | apply zab | apply zad | refine zah ?_ GE275.out | refine zah ?_ GE276.out) | exact HB.out)) hb); clear BK275; clear BK276; clear HB; have BK275 := n0_; have BK276 := n1_; have HB := n2_; clear n0_ n1_ n2_; (try clear hb); (try clear hb2); (try clear hk); (try clear hi); have hcz11_0 : w10.cell? ⟨gb275, 0, none⟩ = some (.slice A0_0 l0_0.length c0_0) := (zaj BK275.out 0).trans rfl; have hcz11_1 : w10.cell? ⟨gb275, 1, none⟩ = some (.slice A0_1 l0_1.length c0_1) := (zaj BK275.out 1).trans rfl; have hfz11_0 := zak BK275.out 0; have hfz11_1 := zak BK275.out 1))
  go_loopg [22] k (fun kq v22 w' => ∃ (x22_1 : Int) (x277000_1 : Int) (x277001_1 : Int) (x277002_1 : Int) (x277003_1 : Int), v22 = .int .i64 x22_1 ∧ zaa (zaG.l0 kq a1 a2 l0_0 (l0_0.length : Int) x22_1 l0_0 l0_1 = some (r1, r2, r3, r4)) ∧ zaa (kq ≤ k) ∧ zaa (w'.heap[gb275]? = some (.cells #[(.slice A0_0 l0_0.length c0_0), (.slice A0_1 l0_1.length c0_1)] 50 (0, 0))) ∧ zaa (w'.heap[gb276]? = some (.cells #[.int .i64 x277000_1, .int .i64 x277001_1, .int .i64 x277002_1, .int .i64 x277003_1] 25 (0, 0))) ∧ zaa (Below w.heap.size w w'))
  case atStart => exact ⟨(0), (0), (0), (0), (0), (by first | rfl | (simp; done) | (simp [*]; done)), H', ⟨Nat.le_refl _⟩, ⟨by (with_reducible repeat (first | refine zaf ?_ _ | refine zai ?_ | refine zae ?_ _)); exact BK275.out⟩, ⟨by (with_reducible repeat (first | refine zaf ?_ _ | refine zai ?_ | refine zae ?_ _)); exact BK276.out⟩, ⟨by repeat (first | (with_reducible first | exact HB.out | apply zac | apply zab | apply zad | refine zah ?_ GE275.out | refine zah ?_ GE276.out) | exact HB.out)⟩⟩
  case round =>
   clear H'
   try clear c2
   try clear p2
   try clear c5
   try clear c7
   try clear c8
   try clear hcz11_0
   try clear hcz11_1
   try clear hcz9_0
   try clear hcz9_1
   try clear hfz11_0
   try clear hfz11_1
   try clear hfz9_0
   try clear hfz9_1
   obtain ⟨x22_1, x277000_1, x277001_1, x277002_1, x277003_1, rfl, HA, HK1, BK275, BK276, HB⟩ := hrel
   cases gk with
   | zero => exact absurd HA.out (by simp [zaG.l0])
   | succ k1 =>
    have H := HA.out
    clear HA
    simp only [zaG.l0] at H
    by_cases c12 : x22_1 < (l0_0.length : Int)
    ·rw [if_pos c12] at H
     have c12b0 : decide (x22_1 < (l0_0.length : Int)) = true := decide_eq_true c12
     clear c12
     by_cases c13 : 0 ≤ x22_1
     ·rw [if_pos c13] at H
      have c13b0 : decide (0 ≤ x22_1) = true := decide_eq_true c13
      clear c13
      by_cases c14 : x22_1 < (l0_0.length : Int)
      ·rw [if_pos c14] at H
       have c14b0 : decide (x22_1 < (l0_0.length : Int)) = true := decide_eq_true c14
       clear c14
       have HC15 := zaa.mk H
       clear H
       have p278 : 0 ≤ (x22_1 : Int) := of_decide_eq_true (by first | (with_reducible assumption) | assumption)
       have q278 : x22_1 < (l0_0.length : Int) := of_decide_eq_true (by first | (with_reducible assumption) | assumption)
       obtain ⟨ad278, A278_1, c278_1, e278, hx278_0, hx278_1, hl278_1, hi278_1⟩ := zef HR0_0.out x22_1 p278 q278
       cases e278
       replace hx278_0 := (HB.out.cell (World.block_lt_of_cell? w _ hx278_0)).trans hx278_0
       replace hx278_1 := (HB.out.cell (World.block_lt_of_cell? w _ hx278_1)).trans hx278_1
       have HR278_1 := zaa.mk hi278_1
       have HC278_1 := zaa.mk hl278_1
       clear hi278_1 hl278_1
       replace p278 := eq_true p278
       replace q278 := eq_true q278
       go_upto_region 6 with (first | ((with_reducible refine zba (N := 8) rfl ?_); refine za6 ?hg (N := 8) ?hd (cs := #[.string (⟨#[]⟩ : ByteArray), .slice none 0 0]) (t := 127) ?hr ?_; (case hd => rfl); (case hg => rfl); (case hr => first | (go_simp; done) | (go_simp; rfl)); intro gb279 hg w16 hbox hb; have n0_ := zaa.mk (zaM (g := gb275) (o := .cells #[.slice (some ad278) l0_0.length c0_0, .slice A0_1 l0_1.length c0_1] 50 (0, 0)) (by (with_reducible repeat (first | refine zaf ?_ _ | refine zai ?_ | refine zae ?_ _)); exact BK275.out) hb); have n1_ := zaa.mk (zaM (g := gb276) (o := .cells #[.int .i64 x277000_1, .int .i64 x277001_1, .int .i64 x277002_1, .int .i64 x277003_1] 25 (0, 0)) (by (with_reducible repeat (first | refine zaf ?_ _ | refine zai ?_ | refine zae ?_ _)); exact BK276.out) hb); have n2_ := zaa.mk (zat (by repeat (first | (with_reducible first | exact HB.out | apply zac | apply zab | apply zad | refine zah ?_ GE275.out | refine zah ?_ GE276.out) | exact HB.out)) hb); have n3_ := zaa.mk (hbox); have n4_ := zaa.mk ((by rw [hg]; exact (zas (by repeat (first | (with_reducible first | exact HB.out | apply zac | apply zab | apply zad | refine zah ?_ GE275.out | refine zah ?_ GE276.out) | exact HB.out))) : w.heap.size ≤ gb279)); have n5_ := zaa.mk ((by rw [hg]; exact (zas (by repeat (first | (with_reducible first | exact HB.out | apply zac | apply zab | apply zad | refine zah ?_ GE275.out | refine zah ?_ GE276.out) | exact HB.out))) : w.heap.size ≤ gb279)); have n6_ := zaa.mk ((by rw [hg]; exact Nat.ne_of_lt (zbk (g := gb275) (o := .cells #[.slice (some ad278) l0_0.length c0_0, .slice A0_1 l0_1.length c0_1] 50 (0, 0)) (by (with_reducible repeat (first | refine zaf ?_ _ | refine zai ?_ | refine zae ?_ _)); exact BK275.out)) : gb275 ≠ gb279)); have n7_ := zaa.mk ((by rw [hg]; exact Nat.ne_of_gt (zbk (g := gb275) (o := .cells #[.slice (some ad278) l0_0.length c0_0, .slice A0_1 l0_1.length c0_1] 50 (0, 0)) (by (with_reducible repeat (first | refine zaf ?_ _ | refine zai ?_ | refine zae ?_ _)); exact BK275.out)) : gb279 ≠ gb275)); have n8_ := zaa.mk ((by rw [hg]; exact Nat.ne_of_lt (zbk (g := gb276) (o := .cells #[.int .i64 x277000_1, .int .i64 x277001_1, .int .i64 x277002_1, .int .i64 x277003_1] 25 (0, 0)) (by (with_reducible repeat (first | refine zaf ?_ _ | refine zai ?_ | refine zae ?_ _)); exact BK276.out)) : gb276 ≠ gb279)); have n9_ := zaa.mk ((by rw [hg]; exact Nat.ne_of_gt (zbk (g := gb276) (o := .cells #[.int .i64 x277000_1, .int .i64 x277001_1, .int .i64 x277002_1, .int .i64 x277003_1] 25 (0, 0)) (by (with_reducible repeat (first | refine zaf ?_ _ | refine zai ?_ | refine zae ?_ _)); exact BK276.out)) : gb279 ≠ gb276)); clear BK275; clear BK276; clear HB; have BK275 := n0_; have BK276 := n1_; have HB := n2_; have BK279 := n3_; have GW279 := n4_; have GE279 := n5_; have NB275_279 := n6_; have NB279_275 := n7_; have NB276_279 := n8_; have NB279_276 := n9_; clear n0_ n1_ n2_ n3_ n4_ n5_ n6_ n7_ n8_ n9_; clear hb hbox hg; have hnb17 := NB279_275.out; have hnc17 := NB275_279.out; have hnb18 := NB279_276.out; have hnc18 := NB276_279.out; have hcz19_0 : w16.cell? ⟨gb279, 0, none⟩ = some (.string (⟨#[]⟩ : ByteArray)) := (zaj BK279.out 0).trans rfl; have hcz19_1 : w16.cell? ⟨gb279, 1, none⟩ = some (.slice none 0 0) := (zaj BK279.out 1).trans rfl; have hfz19_0 := zak BK279.out 0; have hfz19_1 := zak BK279.out 1))
       (try simp only [Act.put, List.setIfInBounds_toArray, List.set_cons_zero, List.set_cons_succ])
       go_cut [36] (fun v36 wc => ∃ (kq : Nat) (x36_14 : Bool), v36 = .bool x36_14 ∧ zaa (zaG.j1 kq a1 a2 x22_1 l0_0 (l0_0.length : Int) x22_1 x36_14 l0_0 l0_1 ((zaS l0_0 x22_1).f0) ((zaS l0_0 x22_1).f1) = some (r1, r2, r3, r4)) ∧ zaa (kq ≤ k1) ∧ zaa (wc.heap[gb275]? = some (.cells #[(.slice (some ad278) l0_0.length c0_0), (.slice A0_1 l0_1.length c0_1)] 50 (0, 0))) ∧ zaa (wc.heap[gb276]? = some (.cells #[.int .i64 x277000_1, .int .i64 x277001_1, .int .i64 x277002_1, .int .i64 x277003_1] 25 (0, 0))) ∧ zaa (wc.heap[gb279]? = some (.cells #[.string ((zaS l0_0 x22_1).f0), (.slice A278_1 ((zaS l0_0 x22_1).f1).length c278_1)] 127 (0, 0))) ∧ zaa (Below w.heap.size w wc))
       case first =>
        have H := HC15.out
        clear HC15
        replace H := Option.bind_eq_some_iff.mp H
        obtain ⟨t280, A200, H⟩ := H
        replace H : (if t280 = true then ((za4.f k1 l0_0 x22_1).bind fun t281 => (zaG.j1 k1 a1 a2 x22_1 l0_0 (l0_0.length : Int) x22_1 t281 l0_0 l0_1 ((zaS l0_0 x22_1).f0) ((zaS l0_0 x22_1).f1))) else (zaG.j1 k1 a1 a2 x22_1 l0_0 (l0_0.length : Int) x22_1 true l0_0 l0_1 ((zaS l0_0 x22_1).f0) ((zaS l0_0 x22_1).f1))) = some (r1, r2, r3, r4) := H
        have A20 := zaa.mk A200
        clear A200
        by_cases c21 : t280 = true
        ·subst c21
         have H1 : ((za4.f k1 l0_0 x22_1).bind fun t281 => (zaG.j1 k1 a1 a2 x22_1 l0_0 (l0_0.length : Int) x22_1 t281 l0_0 l0_1 ((zaS l0_0 x22_1).f0) ((zaS l0_0 x22_1).f1))) = some (r1, r2, r3, r4) := by rw [if_pos rfl] at H; exact H
         clear H
         have H := H1
         clear H1
         replace H := Option.bind_eq_some_iff.mp H
         obtain ⟨t281, A220, H⟩ := H
         replace H : (zaG.j1 k1 a1 a2 x22_1 l0_0 (l0_0.length : Int) x22_1 t281 l0_0 l0_1 ((zaS l0_0 x22_1).f0) ((zaS l0_0 x22_1).f1)) = some (r1, r2, r3, r4) := H
         have A22 := zaa.mk A220
         clear A220
         have H' := zaa.mk H
         clear H
         have hnb23 := NB279_275.out
         have hnc23 := NB275_279.out
         have hnb24 := NB279_276.out
         have hnc24 := NB276_279.out
         have hcz25_0 : w16.cell? ⟨gb279, 0, none⟩ = some (.string (⟨#[]⟩ : ByteArray)) := (zaj BK279.out 0).trans rfl
         have hcz25_1 : w16.cell? ⟨gb279, 1, none⟩ = some (.slice none 0 0) := (zaj BK279.out 1).trans rfl
         have hfz25_0 := zak BK279.out 0
         have hfz25_1 := zak BK279.out 1
         go_wp2_with (first | ((with_reducible refine zaI (f := 35) rfl ?_); refine za5 (some 29) rfl rfl Tryd.func35 (by kernel_rfl) rfl #[.string ((zaS l0_0 x22_1).f0)] rfl (by (try simp only [List.map_toArray, List.map_cons, List.map_nil]); first | done | rfl | (simp only [List.length_drop, List.length_take]; rfl)) ?_; (with_reducible refine (zcf.calls ((zaS l0_0 x22_1).f0) true _ A20.out).mono ?_); rintro e w26 ⟨rfl, hb⟩; refine ⟨_, rfl, ?_⟩; have n0_ := zaa.mk (zaM (g := gb275) (o := .cells #[.slice (some ad278) l0_0.length c0_0, .slice A0_1 l0_1.length c0_1] 50 (0, 0)) (by (with_reducible repeat (first | refine zaf ?_ _ | refine zai ?_ | refine zae ?_ _)); refine zbv ?_ NB275_279.out _; (with_reducible repeat (first | refine zaf ?_ _ | refine zai ?_ | refine zae ?_ _)); refine zbv ?_ NB275_279.out _; (with_reducible repeat (first | refine zaf ?_ _ | refine zai ?_ | refine zae ?_ _)); exact BK275.out) hb); have n1_ := zaa.mk (zaM (g := gb276) (o := .cells #[.int .i64 x277000_1, .int .i64 x277001_1, .int .i64 x277002_1, .int .i64 x277003_1] 25 (0, 0)) (by (with_reducible repeat (first | refine zaf ?_ _ | refine zai ?_ | refine zae ?_ _)); refine zbv ?_ NB276_279.out _; (with_reducible repeat (first | refine zaf ?_ _ | refine zai ?_ | refine zae ?_ _)); refine zbv ?_ NB276_279.out _; (with_reducible repeat (first | refine zaf ?_ _ | refine zai ?_ | refine zae ?_ _)); exact BK276.out) hb); have n2_ := zaa.mk (zaM (g := gb279) (o := .cells #[.string ((zaS l0_0 x22_1).f0), .slice A278_1 ((zaS l0_0 x22_1).f1).length c278_1] 127 (0, 0)) (by (with_reducible repeat (first | refine zaf ?_ _ | refine zai ?_ | refine zae ?_ _)); refine zaT (cs := #[.string ((zaS l0_0 x22_1).f0), .slice none 0 0]) ?_ 1 _ rfl; (with_reducible repeat (first | refine zaf ?_ _ | refine zai ?_ | refine zae ?_ _)); refine zaT (cs := #[.string (⟨#[]⟩ : ByteArray), .slice none 0 0]) ?_ 0 _ rfl; (with_reducible repeat (first | refine zaf ?_ _ | refine zai ?_ | refine zae ?_ _)); exact BK279.out) hb); have n3_ := zaa.mk (zat (by repeat (first | (with_reducible first | exact HB.out | apply zac | apply zab | apply zad | refine zah ?_ GE275.out | refine zah ?_ GE276.out | refine zah ?_ GE279.out) | exact HB.out)) hb); clear BK275; clear BK276; clear BK279; clear HB; have BK275 := n0_; have BK276 := n1_; have BK279 := n2_; have HB := n3_; clear n0_ n1_ n2_ n3_; (try clear hb); (try clear hb2); (try clear hk); (try clear hi); have hnb27 := NB275_276.out; have hnc27 := NB276_275.out; have hcz28_0 : w26.cell? ⟨gb275, 0, none⟩ = some (.slice (some ad278) l0_0.length c0_0) := (zaj BK275.out 0).trans rfl; have hcz28_1 : w26.cell? ⟨gb275, 1, none⟩ = some (.slice A0_1 l0_1.length c0_1) := (zaj BK275.out 1).trans rfl; have hfz28_0 := zak BK275.out 0; have hfz28_1 := zak BK275.out 1) | (go_at_call 76; (with_reducible refine (za4.calls k1 _ _ l0_0 x22_1 t281 _ ?side1 ?side2 A22.out).mono ?_); (case side1 => repeat (first | exact (Kd.za1 HR0_0.out HB.out) | (with_reducible refine Kd.zaU ?_ _) | (with_reducible refine Kd.zaY ?_ _) | (with_reducible refine Kd.za3 ?_))); (case side2 => exact HC0_0.out); rintro e w' ⟨rfl, ⟨nd, rfl⟩⟩))
         go_meet
         case rel => exact ⟨_, (t281), (by first | rfl | (simp; done) | (simp [*]; done)), H', ⟨by have := HK1.out; first | omega | exact Nat.le_refl _⟩, ⟨by (with_reducible repeat (first | refine zaf ?_ _ | refine zai ?_ | refine zae ?_ _)); exact BK275.out⟩, ⟨by (with_reducible repeat (first | refine zaf ?_ _ | refine zai ?_ | refine zae ?_ _)); exact BK276.out⟩, ⟨by (with_reducible repeat (first | refine zaf ?_ _ | refine zai ?_ | refine zae ?_ _)); exact BK279.out⟩, ⟨by repeat (first | (with_reducible first | exact HB.out | apply zac | apply zab | apply zad | refine zah ?_ GE275.out | refine zah ?_ GE276.out | refine zah ?_ GE279.out) | exact HB.out)⟩⟩
        ·replace c21 := Bool.eq_false_iff.mpr c21
         subst c21
         have H1 : (zaG.j1 k1 a1 a2 x22_1 l0_0 (l0_0.length : Int) x22_1 true l0_0 l0_1 ((zaS l0_0 x22_1).f0) ((zaS l0_0 x22_1).f1)) = some (r1, r2, r3, r4) := by rw [if_neg (show ¬ (false = true) by decide)] at H; exact H
         clear H
         have H := H1
         clear H1
         have H' := zaa.mk H
         clear H
         have hnb29 := NB279_275.out
         have hnc29 := NB275_279.out
         have hnb30 := NB279_276.out
         have hnc30 := NB276_279.out
         have hcz31_0 : w16.cell? ⟨gb279, 0, none⟩ = some (.string (⟨#[]⟩ : ByteArray)) := (zaj BK279.out 0).trans rfl
         have hcz31_1 : w16.cell? ⟨gb279, 1, none⟩ = some (.slice none 0 0) := (zaj BK279.out 1).trans rfl
         have hfz31_0 := zak BK279.out 0
         have hfz31_1 := zak BK279.out 1
         go_wp2_with (first | ((with_reducible refine zaI (f := 35) rfl ?_); refine za5 (some 29) rfl rfl Tryd.func35 (by kernel_rfl) rfl #[.string ((zaS l0_0 x22_1).f0)] rfl (by (try simp only [List.map_toArray, List.map_cons, List.map_nil]); first | done | rfl | (simp only [List.length_drop, List.length_take]; rfl)) ?_; (with_reducible refine (zcf.calls ((zaS l0_0 x22_1).f0) false _ A20.out).mono ?_); rintro e w32 ⟨rfl, hb⟩; refine ⟨_, rfl, ?_⟩; have n0_ := zaa.mk (zaM (g := gb275) (o := .cells #[.slice (some ad278) l0_0.length c0_0, .slice A0_1 l0_1.length c0_1] 50 (0, 0)) (by (with_reducible repeat (first | refine zaf ?_ _ | refine zai ?_ | refine zae ?_ _)); refine zbv ?_ NB275_279.out _; (with_reducible repeat (first | refine zaf ?_ _ | refine zai ?_ | refine zae ?_ _)); refine zbv ?_ NB275_279.out _; (with_reducible repeat (first | refine zaf ?_ _ | refine zai ?_ | refine zae ?_ _)); exact BK275.out) hb); have n1_ := zaa.mk (zaM (g := gb276) (o := .cells #[.int .i64 x277000_1, .int .i64 x277001_1, .int .i64 x277002_1, .int .i64 x277003_1] 25 (0, 0)) (by (with_reducible repeat (first | refine zaf ?_ _ | refine zai ?_ | refine zae ?_ _)); refine zbv ?_ NB276_279.out _; (with_reducible repeat (first | refine zaf ?_ _ | refine zai ?_ | refine zae ?_ _)); refine zbv ?_ NB276_279.out _; (with_reducible repeat (first | refine zaf ?_ _ | refine zai ?_ | refine zae ?_ _)); exact BK276.out) hb); have n2_ := zaa.mk (zaM (g := gb279) (o := .cells #[.string ((zaS l0_0 x22_1).f0), .slice A278_1 ((zaS l0_0 x22_1).f1).length c278_1] 127 (0, 0)) (by (with_reducible repeat (first | refine zaf ?_ _ | refine zai ?_ | refine zae ?_ _)); refine zaT (cs := #[.string ((zaS l0_0 x22_1).f0), .slice none 0 0]) ?_ 1 _ rfl; (with_reducible repeat (first | refine zaf ?_ _ | refine zai ?_ | refine zae ?_ _)); refine zaT (cs := #[.string (⟨#[]⟩ : ByteArray), .slice none 0 0]) ?_ 0 _ rfl; (with_reducible repeat (first | refine zaf ?_ _ | refine zai ?_ | refine zae ?_ _)); exact BK279.out) hb); have n3_ := zaa.mk (zat (by repeat (first | (with_reducible first | exact HB.out | apply zac | apply zab | apply zad | refine zah ?_ GE275.out | refine zah ?_ GE276.out | refine zah ?_ GE279.out) | exact HB.out)) hb); clear BK275; clear BK276; clear BK279; clear HB; have BK275 := n0_; have BK276 := n1_; have BK279 := n2_; have HB := n3_; clear n0_ n1_ n2_ n3_; (try clear hb); (try clear hb2); (try clear hk); (try clear hi)))
         go_meet
         case rel => exact ⟨_, (true), (by first | rfl | (simp; done) | (simp [*]; done)), H', ⟨by have := HK1.out; first | omega | exact Nat.le_refl _⟩, ⟨by (with_reducible repeat (first | refine zaf ?_ _ | refine zai ?_ | refine zae ?_ _)); exact BK275.out⟩, ⟨by (with_reducible repeat (first | refine zaf ?_ _ | refine zai ?_ | refine zae ?_ _)); exact BK276.out⟩, ⟨by (with_reducible repeat (first | refine zaf ?_ _ | refine zai ?_ | refine zae ?_ _)); exact BK279.out⟩, ⟨by repeat (first | (with_reducible first | exact HB.out | apply zac | apply zab | apply zad | refine zah ?_ GE275.out | refine zah ?_ GE276.out | refine zah ?_ GE279.out) | exact HB.out)⟩⟩
       case rest =>
        clear HC15
        try clear c1
        try clear c2
        try clear p2
        try clear q2
        try clear hx2
        try clear c3
        try clear c5
        try clear c7
        try clear c8
        try clear c12
        try clear c12b0
        try clear c13
        try clear c13b0
        try clear c14
        try clear c14b0
        try clear c17
        try clear c18
        try clear c21
        try clear c23
        try clear c24
        try clear c26
        try clear c27
        try clear p27
        try clear q27
        try clear hx27
        try clear c29
        try clear c30
        try clear hcz11_0
        try clear hcz11_1
        try clear hcz19_0
        try clear hcz19_1
        try clear hcz25_0
        try clear hcz25_1
        try clear hcz28_0
        try clear hcz28_1
        try clear hcz31_0
        try clear hcz31_1
        try clear hcz9_0
        try clear hcz9_1
        try clear hfz11_0
        try clear hfz11_1
        try clear hfz19_0
        try clear hfz19_1
        try clear hfz25_0
        try clear hfz25_1
        try clear hfz28_0
        try clear hfz28_1
        try clear hfz31_0
        try clear hfz31_1
        try clear hfz9_0
        try clear hfz9_1
        try clear hx278_0
        try clear hx278_1
        try clear p2
        try clear p278
        try clear q278
        obtain ⟨kq, x36_14, rfl, HA, HJ14, BK275, BK276, BK279, HB⟩ := hcut
        cases kq with
        | zero => exact absurd HA.out (by simp [zaG.j1])
        | succ kj14 =>
         have H := HA.out
         clear HA
         simp only [zaG.j1] at H
         by_cases c33 : x36_14 = true
         ·subst c33
          have H1 : (some (2, wrap64 (x22_1 + 1), 1, 0)) = some (r1, r2, r3, r4) := by rw [if_pos rfl] at H; exact H
          clear H
          have H := H1
          clear H1
          simp only [Option.some.injEq, Prod.mk.injEq] at H
          obtain ⟨rfl, rfl, rfl, rfl⟩ := H
          have hnb34 := NB276_275.out
          have hnc34 := NB275_276.out
          have hnb35 := NB276_279.out
          have hnc35 := NB279_276.out
          have hcz36_0 : wc.cell? ⟨gb276, 0, none⟩ = some (.int .i64 x277000_1) := (zaj BK276.out 0).trans rfl
          have hcz36_1 : wc.cell? ⟨gb276, 1, none⟩ = some (.int .i64 x277001_1) := (zaj BK276.out 1).trans rfl
          have hcz36_2 : wc.cell? ⟨gb276, 2, none⟩ = some (.int .i64 x277002_1) := (zaj BK276.out 2).trans rfl
          have hcz36_3 : wc.cell? ⟨gb276, 3, none⟩ = some (.int .i64 x277003_1) := (zaj BK276.out 3).trans rfl
          have hfz36_0 := zak BK276.out 0
          have hfz36_1 := zak BK276.out 1
          have hfz36_2 := zak BK276.out 2
          have hfz36_3 := zak BK276.out 3
          go_wp2
          refine bodyPost_ret (results_cell_row rfl _ _ gb276 25 #[.int .i64 2, .int .i64 (wrap64 (x22_1 + 1)), .int .i64 1, .int .i64 0] (0, 0) _ rfl (by (with_reducible repeat (first | refine zaf ?_ _ | refine zai ?_ | refine zae ?_ _)); refine zaT (cs := #[.int .i64 2, .int .i64 (wrap64 (x22_1 + 1)), .int .i64 1, .int .i64 x277003_1]) ?_ 3 _ rfl; (with_reducible repeat (first | refine zaf ?_ _ | refine zai ?_ | refine zae ?_ _)); refine zaT (cs := #[.int .i64 2, .int .i64 (wrap64 (x22_1 + 1)), .int .i64 x277002_1, .int .i64 x277003_1]) ?_ 2 _ rfl; (with_reducible repeat (first | refine zaf ?_ _ | refine zai ?_ | refine zae ?_ _)); refine zaT (cs := #[.int .i64 2, .int .i64 x277001_1, .int .i64 x277002_1, .int .i64 x277003_1]) ?_ 1 _ rfl; (with_reducible repeat (first | refine zaf ?_ _ | refine zai ?_ | refine zae ?_ _)); refine zaT (cs := #[.int .i64 x277000_1, .int .i64 x277001_1, .int .i64 x277002_1, .int .i64 x277003_1]) ?_ 0 _ rfl; (with_reducible repeat (first | refine zaf ?_ _ | refine zai ?_ | refine zae ?_ _)); exact BK276.out) Tryd.underlying25 rfl (by kernel_rfl)) rfl ?_
          exact ⟨by first | rfl | (simp [zam, zan] <;> rfl) | (simp [*, zam, zan] <;> rfl), by repeat (first | (with_reducible first | exact HB.out | apply zac | apply zab | apply zad | refine zah ?_ GE275.out | refine zah ?_ GE276.out | refine zah ?_ GE279.out) | exact HB.out)⟩
         ·replace c33 := Bool.eq_false_iff.mpr c33
          subst c33
          have H1 : ((za2.f kj14 ((zaS l0_0 x22_1).f1) (wrap64 (x22_1 + 1)) a1 a2 x22_1).bind fun bt282 => (if (!(bt282.1 == 0) || (!(bt282.2.1 == 0) || (!(bt282.2.2.1 == 0) || (!(bt282.2.2.2 == 0))))) = true then (some (bt282.1, bt282.2.1, bt282.2.2.1, bt282.2.2.2)) else (zaG.l0 kj14 a1 a2 l0_0 (l0_0.length : Int) (wrap64 (x22_1 + 1)) l0_0 l0_1))) = some (r1, r2, r3, r4) := by rw [if_neg (show ¬ (false = true) by decide)] at H; exact H
          clear H
          have H := H1
          clear H1
          replace H := Option.bind_eq_some_iff.mp H
          obtain ⟨⟨t282, t283, t284, t285⟩, A370, H⟩ := H
          replace H : (if (!(t282 == 0) || (!(t283 == 0) || (!(t284 == 0) || (!(t285 == 0))))) = true then (some (t282, t283, t284, t285)) else (zaG.l0 kj14 a1 a2 l0_0 (l0_0.length : Int) (wrap64 (x22_1 + 1)) l0_0 l0_1)) = some (r1, r2, r3, r4) := H
          have A37 := zaa.mk A370
          clear A370
          by_cases c38 : (!(t282 == 0) || (!(t283 == 0) || (!(t284 == 0) || (!(t285 == 0))))) = true
          ·rw [if_pos c38] at H
           have c38b0 : (!(t282 == 0) || (!(t283 == 0) || (!(t284 == 0) || (!(t285 == 0))))) = true := c38
           clear c38
           simp only [Option.some.injEq, Prod.mk.injEq] at H
           obtain ⟨rfl, rfl, rfl, rfl⟩ := H
           have hnb39 := NB279_275.out
           have hnc39 := NB275_279.out
           have hnb40 := NB279_276.out
           have hnc40 := NB276_279.out
           have hcz41_0 : wc.cell? ⟨gb279, 0, none⟩ = some (.string ((zaS l0_0 x22_1).f0)) := (zaj BK279.out 0).trans rfl
           have hcz41_1 : wc.cell? ⟨gb279, 1, none⟩ = some (.slice A278_1 ((zaS l0_0 x22_1).f1).length c278_1) := (zaj BK279.out 1).trans rfl
           have hfz41_0 := zak BK279.out 0
           have hfz41_1 := zak BK279.out 1
           go_wp2_with (first | ((with_reducible refine zaI (f := 77) rfl ?_); refine za5 (some 47) rfl rfl Tryd.func77 (by kernel_rfl) rfl #[.slice A278_1 ((zaS l0_0 x22_1).f1).length c278_1, .int .i64 (wrap64 (x22_1 + 1)), .int .i64 a1, .int .i64 a2, .int .i64 x22_1] rfl (by (try simp only [List.map_toArray, List.map_cons, List.map_nil]); first | done | rfl | (simp only [List.length_drop, List.length_take]; rfl)) ?_; (with_reducible refine (za2.calls kj14 _ _ ((zaS l0_0 x22_1).f1) (wrap64 (x22_1 + 1)) a1 a2 x22_1 t282 t283 t284 t285 _ ?side1 ?side2 A37.out).mono ?_); (case side1 => repeat (first | exact (Kd.za1 HR278_1.out HB.out) | (with_reducible refine Kd.zaU ?_ _) | (with_reducible refine Kd.zaY ?_ _) | (with_reducible refine Kd.za3 ?_))); (case side2 => exact HC278_1.out); rintro e w42 ⟨rfl, hb⟩; refine ⟨_, rfl, ?_⟩; have n0_ := zaa.mk (zaM (g := gb275) (o := .cells #[.slice (some ad278) l0_0.length c0_0, .slice A0_1 l0_1.length c0_1] 50 (0, 0)) (by (with_reducible repeat (first | refine zaf ?_ _ | refine zai ?_ | refine zae ?_ _)); exact BK275.out) hb); have n1_ := zaa.mk (zaM (g := gb276) (o := .cells #[.int .i64 x277000_1, .int .i64 x277001_1, .int .i64 x277002_1, .int .i64 x277003_1] 25 (0, 0)) (by (with_reducible repeat (first | refine zaf ?_ _ | refine zai ?_ | refine zae ?_ _)); exact BK276.out) hb); have n2_ := zaa.mk (zaM (g := gb279) (o := .cells #[.string ((zaS l0_0 x22_1).f0), .slice A278_1 ((zaS l0_0 x22_1).f1).length c278_1] 127 (0, 0)) (by (with_reducible repeat (first | refine zaf ?_ _ | refine zai ?_ | refine zae ?_ _)); exact BK279.out) hb); have n3_ := zaa.mk (zat (by repeat (first | (with_reducible first | exact HB.out | apply zac | apply zab | apply zad | refine zah ?_ GE275.out | refine zah ?_ GE276.out | refine zah ?_ GE279.out) | exact HB.out)) hb); clear BK275; clear BK276; clear BK279; clear HB; have BK275 := n0_; have BK276 := n1_; have BK279 := n2_; have HB := n3_; clear n0_ n1_ n2_ n3_; (try clear hb); (try clear hb2); (try clear hk); (try clear hi)) | ((with_reducible refine zba (N := 9) rfl ?_); refine za6 ?hg (N := 9) ?hd (cs := #[.int .i64 0, .int .i64 0, .int .i64 0, .int .i64 0]) (t := 25) ?hr ?_; (case hd => rfl); (case hg => rfl); (case hr => first | (go_simp; done) | (go_simp; rfl)); intro gb286 hg w43 hbox hb; have n0_ := zaa.mk (zaM (g := gb275) (o := .cells #[.slice (some ad278) l0_0.length c0_0, .slice A0_1 l0_1.length c0_1] 50 (0, 0)) (by (with_reducible repeat (first | refine zaf ?_ _ | refine zai ?_ | refine zae ?_ _)); exact BK275.out) hb); have n1_ := zaa.mk (zaM (g := gb276) (o := .cells #[.int .i64 x277000_1, .int .i64 x277001_1, .int .i64 x277002_1, .int .i64 x277003_1] 25 (0, 0)) (by (with_reducible repeat (first | refine zaf ?_ _ | refine zai ?_ | refine zae ?_ _)); exact BK276.out) hb); have n2_ := zaa.mk (zaM (g := gb279) (o := .cells #[.string ((zaS l0_0 x22_1).f0), .slice A278_1 ((zaS l0_0 x22_1).f1).length c278_1] 127 (0, 0)) (by (with_reducible repeat (first | refine zaf ?_ _ | refine zai ?_ | refine zae ?_ _)); exact BK279.out) hb); have n3_ := zaa.mk (zat (by repeat (first | (with_reducible first | exact HB.out | apply zac | apply zab | apply zad | refine zah ?_ GE275.out | refine zah ?_ GE276.out | refine zah ?_ GE279.out) | exact HB.out)) hb); have n4_ := zaa.mk (hbox); have n5_ := zaa.mk ((by rw [hg]; exact (zas (by repeat (first | (with_reducible first | exact HB.out | apply zac | apply zab | apply zad | refine zah ?_ GE275.out | refine zah ?_ GE276.out | refine zah ?_ GE279.out) | exact HB.out))) : w.heap.size ≤ gb286)); have n6_ := zaa.mk ((by rw [hg]; exact (zas (by repeat (first | (with_reducible first | exact HB.out | apply zac | apply zab | apply zad | refine zah ?_ GE275.out | refine zah ?_ GE276.out | refine zah ?_ GE279.out) | exact HB.out))) : w.heap.size ≤ gb286)); have n7_ := zaa.mk ((by rw [hg]; exact Nat.ne_of_lt (zbk (g := gb275) (o := .cells #[.slice (some ad278) l0_0.length c0_0, .slice A0_1 l0_1.length c0_1] 50 (0, 0)) (by (with_reducible repeat (first | refine zaf ?_ _ | refine zai ?_ | refine zae ?_ _)); exact BK275.out)) : gb275 ≠ gb286)); have n8_ := zaa.mk ((by rw [hg]; exact Nat.ne_of_gt (zbk (g := gb275) (o := .cells #[.slice (some ad278) l0_0.length c0_0, .slice A0_1 l0_1.length c0_1] 50 (0, 0)) (by (with_reducible repeat (first | refine zaf ?_ _ | refine zai ?_ | refine zae ?_ _)); exact BK275.out)) : gb286 ≠ gb275)); have n9_ := zaa.mk ((by rw [hg]; exact Nat.ne_of_lt (zbk (g := gb276) (o := .cells #[.int .i64 x277000_1, .int .i64 x277001_1, .int .i64 x277002_1, .int .i64 x277003_1] 25 (0, 0)) (by (with_reducible repeat (first | refine zaf ?_ _ | refine zai ?_ | refine zae ?_ _)); exact BK276.out)) : gb276 ≠ gb286)); have n10_ := zaa.mk ((by rw [hg]; exact Nat.ne_of_gt (zbk (g := gb276) (o := .cells #[.int .i64 x277000_1, .int .i64 x277001_1, .int .i64 x277002_1, .int .i64 x277003_1] 25 (0, 0)) (by (with_reducible repeat (first | refine zaf ?_ _ | refine zai ?_ | refine zae ?_ _)); exact BK276.out)) : gb286 ≠ gb276)); have n11_ := zaa.mk ((by rw [hg]; exact Nat.ne_of_lt (zbk (g := gb279) (o := .cells #[.string ((zaS l0_0 x22_1).f0), .slice A278_1 ((zaS l0_0 x22_1).f1).length c278_1] 127 (0, 0)) (by (with_reducible repeat (first | refine zaf ?_ _ | refine zai ?_ | refine zae ?_ _)); exact BK279.out)) : gb279 ≠ gb286)); have n12_ := zaa.mk ((by rw [hg]; exact Nat.ne_of_gt (zbk (g := gb279) (o := .cells #[.string ((zaS l0_0 x22_1).f0), .slice A278_1 ((zaS l0_0 x22_1).f1).length c278_1] 127 (0, 0)) (by (with_reducible repeat (first | refine zaf ?_ _ | refine zai ?_ | refine zae ?_ _)); exact BK279.out)) : gb286 ≠ gb279)); clear BK275; clear BK276; clear BK279; clear HB; have BK275 := n0_; have BK276 := n1_; have BK279 := n2_; have HB := n3_; have BK286 := n4_; have GW286 := n5_; have GE286 := n6_; have NB275_286 := n7_; have NB286_275 := n8_; have NB276_286 := n9_; have NB286_276 := n10_; have NB279_286 := n11_; have NB286_279 := n12_; clear n0_ n1_ n2_ n3_ n4_ n5_ n6_ n7_ n8_ n9_ n10_ n11_ n12_; clear hb hbox hg; have hnb44 := NB286_275.out; have hnc44 := NB275_286.out; have hnb45 := NB286_276.out; have hnc45 := NB276_286.out; have hnb46 := NB286_279.out; have hnc46 := NB279_286.out; have hcz47_0 : w43.cell? ⟨gb286, 0, none⟩ = some (.int .i64 0) := (zaj BK286.out 0).trans rfl; have hcz47_1 : w43.cell? ⟨gb286, 1, none⟩ = some (.int .i64 0) := (zaj BK286.out 1).trans rfl; have hcz47_2 : w43.cell? ⟨gb286, 2, none⟩ = some (.int .i64 0) := (zaj BK286.out 2).trans rfl; have hcz47_3 : w43.cell? ⟨gb286, 3, none⟩ = some (.int .i64 0) := (zaj BK286.out 3).trans rfl; have hfz47_0 := zak BK286.out 0; have hfz47_1 := zak BK286.out 1; have hfz47_2 := zak BK286.out 2; have hfz47_3 := zak BK286.out 3; have hnb48 := NB276_275.out; have hnc48 := NB275_276.out; have hcz49_0 : w43.cell? ⟨gb276, 0, none⟩ = some (.int .i64 x277000_1) := (zaj BK276.out 0).trans rfl; have hcz49_1 : w43.cell? ⟨gb276, 1, none⟩ = some (.int .i64 x277001_1) := (zaj BK276.out 1).trans rfl; have hcz49_2 : w43.cell? ⟨gb276, 2, none⟩ = some (.int .i64 x277002_1) := (zaj BK276.out 2).trans rfl; have hcz49_3 : w43.cell? ⟨gb276, 3, none⟩ = some (.int .i64 x277003_1) := (zaj BK276.out 3).trans rfl; have hfz49_0 := zak BK276.out 0; have hfz49_1 := zak BK276.out 1; have hfz49_2 := zak BK276.out 2; have hfz49_3 := zak BK276.out 3))
           refine bodyPost_ret (results_cell_row rfl _ _ gb276 25 #[.int .i64 t282, .int .i64 t283, .int .i64 t284, .int .i64 t285] (0, 0) _ rfl (by (with_reducible repeat (first | refine zaf ?_ _ | refine zai ?_ | refine zae ?_ _)); refine zaT (cs := #[.int .i64 t282, .int .i64 t283, .int .i64 t284, .int .i64 x277003_1]) ?_ 3 _ rfl; (with_reducible repeat (first | refine zaf ?_ _ | refine zai ?_ | refine zae ?_ _)); refine zaT (cs := #[.int .i64 t282, .int .i64 t283, .int .i64 x277002_1, .int .i64 x277003_1]) ?_ 2 _ rfl; (with_reducible repeat (first | refine zaf ?_ _ | refine zai ?_ | refine zae ?_ _)); refine zaT (cs := #[.int .i64 t282, .int .i64 x277001_1, .int .i64 x277002_1, .int .i64 x277003_1]) ?_ 1 _ rfl; (with_reducible repeat (first | refine zaf ?_ _ | refine zai ?_ | refine zae ?_ _)); refine zaT (cs := #[.int .i64 x277000_1, .int .i64 x277001_1, .int .i64 x277002_1, .int .i64 x277003_1]) ?_ 0 _ rfl; (with_reducible repeat (first | refine zaf ?_ _ | refine zai ?_ | refine zae ?_ _)); refine zbv ?_ NB276_286.out _; (with_reducible repeat (first | refine zaf ?_ _ | refine zai ?_ | refine zae ?_ _)); refine zbv ?_ NB276_286.out _; (with_reducible repeat (first | refine zaf ?_ _ | refine zai ?_ | refine zae ?_ _)); refine zbv ?_ NB276_286.out _; (with_reducible repeat (first | refine zaf ?_ _ | refine zai ?_ | refine zae ?_ _)); refine zbv ?_ NB276_286.out _; (with_reducible repeat (first | refine zaf ?_ _ | refine zai ?_ | refine zae ?_ _)); exact BK276.out) Tryd.underlying25 rfl (by kernel_rfl)) rfl ?_
           exact ⟨by first | rfl | (simp [zam, zan] <;> rfl) | (simp [*, zam, zan] <;> rfl), by repeat (first | (with_reducible first | exact HB.out | apply zac | apply zab | apply zad | refine zah ?_ GE275.out | refine zah ?_ GE276.out | refine zah ?_ GE279.out | refine zah ?_ GE286.out) | exact HB.out)⟩
          ·rw [if_neg c38] at H
           have c38b0 : (!(t282 == 0) || (!(t283 == 0) || (!(t284 == 0) || (!(t285 == 0))))) = false := by simpa using c38
           clear c38
           have H' := zaa.mk H
           clear H
           have hnb50 := NB279_275.out
           have hnc50 := NB275_279.out
           have hnb51 := NB279_276.out
           have hnc51 := NB276_279.out
           have hcz52_0 : wc.cell? ⟨gb279, 0, none⟩ = some (.string ((zaS l0_0 x22_1).f0)) := (zaj BK279.out 0).trans rfl
           have hcz52_1 : wc.cell? ⟨gb279, 1, none⟩ = some (.slice A278_1 ((zaS l0_0 x22_1).f1).length c278_1) := (zaj BK279.out 1).trans rfl
           have hfz52_0 := zak BK279.out 0
           have hfz52_1 := zak BK279.out 1
           go_wp2_with (first | ((with_reducible refine zaI (f := 77) rfl ?_); refine za5 (some 47) rfl rfl Tryd.func77 (by kernel_rfl) rfl #[.slice A278_1 ((zaS l0_0 x22_1).f1).length c278_1, .int .i64 (wrap64 (x22_1 + 1)), .int .i64 a1, .int .i64 a2, .int .i64 x22_1] rfl (by (try simp only [List.map_toArray, List.map_cons, List.map_nil]); first | done | rfl | (simp only [List.length_drop, List.length_take]; rfl)) ?_; (with_reducible refine (za2.calls kj14 _ _ ((zaS l0_0 x22_1).f1) (wrap64 (x22_1 + 1)) a1 a2 x22_1 t282 t283 t284 t285 _ ?side1 ?side2 A37.out).mono ?_); (case side1 => repeat (first | exact (Kd.za1 HR278_1.out HB.out) | (with_reducible refine Kd.zaU ?_ _) | (with_reducible refine Kd.zaY ?_ _) | (with_reducible refine Kd.za3 ?_))); (case side2 => exact HC278_1.out); rintro e w53 ⟨rfl, hb⟩; refine ⟨_, rfl, ?_⟩; have n0_ := zaa.mk (zaM (g := gb275) (o := .cells #[.slice (some ad278) l0_0.length c0_0, .slice A0_1 l0_1.length c0_1] 50 (0, 0)) (by (with_reducible repeat (first | refine zaf ?_ _ | refine zai ?_ | refine zae ?_ _)); exact BK275.out) hb); have n1_ := zaa.mk (zaM (g := gb276) (o := .cells #[.int .i64 x277000_1, .int .i64 x277001_1, .int .i64 x277002_1, .int .i64 x277003_1] 25 (0, 0)) (by (with_reducible repeat (first | refine zaf ?_ _ | refine zai ?_ | refine zae ?_ _)); exact BK276.out) hb); have n2_ := zaa.mk (zaM (g := gb279) (o := .cells #[.string ((zaS l0_0 x22_1).f0), .slice A278_1 ((zaS l0_0 x22_1).f1).length c278_1] 127 (0, 0)) (by (with_reducible repeat (first | refine zaf ?_ _ | refine zai ?_ | refine zae ?_ _)); exact BK279.out) hb); have n3_ := zaa.mk (zat (by repeat (first | (with_reducible first | exact HB.out | apply zac | apply zab | apply zad | refine zah ?_ GE275.out | refine zah ?_ GE276.out | refine zah ?_ GE279.out) | exact HB.out)) hb); clear BK275; clear BK276; clear BK279; clear HB; have BK275 := n0_; have BK276 := n1_; have BK279 := n2_; have HB := n3_; clear n0_ n1_ n2_ n3_; (try clear hb); (try clear hb2); (try clear hk); (try clear hi)) | ((with_reducible refine zba (N := 9) rfl ?_); refine za6 ?hg (N := 9) ?hd (cs := #[.int .i64 0, .int .i64 0, .int .i64 0, .int .i64 0]) (t := 25) ?hr ?_; (case hd => rfl); (case hg => rfl); (case hr => first | (go_simp; done) | (go_simp; rfl)); intro gb286 hg w54 hbox hb; have n0_ := zaa.mk (zaM (g := gb275) (o := .cells #[.slice (some ad278) l0_0.length c0_0, .slice A0_1 l0_1.length c0_1] 50 (0, 0)) (by (with_reducible repeat (first | refine zaf ?_ _ | refine zai ?_ | refine zae ?_ _)); exact BK275.out) hb); have n1_ := zaa.mk (zaM (g := gb276) (o := .cells #[.int .i64 x277000_1, .int .i64 x277001_1, .int .i64 x277002_1, .int .i64 x277003_1] 25 (0, 0)) (by (with_reducible repeat (first | refine zaf ?_ _ | refine zai ?_ | refine zae ?_ _)); exact BK276.out) hb); have n2_ := zaa.mk (zaM (g := gb279) (o := .cells #[.string ((zaS l0_0 x22_1).f0), .slice A278_1 ((zaS l0_0 x22_1).f1).length c278_1] 127 (0, 0)) (by (with_reducible repeat (first | refine zaf ?_ _ | refine zai ?_ | refine zae ?_ _)); exact BK279.out) hb); have n3_ := zaa.mk (zat (by repeat (first | (with_reducible first | exact HB.out | apply zac | apply zab | apply zad | refine zah ?_ GE275.out | refine zah ?_ GE276.out | refine zah ?_ GE279.out) | exact HB.out)) hb); have n4_ := zaa.mk (hbox); have n5_ := zaa.mk ((by rw [hg]; exact (zas (by repeat (first | (with_reducible first | exact HB.out | apply zac | apply zab | apply zad | refine zah ?_ GE275.out | refine zah ?_ GE276.out | refine zah ?_ GE279.out) | exact HB.out))) : w.heap.size ≤ gb286)); have n6_ := zaa.mk ((by rw [hg]; exact (zas (by repeat (first | (with_reducible first | exact HB.out | apply zac | apply zab | apply zad | refine zah ?_ GE275.out | refine zah ?_ GE276.out | refine zah ?_ GE279.out) | exact HB.out))) : w.heap.size ≤ gb286)); have n7_ := zaa.mk ((by rw [hg]; exact Nat.ne_of_lt (zbk (g := gb275) (o := .cells #[.slice (some ad278) l0_0.length c0_0, .slice A0_1 l0_1.length c0_1] 50 (0, 0)) (by (with_reducible repeat (first | refine zaf ?_ _ | refine zai ?_ | refine zae ?_ _)); exact BK275.out)) : gb275 ≠ gb286)); have n8_ := zaa.mk ((by rw [hg]; exact Nat.ne_of_gt (zbk (g := gb275) (o := .cells #[.slice (some ad278) l0_0.length c0_0, .slice A0_1 l0_1.length c0_1] 50 (0, 0)) (by (with_reducible repeat (first | refine zaf ?_ _ | refine zai ?_ | refine zae ?_ _)); exact BK275.out)) : gb286 ≠ gb275)); have n9_ := zaa.mk ((by rw [hg]; exact Nat.ne_of_lt (zbk (g := gb276) (o := .cells #[.int .i64 x277000_1, .int .i64 x277001_1, .int .i64 x277002_1, .int .i64 x277003_1] 25 (0, 0)) (by (with_reducible repeat (first | refine zaf ?_ _ | refine zai ?_ | refine zae ?_ _)); exact BK276.out)) : gb276 ≠ gb286)); have n10_ := zaa.mk ((by rw [hg]; exact Nat.ne_of_gt (zbk (g := gb276) (o := .cells #[.int .i64 x277000_1, .int .i64 x277001_1, .int .i64 x277002_1, .int .i64 x277003_1] 25 (0, 0)) (by (with_reducible repeat (first | refine zaf ?_ _ | refine zai ?_ | refine zae ?_ _)); exact BK276.out)) : gb286 ≠ gb276)); have n11_ := zaa.mk ((by rw [hg]; exact Nat.ne_of_lt (zbk (g := gb279) (o := .cells #[.string ((zaS l0_0 x22_1).f0), .slice A278_1 ((zaS l0_0 x22_1).f1).length c278_1] 127 (0, 0)) (by (with_reducible repeat (first | refine zaf ?_ _ | refine zai ?_ | refine zae ?_ _)); exact BK279.out)) : gb279 ≠ gb286)); have n12_ := zaa.mk ((by rw [hg]; exact Nat.ne_of_gt (zbk (g := gb279) (o := .cells #[.string ((zaS l0_0 x22_1).f0), .slice A278_1 ((zaS l0_0 x22_1).f1).length c278_1] 127 (0, 0)) (by (with_reducible repeat (first | refine zaf ?_ _ | refine zai ?_ | refine zae ?_ _)); exact BK279.out)) : gb286 ≠ gb279)); clear BK275; clear BK276; clear BK279; clear HB; have BK275 := n0_; have BK276 := n1_; have BK279 := n2_; have HB := n3_; have BK286 := n4_; have GW286 := n5_; have GE286 := n6_; have NB275_286 := n7_; have NB286_275 := n8_; have NB276_286 := n9_; have NB286_276 := n10_; have NB279_286 := n11_; have NB286_279 := n12_; clear n0_ n1_ n2_ n3_ n4_ n5_ n6_ n7_ n8_ n9_ n10_ n11_ n12_; clear hb hbox hg; have hnb55 := NB286_275.out; have hnc55 := NB275_286.out; have hnb56 := NB286_276.out; have hnc56 := NB276_286.out; have hnb57 := NB286_279.out; have hnc57 := NB279_286.out; have hcz58_0 : w54.cell? ⟨gb286, 0, none⟩ = some (.int .i64 0) := (zaj BK286.out 0).trans rfl; have hcz58_1 : w54.cell? ⟨gb286, 1, none⟩ = some (.int .i64 0) := (zaj BK286.out 1).trans rfl; have hcz58_2 : w54.cell? ⟨gb286, 2, none⟩ = some (.int .i64 0) := (zaj BK286.out 2).trans rfl; have hcz58_3 : w54.cell? ⟨gb286, 3, none⟩ = some (.int .i64 0) := (zaj BK286.out 3).trans rfl; have hfz58_0 := zak BK286.out 0; have hfz58_1 := zak BK286.out 1; have hfz58_2 := zak BK286.out 2; have hfz58_3 := zak BK286.out 3))
           go_roundg kj14
           case measure => have := HK1.out; have := HJ14.out; omega
           case rel => exact ⟨(wrap64 (x22_1 + 1)), (x277000_1), (x277001_1), (x277002_1), (x277003_1), (by first | rfl | (simp; done) | (simp [*]; done)), H', ⟨by have := HK1.out; have := HJ14.out; omega⟩, ⟨by (with_reducible repeat (first | refine zaf ?_ _ | refine zai ?_ | refine zae ?_ _)); refine zbv ?_ NB275_286.out _; (with_reducible repeat (first | refine zaf ?_ _ | refine zai ?_ | refine zae ?_ _)); refine zbv ?_ NB275_286.out _; (with_reducible repeat (first | refine zaf ?_ _ | refine zai ?_ | refine zae ?_ _)); refine zbv ?_ NB275_286.out _; (with_reducible repeat (first | refine zaf ?_ _ | refine zai ?_ | refine zae ?_ _)); refine zbv ?_ NB275_286.out _; (with_reducible repeat (first | refine zaf ?_ _ | refine zai ?_ | refine zae ?_ _)); exact BK275.out⟩, ⟨by (with_reducible repeat (first | refine zaf ?_ _ | refine zai ?_ | refine zae ?_ _)); refine zbv ?_ NB276_286.out _; (with_reducible repeat (first | refine zaf ?_ _ | refine zai ?_ | refine zae ?_ _)); refine zbv ?_ NB276_286.out _; (with_reducible repeat (first | refine zaf ?_ _ | refine zai ?_ | refine zae ?_ _)); refine zbv ?_ NB276_286.out _; (with_reducible repeat (first | refine zaf ?_ _ | refine zai ?_ | refine zae ?_ _)); refine zbv ?_ NB276_286.out _; (with_reducible repeat (first | refine zaf ?_ _ | refine zai ?_ | refine zae ?_ _)); exact BK276.out⟩, ⟨by repeat (first | (with_reducible first | exact HB.out | apply zac | apply zab | apply zad | refine zah ?_ GE275.out | refine zah ?_ GE276.out | refine zah ?_ GE279.out | refine zah ?_ GE286.out) | exact HB.out)⟩⟩
      ·rw [if_neg c14] at H
       exact absurd H (by simp)
     ·rw [if_neg c13] at H
      exact absurd H (by simp)
    ·rw [if_neg c12] at H
     have c12b0 : decide (x22_1 < (l0_0.length : Int)) = false := decide_eq_false c12
     clear c12
     have H' := zaa.mk H
     clear H
     have hnb59 := NB275_276.out
     have hnc59 := NB276_275.out
     have hcz60_0 : wr.cell? ⟨gb275, 0, none⟩ = some (.slice A0_0 l0_0.length c0_0) := (zaj BK275.out 0).trans rfl
     have hcz60_1 : wr.cell? ⟨gb275, 1, none⟩ = some (.slice A0_1 l0_1.length c0_1) := (zaj BK275.out 1).trans rfl
     have hfz60_0 := zak BK275.out 0
     have hfz60_1 := zak BK275.out 1
     go_wp2
     go_loopg [56] k1 (fun kq v56 w' => ∃ (x56_2 : Int) (x277000_2 : Int) (x277001_2 : Int) (x277002_2 : Int) (x277003_2 : Int), v56 = .int .i64 x56_2 ∧ zaa (zaG.l1 kq a1 a2 l0_1 (l0_1.length : Int) x56_2 l0_0 l0_1 = some (r1, r2, r3, r4)) ∧ zaa (kq ≤ k1) ∧ zaa (w'.heap[gb275]? = some (.cells #[(.slice A0_0 l0_0.length c0_0), (.slice A0_1 l0_1.length c0_1)] 50 (0, 0))) ∧ zaa (w'.heap[gb276]? = some (.cells #[.int .i64 x277000_2, .int .i64 x277001_2, .int .i64 x277002_2, .int .i64 x277003_2] 25 (0, 0))) ∧ zaa (Below w.heap.size w w'))
     case atStart => exact ⟨(0), (x277000_1), (x277001_1), (x277002_1), (x277003_1), (by first | rfl | (simp; done) | (simp [*]; done)), H', ⟨Nat.le_refl _⟩, ⟨by (with_reducible repeat (first | refine zaf ?_ _ | refine zai ?_ | refine zae ?_ _)); exact BK275.out⟩, ⟨by (with_reducible repeat (first | refine zaf ?_ _ | refine zai ?_ | refine zae ?_ _)); exact BK276.out⟩, ⟨by repeat (first | (with_reducible first | exact HB.out | apply zac | apply zab | apply zad | refine zah ?_ GE275.out | refine zah ?_ GE276.out) | exact HB.out)⟩⟩
     case round =>
      clear H'
      try clear c1
      try clear c2
      try clear p2
      try clear q2
      try clear hx2
      try clear c3
      try clear c4
      try clear c5
      try clear p6
      try clear c7
      try clear c8
      try clear c12
      try clear c12b0
      try clear c13
      try clear c13b0
      try clear c14
      try clear c14b0
      try clear c17
      try clear c18
      try clear c21
      try clear c23
      try clear c24
      try clear c26
      try clear c27
      try clear p27
      try clear q27
      try clear hx27
      try clear c29
      try clear c30
      try clear c33
      try clear c34
      try clear c35
      try clear c38
      try clear c38b0
      try clear c39
      try clear c40
      try clear c44
      try clear c45
      try clear c46
      try clear c48
      try clear c50
      try clear c51
      try clear c55
      try clear c56
      try clear c57
      try clear c59
      try clear hcz11_0
      try clear hcz11_1
      try clear hcz19_0
      try clear hcz19_1
      try clear hcz25_0
      try clear hcz25_1
      try clear hcz28_0
      try clear hcz28_1
      try clear hcz31_0
      try clear hcz31_1
      try clear hcz36_0
      try clear hcz36_1
      try clear hcz36_2
      try clear hcz36_3
      try clear hcz41_0
      try clear hcz41_1
      try clear hcz47_0
      try clear hcz47_1
      try clear hcz47_2
      try clear hcz47_3
      try clear hcz49_0
      try clear hcz49_1
      try clear hcz49_2
      try clear hcz49_3
      try clear hcz52_0
      try clear hcz52_1
      try clear hcz58_0
      try clear hcz58_1
      try clear hcz58_2
      try clear hcz58_3
      try clear hcz60_0
      try clear hcz60_1
      try clear hcz9_0
      try clear hcz9_1
      try clear hfz11_0
      try clear hfz11_1
      try clear hfz19_0
      try clear hfz19_1
      try clear hfz25_0
      try clear hfz25_1
      try clear hfz28_0
      try clear hfz28_1
      try clear hfz31_0
      try clear hfz31_1
      try clear hfz36_0
      try clear hfz36_1
      try clear hfz36_2
      try clear hfz36_3
      try clear hfz41_0
      try clear hfz41_1
      try clear hfz47_0
      try clear hfz47_1
      try clear hfz47_2
      try clear hfz47_3
      try clear hfz49_0
      try clear hfz49_1
      try clear hfz49_2
      try clear hfz49_3
      try clear hfz52_0
      try clear hfz52_1
      try clear hfz58_0
      try clear hfz58_1
      try clear hfz58_2
      try clear hfz58_3
      try clear hfz60_0
      try clear hfz60_1
      try clear hfz9_0
      try clear hfz9_1
      try clear hx278_0
      try clear hx278_1
      try clear p2
      try clear p27
      try clear p278
      try clear q2
      try clear q27
      try clear q278
      obtain ⟨x56_2, x277000_2, x277001_2, x277002_2, x277003_2, rfl, HA, HK2, BK275, BK276, HB⟩ := hrel
      cases gk with
      | zero => exact absurd HA.out (by simp [zaG.l1])
      | succ k2 =>
       have H := HA.out
       clear HA
       simp only [zaG.l1] at H
       by_cases c61 : x56_2 < (l0_1.length : Int)
       ·rw [if_pos c61] at H
        have c61b0 : decide (x56_2 < (l0_1.length : Int)) = true := decide_eq_true c61
        clear c61
        by_cases c62 : 0 ≤ x56_2
        ·rw [if_pos c62] at H
         have c62b0 : decide (0 ≤ x56_2) = true := decide_eq_true c62
         clear c62
         by_cases c63 : x56_2 < (l0_1.length : Int)
         ·rw [if_pos c63] at H
          have c63b0 : decide (x56_2 < (l0_1.length : Int)) = true := decide_eq_true c63
          clear c63
          replace H := Option.bind_eq_some_iff.mp H
          obtain ⟨⟨t288, t289, t290, t291⟩, A640, H⟩ := H
          replace H : (if (!(t288 == 0) || (!(t289 == 0) || (!(t290 == 0) || (!(t291 == 0))))) = true then (some (t288, t289, t290, t291)) else (zaG.l1 k2 a1 a2 l0_1 (l0_1.length : Int) (wrap64 (x56_2 + 1)) l0_0 l0_1)) = some (r1, r2, r3, r4) := H
          have A64 := zaa.mk A640
          clear A640
          by_cases c65 : (!(t288 == 0) || (!(t289 == 0) || (!(t290 == 0) || (!(t291 == 0))))) = true
          ·rw [if_pos c65] at H
           have c65b0 : (!(t288 == 0) || (!(t289 == 0) || (!(t290 == 0) || (!(t291 == 0))))) = true := c65
           clear c65
           simp only [Option.some.injEq, Prod.mk.injEq] at H
           obtain ⟨rfl, rfl, rfl, rfl⟩ := H
           have p287 : 0 ≤ (x56_2 : Int) := of_decide_eq_true (by first | (with_reducible assumption) | assumption)
           have q287 : x56_2 < (l0_1.length : Int) := of_decide_eq_true (by first | (with_reducible assumption) | assumption)
           obtain ⟨ad287, A287_0, c287_0, e287, hx287_0, hl287_0, hi287_0⟩ := zgn HR0_1.out x56_2 p287 q287
           cases e287
           replace hx287_0 := (HB.out.cell (World.block_lt_of_cell? w _ hx287_0)).trans hx287_0
           have HR287_0 := zaa.mk hi287_0
           have HC287_0 := zaa.mk hl287_0
           clear hi287_0 hl287_0
           replace p287 := eq_true p287
           replace q287 := eq_true q287
           have hnb66 := NB275_276.out
           have hnc66 := NB276_275.out
           have hcz67_0 : wr.cell? ⟨gb275, 0, none⟩ = some (.slice A0_0 l0_0.length c0_0) := (zaj BK275.out 0).trans rfl
           have hcz67_1 : wr.cell? ⟨gb275, 1, none⟩ = some (.slice (some ad287) l0_1.length c0_1) := (zaj BK275.out 1).trans rfl
           have hfz67_0 := zak BK275.out 0
           have hfz67_1 := zak BK275.out 1
           go_wp2_with (first | ((with_reducible refine zaI (f := 77) rfl ?_); refine za5 (some 73) rfl rfl Tryd.func77 (by kernel_rfl) rfl #[.slice A287_0 (zcO l0_1 x56_2).length c287_0, .int .i64 (wrap64 ((wrap64 ((l0_0.length : Int) + x56_2)) + 1)), .int .i64 a1, .int .i64 a2, .int .i64 (l0_0.length : Int)] rfl (by (try simp only [List.map_toArray, List.map_cons, List.map_nil]); first | done | rfl | (simp only [List.length_drop, List.length_take]; rfl)) ?_; (with_reducible refine (za2.calls k2 _ _ (zcO l0_1 x56_2) (wrap64 ((wrap64 ((l0_0.length : Int) + x56_2)) + 1)) a1 a2 (l0_0.length : Int) t288 t289 t290 t291 _ ?side1 ?side2 A64.out).mono ?_); (case side1 => repeat (first | exact (Kd.za1 HR287_0.out HB.out) | (with_reducible refine Kd.zaU ?_ _) | (with_reducible refine Kd.zaY ?_ _) | (with_reducible refine Kd.za3 ?_))); (case side2 => exact HC287_0.out); rintro e w68 ⟨rfl, hb⟩; refine ⟨_, rfl, ?_⟩; have n0_ := zaa.mk (zaM (g := gb275) (o := .cells #[.slice A0_0 l0_0.length c0_0, .slice (some ad287) l0_1.length c0_1] 50 (0, 0)) (by (with_reducible repeat (first | refine zaf ?_ _ | refine zai ?_ | refine zae ?_ _)); exact BK275.out) hb); have n1_ := zaa.mk (zaM (g := gb276) (o := .cells #[.int .i64 x277000_2, .int .i64 x277001_2, .int .i64 x277002_2, .int .i64 x277003_2] 25 (0, 0)) (by (with_reducible repeat (first | refine zaf ?_ _ | refine zai ?_ | refine zae ?_ _)); exact BK276.out) hb); have n2_ := zaa.mk (zat (by repeat (first | (with_reducible first | exact HB.out | apply zac | apply zab | apply zad | refine zah ?_ GE275.out | refine zah ?_ GE276.out) | exact HB.out)) hb); clear BK275; clear BK276; clear HB; have BK275 := n0_; have BK276 := n1_; have HB := n2_; clear n0_ n1_ n2_; (try clear hb); (try clear hb2); (try clear hk); (try clear hi)) | ((with_reducible refine zba (N := 12) rfl ?_); refine za6 ?hg (N := 12) ?hd (cs := #[.int .i64 0, .int .i64 0, .int .i64 0, .int .i64 0]) (t := 25) ?hr ?_; (case hd => rfl); (case hg => rfl); (case hr => first | (go_simp; done) | (go_simp; rfl)); intro gb292 hg w69 hbox hb; have n0_ := zaa.mk (zaM (g := gb275) (o := .cells #[.slice A0_0 l0_0.length c0_0, .slice (some ad287) l0_1.length c0_1] 50 (0, 0)) (by (with_reducible repeat (first | refine zaf ?_ _ | refine zai ?_ | refine zae ?_ _)); exact BK275.out) hb); have n1_ := zaa.mk (zaM (g := gb276) (o := .cells #[.int .i64 x277000_2, .int .i64 x277001_2, .int .i64 x277002_2, .int .i64 x277003_2] 25 (0, 0)) (by (with_reducible repeat (first | refine zaf ?_ _ | refine zai ?_ | refine zae ?_ _)); exact BK276.out) hb); have n2_ := zaa.mk (zat (by repeat (first | (with_reducible first | exact HB.out | apply zac | apply zab | apply zad | refine zah ?_ GE275.out | refine zah ?_ GE276.out) | exact HB.out)) hb); have n3_ := zaa.mk (hbox); have n4_ := zaa.mk ((by rw [hg]; exact (zas (by repeat (first | (with_reducible first | exact HB.out | apply zac | apply zab | apply zad | refine zah ?_ GE275.out | refine zah ?_ GE276.out) | exact HB.out))) : w.heap.size ≤ gb292)); have n5_ := zaa.mk ((by rw [hg]; exact (zas (by repeat (first | (with_reducible first | exact HB.out | apply zac | apply zab | apply zad | refine zah ?_ GE275.out | refine zah ?_ GE276.out) | exact HB.out))) : w.heap.size ≤ gb292)); have n6_ := zaa.mk ((by rw [hg]; exact Nat.ne_of_lt (zbk (g := gb275) (o := .cells #[.slice A0_0 l0_0.length c0_0, .slice (some ad287) l0_1.length c0_1] 50 (0, 0)) (by (with_reducible repeat (first | refine zaf ?_ _ | refine zai ?_ | refine zae ?_ _)); exact BK275.out)) : gb275 ≠ gb292)); have n7_ := zaa.mk ((by rw [hg]; exact Nat.ne_of_gt (zbk (g := gb275) (o := .cells #[.slice A0_0 l0_0.length c0_0, .slice (some ad287) l0_1.length c0_1] 50 (0, 0)) (by (with_reducible repeat (first | refine zaf ?_ _ | refine zai ?_ | refine zae ?_ _)); exact BK275.out)) : gb292 ≠ gb275)); have n8_ := zaa.mk ((by rw [hg]; exact Nat.ne_of_lt (zbk (g := gb276) (o := .cells #[.int .i64 x277000_2, .int .i64 x277001_2, .int .i64 x277002_2, .int .i64 x277003_2] 25 (0, 0)) (by (with_reducible repeat (first | refine zaf ?_ _ | refine zai ?_ | refine zae ?_ _)); exact BK276.out)) : gb276 ≠ gb292)); have n9_ := zaa.mk ((by rw [hg]; exact Nat.ne_of_gt (zbk (g := gb276) (o := .cells #[.int .i64 x277000_2, .int .i64 x277001_2, .int .i64 x277002_2, .int .i64 x277003_2] 25 (0, 0)) (by (with_reducible repeat (first | refine zaf ?_ _ | refine zai ?_ | refine zae ?_ _)); exact BK276.out)) : gb292 ≠ gb276)); clear BK275; clear BK276; clear HB; have BK275 := n0_; have BK276 := n1_; have HB := n2_; have BK292 := n3_; have GW292 := n4_; have GE292 := n5_; have NB275_292 := n6_; have NB292_275 := n7_; have NB276_292 := n8_; have NB292_276 := n9_; clear n0_ n1_ n2_ n3_ n4_ n5_ n6_ n7_ n8_ n9_; clear hb hbox hg; have hnb70 := NB292_275.out; have hnc70 := NB275_292.out; have hnb71 := NB292_276.out; have hnc71 := NB276_292.out; have hcz72_0 : w69.cell? ⟨gb292, 0, none⟩ = some (.int .i64 0) := (zaj BK292.out 0).trans rfl; have hcz72_1 : w69.cell? ⟨gb292, 1, none⟩ = some (.int .i64 0) := (zaj BK292.out 1).trans rfl; have hcz72_2 : w69.cell? ⟨gb292, 2, none⟩ = some (.int .i64 0) := (zaj BK292.out 2).trans rfl; have hcz72_3 : w69.cell? ⟨gb292, 3, none⟩ = some (.int .i64 0) := (zaj BK292.out 3).trans rfl; have hfz72_0 := zak BK292.out 0; have hfz72_1 := zak BK292.out 1; have hfz72_2 := zak BK292.out 2; have hfz72_3 := zak BK292.out 3; have hcz73_0 : w69.cell? ⟨gb276, 0, none⟩ = some (.int .i64 x277000_2) := (zaj BK276.out 0).trans rfl; have hcz73_1 : w69.cell? ⟨gb276, 1, none⟩ = some (.int .i64 x277001_2) := (zaj BK276.out 1).trans rfl; have hcz73_2 : w69.cell? ⟨gb276, 2, none⟩ = some (.int .i64 x277002_2) := (zaj BK276.out 2).trans rfl; have hcz73_3 : w69.cell? ⟨gb276, 3, none⟩ = some (.int .i64 x277003_2) := (zaj BK276.out 3).trans rfl; have hfz73_0 := zak BK276.out 0; have hfz73_1 := zak BK276.out 1; have hfz73_2 := zak BK276.out 2; have hfz73_3 := zak BK276.out 3))
           refine bodyPost_ret (results_cell_row rfl _ _ gb276 25 #[.int .i64 t288, .int .i64 t289, .int .i64 t290, .int .i64 t291] (0, 0) _ rfl (by (with_reducible repeat (first | refine zaf ?_ _ | refine zai ?_ | refine zae ?_ _)); refine zaT (cs := #[.int .i64 t288, .int .i64 t289, .int .i64 t290, .int .i64 x277003_2]) ?_ 3 _ rfl; (with_reducible repeat (first | refine zaf ?_ _ | refine zai ?_ | refine zae ?_ _)); refine zaT (cs := #[.int .i64 t288, .int .i64 t289, .int .i64 x277002_2, .int .i64 x277003_2]) ?_ 2 _ rfl; (with_reducible repeat (first | refine zaf ?_ _ | refine zai ?_ | refine zae ?_ _)); refine zaT (cs := #[.int .i64 t288, .int .i64 x277001_2, .int .i64 x277002_2, .int .i64 x277003_2]) ?_ 1 _ rfl; (with_reducible repeat (first | refine zaf ?_ _ | refine zai ?_ | refine zae ?_ _)); refine zaT (cs := #[.int .i64 x277000_2, .int .i64 x277001_2, .int .i64 x277002_2, .int .i64 x277003_2]) ?_ 0 _ rfl; (with_reducible repeat (first | refine zaf ?_ _ | refine zai ?_ | refine zae ?_ _)); refine zbv ?_ NB276_292.out _; (with_reducible repeat (first | refine zaf ?_ _ | refine zai ?_ | refine zae ?_ _)); refine zbv ?_ NB276_292.out _; (with_reducible repeat (first | refine zaf ?_ _ | refine zai ?_ | refine zae ?_ _)); refine zbv ?_ NB276_292.out _; (with_reducible repeat (first | refine zaf ?_ _ | refine zai ?_ | refine zae ?_ _)); refine zbv ?_ NB276_292.out _; (with_reducible repeat (first | refine zaf ?_ _ | refine zai ?_ | refine zae ?_ _)); exact BK276.out) Tryd.underlying25 rfl (by kernel_rfl)) rfl ?_
           exact ⟨by first | rfl | (simp [zam, zan] <;> rfl) | (simp [*, zam, zan] <;> rfl), by repeat (first | (with_reducible first | exact HB.out | apply zac | apply zab | apply zad | refine zah ?_ GE275.out | refine zah ?_ GE276.out | refine zah ?_ GE292.out) | exact HB.out)⟩
          ·rw [if_neg c65] at H
           have c65b0 : (!(t288 == 0) || (!(t289 == 0) || (!(t290 == 0) || (!(t291 == 0))))) = false := by simpa using c65
           clear c65
           have H' := zaa.mk H
           clear H
           have p287 : 0 ≤ (x56_2 : Int) := of_decide_eq_true (by first | (with_reducible assumption) | assumption)
           have q287 : x56_2 < (l0_1.length : Int) := of_decide_eq_true (by first | (with_reducible assumption) | assumption)
           obtain ⟨ad287, A287_0, c287_0, e287, hx287_0, hl287_0, hi287_0⟩ := zgn HR0_1.out x56_2 p287 q287
           cases e287
           replace hx287_0 := (HB.out.cell (World.block_lt_of_cell? w _ hx287_0)).trans hx287_0
           have HR287_0 := zaa.mk hi287_0
           have HC287_0 := zaa.mk hl287_0
           clear hi287_0 hl287_0
           replace p287 := eq_true p287
           replace q287 := eq_true q287
           have hnb74 := NB275_276.out
           have hnc74 := NB276_275.out
           have hcz75_0 : wr.cell? ⟨gb275, 0, none⟩ = some (.slice A0_0 l0_0.length c0_0) := (zaj BK275.out 0).trans rfl
           have hcz75_1 : wr.cell? ⟨gb275, 1, none⟩ = some (.slice (some ad287) l0_1.length c0_1) := (zaj BK275.out 1).trans rfl
           have hfz75_0 := zak BK275.out 0
           have hfz75_1 := zak BK275.out 1
           go_wp2_with (first | ((with_reducible refine zaI (f := 77) rfl ?_); refine za5 (some 73) rfl rfl Tryd.func77 (by kernel_rfl) rfl #[.slice A287_0 (zcO l0_1 x56_2).length c287_0, .int .i64 (wrap64 ((wrap64 ((l0_0.length : Int) + x56_2)) + 1)), .int .i64 a1, .int .i64 a2, .int .i64 (l0_0.length : Int)] rfl (by (try simp only [List.map_toArray, List.map_cons, List.map_nil]); first | done | rfl | (simp only [List.length_drop, List.length_take]; rfl)) ?_; (with_reducible refine (za2.calls k2 _ _ (zcO l0_1 x56_2) (wrap64 ((wrap64 ((l0_0.length : Int) + x56_2)) + 1)) a1 a2 (l0_0.length : Int) t288 t289 t290 t291 _ ?side1 ?side2 A64.out).mono ?_); (case side1 => repeat (first | exact (Kd.za1 HR287_0.out HB.out) | (with_reducible refine Kd.zaU ?_ _) | (with_reducible refine Kd.zaY ?_ _) | (with_reducible refine Kd.za3 ?_))); (case side2 => exact HC287_0.out); rintro e w76 ⟨rfl, hb⟩; refine ⟨_, rfl, ?_⟩; have n0_ := zaa.mk (zaM (g := gb275) (o := .cells #[.slice A0_0 l0_0.length c0_0, .slice (some ad287) l0_1.length c0_1] 50 (0, 0)) (by (with_reducible repeat (first | refine zaf ?_ _ | refine zai ?_ | refine zae ?_ _)); exact BK275.out) hb); have n1_ := zaa.mk (zaM (g := gb276) (o := .cells #[.int .i64 x277000_2, .int .i64 x277001_2, .int .i64 x277002_2, .int .i64 x277003_2] 25 (0, 0)) (by (with_reducible repeat (first | refine zaf ?_ _ | refine zai ?_ | refine zae ?_ _)); exact BK276.out) hb); have n2_ := zaa.mk (zat (by repeat (first | (with_reducible first | exact HB.out | apply zac | apply zab | apply zad | refine zah ?_ GE275.out | refine zah ?_ GE276.out) | exact HB.out)) hb); clear BK275; clear BK276; clear HB; have BK275 := n0_; have BK276 := n1_; have HB := n2_; clear n0_ n1_ n2_; (try clear hb); (try clear hb2); (try clear hk); (try clear hi)) | ((with_reducible refine zba (N := 12) rfl ?_); refine za6 ?hg (N := 12) ?hd (cs := #[.int .i64 0, .int .i64 0, .int .i64 0, .int .i64 0]) (t := 25) ?hr ?_; (case hd => rfl); (case hg => rfl); (case hr => first | (go_simp; done) | (go_simp; rfl)); intro gb292 hg w77 hbox hb; have n0_ := zaa.mk (zaM (g := gb275) (o := .cells #[.slice A0_0 l0_0.length c0_0, .slice (some ad287) l0_1.length c0_1] 50 (0, 0)) (by (with_reducible repeat (first | refine zaf ?_ _ | refine zai ?_ | refine zae ?_ _)); exact BK275.out) hb); have n1_ := zaa.mk (zaM (g := gb276) (o := .cells #[.int .i64 x277000_2, .int .i64 x277001_2, .int .i64 x277002_2, .int .i64 x277003_2] 25 (0, 0)) (by (with_reducible repeat (first | refine zaf ?_ _ | refine zai ?_ | refine zae ?_ _)); exact BK276.out) hb); have n2_ := zaa.mk (zat (by repeat (first | (with_reducible first | exact HB.out | apply zac | apply zab | apply zad | refine zah ?_ GE275.out | refine zah ?_ GE276.out) | exact HB.out)) hb); have n3_ := zaa.mk (hbox); have n4_ := zaa.mk ((by rw [hg]; exact (zas (by repeat (first | (with_reducible first | exact HB.out | apply zac | apply zab | apply zad | refine zah ?_ GE275.out | refine zah ?_ GE276.out) | exact HB.out))) : w.heap.size ≤ gb292)); have n5_ := zaa.mk ((by rw [hg]; exact (zas (by repeat (first | (with_reducible first | exact HB.out | apply zac | apply zab | apply zad | refine zah ?_ GE275.out | refine zah ?_ GE276.out) | exact HB.out))) : w.heap.size ≤ gb292)); have n6_ := zaa.mk ((by rw [hg]; exact Nat.ne_of_lt (zbk (g := gb275) (o := .cells #[.slice A0_0 l0_0.length c0_0, .slice (some ad287) l0_1.length c0_1] 50 (0, 0)) (by (with_reducible repeat (first | refine zaf ?_ _ | refine zai ?_ | refine zae ?_ _)); exact BK275.out)) : gb275 ≠ gb292)); have n7_ := zaa.mk ((by rw [hg]; exact Nat.ne_of_gt (zbk (g := gb275) (o := .cells #[.slice A0_0 l0_0.length c0_0, .slice (some ad287) l0_1.length c0_1] 50 (0, 0)) (by (with_reducible repeat (first | refine zaf ?_ _ | refine zai ?_ | refine zae ?_ _)); exact BK275.out)) : gb292 ≠ gb275)); have n8_ := zaa.mk ((by rw [hg]; exact Nat.ne_of_lt (zbk (g := gb276) (o := .cells #[.int .i64 x277000_2, .int .i64 x277001_2, .int .i64 x277002_2, .int .i64 x277003_2] 25 (0, 0)) (by (with_reducible repeat (first | refine zaf ?_ _ | refine zai ?_ | refine zae ?_ _)); exact BK276.out)) : gb276 ≠ gb292)); have n9_ := zaa.mk ((by rw [hg]; exact Nat.ne_of_gt (zbk (g := gb276) (o := .cells #[.int .i64 x277000_2, .int .i64 x277001_2, .int .i64 x277002_2, .int .i64 x277003_2] 25 (0, 0)) (by (with_reducible repeat (first | refine zaf ?_ _ | refine zai ?_ | refine zae ?_ _)); exact BK276.out)) : gb292 ≠ gb276)); clear BK275; clear BK276; clear HB; have BK275 := n0_; have BK276 := n1_; have HB := n2_; have BK292 := n3_; have GW292 := n4_; have GE292 := n5_; have NB275_292 := n6_; have NB292_275 := n7_; have NB276_292 := n8_; have NB292_276 := n9_; clear n0_ n1_ n2_ n3_ n4_ n5_ n6_ n7_ n8_ n9_; clear hb hbox hg; have hnb78 := NB292_275.out; have hnc78 := NB275_292.out; have hnb79 := NB292_276.out; have hnc79 := NB276_292.out; have hcz80_0 : w77.cell? ⟨gb292, 0, none⟩ = some (.int .i64 0) := (zaj BK292.out 0).trans rfl; have hcz80_1 : w77.cell? ⟨gb292, 1, none⟩ = some (.int .i64 0) := (zaj BK292.out 1).trans rfl; have hcz80_2 : w77.cell? ⟨gb292, 2, none⟩ = some (.int .i64 0) := (zaj BK292.out 2).trans rfl; have hcz80_3 : w77.cell? ⟨gb292, 3, none⟩ = some (.int .i64 0) := (zaj BK292.out 3).trans rfl; have hfz80_0 := zak BK292.out 0; have hfz80_1 := zak BK292.out 1; have hfz80_2 := zak BK292.out 2; have hfz80_3 := zak BK292.out 3))
           go_roundg k2
           case measure => have := HK1.out; have := HK2.out; omega
           case rel => exact ⟨(wrap64 (x56_2 + 1)), (x277000_2), (x277001_2), (x277002_2), (x277003_2), (by first | rfl | (simp; done) | (simp [*]; done)), H', ⟨by have := HK1.out; have := HK2.out; omega⟩, ⟨by (with_reducible repeat (first | refine zaf ?_ _ | refine zai ?_ | refine zae ?_ _)); refine zbv ?_ NB275_292.out _; (with_reducible repeat (first | refine zaf ?_ _ | refine zai ?_ | refine zae ?_ _)); refine zbv ?_ NB275_292.out _; (with_reducible repeat (first | refine zaf ?_ _ | refine zai ?_ | refine zae ?_ _)); refine zbv ?_ NB275_292.out _; (with_reducible repeat (first | refine zaf ?_ _ | refine zai ?_ | refine zae ?_ _)); refine zbv ?_ NB275_292.out _; (with_reducible repeat (first | refine zaf ?_ _ | refine zai ?_ | refine zae ?_ _)); exact BK275.out⟩, ⟨by (with_reducible repeat (first | refine zaf ?_ _ | refine zai ?_ | refine zae ?_ _)); refine zbv ?_ NB276_292.out _; (with_reducible repeat (first | refine zaf ?_ _ | refine zai ?_ | refine zae ?_ _)); refine zbv ?_ NB276_292.out _; (with_reducible repeat (first | refine zaf ?_ _ | refine zai ?_ | refine zae ?_ _)); refine zbv ?_ NB276_292.out _; (with_reducible repeat (first | refine zaf ?_ _ | refine zai ?_ | refine zae ?_ _)); refine zbv ?_ NB276_292.out _; (with_reducible repeat (first | refine zaf ?_ _ | refine zai ?_ | refine zae ?_ _)); exact BK276.out⟩, ⟨by repeat (first | (with_reducible first | exact HB.out | apply zac | apply zab | apply zad | refine zah ?_ GE275.out | refine zah ?_ GE276.out | refine zah ?_ GE292.out) | exact HB.out)⟩⟩
         ·rw [if_neg c63] at H
          exact absurd H (by simp)
        ·rw [if_neg c62] at H
         exact absurd H (by simp)
       ·rw [if_neg c61] at H
        have c61b0 : decide (x56_2 < (l0_1.length : Int)) = false := decide_eq_false c61
        clear c61
        simp only [Option.some.injEq, Prod.mk.injEq] at H
        obtain ⟨rfl, rfl, rfl, rfl⟩ := H
        have hnb81 := NB276_275.out
        have hnc81 := NB275_276.out
        have hcz82_0 : wr.cell? ⟨gb276, 0, none⟩ = some (.int .i64 x277000_2) := (zaj BK276.out 0).trans rfl
        have hcz82_1 : wr.cell? ⟨gb276, 1, none⟩ = some (.int .i64 x277001_2) := (zaj BK276.out 1).trans rfl
        have hcz82_2 : wr.cell? ⟨gb276, 2, none⟩ = some (.int .i64 x277002_2) := (zaj BK276.out 2).trans rfl
        have hcz82_3 : wr.cell? ⟨gb276, 3, none⟩ = some (.int .i64 x277003_2) := (zaj BK276.out 3).trans rfl
        have hfz82_0 := zak BK276.out 0
        have hfz82_1 := zak BK276.out 1
        have hfz82_2 := zak BK276.out 2
        have hfz82_3 := zak BK276.out 3
        go_wp2
        refine bodyPost_ret (results_cell_row rfl _ _ gb276 25 #[.int .i64 0, .int .i64 0, .int .i64 0, .int .i64 0] (0, 0) _ rfl (by (with_reducible repeat (first | refine zaf ?_ _ | refine zai ?_ | refine zae ?_ _)); refine zaT (cs := #[.int .i64 0, .int .i64 0, .int .i64 0, .int .i64 x277003_2]) ?_ 3 _ rfl; (with_reducible repeat (first | refine zaf ?_ _ | refine zai ?_ | refine zae ?_ _)); refine zaT (cs := #[.int .i64 0, .int .i64 0, .int .i64 x277002_2, .int .i64 x277003_2]) ?_ 2 _ rfl; (with_reducible repeat (first | refine zaf ?_ _ | refine zai ?_ | refine zae ?_ _)); refine zaT (cs := #[.int .i64 0, .int .i64 x277001_2, .int .i64 x277002_2, .int .i64 x277003_2]) ?_ 1 _ rfl; (with_reducible repeat (first | refine zaf ?_ _ | refine zai ?_ | refine zae ?_ _)); refine zaT (cs := #[.int .i64 x277000_2, .int .i64 x277001_2, .int .i64 x277002_2, .int .i64 x277003_2]) ?_ 0 _ rfl; (with_reducible repeat (first | refine zaf ?_ _ | refine zai ?_ | refine zae ?_ _)); exact BK276.out) Tryd.underlying25 rfl (by kernel_rfl)) rfl ?_
        exact ⟨by first | rfl | (simp [zam, zan] <;> rfl) | (simp [*, zam, zan] <;> rfl), by repeat (first | (with_reducible first | exact HB.out | apply zac | apply zab | apply zad | refine zah ?_ GE275.out | refine zah ?_ GE276.out) | exact HB.out)⟩
 ·replace c5 := Bool.eq_false_iff.mpr c5
  subst c5
  have H1 : (some (2, 0, 0, 0)) = some (r1, r2, r3, r4) := by rw [if_neg (show ¬ (false = true) by decide)] at H; exact H
  clear H
  have H := H1
  clear H1
  simp only [Option.some.injEq, Prod.mk.injEq] at H
  obtain ⟨rfl, rfl, rfl, rfl⟩ := H
  go_enter Tryd.func26, Tryd.ntmps26
  go_wp2_with (first | ((with_reducible refine zba (N := 3) rfl ?_); refine za6 ?hg (N := 3) ?hd (cs := #[.slice A0_0 l0_0.length c0_0, .slice A0_1 l0_1.length c0_1]) (t := 50) ?hr ?_; (case hd => rfl); (case hg => rfl); (case hr => first | (go_simp; done) | (go_simp; rfl)); intro gb275 hg w83 hbox hb; have n0_ := zaa.mk (zat (by repeat (first | (with_reducible first | exact HB.out | apply zac | apply zab | apply zad) | exact HB.out)) hb); have n1_ := zaa.mk (hbox); have n2_ := zaa.mk ((by rw [hg]; exact (zas (by repeat (first | (with_reducible first | exact HB.out | apply zac | apply zab | apply zad) | exact HB.out))) : w.heap.size ≤ gb275)); have n3_ := zaa.mk ((by rw [hg]; exact (zas (by repeat (first | (with_reducible first | exact HB.out | apply zac | apply zab | apply zad) | exact HB.out))) : w.heap.size ≤ gb275)); clear HB; have HB := n0_; have BK275 := n1_; have GW275 := n2_; have GE275 := n3_; clear n0_ n1_ n2_ n3_; clear hb hbox hg) | ((with_reducible refine zba (N := 6) rfl ?_); refine za6 ?hg (N := 6) ?hd (cs := #[.int .i64 0, .int .i64 0, .int .i64 0, .int .i64 0]) (t := 25) ?hr ?_; (case hd => rfl); (case hg => rfl); (case hr => first | (go_simp; done) | (go_simp; rfl)); intro gb276 hg w84 hbox hb; have n0_ := zaa.mk (zaM (g := gb275) (o := .cells #[.slice A0_0 l0_0.length c0_0, .slice A0_1 l0_1.length c0_1] 50 (0, 0)) (by (with_reducible repeat (first | refine zaf ?_ _ | refine zai ?_ | refine zae ?_ _)); exact BK275.out) hb); have n1_ := zaa.mk (zat (by repeat (first | (with_reducible first | exact HB.out | apply zac | apply zab | apply zad | refine zah ?_ GE275.out) | exact HB.out)) hb); have n2_ := zaa.mk (hbox); have n3_ := zaa.mk ((by rw [hg]; exact (zas (by repeat (first | (with_reducible first | exact HB.out | apply zac | apply zab | apply zad | refine zah ?_ GE275.out) | exact HB.out))) : w.heap.size ≤ gb276)); have n4_ := zaa.mk ((by rw [hg]; exact (zas (by repeat (first | (with_reducible first | exact HB.out | apply zac | apply zab | apply zad | refine zah ?_ GE275.out) | exact HB.out))) : w.heap.size ≤ gb276)); have n5_ := zaa.mk ((by rw [hg]; exact Nat.ne_of_lt (zbk (g := gb275) (o := .cells #[.slice A0_0 l0_0.length c0_0, .slice A0_1 l0_1.length c0_1] 50 (0, 0)) (by (with_reducible repeat (first | refine zaf ?_ _ | refine zai ?_ | refine zae ?_ _)); exact BK275.out)) : gb275 ≠ gb276)); have n6_ := zaa.mk ((by rw [hg]; exact Nat.ne_of_gt (zbk (g := gb275) (o := .cells #[.slice A0_0 l0_0.length c0_0, .slice A0_1 l0_1.length c0_1] 50 (0, 0)) (by (with_reducible repeat (first | refine zaf ?_ _ | refine zai ?_ | refine zae ?_ _)); exact BK275.out)) : gb276 ≠ gb275)); clear BK275; clear HB; have BK275 := n0_; have HB := n1_; have BK276 := n2_; have GW276 := n3_; have GE276 := n4_; have NB275_276 := n5_; have NB276_275 := n6_; clear n0_ n1_ n2_ n3_ n4_ n5_ n6_; clear hb hbox hg; have hnb85 := NB275_276.out; have hnc85 := NB276_275.out; have hcz86_0 : w84.cell? ⟨gb275, 0, none⟩ = some (.slice A0_0 l0_0.length c0_0) := (zaj BK275.out 0).trans rfl; have hcz86_1 : w84.cell? ⟨gb275, 1, none⟩ = some (.slice A0_1 l0_1.length c0_1) := (zaj BK275.out 1).trans rfl; have hfz86_0 := zak BK275.out 0; have hfz86_1 := zak BK275.out 1) | ((with_reducible refine zaI (f := 75) rfl ?_); refine za5 (some 16) rfl rfl Tryd.func75 (by kernel_rfl) rfl #[.agg #[.slice A0_0 l0_0.length c0_0, .slice A0_1 l0_1.length c0_1], .int .i64 a1, .int .i64 a2] rfl (by (try simp only [List.map_toArray, List.map_cons, List.map_nil]); first | done | rfl | (simp only [List.length_drop, List.length_take]; rfl)) ?_; (with_reducible refine (zbB.calls k _ _ l0_0 _ _ l0_1 a1 a2 false _ ?side1 ?side2 ?side3 ?side4 A4.out).mono ?_); (case side1 => repeat (first | exact (Kd.za1 HR0_0.out HB.out) | (with_reducible refine Kd.zaU ?_ _) | (with_reducible refine Kd.zaY ?_ _) | (with_reducible refine Kd.za3 ?_))); (case side2 => exact HC0_0.out); (case side3 => repeat (first | exact (Kd.za1 HR0_1.out HB.out) | (with_reducible refine Kd.zaU ?_ _) | (with_reducible refine Kd.zaY ?_ _) | (with_reducible refine Kd.za3 ?_))); (case side4 => exact HC0_1.out); rintro e w87 ⟨rfl, hb⟩; refine ⟨_, rfl, ?_⟩; have n0_ := zaa.mk (zaM (g := gb275) (o := .cells #[.slice A0_0 l0_0.length c0_0, .slice A0_1 l0_1.length c0_1] 50 (0, 0)) (by (with_reducible repeat (first | refine zaf ?_ _ | refine zai ?_ | refine zae ?_ _)); exact BK275.out) hb); have n1_ := zaa.mk (zaM (g := gb276) (o := .cells #[.int .i64 0, .int .i64 0, .int .i64 0, .int .i64 0] 25 (0, 0)) (by (with_reducible repeat (first | refine zaf ?_ _ | refine zai ?_ | refine zae ?_ _)); exact BK276.out) hb); have n2_ := zaa.mk (zat (by repeat (first | (with_reducible first | exact HB.out | apply zac | apply zab | apply zad | refine zah ?_ GE275.out | refine zah ?_ GE276.out) | exact HB.out)) hb); clear BK275; clear BK276; clear HB; have BK275 := n0_; have BK276 := n1_; have HB := n2_; clear n0_ n1_ n2_; (try clear hb); (try clear hb2); (try clear hk); (try clear hi); have hcz88_0 : w87.cell? ⟨gb276, 0, none⟩ = some (.int .i64 0) := (zaj BK276.out 0).trans rfl; have hcz88_1 : w87.cell? ⟨gb276, 1, none⟩ = some (.int .i64 0) := (zaj BK276.out 1).trans rfl; have hcz88_2 : w87.cell? ⟨gb276, 2, none⟩ = some (.int .i64 0) := (zaj BK276.out 2).trans rfl; have hcz88_3 : w87.cell? ⟨gb276, 3, none⟩ = some (.int .i64 0) := (zaj BK276.out 3).trans rfl; have hfz88_0 := zak BK276.out 0; have hfz88_1 := zak BK276.out 1; have hfz88_2 := zak BK276.out 2; have hfz88_3 := zak BK276.out 3))
  refine bodyPost_ret (results_cell_row rfl _ _ gb276 25 #[.int .i64 2, .int .i64 0, .int .i64 0, .int .i64 0] (0, 0) _ rfl (by (with_reducible repeat (first | refine zaf ?_ _ | refine zai ?_ | refine zae ?_ _)); refine zaT (cs := #[.int .i64 2, .int .i64 0, .int .i64 0, .int .i64 0]) ?_ 3 _ rfl; (with_reducible repeat (first | refine zaf ?_ _ | refine zai ?_ | refine zae ?_ _)); refine zaT (cs := #[.int .i64 2, .int .i64 0, .int .i64 0, .int .i64 0]) ?_ 2 _ rfl; (with_reducible repeat (first | refine zaf ?_ _ | refine zai ?_ | refine zae ?_ _)); refine zaT (cs := #[.int .i64 2, .int .i64 0, .int .i64 0, .int .i64 0]) ?_ 1 _ rfl; (with_reducible repeat (first | refine zaf ?_ _ | refine zai ?_ | refine zae ?_ _)); refine zaT (cs := #[.int .i64 0, .int .i64 0, .int .i64 0, .int .i64 0]) ?_ 0 _ rfl; (with_reducible repeat (first | refine zaf ?_ _ | refine zai ?_ | refine zae ?_ _)); exact BK276.out) Tryd.underlying25 rfl (by kernel_rfl)) rfl ?_
  exact ⟨by first | rfl | (simp [zam, zan] <;> rfl) | (simp [*, zam, zan] <;> rfl), by repeat (first | (with_reducible first | exact HB.out | apply zac | apply zab | apply zad | refine zah ?_ GE275.out | refine zah ?_ GE276.out) | exact HB.out)⟩
end Go.Proofs.YtbicjgaadknmfaaDoor.P
end
section
namespace Go.Proofs.YtbicjgaadknmfaaDoor.P
open Go.RowKit Go.Proofs.YtbicjgaadknmfaaDoorW.PrintWords
set_option linter.unusedVariables false
set_option linter.unusedSimpArgs false
abbrev TN := 60
abbrev TC := 56
abbrev TCC := 48
abbrev TF := 50
abbrev dC := Kd.slice TN k60
abbrev CN := S60
theorem zkn {α : Type} {d : Kd α} {W : World} {g t : Nat} {cs : Array Value} {x : α} (h : W.heap[g]? = some (.cells cs t (0, 0))) (hl : cs.size = d.sz) (hk : d.K W x cs.toList) : d.C W (some ⟨g, 0, none⟩) 1 [x] := by
  refine ⟨rfl, by omega, fun _ => ⟨_, rfl, fun j p hj => ?_⟩⟩
  cases j with
  | succ j => cases hj
  | zero =>
    cases hj
    refine ⟨cs.toList, by simpa using hl, hk, fun i u hu => ?_⟩
    rw [Nat.zero_mul, Nat.zero_add, add_plain]
    show W.cell? ⟨g, i, none⟩ = some u
    rw [zaj h]
    simpa using hu
def S15 : List Nat := [11, 72, 73, 74, 75, 76, 77, 78, 79, 80, 81, 82, 83]
def okG (b : Bool) (p : Value) (k : Nat) : Prop := b = true → p ≠ .pointer (some ⟨k, 0, none⟩)
abbrev cN (n : Int) : Array Value := #[.int .i64 3, .int .i64 n, .slice none 0 0]
section
variable (W0 : World) (a0 : Act) (g7 : Nat) (n : Int) (vL : Value) (A1 : Option Addr) (c1 : Nat) (O : List (List CN))
structure I15 (l : Array Bool) (a : Act) (w : World) : Prop where
  sz : l.size = 14
  asz : a.tmps.size = a0.tmps.size
  df : a.defers = a0.defers
  fr : ∀ t, t ∉ S15 → a.eval (.tmp t) = a0.eval (.tmp t)
  bel : Below W0.heap.size W0 w
  e0 : l.getD 0 false = true → a.eval (.tmp 72) = .pointer (some ⟨g7, 0, none⟩)
  e1 : l.getD 1 false = true → a.eval (.tmp 73) = vL
  e3 : l.getD 3 false = true → a.eval (.tmp 75) = .pointer (some ⟨g7, 1, none⟩)
  e4 : l.getD 4 false = true → a.eval (.tmp 76) = .slice A1 O.length c1
  e6 : l.getD 6 false = true → a.eval (.tmp 78) = .int .i64 n
  e7 : l.getD 7 false = true → a.eval (.tmp 79) = .agg (cN n)
  e11 : l.getD 11 false = true → a.eval (.tmp 83) = .agg #[vL, a.eval (.tmp 82)]
  e11b : l.getD 11 false = true → l.getD 10 false = true
  e13 : l.getD 13 false = true → l.getD 10 false = true ∧ l.getD 12 false = true
  e10 : l.getD 10 false = true → l.getD 9 false = true ∧ l.getD 5 false = true
  m2 : l.getD 2 false = true → l.getD 5 false = false → Kd.N dC TC w W0.heap.size (okG (l.getD 12 false) (a.eval (.tmp 11))) (a.eval (.tmp 74)) []
  m5 : l.getD 5 false = true → l.getD 10 false = false → Kd.N dC TC w W0.heap.size (okG (l.getD 12 false) (a.eval (.tmp 11))) (a.eval (.tmp 77)) O
  m8 : l.getD 8 false = true → l.getD 10 false = false → ∃ g, a.eval (.tmp 80) = .slice (some ⟨g, 0, none⟩) 1 1 ∧ w.heap[g]? = some (.cells (cN n) TN (0, 0))
  m9 : l.getD 9 false = true → l.getD 10 false = false → ∃ g g', a.eval (.tmp 81) = .slice (some ⟨g, 0, none⟩) 1 1 ∧ w.heap[g]? = some (.cells #[.slice (some ⟨g', 0, none⟩) 1 1] TC (0, 0)) ∧ w.heap[g']? = some (.cells (cN n) TN (0, 0)) ∧
    (l.getD 2 false = true → l.getD 5 false = false → some g ≠ (a.eval (.tmp 74)).ownBlock) ∧ (l.getD 5 false = true → some g ≠ (a.eval (.tmp 77)).ownBlock)
  m10 : l.getD 10 false = true → Kd.N dC TC w W0.heap.size (okG (l.getD 12 false) (a.eval (.tmp 11))) (a.eval (.tmp 82)) (O ++ [[⟨3, n, []⟩]])
  m12 : l.getD 12 false = true → ∃ g, a.eval (.tmp 11) = .pointer (some ⟨g, 0, none⟩) ∧ W0.heap.size ≤ g ∧ w.heap[g]? = some (.cells (if l.getD 13 false = true then #[vL, a.eval (.tmp 82)] else #[.slice none 0 0, .slice none 0 0]) TF (0, 0))
end
variable {W0 : World} {a0 : Act} {g7 : Nat} {n : Int} {vL : Value} {A1 : Option Addr} {c1 : Nat} {O : List (List CN)}
theorem zi1 {l : Array Bool} {a : Act} {w : World} (h : I15 W0 a0 g7 n vL A1 c1 O l a w) {k : Nat} (hk : k < W0.heap.size) : okG (l.getD 12 false) (a.eval (.tmp 11)) k := by
  intro h1 h2
  obtain ⟨g, e, hg, _⟩ := h.m12 h1
  rw [e] at h2
  injection h2 with h2
  injection h2 with h2
  injection h2 with h2
  omega
theorem zfl {l : Array Bool} {a : Act} {w : World} (h : I15 W0 a0 g7 n vL A1 c1 O l a w) {k : Nat} (hk : w.heap.size ≤ k) : okG (l.getD 12 false) (a.eval (.tmp 11)) k := by
  intro h1 h2
  obtain ⟨g, e, hg, hb⟩ := h.m12 h1
  rw [e] at h2
  injection h2 with h2
  injection h2 with h2
  injection h2 with h2
  have := zbk hb
  omega
theorem zhI {l : Array Bool} {a : Act} {w : World} (h : I15 W0 a0 g7 n vL A1 c1 O l a w) {k t : Nat} {cs : Array Value} (hk : w.heap[k]? = some (.cells cs t (0, 0))) (ht : t ≠ TF) : okG (l.getD 12 false) (a.eval (.tmp 11)) k := by
  intro h1 h2
  obtain ⟨g, e, hg, hb⟩ := h.m12 h1
  rw [e] at h2
  injection h2 with h2
  injection h2 with h2
  injection h2 with h2
  exact zlm hk hb ht h2.symm
theorem zc4 {a a1 : Act} {d : Nat} {v : Value} (hd : d ∈ S15) (hs : d < a.tmps.size) (h : ∀ t, t ∉ S15 → a.eval (.tmp t) = a1.eval (.tmp t)) : ∀ t, t ∉ S15 → (a.put (some d) v).eval (.tmp t) = a1.eval (.tmp t) := by
  intro t ht
  rw [eval_put hs, if_neg (fun e : t = d => ht (e ▸ hd))]
  exact h t ht
set_option maxRecDepth 100000
theorem ev {a : Act} {t : Nat} {v : Value} (h : a.eval (.tmp t) = v) : a.tmps[t]?.getD undef = v := by rw [← Array.getD_eq_getD_getElem?]; exact h
def zeP : Oper := { dst := some 72, op := .fieldAddr 50 (.tmp 7) 0, type := 0, pos := "theorems.go:39", after := #[], guard := none }
def ze0 : Oper := { dst := some 73, op := .load 47 (.tmp 72), type := 47, pos := "theorems.go:39", after := #[{ on := 0, ground := .data }], guard := none }
def zfH : Oper := { dst := some 74, op := .buildSlice 48 0 #[], type := 48, pos := "theorems.go:39", after := #[], guard := none }
def zeT : Oper := { dst := some 75, op := .fieldAddr 50 (.tmp 7) 1, type := 0, pos := "theorems.go:39", after := #[], guard := none }
def zeY : Oper := { dst := some 76, op := .load 48 (.tmp 75), type := 48, pos := "theorems.go:39", after := #[{ on := 3, ground := .data }], guard := none }
def zgy : Oper := { dst := some 77, op := .call { callee := .builtin .append, args := #[.tmp 74, .tmp 76], argTypes := #[48, 48] }, type := 48, pos := "theorems.go:39", after := #[{ on := 2, ground := .data }, { on := 4, ground := .data }], guard := none }
def zeO : Oper := { dst := some 78, op := .move (.tmp 8), type := 3, pos := "theorems.go:39", after := #[], guard := none }
def ze4 : Oper := { dst := some 79, op := .build 60 #[(0, .const (.int .i64 3)), (1, .tmp 78)], type := 60, pos := "theorems.go:39", after := #[{ on := 6, ground := .data }], guard := none }
def zeQ : Oper := { dst := some 80, op := .buildSlice 56 1 #[(0, .tmp 79)], type := 56, pos := "theorems.go:39", after := #[{ on := 7, ground := .data }], guard := none }
def zeL : Oper := { dst := some 81, op := .buildSlice 48 1 #[(0, .tmp 80)], type := 48, pos := "theorems.go:39", after := #[{ on := 8, ground := .data }], guard := none }
def zfq : Oper := { dst := some 82, op := .call { callee := .builtin .append, args := #[.tmp 77, .tmp 81], argTypes := #[48, 48] }, type := 48, pos := "theorems.go:39", after := #[{ on := 5, ground := .data }, { on := 9, ground := .data }, { on := 5, ground := .chain }], guard := none }
def zek : Oper := { dst := some 83, op := .build 50 #[(0, .tmp 73), (1, .tmp 82)], type := 50, pos := "theorems.go:39", after := #[{ on := 1, ground := .data }, { on := 10, ground := .data }], guard := none }
def zeh : Oper := { dst := some 11, op := .alloc 50, type := 0, pos := "theorems.go:39", after := #[], guard := none }
def zei : Oper := { dst := none, op := .store 50 (.tmp 11) (.tmp 83), type := 0, pos := "theorems.go:39", after := #[{ on := 12, ground := .data }, { on := 11, ground := .data }, { on := 10, ground := .chain }, { on := 0, ground := .phase }, { on := 1, ground := .phase }, { on := 2, ground := .phase }, { on := 3, ground := .phase }, { on := 4, ground := .phase }, { on := 5, ground := .phase }, { on := 6, ground := .phase }, { on := 7, ground := .phase }, { on := 8, ground := .phase }, { on := 9, ground := .phase }, { on := 10, ground := .phase }, { on := 11, ground := .phase }, { on := 12, ground := .phase }], guard := none }
def R15 : Array Oper := #[zeP, ze0, zfH, zeT, zeY, zgy, zeO, ze4, zeQ, zeL, zfq, zek, zeh, zei]
theorem unl {l : Array Bool} {i : Nat} (h : l.getD i true = false) : l.getD i false = false := by
  rw [Array.getD_eq_getD_getElem?] at h ⊢
  cases e : l[i]? with
  | none => rfl
  | some b => rw [e] at h; exact h
theorem aft {l : Array Bool} {o : Oper} (h2 : (o.after.all fun e => !Region.binds .any e || l.getD e.on false) = true) (j : Nat) (hj : j < o.after.size) : (!Region.binds .any o.after[j] || l.getD o.after[j].on false) = true := Array.all_eq_true.1 h2 j hj
variable {Q : Exit → Act → World → Prop} {l : Array Bool} {a : Act} {w : World} {K : Act → World → Prop}
theorem st0 (h : I15 W0 a0 g7 n vL A1 c1 O l a w) (hs : 84 ≤ a0.tmps.size) (h7 : a0.eval (.tmp 7) = .pointer (some ⟨g7, 0, none⟩)) (h1 : l.getD 0 true = false) (h2 : (zeP.after.all fun e => !Region.binds .any e || l.getD e.on false) = true)
    (hK : ∀ a' w', I15 W0 a0 g7 n vL A1 c1 O (l.setIfInBounds 0 true) a' w' → K a' w') : if Region.wanted zeP (yielded R15 a.tmps) = true then Oper.wp Tryd.prog zeP a w K Q else K (a.put zeP.dst undef) w := by
  have q7 := ev ((h.fr 7 (by decide)).trans h7)
  have u := Tryd.underlying50
  have hrun : (execOp a.eval zeP).run Tryd.prog w = .ok (.value (.pointer (some ⟨g7, 0, none⟩))) w := by
    unfold zeP
    go_simp
  refine zcV rfl (v := .pointer (some ⟨g7, 0, none⟩)) (w1 := w) hrun (hK _ _ ?_)
  show I15 _ _ _ _ _ _ _ _ _ (a.put (some 72) _) _
  have LS : ∀ j, (l.setIfInBounds 0 true).getD j false = if j = 0 then true else l.getD j false := fun j => zcj (by rw [h.sz]; decide) false
  have ha := h.asz
  have ES : ∀ t, (a.put (some 72) (.pointer (some ⟨g7, 0, none⟩))).eval (.tmp t) = if t = 72 then (.pointer (some ⟨g7, 0, none⟩)) else a.eval (.tmp t) := fun t => eval_put (by omega)
  refine ⟨by simp [h.sz], by simpa [Act.put] using ha, h.df, zc4 (by decide) (by omega) h.fr, h.bel, ?_, ?_, ?_, ?_, ?_, ?_, ?_, ?_, ?_, ?_, ?_, ?_, ?_, ?_, ?_, ?_⟩
  all_goals simp only [LS, ES, Nat.reduceEqDiff, if_true, if_false, reduceIte]
  · exact fun _ => trivial
  · exact h.e1
  · exact h.e3
  · exact h.e4
  · exact h.e6
  · exact h.e7
  · exact h.e11
  · exact h.e11b
  · exact h.e13
  · exact h.e10
  · exact h.m2
  · exact h.m5
  · exact h.m8
  · exact h.m9
  · exact h.m10
  · exact h.m12
theorem st3 (h : I15 W0 a0 g7 n vL A1 c1 O l a w) (hs : 84 ≤ a0.tmps.size) (h7 : a0.eval (.tmp 7) = .pointer (some ⟨g7, 0, none⟩)) (h1 : l.getD 3 true = false) (h2 : (zeT.after.all fun e => !Region.binds .any e || l.getD e.on false) = true)
    (hK : ∀ a' w', I15 W0 a0 g7 n vL A1 c1 O (l.setIfInBounds 3 true) a' w' → K a' w') : if Region.wanted zeT (yielded R15 a.tmps) = true then Oper.wp Tryd.prog zeT a w K Q else K (a.put zeT.dst undef) w := by
  have q7 := ev ((h.fr 7 (by decide)).trans h7)
  have u := Tryd.underlying50
  have hrun : (execOp a.eval zeT).run Tryd.prog w = .ok (.value (.pointer (some ⟨g7, 1, none⟩))) w := by
    unfold zeT
    go_simp
  refine zcV rfl (v := .pointer (some ⟨g7, 1, none⟩)) (w1 := w) hrun (hK _ _ ?_)
  show I15 _ _ _ _ _ _ _ _ _ (a.put (some 75) _) _
  have LS : ∀ j, (l.setIfInBounds 3 true).getD j false = if j = 3 then true else l.getD j false := fun j => zcj (by rw [h.sz]; decide) false
  have ha := h.asz
  have ES : ∀ t, (a.put (some 75) (.pointer (some ⟨g7, 1, none⟩))).eval (.tmp t) = if t = 75 then (.pointer (some ⟨g7, 1, none⟩)) else a.eval (.tmp t) := fun t => eval_put (by omega)
  refine ⟨by simp [h.sz], by simpa [Act.put] using ha, h.df, zc4 (by decide) (by omega) h.fr, h.bel, ?_, ?_, ?_, ?_, ?_, ?_, ?_, ?_, ?_, ?_, ?_, ?_, ?_, ?_, ?_, ?_⟩
  all_goals simp only [LS, ES, Nat.reduceEqDiff, if_true, if_false, reduceIte]
  · exact h.e0
  · exact h.e1
  · exact fun _ => trivial
  · exact h.e4
  · exact h.e6
  · exact h.e7
  · exact h.e11
  · exact h.e11b
  · exact h.e13
  · exact h.e10
  · exact h.m2
  · exact h.m5
  · exact h.m8
  · exact h.m9
  · exact h.m10
  · exact h.m12
theorem st6 (h : I15 W0 a0 g7 n vL A1 c1 O l a w) (hs : 84 ≤ a0.tmps.size) (h8 : a0.eval (.tmp 8) = .int .i64 n) (h1 : l.getD 6 true = false) (h2 : (zeO.after.all fun e => !Region.binds .any e || l.getD e.on false) = true)
    (hK : ∀ a' w', I15 W0 a0 g7 n vL A1 c1 O (l.setIfInBounds 6 true) a' w' → K a' w') : if Region.wanted zeO (yielded R15 a.tmps) = true then Oper.wp Tryd.prog zeO a w K Q else K (a.put zeO.dst undef) w := by
  have q8 := ev ((h.fr 8 (by decide)).trans h8)
  have hrun : (execOp a.eval zeO).run Tryd.prog w = .ok (.value (.int .i64 n)) w := by
    unfold zeO
    go_simp
  refine zcV rfl (v := .int .i64 n) (w1 := w) hrun (hK _ _ ?_)
  show I15 _ _ _ _ _ _ _ _ _ (a.put (some 78) _) _
  have LS : ∀ j, (l.setIfInBounds 6 true).getD j false = if j = 6 then true else l.getD j false := fun j => zcj (by rw [h.sz]; decide) false
  have ha := h.asz
  have ES : ∀ t, (a.put (some 78) (.int .i64 n)).eval (.tmp t) = if t = 78 then (.int .i64 n) else a.eval (.tmp t) := fun t => eval_put (by omega)
  refine ⟨by simp [h.sz], by simpa [Act.put] using ha, h.df, zc4 (by decide) (by omega) h.fr, h.bel, ?_, ?_, ?_, ?_, ?_, ?_, ?_, ?_, ?_, ?_, ?_, ?_, ?_, ?_, ?_, ?_⟩
  all_goals simp only [LS, ES, Nat.reduceEqDiff, if_true, if_false, reduceIte]
  · exact h.e0
  · exact h.e1
  · exact h.e3
  · exact h.e4
  · exact fun _ => trivial
  · exact h.e7
  · exact h.e11
  · exact h.e11b
  · exact h.e13
  · exact h.e10
  · exact h.m2
  · exact h.m5
  · exact h.m8
  · exact h.m9
  · exact h.m10
  · exact h.m12
theorem st1 (h : I15 W0 a0 g7 n vL A1 c1 O l a w) (hs : 84 ≤ a0.tmps.size) (hc0 : W0.cell? ⟨g7, 0, none⟩ = some vL) (h1 : l.getD 1 true = false) (h2 : (ze0.after.all fun e => !Region.binds .any e || l.getD e.on false) = true)
    (hK : ∀ a' w', I15 W0 a0 g7 n vL A1 c1 O (l.setIfInBounds 1 true) a' w' → K a' w') : if Region.wanted ze0 (yielded R15 a.tmps) = true then Oper.wp Tryd.prog ze0 a w K Q else K (a.put ze0.dst undef) w := by
  have q := ev (h.e0 (aft h2 0 (by decide)))
  have hc := zbA h.bel hc0
  have hrun : (execOp a.eval ze0).run Tryd.prog w = .ok (.value vL) w := by
    unfold ze0
    go_simp
  refine zcV rfl (v := vL) (w1 := w) hrun (hK _ _ ?_)
  show I15 _ _ _ _ _ _ _ _ _ (a.put (some 73) _) _
  have LS : ∀ j, (l.setIfInBounds 1 true).getD j false = if j = 1 then true else l.getD j false := fun j => zcj (by rw [h.sz]; decide) false
  have ha := h.asz
  have ES : ∀ t, (a.put (some 73) (vL)).eval (.tmp t) = if t = 73 then (vL) else a.eval (.tmp t) := fun t => eval_put (by omega)
  refine ⟨by simp [h.sz], by simpa [Act.put] using ha, h.df, zc4 (by decide) (by omega) h.fr, h.bel, ?_, ?_, ?_, ?_, ?_, ?_, ?_, ?_, ?_, ?_, ?_, ?_, ?_, ?_, ?_, ?_⟩
  all_goals simp only [LS, ES, Nat.reduceEqDiff, if_true, if_false, reduceIte]
  · exact h.e0
  · exact fun _ => trivial
  · exact h.e3
  · exact h.e4
  · exact h.e6
  · exact h.e7
  · exact h.e11
  · exact h.e11b
  · exact h.e13
  · exact h.e10
  · exact h.m2
  · exact h.m5
  · exact h.m8
  · exact h.m9
  · exact h.m10
  · exact h.m12
theorem st4 (h : I15 W0 a0 g7 n vL A1 c1 O l a w) (hs : 84 ≤ a0.tmps.size) (hc1 : W0.cell? ⟨g7, 1, none⟩ = some (.slice A1 O.length c1)) (h1 : l.getD 4 true = false) (h2 : (zeY.after.all fun e => !Region.binds .any e || l.getD e.on false) = true)
    (hK : ∀ a' w', I15 W0 a0 g7 n vL A1 c1 O (l.setIfInBounds 4 true) a' w' → K a' w') : if Region.wanted zeY (yielded R15 a.tmps) = true then Oper.wp Tryd.prog zeY a w K Q else K (a.put zeY.dst undef) w := by
  have q := ev (h.e3 (aft h2 0 (by decide)))
  have hc := zbA h.bel hc1
  have hrun : (execOp a.eval zeY).run Tryd.prog w = .ok (.value (.slice A1 O.length c1)) w := by
    unfold zeY
    go_simp
  refine zcV rfl (v := .slice A1 O.length c1) (w1 := w) hrun (hK _ _ ?_)
  show I15 _ _ _ _ _ _ _ _ _ (a.put (some 76) _) _
  have LS : ∀ j, (l.setIfInBounds 4 true).getD j false = if j = 4 then true else l.getD j false := fun j => zcj (by rw [h.sz]; decide) false
  have ha := h.asz
  have ES : ∀ t, (a.put (some 76) (.slice A1 O.length c1)).eval (.tmp t) = if t = 76 then (.slice A1 O.length c1) else a.eval (.tmp t) := fun t => eval_put (by omega)
  refine ⟨by simp [h.sz], by simpa [Act.put] using ha, h.df, zc4 (by decide) (by omega) h.fr, h.bel, ?_, ?_, ?_, ?_, ?_, ?_, ?_, ?_, ?_, ?_, ?_, ?_, ?_, ?_, ?_, ?_⟩
  all_goals simp only [LS, ES, Nat.reduceEqDiff, if_true, if_false, reduceIte]
  · exact h.e0
  · exact h.e1
  · exact h.e3
  · exact fun _ => trivial
  · exact h.e6
  · exact h.e7
  · exact h.e11
  · exact h.e11b
  · exact h.e13
  · exact h.e10
  · exact h.m2
  · exact h.m5
  · exact h.m8
  · exact h.m9
  · exact h.m10
  · exact h.m12
theorem st7 (h : I15 W0 a0 g7 n vL A1 c1 O l a w) (hs : 84 ≤ a0.tmps.size) (h1 : l.getD 7 true = false) (h2 : (ze4.after.all fun e => !Region.binds .any e || l.getD e.on false) = true)
    (hK : ∀ a' w', I15 W0 a0 g7 n vL A1 c1 O (l.setIfInBounds 7 true) a' w' → K a' w') : if Region.wanted ze4 (yielded R15 a.tmps) = true then Oper.wp Tryd.prog ze4 a w K Q else K (a.put ze4.dst undef) w := by
  have q := ev (h.e6 (aft h2 0 (by decide)))
  have u := Tryd.underlying60
  have hrun : (execOp a.eval ze4).run Tryd.prog w = .ok (.value (.agg (cN n))) w := by
    unfold ze4
    go_simp
  refine zcV rfl (v := .agg (cN n)) (w1 := w) hrun (hK _ _ ?_)
  show I15 _ _ _ _ _ _ _ _ _ (a.put (some 79) _) _
  have LS : ∀ j, (l.setIfInBounds 7 true).getD j false = if j = 7 then true else l.getD j false := fun j => zcj (by rw [h.sz]; decide) false
  have ha := h.asz
  have ES : ∀ t, (a.put (some 79) (.agg (cN n))).eval (.tmp t) = if t = 79 then (.agg (cN n)) else a.eval (.tmp t) := fun t => eval_put (by omega)
  refine ⟨by simp [h.sz], by simpa [Act.put] using ha, h.df, zc4 (by decide) (by omega) h.fr, h.bel, ?_, ?_, ?_, ?_, ?_, ?_, ?_, ?_, ?_, ?_, ?_, ?_, ?_, ?_, ?_, ?_⟩
  all_goals simp only [LS, ES, Nat.reduceEqDiff, if_true, if_false, reduceIte]
  · exact h.e0
  · exact h.e1
  · exact h.e3
  · exact h.e4
  · exact h.e6
  · exact fun _ => trivial
  · exact h.e11
  · exact h.e11b
  · exact h.e13
  · exact h.e10
  · exact h.m2
  · exact h.m5
  · exact h.m8
  · exact h.m9
  · exact h.m10
  · exact h.m12
theorem st11 (h : I15 W0 a0 g7 n vL A1 c1 O l a w) (hs : 84 ≤ a0.tmps.size) {AL : Option Addr} {nL cL : Nat} (hv : vL = .slice AL nL cL) (h1 : l.getD 11 true = false) (h2 : (zek.after.all fun e => !Region.binds .any e || l.getD e.on false) = true)
    (hK : ∀ a' w', I15 W0 a0 g7 n vL A1 c1 O (l.setIfInBounds 11 true) a' w' → K a' w') : if Region.wanted zek (yielded R15 a.tmps) = true then Oper.wp Tryd.prog zek a w K Q else K (a.put zek.dst undef) w := by
  subst hv
  obtain ⟨A', c', e'⟩ := Kd.zcq (h.m10 (aft h2 1 (by decide)))
  have q := ev (h.e1 (aft h2 0 (by decide)))
  have q2 := ev e'
  have u := Tryd.underlying50
  have hrun : (execOp a.eval zek).run Tryd.prog w = .ok (.value (.agg #[.slice AL nL cL, a.eval (.tmp 82)])) w := by
    rw [e']
    unfold zek
    go_simp
  refine zcV rfl (v := .agg #[.slice AL nL cL, a.eval (.tmp 82)]) (w1 := w) hrun (hK _ _ ?_)
  show I15 _ _ _ _ _ _ _ _ _ (a.put (some 83) _) _
  have LS : ∀ j, (l.setIfInBounds 11 true).getD j false = if j = 11 then true else l.getD j false := fun j => zcj (by rw [h.sz]; decide) false
  have ha := h.asz
  have ES : ∀ t, (a.put (some 83) (.agg #[.slice AL nL cL, a.eval (.tmp 82)])).eval (.tmp t) = if t = 83 then (.agg #[.slice AL nL cL, a.eval (.tmp 82)]) else a.eval (.tmp t) := fun t => eval_put (by omega)
  refine ⟨by simp [h.sz], by simpa [Act.put] using ha, h.df, zc4 (by decide) (by omega) h.fr, h.bel, ?_, ?_, ?_, ?_, ?_, ?_, ?_, ?_, ?_, ?_, ?_, ?_, ?_, ?_, ?_, ?_⟩
  all_goals simp only [LS, ES, Nat.reduceEqDiff, if_true, if_false, reduceIte]
  · exact h.e0
  · exact h.e1
  · exact h.e3
  · exact h.e4
  · exact h.e6
  · exact h.e7
  · exact fun _ => trivial
  · exact fun _ => aft h2 1 (by decide)
  · exact h.e13
  · exact h.e10
  · exact h.m2
  · exact h.m5
  · exact h.m8
  · exact h.m9
  · exact h.m10
  · exact h.m12
theorem st2 (h : I15 W0 a0 g7 n vL A1 c1 O l a w) (hs : 84 ≤ a0.tmps.size) (h1 : l.getD 2 true = false) (h2 : (zfH.after.all fun e => !Region.binds .any e || l.getD e.on false) = true)
    (hK : ∀ a' w', I15 W0 a0 g7 n vL A1 c1 O (l.setIfInBounds 2 true) a' w' → K a' w') : if Region.wanted zfH (yielded R15 a.tmps) = true then Oper.wp Tryd.prog zfH a w K Q else K (a.put zfH.dst undef) w := by
  have u := Tryd.underlying48
  refine Kd.ziH dC (w0 := W0) W0.heap.size TC rfl (N' := 74) rfl (xs := []) (inner := []) (ok := okG (l.getD 12 false) (a.eval (.tmp 11))) (okp := fun _ => False) ?hr (Reps.none _ _) (fun _ hk => hk.elim) (zfl h (Nat.le_refl _)) h.bel (zas h.bel) (by simp) ?_
  case hr => unfold zfH; go_simp; try rfl
  intro v1 w1 hn hb hg hat
  have old : ∀ {g : Nat} {o : Obj}, w.heap[g]? = some o → some g ≠ v1.ownBlock := fun hx he => by obtain ⟨b, hb1, hb2⟩ := hat; rw [hb1] at he; injection he with he; have := zbk hx; omega
  refine hK _ _ ?_
  show I15 _ _ _ _ _ _ _ _ _ (a.put (some 74) _) _
  have LS : ∀ j, (l.setIfInBounds 2 true).getD j false = if j = 2 then true else l.getD j false := fun j => zcj (by rw [h.sz]; decide) false
  have ha := h.asz
  have ES : ∀ t, (a.put (some 74) (v1)).eval (.tmp t) = if t = 74 then (v1) else a.eval (.tmp t) := fun t => eval_put (by omega)
  refine ⟨by simp [h.sz], by simpa [Act.put] using ha, h.df, zc4 (by decide) (by omega) h.fr, hb, ?_, ?_, ?_, ?_, ?_, ?_, ?_, ?_, ?_, ?_, ?_, ?_, ?_, ?_, ?_, ?_⟩
  all_goals simp only [LS, ES, Nat.reduceEqDiff, if_true, if_false, reduceIte]
  · exact h.e0
  · exact h.e1
  · exact h.e3
  · exact h.e4
  · exact h.e6
  · exact h.e7
  · exact h.e11
  · exact h.e11b
  · exact h.e13
  · exact h.e10
  · exact fun _ _ => hn
  · exact fun x y => Kd.zdx (h.m5 x y) hg (fun k _ => by simp)
  · exact fun x y => let ⟨g, e, b⟩ := h.m8 x y; ⟨g, e, zbm b hg (by simp)⟩
  · exact fun x y => let ⟨g, g', e, b1, b2, d1, d2⟩ := h.m9 x y; ⟨g, g', e, zbm b1 hg (by simp), zbm b2 hg (by simp), fun _ _ => old b1, d2⟩
  · exact fun x => Kd.zdx (h.m10 x) hg (fun k _ => by simp)
  · exact fun x => let ⟨g, e, b1, b2⟩ := h.m12 x; ⟨g, e, b1, zbm b2 hg (by simp)⟩
theorem st8 (h : I15 W0 a0 g7 n vL A1 c1 O l a w) (hs : 84 ≤ a0.tmps.size) (h1 : l.getD 8 true = false) (h2 : (zeQ.after.all fun e => !Region.binds .any e || l.getD e.on false) = true)
    (hK : ∀ a' w', I15 W0 a0 g7 n vL A1 c1 O (l.setIfInBounds 8 true) a' w' → K a' w') : if Region.wanted zeQ (yielded R15 a.tmps) = true then Oper.wp Tryd.prog zeQ a w K Q else K (a.put zeQ.dst undef) w := by
  have q := ev (h.e7 (aft h2 0 (by decide)))
  have u := Tryd.underlying56
  have hrun : (execOp a.eval zeQ).run Tryd.prog w = .ok (.value (.slice (some ⟨w.heap.size, 0, none⟩) 1 1)) (w.alloc (.cells (cN n) TN (0, 0))) := by
    unfold zeQ
    go_simp
    try rfl
  have hg := World.grownBy_alloc w (.cells (cN n) TN (0, 0)) none
  have hb := zac h.bel (.cells (cN n) TN (0, 0))
  have nw := zeC w (.cells (cN n) TN (0, 0))
  refine zcV rfl hrun (hK _ _ ?_)
  show I15 _ _ _ _ _ _ _ _ _ (a.put (some 80) _) _
  have LS : ∀ j, (l.setIfInBounds 8 true).getD j false = if j = 8 then true else l.getD j false := fun j => zcj (by rw [h.sz]; decide) false
  have ha := h.asz
  have ES : ∀ t, (a.put (some 80) (.slice (some ⟨w.heap.size, 0, none⟩) 1 1)).eval (.tmp t) = if t = 80 then (.slice (some ⟨w.heap.size, 0, none⟩) 1 1) else a.eval (.tmp t) := fun t => eval_put (by omega)
  refine ⟨by simp [h.sz], by simpa [Act.put] using ha, h.df, zc4 (by decide) (by omega) h.fr, hb, ?_, ?_, ?_, ?_, ?_, ?_, ?_, ?_, ?_, ?_, ?_, ?_, ?_, ?_, ?_, ?_⟩
  all_goals simp only [LS, ES, Nat.reduceEqDiff, if_true, if_false, reduceIte]
  · exact h.e0
  · exact h.e1
  · exact h.e3
  · exact h.e4
  · exact h.e6
  · exact h.e7
  · exact h.e11
  · exact h.e11b
  · exact h.e13
  · exact h.e10
  · exact fun x y => Kd.zdx (h.m2 x y) hg (fun k _ => by simp)
  · exact fun x y => Kd.zdx (h.m5 x y) hg (fun k _ => by simp)
  · exact fun _ _ => ⟨_, rfl, nw⟩
  · exact fun x y => let ⟨g, g', e, b1, b2, d1, d2⟩ := h.m9 x y; ⟨g, g', e, zbm b1 hg (by simp), zbm b2 hg (by simp), d1, d2⟩
  · exact fun x => Kd.zdx (h.m10 x) hg (fun k _ => by simp)
  · exact fun x => let ⟨g, e, b1, b2⟩ := h.m12 x; ⟨g, e, b1, zbm b2 hg (by simp)⟩
theorem st9 (h : I15 W0 a0 g7 n vL A1 c1 O l a w) (hs : 84 ≤ a0.tmps.size) (h1 : l.getD 9 true = false) (h2 : (zeL.after.all fun e => !Region.binds .any e || l.getD e.on false) = true)
    (hK : ∀ a' w', I15 W0 a0 g7 n vL A1 c1 O (l.setIfInBounds 9 true) a' w' → K a' w') : if Region.wanted zeL (yielded R15 a.tmps) = true then Oper.wp Tryd.prog zeL a w K Q else K (a.put zeL.dst undef) w := by
  have h10 : l.getD 10 false = false := by
    cases e : l.getD 10 false with
    | false => rfl
    | true => have := (h.e10 e).1; rw [unl h1] at this; cases this
  obtain ⟨g8, q0, b8⟩ := h.m8 (aft h2 0 (by decide)) h10
  have q := ev q0
  have u := Tryd.underlying48
  have hrun : (execOp a.eval zeL).run Tryd.prog w = .ok (.value (.slice (some ⟨w.heap.size, 0, none⟩) 1 1)) (w.alloc (.cells #[.slice (some ⟨g8, 0, none⟩) 1 1] TC (0, 0))) := by
    unfold zeL
    go_simp
    try rfl
  have hg := World.grownBy_alloc w (.cells #[.slice (some ⟨g8, 0, none⟩) 1 1] TC (0, 0)) none
  have hb := zac h.bel (.cells #[.slice (some ⟨g8, 0, none⟩) 1 1] TC (0, 0))
  have nw := zeC w (.cells #[.slice (some ⟨g8, 0, none⟩) 1 1] TC (0, 0))
  refine zcV rfl hrun (hK _ _ ?_)
  show I15 _ _ _ _ _ _ _ _ _ (a.put (some 81) _) _
  have LS : ∀ j, (l.setIfInBounds 9 true).getD j false = if j = 9 then true else l.getD j false := fun j => zcj (by rw [h.sz]; decide) false
  have ha := h.asz
  have ES : ∀ t, (a.put (some 81) (.slice (some ⟨w.heap.size, 0, none⟩) 1 1)).eval (.tmp t) = if t = 81 then (.slice (some ⟨w.heap.size, 0, none⟩) 1 1) else a.eval (.tmp t) := fun t => eval_put (by omega)
  refine ⟨by simp [h.sz], by simpa [Act.put] using ha, h.df, zc4 (by decide) (by omega) h.fr, hb, ?_, ?_, ?_, ?_, ?_, ?_, ?_, ?_, ?_, ?_, ?_, ?_, ?_, ?_, ?_, ?_⟩
  all_goals simp only [LS, ES, Nat.reduceEqDiff, if_true, if_false, reduceIte]
  · exact h.e0
  · exact h.e1
  · exact h.e3
  · exact h.e4
  · exact h.e6
  · exact h.e7
  · exact h.e11
  · exact h.e11b
  · exact h.e13
  · exact fun x => by rw [h10] at x; cases x
  · exact fun x y => Kd.zdx (h.m2 x y) hg (fun k _ => by simp)
  · exact fun x y => Kd.zdx (h.m5 x y) hg (fun k _ => by simp)
  · exact fun x y => let ⟨g, e, b⟩ := h.m8 x y; ⟨g, e, zbm b hg (by simp)⟩
  · exact fun _ _ => ⟨_, _, rfl, nw, zbm b8 hg (by simp), fun x y he => by have := Kd.N_lt (h.m2 x y) _ he.symm; omega, fun x he => by have := Kd.N_lt (h.m5 x h10) _ he.symm; omega⟩
  · exact fun x => Kd.zdx (h.m10 x) hg (fun k _ => by simp)
  · exact fun x => let ⟨g, e, b1, b2⟩ := h.m12 x; ⟨g, e, b1, zbm b2 hg (by simp)⟩
theorem st12 (h : I15 W0 a0 g7 n vL A1 c1 O l a w) (hs : 84 ≤ a0.tmps.size) (h1 : l.getD 12 true = false) (h2 : (zeh.after.all fun e => !Region.binds .any e || l.getD e.on false) = true)
    (hK : ∀ a' w', I15 W0 a0 g7 n vL A1 c1 O (l.setIfInBounds 12 true) a' w' → K a' w') : if Region.wanted zeh (yielded R15 a.tmps) = true then Oper.wp Tryd.prog zeh a w K Q else K (a.put zeh.dst undef) w := by
  have u := Tryd.underlying50
  have pb : ∀ k, k < w.heap.size → okG true (.pointer (some ⟨w.heap.size, 0, none⟩)) k := fun k hk _ e => by
    injection e with e
    injection e with e
    injection e with e
    omega
  have h13 : ¬ l.getD 13 false = true := fun e => by have := (h.e13 e).2; rw [unl h1] at this; cases this
  have hrun : (execOp a.eval zeh).run Tryd.prog w = .ok (.value (.pointer (some ⟨w.heap.size, 0, none⟩))) (w.alloc (.cells #[.slice none 0 0, .slice none 0 0] TF (0, 0))) := by
    unfold zeh
    go_simp
    try rfl
  have hg := World.grownBy_alloc w (.cells #[.slice none 0 0, .slice none 0 0] TF (0, 0)) none
  have hb := zac h.bel (.cells #[.slice none 0 0, .slice none 0 0] TF (0, 0))
  have nw := zeC w (.cells #[.slice none 0 0, .slice none 0 0] TF (0, 0))
  refine zcV rfl hrun (hK _ _ ?_)
  show I15 _ _ _ _ _ _ _ _ _ (a.put (some 11) _) _
  have LS : ∀ j, (l.setIfInBounds 12 true).getD j false = if j = 12 then true else l.getD j false := fun j => zcj (by rw [h.sz]; decide) false
  have ha := h.asz
  have ES : ∀ t, (a.put (some 11) (.pointer (some ⟨w.heap.size, 0, none⟩))).eval (.tmp t) = if t = 11 then (.pointer (some ⟨w.heap.size, 0, none⟩)) else a.eval (.tmp t) := fun t => eval_put (by omega)
  refine ⟨by simp [h.sz], by simpa [Act.put] using ha, h.df, zc4 (by decide) (by omega) h.fr, hb, ?_, ?_, ?_, ?_, ?_, ?_, ?_, ?_, ?_, ?_, ?_, ?_, ?_, ?_, ?_, ?_⟩
  all_goals simp only [LS, ES, Nat.reduceEqDiff, if_true, if_false, reduceIte]
  · exact h.e0
  · exact h.e1
  · exact h.e3
  · exact h.e4
  · exact h.e6
  · exact h.e7
  · exact h.e11
  · exact h.e11b
  · exact fun x => absurd x h13
  · exact h.e10
  · exact fun x y => Kd.zcI (Kd.zbP (Kd.zeF (h.m2 x y)) (fun k hk => pb k hk.2)) (zac (Below.refl _ _) _)
  · exact fun x y => Kd.zcI (Kd.zbP (Kd.zeF (h.m5 x y)) (fun k hk => pb k hk.2)) (zac (Below.refl _ _) _)
  · exact fun x y => let ⟨g, e, b⟩ := h.m8 x y; ⟨g, e, zbm b hg (by simp)⟩
  · exact fun x y => let ⟨g, g', e, b1, b2, d1, d2⟩ := h.m9 x y; ⟨g, g', e, zbm b1 hg (by simp), zbm b2 hg (by simp), d1, d2⟩
  · exact fun x => Kd.zcI (Kd.zbP (Kd.zeF (h.m10 x)) (fun k hk => pb k hk.2)) (zac (Below.refl _ _) _)
  · exact fun _ => ⟨_, rfl, zas h.bel, by rw [if_neg h13]; exact nw⟩
theorem st5 (h : I15 W0 a0 g7 n vL A1 c1 O l a w) (hs : 84 ≤ a0.tmps.size) (hO : Kd.C dC W0 A1 O.length O) (hl : O.length ≤ 1000000) (h1 : l.getD 5 true = false) (h2 : (zgy.after.all fun e => !Region.binds .any e || l.getD e.on false) = true)
    (hK : ∀ a' w', I15 W0 a0 g7 n vL A1 c1 O (l.setIfInBounds 5 true) a' w' → K a' w') : if Region.wanted zgy (yielded R15 a.tmps) = true then Oper.wp Tryd.prog zgy a w K Q else K (a.put zgy.dst undef) w := by
  have ho := h.m2 (aft h2 0 (by decide)) (unl h1)
  have q := h.e4 (aft h2 1 (by decide))
  obtain ⟨v, hv⟩ : ∃ v, v = a.eval (.tmp 74) := ⟨_, rfl⟩
  rw [← hv] at ho
  have h10 : ¬ l.getD 10 false = true := fun e => by have := (h.e10 e).2; rw [unl h1] at this; cases this
  refine Kd.zdX dC (w0 := W0) W0.heap.size rfl (.tmp 74) (.tmp 76) TCC TC (.slice none 0 0) 24 rfl Tryd.underlying48 zfk rfl (by decide) (by decide) v [] O A1 O.length c1 (okG (l.getD 12 false) (a.eval (.tmp 11))) (fun k => k < W0.heap.size) hv.symm q ho (Kd.zc0 (Kd.C_F (Kd.zcS TN zhE) hO) h.bel) (fun k hk => ⟨zi1 h hk, fun he => by have := Kd.zdl ho _ he.symm; omega⟩) (fun k hk => zfl h hk) h.bel (zas h.bel) (by simp; omega) ?_
  intro v1 w1 hn hb hg hat
  rw [List.nil_append] at hn
  have away : ∀ {g : Nat} {o : Obj}, w.heap[g]? = some o → some g ≠ v.ownBlock → some g ≠ v1.ownBlock := fun hx hne he => by
    rcases hat with hat | ⟨b, hb1, hb2⟩
    · rw [hat] at he; exact hne he
    · rw [hb1] at he; injection he with he; have := zbk hx; omega
  refine hK _ _ ?_
  show I15 _ _ _ _ _ _ _ _ _ (a.put (some 77) _) _
  have LS : ∀ j, (l.setIfInBounds 5 true).getD j false = if j = 5 then true else l.getD j false := fun j => zcj (by rw [h.sz]; decide) false
  have ha := h.asz
  have ES : ∀ t, (a.put (some 77) (v1)).eval (.tmp t) = if t = 77 then (v1) else a.eval (.tmp t) := fun t => eval_put (by omega)
  refine ⟨by simp [h.sz], by simpa [Act.put] using ha, h.df, zc4 (by decide) (by omega) h.fr, hb, ?_, ?_, ?_, ?_, ?_, ?_, ?_, ?_, ?_, ?_, ?_, ?_, ?_, ?_, ?_, ?_⟩
  all_goals simp only [LS, ES, Nat.reduceEqDiff, if_true, if_false, reduceIte]
  · exact h.e0
  · exact h.e1
  · exact h.e3
  · exact h.e4
  · exact h.e6
  · exact h.e7
  · exact h.e11
  · exact h.e11b
  · exact h.e13
  · exact fun x => absurd x h10
  · first | exact fun _ h => h.elim | exact fun _ h => absurd h (by decide) | exact fun _ _ => trivial | exact fun _ => trivial | trivial
  · exact fun _ _ => hn
  · exact fun x y => let ⟨g, e, b⟩ := h.m8 x y; ⟨g, e, zbm b hg (Kd.N_ne ho b (by decide))⟩
  · intro x y
    obtain ⟨g, g', e, b1, b2, d1, d2⟩ := h.m9 x y
    have dd := d1 (aft h2 0 (by decide)) (unl h1)
    rw [← hv] at dd
    exact ⟨g, g', e, zbm b1 hg dd, zbm b2 hg (Kd.N_ne ho b2 (by decide)), by first | exact fun _ h => h.elim | exact fun _ h => absurd h (by decide) | exact fun _ _ => trivial | exact fun _ => trivial | trivial, fun _ => away b1 dd⟩
  · exact fun x => absurd x h10
  · exact fun x => let ⟨g, e, b1, b2⟩ := h.m12 x; ⟨g, e, b1, zbm b2 hg (Kd.N_ne ho b2 (by decide))⟩
theorem st10 (h : I15 W0 a0 g7 n vL A1 c1 O l a w) (hs : 84 ≤ a0.tmps.size) (hl : O.length ≤ 1000000) (h1 : l.getD 10 true = false) (h2 : (zfq.after.all fun e => !Region.binds .any e || l.getD e.on false) = true)
    (hK : ∀ a' w', I15 W0 a0 g7 n vL A1 c1 O (l.setIfInBounds 10 true) a' w' → K a' w') : if Region.wanted zfq (yielded R15 a.tmps) = true then Oper.wp Tryd.prog zfq a w K Q else K (a.put zfq.dst undef) w := by
  have ho := h.m5 (aft h2 0 (by decide)) (unl h1)
  obtain ⟨g, g', q, b1, b2, d1, d2⟩ := h.m9 (aft h2 1 (by decide)) (unl h1)
  have d3 := d2 (aft h2 0 (by decide))
  obtain ⟨v, hv⟩ : ∃ v, v = a.eval (.tmp 77) := ⟨_, rfl⟩
  rw [← hv] at ho d3
  have h11 : ¬ l.getD 11 false = true := fun e => by have := h.e11b e; rw [unl h1] at this; cases this
  have hF : Kd.F dC w (fun k => k = g ∨ k = g') (some ⟨g, 0, none⟩) 1 [[(⟨3, n, []⟩ : CN)]] := fun W' hW => by
    have k1 := (hW g (.inl rfl) (zbk b1)).trans b1
    have k2 := (hW g' (.inr rfl) (zbk b2)).trans b2
    exact zkn k1 rfl ⟨_, _, rfl, Nat.le_refl _, zkn k2 rfl (zhP _ ⟨3, n, []⟩ (A2 := none) (c2 := 0) (Nat.le_refl _) (Kd.zgj _ _))⟩
  refine Kd.zdX dC (w0 := W0) W0.heap.size rfl (.tmp 77) (.tmp 81) TCC TC (.slice none 0 0) 24 rfl Tryd.underlying48 zfk rfl (by decide) (by decide) v O [[⟨3, n, []⟩]] (some ⟨g, 0, none⟩) 1 1 (okG (l.getD 12 false) (a.eval (.tmp 11))) (fun k => k = g ∨ k = g') hv.symm q ho hF (fun k hk => by
    rcases hk with rfl | rfl
    · exact ⟨zhI h b1 (by decide), d3⟩
    · exact ⟨zhI h b2 (by decide), Kd.N_ne ho b2 (by decide)⟩) (fun k hk => zfl h hk) h.bel (zas h.bel) (by omega) ?_
  intro v1 w1 hn hb hg hat
  refine hK _ _ ?_
  show I15 _ _ _ _ _ _ _ _ _ (a.put (some 82) _) _
  have LS : ∀ j, (l.setIfInBounds 10 true).getD j false = if j = 10 then true else l.getD j false := fun j => zcj (by rw [h.sz]; decide) false
  have ha := h.asz
  have ES : ∀ t, (a.put (some 82) (v1)).eval (.tmp t) = if t = 82 then (v1) else a.eval (.tmp t) := fun t => eval_put (by omega)
  refine ⟨by simp [h.sz], by simpa [Act.put] using ha, h.df, zc4 (by decide) (by omega) h.fr, hb, ?_, ?_, ?_, ?_, ?_, ?_, ?_, ?_, ?_, ?_, ?_, ?_, ?_, ?_, ?_, ?_⟩
  all_goals simp only [LS, ES, Nat.reduceEqDiff, if_true, if_false, reduceIte]
  · exact h.e0
  · exact h.e1
  · exact h.e3
  · exact h.e4
  · exact h.e6
  · exact h.e7
  · exact fun x => absurd x h11
  · first | exact fun _ h => h.elim | exact fun _ h => absurd h (by decide) | exact fun _ _ => trivial | exact fun _ => trivial | trivial
  · exact fun x => ⟨trivial, (h.e13 x).2⟩
  · exact fun _ => ⟨aft h2 1 (by decide), aft h2 0 (by decide)⟩
  · exact fun _ y => by rw [show l.getD 5 false = true from aft h2 0 (by decide)] at y; cases y
  · first | exact fun _ h => h.elim | exact fun _ h => absurd h (by decide) | exact fun _ _ => trivial | exact fun _ => trivial | trivial
  · first | exact fun _ h => h.elim | exact fun _ h => absurd h (by decide) | exact fun _ _ => trivial | exact fun _ => trivial | trivial
  · first | exact fun _ h => h.elim | exact fun _ h => absurd h (by decide) | exact fun _ _ => trivial | exact fun _ => trivial | trivial
  · exact fun _ => hn
  · exact fun x => let ⟨g, e, b1, b2⟩ := h.m12 x; ⟨g, e, b1, by rw [if_neg (fun e => by have := (h.e13 e).1; rw [unl h1] at this; cases this)] at b2 ⊢; exact zbm b2 hg (Kd.N_ne ho b2 (by decide))⟩
theorem st13 (h : I15 W0 a0 g7 n vL A1 c1 O l a w) (hs : 84 ≤ a0.tmps.size) {AL : Option Addr} {nL cL : Nat} (hv : vL = .slice AL nL cL) (h1 : l.getD 13 true = false) (h2 : (zei.after.all fun e => !Region.binds .any e || l.getD e.on false) = true)
    (hK : ∀ a' w', I15 W0 a0 g7 n vL A1 c1 O (l.setIfInBounds 13 true) a' w' → K a' w') : if Region.wanted zei (yielded R15 a.tmps) = true then Oper.wp Tryd.prog zei a w K Q else K (a.put zei.dst undef) w := by
  subst hv
  have x10 : l.getD 10 false = true := aft h2 2 (by decide)
  have x12 : l.getD 12 false = true := aft h2 0 (by decide)
  have x5 : l.getD 5 false = true := (h.e10 x10).2
  obtain ⟨g, e, hle, b⟩ := h.m12 x12
  rw [if_neg (by rw [unl h1]; decide)] at b
  have q11 := ev e
  have q83 := h.e11 (aft h2 1 (by decide))
  obtain ⟨A', c', e'⟩ := Kd.zcq (h.m10 x10)
  rw [e'] at q83
  have q83 := ev q83
  have s0 : w.cell? ⟨g, 0, none⟩ = some (.slice none 0 0) := zaj b 0
  have s1 : w.cell? ⟨g, 1, none⟩ = some (.slice none 0 0) := zaj b 1
  have f0 := zak b 0
  have f1 := zak b 1
  have u := Tryd.underlying50
  have hrun : (execOp a.eval zei).run Tryd.prog w = .ok .skip ((w.setCell ⟨g, 0, none⟩ (.slice AL nL cL)).setCell ⟨g, 1, none⟩ (.slice A' (O ++ [[(⟨3, n, []⟩ : CN)]]).length c')) := by
    unfold zei
    go_simp
    try rfl
  have hb := zah (j := 1) (v := .slice A' (O ++ [[(⟨3, n, []⟩ : CN)]]).length c') (zah (j := 0) (v := .slice AL nL cL) h.bel hle) hle
  have hng : ∀ k, okG (l.getD 12 false) (a.eval (.tmp 11)) k → k ≠ g := fun k hk he => hk x12 (by rw [e, he])
  refine zjk rfl hrun (hK _ _ ?_)
  show I15 _ _ _ _ _ _ _ _ _ (a.put none _) _
  have LS : ∀ j, (l.setIfInBounds 13 true).getD j false = if j = 13 then true else l.getD j false := fun j => zcj (by rw [h.sz]; decide) false
  have ha := h.asz
  have ES : ∀ t, (a.put none undef).eval (.tmp t) = a.eval (.tmp t) := fun t => rfl
  refine ⟨by simp [h.sz], ha, h.df, h.fr, hb, ?_, ?_, ?_, ?_, ?_, ?_, ?_, ?_, ?_, ?_, ?_, ?_, ?_, ?_, ?_, ?_⟩
  all_goals simp only [LS, ES, Nat.reduceEqDiff, if_true, if_false, reduceIte]
  · exact h.e0
  · exact h.e1
  · exact h.e3
  · exact h.e4
  · exact h.e6
  · exact h.e7
  · exact h.e11
  · exact h.e11b
  · exact fun _ => ⟨x10, x12⟩
  · exact h.e10
  · exact fun _ y => by rw [x5] at y; cases y
  · exact fun _ y => by rw [x10] at y; cases y
  · exact fun _ y => by rw [x10] at y; cases y
  · exact fun _ y => by rw [x10] at y; cases y
  · exact fun x => Kd.zd7 (Kd.zd7 (h.m10 x) (p := ⟨g, 0, none⟩) hng _) (p := ⟨g, 1, none⟩) hng _
  · exact fun _ => ⟨g, e, hle, by rw [e']; exact zaT (zaT b 0 _ rfl) 1 _ rfl⟩
def putL : List (Nat × Value) → Act → Act
  | [], a => a
  | x :: r, a => putL r (a.put (some x.1) x.2)
theorem zft : ∀ (L : List (Nat × Value)) (a : Act), (putL L a).tmps.size = a.tmps.size ∧ (putL L a).defers = a.defers
  | [], a => ⟨rfl, rfl⟩
  | x :: r, a => ⟨(zft r _).1.trans (by simp [Act.put]), (zft r _).2⟩
theorem zgX (f : Nat → Value) (t : Nat) : ∀ (L : List Nat) (a : Act), (∀ d, d ∈ L → d < a.tmps.size) → (putL (L.map fun d => (d, f d)) a).eval (.tmp t) = if t ∈ L then f t else a.eval (.tmp t)
  | [], a, _ => by simp [putL]
  | d :: r, a, h => by
    have hd := h d List.mem_cons_self
    show (putL (r.map fun d => (d, f d)) (a.put (some d) (f d))).eval (.tmp t) = _
    rw [zgX f t r _ (fun e he => by have := h e (List.mem_cons_of_mem _ he); simpa [Act.put] using this), eval_put hd]
    by_cases h1 : t ∈ r
    · rw [if_pos h1, if_pos (List.mem_cons_of_mem _ h1)]
    · rw [if_neg h1]
      by_cases h2 : t = d
      · subst h2; rw [if_pos rfl, if_pos List.mem_cons_self]
      · rw [if_neg h2, if_neg (by simp [h1, h2])]
def S15o : List Nat := [72, 73, 74, 75, 76, 77, 78, 79, 80, 81, 82, 83, 11]
theorem zla {a0 a : Act} (hs : 84 ≤ a0.tmps.size) (asz : a.tmps.size = a0.tmps.size) (df : a.defers = a0.defers) (fr : ∀ t, t ∉ S15 → a.eval (.tmp t) = a0.eval (.tmp t)) :
    a = putL (S15o.map fun d => (d, a.eval (.tmp d))) a0 := by
  have hlt : ∀ d, d ∈ S15o → d < a0.tmps.size := fun d hd => by
    have : ∀ e ∈ S15o, e < 84 := by decide
    have := this d hd
    omega
  have hz := zft (S15o.map fun d => (d, a.eval (.tmp d))) a0
  have key : a.tmps = (putL (S15o.map fun d => (d, a.eval (.tmp d))) a0).tmps := by
    apply Array.ext
    · rw [hz.1, asz]
    · intro t h1 h2
      have e : ∀ (b : Act) (hb : t < b.tmps.size), b.tmps[t] = b.eval (.tmp t) := fun b hb => by
        show _ = b.tmps.getD t undef
        rw [Array.getD_eq_getD_getElem?, Array.getElem?_eq_getElem hb]; rfl
      rw [e a h1, e _ h2, zgX _ _ _ _ hlt]
      by_cases hm : t ∈ S15o
      · rw [if_pos hm]
      · rw [if_neg hm]
        have : ∀ e ∈ S15, e ∈ S15o := by decide
        exact fr t (fun h => hm (this t h))
  obtain ⟨tm, d⟩ := a
  generalize hP : putL (S15o.map fun e => (e, (Act.mk tm d).eval (.tmp e))) a0 = P at *
  obtain ⟨tm', d'⟩ := P
  have e2 : d = d' := df.trans hz.2.symm
  have e1 : tm = tm' := key
  rw [e1, e2]
theorem zke {Q : Exit → Act → World → Prop} (W : World) (a0 : Act) (g7 : Nat) (n : Int) (AL : Option Addr) (nL cL : Nat) (A1 : Option Addr) (c1 : Nat) (O : List (List CN)) (hs : 84 ≤ a0.tmps.size)
    (h7 : a0.eval (.tmp 7) = .pointer (some ⟨g7, 0, none⟩)) (h8 : a0.eval (.tmp 8) = .int .i64 n) (hc0 : W.cell? ⟨g7, 0, none⟩ = some (.slice AL nL cL)) (hc1 : W.cell? ⟨g7, 1, none⟩ = some (.slice A1 O.length c1))
    (hO : Kd.C dC W A1 O.length O) (hl : O.length ≤ 1000000)
    (hQ : ∀ (x72 x73 x74 x75 x76 x77 x78 x79 x80 x81 x82 x83 : Value) (g : Nat) (A : Option Addr) (c : Nat) (w' : World), W.heap.size ≤ g → w'.heap[g]? = some (.cells #[.slice AL nL cL, .slice A (O ++ [[(⟨3, n, []⟩ : CN)]]).length c] TF (0, 0)) → (O ++ [[(⟨3, n, []⟩ : CN)]]).length ≤ c →
      Kd.C dC w' A (O ++ [[(⟨3, n, []⟩ : CN)]]).length (O ++ [[⟨3, n, []⟩]]) → Below W.heap.size W w' → Q .normal (((((((((((((a0.put (some 72) x72).put (some 73) x73).put (some 74) x74).put (some 75) x75).put (some 76) x76).put (some 77) x77).put (some 78) x78).put (some 79) x79).put (some 80) x80).put (some 81) x81).put (some 82) x82).put (some 83) x83).put (some 11) (.pointer (some ⟨g, 0, none⟩))) w') : (Code.region 15 R15 true).wp Tryd.prog Q a0 W := by
  refine zgO (I15 W.drew a0 g7 n (.slice AL nL cL) A1 c1 O) (by kernel_rfl) (by kernel_rfl) (fun l a w h => h.sz) ?_ ?_ ?_
  · intro i o l a w h ho h1 h2 K hK
    match i, ho, h1, h2, hK with
    | 0, ho, h1, h2, hK => obtain rfl := Option.some.inj ho; exact st0 h hs h7 h1 h2 hK
    | 1, ho, h1, h2, hK => obtain rfl := Option.some.inj ho; exact st1 h hs hc0 h1 h2 hK
    | 2, ho, h1, h2, hK => obtain rfl := Option.some.inj ho; exact st2 h hs h1 h2 hK
    | 3, ho, h1, h2, hK => obtain rfl := Option.some.inj ho; exact st3 h hs h7 h1 h2 hK
    | 4, ho, h1, h2, hK => obtain rfl := Option.some.inj ho; exact st4 h hs hc1 h1 h2 hK
    | 5, ho, h1, h2, hK => obtain rfl := Option.some.inj ho; exact st5 h hs hO hl h1 h2 hK
    | 6, ho, h1, h2, hK => obtain rfl := Option.some.inj ho; exact st6 h hs h8 h1 h2 hK
    | 7, ho, h1, h2, hK => obtain rfl := Option.some.inj ho; exact st7 h hs h1 h2 hK
    | 8, ho, h1, h2, hK => obtain rfl := Option.some.inj ho; exact st8 h hs h1 h2 hK
    | 9, ho, h1, h2, hK => obtain rfl := Option.some.inj ho; exact st9 h hs h1 h2 hK
    | 10, ho, h1, h2, hK => obtain rfl := Option.some.inj ho; exact st10 h hs hl h1 h2 hK
    | 11, ho, h1, h2, hK => obtain rfl := Option.some.inj ho; exact st11 h hs rfl h1 h2 hK
    | 12, ho, h1, h2, hK => obtain rfl := Option.some.inj ho; exact st12 h hs h1 h2 hK
    | 13, ho, h1, h2, hK => obtain rfl := Option.some.inj ho; exact st13 h hs rfl h1 h2 hK
    | i + 14, ho, h1, h2, hK => exact absurd ho (by simp [R15])
  · intro l a w h hall
    have t : ∀ i, i < 14 → l.getD i false = true := fun i hi => by
      have := hall i hi
      cases e : l.getD i false with
      | true => rfl
      | false =>
        have hz := h.sz
        rw [Array.getD_eq_getD_getElem?, Array.getElem?_eq_getElem (by omega)] at this e
        rw [show l[i] = true from this] at e
        cases e
    obtain ⟨g, e, hle, b⟩ := h.m12 (t 12 (by decide))
    rw [if_pos (t 13 (by decide))] at b
    have hN := h.m10 (t 10 (by decide))
    obtain ⟨A, c, eN⟩ := Kd.zcq hN
    rw [eN] at hN b
    obtain ⟨_, hc, hC⟩ := Kd.zbR hN
    have r := hQ (a.eval (.tmp 72)) (a.eval (.tmp 73)) (a.eval (.tmp 74)) (a.eval (.tmp 75)) (a.eval (.tmp 76)) (a.eval (.tmp 77)) (a.eval (.tmp 78)) (a.eval (.tmp 79)) (a.eval (.tmp 80)) (a.eval (.tmp 81)) (a.eval (.tmp 82)) (a.eval (.tmp 83)) g A c w hle b hc hC (zat (zcE (Below.refl _ _)) h.bel)
    rw [← e] at r
    rw [zla hs h.asz h.df h.fr]
    exact r
  · have f : ∀ j, (Array.replicate 14 false).getD j false = false := fun j => by
      rw [Array.getD_eq_getD_getElem?, Array.getElem?_replicate]
      split <;> rfl
    have no : ∀ {p : Prop} {j : Nat}, (Array.replicate R15.size false).getD j false = true → p := fun {p j} hx => by
      rw [show (Array.replicate R15.size false).getD j false = false from f j] at hx; cases hx
    exact ⟨by simp [R15], rfl, rfl, fun _ _ => rfl, Below.refl _ _, no, no, no, no, no, no, no, no, no, no, no, no, no, no, no, no⟩
end Go.Proofs.YtbicjgaadknmfaaDoor.P
end
section
namespace Go.Proofs.YtbicjgaadknmfaaDoor.P
open Go.RowKit Go.Proofs.YtbicjgaadknmfaaDoorW.PrintWords
set_option linter.unusedVariables false
set_option linter.unusedSimpArgs false
abbrev kN := k60
theorem zkg {α : Type} (d : Kd α) (e : Nat) (W : World) (x : α) (cs : List Value) (h : d.K (W.alloc (.cells cs.toArray e)) x cs) :
    d.C (W.alloc (.cells cs.toArray e)) (some ⟨W.heap.size, 0, none⟩) 1 [x] := by
  have hl := d.K_len h
  have ho := World.ownsRow_lit (base := W.heap.size) (e := e) (size := d.sz) W cs.toArray 1 (Nat.le_refl _) (by unfold maxLen; omega) (by simpa using hl)
  have hR : Reps (d.K (W.alloc (.cells cs.toArray e))) d.sz [x] cs.toArray.toList := (Reps.none _ d.sz).snoc (by simpa using h) (by simpa using hl)
  obtain ⟨A, c, hv, hr⟩ := zfe ho hR rfl
  injection hv with h1 _ _
  subst h1
  exact hr
theorem zih (W : World) (i : Int) (n : Nat) (hn : W.heap.size = n) : Kd.C (Kd.slice 60 kN) ((W.alloc (.cells #[.int .i64 3, .int .i64 i, .slice none 0 0] 60)).alloc (.cells #[.slice (some ⟨n, 0, none⟩) 1 1] 56)) (some ⟨n + 1, 0, none⟩) 1 [[⟨3, i, []⟩]] := by
  subst hn
  have h1 := zkg kN 60 W ⟨3, i, []⟩ _ (zhP _ ⟨3, i, []⟩ (A2 := none) (c2 := 0) (Nat.le_refl _) (Kd.zgj _ _))
  have h2 := zkg (Kd.slice 60 kN) 56 (W.alloc (.cells #[.int .i64 3, .int .i64 i, .slice none 0 0] 60)) [⟨3, i, []⟩] [.slice (some ⟨W.heap.size, 0, none⟩) 1 1] ⟨_, _, rfl, Nat.le_refl _, Kd.za1 h1 (zac (Below.refl _ _) _)⟩
  have e : (W.alloc (.cells #[.int .i64 3, .int .i64 i, .slice none 0 0] 60)).heap.size = W.heap.size + 1 := by simp
  rw [e] at h2
  exact h2
theorem ex1 : zaG.f 30 [] [[⟨3, 0, []⟩]] 1 0 = some (0, 0, 0, 0) := by kernel_rfl
theorem ex2 : zaG.f 30 [] [[⟨3, 1, []⟩]] 1 0 = some (2, 1, 0, 0) := by kernel_rfl
theorem ex3 : zcf.f ⟨#[97]⟩ = some true := by kernel_rfl
theorem ex4 : zcf.f ⟨#[116]⟩ = some false := by kernel_rfl
theorem zgY (W : World) (A : Option Addr) (i q1 q2 q3 q4 : Int) (hq : zaG.f 30 [] [[⟨3, i, []⟩]] 1 0 = some (q1, q2, q3, q4)) (h : Kd.C (Kd.slice 60 kN) W A 1 [[⟨3, i, []⟩]]) :
    Calls Tryd.prog 26 #[.agg #[.slice none 0 0, .slice A 1 1], .int .i64 1, .int .i64 0] W fun e w' => e = .returned (.agg #[.int .i64 q1, .int .i64 q2, .int .i64 q3, .int .i64 q4]) ∧ Below W.heap.size W w' :=
  zaG.calls 30 none 0 [] A 1 [[⟨3, i, []⟩]] 1 0 q1 q2 q3 q4 W (Kd.zgj _ _) (Nat.le_refl _) h (Nat.le_refl _) hq
def zbG.f : Option Bool := some true
set_option maxHeartbeats 1000000 in
set_option maxRecDepth 100000 in
theorem zbG.calls (r : Bool) (w : World) (h : zbG.f = some r) :
    Calls Tryd.prog 24 #[] w fun e w' => e = .returned (.bool r) ∧ Below w.heap.size w w' := by
  obtain rfl := Option.some.inj h
  clear h
  go_enter Tryd.func24, Tryd.ntmps24
  go_wp2_with fail
  refine (zgY _ _ 0 _ _ _ _ ex1 (Kd.zaU (Kd.zaU (Kd.zaU (Kd.zaU (zih w 0 _ rfl) _) _) _) _)).mono ?_
  rintro e w1 ⟨rfl, hb⟩
  have HB := zaa.mk hb
  have k0 := zbA hb (a := ⟨w.heap.size + 1 + 1 + 1 + 1 + 1, 0, none⟩) (v := .slice none 0 0) (by go_simp)
  have k1 := zbA hb (a := ⟨w.heap.size + 1 + 1 + 1 + 1 + 1, 1, none⟩) (v := .slice (some ⟨w.heap.size + 1 + 1 + 1 + 1, 0, none⟩) 1 1) (by go_simp)
  have HC := zaa.mk (Kd.za1 (Kd.zaU (zih (((w.alloc (.cells #[.int .i64 3, .int .i64 0, .slice none 0 0] 60)).alloc (.cells #[.slice (some ⟨w.heap.size, 0, none⟩) 1 1] 56)).alloc (.cells #[.slice none 0 0, .slice (some ⟨w.heap.size + 1, 0, none⟩) 1 1] 50)) 1 (w.heap.size + 1 + 1 + 1) (by simp)) _) hb)
  clear hb
  go_wp2_with fail
  refine (zgY _ _ 1 _ _ _ _ ex2 HC.out).mono ?_
  rintro e w2 ⟨rfl, hb⟩
  have HB2 := zaa.mk hb
  clear hb
  go_wp2_with fail
  refine (zcf.calls _ _ _ ex3).mono ?_
  rintro e w3 ⟨rfl, hb⟩
  have HB3 := zaa.mk hb
  clear hb
  go_wp2_with fail
  refine (zcf.calls _ _ _ ex4).mono ?_
  rintro e w4 ⟨rfl, hb⟩
  have HB4 := zaa.mk hb
  clear hb
  go_wp2_with fail
  go_ret
  refine ⟨rfl, ?_⟩
  exact zat (zat (zat (zat (zac (zac (zac (zac (zac (zac (Below.refl _ _) _) _) _) _) _) _) HB.out) HB2.out) HB3.out) HB4.out
end Go.Proofs.YtbicjgaadknmfaaDoor.P
end
