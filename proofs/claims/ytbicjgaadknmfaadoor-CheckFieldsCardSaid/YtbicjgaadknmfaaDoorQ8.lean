import Derived.Test.YtbicjgaadknmfaaDoorQ1
import Derived.Test.YtbicjgaadknmfaaDoorQ6
import Derived.Test.YtbicjgaadknmfaaDoorQ7
section
namespace Go.Proofs.YtbicjgaadknmfaaDoor.P
open Go.RowKit Go.Proofs.YtbicjgaadknmfaaDoorW.PrintWords Go.Proofs.YtbicjgaadknmfaaDoorW.PrintLast Go.Proofs.YtbicjgaadknmfaaDoorW.PrintMore
attribute [local go_sem] zco zcn zce zcf zbU zbT zb5 zb3
set_option linter.unusedVariables false
set_option linter.unusedSimpArgs false
attribute [local go_sem high] zjv
mutual
def zaG.l0 : Nat → Int → Int → List (S127) → Int → Int → List (S127) → List (List (S60)) → Option (Int × Int × Int × Int)
 | 0, _, _, _, _, _, _, _ => none
 | k + 1, x1, x2, x20, x21, x22, x276000, x276001 => if x22 < x21 then (if 0 ≤ x22 then (if x22 < (x20.length : Int) then ((zcj.f ((zaV x20 x22).f0)).bind fun t280 => (if t280 = true then ((za7.f k x276000 x22).bind fun t281 => (zaG.j1 k x1 x2 x22 x20 x21 x22 t281 x276000 x276001 ((zaV x20 x22).f0) ((zaV x20 x22).f1))) else (zaG.j1 k x1 x2 x22 x20 x21 x22 true x276000 x276001 ((zaV x20 x22).f0) ((zaV x20 x22).f1)))) else (none)) else (none)) else (zaG.l1 k x1 x2 x276001 (x276001.length : Int) 0 x276000 x276001)
def zaG.j1 : Nat → Int → Int → Int → List (S127) → Int → Int → Bool → List (S127) → List (List (S60)) → ByteArray → List (S60) → Option (Int × Int × Int × Int)
 | 0, _, _, _, _, _, _, _, _, _, _, _ => none
 | k + 1, x1, x2, x7, x20, x21, x22, x36, x276000, x276001, x280000, x280001 => if x36 = true then (some (2, wrap64 (x7 + 1), 1, 0)) else ((za5.f k x280001 (wrap64 (x7 + 1)) x1 x2 x7).bind fun bt282 => (if (!(bt282.1 == 0) || (!(bt282.2.1 == 0) || (!(bt282.2.2.1 == 0) || (!(bt282.2.2.2 == 0))))) = true then (some (bt282.1, bt282.2.1, bt282.2.2.1, bt282.2.2.2)) else (zaG.l0 k x1 x2 x20 x21 (wrap64 (x22 + 1)) x276000 x276001)))
def zaG.l1 : Nat → Int → Int → List (List (S60)) → Int → Int → List (S127) → List (List (S60)) → Option (Int × Int × Int × Int)
 | 0, _, _, _, _, _, _, _ => none
 | k + 1, x1, x2, x54, x55, x56, x276000, x276001 => if x56 < x55 then (if 0 ≤ x56 then (if x56 < (x54.length : Int) then ((za5.f k (zcL x54 x56) (wrap64 ((wrap64 ((x276000.length : Int) + x56)) + 1)) x1 x2 (x276000.length : Int)).bind fun bt288 => (if (!(bt288.1 == 0) || (!(bt288.2.1 == 0) || (!(bt288.2.2.1 == 0) || (!(bt288.2.2.2 == 0))))) = true then (some (bt288.1, bt288.2.1, bt288.2.2.1, bt288.2.2.2)) else (zaG.l1 k x1 x2 x54 x55 (wrap64 (x56 + 1)) x276000 x276001))) else (none)) else (none)) else (some (0, 0, 0, 0))
end
def zaG.f (k : Nat) (l0_0 : List (S127)) (l0_1 : List (List (S60))) (a1 : Int) (a2 : Int) : Option (Int × Int × Int × Int) := (zbD.f k l0_0 l0_1 a1 a2).bind fun t277 => (if t277 = true then (zaG.l0 k a1 a2 l0_0 (l0_0.length : Int) 0 l0_0 l0_1) else (some (2, 0, 0, 0)))
theorem zaG.zaX : ∀ k, (∀ y0 y1 y2 y3 y4 y5 y6, LeO (zaG.l0 k y0 y1 y2 y3 y4 y5 y6) (zaG.l0 (k + 1) y0 y1 y2 y3 y4 y5 y6)) ∧ (∀ y0 y1 y2 y3 y4 y5 y6 y7 y8 y9 y10, LeO (zaG.j1 k y0 y1 y2 y3 y4 y5 y6 y7 y8 y9 y10) (zaG.j1 (k + 1) y0 y1 y2 y3 y4 y5 y6 y7 y8 y9 y10)) ∧ (∀ y0 y1 y2 y3 y4 y5 y6, LeO (zaG.l1 k y0 y1 y2 y3 y4 y5 y6) (zaG.l1 (k + 1) y0 y1 y2 y3 y4 y5 y6))
 | 0 => ⟨fun _ _ _ _ _ _ _ r h => by simp [zaG.l0] at h, fun _ _ _ _ _ _ _ _ _ _ _ r h => by simp [zaG.j1] at h, fun _ _ _ _ _ _ _ r h => by simp [zaG.l1] at h⟩
 | k + 1 => by
  obtain ⟨ih0, ih1, ih2⟩ := zaG.zaX k
  refine ⟨?_, ?_, ?_⟩
  ·intro y0 y1 y2 y3 y4 y5 y6
   unfold zaG.l0
   repeat' first
   | (with_reducible exact ih0 _ _ _ _ _ _ _)
   | (with_reducible exact ih1 _ _ _ _ _ _ _ _ _ _ _)
   | (with_reducible exact ih2 _ _ _ _ _ _ _)
   | (with_reducible exact za5.mono _ _ _ _ _ _)
   | (with_reducible exact za7.mono _ _ _)
   | (with_reducible exact zbD.mono _ _ _ _ _)
   | (with_reducible exact LeO.refl _)
   | (with_reducible exact LeO.none _)
   | (with_reducible refine LeO.ite ?_ ?_)
   | (with_reducible refine LeO.bind ?_ (fun _ => ?_))
   | exact ih0 _ _ _ _ _ _ _
   | exact ih1 _ _ _ _ _ _ _ _ _ _ _
   | exact ih2 _ _ _ _ _ _ _
   | exact za5.mono _ _ _ _ _ _
   | exact za7.mono _ _ _
   | exact zbD.mono _ _ _ _ _
   | exact LeO.none _
   | refine LeO.ite ?_ ?_
   | refine LeO.bind ?_ (fun _ => ?_)
  ·intro y0 y1 y2 y3 y4 y5 y6 y7 y8 y9 y10
   unfold zaG.j1
   repeat' first
   | (with_reducible exact ih0 _ _ _ _ _ _ _)
   | (with_reducible exact ih1 _ _ _ _ _ _ _ _ _ _ _)
   | (with_reducible exact ih2 _ _ _ _ _ _ _)
   | (with_reducible exact za5.mono _ _ _ _ _ _)
   | (with_reducible exact za7.mono _ _ _)
   | (with_reducible exact zbD.mono _ _ _ _ _)
   | (with_reducible exact LeO.refl _)
   | (with_reducible exact LeO.none _)
   | (with_reducible refine LeO.ite ?_ ?_)
   | (with_reducible refine LeO.bind ?_ (fun _ => ?_))
   | exact ih0 _ _ _ _ _ _ _
   | exact ih1 _ _ _ _ _ _ _ _ _ _ _
   | exact ih2 _ _ _ _ _ _ _
   | exact za5.mono _ _ _ _ _ _
   | exact za7.mono _ _ _
   | exact zbD.mono _ _ _ _ _
   | exact LeO.none _
   | refine LeO.ite ?_ ?_
   | refine LeO.bind ?_ (fun _ => ?_)
  ·intro y0 y1 y2 y3 y4 y5 y6
   unfold zaG.l1
   repeat' first
   | (with_reducible exact ih0 _ _ _ _ _ _ _)
   | (with_reducible exact ih1 _ _ _ _ _ _ _ _ _ _ _)
   | (with_reducible exact ih2 _ _ _ _ _ _ _)
   | (with_reducible exact za5.mono _ _ _ _ _ _)
   | (with_reducible exact za7.mono _ _ _)
   | (with_reducible exact zbD.mono _ _ _ _ _)
   | (with_reducible exact LeO.refl _)
   | (with_reducible exact LeO.none _)
   | (with_reducible refine LeO.ite ?_ ?_)
   | (with_reducible refine LeO.bind ?_ (fun _ => ?_))
   | exact ih0 _ _ _ _ _ _ _
   | exact ih1 _ _ _ _ _ _ _ _ _ _ _
   | exact ih2 _ _ _ _ _ _ _
   | exact za5.mono _ _ _ _ _ _
   | exact za7.mono _ _ _
   | exact zbD.mono _ _ _ _ _
   | exact LeO.none _
   | refine LeO.ite ?_ ?_
   | refine LeO.bind ?_ (fun _ => ?_)
theorem zaG.mono : ∀ a0 a1 a2 a3 k, LeO (zaG.f k a0 a1 a2 a3) (zaG.f (k + 1) a0 a1 a2 a3) := by
 intro a0 a1 a2 a3 k
 obtain ⟨ih0, ih1, ih2⟩ := zaG.zaX k
 unfold zaG.f
 repeat' first
   | (with_reducible exact ih0 _ _ _ _ _ _ _)
   | (with_reducible exact ih1 _ _ _ _ _ _ _ _ _ _ _)
   | (with_reducible exact ih2 _ _ _ _ _ _ _)
   | (with_reducible exact za5.mono _ _ _ _ _ _)
   | (with_reducible exact za7.mono _ _ _)
   | (with_reducible exact zbD.mono _ _ _ _ _)
   | (with_reducible exact LeO.refl _)
   | (with_reducible exact LeO.none _)
   | (with_reducible refine LeO.ite ?_ ?_)
   | (with_reducible refine LeO.bind ?_ (fun _ => ?_))
   | exact ih0 _ _ _ _ _ _ _
   | exact ih1 _ _ _ _ _ _ _ _ _ _ _
   | exact ih2 _ _ _ _ _ _ _
   | exact za5.mono _ _ _ _ _ _
   | exact za7.mono _ _ _
   | exact zbD.mono _ _ _ _ _
   | exact LeO.none _
   | refine LeO.ite ?_ ?_
   | refine LeO.bind ?_ (fun _ => ?_)
set_option maxHeartbeats 8000000 in
set_option maxRecDepth 100000 in
theorem zaG.calls (k : Nat) (A0_0 : Option Addr) (c0_0 : Nat) (l0_0 : List (S127)) (A0_1 : Option Addr) (c0_1 : Nat) (l0_1 : List (List (S60))) (a1 : Int) (a2 : Int) (r1 : Int) (r2 : Int) (r3 : Int) (r4 : Int) (w : World) (hr0_0 : Kd.C k127 w A0_0 l0_0.length l0_0) (hc0_0 : l0_0.length ≤ c0_0) (hr0_1 : Kd.C (Kd.slice 60 k60) w A0_1 l0_1.length l0_1) (hc0_1 : l0_1.length ≤ c0_1) (h : zaG.f k l0_0 l0_1 a1 a2 = some (r1, r2, r3, r4)) :
  Calls Tryd.prog 26 #[.agg #[.slice A0_0 l0_0.length c0_0, .slice A0_1 l0_1.length c0_1], .int .i64 a1, .int .i64 a2] w fun e w' => e = .returned (.agg #[.int .i64 r1, .int .i64 r2, .int .i64 r3, .int .i64 r4]) ∧ Below w.heap.size w w' := by
 have hu50 := Tryd.underlying50
 have hu25 := Tryd.underlying25
 have hu127 := Tryd.underlying127
 have HR0_0 := zaa.mk hr0_0
 have HC0_0 := zaa.mk hc0_0
 clear hr0_0 hc0_0
 have HR0_1 := zaa.mk hr0_1
 have HC0_1 := zaa.mk hc0_1
 clear hr0_1 hc0_1
 have HB := zaa.mk (Below.refl w.heap.size w)
 have H : ((zbD.f k l0_0 l0_1 a1 a2).bind fun t277 => (if t277 = true then (zaG.l0 k a1 a2 l0_0 (l0_0.length : Int) 0 l0_0 l0_1) else (some (2, 0, 0, 0)))) = some (r1, r2, r3, r4) := h
 clear h
 replace H := Option.bind_eq_some_iff.mp H
 obtain ⟨t277, A40, H⟩ := H
 replace H : (if t277 = true then (zaG.l0 k a1 a2 l0_0 (l0_0.length : Int) 0 l0_0 l0_1) else (some (2, 0, 0, 0))) = some (r1, r2, r3, r4) := H
 have A4 := zaa.mk A40
 clear A40
 by_cases c5 : t277 = true
 ·subst c5
  have H1 : (zaG.l0 k a1 a2 l0_0 (l0_0.length : Int) 0 l0_0 l0_1) = some (r1, r2, r3, r4) := by rw [if_pos rfl] at H; exact H
  clear H
  have H := H1
  clear H1
  have H' := zaa.mk H
  clear H
  go_enter Tryd.func26, Tryd.ntmps26
  go_wp2_with (first | ((with_reducible refine za8 (N := 3) rfl ?_); refine za6 ?hg (N := 3) ?hd (cs := #[.slice A0_0 l0_0.length c0_0, .slice A0_1 l0_1.length c0_1]) (t := 50) ?hr ?_; (case hd => rfl); (case hg => rfl); (case hr => first | (go_simp; done) | (go_simp; rfl)); intro gb275 hg w6 hbox hb; have n0_ := zaa.mk (zat (by repeat (first | (with_reducible first | exact HB.out | apply zac | apply zab | apply zad) | exact HB.out)) hb); have n1_ := zaa.mk (hbox); have n2_ := zaa.mk ((by rw [hg]; exact (zas (by repeat (first | (with_reducible first | exact HB.out | apply zac | apply zab | apply zad) | exact HB.out))) : w.heap.size ≤ gb275)); have n3_ := zaa.mk ((by rw [hg]; exact (zas (by repeat (first | (with_reducible first | exact HB.out | apply zac | apply zab | apply zad) | exact HB.out))) : w.heap.size ≤ gb275)); clear HB; have HB := n0_; have BK275 := n1_; have GW275 := n2_; have GE275 := n3_; clear n0_ n1_ n2_ n3_; clear hb hbox hg) | ((with_reducible refine za8 (N := 6) rfl ?_); refine za6 ?hg (N := 6) ?hd (cs := #[.int .i64 0, .int .i64 0, .int .i64 0, .int .i64 0]) (t := 25) ?hr ?_; (case hd => rfl); (case hg => rfl); (case hr => first | (go_simp; done) | (go_simp; rfl)); intro gb276 hg w7 hbox hb; have n0_ := zaa.mk (zaE (g := gb275) (o := .cells #[.slice A0_0 l0_0.length c0_0, .slice A0_1 l0_1.length c0_1] 50 (0, 0)) (by (with_reducible repeat (first | refine zaf ?_ _ | refine zai ?_ | refine zae ?_ _)); exact BK275.out) hb); have n1_ := zaa.mk (zat (by repeat (first | (with_reducible first | exact HB.out | apply zac | apply zab | apply zad | refine zah ?_ GE275.out) | exact HB.out)) hb); have n2_ := zaa.mk (hbox); have n3_ := zaa.mk ((by rw [hg]; exact (zas (by repeat (first | (with_reducible first | exact HB.out | apply zac | apply zab | apply zad | refine zah ?_ GE275.out) | exact HB.out))) : w.heap.size ≤ gb276)); have n4_ := zaa.mk ((by rw [hg]; exact (zas (by repeat (first | (with_reducible first | exact HB.out | apply zac | apply zab | apply zad | refine zah ?_ GE275.out) | exact HB.out))) : w.heap.size ≤ gb276)); have n5_ := zaa.mk ((by rw [hg]; exact Nat.ne_of_lt (zbq (g := gb275) (o := .cells #[.slice A0_0 l0_0.length c0_0, .slice A0_1 l0_1.length c0_1] 50 (0, 0)) (by (with_reducible repeat (first | refine zaf ?_ _ | refine zai ?_ | refine zae ?_ _)); exact BK275.out)) : gb275 ≠ gb276)); have n6_ := zaa.mk ((by rw [hg]; exact Nat.ne_of_gt (zbq (g := gb275) (o := .cells #[.slice A0_0 l0_0.length c0_0, .slice A0_1 l0_1.length c0_1] 50 (0, 0)) (by (with_reducible repeat (first | refine zaf ?_ _ | refine zai ?_ | refine zae ?_ _)); exact BK275.out)) : gb276 ≠ gb275)); clear BK275; clear HB; have BK275 := n0_; have HB := n1_; have BK276 := n2_; have GW276 := n3_; have GE276 := n4_; have NB275_276 := n5_; have NB276_275 := n6_; clear n0_ n1_ n2_ n3_ n4_ n5_ n6_; clear hb hbox hg; have hnb8 := NB275_276.out; have hnc8 := NB276_275.out; have hcz9_0 : w7.cell? ⟨gb275, 0, none⟩ = some (.slice A0_0 l0_0.length c0_0) := (zaj BK275.out 0).trans rfl; have hcz9_1 : w7.cell? ⟨gb275, 1, none⟩ = some (.slice A0_1 l0_1.length c0_1) := (zaj BK275.out 1).trans rfl; have hfz9_0 := zak BK275.out 0; have hfz9_1 := zak BK275.out 1) | ((with_reducible refine zaI (f := 75) rfl ?_); refine za3 (some 16) rfl rfl Tryd.func75 (by kernel_rfl) rfl #[.agg #[.slice A0_0 l0_0.length c0_0, .slice A0_1 l0_1.length c0_1], .int .i64 a1, .int .i64 a2] rfl (by (try simp only [List.map_toArray, List.map_cons, List.map_nil]); first | done | rfl | (simp only [List.length_drop, List.length_take]; rfl)) ?_; (with_reducible refine (zbD.calls k _ _ l0_0 _ _ l0_1 a1 a2 true _ ?side1 ?side2 ?side3 ?side4 A4.out).mono ?_); (case side1 => repeat (first | exact (Kd.za2 HR0_0.out HB.out) | (with_reducible refine Kd.zaQ ?_ _) | (with_reducible refine Kd.zaR ?_ _) | (with_reducible refine Kd.zaZ ?_))); (case side2 => exact HC0_0.out); (case side3 => repeat (first | exact (Kd.za2 HR0_1.out HB.out) | (with_reducible refine Kd.zaQ ?_ _) | (with_reducible refine Kd.zaR ?_ _) | (with_reducible refine Kd.zaZ ?_))); (case side4 => exact HC0_1.out); rintro e w10 ⟨rfl, hb⟩; refine ⟨_, rfl, ?_⟩; have n0_ := zaa.mk (zaE (g := gb275) (o := .cells #[.slice A0_0 l0_0.length c0_0, .slice A0_1 l0_1.length c0_1] 50 (0, 0)) (by (with_reducible repeat (first | refine zaf ?_ _ | refine zai ?_ | refine zae ?_ _)); exact BK275.out) hb); have n1_ := zaa.mk (zaE (g := gb276) (o := .cells #[.int .i64 0, .int .i64 0, .int .i64 0, .int .i64 0] 25 (0, 0)) (by (with_reducible repeat (first | refine zaf ?_ _ | refine zai ?_ | refine zae ?_ _)); exact BK276.out) hb); have n2_ := zaa.mk (zat (by repeat (first | (with_reducible first | exact HB.out | apply zac | apply zab | apply zad | refine zah ?_ GE275.out | refine zah ?_ GE276.out) | exact HB.out)) hb); clear BK275; clear BK276; clear HB; have BK275 := n0_; have BK276 := n1_; have HB := n2_; clear n0_ n1_ n2_; (try clear hb); (try clear hb2); (try clear hk); (try clear hi); have hcz11_0 : w10.cell? ⟨gb275, 0, none⟩ = some (.slice A0_0 l0_0.length c0_0) := (zaj BK275.out 0).trans rfl; have hcz11_1 : w10.cell? ⟨gb275, 1, none⟩ = some (.slice A0_1 l0_1.length c0_1) := (zaj BK275.out 1).trans rfl; have hfz11_0 := zak BK275.out 0; have hfz11_1 := zak BK275.out 1))
  go_loopg [22] k (fun kq v22 w' => ∃ (x22_1 : Int) (x277000_1 : Int) (x277001_1 : Int) (x277002_1 : Int) (x277003_1 : Int), v22 = .int .i64 x22_1 ∧ zaa (zaG.l0 kq a1 a2 l0_0 (l0_0.length : Int) x22_1 l0_0 l0_1 = some (r1, r2, r3, r4)) ∧ zaa (kq ≤ k) ∧ zaa (w'.heap[gb275]? = some (.cells #[(.slice A0_0 l0_0.length c0_0), (.slice A0_1 l0_1.length c0_1)] 50 (0, 0))) ∧ zaa (w'.heap[gb276]? = some (.cells #[.int .i64 x277000_1, .int .i64 x277001_1, .int .i64 x277002_1, .int .i64 x277003_1] 25 (0, 0))) ∧ zaa (Below w.heap.size w w'))
  case atStart => exact ⟨(0), (0), (0), (0), (0), (by first | rfl | (simp; done) | (simp [*]; done)), H', ⟨Nat.le_refl _⟩, ⟨by (with_reducible repeat (first | refine zaf ?_ _ | refine zai ?_ | refine zae ?_ _)); exact BK275.out⟩, ⟨by (with_reducible repeat (first | refine zaf ?_ _ | refine zai ?_ | refine zae ?_ _)); exact BK276.out⟩, ⟨by repeat (first | (with_reducible first | exact HB.out | apply zac | apply zab | apply zad | refine zah ?_ GE275.out | refine zah ?_ GE276.out) | exact HB.out)⟩⟩
  case round =>
   clear H'
   try clear c2
   try clear p2
   try clear c5
   try clear c7
   try clear c8
   try clear hcz11_0
   try clear hcz11_1
   try clear hcz9_0
   try clear hcz9_1
   try clear hfz11_0
   try clear hfz11_1
   try clear hfz9_0
   try clear hfz9_1
   obtain ⟨x22_1, x277000_1, x277001_1, x277002_1, x277003_1, rfl, HA, HK1, BK275, BK276, HB⟩ := hrel
   cases gk with
   | zero => exact absurd HA.out (by simp [zaG.l0])
   | succ k1 =>
    have H := HA.out
    clear HA
    simp only [zaG.l0] at H
    by_cases c12 : x22_1 < (l0_0.length : Int)
    ·rw [if_pos c12] at H
     have c12b0 : decide (x22_1 < (l0_0.length : Int)) = true := decide_eq_true c12
     clear c12
     by_cases c13 : 0 ≤ x22_1
     ·rw [if_pos c13] at H
      have c13b0 : decide (0 ≤ x22_1) = true := decide_eq_true c13
      clear c13
      by_cases c14 : x22_1 < (l0_0.length : Int)
      ·rw [if_pos c14] at H
       have c14b0 : decide (x22_1 < (l0_0.length : Int)) = true := decide_eq_true c14
       clear c14
       have HC15 := zaa.mk H
       clear H
       have p278 : 0 ≤ (x22_1 : Int) := of_decide_eq_true (by first | (with_reducible assumption) | assumption)
       have q278 : x22_1 < (l0_0.length : Int) := of_decide_eq_true (by first | (with_reducible assumption) | assumption)
       obtain ⟨ad278, A278_1, c278_1, e278, hx278_0, hx278_1, hl278_1, hi278_1⟩ := zd8 HR0_0.out x22_1 p278 q278
       cases e278
       replace hx278_0 := (HB.out.cell (World.block_lt_of_cell? w _ hx278_0)).trans hx278_0
       replace hx278_1 := (HB.out.cell (World.block_lt_of_cell? w _ hx278_1)).trans hx278_1
       have HR278_1 := zaa.mk hi278_1
       have HC278_1 := zaa.mk hl278_1
       clear hi278_1 hl278_1
       replace p278 := eq_true p278
       replace q278 := eq_true q278
       go_upto_region 6 with (first | ((with_reducible refine za8 (N := 8) rfl ?_); refine za6 ?hg (N := 8) ?hd (cs := #[.string (⟨#[]⟩ : ByteArray), .slice none 0 0]) (t := 127) ?hr ?_; (case hd => rfl); (case hg => rfl); (case hr => first | (go_simp; done) | (go_simp; rfl)); intro gb279 hg w16 hbox hb; have n0_ := zaa.mk (zaE (g := gb275) (o := .cells #[.slice (some ad278) l0_0.length c0_0, .slice A0_1 l0_1.length c0_1] 50 (0, 0)) (by (with_reducible repeat (first | refine zaf ?_ _ | refine zai ?_ | refine zae ?_ _)); exact BK275.out) hb); have n1_ := zaa.mk (zaE (g := gb276) (o := .cells #[.int .i64 x277000_1, .int .i64 x277001_1, .int .i64 x277002_1, .int .i64 x277003_1] 25 (0, 0)) (by (with_reducible repeat (first | refine zaf ?_ _ | refine zai ?_ | refine zae ?_ _)); exact BK276.out) hb); have n2_ := zaa.mk (zat (by repeat (first | (with_reducible first | exact HB.out | apply zac | apply zab | apply zad | refine zah ?_ GE275.out | refine zah ?_ GE276.out) | exact HB.out)) hb); have n3_ := zaa.mk (hbox); have n4_ := zaa.mk ((by rw [hg]; exact (zas (by repeat (first | (with_reducible first | exact HB.out | apply zac | apply zab | apply zad | refine zah ?_ GE275.out | refine zah ?_ GE276.out) | exact HB.out))) : w.heap.size ≤ gb279)); have n5_ := zaa.mk ((by rw [hg]; exact (zas (by repeat (first | (with_reducible first | exact HB.out | apply zac | apply zab | apply zad | refine zah ?_ GE275.out | refine zah ?_ GE276.out) | exact HB.out))) : w.heap.size ≤ gb279)); have n6_ := zaa.mk ((by rw [hg]; exact Nat.ne_of_lt (zbq (g := gb275) (o := .cells #[.slice (some ad278) l0_0.length c0_0, .slice A0_1 l0_1.length c0_1] 50 (0, 0)) (by (with_reducible repeat (first | refine zaf ?_ _ | refine zai ?_ | refine zae ?_ _)); exact BK275.out)) : gb275 ≠ gb279)); have n7_ := zaa.mk ((by rw [hg]; exact Nat.ne_of_gt (zbq (g := gb275) (o := .cells #[.slice (some ad278) l0_0.length c0_0, .slice A0_1 l0_1.length c0_1] 50 (0, 0)) (by (with_reducible repeat (first | refine zaf ?_ _ | refine zai ?_ | refine zae ?_ _)); exact BK275.out)) : gb279 ≠ gb275)); have n8_ := zaa.mk ((by rw [hg]; exact Nat.ne_of_lt (zbq (g := gb276) (o := .cells #[.int .i64 x277000_1, .int .i64 x277001_1, .int .i64 x277002_1, .int .i64 x277003_1] 25 (0, 0)) (by (with_reducible repeat (first | refine zaf ?_ _ | refine zai ?_ | refine zae ?_ _)); exact BK276.out)) : gb276 ≠ gb279)); have n9_ := zaa.mk ((by rw [hg]; exact Nat.ne_of_gt (zbq (g := gb276) (o := .cells #[.int .i64 x277000_1, .int .i64 x277001_1, .int .i64 x277002_1, .int .i64 x277003_1] 25 (0, 0)) (by (with_reducible repeat (first | refine zaf ?_ _ | refine zai ?_ | refine zae ?_ _)); exact BK276.out)) : gb279 ≠ gb276)); clear BK275; clear BK276; clear HB; have BK275 := n0_; have BK276 := n1_; have HB := n2_; have BK279 := n3_; have GW279 := n4_; have GE279 := n5_; have NB275_279 := n6_; have NB279_275 := n7_; have NB276_279 := n8_; have NB279_276 := n9_; clear n0_ n1_ n2_ n3_ n4_ n5_ n6_ n7_ n8_ n9_; clear hb hbox hg; have hnb17 := NB279_275.out; have hnc17 := NB275_279.out; have hnb18 := NB279_276.out; have hnc18 := NB276_279.out; have hcz19_0 : w16.cell? ⟨gb279, 0, none⟩ = some (.string (⟨#[]⟩ : ByteArray)) := (zaj BK279.out 0).trans rfl; have hcz19_1 : w16.cell? ⟨gb279, 1, none⟩ = some (.slice none 0 0) := (zaj BK279.out 1).trans rfl; have hfz19_0 := zak BK279.out 0; have hfz19_1 := zak BK279.out 1))
       (try simp only [Act.put, List.setIfInBounds_toArray, List.set_cons_zero, List.set_cons_succ])
       go_cut [36] (fun v36 wc => ∃ (kq : Nat) (x36_14 : Bool), v36 = .bool x36_14 ∧ zaa (zaG.j1 kq a1 a2 x22_1 l0_0 (l0_0.length : Int) x22_1 x36_14 l0_0 l0_1 ((zaV l0_0 x22_1).f0) ((zaV l0_0 x22_1).f1) = some (r1, r2, r3, r4)) ∧ zaa (kq ≤ k1) ∧ zaa (wc.heap[gb275]? = some (.cells #[(.slice (some ad278) l0_0.length c0_0), (.slice A0_1 l0_1.length c0_1)] 50 (0, 0))) ∧ zaa (wc.heap[gb276]? = some (.cells #[.int .i64 x277000_1, .int .i64 x277001_1, .int .i64 x277002_1, .int .i64 x277003_1] 25 (0, 0))) ∧ zaa (wc.heap[gb279]? = some (.cells #[.string ((zaV l0_0 x22_1).f0), (.slice A278_1 ((zaV l0_0 x22_1).f1).length c278_1)] 127 (0, 0))) ∧ zaa (Below w.heap.size w wc))
       case first =>
        have H := HC15.out
        clear HC15
        replace H := Option.bind_eq_some_iff.mp H
        obtain ⟨t280, A200, H⟩ := H
        replace H : (if t280 = true then ((za7.f k1 l0_0 x22_1).bind fun t281 => (zaG.j1 k1 a1 a2 x22_1 l0_0 (l0_0.length : Int) x22_1 t281 l0_0 l0_1 ((zaV l0_0 x22_1).f0) ((zaV l0_0 x22_1).f1))) else (zaG.j1 k1 a1 a2 x22_1 l0_0 (l0_0.length : Int) x22_1 true l0_0 l0_1 ((zaV l0_0 x22_1).f0) ((zaV l0_0 x22_1).f1))) = some (r1, r2, r3, r4) := H
        have A20 := zaa.mk A200
        clear A200
        by_cases c21 : t280 = true
        ·subst c21
         have H1 : ((za7.f k1 l0_0 x22_1).bind fun t281 => (zaG.j1 k1 a1 a2 x22_1 l0_0 (l0_0.length : Int) x22_1 t281 l0_0 l0_1 ((zaV l0_0 x22_1).f0) ((zaV l0_0 x22_1).f1))) = some (r1, r2, r3, r4) := by rw [if_pos rfl] at H; exact H
         clear H
         have H := H1
         clear H1
         replace H := Option.bind_eq_some_iff.mp H
         obtain ⟨t281, A220, H⟩ := H
         replace H : (zaG.j1 k1 a1 a2 x22_1 l0_0 (l0_0.length : Int) x22_1 t281 l0_0 l0_1 ((zaV l0_0 x22_1).f0) ((zaV l0_0 x22_1).f1)) = some (r1, r2, r3, r4) := H
         have A22 := zaa.mk A220
         clear A220
         have H' := zaa.mk H
         clear H
         have hnb23 := NB279_275.out
         have hnc23 := NB275_279.out
         have hnb24 := NB279_276.out
         have hnc24 := NB276_279.out
         have hcz25_0 : w16.cell? ⟨gb279, 0, none⟩ = some (.string (⟨#[]⟩ : ByteArray)) := (zaj BK279.out 0).trans rfl
         have hcz25_1 : w16.cell? ⟨gb279, 1, none⟩ = some (.slice none 0 0) := (zaj BK279.out 1).trans rfl
         have hfz25_0 := zak BK279.out 0
         have hfz25_1 := zak BK279.out 1
         go_wp2_with (first | ((with_reducible refine zaI (f := 35) rfl ?_); refine za3 (some 29) rfl rfl Tryd.func35 (by kernel_rfl) rfl #[.string ((zaV l0_0 x22_1).f0)] rfl (by (try simp only [List.map_toArray, List.map_cons, List.map_nil]); first | done | rfl | (simp only [List.length_drop, List.length_take]; rfl)) ?_; (with_reducible refine (zcj.calls ((zaV l0_0 x22_1).f0) true _ A20.out).mono ?_); rintro e w26 ⟨rfl, hb⟩; refine ⟨_, rfl, ?_⟩; have n0_ := zaa.mk (zaE (g := gb275) (o := .cells #[.slice (some ad278) l0_0.length c0_0, .slice A0_1 l0_1.length c0_1] 50 (0, 0)) (by (with_reducible repeat (first | refine zaf ?_ _ | refine zai ?_ | refine zae ?_ _)); refine zbo ?_ NB275_279.out _; (with_reducible repeat (first | refine zaf ?_ _ | refine zai ?_ | refine zae ?_ _)); refine zbo ?_ NB275_279.out _; (with_reducible repeat (first | refine zaf ?_ _ | refine zai ?_ | refine zae ?_ _)); exact BK275.out) hb); have n1_ := zaa.mk (zaE (g := gb276) (o := .cells #[.int .i64 x277000_1, .int .i64 x277001_1, .int .i64 x277002_1, .int .i64 x277003_1] 25 (0, 0)) (by (with_reducible repeat (first | refine zaf ?_ _ | refine zai ?_ | refine zae ?_ _)); refine zbo ?_ NB276_279.out _; (with_reducible repeat (first | refine zaf ?_ _ | refine zai ?_ | refine zae ?_ _)); refine zbo ?_ NB276_279.out _; (with_reducible repeat (first | refine zaf ?_ _ | refine zai ?_ | refine zae ?_ _)); exact BK276.out) hb); have n2_ := zaa.mk (zaE (g := gb279) (o := .cells #[.string ((zaV l0_0 x22_1).f0), .slice A278_1 ((zaV l0_0 x22_1).f1).length c278_1] 127 (0, 0)) (by (with_reducible repeat (first | refine zaf ?_ _ | refine zai ?_ | refine zae ?_ _)); refine zaT (cs := #[.string ((zaV l0_0 x22_1).f0), .slice none 0 0]) ?_ 1 _ rfl; (with_reducible repeat (first | refine zaf ?_ _ | refine zai ?_ | refine zae ?_ _)); refine zaT (cs := #[.string (⟨#[]⟩ : ByteArray), .slice none 0 0]) ?_ 0 _ rfl; (with_reducible repeat (first | refine zaf ?_ _ | refine zai ?_ | refine zae ?_ _)); exact BK279.out) hb); have n3_ := zaa.mk (zat (by repeat (first | (with_reducible first | exact HB.out | apply zac | apply zab | apply zad | refine zah ?_ GE275.out | refine zah ?_ GE276.out | refine zah ?_ GE279.out) | exact HB.out)) hb); clear BK275; clear BK276; clear BK279; clear HB; have BK275 := n0_; have BK276 := n1_; have BK279 := n2_; have HB := n3_; clear n0_ n1_ n2_ n3_; (try clear hb); (try clear hb2); (try clear hk); (try clear hi); have hnb27 := NB275_276.out; have hnc27 := NB276_275.out; have hcz28_0 : w26.cell? ⟨gb275, 0, none⟩ = some (.slice (some ad278) l0_0.length c0_0) := (zaj BK275.out 0).trans rfl; have hcz28_1 : w26.cell? ⟨gb275, 1, none⟩ = some (.slice A0_1 l0_1.length c0_1) := (zaj BK275.out 1).trans rfl; have hfz28_0 := zak BK275.out 0; have hfz28_1 := zak BK275.out 1) | (go_at_call 76; (with_reducible refine (za7.calls k1 _ _ l0_0 x22_1 t281 _ ?side1 ?side2 A22.out).mono ?_); (case side1 => repeat (first | exact (Kd.za2 HR0_0.out HB.out) | (with_reducible refine Kd.zaQ ?_ _) | (with_reducible refine Kd.zaR ?_ _) | (with_reducible refine Kd.zaZ ?_))); (case side2 => exact HC0_0.out); rintro e w' ⟨rfl, ⟨nd, rfl⟩⟩))
         go_meet
         case rel => exact ⟨_, (t281), (by first | rfl | (simp; done) | (simp [*]; done)), H', ⟨by have := HK1.out; first | omega | exact Nat.le_refl _⟩, ⟨by (with_reducible repeat (first | refine zaf ?_ _ | refine zai ?_ | refine zae ?_ _)); exact BK275.out⟩, ⟨by (with_reducible repeat (first | refine zaf ?_ _ | refine zai ?_ | refine zae ?_ _)); exact BK276.out⟩, ⟨by (with_reducible repeat (first | refine zaf ?_ _ | refine zai ?_ | refine zae ?_ _)); exact BK279.out⟩, ⟨by repeat (first | (with_reducible first | exact HB.out | apply zac | apply zab | apply zad | refine zah ?_ GE275.out | refine zah ?_ GE276.out | refine zah ?_ GE279.out) | exact HB.out)⟩⟩
        ·replace c21 := Bool.eq_false_iff.mpr c21
         subst c21
         have H1 : (zaG.j1 k1 a1 a2 x22_1 l0_0 (l0_0.length : Int) x22_1 true l0_0 l0_1 ((zaV l0_0 x22_1).f0) ((zaV l0_0 x22_1).f1)) = some (r1, r2, r3, r4) := by rw [if_neg (show ¬ (false = true) by decide)] at H; exact H
         clear H
         have H := H1
         clear H1
         have H' := zaa.mk H
         clear H
         have hnb29 := NB279_275.out
         have hnc29 := NB275_279.out
         have hnb30 := NB279_276.out
         have hnc30 := NB276_279.out
         have hcz31_0 : w16.cell? ⟨gb279, 0, none⟩ = some (.string (⟨#[]⟩ : ByteArray)) := (zaj BK279.out 0).trans rfl
         have hcz31_1 : w16.cell? ⟨gb279, 1, none⟩ = some (.slice none 0 0) := (zaj BK279.out 1).trans rfl
         have hfz31_0 := zak BK279.out 0
         have hfz31_1 := zak BK279.out 1
         go_wp2_with (first | ((with_reducible refine zaI (f := 35) rfl ?_); refine za3 (some 29) rfl rfl Tryd.func35 (by kernel_rfl) rfl #[.string ((zaV l0_0 x22_1).f0)] rfl (by (try simp only [List.map_toArray, List.map_cons, List.map_nil]); first | done | rfl | (simp only [List.length_drop, List.length_take]; rfl)) ?_; (with_reducible refine (zcj.calls ((zaV l0_0 x22_1).f0) false _ A20.out).mono ?_); rintro e w32 ⟨rfl, hb⟩; refine ⟨_, rfl, ?_⟩; have n0_ := zaa.mk (zaE (g := gb275) (o := .cells #[.slice (some ad278) l0_0.length c0_0, .slice A0_1 l0_1.length c0_1] 50 (0, 0)) (by (with_reducible repeat (first | refine zaf ?_ _ | refine zai ?_ | refine zae ?_ _)); refine zbo ?_ NB275_279.out _; (with_reducible repeat (first | refine zaf ?_ _ | refine zai ?_ | refine zae ?_ _)); refine zbo ?_ NB275_279.out _; (with_reducible repeat (first | refine zaf ?_ _ | refine zai ?_ | refine zae ?_ _)); exact BK275.out) hb); have n1_ := zaa.mk (zaE (g := gb276) (o := .cells #[.int .i64 x277000_1, .int .i64 x277001_1, .int .i64 x277002_1, .int .i64 x277003_1] 25 (0, 0)) (by (with_reducible repeat (first | refine zaf ?_ _ | refine zai ?_ | refine zae ?_ _)); refine zbo ?_ NB276_279.out _; (with_reducible repeat (first | refine zaf ?_ _ | refine zai ?_ | refine zae ?_ _)); refine zbo ?_ NB276_279.out _; (with_reducible repeat (first | refine zaf ?_ _ | refine zai ?_ | refine zae ?_ _)); exact BK276.out) hb); have n2_ := zaa.mk (zaE (g := gb279) (o := .cells #[.string ((zaV l0_0 x22_1).f0), .slice A278_1 ((zaV l0_0 x22_1).f1).length c278_1] 127 (0, 0)) (by (with_reducible repeat (first | refine zaf ?_ _ | refine zai ?_ | refine zae ?_ _)); refine zaT (cs := #[.string ((zaV l0_0 x22_1).f0), .slice none 0 0]) ?_ 1 _ rfl; (with_reducible repeat (first | refine zaf ?_ _ | refine zai ?_ | refine zae ?_ _)); refine zaT (cs := #[.string (⟨#[]⟩ : ByteArray), .slice none 0 0]) ?_ 0 _ rfl; (with_reducible repeat (first | refine zaf ?_ _ | refine zai ?_ | refine zae ?_ _)); exact BK279.out) hb); have n3_ := zaa.mk (zat (by repeat (first | (with_reducible first | exact HB.out | apply zac | apply zab | apply zad | refine zah ?_ GE275.out | refine zah ?_ GE276.out | refine zah ?_ GE279.out) | exact HB.out)) hb); clear BK275; clear BK276; clear BK279; clear HB; have BK275 := n0_; have BK276 := n1_; have BK279 := n2_; have HB := n3_; clear n0_ n1_ n2_ n3_; (try clear hb); (try clear hb2); (try clear hk); (try clear hi)))
         go_meet
         case rel => exact ⟨_, (true), (by first | rfl | (simp; done) | (simp [*]; done)), H', ⟨by have := HK1.out; first | omega | exact Nat.le_refl _⟩, ⟨by (with_reducible repeat (first | refine zaf ?_ _ | refine zai ?_ | refine zae ?_ _)); exact BK275.out⟩, ⟨by (with_reducible repeat (first | refine zaf ?_ _ | refine zai ?_ | refine zae ?_ _)); exact BK276.out⟩, ⟨by (with_reducible repeat (first | refine zaf ?_ _ | refine zai ?_ | refine zae ?_ _)); exact BK279.out⟩, ⟨by repeat (first | (with_reducible first | exact HB.out | apply zac | apply zab | apply zad | refine zah ?_ GE275.out | refine zah ?_ GE276.out | refine zah ?_ GE279.out) | exact HB.out)⟩⟩
       case rest =>
        clear HC15
        try clear c1
        try clear c2
        try clear p2
        try clear q2
        try clear hx2
        try clear c3
        try clear c5
        try clear c7
        try clear c8
        try clear c12
        try clear c12b0
        try clear c13
        try clear c13b0
        try clear c14
        try clear c14b0
        try clear c17
        try clear c18
        try clear c21
        try clear c23
        try clear c24
        try clear c26
        try clear c27
        try clear p27
        try clear q27
        try clear hx27
        try clear c29
        try clear c30
        try clear hcz11_0
        try clear hcz11_1
        try clear hcz19_0
        try clear hcz19_1
        try clear hcz25_0
        try clear hcz25_1
        try clear hcz28_0
        try clear hcz28_1
        try clear hcz31_0
        try clear hcz31_1
        try clear hcz9_0
        try clear hcz9_1
        try clear hfz11_0
        try clear hfz11_1
        try clear hfz19_0
        try clear hfz19_1
        try clear hfz25_0
        try clear hfz25_1
        try clear hfz28_0
        try clear hfz28_1
        try clear hfz31_0
        try clear hfz31_1
        try clear hfz9_0
        try clear hfz9_1
        try clear hx278_0
        try clear hx278_1
        try clear p2
        try clear p278
        try clear q278
        obtain ⟨kq, x36_14, rfl, HA, HJ14, BK275, BK276, BK279, HB⟩ := hcut
        cases kq with
        | zero => exact absurd HA.out (by simp [zaG.j1])
        | succ kj14 =>
         have H := HA.out
         clear HA
         simp only [zaG.j1] at H
         by_cases c33 : x36_14 = true
         ·subst c33
          have H1 : (some (2, wrap64 (x22_1 + 1), 1, 0)) = some (r1, r2, r3, r4) := by rw [if_pos rfl] at H; exact H
          clear H
          have H := H1
          clear H1
          simp only [Option.some.injEq, Prod.mk.injEq] at H
          obtain ⟨rfl, rfl, rfl, rfl⟩ := H
          have hnb34 := NB276_275.out
          have hnc34 := NB275_276.out
          have hnb35 := NB276_279.out
          have hnc35 := NB279_276.out
          have hcz36_0 : wc.cell? ⟨gb276, 0, none⟩ = some (.int .i64 x277000_1) := (zaj BK276.out 0).trans rfl
          have hcz36_1 : wc.cell? ⟨gb276, 1, none⟩ = some (.int .i64 x277001_1) := (zaj BK276.out 1).trans rfl
          have hcz36_2 : wc.cell? ⟨gb276, 2, none⟩ = some (.int .i64 x277002_1) := (zaj BK276.out 2).trans rfl
          have hcz36_3 : wc.cell? ⟨gb276, 3, none⟩ = some (.int .i64 x277003_1) := (zaj BK276.out 3).trans rfl
          have hfz36_0 := zak BK276.out 0
          have hfz36_1 := zak BK276.out 1
          have hfz36_2 := zak BK276.out 2
          have hfz36_3 := zak BK276.out 3
          go_wp2
          refine bodyPost_ret (results_cell_row rfl _ _ gb276 25 #[.int .i64 2, .int .i64 (wrap64 (x22_1 + 1)), .int .i64 1, .int .i64 0] (0, 0) _ rfl (by (with_reducible repeat (first | refine zaf ?_ _ | refine zai ?_ | refine zae ?_ _)); refine zaT (cs := #[.int .i64 2, .int .i64 (wrap64 (x22_1 + 1)), .int .i64 1, .int .i64 x277003_1]) ?_ 3 _ rfl; (with_reducible repeat (first | refine zaf ?_ _ | refine zai ?_ | refine zae ?_ _)); refine zaT (cs := #[.int .i64 2, .int .i64 (wrap64 (x22_1 + 1)), .int .i64 x277002_1, .int .i64 x277003_1]) ?_ 2 _ rfl; (with_reducible repeat (first | refine zaf ?_ _ | refine zai ?_ | refine zae ?_ _)); refine zaT (cs := #[.int .i64 2, .int .i64 x277001_1, .int .i64 x277002_1, .int .i64 x277003_1]) ?_ 1 _ rfl; (with_reducible repeat (first | refine zaf ?_ _ | refine zai ?_ | refine zae ?_ _)); refine zaT (cs := #[.int .i64 x277000_1, .int .i64 x277001_1, .int .i64 x277002_1, .int .i64 x277003_1]) ?_ 0 _ rfl; (with_reducible repeat (first | refine zaf ?_ _ | refine zai ?_ | refine zae ?_ _)); exact BK276.out) Tryd.underlying25 rfl (by kernel_rfl)) rfl ?_
          exact ⟨by first | rfl | (simp [zam, zan] <;> rfl) | (simp [*, zam, zan] <;> rfl), by repeat (first | (with_reducible first | exact HB.out | apply zac | apply zab | apply zad | refine zah ?_ GE275.out | refine zah ?_ GE276.out | refine zah ?_ GE279.out) | exact HB.out)⟩
         ·replace c33 := Bool.eq_false_iff.mpr c33
          subst c33
          have H1 : ((za5.f kj14 ((zaV l0_0 x22_1).f1) (wrap64 (x22_1 + 1)) a1 a2 x22_1).bind fun bt282 => (if (!(bt282.1 == 0) || (!(bt282.2.1 == 0) || (!(bt282.2.2.1 == 0) || (!(bt282.2.2.2 == 0))))) = true then (some (bt282.1, bt282.2.1, bt282.2.2.1, bt282.2.2.2)) else (zaG.l0 kj14 a1 a2 l0_0 (l0_0.length : Int) (wrap64 (x22_1 + 1)) l0_0 l0_1))) = some (r1, r2, r3, r4) := by rw [if_neg (show ¬ (false = true) by decide)] at H; exact H
          clear H
          have H := H1
          clear H1
          replace H := Option.bind_eq_some_iff.mp H
          obtain ⟨⟨t282, t283, t284, t285⟩, A370, H⟩ := H
          replace H : (if (!(t282 == 0) || (!(t283 == 0) || (!(t284 == 0) || (!(t285 == 0))))) = true then (some (t282, t283, t284, t285)) else (zaG.l0 kj14 a1 a2 l0_0 (l0_0.length : Int) (wrap64 (x22_1 + 1)) l0_0 l0_1)) = some (r1, r2, r3, r4) := H
          have A37 := zaa.mk A370
          clear A370
          by_cases c38 : (!(t282 == 0) || (!(t283 == 0) || (!(t284 == 0) || (!(t285 == 0))))) = true
          ·rw [if_pos c38] at H
           have c38b0 : (!(t282 == 0) || (!(t283 == 0) || (!(t284 == 0) || (!(t285 == 0))))) = true := c38
           clear c38
           simp only [Option.some.injEq, Prod.mk.injEq] at H
           obtain ⟨rfl, rfl, rfl, rfl⟩ := H
           have hnb39 := NB279_275.out
           have hnc39 := NB275_279.out
           have hnb40 := NB279_276.out
           have hnc40 := NB276_279.out
           have hcz41_0 : wc.cell? ⟨gb279, 0, none⟩ = some (.string ((zaV l0_0 x22_1).f0)) := (zaj BK279.out 0).trans rfl
           have hcz41_1 : wc.cell? ⟨gb279, 1, none⟩ = some (.slice A278_1 ((zaV l0_0 x22_1).f1).length c278_1) := (zaj BK279.out 1).trans rfl
           have hfz41_0 := zak BK279.out 0
           have hfz41_1 := zak BK279.out 1
           go_wp2_with (first | ((with_reducible refine zaI (f := 77) rfl ?_); refine za3 (some 47) rfl rfl Tryd.func77 (by kernel_rfl) rfl #[.slice A278_1 ((zaV l0_0 x22_1).f1).length c278_1, .int .i64 (wrap64 (x22_1 + 1)), .int .i64 a1, .int .i64 a2, .int .i64 x22_1] rfl (by (try simp only [List.map_toArray, List.map_cons, List.map_nil]); first | done | rfl | (simp only [List.length_drop, List.length_take]; rfl)) ?_; (with_reducible refine (za5.calls kj14 _ _ ((zaV l0_0 x22_1).f1) (wrap64 (x22_1 + 1)) a1 a2 x22_1 t282 t283 t284 t285 _ ?side1 ?side2 A37.out).mono ?_); (case side1 => repeat (first | exact (Kd.za2 HR278_1.out HB.out) | (with_reducible refine Kd.zaQ ?_ _) | (with_reducible refine Kd.zaR ?_ _) | (with_reducible refine Kd.zaZ ?_))); (case side2 => exact HC278_1.out); rintro e w42 ⟨rfl, hb⟩; refine ⟨_, rfl, ?_⟩; have n0_ := zaa.mk (zaE (g := gb275) (o := .cells #[.slice (some ad278) l0_0.length c0_0, .slice A0_1 l0_1.length c0_1] 50 (0, 0)) (by (with_reducible repeat (first | refine zaf ?_ _ | refine zai ?_ | refine zae ?_ _)); exact BK275.out) hb); have n1_ := zaa.mk (zaE (g := gb276) (o := .cells #[.int .i64 x277000_1, .int .i64 x277001_1, .int .i64 x277002_1, .int .i64 x277003_1] 25 (0, 0)) (by (with_reducible repeat (first | refine zaf ?_ _ | refine zai ?_ | refine zae ?_ _)); exact BK276.out) hb); have n2_ := zaa.mk (zaE (g := gb279) (o := .cells #[.string ((zaV l0_0 x22_1).f0), .slice A278_1 ((zaV l0_0 x22_1).f1).length c278_1] 127 (0, 0)) (by (with_reducible repeat (first | refine zaf ?_ _ | refine zai ?_ | refine zae ?_ _)); exact BK279.out) hb); have n3_ := zaa.mk (zat (by repeat (first | (with_reducible first | exact HB.out | apply zac | apply zab | apply zad | refine zah ?_ GE275.out | refine zah ?_ GE276.out | refine zah ?_ GE279.out) | exact HB.out)) hb); clear BK275; clear BK276; clear BK279; clear HB; have BK275 := n0_; have BK276 := n1_; have BK279 := n2_; have HB := n3_; clear n0_ n1_ n2_ n3_; (try clear hb); (try clear hb2); (try clear hk); (try clear hi)) | ((with_reducible refine za8 (N := 9) rfl ?_); refine za6 ?hg (N := 9) ?hd (cs := #[.int .i64 0, .int .i64 0, .int .i64 0, .int .i64 0]) (t := 25) ?hr ?_; (case hd => rfl); (case hg => rfl); (case hr => first | (go_simp; done) | (go_simp; rfl)); intro gb286 hg w43 hbox hb; have n0_ := zaa.mk (zaE (g := gb275) (o := .cells #[.slice (some ad278) l0_0.length c0_0, .slice A0_1 l0_1.length c0_1] 50 (0, 0)) (by (with_reducible repeat (first | refine zaf ?_ _ | refine zai ?_ | refine zae ?_ _)); exact BK275.out) hb); have n1_ := zaa.mk (zaE (g := gb276) (o := .cells #[.int .i64 x277000_1, .int .i64 x277001_1, .int .i64 x277002_1, .int .i64 x277003_1] 25 (0, 0)) (by (with_reducible repeat (first | refine zaf ?_ _ | refine zai ?_ | refine zae ?_ _)); exact BK276.out) hb); have n2_ := zaa.mk (zaE (g := gb279) (o := .cells #[.string ((zaV l0_0 x22_1).f0), .slice A278_1 ((zaV l0_0 x22_1).f1).length c278_1] 127 (0, 0)) (by (with_reducible repeat (first | refine zaf ?_ _ | refine zai ?_ | refine zae ?_ _)); exact BK279.out) hb); have n3_ := zaa.mk (zat (by repeat (first | (with_reducible first | exact HB.out | apply zac | apply zab | apply zad | refine zah ?_ GE275.out | refine zah ?_ GE276.out | refine zah ?_ GE279.out) | exact HB.out)) hb); have n4_ := zaa.mk (hbox); have n5_ := zaa.mk ((by rw [hg]; exact (zas (by repeat (first | (with_reducible first | exact HB.out | apply zac | apply zab | apply zad | refine zah ?_ GE275.out | refine zah ?_ GE276.out | refine zah ?_ GE279.out) | exact HB.out))) : w.heap.size ≤ gb286)); have n6_ := zaa.mk ((by rw [hg]; exact (zas (by repeat (first | (with_reducible first | exact HB.out | apply zac | apply zab | apply zad | refine zah ?_ GE275.out | refine zah ?_ GE276.out | refine zah ?_ GE279.out) | exact HB.out))) : w.heap.size ≤ gb286)); have n7_ := zaa.mk ((by rw [hg]; exact Nat.ne_of_lt (zbq (g := gb275) (o := .cells #[.slice (some ad278) l0_0.length c0_0, .slice A0_1 l0_1.length c0_1] 50 (0, 0)) (by (with_reducible repeat (first | refine zaf ?_ _ | refine zai ?_ | refine zae ?_ _)); exact BK275.out)) : gb275 ≠ gb286)); have n8_ := zaa.mk ((by rw [hg]; exact Nat.ne_of_gt (zbq (g := gb275) (o := .cells #[.slice (some ad278) l0_0.length c0_0, .slice A0_1 l0_1.length c0_1] 50 (0, 0)) (by (with_reducible repeat (first | refine zaf ?_ _ | refine zai ?_ | refine zae ?_ _)); exact BK275.out)) : gb286 ≠ gb275)); have n9_ := zaa.mk ((by rw [hg]; exact Nat.ne_of_lt (zbq (g := gb276) (o := .cells #[.int .i64 x277000_1, .int .i64 x277001_1, .int .i64 x277002_1, .int .i64 x277003_1] 25 (0, 0)) (by (with_reducible repeat (first | refine zaf ?_ _ | refine zai ?_ | refine zae ?_ _)); exact BK276.out)) : gb276 ≠ gb286)); have n10_ := zaa.mk ((by rw [hg]; exact Nat.ne_of_gt (zbq (g := gb276) (o := .cells #[.int .i64 x277000_1, .int .i64 x277001_1, .int .i64 x277002_1, .int .i64 x277003_1] 25 (0, 0)) (by (with_reducible repeat (first | refine zaf ?_ _ | refine zai ?_ | refine zae ?_ _)); exact BK276.out)) : gb286 ≠ gb276)); have n11_ := zaa.mk ((by rw [hg]; exact Nat.ne_of_lt (zbq (g := gb279) (o := .cells #[.string ((zaV l0_0 x22_1).f0), .slice A278_1 ((zaV l0_0 x22_1).f1).length c278_1] 127 (0, 0)) (by (with_reducible repeat (first | refine zaf ?_ _ | refine zai ?_ | refine zae ?_ _)); exact BK279.out)) : gb279 ≠ gb286)); have n12_ := zaa.mk ((by rw [hg]; exact Nat.ne_of_gt (zbq (g := gb279) (o := .cells #[.string ((zaV l0_0 x22_1).f0), .slice A278_1 ((zaV l0_0 x22_1).f1).length c278_1] 127 (0, 0)) (by (with_reducible repeat (first | refine zaf ?_ _ | refine zai ?_ | refine zae ?_ _)); exact BK279.out)) : gb286 ≠ gb279)); clear BK275; clear BK276; clear BK279; clear HB; have BK275 := n0_; have BK276 := n1_; have BK279 := n2_; have HB := n3_; have BK286 := n4_; have GW286 := n5_; have GE286 := n6_; have NB275_286 := n7_; have NB286_275 := n8_; have NB276_286 := n9_; have NB286_276 := n10_; have NB279_286 := n11_; have NB286_279 := n12_; clear n0_ n1_ n2_ n3_ n4_ n5_ n6_ n7_ n8_ n9_ n10_ n11_ n12_; clear hb hbox hg; have hnb44 := NB286_275.out; have hnc44 := NB275_286.out; have hnb45 := NB286_276.out; have hnc45 := NB276_286.out; have hnb46 := NB286_279.out; have hnc46 := NB279_286.out; have hcz47_0 : w43.cell? ⟨gb286, 0, none⟩ = some (.int .i64 0) := (zaj BK286.out 0).trans rfl; have hcz47_1 : w43.cell? ⟨gb286, 1, none⟩ = some (.int .i64 0) := (zaj BK286.out 1).trans rfl; have hcz47_2 : w43.cell? ⟨gb286, 2, none⟩ = some (.int .i64 0) := (zaj BK286.out 2).trans rfl; have hcz47_3 : w43.cell? ⟨gb286, 3, none⟩ = some (.int .i64 0) := (zaj BK286.out 3).trans rfl; have hfz47_0 := zak BK286.out 0; have hfz47_1 := zak BK286.out 1; have hfz47_2 := zak BK286.out 2; have hfz47_3 := zak BK286.out 3; have hnb48 := NB276_275.out; have hnc48 := NB275_276.out; have hcz49_0 : w43.cell? ⟨gb276, 0, none⟩ = some (.int .i64 x277000_1) := (zaj BK276.out 0).trans rfl; have hcz49_1 : w43.cell? ⟨gb276, 1, none⟩ = some (.int .i64 x277001_1) := (zaj BK276.out 1).trans rfl; have hcz49_2 : w43.cell? ⟨gb276, 2, none⟩ = some (.int .i64 x277002_1) := (zaj BK276.out 2).trans rfl; have hcz49_3 : w43.cell? ⟨gb276, 3, none⟩ = some (.int .i64 x277003_1) := (zaj BK276.out 3).trans rfl; have hfz49_0 := zak BK276.out 0; have hfz49_1 := zak BK276.out 1; have hfz49_2 := zak BK276.out 2; have hfz49_3 := zak BK276.out 3))
           refine bodyPost_ret (results_cell_row rfl _ _ gb276 25 #[.int .i64 t282, .int .i64 t283, .int .i64 t284, .int .i64 t285] (0, 0) _ rfl (by (with_reducible repeat (first | refine zaf ?_ _ | refine zai ?_ | refine zae ?_ _)); refine zaT (cs := #[.int .i64 t282, .int .i64 t283, .int .i64 t284, .int .i64 x277003_1]) ?_ 3 _ rfl; (with_reducible repeat (first | refine zaf ?_ _ | refine zai ?_ | refine zae ?_ _)); refine zaT (cs := #[.int .i64 t282, .int .i64 t283, .int .i64 x277002_1, .int .i64 x277003_1]) ?_ 2 _ rfl; (with_reducible repeat (first | refine zaf ?_ _ | refine zai ?_ | refine zae ?_ _)); refine zaT (cs := #[.int .i64 t282, .int .i64 x277001_1, .int .i64 x277002_1, .int .i64 x277003_1]) ?_ 1 _ rfl; (with_reducible repeat (first | refine zaf ?_ _ | refine zai ?_ | refine zae ?_ _)); refine zaT (cs := #[.int .i64 x277000_1, .int .i64 x277001_1, .int .i64 x277002_1, .int .i64 x277003_1]) ?_ 0 _ rfl; (with_reducible repeat (first | refine zaf ?_ _ | refine zai ?_ | refine zae ?_ _)); refine zbo ?_ NB276_286.out _; (with_reducible repeat (first | refine zaf ?_ _ | refine zai ?_ | refine zae ?_ _)); refine zbo ?_ NB276_286.out _; (with_reducible repeat (first | refine zaf ?_ _ | refine zai ?_ | refine zae ?_ _)); refine zbo ?_ NB276_286.out _; (with_reducible repeat (first | refine zaf ?_ _ | refine zai ?_ | refine zae ?_ _)); refine zbo ?_ NB276_286.out _; (with_reducible repeat (first | refine zaf ?_ _ | refine zai ?_ | refine zae ?_ _)); exact BK276.out) Tryd.underlying25 rfl (by kernel_rfl)) rfl ?_
           exact ⟨by first | rfl | (simp [zam, zan] <;> rfl) | (simp [*, zam, zan] <;> rfl), by repeat (first | (with_reducible first | exact HB.out | apply zac | apply zab | apply zad | refine zah ?_ GE275.out | refine zah ?_ GE276.out | refine zah ?_ GE279.out | refine zah ?_ GE286.out) | exact HB.out)⟩
          ·rw [if_neg c38] at H
           have c38b0 : (!(t282 == 0) || (!(t283 == 0) || (!(t284 == 0) || (!(t285 == 0))))) = false := by simpa using c38
           clear c38
           have H' := zaa.mk H
           clear H
           have hnb50 := NB279_275.out
           have hnc50 := NB275_279.out
           have hnb51 := NB279_276.out
           have hnc51 := NB276_279.out
           have hcz52_0 : wc.cell? ⟨gb279, 0, none⟩ = some (.string ((zaV l0_0 x22_1).f0)) := (zaj BK279.out 0).trans rfl
           have hcz52_1 : wc.cell? ⟨gb279, 1, none⟩ = some (.slice A278_1 ((zaV l0_0 x22_1).f1).length c278_1) := (zaj BK279.out 1).trans rfl
           have hfz52_0 := zak BK279.out 0
           have hfz52_1 := zak BK279.out 1
           go_wp2_with (first | ((with_reducible refine zaI (f := 77) rfl ?_); refine za3 (some 47) rfl rfl Tryd.func77 (by kernel_rfl) rfl #[.slice A278_1 ((zaV l0_0 x22_1).f1).length c278_1, .int .i64 (wrap64 (x22_1 + 1)), .int .i64 a1, .int .i64 a2, .int .i64 x22_1] rfl (by (try simp only [List.map_toArray, List.map_cons, List.map_nil]); first | done | rfl | (simp only [List.length_drop, List.length_take]; rfl)) ?_; (with_reducible refine (za5.calls kj14 _ _ ((zaV l0_0 x22_1).f1) (wrap64 (x22_1 + 1)) a1 a2 x22_1 t282 t283 t284 t285 _ ?side1 ?side2 A37.out).mono ?_); (case side1 => repeat (first | exact (Kd.za2 HR278_1.out HB.out) | (with_reducible refine Kd.zaQ ?_ _) | (with_reducible refine Kd.zaR ?_ _) | (with_reducible refine Kd.zaZ ?_))); (case side2 => exact HC278_1.out); rintro e w53 ⟨rfl, hb⟩; refine ⟨_, rfl, ?_⟩; have n0_ := zaa.mk (zaE (g := gb275) (o := .cells #[.slice (some ad278) l0_0.length c0_0, .slice A0_1 l0_1.length c0_1] 50 (0, 0)) (by (with_reducible repeat (first | refine zaf ?_ _ | refine zai ?_ | refine zae ?_ _)); exact BK275.out) hb); have n1_ := zaa.mk (zaE (g := gb276) (o := .cells #[.int .i64 x277000_1, .int .i64 x277001_1, .int .i64 x277002_1, .int .i64 x277003_1] 25 (0, 0)) (by (with_reducible repeat (first | refine zaf ?_ _ | refine zai ?_ | refine zae ?_ _)); exact BK276.out) hb); have n2_ := zaa.mk (zaE (g := gb279) (o := .cells #[.string ((zaV l0_0 x22_1).f0), .slice A278_1 ((zaV l0_0 x22_1).f1).length c278_1] 127 (0, 0)) (by (with_reducible repeat (first | refine zaf ?_ _ | refine zai ?_ | refine zae ?_ _)); exact BK279.out) hb); have n3_ := zaa.mk (zat (by repeat (first | (with_reducible first | exact HB.out | apply zac | apply zab | apply zad | refine zah ?_ GE275.out | refine zah ?_ GE276.out | refine zah ?_ GE279.out) | exact HB.out)) hb); clear BK275; clear BK276; clear BK279; clear HB; have BK275 := n0_; have BK276 := n1_; have BK279 := n2_; have HB := n3_; clear n0_ n1_ n2_ n3_; (try clear hb); (try clear hb2); (try clear hk); (try clear hi)) | ((with_reducible refine za8 (N := 9) rfl ?_); refine za6 ?hg (N := 9) ?hd (cs := #[.int .i64 0, .int .i64 0, .int .i64 0, .int .i64 0]) (t := 25) ?hr ?_; (case hd => rfl); (case hg => rfl); (case hr => first | (go_simp; done) | (go_simp; rfl)); intro gb286 hg w54 hbox hb; have n0_ := zaa.mk (zaE (g := gb275) (o := .cells #[.slice (some ad278) l0_0.length c0_0, .slice A0_1 l0_1.length c0_1] 50 (0, 0)) (by (with_reducible repeat (first | refine zaf ?_ _ | refine zai ?_ | refine zae ?_ _)); exact BK275.out) hb); have n1_ := zaa.mk (zaE (g := gb276) (o := .cells #[.int .i64 x277000_1, .int .i64 x277001_1, .int .i64 x277002_1, .int .i64 x277003_1] 25 (0, 0)) (by (with_reducible repeat (first | refine zaf ?_ _ | refine zai ?_ | refine zae ?_ _)); exact BK276.out) hb); have n2_ := zaa.mk (zaE (g := gb279) (o := .cells #[.string ((zaV l0_0 x22_1).f0), .slice A278_1 ((zaV l0_0 x22_1).f1).length c278_1] 127 (0, 0)) (by (with_reducible repeat (first | refine zaf ?_ _ | refine zai ?_ | refine zae ?_ _)); exact BK279.out) hb); have n3_ := zaa.mk (zat (by repeat (first | (with_reducible first | exact HB.out | apply zac | apply zab | apply zad | refine zah ?_ GE275.out | refine zah ?_ GE276.out | refine zah ?_ GE279.out) | exact HB.out)) hb); have n4_ := zaa.mk (hbox); have n5_ := zaa.mk ((by rw [hg]; exact (zas (by repeat (first | (with_reducible first | exact HB.out | apply zac | apply zab | apply zad | refine zah ?_ GE275.out | refine zah ?_ GE276.out | refine zah ?_ GE279.out) | exact HB.out))) : w.heap.size ≤ gb286)); have n6_ := zaa.mk ((by rw [hg]; exact (zas (by repeat (first | (with_reducible first | exact HB.out | apply zac | apply zab | apply zad | refine zah ?_ GE275.out | refine zah ?_ GE276.out | refine zah ?_ GE279.out) | exact HB.out))) : w.heap.size ≤ gb286)); have n7_ := zaa.mk ((by rw [hg]; exact Nat.ne_of_lt (zbq (g := gb275) (o := .cells #[.slice (some ad278) l0_0.length c0_0, .slice A0_1 l0_1.length c0_1] 50 (0, 0)) (by (with_reducible repeat (first | refine zaf ?_ _ | refine zai ?_ | refine zae ?_ _)); exact BK275.out)) : gb275 ≠ gb286)); have n8_ := zaa.mk ((by rw [hg]; exact Nat.ne_of_gt (zbq (g := gb275) (o := .cells #[.slice (some ad278) l0_0.length c0_0, .slice A0_1 l0_1.length c0_1] 50 (0, 0)) (by (with_reducible repeat (first | refine zaf ?_ _ | refine zai ?_ | refine zae ?_ _)); exact BK275.out)) : gb286 ≠ gb275)); have n9_ := zaa.mk ((by rw [hg]; exact Nat.ne_of_lt (zbq (g := gb276) (o := .cells #[.int .i64 x277000_1, .int .i64 x277001_1, .int .i64 x277002_1, .int .i64 x277003_1] 25 (0, 0)) (by (with_reducible repeat (first | refine zaf ?_ _ | refine zai ?_ | refine zae ?_ _)); exact BK276.out)) : gb276 ≠ gb286)); have n10_ := zaa.mk ((by rw [hg]; exact Nat.ne_of_gt (zbq (g := gb276) (o := .cells #[.int .i64 x277000_1, .int .i64 x277001_1, .int .i64 x277002_1, .int .i64 x277003_1] 25 (0, 0)) (by (with_reducible repeat (first | refine zaf ?_ _ | refine zai ?_ | refine zae ?_ _)); exact BK276.out)) : gb286 ≠ gb276)); have n11_ := zaa.mk ((by rw [hg]; exact Nat.ne_of_lt (zbq (g := gb279) (o := .cells #[.string ((zaV l0_0 x22_1).f0), .slice A278_1 ((zaV l0_0 x22_1).f1).length c278_1] 127 (0, 0)) (by (with_reducible repeat (first | refine zaf ?_ _ | refine zai ?_ | refine zae ?_ _)); exact BK279.out)) : gb279 ≠ gb286)); have n12_ := zaa.mk ((by rw [hg]; exact Nat.ne_of_gt (zbq (g := gb279) (o := .cells #[.string ((zaV l0_0 x22_1).f0), .slice A278_1 ((zaV l0_0 x22_1).f1).length c278_1] 127 (0, 0)) (by (with_reducible repeat (first | refine zaf ?_ _ | refine zai ?_ | refine zae ?_ _)); exact BK279.out)) : gb286 ≠ gb279)); clear BK275; clear BK276; clear BK279; clear HB; have BK275 := n0_; have BK276 := n1_; have BK279 := n2_; have HB := n3_; have BK286 := n4_; have GW286 := n5_; have GE286 := n6_; have NB275_286 := n7_; have NB286_275 := n8_; have NB276_286 := n9_; have NB286_276 := n10_; have NB279_286 := n11_; have NB286_279 := n12_; clear n0_ n1_ n2_ n3_ n4_ n5_ n6_ n7_ n8_ n9_ n10_ n11_ n12_; clear hb hbox hg; have hnb55 := NB286_275.out; have hnc55 := NB275_286.out; have hnb56 := NB286_276.out; have hnc56 := NB276_286.out; have hnb57 := NB286_279.out; have hnc57 := NB279_286.out; have hcz58_0 : w54.cell? ⟨gb286, 0, none⟩ = some (.int .i64 0) := (zaj BK286.out 0).trans rfl; have hcz58_1 : w54.cell? ⟨gb286, 1, none⟩ = some (.int .i64 0) := (zaj BK286.out 1).trans rfl; have hcz58_2 : w54.cell? ⟨gb286, 2, none⟩ = some (.int .i64 0) := (zaj BK286.out 2).trans rfl; have hcz58_3 : w54.cell? ⟨gb286, 3, none⟩ = some (.int .i64 0) := (zaj BK286.out 3).trans rfl; have hfz58_0 := zak BK286.out 0; have hfz58_1 := zak BK286.out 1; have hfz58_2 := zak BK286.out 2; have hfz58_3 := zak BK286.out 3))
           go_roundg kj14
           case measure => have := HK1.out; have := HJ14.out; omega
           case rel => exact ⟨(wrap64 (x22_1 + 1)), (x277000_1), (x277001_1), (x277002_1), (x277003_1), (by first | rfl | (simp; done) | (simp [*]; done)), H', ⟨by have := HK1.out; have := HJ14.out; omega⟩, ⟨by (with_reducible repeat (first | refine zaf ?_ _ | refine zai ?_ | refine zae ?_ _)); refine zbo ?_ NB275_286.out _; (with_reducible repeat (first | refine zaf ?_ _ | refine zai ?_ | refine zae ?_ _)); refine zbo ?_ NB275_286.out _; (with_reducible repeat (first | refine zaf ?_ _ | refine zai ?_ | refine zae ?_ _)); refine zbo ?_ NB275_286.out _; (with_reducible repeat (first | refine zaf ?_ _ | refine zai ?_ | refine zae ?_ _)); refine zbo ?_ NB275_286.out _; (with_reducible repeat (first | refine zaf ?_ _ | refine zai ?_ | refine zae ?_ _)); exact BK275.out⟩, ⟨by (with_reducible repeat (first | refine zaf ?_ _ | refine zai ?_ | refine zae ?_ _)); refine zbo ?_ NB276_286.out _; (with_reducible repeat (first | refine zaf ?_ _ | refine zai ?_ | refine zae ?_ _)); refine zbo ?_ NB276_286.out _; (with_reducible repeat (first | refine zaf ?_ _ | refine zai ?_ | refine zae ?_ _)); refine zbo ?_ NB276_286.out _; (with_reducible repeat (first | refine zaf ?_ _ | refine zai ?_ | refine zae ?_ _)); refine zbo ?_ NB276_286.out _; (with_reducible repeat (first | refine zaf ?_ _ | refine zai ?_ | refine zae ?_ _)); exact BK276.out⟩, ⟨by repeat (first | (with_reducible first | exact HB.out | apply zac | apply zab | apply zad | refine zah ?_ GE275.out | refine zah ?_ GE276.out | refine zah ?_ GE279.out | refine zah ?_ GE286.out) | exact HB.out)⟩⟩
      ·rw [if_neg c14] at H
       exact absurd H (by simp)
     ·rw [if_neg c13] at H
      exact absurd H (by simp)
    ·rw [if_neg c12] at H
     have c12b0 : decide (x22_1 < (l0_0.length : Int)) = false := decide_eq_false c12
     clear c12
     have H' := zaa.mk H
     clear H
     have hnb59 := NB275_276.out
     have hnc59 := NB276_275.out
     have hcz60_0 : wr.cell? ⟨gb275, 0, none⟩ = some (.slice A0_0 l0_0.length c0_0) := (zaj BK275.out 0).trans rfl
     have hcz60_1 : wr.cell? ⟨gb275, 1, none⟩ = some (.slice A0_1 l0_1.length c0_1) := (zaj BK275.out 1).trans rfl
     have hfz60_0 := zak BK275.out 0
     have hfz60_1 := zak BK275.out 1
     go_wp2
     go_loopg [56] k1 (fun kq v56 w' => ∃ (x56_2 : Int) (x277000_2 : Int) (x277001_2 : Int) (x277002_2 : Int) (x277003_2 : Int), v56 = .int .i64 x56_2 ∧ zaa (zaG.l1 kq a1 a2 l0_1 (l0_1.length : Int) x56_2 l0_0 l0_1 = some (r1, r2, r3, r4)) ∧ zaa (kq ≤ k1) ∧ zaa (w'.heap[gb275]? = some (.cells #[(.slice A0_0 l0_0.length c0_0), (.slice A0_1 l0_1.length c0_1)] 50 (0, 0))) ∧ zaa (w'.heap[gb276]? = some (.cells #[.int .i64 x277000_2, .int .i64 x277001_2, .int .i64 x277002_2, .int .i64 x277003_2] 25 (0, 0))) ∧ zaa (Below w.heap.size w w'))
     case atStart => exact ⟨(0), (x277000_1), (x277001_1), (x277002_1), (x277003_1), (by first | rfl | (simp; done) | (simp [*]; done)), H', ⟨Nat.le_refl _⟩, ⟨by (with_reducible repeat (first | refine zaf ?_ _ | refine zai ?_ | refine zae ?_ _)); exact BK275.out⟩, ⟨by (with_reducible repeat (first | refine zaf ?_ _ | refine zai ?_ | refine zae ?_ _)); exact BK276.out⟩, ⟨by repeat (first | (with_reducible first | exact HB.out | apply zac | apply zab | apply zad | refine zah ?_ GE275.out | refine zah ?_ GE276.out) | exact HB.out)⟩⟩
     case round =>
      clear H'
      try clear c1
      try clear c2
      try clear p2
      try clear q2
      try clear hx2
      try clear c3
      try clear c4
      try clear c5
      try clear p6
      try clear c7
      try clear c8
      try clear c12
      try clear c12b0
      try clear c13
      try clear c13b0
      try clear c14
      try clear c14b0
      try clear c17
      try clear c18
      try clear c21
      try clear c23
      try clear c24
      try clear c26
      try clear c27
      try clear p27
      try clear q27
      try clear hx27
      try clear c29
      try clear c30
      try clear c33
      try clear c34
      try clear c35
      try clear c38
      try clear c38b0
      try clear c39
      try clear c40
      try clear c44
      try clear c45
      try clear c46
      try clear c48
      try clear c50
      try clear c51
      try clear c55
      try clear c56
      try clear c57
      try clear c59
      try clear hcz11_0
      try clear hcz11_1
      try clear hcz19_0
      try clear hcz19_1
      try clear hcz25_0
      try clear hcz25_1
      try clear hcz28_0
      try clear hcz28_1
      try clear hcz31_0
      try clear hcz31_1
      try clear hcz36_0
      try clear hcz36_1
      try clear hcz36_2
      try clear hcz36_3
      try clear hcz41_0
      try clear hcz41_1
      try clear hcz47_0
      try clear hcz47_1
      try clear hcz47_2
      try clear hcz47_3
      try clear hcz49_0
      try clear hcz49_1
      try clear hcz49_2
      try clear hcz49_3
      try clear hcz52_0
      try clear hcz52_1
      try clear hcz58_0
      try clear hcz58_1
      try clear hcz58_2
      try clear hcz58_3
      try clear hcz60_0
      try clear hcz60_1
      try clear hcz9_0
      try clear hcz9_1
      try clear hfz11_0
      try clear hfz11_1
      try clear hfz19_0
      try clear hfz19_1
      try clear hfz25_0
      try clear hfz25_1
      try clear hfz28_0
      try clear hfz28_1
      try clear hfz31_0
      try clear hfz31_1
      try clear hfz36_0
      try clear hfz36_1
      try clear hfz36_2
      try clear hfz36_3
      try clear hfz41_0
      try clear hfz41_1
      try clear hfz47_0
      try clear hfz47_1
      try clear hfz47_2
      try clear hfz47_3
      try clear hfz49_0
      try clear hfz49_1
      try clear hfz49_2
      try clear hfz49_3
      try clear hfz52_0
      try clear hfz52_1
      try clear hfz58_0
      try clear hfz58_1
      try clear hfz58_2
      try clear hfz58_3
      try clear hfz60_0
      try clear hfz60_1
      try clear hfz9_0
      try clear hfz9_1
      try clear hx278_0
      try clear hx278_1
      try clear p2
      try clear p27
      try clear p278
      try clear q2
      try clear q27
      try clear q278
      obtain ⟨x56_2, x277000_2, x277001_2, x277002_2, x277003_2, rfl, HA, HK2, BK275, BK276, HB⟩ := hrel
      cases gk with
      | zero => exact absurd HA.out (by simp [zaG.l1])
      | succ k2 =>
       have H := HA.out
       clear HA
       simp only [zaG.l1] at H
       by_cases c61 : x56_2 < (l0_1.length : Int)
       ·rw [if_pos c61] at H
        have c61b0 : decide (x56_2 < (l0_1.length : Int)) = true := decide_eq_true c61
        clear c61
        by_cases c62 : 0 ≤ x56_2
        ·rw [if_pos c62] at H
         have c62b0 : decide (0 ≤ x56_2) = true := decide_eq_true c62
         clear c62
         by_cases c63 : x56_2 < (l0_1.length : Int)
         ·rw [if_pos c63] at H
          have c63b0 : decide (x56_2 < (l0_1.length : Int)) = true := decide_eq_true c63
          clear c63
          replace H := Option.bind_eq_some_iff.mp H
          obtain ⟨⟨t288, t289, t290, t291⟩, A640, H⟩ := H
          replace H : (if (!(t288 == 0) || (!(t289 == 0) || (!(t290 == 0) || (!(t291 == 0))))) = true then (some (t288, t289, t290, t291)) else (zaG.l1 k2 a1 a2 l0_1 (l0_1.length : Int) (wrap64 (x56_2 + 1)) l0_0 l0_1)) = some (r1, r2, r3, r4) := H
          have A64 := zaa.mk A640
          clear A640
          by_cases c65 : (!(t288 == 0) || (!(t289 == 0) || (!(t290 == 0) || (!(t291 == 0))))) = true
          ·rw [if_pos c65] at H
           have c65b0 : (!(t288 == 0) || (!(t289 == 0) || (!(t290 == 0) || (!(t291 == 0))))) = true := c65
           clear c65
           simp only [Option.some.injEq, Prod.mk.injEq] at H
           obtain ⟨rfl, rfl, rfl, rfl⟩ := H
           have p287 : 0 ≤ (x56_2 : Int) := of_decide_eq_true (by first | (with_reducible assumption) | assumption)
           have q287 : x56_2 < (l0_1.length : Int) := of_decide_eq_true (by first | (with_reducible assumption) | assumption)
           obtain ⟨ad287, A287_0, c287_0, e287, hx287_0, hl287_0, hi287_0⟩ := zfI HR0_1.out x56_2 p287 q287
           cases e287
           replace hx287_0 := (HB.out.cell (World.block_lt_of_cell? w _ hx287_0)).trans hx287_0
           have HR287_0 := zaa.mk hi287_0
           have HC287_0 := zaa.mk hl287_0
           clear hi287_0 hl287_0
           replace p287 := eq_true p287
           replace q287 := eq_true q287
           have hnb66 := NB275_276.out
           have hnc66 := NB276_275.out
           have hcz67_0 : wr.cell? ⟨gb275, 0, none⟩ = some (.slice A0_0 l0_0.length c0_0) := (zaj BK275.out 0).trans rfl
           have hcz67_1 : wr.cell? ⟨gb275, 1, none⟩ = some (.slice (some ad287) l0_1.length c0_1) := (zaj BK275.out 1).trans rfl
           have hfz67_0 := zak BK275.out 0
           have hfz67_1 := zak BK275.out 1
           go_wp2_with (first | ((with_reducible refine zaI (f := 77) rfl ?_); refine za3 (some 73) rfl rfl Tryd.func77 (by kernel_rfl) rfl #[.slice A287_0 (zcL l0_1 x56_2).length c287_0, .int .i64 (wrap64 ((wrap64 ((l0_0.length : Int) + x56_2)) + 1)), .int .i64 a1, .int .i64 a2, .int .i64 (l0_0.length : Int)] rfl (by (try simp only [List.map_toArray, List.map_cons, List.map_nil]); first | done | rfl | (simp only [List.length_drop, List.length_take]; rfl)) ?_; (with_reducible refine (za5.calls k2 _ _ (zcL l0_1 x56_2) (wrap64 ((wrap64 ((l0_0.length : Int) + x56_2)) + 1)) a1 a2 (l0_0.length : Int) t288 t289 t290 t291 _ ?side1 ?side2 A64.out).mono ?_); (case side1 => repeat (first | exact (Kd.za2 HR287_0.out HB.out) | (with_reducible refine Kd.zaQ ?_ _) | (with_reducible refine Kd.zaR ?_ _) | (with_reducible refine Kd.zaZ ?_))); (case side2 => exact HC287_0.out); rintro e w68 ⟨rfl, hb⟩; refine ⟨_, rfl, ?_⟩; have n0_ := zaa.mk (zaE (g := gb275) (o := .cells #[.slice A0_0 l0_0.length c0_0, .slice (some ad287) l0_1.length c0_1] 50 (0, 0)) (by (with_reducible repeat (first | refine zaf ?_ _ | refine zai ?_ | refine zae ?_ _)); exact BK275.out) hb); have n1_ := zaa.mk (zaE (g := gb276) (o := .cells #[.int .i64 x277000_2, .int .i64 x277001_2, .int .i64 x277002_2, .int .i64 x277003_2] 25 (0, 0)) (by (with_reducible repeat (first | refine zaf ?_ _ | refine zai ?_ | refine zae ?_ _)); exact BK276.out) hb); have n2_ := zaa.mk (zat (by repeat (first | (with_reducible first | exact HB.out | apply zac | apply zab | apply zad | refine zah ?_ GE275.out | refine zah ?_ GE276.out) | exact HB.out)) hb); clear BK275; clear BK276; clear HB; have BK275 := n0_; have BK276 := n1_; have HB := n2_; clear n0_ n1_ n2_; (try clear hb); (try clear hb2); (try clear hk); (try clear hi)) | ((with_reducible refine za8 (N := 12) rfl ?_); refine za6 ?hg (N := 12) ?hd (cs := #[.int .i64 0, .int .i64 0, .int .i64 0, .int .i64 0]) (t := 25) ?hr ?_; (case hd => rfl); (case hg => rfl); (case hr => first | (go_simp; done) | (go_simp; rfl)); intro gb292 hg w69 hbox hb; have n0_ := zaa.mk (zaE (g := gb275) (o := .cells #[.slice A0_0 l0_0.length c0_0, .slice (some ad287) l0_1.length c0_1] 50 (0, 0)) (by (with_reducible repeat (first | refine zaf ?_ _ | refine zai ?_ | refine zae ?_ _)); exact BK275.out) hb); have n1_ := zaa.mk (zaE (g := gb276) (o := .cells #[.int .i64 x277000_2, .int .i64 x277001_2, .int .i64 x277002_2, .int .i64 x277003_2] 25 (0, 0)) (by (with_reducible repeat (first | refine zaf ?_ _ | refine zai ?_ | refine zae ?_ _)); exact BK276.out) hb); have n2_ := zaa.mk (zat (by repeat (first | (with_reducible first | exact HB.out | apply zac | apply zab | apply zad | refine zah ?_ GE275.out | refine zah ?_ GE276.out) | exact HB.out)) hb); have n3_ := zaa.mk (hbox); have n4_ := zaa.mk ((by rw [hg]; exact (zas (by repeat (first | (with_reducible first | exact HB.out | apply zac | apply zab | apply zad | refine zah ?_ GE275.out | refine zah ?_ GE276.out) | exact HB.out))) : w.heap.size ≤ gb292)); have n5_ := zaa.mk ((by rw [hg]; exact (zas (by repeat (first | (with_reducible first | exact HB.out | apply zac | apply zab | apply zad | refine zah ?_ GE275.out | refine zah ?_ GE276.out) | exact HB.out))) : w.heap.size ≤ gb292)); have n6_ := zaa.mk ((by rw [hg]; exact Nat.ne_of_lt (zbq (g := gb275) (o := .cells #[.slice A0_0 l0_0.length c0_0, .slice (some ad287) l0_1.length c0_1] 50 (0, 0)) (by (with_reducible repeat (first | refine zaf ?_ _ | refine zai ?_ | refine zae ?_ _)); exact BK275.out)) : gb275 ≠ gb292)); have n7_ := zaa.mk ((by rw [hg]; exact Nat.ne_of_gt (zbq (g := gb275) (o := .cells #[.slice A0_0 l0_0.length c0_0, .slice (some ad287) l0_1.length c0_1] 50 (0, 0)) (by (with_reducible repeat (first | refine zaf ?_ _ | refine zai ?_ | refine zae ?_ _)); exact BK275.out)) : gb292 ≠ gb275)); have n8_ := zaa.mk ((by rw [hg]; exact Nat.ne_of_lt (zbq (g := gb276) (o := .cells #[.int .i64 x277000_2, .int .i64 x277001_2, .int .i64 x277002_2, .int .i64 x277003_2] 25 (0, 0)) (by (with_reducible repeat (first | refine zaf ?_ _ | refine zai ?_ | refine zae ?_ _)); exact BK276.out)) : gb276 ≠ gb292)); have n9_ := zaa.mk ((by rw [hg]; exact Nat.ne_of_gt (zbq (g := gb276) (o := .cells #[.int .i64 x277000_2, .int .i64 x277001_2, .int .i64 x277002_2, .int .i64 x277003_2] 25 (0, 0)) (by (with_reducible repeat (first | refine zaf ?_ _ | refine zai ?_ | refine zae ?_ _)); exact BK276.out)) : gb292 ≠ gb276)); clear BK275; clear BK276; clear HB; have BK275 := n0_; have BK276 := n1_; have HB := n2_; have BK292 := n3_; have GW292 := n4_; have GE292 := n5_; have NB275_292 := n6_; have NB292_275 := n7_; have NB276_292 := n8_; have NB292_276 := n9_; clear n0_ n1_ n2_ n3_ n4_ n5_ n6_ n7_ n8_ n9_; clear hb hbox hg; have hnb70 := NB292_275.out; have hnc70 := NB275_292.out; have hnb71 := NB292_276.out; have hnc71 := NB276_292.out; have hcz72_0 : w69.cell? ⟨gb292, 0, none⟩ = some (.int .i64 0) := (zaj BK292.out 0).trans rfl; have hcz72_1 : w69.cell? ⟨gb292, 1, none⟩ = some (.int .i64 0) := (zaj BK292.out 1).trans rfl; have hcz72_2 : w69.cell? ⟨gb292, 2, none⟩ = some (.int .i64 0) := (zaj BK292.out 2).trans rfl; have hcz72_3 : w69.cell? ⟨gb292, 3, none⟩ = some (.int .i64 0) := (zaj BK292.out 3).trans rfl; have hfz72_0 := zak BK292.out 0; have hfz72_1 := zak BK292.out 1; have hfz72_2 := zak BK292.out 2; have hfz72_3 := zak BK292.out 3; have hcz73_0 : w69.cell? ⟨gb276, 0, none⟩ = some (.int .i64 x277000_2) := (zaj BK276.out 0).trans rfl; have hcz73_1 : w69.cell? ⟨gb276, 1, none⟩ = some (.int .i64 x277001_2) := (zaj BK276.out 1).trans rfl; have hcz73_2 : w69.cell? ⟨gb276, 2, none⟩ = some (.int .i64 x277002_2) := (zaj BK276.out 2).trans rfl; have hcz73_3 : w69.cell? ⟨gb276, 3, none⟩ = some (.int .i64 x277003_2) := (zaj BK276.out 3).trans rfl; have hfz73_0 := zak BK276.out 0; have hfz73_1 := zak BK276.out 1; have hfz73_2 := zak BK276.out 2; have hfz73_3 := zak BK276.out 3))
           refine bodyPost_ret (results_cell_row rfl _ _ gb276 25 #[.int .i64 t288, .int .i64 t289, .int .i64 t290, .int .i64 t291] (0, 0) _ rfl (by (with_reducible repeat (first | refine zaf ?_ _ | refine zai ?_ | refine zae ?_ _)); refine zaT (cs := #[.int .i64 t288, .int .i64 t289, .int .i64 t290, .int .i64 x277003_2]) ?_ 3 _ rfl; (with_reducible repeat (first | refine zaf ?_ _ | refine zai ?_ | refine zae ?_ _)); refine zaT (cs := #[.int .i64 t288, .int .i64 t289, .int .i64 x277002_2, .int .i64 x277003_2]) ?_ 2 _ rfl; (with_reducible repeat (first | refine zaf ?_ _ | refine zai ?_ | refine zae ?_ _)); refine zaT (cs := #[.int .i64 t288, .int .i64 x277001_2, .int .i64 x277002_2, .int .i64 x277003_2]) ?_ 1 _ rfl; (with_reducible repeat (first | refine zaf ?_ _ | refine zai ?_ | refine zae ?_ _)); refine zaT (cs := #[.int .i64 x277000_2, .int .i64 x277001_2, .int .i64 x277002_2, .int .i64 x277003_2]) ?_ 0 _ rfl; (with_reducible repeat (first | refine zaf ?_ _ | refine zai ?_ | refine zae ?_ _)); refine zbo ?_ NB276_292.out _; (with_reducible repeat (first | refine zaf ?_ _ | refine zai ?_ | refine zae ?_ _)); refine zbo ?_ NB276_292.out _; (with_reducible repeat (first | refine zaf ?_ _ | refine zai ?_ | refine zae ?_ _)); refine zbo ?_ NB276_292.out _; (with_reducible repeat (first | refine zaf ?_ _ | refine zai ?_ | refine zae ?_ _)); refine zbo ?_ NB276_292.out _; (with_reducible repeat (first | refine zaf ?_ _ | refine zai ?_ | refine zae ?_ _)); exact BK276.out) Tryd.underlying25 rfl (by kernel_rfl)) rfl ?_
           exact ⟨by first | rfl | (simp [zam, zan] <;> rfl) | (simp [*, zam, zan] <;> rfl), by repeat (first | (with_reducible first | exact HB.out | apply zac | apply zab | apply zad | refine zah ?_ GE275.out | refine zah ?_ GE276.out | refine zah ?_ GE292.out) | exact HB.out)⟩
          ·rw [if_neg c65] at H
           have c65b0 : (!(t288 == 0) || (!(t289 == 0) || (!(t290 == 0) || (!(t291 == 0))))) = false := by simpa using c65
           clear c65
           have H' := zaa.mk H
           clear H
           have p287 : 0 ≤ (x56_2 : Int) := of_decide_eq_true (by first | (with_reducible assumption) | assumption)
           have q287 : x56_2 < (l0_1.length : Int) := of_decide_eq_true (by first | (with_reducible assumption) | assumption)
           obtain ⟨ad287, A287_0, c287_0, e287, hx287_0, hl287_0, hi287_0⟩ := zfI HR0_1.out x56_2 p287 q287
           cases e287
           replace hx287_0 := (HB.out.cell (World.block_lt_of_cell? w _ hx287_0)).trans hx287_0
           have HR287_0 := zaa.mk hi287_0
           have HC287_0 := zaa.mk hl287_0
           clear hi287_0 hl287_0
           replace p287 := eq_true p287
           replace q287 := eq_true q287
           have hnb74 := NB275_276.out
           have hnc74 := NB276_275.out
           have hcz75_0 : wr.cell? ⟨gb275, 0, none⟩ = some (.slice A0_0 l0_0.length c0_0) := (zaj BK275.out 0).trans rfl
           have hcz75_1 : wr.cell? ⟨gb275, 1, none⟩ = some (.slice (some ad287) l0_1.length c0_1) := (zaj BK275.out 1).trans rfl
           have hfz75_0 := zak BK275.out 0
           have hfz75_1 := zak BK275.out 1
           go_wp2_with (first | ((with_reducible refine zaI (f := 77) rfl ?_); refine za3 (some 73) rfl rfl Tryd.func77 (by kernel_rfl) rfl #[.slice A287_0 (zcL l0_1 x56_2).length c287_0, .int .i64 (wrap64 ((wrap64 ((l0_0.length : Int) + x56_2)) + 1)), .int .i64 a1, .int .i64 a2, .int .i64 (l0_0.length : Int)] rfl (by (try simp only [List.map_toArray, List.map_cons, List.map_nil]); first | done | rfl | (simp only [List.length_drop, List.length_take]; rfl)) ?_; (with_reducible refine (za5.calls k2 _ _ (zcL l0_1 x56_2) (wrap64 ((wrap64 ((l0_0.length : Int) + x56_2)) + 1)) a1 a2 (l0_0.length : Int) t288 t289 t290 t291 _ ?side1 ?side2 A64.out).mono ?_); (case side1 => repeat (first | exact (Kd.za2 HR287_0.out HB.out) | (with_reducible refine Kd.zaQ ?_ _) | (with_reducible refine Kd.zaR ?_ _) | (with_reducible refine Kd.zaZ ?_))); (case side2 => exact HC287_0.out); rintro e w76 ⟨rfl, hb⟩; refine ⟨_, rfl, ?_⟩; have n0_ := zaa.mk (zaE (g := gb275) (o := .cells #[.slice A0_0 l0_0.length c0_0, .slice (some ad287) l0_1.length c0_1] 50 (0, 0)) (by (with_reducible repeat (first | refine zaf ?_ _ | refine zai ?_ | refine zae ?_ _)); exact BK275.out) hb); have n1_ := zaa.mk (zaE (g := gb276) (o := .cells #[.int .i64 x277000_2, .int .i64 x277001_2, .int .i64 x277002_2, .int .i64 x277003_2] 25 (0, 0)) (by (with_reducible repeat (first | refine zaf ?_ _ | refine zai ?_ | refine zae ?_ _)); exact BK276.out) hb); have n2_ := zaa.mk (zat (by repeat (first | (with_reducible first | exact HB.out | apply zac | apply zab | apply zad | refine zah ?_ GE275.out | refine zah ?_ GE276.out) | exact HB.out)) hb); clear BK275; clear BK276; clear HB; have BK275 := n0_; have BK276 := n1_; have HB := n2_; clear n0_ n1_ n2_; (try clear hb); (try clear hb2); (try clear hk); (try clear hi)) | ((with_reducible refine za8 (N := 12) rfl ?_); refine za6 ?hg (N := 12) ?hd (cs := #[.int .i64 0, .int .i64 0, .int .i64 0, .int .i64 0]) (t := 25) ?hr ?_; (case hd => rfl); (case hg => rfl); (case hr => first | (go_simp; done) | (go_simp; rfl)); intro gb292 hg w77 hbox hb; have n0_ := zaa.mk (zaE (g := gb275) (o := .cells #[.slice A0_0 l0_0.length c0_0, .slice (some ad287) l0_1.length c0_1] 50 (0, 0)) (by (with_reducible repeat (first | refine zaf ?_ _ | refine zai ?_ | refine zae ?_ _)); exact BK275.out) hb); have n1_ := zaa.mk (zaE (g := gb276) (o := .cells #[.int .i64 x277000_2, .int .i64 x277001_2, .int .i64 x277002_2, .int .i64 x277003_2] 25 (0, 0)) (by (with_reducible repeat (first | refine zaf ?_ _ | refine zai ?_ | refine zae ?_ _)); exact BK276.out) hb); have n2_ := zaa.mk (zat (by repeat (first | (with_reducible first | exact HB.out | apply zac | apply zab | apply zad | refine zah ?_ GE275.out | refine zah ?_ GE276.out) | exact HB.out)) hb); have n3_ := zaa.mk (hbox); have n4_ := zaa.mk ((by rw [hg]; exact (zas (by repeat (first | (with_reducible first | exact HB.out | apply zac | apply zab | apply zad | refine zah ?_ GE275.out | refine zah ?_ GE276.out) | exact HB.out))) : w.heap.size ≤ gb292)); have n5_ := zaa.mk ((by rw [hg]; exact (zas (by repeat (first | (with_reducible first | exact HB.out | apply zac | apply zab | apply zad | refine zah ?_ GE275.out | refine zah ?_ GE276.out) | exact HB.out))) : w.heap.size ≤ gb292)); have n6_ := zaa.mk ((by rw [hg]; exact Nat.ne_of_lt (zbq (g := gb275) (o := .cells #[.slice A0_0 l0_0.length c0_0, .slice (some ad287) l0_1.length c0_1] 50 (0, 0)) (by (with_reducible repeat (first | refine zaf ?_ _ | refine zai ?_ | refine zae ?_ _)); exact BK275.out)) : gb275 ≠ gb292)); have n7_ := zaa.mk ((by rw [hg]; exact Nat.ne_of_gt (zbq (g := gb275) (o := .cells #[.slice A0_0 l0_0.length c0_0, .slice (some ad287) l0_1.length c0_1] 50 (0, 0)) (by (with_reducible repeat (first | refine zaf ?_ _ | refine zai ?_ | refine zae ?_ _)); exact BK275.out)) : gb292 ≠ gb275)); have n8_ := zaa.mk ((by rw [hg]; exact Nat.ne_of_lt (zbq (g := gb276) (o := .cells #[.int .i64 x277000_2, .int .i64 x277001_2, .int .i64 x277002_2, .int .i64 x277003_2] 25 (0, 0)) (by (with_reducible repeat (first | refine zaf ?_ _ | refine zai ?_ | refine zae ?_ _)); exact BK276.out)) : gb276 ≠ gb292)); have n9_ := zaa.mk ((by rw [hg]; exact Nat.ne_of_gt (zbq (g := gb276) (o := .cells #[.int .i64 x277000_2, .int .i64 x277001_2, .int .i64 x277002_2, .int .i64 x277003_2] 25 (0, 0)) (by (with_reducible repeat (first | refine zaf ?_ _ | refine zai ?_ | refine zae ?_ _)); exact BK276.out)) : gb292 ≠ gb276)); clear BK275; clear BK276; clear HB; have BK275 := n0_; have BK276 := n1_; have HB := n2_; have BK292 := n3_; have GW292 := n4_; have GE292 := n5_; have NB275_292 := n6_; have NB292_275 := n7_; have NB276_292 := n8_; have NB292_276 := n9_; clear n0_ n1_ n2_ n3_ n4_ n5_ n6_ n7_ n8_ n9_; clear hb hbox hg; have hnb78 := NB292_275.out; have hnc78 := NB275_292.out; have hnb79 := NB292_276.out; have hnc79 := NB276_292.out; have hcz80_0 : w77.cell? ⟨gb292, 0, none⟩ = some (.int .i64 0) := (zaj BK292.out 0).trans rfl; have hcz80_1 : w77.cell? ⟨gb292, 1, none⟩ = some (.int .i64 0) := (zaj BK292.out 1).trans rfl; have hcz80_2 : w77.cell? ⟨gb292, 2, none⟩ = some (.int .i64 0) := (zaj BK292.out 2).trans rfl; have hcz80_3 : w77.cell? ⟨gb292, 3, none⟩ = some (.int .i64 0) := (zaj BK292.out 3).trans rfl; have hfz80_0 := zak BK292.out 0; have hfz80_1 := zak BK292.out 1; have hfz80_2 := zak BK292.out 2; have hfz80_3 := zak BK292.out 3))
           go_roundg k2
           case measure => have := HK1.out; have := HK2.out; omega
           case rel => exact ⟨(wrap64 (x56_2 + 1)), (x277000_2), (x277001_2), (x277002_2), (x277003_2), (by first | rfl | (simp; done) | (simp [*]; done)), H', ⟨by have := HK1.out; have := HK2.out; omega⟩, ⟨by (with_reducible repeat (first | refine zaf ?_ _ | refine zai ?_ | refine zae ?_ _)); refine zbo ?_ NB275_292.out _; (with_reducible repeat (first | refine zaf ?_ _ | refine zai ?_ | refine zae ?_ _)); refine zbo ?_ NB275_292.out _; (with_reducible repeat (first | refine zaf ?_ _ | refine zai ?_ | refine zae ?_ _)); refine zbo ?_ NB275_292.out _; (with_reducible repeat (first | refine zaf ?_ _ | refine zai ?_ | refine zae ?_ _)); refine zbo ?_ NB275_292.out _; (with_reducible repeat (first | refine zaf ?_ _ | refine zai ?_ | refine zae ?_ _)); exact BK275.out⟩, ⟨by (with_reducible repeat (first | refine zaf ?_ _ | refine zai ?_ | refine zae ?_ _)); refine zbo ?_ NB276_292.out _; (with_reducible repeat (first | refine zaf ?_ _ | refine zai ?_ | refine zae ?_ _)); refine zbo ?_ NB276_292.out _; (with_reducible repeat (first | refine zaf ?_ _ | refine zai ?_ | refine zae ?_ _)); refine zbo ?_ NB276_292.out _; (with_reducible repeat (first | refine zaf ?_ _ | refine zai ?_ | refine zae ?_ _)); refine zbo ?_ NB276_292.out _; (with_reducible repeat (first | refine zaf ?_ _ | refine zai ?_ | refine zae ?_ _)); exact BK276.out⟩, ⟨by repeat (first | (with_reducible first | exact HB.out | apply zac | apply zab | apply zad | refine zah ?_ GE275.out | refine zah ?_ GE276.out | refine zah ?_ GE292.out) | exact HB.out)⟩⟩
         ·rw [if_neg c63] at H
          exact absurd H (by simp)
        ·rw [if_neg c62] at H
         exact absurd H (by simp)
       ·rw [if_neg c61] at H
        have c61b0 : decide (x56_2 < (l0_1.length : Int)) = false := decide_eq_false c61
        clear c61
        simp only [Option.some.injEq, Prod.mk.injEq] at H
        obtain ⟨rfl, rfl, rfl, rfl⟩ := H
        have hnb81 := NB276_275.out
        have hnc81 := NB275_276.out
        have hcz82_0 : wr.cell? ⟨gb276, 0, none⟩ = some (.int .i64 x277000_2) := (zaj BK276.out 0).trans rfl
        have hcz82_1 : wr.cell? ⟨gb276, 1, none⟩ = some (.int .i64 x277001_2) := (zaj BK276.out 1).trans rfl
        have hcz82_2 : wr.cell? ⟨gb276, 2, none⟩ = some (.int .i64 x277002_2) := (zaj BK276.out 2).trans rfl
        have hcz82_3 : wr.cell? ⟨gb276, 3, none⟩ = some (.int .i64 x277003_2) := (zaj BK276.out 3).trans rfl
        have hfz82_0 := zak BK276.out 0
        have hfz82_1 := zak BK276.out 1
        have hfz82_2 := zak BK276.out 2
        have hfz82_3 := zak BK276.out 3
        go_wp2
        refine bodyPost_ret (results_cell_row rfl _ _ gb276 25 #[.int .i64 0, .int .i64 0, .int .i64 0, .int .i64 0] (0, 0) _ rfl (by (with_reducible repeat (first | refine zaf ?_ _ | refine zai ?_ | refine zae ?_ _)); refine zaT (cs := #[.int .i64 0, .int .i64 0, .int .i64 0, .int .i64 x277003_2]) ?_ 3 _ rfl; (with_reducible repeat (first | refine zaf ?_ _ | refine zai ?_ | refine zae ?_ _)); refine zaT (cs := #[.int .i64 0, .int .i64 0, .int .i64 x277002_2, .int .i64 x277003_2]) ?_ 2 _ rfl; (with_reducible repeat (first | refine zaf ?_ _ | refine zai ?_ | refine zae ?_ _)); refine zaT (cs := #[.int .i64 0, .int .i64 x277001_2, .int .i64 x277002_2, .int .i64 x277003_2]) ?_ 1 _ rfl; (with_reducible repeat (first | refine zaf ?_ _ | refine zai ?_ | refine zae ?_ _)); refine zaT (cs := #[.int .i64 x277000_2, .int .i64 x277001_2, .int .i64 x277002_2, .int .i64 x277003_2]) ?_ 0 _ rfl; (with_reducible repeat (first | refine zaf ?_ _ | refine zai ?_ | refine zae ?_ _)); exact BK276.out) Tryd.underlying25 rfl (by kernel_rfl)) rfl ?_
        exact ⟨by first | rfl | (simp [zam, zan] <;> rfl) | (simp [*, zam, zan] <;> rfl), by repeat (first | (with_reducible first | exact HB.out | apply zac | apply zab | apply zad | refine zah ?_ GE275.out | refine zah ?_ GE276.out) | exact HB.out)⟩
 ·replace c5 := Bool.eq_false_iff.mpr c5
  subst c5
  have H1 : (some (2, 0, 0, 0)) = some (r1, r2, r3, r4) := by rw [if_neg (show ¬ (false = true) by decide)] at H; exact H
  clear H
  have H := H1
  clear H1
  simp only [Option.some.injEq, Prod.mk.injEq] at H
  obtain ⟨rfl, rfl, rfl, rfl⟩ := H
  go_enter Tryd.func26, Tryd.ntmps26
  go_wp2_with (first | ((with_reducible refine za8 (N := 3) rfl ?_); refine za6 ?hg (N := 3) ?hd (cs := #[.slice A0_0 l0_0.length c0_0, .slice A0_1 l0_1.length c0_1]) (t := 50) ?hr ?_; (case hd => rfl); (case hg => rfl); (case hr => first | (go_simp; done) | (go_simp; rfl)); intro gb275 hg w83 hbox hb; have n0_ := zaa.mk (zat (by repeat (first | (with_reducible first | exact HB.out | apply zac | apply zab | apply zad) | exact HB.out)) hb); have n1_ := zaa.mk (hbox); have n2_ := zaa.mk ((by rw [hg]; exact (zas (by repeat (first | (with_reducible first | exact HB.out | apply zac | apply zab | apply zad) | exact HB.out))) : w.heap.size ≤ gb275)); have n3_ := zaa.mk ((by rw [hg]; exact (zas (by repeat (first | (with_reducible first | exact HB.out | apply zac | apply zab | apply zad) | exact HB.out))) : w.heap.size ≤ gb275)); clear HB; have HB := n0_; have BK275 := n1_; have GW275 := n2_; have GE275 := n3_; clear n0_ n1_ n2_ n3_; clear hb hbox hg) | ((with_reducible refine za8 (N := 6) rfl ?_); refine za6 ?hg (N := 6) ?hd (cs := #[.int .i64 0, .int .i64 0, .int .i64 0, .int .i64 0]) (t := 25) ?hr ?_; (case hd => rfl); (case hg => rfl); (case hr => first | (go_simp; done) | (go_simp; rfl)); intro gb276 hg w84 hbox hb; have n0_ := zaa.mk (zaE (g := gb275) (o := .cells #[.slice A0_0 l0_0.length c0_0, .slice A0_1 l0_1.length c0_1] 50 (0, 0)) (by (with_reducible repeat (first | refine zaf ?_ _ | refine zai ?_ | refine zae ?_ _)); exact BK275.out) hb); have n1_ := zaa.mk (zat (by repeat (first | (with_reducible first | exact HB.out | apply zac | apply zab | apply zad | refine zah ?_ GE275.out) | exact HB.out)) hb); have n2_ := zaa.mk (hbox); have n3_ := zaa.mk ((by rw [hg]; exact (zas (by repeat (first | (with_reducible first | exact HB.out | apply zac | apply zab | apply zad | refine zah ?_ GE275.out) | exact HB.out))) : w.heap.size ≤ gb276)); have n4_ := zaa.mk ((by rw [hg]; exact (zas (by repeat (first | (with_reducible first | exact HB.out | apply zac | apply zab | apply zad | refine zah ?_ GE275.out) | exact HB.out))) : w.heap.size ≤ gb276)); have n5_ := zaa.mk ((by rw [hg]; exact Nat.ne_of_lt (zbq (g := gb275) (o := .cells #[.slice A0_0 l0_0.length c0_0, .slice A0_1 l0_1.length c0_1] 50 (0, 0)) (by (with_reducible repeat (first | refine zaf ?_ _ | refine zai ?_ | refine zae ?_ _)); exact BK275.out)) : gb275 ≠ gb276)); have n6_ := zaa.mk ((by rw [hg]; exact Nat.ne_of_gt (zbq (g := gb275) (o := .cells #[.slice A0_0 l0_0.length c0_0, .slice A0_1 l0_1.length c0_1] 50 (0, 0)) (by (with_reducible repeat (first | refine zaf ?_ _ | refine zai ?_ | refine zae ?_ _)); exact BK275.out)) : gb276 ≠ gb275)); clear BK275; clear HB; have BK275 := n0_; have HB := n1_; have BK276 := n2_; have GW276 := n3_; have GE276 := n4_; have NB275_276 := n5_; have NB276_275 := n6_; clear n0_ n1_ n2_ n3_ n4_ n5_ n6_; clear hb hbox hg; have hnb85 := NB275_276.out; have hnc85 := NB276_275.out; have hcz86_0 : w84.cell? ⟨gb275, 0, none⟩ = some (.slice A0_0 l0_0.length c0_0) := (zaj BK275.out 0).trans rfl; have hcz86_1 : w84.cell? ⟨gb275, 1, none⟩ = some (.slice A0_1 l0_1.length c0_1) := (zaj BK275.out 1).trans rfl; have hfz86_0 := zak BK275.out 0; have hfz86_1 := zak BK275.out 1) | ((with_reducible refine zaI (f := 75) rfl ?_); refine za3 (some 16) rfl rfl Tryd.func75 (by kernel_rfl) rfl #[.agg #[.slice A0_0 l0_0.length c0_0, .slice A0_1 l0_1.length c0_1], .int .i64 a1, .int .i64 a2] rfl (by (try simp only [List.map_toArray, List.map_cons, List.map_nil]); first | done | rfl | (simp only [List.length_drop, List.length_take]; rfl)) ?_; (with_reducible refine (zbD.calls k _ _ l0_0 _ _ l0_1 a1 a2 false _ ?side1 ?side2 ?side3 ?side4 A4.out).mono ?_); (case side1 => repeat (first | exact (Kd.za2 HR0_0.out HB.out) | (with_reducible refine Kd.zaQ ?_ _) | (with_reducible refine Kd.zaR ?_ _) | (with_reducible refine Kd.zaZ ?_))); (case side2 => exact HC0_0.out); (case side3 => repeat (first | exact (Kd.za2 HR0_1.out HB.out) | (with_reducible refine Kd.zaQ ?_ _) | (with_reducible refine Kd.zaR ?_ _) | (with_reducible refine Kd.zaZ ?_))); (case side4 => exact HC0_1.out); rintro e w87 ⟨rfl, hb⟩; refine ⟨_, rfl, ?_⟩; have n0_ := zaa.mk (zaE (g := gb275) (o := .cells #[.slice A0_0 l0_0.length c0_0, .slice A0_1 l0_1.length c0_1] 50 (0, 0)) (by (with_reducible repeat (first | refine zaf ?_ _ | refine zai ?_ | refine zae ?_ _)); exact BK275.out) hb); have n1_ := zaa.mk (zaE (g := gb276) (o := .cells #[.int .i64 0, .int .i64 0, .int .i64 0, .int .i64 0] 25 (0, 0)) (by (with_reducible repeat (first | refine zaf ?_ _ | refine zai ?_ | refine zae ?_ _)); exact BK276.out) hb); have n2_ := zaa.mk (zat (by repeat (first | (with_reducible first | exact HB.out | apply zac | apply zab | apply zad | refine zah ?_ GE275.out | refine zah ?_ GE276.out) | exact HB.out)) hb); clear BK275; clear BK276; clear HB; have BK275 := n0_; have BK276 := n1_; have HB := n2_; clear n0_ n1_ n2_; (try clear hb); (try clear hb2); (try clear hk); (try clear hi); have hcz88_0 : w87.cell? ⟨gb276, 0, none⟩ = some (.int .i64 0) := (zaj BK276.out 0).trans rfl; have hcz88_1 : w87.cell? ⟨gb276, 1, none⟩ = some (.int .i64 0) := (zaj BK276.out 1).trans rfl; have hcz88_2 : w87.cell? ⟨gb276, 2, none⟩ = some (.int .i64 0) := (zaj BK276.out 2).trans rfl; have hcz88_3 : w87.cell? ⟨gb276, 3, none⟩ = some (.int .i64 0) := (zaj BK276.out 3).trans rfl; have hfz88_0 := zak BK276.out 0; have hfz88_1 := zak BK276.out 1; have hfz88_2 := zak BK276.out 2; have hfz88_3 := zak BK276.out 3))
  refine bodyPost_ret (results_cell_row rfl _ _ gb276 25 #[.int .i64 2, .int .i64 0, .int .i64 0, .int .i64 0] (0, 0) _ rfl (by (with_reducible repeat (first | refine zaf ?_ _ | refine zai ?_ | refine zae ?_ _)); refine zaT (cs := #[.int .i64 2, .int .i64 0, .int .i64 0, .int .i64 0]) ?_ 3 _ rfl; (with_reducible repeat (first | refine zaf ?_ _ | refine zai ?_ | refine zae ?_ _)); refine zaT (cs := #[.int .i64 2, .int .i64 0, .int .i64 0, .int .i64 0]) ?_ 2 _ rfl; (with_reducible repeat (first | refine zaf ?_ _ | refine zai ?_ | refine zae ?_ _)); refine zaT (cs := #[.int .i64 2, .int .i64 0, .int .i64 0, .int .i64 0]) ?_ 1 _ rfl; (with_reducible repeat (first | refine zaf ?_ _ | refine zai ?_ | refine zae ?_ _)); refine zaT (cs := #[.int .i64 0, .int .i64 0, .int .i64 0, .int .i64 0]) ?_ 0 _ rfl; (with_reducible repeat (first | refine zaf ?_ _ | refine zai ?_ | refine zae ?_ _)); exact BK276.out) Tryd.underlying25 rfl (by kernel_rfl)) rfl ?_
  exact ⟨by first | rfl | (simp [zam, zan] <;> rfl) | (simp [*, zam, zan] <;> rfl), by repeat (first | (with_reducible first | exact HB.out | apply zac | apply zab | apply zad | refine zah ?_ GE275.out | refine zah ?_ GE276.out) | exact HB.out)⟩
end Go.Proofs.YtbicjgaadknmfaaDoor.P
end
section
namespace Go.Proofs.YtbicjgaadknmfaaDoor.P
open Go.RowKit Go.Proofs.YtbicjgaadknmfaaDoorW.PrintWords Go.Proofs.YtbicjgaadknmfaaDoorW.PrintLast Go.Proofs.YtbicjgaadknmfaaDoorW.PrintMore
attribute [local go_sem] zco zcn zce zcf zbU zbT zb5 zb3
set_option linter.unusedVariables false
set_option linter.unusedSimpArgs false
def zaF.l0 : Nat → List (S62) → List (S60) → Int → Option ((List (S60)))
 | 0, _, _, _ => none
 | k + 1, x0, x3, x4 => if x4 < (x0.length : Int) then (if 0 ≤ x4 then (if x3.length < 3518437208883 then (zaF.l0 k x0 (x3 ++ [(⟨(zbf x0 x4).f0, (zbf x0 x4).f1, (zbf x0 x4).f2⟩ : S60)]) (wrap64 (x4 + 1))) else (none)) else (none)) else (some x3)
def zaF.f (k : Nat) (l0 : List (S62)) : Option ((List (S60))) := zaF.l0 k l0 ([] : List (S60)) 0
theorem zaF.zaX : ∀ k, (∀ y0 y1 y2, LeO (zaF.l0 k y0 y1 y2) (zaF.l0 (k + 1) y0 y1 y2))
 | 0 => fun _ _ _ r h => by simp [zaF.l0] at h
 | k + 1 => by
  have ih0 := zaF.zaX k
  ·intro y0 y1 y2
   unfold zaF.l0
   repeat' first
   | (with_reducible exact ih0 _ _ _)
   | (with_reducible exact LeO.refl _)
   | (with_reducible exact LeO.none _)
   | (with_reducible refine LeO.ite ?_ ?_)
   | (with_reducible refine LeO.bind ?_ (fun _ => ?_))
   | exact ih0 _ _ _
   | exact LeO.none _
   | refine LeO.ite ?_ ?_
   | refine LeO.bind ?_ (fun _ => ?_)
theorem zaF.mono : ∀ a0 k, LeO (zaF.f k a0) (zaF.f (k + 1) a0) := by
 intro a0 k
 have ih0 := zaF.zaX k
 unfold zaF.f
 repeat' first
   | (with_reducible exact ih0 _ _ _)
   | (with_reducible exact LeO.refl _)
   | (with_reducible exact LeO.none _)
   | (with_reducible refine LeO.ite ?_ ?_)
   | (with_reducible refine LeO.bind ?_ (fun _ => ?_))
   | exact ih0 _ _ _
   | exact LeO.none _
   | refine LeO.ite ?_ ?_
   | refine LeO.bind ?_ (fun _ => ?_)
def zaF.T5 : Bool × List (List Nat × List Nat) := (true, [([], []), ([], []), ([], []), ([1, 2], [1, 2]), ([3], [3]), ([4], [4]), ([], []), ([], []), ([6, 7], [6, 7]), ([8], [8]), ([9], [9]), ([], []), ([], []), ([11, 12], [11, 12]), ([13], [13]), ([14], [14]), ([5, 10, 15], [5, 10, 15]), ([16], [16]), ([0, 17], [0, 17]), ([18, 18, 0, 1, 2, 3, 4, 5, 6, 7, 8, 9, 10, 11, 12, 13, 14, 15, 16, 17, 18], [0, 18])])
def zaF.B5 : List Nat := [0, 0, 0, 6, 14, 30, 0, 0, 192, 448, 960, 0, 0, 6144, 14336, 30720, 65534, 131070, 262143, 524287]
theorem zaF.tab5 : rtab .any (opsOf Tryd.f30 5) = zaF.T5 := by kernel_rfl
theorem zaF.zfG : zcN zaF.T5.2 zaF.B5 = true := by kernel_rfl
set_option maxHeartbeats 8000000 in
set_option maxRecDepth 100000 in
theorem zaF.calls (k : Nat) (P0_ : Nat → Prop) (A0 : Option Addr) (c0 : Nat) (l0 : List (S62)) (r : List (S60)) (w : World) (hs0 : Kd.V k62 62 w w.heap.size (fun k_ => P0_ k_) (.slice A0 l0.length c0) l0) (h : zaF.f k l0 = some r) :
  Calls Tryd.prog 30 #[.slice A0 l0.length c0] w fun e w' => ∃ v0_ : Value, e = .returned (v0_) ∧ Kd.N k60 60 w' w.heap.size (fun k_ => (P0_ k_ ∨ w.heap.size ≤ k_)) v0_ r ∧ Below w.heap.size w w' := by
 have hu60 := Tryd.underlying60
 have HO0 := zaa.mk (show Kd.V k62 62 w w.heap.size (fun k_ => (P0_ k_ ∨ w.heap.size ≤ k_)) (.slice A0 l0.length c0) l0 from Kd.zbB hs0 (fun k_ hk => .inl hk))
 have HB := zaa.mk (Below.refl w.heap.size w)
 have H : (zaF.l0 k l0 ([] : List (S60)) 0) = some r := h
 clear h
 have H' := zaa.mk H
 clear H
 go_enter Tryd.func30, Tryd.ntmps30
 go_wp2
 go_loopg [3, 4] k (fun kq v3 v4 w' => ∃ (x3_1 : List (S60)) (x4_1 : Int), v4 = .int .i64 x4_1 ∧ zaa (zaF.l0 kq l0 x3_1 x4_1 = some r) ∧ zaa (kq ≤ k) ∧ zaa (Kd.V k62 62 w' w.heap.size (fun k_ => (P0_ k_ ∨ w.heap.size ≤ k_) ∧ some k_ ≠ (v3 : Value).ownBlock) (.slice A0 l0.length c0) l0) ∧ zaa (Kd.N k60 60 w' w.heap.size (fun k_ => (P0_ k_ ∨ w.heap.size ≤ k_)) v3 x3_1) ∧ zaa (Below w.heap.size w w'))
 case atStart => exact ⟨(([] : List (S60))), (0), (by first | rfl | (simp; done) | (simp [*]; done)), H', ⟨Nat.le_refl _⟩, ⟨by (with_reducible repeat (first | apply Kd.zbd | apply Kd.zbc | apply Kd.zbg)); exact Kd.zbB HO0.out (fun _ hk => ⟨hk, (by simp [Value.ownBlock])⟩)⟩, ⟨by first | exact Kd.zei _ _ _ _ _ | exact Kd.zel _ _ _ _ _ | exact Kd.zej _ _ _ _ _ | exact Kd.zep _ _ _ _ _ | exact Kd.zdd _ _ _ _ _⟩, ⟨by repeat (first | (with_reducible first | exact HB.out | apply zac | apply zab | apply zad) | exact HB.out)⟩⟩
 case round =>
  clear H'
  obtain ⟨x3_1, x4_1, rfl, HA, HK1, HO_0, HO_3, HB⟩ := hrel
  cases gk with
  | zero => exact absurd HA.out (by simp [zaF.l0])
  | succ k1 =>
   have H := HA.out
   clear HA
   simp only [zaF.l0] at H
   by_cases c2 : x4_1 < (l0.length : Int)
   ·rw [if_pos c2] at H
    have c2b0 : decide (x4_1 < (l0.length : Int)) = true := decide_eq_true c2
    clear c2
    by_cases c3 : 0 ≤ x4_1
    ·rw [if_pos c3] at H
     have c3b0 : decide (0 ≤ x4_1) = true := decide_eq_true c3
     clear c3
     by_cases c4 : x3_1.length < 3518437208883
     ·rw [if_pos c4] at H
      have LMc4 := zaa.mk c4
      clear c4
      obtain ⟨y296, hy296⟩ : ∃ y_ : List (S60), y_ = (x3_1 ++ [(⟨(zbf l0 x4_1).f0, (zbf l0 x4_1).f1, (zbf l0 x4_1).f2⟩ : S60)]) := ⟨_, rfl⟩
      replace H : (zaF.l0 k1 l0 y296 (wrap64 (x4_1 + 1))) = some r := by first | (rw [hy296]; with_reducible exact H) | (have H2_ := (Option.bind_some _ _).symm.trans H; rw [hy296]; with_reducible exact H2_) | (have H2_ := (Option.bind_some _ _).symm.trans H; with_reducible exact H2_) | with_reducible exact H | (rw [hy296]; exact H) | exact H
      have Ny296 := zaa.mk hy296
      clear hy296
      have H' := zaa.mk H
      clear H
      try go_wp2
      have n0_ := zaa.mk (Kd.zbg HO_0.out)
      have n1_ := zaa.mk (Kd.zbn HO_3.out)
      have n2_ := zaa.mk (zad HB.out)
      clear HO_0
      clear HO_3
      clear HB
      have HO_0 := n0_
      have HO_3 := n1_
      have HB := n2_
      clear n0_ n1_ n2_
      have p293 : 0 ≤ (x4_1 : Int) := of_decide_eq_true (by first | (with_reducible assumption) | assumption)
      have q293 : x4_1 < (l0.length : Int) := of_decide_eq_true (by first | (with_reducible assumption) | assumption)
      obtain ⟨ad293, A293_2, c293_2, e293, hx293_0, hx293_1, hx293_2, hl293_2, hi293_2⟩ := zdi (Kd.zb8 HO_0.out).2.2 x4_1 p293 q293
      cases e293
      obtain ⟨ce293, hce293, hMe293, hcc293⟩ := Kd.zeD HO_0.out z62 x4_1 p293 (by first | exact q293 | exact of_decide_eq_true (by first | (with_reducible assumption) | assumption) | (have e_ := (Kd.zb8 HO_0.out).1; omega))
      obtain ⟨ua293_2, uc293_2, rfl, ul293_2, ge293_2⟩ := zeW hMe293
      have hv293_2 := hcc293 2 _ rfl
      rw [zb0 _ _ 2 (by omega)] at hv293_2
      replace hv293_2 := Option.some.inj (hv293_2.symm.trans hx293_2)
      injection hv293_2 with hva_ hvn_ hvc_
      rw [hva_] at ge293_2
      rw [hvc_] at ul293_2
      have HL293_2 := zaa.mk (show Kd.V (Kd.int .u32) 101 _ w.heap.size _ _ ((zbf l0 x4_1).f2) from Kd.V_mk ul293_2 ge293_2)
      clear hva_ hvn_ hvc_ ge293_2 ul293_2
      clear hcc293 hce293
      have HR293_2 := zaa.mk hi293_2
      have HC293_2 := zaa.mk hl293_2
      clear hi293_2 hl293_2
      replace p293 := eq_true p293
      replace q293 := eq_true q293
      have p294 : 0 ≤ (x4_1 : Int) := of_decide_eq_true (by first | (with_reducible assumption) | assumption)
      have q294 : x4_1 < (l0.length : Int) := of_decide_eq_true (by first | (with_reducible assumption) | assumption)
      obtain ⟨ad294, A294_2, c294_2, e294, hx294_0, hx294_1, hx294_2, hl294_2, hi294_2⟩ := zdi (Kd.zb8 HO_0.out).2.2 x4_1 p294 q294
      obtain rfl : ad293 = ad294 := (by injection e294)
      obtain ⟨ce294, hce294, hMe294, hcc294⟩ := Kd.zeD HO_0.out z62 x4_1 p294 (by first | exact q294 | exact of_decide_eq_true (by first | (with_reducible assumption) | assumption) | (have e_ := (Kd.zb8 HO_0.out).1; omega))
      obtain ⟨ua294_2, uc294_2, rfl, ul294_2, ge294_2⟩ := zeW hMe294
      have hv294_2 := hcc294 2 _ rfl
      rw [zb0 _ _ 2 (by omega)] at hv294_2
      replace hv294_2 := Option.some.inj (hv294_2.symm.trans hx294_2)
      injection hv294_2 with hva_ hvn_ hvc_
      rw [hva_] at ge294_2
      rw [hvc_] at ul294_2
      have HL294_2 := zaa.mk (show Kd.V (Kd.int .u32) 101 _ w.heap.size _ _ ((zbf l0 x4_1).f2) from Kd.V_mk ul294_2 ge294_2)
      clear hva_ hvn_ hvc_ ge294_2 ul294_2
      clear hcc294 hce294
      have HR294_2 := zaa.mk hi294_2
      have HC294_2 := zaa.mk hl294_2
      clear hi294_2 hl294_2
      replace p294 := eq_true p294
      replace q294 := eq_true q294
      have ea_ := Option.some.inj (hx293_2.symm.trans hx294_2)
      injection ea_ with ea_ en_ ec_
      subst ea_
      subst ec_
      clear en_
      have p295 : 0 ≤ (x4_1 : Int) := of_decide_eq_true (by first | (with_reducible assumption) | assumption)
      have q295 : x4_1 < (l0.length : Int) := of_decide_eq_true (by first | (with_reducible assumption) | assumption)
      obtain ⟨ad295, A295_2, c295_2, e295, hx295_0, hx295_1, hx295_2, hl295_2, hi295_2⟩ := zdi (Kd.zb8 HO_0.out).2.2 x4_1 p295 q295
      obtain rfl : ad293 = ad295 := (by injection e295)
      obtain ⟨ce295, hce295, hMe295, hcc295⟩ := Kd.zeD HO_0.out z62 x4_1 p295 (by first | exact q295 | exact of_decide_eq_true (by first | (with_reducible assumption) | assumption) | (have e_ := (Kd.zb8 HO_0.out).1; omega))
      obtain ⟨ua295_2, uc295_2, rfl, ul295_2, ge295_2⟩ := zeW hMe295
      have hv295_2 := hcc295 2 _ rfl
      rw [zb0 _ _ 2 (by omega)] at hv295_2
      replace hv295_2 := Option.some.inj (hv295_2.symm.trans hx295_2)
      injection hv295_2 with hva_ hvn_ hvc_
      rw [hva_] at ge295_2
      rw [hvc_] at ul295_2
      have HL295_2 := zaa.mk (show Kd.V (Kd.int .u32) 101 _ w.heap.size _ _ ((zbf l0 x4_1).f2) from Kd.V_mk ul295_2 ge295_2)
      clear hva_ hvn_ hvc_ ge295_2 ul295_2
      clear hcc295 hce295
      have HR295_2 := zaa.mk hi295_2
      have HC295_2 := zaa.mk hl295_2
      clear hi295_2 hl295_2
      replace p295 := eq_true p295
      replace q295 := eq_true q295
      have ea_ := Option.some.inj (hx293_2.symm.trans hx295_2)
      injection ea_ with ea_ en_ ec_
      subst ea_
      subst ec_
      clear en_
      refine zc7 (n := 20) (S := fun w' => w'.cell? (ad293.add ((x4_1).toNat * 3)) = some (.int .i64 ((zbf l0 x4_1).f0)) ∧ w'.cell? ⟨(ad293.add ((x4_1).toNat * 3)).block, (ad293.add ((x4_1).toNat * 3)).off + 1, none⟩ = some (.int .i64 ((zbf l0 x4_1).f1)) ∧ w'.cell? ⟨(ad293.add ((x4_1).toNat * 3)).block, (ad293.add ((x4_1).toNat * 3)).off + 2, none⟩ = some (.slice A293_2 ((zbf l0 x4_1).f2).length c293_2) ∧ w'.cell? (ad293.add ((x4_1).toNat * 3)) = some (.int .i64 ((zbf l0 x4_1).f0)) ∧ w'.cell? ⟨(ad293.add ((x4_1).toNat * 3)).block, (ad293.add ((x4_1).toNat * 3)).off + 1, none⟩ = some (.int .i64 ((zbf l0 x4_1).f1)) ∧ w'.cell? ⟨(ad293.add ((x4_1).toNat * 3)).block, (ad293.add ((x4_1).toNat * 3)).off + 2, none⟩ = some (.slice A293_2 ((zbf l0 x4_1).f2).length c293_2) ∧ w'.cell? (ad293.add ((x4_1).toNat * 3)) = some (.int .i64 ((zbf l0 x4_1).f0)) ∧ w'.cell? ⟨(ad293.add ((x4_1).toNat * 3)).block, (ad293.add ((x4_1).toNat * 3)).off + 1, none⟩ = some (.int .i64 ((zbf l0 x4_1).f1)) ∧ w'.cell? ⟨(ad293.add ((x4_1).toNat * 3)).block, (ad293.add ((x4_1).toNat * 3)).off + 2, none⟩ = some (.slice A293_2 ((zbf l0 x4_1).f2).length c293_2)) (ds := [17, 18]) #[false, false, false, false, false, false, false, false, false, false, false, false, false, false, false, false, false, false, false, false] (by kernel_rfl) rfl rfl ⟨hx293_0, hx293_1, hx293_2, hx294_0, hx294_1, hx294_2, hx295_0, hx295_1, hx295_2⟩ (fun hHeld => ?_); refine zcp zaF.tab5 zaF.zfG (fun HT_ HW_ => ?_)
      generalize wr.drew = w5 at HO_0 HO_3 HB HL293_2 HL294_2 HL295_2 HR293_2 HR294_2 HR295_2 hx293_0 hx293_1 hx293_2 hx294_0 hx294_1 hx294_2 hx295_0 hx295_1 hx295_2 hHeld ⊢
      refine zaO (i := 0) (N := some 11) (v := ?_) (a' := ?_) #[true, false, false, false, false, false, false, false, false, false, false, false, false, false, false, false, false, false, false, false] rfl rfl (zaK HT_.out (by kernel_rfl)) (fun _ _ _ h => h) (Or.inl ⟨by rfl, ?_⟩) ?_ ?_
      rotate_left
      ·intro w'
       go_simp
       with_reducible rfl
      rotate_left
      ·simp only [Act.put, List.setIfInBounds_toArray, List.set_cons_zero, List.set_cons_succ, zax, zay]
       rfl
      refine zaO (i := 1) (N := some 12) (v := ?_) (a' := ?_) #[true, true, false, false, false, false, false, false, false, false, false, false, false, false, false, false, false, false, false, false] rfl rfl (zaK HT_.out (by kernel_rfl)) (fun _ _ _ h => h) (Or.inl ⟨by rfl, ?_⟩) ?_ ?_
      rotate_left
      ·intro w'
       go_simp
       with_reducible rfl
      rotate_left
      ·simp only [Act.put, List.setIfInBounds_toArray, List.set_cons_zero, List.set_cons_succ, zax, zay]
       rfl
      refine zaO (i := 2) (N := some 13) (v := ?_) (a' := ?_) #[true, true, true, false, false, false, false, false, false, false, false, false, false, false, false, false, false, false, false, false] rfl rfl (zaK HT_.out (by kernel_rfl)) (fun _ _ _ h => h) (Or.inl ⟨by rfl, ?_⟩) ?_ ?_
      rotate_left
      ·intro w'
       go_simp
       with_reducible rfl
      rotate_left
      ·simp only [Act.put, List.setIfInBounds_toArray, List.set_cons_zero, List.set_cons_succ, zax, zay]
       rfl
      refine zaO (i := 3) (N := some 14) (v := ?_) (a' := ?_) #[true, true, true, true, false, false, false, false, false, false, false, false, false, false, false, false, false, false, false, false] rfl rfl (zaK HT_.out (by kernel_rfl)) (fun _ _ _ h => h) (Or.inl ⟨by rfl, ?_⟩) ?_ ?_
      rotate_left
      ·intro w'
       go_simp
       with_reducible rfl
      rotate_left
      ·simp only [Act.put, List.setIfInBounds_toArray, List.set_cons_zero, List.set_cons_succ, zax, zay]
       rfl
      refine zaO (i := 4) (N := some 15) (v := ?_) (a' := ?_) #[true, true, true, true, true, false, false, false, false, false, false, false, false, false, false, false, false, false, false, false] rfl rfl (zaK HT_.out (by kernel_rfl)) (fun _ _ _ h => h) (Or.inl ⟨by rfl, ?_⟩) ?_ ?_
      rotate_left
      ·intro w'
       go_simp
       with_reducible rfl
      rotate_left
      ·simp only [Act.put, List.setIfInBounds_toArray, List.set_cons_zero, List.set_cons_succ, zax, zay]
       rfl
      refine zaO (i := 6) (N := some 17) (v := ?_) (a' := ?_) #[true, true, true, true, true, false, true, false, false, false, false, false, false, false, false, false, false, false, false, false] rfl rfl (zaK HT_.out (by kernel_rfl)) (fun _ _ _ h => h) (Or.inl ⟨by rfl, ?_⟩) ?_ ?_
      rotate_left
      ·intro w'
       go_simp
       with_reducible rfl
      rotate_left
      ·simp only [Act.put, List.setIfInBounds_toArray, List.set_cons_zero, List.set_cons_succ, zax, zay]
       rfl
      refine zaO (i := 7) (N := some 18) (v := ?_) (a' := ?_) #[true, true, true, true, true, false, true, true, false, false, false, false, false, false, false, false, false, false, false, false] rfl rfl (zaK HT_.out (by kernel_rfl)) (fun _ _ _ h => h) (Or.inl ⟨by rfl, ?_⟩) ?_ ?_
      rotate_left
      ·intro w'
       go_simp
       with_reducible rfl
      rotate_left
      ·simp only [Act.put, List.setIfInBounds_toArray, List.set_cons_zero, List.set_cons_succ, zax, zay]
       rfl
      refine zaO (i := 8) (N := some 19) (v := ?_) (a' := ?_) #[true, true, true, true, true, false, true, true, true, false, false, false, false, false, false, false, false, false, false, false] rfl rfl (zaK HT_.out (by kernel_rfl)) (fun _ _ _ h => h) (Or.inl ⟨by rfl, ?_⟩) ?_ ?_
      rotate_left
      ·intro w'
       go_simp
       with_reducible rfl
      rotate_left
      ·simp only [Act.put, List.setIfInBounds_toArray, List.set_cons_zero, List.set_cons_succ, zax, zay]
       rfl
      refine zaO (i := 9) (N := some 20) (v := ?_) (a' := ?_) #[true, true, true, true, true, false, true, true, true, true, false, false, false, false, false, false, false, false, false, false] rfl rfl (zaK HT_.out (by kernel_rfl)) (fun _ _ _ h => h) (Or.inl ⟨by rfl, ?_⟩) ?_ ?_
      rotate_left
      ·intro w'
       go_simp
       with_reducible rfl
      rotate_left
      ·simp only [Act.put, List.setIfInBounds_toArray, List.set_cons_zero, List.set_cons_succ, zax, zay]
       rfl
      refine zaO (i := 11) (N := some 22) (v := ?_) (a' := ?_) #[true, true, true, true, true, false, true, true, true, true, false, true, false, false, false, false, false, false, false, false] rfl rfl (zaK HT_.out (by kernel_rfl)) (fun _ _ _ h => h) (Or.inl ⟨by rfl, ?_⟩) ?_ ?_
      rotate_left
      ·intro w'
       go_simp
       with_reducible rfl
      rotate_left
      ·simp only [Act.put, List.setIfInBounds_toArray, List.set_cons_zero, List.set_cons_succ, zax, zay]
       rfl
      refine zaO (i := 12) (N := some 23) (v := ?_) (a' := ?_) #[true, true, true, true, true, false, true, true, true, true, false, true, true, false, false, false, false, false, false, false] rfl rfl (zaK HT_.out (by kernel_rfl)) (fun _ _ _ h => h) (Or.inl ⟨by rfl, ?_⟩) ?_ ?_
      rotate_left
      ·intro w'
       go_simp
       with_reducible rfl
      rotate_left
      ·simp only [Act.put, List.setIfInBounds_toArray, List.set_cons_zero, List.set_cons_succ, zax, zay]
       rfl
      refine zaO (i := 13) (N := some 24) (v := ?_) (a' := ?_) #[true, true, true, true, true, false, true, true, true, true, false, true, true, true, false, false, false, false, false, false] rfl rfl (zaK HT_.out (by kernel_rfl)) (fun _ _ _ h => h) (Or.inl ⟨by rfl, ?_⟩) ?_ ?_
      rotate_left
      ·intro w'
       go_simp
       with_reducible rfl
      rotate_left
      ·simp only [Act.put, List.setIfInBounds_toArray, List.set_cons_zero, List.set_cons_succ, zax, zay]
       rfl
      refine zaO (i := 14) (N := some 25) (v := ?_) (a' := ?_) #[true, true, true, true, true, false, true, true, true, true, false, true, true, true, true, false, false, false, false, false] rfl rfl (zaK HT_.out (by kernel_rfl)) (fun _ _ _ h => h) (Or.inl ⟨by rfl, ?_⟩) ?_ ?_
      rotate_left
      ·intro w'
       go_simp
       with_reducible rfl
      rotate_left
      ·simp only [Act.put, List.setIfInBounds_toArray, List.set_cons_zero, List.set_cons_succ, zax, zay]
       rfl
      refine zbQ (i := 5) (N := some 16) (v := ?_) (a' := ?_) #[true, true, true, true, true, true, true, true, true, true, false, true, true, true, true, false, false, false, false, false] rfl rfl (zbA HT_.out HW_.out (by kernel_rfl)) (fun _ _ _ h => h) (Or.inl ⟨by rfl, ?_⟩) hHeld ?_ ?_
      rotate_left
      ·rintro w' ⟨s0, s1, s2, s3, s4, s5, s6, s7, s8⟩
       go_simp
       with_reducible rfl
      rotate_left
      ·simp only [Act.put, List.setIfInBounds_toArray, List.set_cons_zero, List.set_cons_succ, zax, zay]
       rfl
      refine zbQ (i := 10) (N := some 21) (v := ?_) (a' := ?_) #[true, true, true, true, true, true, true, true, true, true, true, true, true, true, true, false, false, false, false, false] rfl rfl (zbA HT_.out HW_.out (by kernel_rfl)) (fun _ _ _ h => h) (Or.inl ⟨by rfl, ?_⟩) hHeld ?_ ?_
      rotate_left
      ·rintro w' ⟨s0, s1, s2, s3, s4, s5, s6, s7, s8⟩
       go_simp
       with_reducible rfl
      rotate_left
      ·simp only [Act.put, List.setIfInBounds_toArray, List.set_cons_zero, List.set_cons_succ, zax, zay]
       rfl
      refine zbQ (i := 15) (N := some 26) (v := ?_) (a' := ?_) #[true, true, true, true, true, true, true, true, true, true, true, true, true, true, true, true, false, false, false, false] rfl rfl (zbA HT_.out HW_.out (by kernel_rfl)) (fun _ _ _ h => h) (Or.inl ⟨by rfl, ?_⟩) hHeld ?_ ?_
      rotate_left
      ·rintro w' ⟨s0, s1, s2, s3, s4, s5, s6, s7, s8⟩
       go_simp
       with_reducible rfl
      rotate_left
      ·simp only [Act.put, List.setIfInBounds_toArray, List.set_cons_zero, List.set_cons_succ, zax, zay]
       rfl
      refine zaO (i := 16) (N := some 27) (v := ?_) (a' := ?_) #[true, true, true, true, true, true, true, true, true, true, true, true, true, true, true, true, true, false, false, false] rfl rfl (zaK HT_.out (by kernel_rfl)) (fun _ _ _ h => h) (Or.inl ⟨by rfl, ?_⟩) ?_ ?_
      rotate_left
      ·intro w'
       go_simp
       with_reducible rfl
      rotate_left
      ·simp only [Act.put, List.setIfInBounds_toArray, List.set_cons_zero, List.set_cons_succ, zax, zay]
       rfl
      refine zfd (i := 17) (N := some 28) #[true, true, true, true, true, true, true, true, true, true, true, true, true, true, true, true, true, true, false, false] rfl rfl (zbV HT_.out (by kernel_rfl)) (by decide) (fun K hK => ?_)
      refine zfW (w1 := ?_) (v := ?_) (by rfl) rfl ?_ ?_
      rotate_left 2
      ·go_simp
       constructor
       ·rfl
       ·rfl
      refine hK.out _ _ ?_
      clear hK K
      refine zck (a' := ?_) ?_ ?_
      rotate_left
      ·show Act.put _ (some 28) _ = _
       simp only [Act.put, List.setIfInBounds_toArray, List.set_cons_zero, List.set_cons_succ, zax, zay]
       rfl
      refine zfd (i := 18) (N := some 29) #[true, true, true, true, true, true, true, true, true, true, true, true, true, true, true, true, true, true, true, false] rfl rfl (zbV HT_.out (by kernel_rfl)) (by decide) (fun K hK => ?_)
      refine Kd.zdX k60 (w0 := w) w.heap.size (by rfl) (.tmp 11) (.tmp 28) 56 60 (.agg #[(.int .i64 0), (.int .i64 0), (.slice none 0 0)]) 40 rfl Tryd.underlying56 ziG rfl (by decide) (by omega) u3 x3_1 (⟨(zbf l0 x4_1).f0, (zbf l0 x4_1).f1, (zbf l0 x4_1).f2⟩ : S60) [.int .i64 ((zbf l0 x4_1).f0), .int .i64 ((zbf l0 x4_1).f1), .slice A293_2 ((zbf l0 x4_1).f2).length c293_2] (fun k_ => (P0_ k_ ∨ w.heap.size ≤ k_)) (fun k_ => ((fun k_ => (P0_ k_ ∨ w.heap.size ≤ k_))) k_ ∧ some k_ ≠ (u3 : Value).ownBlock) rfl rfl ?aP (fun _ hk => hk) ?aF ?aO ?aB ?aS ?aL ?_
      (case aP => exact (zke _ _ (⟨(zbf l0 x4_1).f0, (zbf l0 x4_1).f1, (zbf l0 x4_1).f2⟩ : S60) (Kd.zb8 (Kd.zbB (ok' := (fun k_ => ((fun k_ => (P0_ k_ ∨ w.heap.size ≤ k_))) k_ ∧ some k_ ≠ (u3 : Value).ownBlock)) (HL295_2.out) (fun k_ hk => ⟨hk.1, hk.2⟩))).2.1 (Kd.V_F (Kd.zbB (ok' := (fun k_ => ((fun k_ => (P0_ k_ ∨ w.heap.size ≤ k_))) k_ ∧ some k_ ≠ (u3 : Value).ownBlock)) (HL295_2.out) (fun k_ hk => ⟨hk.1, hk.2⟩)))))
      (case aB => exact (by repeat (first | (with_reducible first | exact HB.out | apply zac | apply zab | apply zad) | exact HB.out)))
      (case aF => exact (fun k_ hk => (.inr (Nat.le_trans (zas (by repeat (first | (with_reducible first | exact HB.out | apply zac | apply zab | apply zad) | exact HB.out))) hk))))
      (case aO => exact (by (with_reducible repeat (first | apply Kd.zbj | apply Kd.zbk | apply Kd.zbn)); exact HO_3.out))
      (case aS => exact (zas (by repeat (first | (with_reducible first | exact HB.out | apply zac | apply zab | apply zad) | exact HB.out))))
      (case aL => have := LMc4.out; omega)
      intro v297 w6 ho hb hg hat
      rw [← Ny296.out] at ho
      have n0_ := zaa.mk (Kd.zb9 (ok := (fun k_ => (P0_ k_ ∨ w.heap.size ≤ k_))) (by (with_reducible repeat (first | apply Kd.zbd | apply Kd.zbc | apply Kd.zbg)); exact HO_0.out) hg hat)
      have n1_ := zaa.mk (Kd.zb9 (ok := (fun k_ => (P0_ k_ ∨ w.heap.size ≤ k_))) (by (with_reducible repeat (first | apply Kd.zbd | apply Kd.zbc | apply Kd.zbg)); exact HL293_2.out) hg hat)
      have n2_ := zaa.mk (Kd.zb9 (ok := (fun k_ => (P0_ k_ ∨ w.heap.size ≤ k_))) (by (with_reducible repeat (first | apply Kd.zbd | apply Kd.zbc | apply Kd.zbg)); exact HL294_2.out) hg hat)
      have n3_ := zaa.mk (Kd.zb9 (ok := (fun k_ => (P0_ k_ ∨ w.heap.size ≤ k_))) (by (with_reducible repeat (first | apply Kd.zbd | apply Kd.zbc | apply Kd.zbg)); exact HL295_2.out) hg hat)
      have n4_ := zaa.mk (hb)
      have n5_ := zaa.mk (ho)
      clear HO_0
      clear HL293_2
      clear HL294_2
      clear HL295_2
      clear HB
      clear HO_3
      have HO_0 := n0_
      have HL293_2 := n1_
      have HL294_2 := n2_
      have HL295_2 := n3_
      have HB := n4_
      have HO298 := n5_
      clear n0_ n1_ n2_ n3_ n4_ n5_
      clear ho hb hg hat
      refine hK.out _ _ ?_
      clear hK K
      refine zck (a' := ?_) ?_ ?_
      rotate_left
      ·show Act.put _ (some 29) _ = _
       simp only [Act.put, List.setIfInBounds_toArray, List.set_cons_zero, List.set_cons_succ, zax, zay]
       rfl
      refine zaO (i := 19) (N := some 3) (v := ?_) (a' := ?_) #[true, true, true, true, true, true, true, true, true, true, true, true, true, true, true, true, true, true, true, true] rfl rfl (zaK HT_.out (by kernel_rfl)) (fun _ _ _ h => h) (Or.inl ⟨by rfl, ?_⟩) ?_ ?_
      rotate_left
      ·intro w'
       go_simp
       with_reducible rfl
      rotate_left
      ·simp only [Act.put, List.setIfInBounds_toArray, List.set_cons_zero, List.set_cons_succ, zax, zay]
       rfl
      refine zdq (zcS HT_.out (by kernel_rfl)) ?_
      try go_wp2
      go_roundg k1
      case measure => have := HK1.out; omega
      case rel => exact ⟨(y296), (wrap64 (x4_1 + 1)), (by first | rfl | (simp; done) | (simp [*]; done)), H', ⟨by have := HK1.out; omega⟩, ⟨by (with_reducible repeat (first | apply Kd.zbd | apply Kd.zbc | apply Kd.zbg)); exact HO_0.out⟩, ⟨by (with_reducible repeat (first | apply Kd.zbj | apply Kd.zbk | apply Kd.zbn)); exact HO298.out⟩, ⟨by repeat (first | (with_reducible first | exact HB.out | apply zac | apply zab | apply zad) | exact HB.out)⟩⟩
     ·rw [if_neg c4] at H
      exact absurd H (by simp)
    ·rw [if_neg c3] at H
     exact absurd H (by simp)
   ·rw [if_neg c2] at H
    have c2b0 : decide (x4_1 < (l0.length : Int)) = false := decide_eq_false c2
    clear c2
    obtain rfl := Option.some.inj H
    go_wp2
    go_ret
    exact ⟨_, by first | rfl | (simp [zam, zan] <;> rfl) | (simp [*, zam, zan] <;> rfl), by (with_reducible repeat (first | apply Kd.zbj | apply Kd.zbk | apply Kd.zbn)); exact HO_3.out, by repeat (first | (with_reducible first | exact HB.out | apply zac | apply zab | apply zad) | exact HB.out)⟩
end Go.Proofs.YtbicjgaadknmfaaDoor.P
end
