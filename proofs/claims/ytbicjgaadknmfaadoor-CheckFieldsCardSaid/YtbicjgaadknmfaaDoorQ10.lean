import Derived.Test.YtbicjgaadknmfaaDoorQ1
import Derived.Test.YtbicjgaadknmfaaDoorQ2
import Derived.Test.YtbicjgaadknmfaaDoorQ5
import Derived.Test.YtbicjgaadknmfaaDoorQ8
import Derived.Test.YtbicjgaadknmfaaDoorQ9
import Derived.Test.YtbicjgaadknmfaaDoorQ0
import Derived.Test.YtbicjgaadknmfaaDoorQ6
import Derived.Test.YtbicjgaadknmfaaDoorQ7
import Derived.Test.YtbicjgaadknmfaaDoorQ4
import Derived.Test.YtbicjgaadknmfaaDoorQ3
section
namespace Go.Proofs.YtbicjgaadknmfaaDoor.P
open Go.RowKit Go.Proofs.YtbicjgaadknmfaaDoorW.PrintWords Go.Proofs.YtbicjgaadknmfaaDoorW.PrintLast Go.Proofs.YtbicjgaadknmfaaDoorW.PrintMore
attribute [local go_sem] zco zcn zce zcf zbU zbT zb5 zb3
set_option linter.unusedVariables false
set_option linter.unusedSimpArgs false
attribute [local go_sem high] zjv
def zaW.f (k : Nat) (l0_0 : List (S121)) (l0_1 : List (List (S62))) (a1 : Int) (a2 : Int) : Option (Bool) := (zao.f k l0_0 l0_1 12 310 9).bind fun t320 => (if t320 = true then ((zbh.f).bind fun t321 => (some t321)) else ((zal.f k l0_0 l0_1 a1 a2).bind fun bt322 => ((zaq.f k l0_0 l0_1).bind fun bt327 => ((zaG.f k bt327.1 bt327.2 a1 a2).bind fun bt333 => ((zbt.f bt322.1 bt322.2.1 bt322.2.2.1 bt322.2.2.2).bind fun bt337 => (if (bt333.1 == bt337.1 && (bt333.2.1 == bt337.2.1 && (bt333.2.2.1 == bt337.2.2.1 && (bt333.2.2.2 == bt337.2.2.2)))) = true then ((zbh.f).bind fun t341 => (some t341)) else (some false)))))))
theorem zaW.mono : ∀ a0 a1 a2 a3 k, LeO (zaW.f k a0 a1 a2 a3) (zaW.f (k + 1) a0 a1 a2 a3) := by
 intro a0 a1 a2 a3 k
 unfold zaW.f
 repeat' first
   | (with_reducible exact zaG.mono _ _ _ _ _)
   | (with_reducible exact zaq.mono _ _ _)
   | (with_reducible exact zao.mono _ _ _ _ _ _)
   | (with_reducible exact zal.mono _ _ _ _ _)
   | (with_reducible exact LeO.refl _)
   | (with_reducible exact LeO.none _)
   | (with_reducible refine LeO.ite ?_ ?_)
   | (with_reducible refine LeO.bind ?_ (fun _ => ?_))
   | exact zaG.mono _ _ _ _ _
   | exact zaq.mono _ _ _
   | exact zao.mono _ _ _ _ _ _
   | exact zal.mono _ _ _ _ _
   | exact LeO.none _
   | refine LeO.ite ?_ ?_
   | refine LeO.bind ?_ (fun _ => ?_)
def zaW.T4 : Bool × List (List Nat × List Nat) := (true, [([], []), ([0], [0]), ([], []), ([], []), ([1, 2, 3, 1], [1, 2, 3]), ([], []), ([], []), ([5, 6, 4], [5, 6]), ([4, 7], [4, 7]), ([8, 7], [8]), ([9, 9], [9]), ([9, 10], [9, 10]), ([11, 10, 0, 1, 2, 3, 4, 5, 6, 7, 8, 9, 10, 11], [11])])
def zaW.B4 : List Nat := [0, 1, 0, 0, 15, 0, 0, 127, 255, 511, 1023, 2047, 4095]
theorem zaW.tab4 : rtab .any (opsOf Tryd.f6 4) = zaW.T4 := by kernel_rfl
theorem zaW.zjB : zcN zaW.T4.2 zaW.B4 = true := by kernel_rfl
set_option maxHeartbeats 8000000 in
set_option maxRecDepth 100000 in
theorem zaW.calls (k : Nat) (A0_0 : Option Addr) (c0_0 : Nat) (l0_0 : List (S121)) (A0_1 : Option Addr) (c0_1 : Nat) (l0_1 : List (List (S62))) (a1 : Int) (a2 : Int) (r : Bool) (w : World) (hr0_0 : Kd.C k121 w A0_0 l0_0.length l0_0) (hc0_0 : l0_0.length ≤ c0_0) (hr0_1 : Kd.C (Kd.slice 62 k62) w A0_1 l0_1.length l0_1) (hc0_1 : l0_1.length ≤ c0_1) (h : zaW.f k l0_0 l0_1 a1 a2 = some r) :
  Calls Tryd.prog 6 #[.agg #[.slice A0_0 l0_0.length c0_0, .slice A0_1 l0_1.length c0_1], .int .i64 a1, .int .i64 a2] w fun e w' => e = .returned (.bool r) ∧ Below w.heap.size w w' := by
 have hu41 := Tryd.underlying41
 have hu43 := Tryd.underlying43
 have HR0_0 := zaa.mk hr0_0
 have HC0_0 := zaa.mk hc0_0
 clear hr0_0 hc0_0
 have HR0_1 := zaa.mk hr0_1
 have HC0_1 := zaa.mk hc0_1
 clear hr0_1 hc0_1
 have HB := zaa.mk (Below.refl w.heap.size w)
 have H : ((zao.f k l0_0 l0_1 12 310 9).bind fun t320 => (if t320 = true then ((zbh.f).bind fun t321 => (some t321)) else ((zal.f k l0_0 l0_1 a1 a2).bind fun bt322 => ((zaq.f k l0_0 l0_1).bind fun bt327 => ((zaG.f k bt327.1 bt327.2 a1 a2).bind fun bt333 => ((zbt.f bt322.1 bt322.2.1 bt322.2.2.1 bt322.2.2.2).bind fun bt337 => (if (bt333.1 == bt337.1 && (bt333.2.1 == bt337.2.1 && (bt333.2.2.1 == bt337.2.2.1 && (bt333.2.2.2 == bt337.2.2.2)))) = true then ((zbh.f).bind fun t341 => (some t341)) else (some false)))))))) = some r := h
 clear h
 replace H := Option.bind_eq_some_iff.mp H
 obtain ⟨t320, A40, H⟩ := H
 replace H : (if t320 = true then ((zbh.f).bind fun t321 => (some t321)) else ((zal.f k l0_0 l0_1 a1 a2).bind fun bt322 => ((zaq.f k l0_0 l0_1).bind fun bt327 => ((zaG.f k bt327.1 bt327.2 a1 a2).bind fun bt333 => ((zbt.f bt322.1 bt322.2.1 bt322.2.2.1 bt322.2.2.2).bind fun bt337 => (if (bt333.1 == bt337.1 && (bt333.2.1 == bt337.2.1 && (bt333.2.2.1 == bt337.2.2.1 && (bt333.2.2.2 == bt337.2.2.2)))) = true then ((zbh.f).bind fun t341 => (some t341)) else (some false))))))) = some r := H
 have A4 := zaa.mk A40
 clear A40
 by_cases c5 : t320 = true
 ·subst c5
  have H1 : ((zbh.f).bind fun t321 => (some t321)) = some r := by rw [if_pos rfl] at H; exact H
  clear H
  have H := H1
  clear H1
  replace H := Option.bind_eq_some_iff.mp H
  obtain ⟨t321, A60, H⟩ := H
  replace H : (some t321) = some r := H
  have A6 := zaa.mk A60
  clear A60
  obtain rfl := Option.some.inj H
  go_enter Tryd.func6, Tryd.ntmps6
  go_wp2_with (first | ((with_reducible refine za8 (N := 3) rfl ?_); refine za6 ?hg (N := 3) ?hd (cs := #[.slice A0_0 l0_0.length c0_0, .slice A0_1 l0_1.length c0_1]) (t := 41) ?hr ?_; (case hd => rfl); (case hg => rfl); (case hr => first | (go_simp; done) | (go_simp; rfl)); intro gb319 hg w7 hbox hb; have n0_ := zaa.mk (zat (by repeat (first | (with_reducible first | exact HB.out | apply zac | apply zab | apply zad) | exact HB.out)) hb); have n1_ := zaa.mk (hbox); have n2_ := zaa.mk ((by rw [hg]; exact (zas (by repeat (first | (with_reducible first | exact HB.out | apply zac | apply zab | apply zad) | exact HB.out))) : w.heap.size ≤ gb319)); have n3_ := zaa.mk ((by rw [hg]; exact (zas (by repeat (first | (with_reducible first | exact HB.out | apply zac | apply zab | apply zad) | exact HB.out))) : w.heap.size ≤ gb319)); clear HB; have HB := n0_; have BK319 := n1_; have GW319 := n2_; have GE319 := n3_; clear n0_ n1_ n2_ n3_; clear hb hbox hg; have hcz8_0 : w7.cell? ⟨gb319, 0, none⟩ = some (.slice A0_0 l0_0.length c0_0) := (zaj BK319.out 0).trans rfl; have hcz8_1 : w7.cell? ⟨gb319, 1, none⟩ = some (.slice A0_1 l0_1.length c0_1) := (zaj BK319.out 1).trans rfl; have hfz8_0 := zak BK319.out 0; have hfz8_1 := zak BK319.out 1) | ((with_reducible refine zaI (f := 23) rfl ?_); refine za3 (some 10) rfl rfl Tryd.func23 (by kernel_rfl) rfl #[.agg #[.slice A0_0 l0_0.length c0_0, .slice A0_1 l0_1.length c0_1], .int .i64 12, .int .i64 310, .int .i64 9] rfl (by (try simp only [List.map_toArray, List.map_cons, List.map_nil]); first | done | rfl | (simp only [List.length_drop, List.length_take]; rfl)) ?_; (with_reducible refine (zao.calls k _ _ l0_0 _ _ l0_1 12 310 9 true _ ?side1 ?side2 ?side3 ?side4 A4.out).mono ?_); (case side1 => repeat (first | exact (Kd.za2 HR0_0.out HB.out) | (with_reducible refine Kd.zaQ ?_ _) | (with_reducible refine Kd.zaR ?_ _) | (with_reducible refine Kd.zaZ ?_))); (case side2 => exact HC0_0.out); (case side3 => repeat (first | exact (Kd.za2 HR0_1.out HB.out) | (with_reducible refine Kd.zaQ ?_ _) | (with_reducible refine Kd.zaR ?_ _) | (with_reducible refine Kd.zaZ ?_))); (case side4 => exact HC0_1.out); rintro e w9 ⟨rfl, hb⟩; refine ⟨_, rfl, ?_⟩; have n0_ := zaa.mk (zaE (g := gb319) (o := .cells #[.slice A0_0 l0_0.length c0_0, .slice A0_1 l0_1.length c0_1] 41 (0, 0)) (by (with_reducible repeat (first | refine zaf ?_ _ | refine zai ?_ | refine zae ?_ _)); exact BK319.out) hb); have n1_ := zaa.mk (zat (by repeat (first | (with_reducible first | exact HB.out | apply zac | apply zab | apply zad | refine zah ?_ GE319.out) | exact HB.out)) hb); clear BK319; clear HB; have BK319 := n0_; have HB := n1_; clear n0_ n1_; (try clear hb); (try clear hb2); (try clear hk); (try clear hi)) | ((with_reducible refine zaI (f := 24) rfl ?_); refine za3 (some 11) rfl rfl Tryd.func24 (by kernel_rfl) rfl #[] rfl (by (try simp only [List.map_toArray, List.map_cons, List.map_nil]); first | done | rfl | (simp only [List.length_drop, List.length_take]; rfl)) ?_; (with_reducible refine (zbh.calls  t321 _ A6.out).mono ?_); rintro e w10 ⟨rfl, hb⟩; refine ⟨_, rfl, ?_⟩; have n0_ := zaa.mk (zaE (g := gb319) (o := .cells #[.slice A0_0 l0_0.length c0_0, .slice A0_1 l0_1.length c0_1] 41 (0, 0)) (by (with_reducible repeat (first | refine zaf ?_ _ | refine zai ?_ | refine zae ?_ _)); exact BK319.out) hb); have n1_ := zaa.mk (zat (by repeat (first | (with_reducible first | exact HB.out | apply zac | apply zab | apply zad | refine zah ?_ GE319.out) | exact HB.out)) hb); clear BK319; clear HB; have BK319 := n0_; have HB := n1_; clear n0_ n1_; (try clear hb); (try clear hb2); (try clear hk); (try clear hi)))
  go_ret
  exact ⟨by first | rfl | (simp [zam, zan] <;> rfl) | (simp [*, zam, zan] <;> rfl), by repeat (first | (with_reducible first | exact HB.out | apply zac | apply zab | apply zad | refine zah ?_ GE319.out) | exact HB.out)⟩
 ·replace c5 := Bool.eq_false_iff.mpr c5
  subst c5
  have H1 : ((zal.f k l0_0 l0_1 a1 a2).bind fun bt322 => ((zaq.f k l0_0 l0_1).bind fun bt327 => ((zaG.f k bt327.1 bt327.2 a1 a2).bind fun bt333 => ((zbt.f bt322.1 bt322.2.1 bt322.2.2.1 bt322.2.2.2).bind fun bt337 => (if (bt333.1 == bt337.1 && (bt333.2.1 == bt337.2.1 && (bt333.2.2.1 == bt337.2.2.1 && (bt333.2.2.2 == bt337.2.2.2)))) = true then ((zbh.f).bind fun t341 => (some t341)) else (some false)))))) = some r := by rw [if_neg (show ¬ (false = true) by decide)] at H; exact H
  clear H
  have H := H1
  clear H1
  replace H := Option.bind_eq_some_iff.mp H
  obtain ⟨⟨t322, t323, t324, t325⟩, A110, H⟩ := H
  replace H : ((zaq.f k l0_0 l0_1).bind fun bt327 => ((zaG.f k bt327.1 bt327.2 a1 a2).bind fun bt333 => ((zbt.f t322 t323 t324 t325).bind fun bt337 => (if (bt333.1 == bt337.1 && (bt333.2.1 == bt337.2.1 && (bt333.2.2.1 == bt337.2.2.1 && (bt333.2.2.2 == bt337.2.2.2)))) = true then ((zbh.f).bind fun t341 => (some t341)) else (some false))))) = some r := H
  have A11 := zaa.mk A110
  clear A110
  replace H := Option.bind_eq_some_iff.mp H
  obtain ⟨⟨t327, t330⟩, A120, H⟩ := H
  replace H : ((zaG.f k t327 t330 a1 a2).bind fun bt333 => ((zbt.f t322 t323 t324 t325).bind fun bt337 => (if (bt333.1 == bt337.1 && (bt333.2.1 == bt337.2.1 && (bt333.2.2.1 == bt337.2.2.1 && (bt333.2.2.2 == bt337.2.2.2)))) = true then ((zbh.f).bind fun t341 => (some t341)) else (some false)))) = some r := H
  have A12 := zaa.mk A120
  clear A120
  replace H := Option.bind_eq_some_iff.mp H
  obtain ⟨⟨t333, t334, t335, t336⟩, A130, H⟩ := H
  replace H : ((zbt.f t322 t323 t324 t325).bind fun bt337 => (if (t333 == bt337.1 && (t334 == bt337.2.1 && (t335 == bt337.2.2.1 && (t336 == bt337.2.2.2)))) = true then ((zbh.f).bind fun t341 => (some t341)) else (some false))) = some r := H
  have A13 := zaa.mk A130
  clear A130
  replace H := Option.bind_eq_some_iff.mp H
  obtain ⟨⟨t337, t338, t339, t340⟩, A140, H⟩ := H
  replace H : (if (t333 == t337 && (t334 == t338 && (t335 == t339 && (t336 == t340)))) = true then ((zbh.f).bind fun t341 => (some t341)) else (some false)) = some r := H
  have A14 := zaa.mk A140
  clear A140
  by_cases c15 : (t333 == t337 && (t334 == t338 && (t335 == t339 && (t336 == t340)))) = true
  ·rw [if_pos c15] at H
   have c15b0 : (t333 == t337 && (t334 == t338 && (t335 == t339 && (t336 == t340)))) = true := c15
   (try (have c15b1 : decide (t333 = t337 && (t334 == t338 && (t335 == t339 && (t336 == t340)))) = true := by simpa using c15))
   (try (have c15b2 : (t333 == t337 && (t334 == t338 && (t335 == t339 && (t336 == t340)))) = true := by simpa using c15))
   clear c15
   replace H := Option.bind_eq_some_iff.mp H
   obtain ⟨t341, A160, H⟩ := H
   replace H : (some t341) = some r := H
   have A16 := zaa.mk A160
   clear A160
   obtain rfl := Option.some.inj H
   go_enter Tryd.func6, Tryd.ntmps6
   try go_wp2_with (first | ((with_reducible refine za8 (N := 3) rfl ?_); refine za6 ?hg (N := 3) ?hd (cs := #[.slice A0_0 l0_0.length c0_0, .slice A0_1 l0_1.length c0_1]) (t := 41) ?hr ?_; (case hd => rfl); (case hg => rfl); (case hr => first | (go_simp; done) | (go_simp; rfl)); intro gb319 hg w17 hbox hb; have n0_ := zaa.mk (zat (by repeat (first | (with_reducible first | exact HB.out | apply zac | apply zab | apply zad) | exact HB.out)) hb); have n1_ := zaa.mk (hbox); have n2_ := zaa.mk ((by rw [hg]; exact (zas (by repeat (first | (with_reducible first | exact HB.out | apply zac | apply zab | apply zad) | exact HB.out))) : w.heap.size ≤ gb319)); have n3_ := zaa.mk ((by rw [hg]; exact (zas (by repeat (first | (with_reducible first | exact HB.out | apply zac | apply zab | apply zad) | exact HB.out))) : w.heap.size ≤ gb319)); clear HB; have HB := n0_; have BK319 := n1_; have GW319 := n2_; have GE319 := n3_; clear n0_ n1_ n2_ n3_; clear hb hbox hg; have hcz18_0 : w17.cell? ⟨gb319, 0, none⟩ = some (.slice A0_0 l0_0.length c0_0) := (zaj BK319.out 0).trans rfl; have hcz18_1 : w17.cell? ⟨gb319, 1, none⟩ = some (.slice A0_1 l0_1.length c0_1) := (zaj BK319.out 1).trans rfl; have hfz18_0 := zak BK319.out 0; have hfz18_1 := zak BK319.out 1) | ((with_reducible refine zaI (f := 23) rfl ?_); refine za3 (some 10) rfl rfl Tryd.func23 (by kernel_rfl) rfl #[.agg #[.slice A0_0 l0_0.length c0_0, .slice A0_1 l0_1.length c0_1], .int .i64 12, .int .i64 310, .int .i64 9] rfl (by (try simp only [List.map_toArray, List.map_cons, List.map_nil]); first | done | rfl | (simp only [List.length_drop, List.length_take]; rfl)) ?_; (with_reducible refine (zao.calls k _ _ l0_0 _ _ l0_1 12 310 9 false _ ?side1 ?side2 ?side3 ?side4 A4.out).mono ?_); (case side1 => repeat (first | exact (Kd.za2 HR0_0.out HB.out) | (with_reducible refine Kd.zaQ ?_ _) | (with_reducible refine Kd.zaR ?_ _) | (with_reducible refine Kd.zaZ ?_))); (case side2 => exact HC0_0.out); (case side3 => repeat (first | exact (Kd.za2 HR0_1.out HB.out) | (with_reducible refine Kd.zaQ ?_ _) | (with_reducible refine Kd.zaR ?_ _) | (with_reducible refine Kd.zaZ ?_))); (case side4 => exact HC0_1.out); rintro e w19 ⟨rfl, hb⟩; refine ⟨_, rfl, ?_⟩; have n0_ := zaa.mk (zaE (g := gb319) (o := .cells #[.slice A0_0 l0_0.length c0_0, .slice A0_1 l0_1.length c0_1] 41 (0, 0)) (by (with_reducible repeat (first | refine zaf ?_ _ | refine zai ?_ | refine zae ?_ _)); exact BK319.out) hb); have n1_ := zaa.mk (zat (by repeat (first | (with_reducible first | exact HB.out | apply zac | apply zab | apply zad | refine zah ?_ GE319.out) | exact HB.out)) hb); clear BK319; clear HB; have BK319 := n0_; have HB := n1_; clear n0_ n1_; (try clear hb); (try clear hb2); (try clear hk); (try clear hi); have hcz20_0 : w19.cell? ⟨gb319, 0, none⟩ = some (.slice A0_0 l0_0.length c0_0) := (zaj BK319.out 0).trans rfl; have hcz20_1 : w19.cell? ⟨gb319, 1, none⟩ = some (.slice A0_1 l0_1.length c0_1) := (zaj BK319.out 1).trans rfl; have hfz20_0 := zak BK319.out 0; have hfz20_1 := zak BK319.out 1) | ((with_reducible refine zaI (f := 25) rfl ?_); refine za3 (some 16) rfl rfl Tryd.func25 (by kernel_rfl) rfl #[.agg #[.slice A0_0 l0_0.length c0_0, .slice A0_1 l0_1.length c0_1], .int .i64 a1, .int .i64 a2] rfl (by (try simp only [List.map_toArray, List.map_cons, List.map_nil]); first | done | rfl | (simp only [List.length_drop, List.length_take]; rfl)) ?_; (with_reducible refine (zal.calls k _ _ l0_0 _ _ l0_1 a1 a2 t322 t323 t324 t325 _ ?side1 ?side2 ?side3 ?side4 A11.out).mono ?_); (case side1 => repeat (first | exact (Kd.za2 HR0_0.out HB.out) | (with_reducible refine Kd.zaQ ?_ _) | (with_reducible refine Kd.zaR ?_ _) | (with_reducible refine Kd.zaZ ?_))); (case side2 => exact HC0_0.out); (case side3 => repeat (first | exact (Kd.za2 HR0_1.out HB.out) | (with_reducible refine Kd.zaQ ?_ _) | (with_reducible refine Kd.zaR ?_ _) | (with_reducible refine Kd.zaZ ?_))); (case side4 => exact HC0_1.out); rintro e w21 ⟨rfl, hb⟩; refine ⟨_, rfl, ?_⟩; have n0_ := zaa.mk (zaE (g := gb319) (o := .cells #[.slice A0_0 l0_0.length c0_0, .slice A0_1 l0_1.length c0_1] 41 (0, 0)) (by (with_reducible repeat (first | refine zaf ?_ _ | refine zai ?_ | refine zae ?_ _)); exact BK319.out) hb); have n1_ := zaa.mk (zat (by repeat (first | (with_reducible first | exact HB.out | apply zac | apply zab | apply zad | refine zah ?_ GE319.out) | exact HB.out)) hb); clear BK319; clear HB; have BK319 := n0_; have HB := n1_; clear n0_ n1_; (try clear hb); (try clear hb2); (try clear hk); (try clear hi)) | ((with_reducible refine za8 (N := 8) rfl ?_); refine za6 ?hg (N := 8) ?hd (cs := #[.int .i64 0, .int .i64 0, .int .i64 0]) (t := 43) ?hr ?_; (case hd => rfl); (case hg => rfl); (case hr => first | (go_simp; done) | (go_simp; rfl)); intro gb326 hg w22 hbox hb; have n0_ := zaa.mk (zaE (g := gb319) (o := .cells #[.slice A0_0 l0_0.length c0_0, .slice A0_1 l0_1.length c0_1] 41 (0, 0)) (by (with_reducible repeat (first | refine zaf ?_ _ | refine zai ?_ | refine zae ?_ _)); exact BK319.out) hb); have n1_ := zaa.mk (zat (by repeat (first | (with_reducible first | exact HB.out | apply zac | apply zab | apply zad | refine zah ?_ GE319.out) | exact HB.out)) hb); have n2_ := zaa.mk (hbox); have n3_ := zaa.mk ((by rw [hg]; exact (zas (by repeat (first | (with_reducible first | exact HB.out | apply zac | apply zab | apply zad | refine zah ?_ GE319.out) | exact HB.out))) : w.heap.size ≤ gb326)); have n4_ := zaa.mk ((by rw [hg]; exact (zas (by repeat (first | (with_reducible first | exact HB.out | apply zac | apply zab | apply zad | refine zah ?_ GE319.out) | exact HB.out))) : w.heap.size ≤ gb326)); have n5_ := zaa.mk ((by rw [hg]; exact Nat.ne_of_lt (zbq (g := gb319) (o := .cells #[.slice A0_0 l0_0.length c0_0, .slice A0_1 l0_1.length c0_1] 41 (0, 0)) (by (with_reducible repeat (first | refine zaf ?_ _ | refine zai ?_ | refine zae ?_ _)); exact BK319.out)) : gb319 ≠ gb326)); have n6_ := zaa.mk ((by rw [hg]; exact Nat.ne_of_gt (zbq (g := gb319) (o := .cells #[.slice A0_0 l0_0.length c0_0, .slice A0_1 l0_1.length c0_1] 41 (0, 0)) (by (with_reducible repeat (first | refine zaf ?_ _ | refine zai ?_ | refine zae ?_ _)); exact BK319.out)) : gb326 ≠ gb319)); clear BK319; clear HB; have BK319 := n0_; have HB := n1_; have BK326 := n2_; have GW326 := n3_; have GE326 := n4_; have NB319_326 := n5_; have NB326_319 := n6_; clear n0_ n1_ n2_ n3_ n4_ n5_ n6_; clear hb hbox hg; have hnb23 := NB326_319.out; have hnc23 := NB319_326.out; have hcz24_0 : w22.cell? ⟨gb326, 0, none⟩ = some (.int .i64 0) := (zaj BK326.out 0).trans rfl; have hcz24_1 : w22.cell? ⟨gb326, 1, none⟩ = some (.int .i64 0) := (zaj BK326.out 1).trans rfl; have hcz24_2 : w22.cell? ⟨gb326, 2, none⟩ = some (.int .i64 0) := (zaj BK326.out 2).trans rfl; have hfz24_0 := zak BK326.out 0; have hfz24_1 := zak BK326.out 1; have hfz24_2 := zak BK326.out 2))
   have n0_ : zaa ((((w22.setCell ⟨gb326, 0, none⟩ (.int .i64 t323)).setCell ⟨gb326, 1, none⟩ (.int .i64 t324)).setCell ⟨gb326, 2, none⟩ (.int .i64 t325)).heap[gb319]? = some (.cells #[.slice A0_0 l0_0.length c0_0, .slice A0_1 l0_1.length c0_1] 41 (0, 0))) := ⟨by (with_reducible repeat (first | refine zaf ?_ _ | refine zai ?_ | refine zae ?_ _)); refine zbo ?_ NB319_326.out _; (with_reducible repeat (first | refine zaf ?_ _ | refine zai ?_ | refine zae ?_ _)); refine zbo ?_ NB319_326.out _; (with_reducible repeat (first | refine zaf ?_ _ | refine zai ?_ | refine zae ?_ _)); refine zbo ?_ NB319_326.out _; (with_reducible repeat (first | refine zaf ?_ _ | refine zai ?_ | refine zae ?_ _)); exact BK319.out⟩
   have n1_ : zaa ((((w22.setCell ⟨gb326, 0, none⟩ (.int .i64 t323)).setCell ⟨gb326, 1, none⟩ (.int .i64 t324)).setCell ⟨gb326, 2, none⟩ (.int .i64 t325)).heap[gb326]? = some (.cells #[.int .i64 t323, .int .i64 t324, .int .i64 t325] 43 (0, 0))) := ⟨by (with_reducible repeat (first | refine zaf ?_ _ | refine zai ?_ | refine zae ?_ _)); refine zaT (cs := #[.int .i64 t323, .int .i64 t324, .int .i64 0]) ?_ 2 _ rfl; (with_reducible repeat (first | refine zaf ?_ _ | refine zai ?_ | refine zae ?_ _)); refine zaT (cs := #[.int .i64 t323, .int .i64 0, .int .i64 0]) ?_ 1 _ rfl; (with_reducible repeat (first | refine zaf ?_ _ | refine zai ?_ | refine zae ?_ _)); refine zaT (cs := #[.int .i64 0, .int .i64 0, .int .i64 0]) ?_ 0 _ rfl; (with_reducible repeat (first | refine zaf ?_ _ | refine zai ?_ | refine zae ?_ _)); exact BK326.out⟩
   have n2_ : zaa (Below w.heap.size w (((w22.setCell ⟨gb326, 0, none⟩ (.int .i64 t323)).setCell ⟨gb326, 1, none⟩ (.int .i64 t324)).setCell ⟨gb326, 2, none⟩ (.int .i64 t325))) := ⟨by repeat (first | (with_reducible first | exact HB.out | apply zac | apply zab | apply zad | refine zah ?_ GE319.out | refine zah ?_ GE326.out) | exact HB.out)⟩
   (try clear BK319)
   (try clear BK326)
   (try clear HB)
   generalize (((w22.setCell ⟨gb326, 0, none⟩ (.int .i64 t323)).setCell ⟨gb326, 1, none⟩ (.int .i64 t324)).setCell ⟨gb326, 2, none⟩ (.int .i64 t325)) = w25 at n0_ n1_ n2_ ⊢
   have BK319 := n0_
   have BK326 := n1_
   have HB := n2_
   clear n0_ n1_ n2_
   have n0_ := zaa.mk (zai BK319.out)
   have n1_ := zaa.mk (zai BK326.out)
   have n2_ := zaa.mk (zad HB.out)
   clear BK319
   clear BK326
   clear HB
   have BK319 := n0_
   have BK326 := n1_
   have HB := n2_
   clear n0_ n1_ n2_
   refine zc7 (n := 13) (S := fun w' => w'.cell? ⟨gb319, 0, none⟩ = some (.slice A0_0 l0_0.length c0_0) ∧ w'.cell? ⟨gb319, 1, none⟩ = some (.slice A0_1 l0_1.length c0_1) ∧ w'.cell? ⟨gb326, 0, none⟩ = some (.int .i64 t323) ∧ w'.cell? ⟨gb326, 1, none⟩ = some (.int .i64 t324) ∧ w'.cell? ⟨gb326, 2, none⟩ = some (.int .i64 t325)) (ds := []) #[false, false, false, false, false, false, false, false, false, false, false, false, false] (by kernel_rfl) rfl rfl ⟨(zaj BK319.out 0).trans rfl, (zaj BK319.out 1).trans rfl, (zaj BK326.out 0).trans rfl, (zaj BK326.out 1).trans rfl, (zaj BK326.out 2).trans rfl⟩ (fun hHeld => ?_); refine zcp zaW.tab4 zaW.zjB (fun HT_ HW_ => ?_)
   generalize w25.drew = w26 at BK319 BK326 HB hHeld ⊢
   refine zaO (i := 2) (N := some 21) (v := ?_) (a' := ?_) #[false, false, true, false, false, false, false, false, false, false, false, false, false] rfl rfl (zaK HT_.out (by kernel_rfl)) (fun _ _ _ h => h) (Or.inl ⟨by rfl, ?_⟩) ?_ ?_
   rotate_left
   ·intro w'
    go_simp
    with_reducible rfl
   rotate_left
   ·simp only [Act.put, List.setIfInBounds_toArray, List.set_cons_zero, List.set_cons_succ, zax, zay]
    rfl
   refine zaO (i := 3) (N := some 22) (v := ?_) (a' := ?_) #[false, false, true, true, false, false, false, false, false, false, false, false, false] rfl rfl (zaK HT_.out (by kernel_rfl)) (fun _ _ _ h => h) (Or.inl ⟨by rfl, ?_⟩) ?_ ?_
   rotate_left
   ·intro w'
    go_simp
    with_reducible rfl
   rotate_left
   ·simp only [Act.put, List.setIfInBounds_toArray, List.set_cons_zero, List.set_cons_succ, zax, zay]
    rfl
   refine zaO (i := 5) (N := some 24) (v := ?_) (a' := ?_) #[false, false, true, true, false, true, false, false, false, false, false, false, false] rfl rfl (zaK HT_.out (by kernel_rfl)) (fun _ _ _ h => h) (Or.inl ⟨by rfl, ?_⟩) ?_ ?_
   rotate_left
   ·intro w'
    go_simp
    with_reducible rfl
   rotate_left
   ·simp only [Act.put, List.setIfInBounds_toArray, List.set_cons_zero, List.set_cons_succ, zax, zay]
    rfl
   refine zbQ (i := 0) (N := some 19) (v := ?_) (a' := ?_) #[true, false, true, true, false, true, false, false, false, false, false, false, false] rfl rfl (zbA HT_.out HW_.out (by kernel_rfl)) (fun _ _ _ h => h) (Or.inl ⟨by rfl, ?_⟩) hHeld ?_ ?_
   rotate_left
   ·rintro w' ⟨s0, s1, s2, s3, s4⟩
    go_simp
    with_reducible rfl
   rotate_left
   ·simp only [Act.put, List.setIfInBounds_toArray, List.set_cons_zero, List.set_cons_succ, zax, zay]
    rfl
   refine zbQ (i := 6) (N := some 25) (v := ?_) (a' := ?_) #[true, false, true, true, false, true, true, false, false, false, false, false, false] rfl rfl (zbA HT_.out HW_.out (by kernel_rfl)) (fun _ _ _ h => h) (Or.inl ⟨by rfl, ?_⟩) hHeld ?_ ?_
   rotate_left
   ·rintro w' ⟨s0, s1, s2, s3, s4⟩
    go_simp
    with_reducible rfl
   rotate_left
   ·simp only [Act.put, List.setIfInBounds_toArray, List.set_cons_zero, List.set_cons_succ, zax, zay]
    rfl
   refine one_ (i := 1) (N := some 20) #[true, true, true, true, false, true, true, false, false, false, false, false, false] rfl rfl (zbV HT_.out (by kernel_rfl)) (by decide) (fun K hK => ?_)
   refine zde Tryd.func27 (by kernel_rfl) rfl #[.agg #[.slice A0_0 l0_0.length c0_0, .slice A0_1 l0_1.length c0_1]] (by rfl) rfl rfl (by (try simp only [List.map_toArray, List.map_cons, List.map_nil]); first | done | rfl | (simp only [List.length_drop, List.length_take]; rfl)) ?_
   with_reducible refine (zaq.calls k (fun k_ => k_ < w.heap.size) _ _ l0_0 (fun k_ => k_ < w.heap.size) _ _ l0_1 t327 t330 _ ?side1 ?side2 A12.out).mono ?_
   (case side1 => exact Kd.V_mk HC0_0.out (Kd.zcR (Kd.C_F zeq HR0_0.out) (by repeat (first | (with_reducible first | exact HB.out | apply zac | apply zab | apply zad | refine zah ?_ GE319.out | refine zah ?_ GE326.out) | exact HB.out))))
   (case side2 => exact Kd.V_mk HC0_1.out (Kd.zcR (Kd.C_F (Kd.zcV 62 zeg) HR0_1.out) (by repeat (first | (with_reducible first | exact HB.out | apply zac | apply zab | apply zad | refine zah ?_ GE319.out | refine zah ?_ GE326.out) | exact HB.out))))
   rintro e w27 ⟨v328, v331, rfl, ho0, ho1, hb⟩
   refine ⟨_, rfl, ?_⟩
   have n0_ := zaa.mk (Kd.zdz (Kd.zbO (ok' := fun k_ => some k_ ≠ (v331 : Value).ownBlock ∧ k_ ≠ gb319 ∧ k_ ≠ gb326) ho0 (fun k_ hk_ => ⟨hk_.2, Or.elim hk_.1 (fun hs_ => Or.elim hs_ (fun hs_ => fun e_ => Nat.not_le.2 hs_ (by rw [e_]; exact GW319.out)) (fun hs_ => fun e_ => Nat.not_le.2 hs_ (by rw [e_]; exact GW319.out))) (fun hn_ => (Kd.zbW (g := gb319) (o := .cells #[.slice A0_0 l0_0.length c0_0, .slice A0_1 l0_1.length c0_1] 41 (0, 0)) (by (with_reducible repeat (first | refine zaf ?_ _ | refine zai ?_ | refine zae ?_ _)); exact BK319.out) k_ hn_)), Or.elim hk_.1 (fun hs_ => Or.elim hs_ (fun hs_ => fun e_ => Nat.not_le.2 hs_ (by rw [e_]; exact GW326.out)) (fun hs_ => fun e_ => Nat.not_le.2 hs_ (by rw [e_]; exact GW326.out))) (fun hn_ => (Kd.zbW (g := gb326) (o := .cells #[.int .i64 t323, .int .i64 t324, .int .i64 t325] 43 (0, 0)) (by (with_reducible repeat (first | refine zaf ?_ _ | refine zai ?_ | refine zae ?_ _)); exact BK326.out) k_ hn_))⟩)) (zas (by repeat (first | (with_reducible first | exact HB.out | apply zac | apply zab | apply zad | refine zah ?_ GE319.out | refine zah ?_ GE326.out) | exact HB.out))))
   have n1_ := zaa.mk (Kd.zdz (Kd.zbO (ok' := fun k_ => some k_ ≠ (v328 : Value).ownBlock ∧ k_ ≠ gb319 ∧ k_ ≠ gb326) ho1 (fun k_ hk_ => ⟨hk_.2, Or.elim hk_.1 (fun hs_ => Or.elim hs_ (fun hs_ => fun e_ => Nat.not_le.2 hs_ (by rw [e_]; exact GW319.out)) (fun hs_ => fun e_ => Nat.not_le.2 hs_ (by rw [e_]; exact GW319.out))) (fun hn_ => (Kd.zbW (g := gb319) (o := .cells #[.slice A0_0 l0_0.length c0_0, .slice A0_1 l0_1.length c0_1] 41 (0, 0)) (by (with_reducible repeat (first | refine zaf ?_ _ | refine zai ?_ | refine zae ?_ _)); exact BK319.out) k_ hn_)), Or.elim hk_.1 (fun hs_ => Or.elim hs_ (fun hs_ => fun e_ => Nat.not_le.2 hs_ (by rw [e_]; exact GW326.out)) (fun hs_ => fun e_ => Nat.not_le.2 hs_ (by rw [e_]; exact GW326.out))) (fun hn_ => (Kd.zbW (g := gb326) (o := .cells #[.int .i64 t323, .int .i64 t324, .int .i64 t325] 43 (0, 0)) (by (with_reducible repeat (first | refine zaf ?_ _ | refine zai ?_ | refine zae ?_ _)); exact BK326.out) k_ hn_))⟩)) (zas (by repeat (first | (with_reducible first | exact HB.out | apply zac | apply zab | apply zad | refine zah ?_ GE319.out | refine zah ?_ GE326.out) | exact HB.out))))
   have n2_ := zaa.mk (zaE (g := gb319) (o := .cells #[.slice A0_0 l0_0.length c0_0, .slice A0_1 l0_1.length c0_1] 41 (0, 0)) (by (with_reducible repeat (first | refine zaf ?_ _ | refine zai ?_ | refine zae ?_ _)); exact BK319.out) hb)
   have n3_ := zaa.mk (zaE (g := gb326) (o := .cells #[.int .i64 t323, .int .i64 t324, .int .i64 t325] 43 (0, 0)) (by (with_reducible repeat (first | refine zaf ?_ _ | refine zai ?_ | refine zae ?_ _)); exact BK326.out) hb)
   have n4_ := zaa.mk (zat (by repeat (first | (with_reducible first | exact HB.out | apply zac | apply zab | apply zad | refine zah ?_ GE319.out | refine zah ?_ GE326.out) | exact HB.out)) hb)
   clear BK319
   clear BK326
   clear HB
   have HO329 := n0_
   have HO332 := n1_
   have BK319 := n2_
   have BK326 := n3_
   have HB := n4_
   clear n0_ n1_ n2_ n3_ n4_
   (try clear hb)
   (try clear hb2)
   (try clear hk)
   (try clear hi)
   (try clear ho0)
   (try clear ho1)
   obtain ⟨Ao28, co28, eo28⟩ := Kd.zcB HO329.out
   (first | subst eo28 | (injection eo28 with f1_ f2_ f3_; have f4_ := f1_.symm; have f5_ := f3_.symm; clear f1_ f2_ f3_; subst f4_; subst f5_))
   obtain ⟨Ao29, co29, eo29⟩ := Kd.zcB HO332.out
   (first | subst eo29 | (injection eo29 with f1_ f2_ f3_; have f4_ := f1_.symm; have f5_ := f3_.symm; clear f1_ f2_ f3_; subst f4_; subst f5_))
   refine hK.out _ _ ⟨(zaj BK319.out 0).trans rfl, (zaj BK319.out 1).trans rfl, (zaj BK326.out 0).trans rfl, (zaj BK326.out 1).trans rfl, (zaj BK326.out 2).trans rfl⟩ (fun hHeld => ?_)
   clear hK K
   refine zck (a' := ?_) ?_ ?_
   rotate_left
   ·show Act.put _ (some 20) _ = _
    simp only [Act.put, List.setIfInBounds_toArray, List.set_cons_zero, List.set_cons_succ, zax, zay]
    rfl
   refine one_ (i := 4) (N := some 23) #[true, true, true, true, true, true, true, false, false, false, false, false, false] rfl rfl (zbV HT_.out (by kernel_rfl)) (by decide) (fun K hK => ?_)
   refine zde Tryd.func26 (by kernel_rfl) rfl #[.agg #[.slice Ao28 t327.length co28, .slice Ao29 t330.length co29], .int .i64 a1, .int .i64 a2] (by rfl) rfl rfl (by (try simp only [List.map_toArray, List.map_cons, List.map_nil]); first | done | rfl | (simp only [List.length_drop, List.length_take]; rfl)) ?_
   with_reducible refine (zaG.calls k _ _ t327 _ _ t330 a1 a2 t333 t334 t335 t336 _ ?side1 ?side2 ?side3 ?side4 A13.out).mono ?_
   (case side1 => repeat (first | exact (Kd.zbI HO329.out).2.2 | (with_reducible refine Kd.zaQ ?_ _) | (with_reducible refine Kd.zaR ?_ _) | (with_reducible refine Kd.zaZ ?_)))
   (case side2 => exact (Kd.zbI HO329.out).2.1)
   (case side3 => repeat (first | exact (Kd.zbI HO332.out).2.2 | (with_reducible refine Kd.zaQ ?_ _) | (with_reducible refine Kd.zaR ?_ _) | (with_reducible refine Kd.zaZ ?_)))
   (case side4 => exact (Kd.zbI HO332.out).2.1)
   rintro e w30 ⟨rfl, hb⟩
   refine ⟨_, rfl, ?_⟩
   have n0_ := zaa.mk (Kd.zb2 (by (with_reducible repeat (first | apply Kd.zbj | apply Kd.zbk | apply Kd.zbn)); exact HO329.out) hb)
   have n1_ := zaa.mk (Kd.zb2 (by (with_reducible repeat (first | apply Kd.zbj | apply Kd.zbk | apply Kd.zbn)); exact HO332.out) hb)
   have n2_ := zaa.mk (zaE (g := gb319) (o := .cells #[.slice A0_0 l0_0.length c0_0, .slice A0_1 l0_1.length c0_1] 41 (0, 0)) (by (with_reducible repeat (first | refine zaf ?_ _ | refine zai ?_ | refine zae ?_ _)); exact BK319.out) hb)
   have n3_ := zaa.mk (zaE (g := gb326) (o := .cells #[.int .i64 t323, .int .i64 t324, .int .i64 t325] 43 (0, 0)) (by (with_reducible repeat (first | refine zaf ?_ _ | refine zai ?_ | refine zae ?_ _)); exact BK326.out) hb)
   have n4_ := zaa.mk (zat (by repeat (first | (with_reducible first | exact HB.out | apply zac | apply zab | apply zad | refine zah ?_ GE319.out | refine zah ?_ GE326.out) | exact HB.out)) hb)
   clear HO329
   clear HO332
   clear BK319
   clear BK326
   clear HB
   have HO329 := n0_
   have HO332 := n1_
   have BK319 := n2_
   have BK326 := n3_
   have HB := n4_
   clear n0_ n1_ n2_ n3_ n4_
   (try clear hb)
   (try clear hb2)
   (try clear hk)
   (try clear hi)
   refine hK.out _ _ ⟨(zaj BK319.out 0).trans rfl, (zaj BK319.out 1).trans rfl, (zaj BK326.out 0).trans rfl, (zaj BK326.out 1).trans rfl, (zaj BK326.out 2).trans rfl⟩ (fun hHeld => ?_)
   clear hK K
   refine zck (a' := ?_) ?_ ?_
   rotate_left
   ·show Act.put _ (some 23) _ = _
    simp only [Act.put, List.setIfInBounds_toArray, List.set_cons_zero, List.set_cons_succ, zax, zay]
    rfl
   refine one_ (i := 7) (N := some 26) #[true, true, true, true, true, true, true, true, false, false, false, false, false] rfl rfl (zbV HT_.out (by kernel_rfl)) (by decide) (fun K hK => ?_)
   refine zde Tryd.func28 (by kernel_rfl) rfl #[.bool t322, .agg #[.int .i64 t323, .int .i64 t324, .int .i64 t325]] (by rfl) rfl rfl (by (try simp only [List.map_toArray, List.map_cons, List.map_nil]); first | done | rfl | (simp only [List.length_drop, List.length_take]; rfl)) ?_
   with_reducible refine (zbt.calls t322 t323 t324 t325 t337 t338 t339 t340 _ A14.out).mono ?_
   rintro e w31 ⟨rfl, hb⟩
   refine ⟨_, rfl, ?_⟩
   have n0_ := zaa.mk (Kd.zb2 (by (with_reducible repeat (first | apply Kd.zbj | apply Kd.zbk | apply Kd.zbn)); exact HO329.out) hb)
   have n1_ := zaa.mk (Kd.zb2 (by (with_reducible repeat (first | apply Kd.zbj | apply Kd.zbk | apply Kd.zbn)); exact HO332.out) hb)
   have n2_ := zaa.mk (zaE (g := gb319) (o := .cells #[.slice A0_0 l0_0.length c0_0, .slice A0_1 l0_1.length c0_1] 41 (0, 0)) (by (with_reducible repeat (first | refine zaf ?_ _ | refine zai ?_ | refine zae ?_ _)); exact BK319.out) hb)
   have n3_ := zaa.mk (zaE (g := gb326) (o := .cells #[.int .i64 t323, .int .i64 t324, .int .i64 t325] 43 (0, 0)) (by (with_reducible repeat (first | refine zaf ?_ _ | refine zai ?_ | refine zae ?_ _)); exact BK326.out) hb)
   have n4_ := zaa.mk (zat (by repeat (first | (with_reducible first | exact HB.out | apply zac | apply zab | apply zad | refine zah ?_ GE319.out | refine zah ?_ GE326.out) | exact HB.out)) hb)
   clear HO329
   clear HO332
   clear BK319
   clear BK326
   clear HB
   have HO329 := n0_
   have HO332 := n1_
   have BK319 := n2_
   have BK326 := n3_
   have HB := n4_
   clear n0_ n1_ n2_ n3_ n4_
   (try clear hb)
   (try clear hb2)
   (try clear hk)
   (try clear hi)
   refine hK.out _ _ ⟨(zaj BK319.out 0).trans rfl, (zaj BK319.out 1).trans rfl, (zaj BK326.out 0).trans rfl, (zaj BK326.out 1).trans rfl, (zaj BK326.out 2).trans rfl⟩ (fun hHeld => ?_)
   clear hK K
   refine zck (a' := ?_) ?_ ?_
   rotate_left
   ·show Act.put _ (some 26) _ = _
    simp only [Act.put, List.setIfInBounds_toArray, List.set_cons_zero, List.set_cons_succ, zax, zay]
    rfl
   refine zaO (i := 8) (N := some 27) (v := ?_) (a' := ?_) #[true, true, true, true, true, true, true, true, true, false, false, false, false] rfl rfl (zaK HT_.out (by kernel_rfl)) (fun _ _ _ h => h) (Or.inl ⟨by rfl, ?_⟩) ?_ ?_
   rotate_left
   ·intro w'
    go_simp
    with_reducible rfl
   rotate_left
   ·simp only [Act.put, List.setIfInBounds_toArray, List.set_cons_zero, List.set_cons_succ, zax, zay]
    rfl
   refine zaO (i := 9) (N := some 28) (v := ?_) (a' := ?_) #[true, true, true, true, true, true, true, true, true, true, false, false, false] rfl rfl (zaK HT_.out (by kernel_rfl)) (fun _ _ _ h => h) (Or.inl ⟨by rfl, ?_⟩) ?_ ?_
   rotate_left
   ·intro w'
    go_simp
    with_reducible rfl
   rotate_left
   ·simp only [Act.put, List.setIfInBounds_toArray, List.set_cons_zero, List.set_cons_succ, zax, zay]
    rfl
   refine one_ (i := 10) (N := some 29) #[true, true, true, true, true, true, true, true, true, true, true, false, false] rfl rfl (zbV HT_.out (by kernel_rfl)) (by decide) (fun K hK => ?_)
   refine zde Tryd.func24 (by kernel_rfl) rfl #[] (by rfl) rfl rfl (by (try simp only [List.map_toArray, List.map_cons, List.map_nil]); first | done | rfl | (simp only [List.length_drop, List.length_take]; rfl)) ?_
   with_reducible refine (zbh.calls  t341 _ A16.out).mono ?_
   rintro e w32 ⟨rfl, hb⟩
   refine ⟨_, rfl, ?_⟩
   have n0_ := zaa.mk (Kd.zb2 (by (with_reducible repeat (first | apply Kd.zbj | apply Kd.zbk | apply Kd.zbn)); exact HO329.out) hb)
   have n1_ := zaa.mk (Kd.zb2 (by (with_reducible repeat (first | apply Kd.zbj | apply Kd.zbk | apply Kd.zbn)); exact HO332.out) hb)
   have n2_ := zaa.mk (zaE (g := gb319) (o := .cells #[.slice A0_0 l0_0.length c0_0, .slice A0_1 l0_1.length c0_1] 41 (0, 0)) (by (with_reducible repeat (first | refine zaf ?_ _ | refine zai ?_ | refine zae ?_ _)); exact BK319.out) hb)
   have n3_ := zaa.mk (zaE (g := gb326) (o := .cells #[.int .i64 t323, .int .i64 t324, .int .i64 t325] 43 (0, 0)) (by (with_reducible repeat (first | refine zaf ?_ _ | refine zai ?_ | refine zae ?_ _)); exact BK326.out) hb)
   have n4_ := zaa.mk (zat (by repeat (first | (with_reducible first | exact HB.out | apply zac | apply zab | apply zad | refine zah ?_ GE319.out | refine zah ?_ GE326.out) | exact HB.out)) hb)
   clear HO329
   clear HO332
   clear BK319
   clear BK326
   clear HB
   have HO329 := n0_
   have HO332 := n1_
   have BK319 := n2_
   have BK326 := n3_
   have HB := n4_
   clear n0_ n1_ n2_ n3_ n4_
   (try clear hb)
   (try clear hb2)
   (try clear hk)
   (try clear hi)
   refine hK.out _ _ ⟨(zaj BK319.out 0).trans rfl, (zaj BK319.out 1).trans rfl, (zaj BK326.out 0).trans rfl, (zaj BK326.out 1).trans rfl, (zaj BK326.out 2).trans rfl⟩ (fun hHeld => ?_)
   clear hK K
   refine zck (a' := ?_) ?_ ?_
   rotate_left
   ·show Act.put _ (some 29) _ = _
    simp only [Act.put, List.setIfInBounds_toArray, List.set_cons_zero, List.set_cons_succ, zax, zay]
    rfl
   refine zaO (i := 11) (N := some 30) (v := ?_) (a' := ?_) #[true, true, true, true, true, true, true, true, true, true, true, true, false] rfl rfl (zaK HT_.out (by kernel_rfl)) (fun _ _ _ h => h) (Or.inl ⟨by rfl, ?_⟩) ?_ ?_
   rotate_left
   ·intro w'
    go_simp
    with_reducible rfl
   rotate_left
   ·simp only [Act.put, List.setIfInBounds_toArray, List.set_cons_zero, List.set_cons_succ, zax, zay]
    rfl
   refine zaO (i := 12) (N := some 6) (v := ?_) (a' := ?_) #[true, true, true, true, true, true, true, true, true, true, true, true, true] rfl rfl (zaK HT_.out (by kernel_rfl)) (fun _ _ _ h => h) (Or.inl ⟨by rfl, ?_⟩) ?_ ?_
   rotate_left
   ·intro w'
    go_simp
    with_reducible rfl
   rotate_left
   ·simp only [Act.put, List.setIfInBounds_toArray, List.set_cons_zero, List.set_cons_succ, zax, zay]
    rfl
   refine zdq (zcS HT_.out (by kernel_rfl)) ?_
   try go_wp2
   go_ret
   exact ⟨by first | rfl | (simp [zam, zan] <;> rfl) | (simp [*, zam, zan] <;> rfl), by repeat (first | (with_reducible first | exact HB.out | apply zac | apply zab | apply zad | refine zah ?_ GE319.out | refine zah ?_ GE326.out) | exact HB.out)⟩
  ·rw [if_neg c15] at H
   have c15b0 : (t333 == t337 && (t334 == t338 && (t335 == t339 && (t336 == t340)))) = false := by simpa using c15
   (try (have c15b1 : decide (t333 = t337 && (t334 == t338 && (t335 == t339 && (t336 == t340)))) = false := by simpa using c15))
   (try (have c15b2 : (t333 == t337 && (t334 == t338 && (t335 == t339 && (t336 == t340)))) = false := by simpa using c15))
   (try (have c15b3 : ¬ (t333 = t337 && (t334 == t338 && (t335 == t339 && (t336 == t340)))) := by simpa using c15))
   clear c15
   obtain rfl := Option.some.inj H
   go_enter Tryd.func6, Tryd.ntmps6
   try go_wp2_with (first | ((with_reducible refine za8 (N := 3) rfl ?_); refine za6 ?hg (N := 3) ?hd (cs := #[.slice A0_0 l0_0.length c0_0, .slice A0_1 l0_1.length c0_1]) (t := 41) ?hr ?_; (case hd => rfl); (case hg => rfl); (case hr => first | (go_simp; done) | (go_simp; rfl)); intro gb319 hg w33 hbox hb; have n0_ := zaa.mk (zat (by repeat (first | (with_reducible first | exact HB.out | apply zac | apply zab | apply zad) | exact HB.out)) hb); have n1_ := zaa.mk (hbox); have n2_ := zaa.mk ((by rw [hg]; exact (zas (by repeat (first | (with_reducible first | exact HB.out | apply zac | apply zab | apply zad) | exact HB.out))) : w.heap.size ≤ gb319)); have n3_ := zaa.mk ((by rw [hg]; exact (zas (by repeat (first | (with_reducible first | exact HB.out | apply zac | apply zab | apply zad) | exact HB.out))) : w.heap.size ≤ gb319)); clear HB; have HB := n0_; have BK319 := n1_; have GW319 := n2_; have GE319 := n3_; clear n0_ n1_ n2_ n3_; clear hb hbox hg; have hcz34_0 : w33.cell? ⟨gb319, 0, none⟩ = some (.slice A0_0 l0_0.length c0_0) := (zaj BK319.out 0).trans rfl; have hcz34_1 : w33.cell? ⟨gb319, 1, none⟩ = some (.slice A0_1 l0_1.length c0_1) := (zaj BK319.out 1).trans rfl; have hfz34_0 := zak BK319.out 0; have hfz34_1 := zak BK319.out 1) | ((with_reducible refine zaI (f := 23) rfl ?_); refine za3 (some 10) rfl rfl Tryd.func23 (by kernel_rfl) rfl #[.agg #[.slice A0_0 l0_0.length c0_0, .slice A0_1 l0_1.length c0_1], .int .i64 12, .int .i64 310, .int .i64 9] rfl (by (try simp only [List.map_toArray, List.map_cons, List.map_nil]); first | done | rfl | (simp only [List.length_drop, List.length_take]; rfl)) ?_; (with_reducible refine (zao.calls k _ _ l0_0 _ _ l0_1 12 310 9 false _ ?side1 ?side2 ?side3 ?side4 A4.out).mono ?_); (case side1 => repeat (first | exact (Kd.za2 HR0_0.out HB.out) | (with_reducible refine Kd.zaQ ?_ _) | (with_reducible refine Kd.zaR ?_ _) | (with_reducible refine Kd.zaZ ?_))); (case side2 => exact HC0_0.out); (case side3 => repeat (first | exact (Kd.za2 HR0_1.out HB.out) | (with_reducible refine Kd.zaQ ?_ _) | (with_reducible refine Kd.zaR ?_ _) | (with_reducible refine Kd.zaZ ?_))); (case side4 => exact HC0_1.out); rintro e w35 ⟨rfl, hb⟩; refine ⟨_, rfl, ?_⟩; have n0_ := zaa.mk (zaE (g := gb319) (o := .cells #[.slice A0_0 l0_0.length c0_0, .slice A0_1 l0_1.length c0_1] 41 (0, 0)) (by (with_reducible repeat (first | refine zaf ?_ _ | refine zai ?_ | refine zae ?_ _)); exact BK319.out) hb); have n1_ := zaa.mk (zat (by repeat (first | (with_reducible first | exact HB.out | apply zac | apply zab | apply zad | refine zah ?_ GE319.out) | exact HB.out)) hb); clear BK319; clear HB; have BK319 := n0_; have HB := n1_; clear n0_ n1_; (try clear hb); (try clear hb2); (try clear hk); (try clear hi); have hcz36_0 : w35.cell? ⟨gb319, 0, none⟩ = some (.slice A0_0 l0_0.length c0_0) := (zaj BK319.out 0).trans rfl; have hcz36_1 : w35.cell? ⟨gb319, 1, none⟩ = some (.slice A0_1 l0_1.length c0_1) := (zaj BK319.out 1).trans rfl; have hfz36_0 := zak BK319.out 0; have hfz36_1 := zak BK319.out 1) | ((with_reducible refine zaI (f := 25) rfl ?_); refine za3 (some 16) rfl rfl Tryd.func25 (by kernel_rfl) rfl #[.agg #[.slice A0_0 l0_0.length c0_0, .slice A0_1 l0_1.length c0_1], .int .i64 a1, .int .i64 a2] rfl (by (try simp only [List.map_toArray, List.map_cons, List.map_nil]); first | done | rfl | (simp only [List.length_drop, List.length_take]; rfl)) ?_; (with_reducible refine (zal.calls k _ _ l0_0 _ _ l0_1 a1 a2 t322 t323 t324 t325 _ ?side1 ?side2 ?side3 ?side4 A11.out).mono ?_); (case side1 => repeat (first | exact (Kd.za2 HR0_0.out HB.out) | (with_reducible refine Kd.zaQ ?_ _) | (with_reducible refine Kd.zaR ?_ _) | (with_reducible refine Kd.zaZ ?_))); (case side2 => exact HC0_0.out); (case side3 => repeat (first | exact (Kd.za2 HR0_1.out HB.out) | (with_reducible refine Kd.zaQ ?_ _) | (with_reducible refine Kd.zaR ?_ _) | (with_reducible refine Kd.zaZ ?_))); (case side4 => exact HC0_1.out); rintro e w37 ⟨rfl, hb⟩; refine ⟨_, rfl, ?_⟩; have n0_ := zaa.mk (zaE (g := gb319) (o := .cells #[.slice A0_0 l0_0.length c0_0, .slice A0_1 l0_1.length c0_1] 41 (0, 0)) (by (with_reducible repeat (first | refine zaf ?_ _ | refine zai ?_ | refine zae ?_ _)); exact BK319.out) hb); have n1_ := zaa.mk (zat (by repeat (first | (with_reducible first | exact HB.out | apply zac | apply zab | apply zad | refine zah ?_ GE319.out) | exact HB.out)) hb); clear BK319; clear HB; have BK319 := n0_; have HB := n1_; clear n0_ n1_; (try clear hb); (try clear hb2); (try clear hk); (try clear hi)) | ((with_reducible refine za8 (N := 8) rfl ?_); refine za6 ?hg (N := 8) ?hd (cs := #[.int .i64 0, .int .i64 0, .int .i64 0]) (t := 43) ?hr ?_; (case hd => rfl); (case hg => rfl); (case hr => first | (go_simp; done) | (go_simp; rfl)); intro gb326 hg w38 hbox hb; have n0_ := zaa.mk (zaE (g := gb319) (o := .cells #[.slice A0_0 l0_0.length c0_0, .slice A0_1 l0_1.length c0_1] 41 (0, 0)) (by (with_reducible repeat (first | refine zaf ?_ _ | refine zai ?_ | refine zae ?_ _)); exact BK319.out) hb); have n1_ := zaa.mk (zat (by repeat (first | (with_reducible first | exact HB.out | apply zac | apply zab | apply zad | refine zah ?_ GE319.out) | exact HB.out)) hb); have n2_ := zaa.mk (hbox); have n3_ := zaa.mk ((by rw [hg]; exact (zas (by repeat (first | (with_reducible first | exact HB.out | apply zac | apply zab | apply zad | refine zah ?_ GE319.out) | exact HB.out))) : w.heap.size ≤ gb326)); have n4_ := zaa.mk ((by rw [hg]; exact (zas (by repeat (first | (with_reducible first | exact HB.out | apply zac | apply zab | apply zad | refine zah ?_ GE319.out) | exact HB.out))) : w.heap.size ≤ gb326)); have n5_ := zaa.mk ((by rw [hg]; exact Nat.ne_of_lt (zbq (g := gb319) (o := .cells #[.slice A0_0 l0_0.length c0_0, .slice A0_1 l0_1.length c0_1] 41 (0, 0)) (by (with_reducible repeat (first | refine zaf ?_ _ | refine zai ?_ | refine zae ?_ _)); exact BK319.out)) : gb319 ≠ gb326)); have n6_ := zaa.mk ((by rw [hg]; exact Nat.ne_of_gt (zbq (g := gb319) (o := .cells #[.slice A0_0 l0_0.length c0_0, .slice A0_1 l0_1.length c0_1] 41 (0, 0)) (by (with_reducible repeat (first | refine zaf ?_ _ | refine zai ?_ | refine zae ?_ _)); exact BK319.out)) : gb326 ≠ gb319)); clear BK319; clear HB; have BK319 := n0_; have HB := n1_; have BK326 := n2_; have GW326 := n3_; have GE326 := n4_; have NB319_326 := n5_; have NB326_319 := n6_; clear n0_ n1_ n2_ n3_ n4_ n5_ n6_; clear hb hbox hg; have hnb39 := NB326_319.out; have hnc39 := NB319_326.out; have hcz40_0 : w38.cell? ⟨gb326, 0, none⟩ = some (.int .i64 0) := (zaj BK326.out 0).trans rfl; have hcz40_1 : w38.cell? ⟨gb326, 1, none⟩ = some (.int .i64 0) := (zaj BK326.out 1).trans rfl; have hcz40_2 : w38.cell? ⟨gb326, 2, none⟩ = some (.int .i64 0) := (zaj BK326.out 2).trans rfl; have hfz40_0 := zak BK326.out 0; have hfz40_1 := zak BK326.out 1; have hfz40_2 := zak BK326.out 2))
   have n0_ : zaa ((((w38.setCell ⟨gb326, 0, none⟩ (.int .i64 t323)).setCell ⟨gb326, 1, none⟩ (.int .i64 t324)).setCell ⟨gb326, 2, none⟩ (.int .i64 t325)).heap[gb319]? = some (.cells #[.slice A0_0 l0_0.length c0_0, .slice A0_1 l0_1.length c0_1] 41 (0, 0))) := ⟨by (with_reducible repeat (first | refine zaf ?_ _ | refine zai ?_ | refine zae ?_ _)); refine zbo ?_ NB319_326.out _; (with_reducible repeat (first | refine zaf ?_ _ | refine zai ?_ | refine zae ?_ _)); refine zbo ?_ NB319_326.out _; (with_reducible repeat (first | refine zaf ?_ _ | refine zai ?_ | refine zae ?_ _)); refine zbo ?_ NB319_326.out _; (with_reducible repeat (first | refine zaf ?_ _ | refine zai ?_ | refine zae ?_ _)); exact BK319.out⟩
   have n1_ : zaa ((((w38.setCell ⟨gb326, 0, none⟩ (.int .i64 t323)).setCell ⟨gb326, 1, none⟩ (.int .i64 t324)).setCell ⟨gb326, 2, none⟩ (.int .i64 t325)).heap[gb326]? = some (.cells #[.int .i64 t323, .int .i64 t324, .int .i64 t325] 43 (0, 0))) := ⟨by (with_reducible repeat (first | refine zaf ?_ _ | refine zai ?_ | refine zae ?_ _)); refine zaT (cs := #[.int .i64 t323, .int .i64 t324, .int .i64 0]) ?_ 2 _ rfl; (with_reducible repeat (first | refine zaf ?_ _ | refine zai ?_ | refine zae ?_ _)); refine zaT (cs := #[.int .i64 t323, .int .i64 0, .int .i64 0]) ?_ 1 _ rfl; (with_reducible repeat (first | refine zaf ?_ _ | refine zai ?_ | refine zae ?_ _)); refine zaT (cs := #[.int .i64 0, .int .i64 0, .int .i64 0]) ?_ 0 _ rfl; (with_reducible repeat (first | refine zaf ?_ _ | refine zai ?_ | refine zae ?_ _)); exact BK326.out⟩
   have n2_ : zaa (Below w.heap.size w (((w38.setCell ⟨gb326, 0, none⟩ (.int .i64 t323)).setCell ⟨gb326, 1, none⟩ (.int .i64 t324)).setCell ⟨gb326, 2, none⟩ (.int .i64 t325))) := ⟨by repeat (first | (with_reducible first | exact HB.out | apply zac | apply zab | apply zad | refine zah ?_ GE319.out | refine zah ?_ GE326.out) | exact HB.out)⟩
   (try clear BK319)
   (try clear BK326)
   (try clear HB)
   generalize (((w38.setCell ⟨gb326, 0, none⟩ (.int .i64 t323)).setCell ⟨gb326, 1, none⟩ (.int .i64 t324)).setCell ⟨gb326, 2, none⟩ (.int .i64 t325)) = w41 at n0_ n1_ n2_ ⊢
   have BK319 := n0_
   have BK326 := n1_
   have HB := n2_
   clear n0_ n1_ n2_
   have n0_ := zaa.mk (zai BK319.out)
   have n1_ := zaa.mk (zai BK326.out)
   have n2_ := zaa.mk (zad HB.out)
   clear BK319
   clear BK326
   clear HB
   have BK319 := n0_
   have BK326 := n1_
   have HB := n2_
   clear n0_ n1_ n2_
   refine zc7 (n := 13) (S := fun w' => w'.cell? ⟨gb319, 0, none⟩ = some (.slice A0_0 l0_0.length c0_0) ∧ w'.cell? ⟨gb319, 1, none⟩ = some (.slice A0_1 l0_1.length c0_1) ∧ w'.cell? ⟨gb326, 0, none⟩ = some (.int .i64 t323) ∧ w'.cell? ⟨gb326, 1, none⟩ = some (.int .i64 t324) ∧ w'.cell? ⟨gb326, 2, none⟩ = some (.int .i64 t325)) (ds := []) #[false, false, false, false, false, false, false, false, false, false, false, false, false] (by kernel_rfl) rfl rfl ⟨(zaj BK319.out 0).trans rfl, (zaj BK319.out 1).trans rfl, (zaj BK326.out 0).trans rfl, (zaj BK326.out 1).trans rfl, (zaj BK326.out 2).trans rfl⟩ (fun hHeld => ?_); refine zcp zaW.tab4 zaW.zjB (fun HT_ HW_ => ?_)
   generalize w41.drew = w42 at BK319 BK326 HB hHeld ⊢
   refine zaO (i := 2) (N := some 21) (v := ?_) (a' := ?_) #[false, false, true, false, false, false, false, false, false, false, false, false, false] rfl rfl (zaK HT_.out (by kernel_rfl)) (fun _ _ _ h => h) (Or.inl ⟨by rfl, ?_⟩) ?_ ?_
   rotate_left
   ·intro w'
    go_simp
    with_reducible rfl
   rotate_left
   ·simp only [Act.put, List.setIfInBounds_toArray, List.set_cons_zero, List.set_cons_succ, zax, zay]
    rfl
   refine zaO (i := 3) (N := some 22) (v := ?_) (a' := ?_) #[false, false, true, true, false, false, false, false, false, false, false, false, false] rfl rfl (zaK HT_.out (by kernel_rfl)) (fun _ _ _ h => h) (Or.inl ⟨by rfl, ?_⟩) ?_ ?_
   rotate_left
   ·intro w'
    go_simp
    with_reducible rfl
   rotate_left
   ·simp only [Act.put, List.setIfInBounds_toArray, List.set_cons_zero, List.set_cons_succ, zax, zay]
    rfl
   refine zaO (i := 5) (N := some 24) (v := ?_) (a' := ?_) #[false, false, true, true, false, true, false, false, false, false, false, false, false] rfl rfl (zaK HT_.out (by kernel_rfl)) (fun _ _ _ h => h) (Or.inl ⟨by rfl, ?_⟩) ?_ ?_
   rotate_left
   ·intro w'
    go_simp
    with_reducible rfl
   rotate_left
   ·simp only [Act.put, List.setIfInBounds_toArray, List.set_cons_zero, List.set_cons_succ, zax, zay]
    rfl
   refine zbQ (i := 0) (N := some 19) (v := ?_) (a' := ?_) #[true, false, true, true, false, true, false, false, false, false, false, false, false] rfl rfl (zbA HT_.out HW_.out (by kernel_rfl)) (fun _ _ _ h => h) (Or.inl ⟨by rfl, ?_⟩) hHeld ?_ ?_
   rotate_left
   ·rintro w' ⟨s0, s1, s2, s3, s4⟩
    go_simp
    with_reducible rfl
   rotate_left
   ·simp only [Act.put, List.setIfInBounds_toArray, List.set_cons_zero, List.set_cons_succ, zax, zay]
    rfl
   refine zbQ (i := 6) (N := some 25) (v := ?_) (a' := ?_) #[true, false, true, true, false, true, true, false, false, false, false, false, false] rfl rfl (zbA HT_.out HW_.out (by kernel_rfl)) (fun _ _ _ h => h) (Or.inl ⟨by rfl, ?_⟩) hHeld ?_ ?_
   rotate_left
   ·rintro w' ⟨s0, s1, s2, s3, s4⟩
    go_simp
    with_reducible rfl
   rotate_left
   ·simp only [Act.put, List.setIfInBounds_toArray, List.set_cons_zero, List.set_cons_succ, zax, zay]
    rfl
   refine one_ (i := 1) (N := some 20) #[true, true, true, true, false, true, true, false, false, false, false, false, false] rfl rfl (zbV HT_.out (by kernel_rfl)) (by decide) (fun K hK => ?_)
   refine zde Tryd.func27 (by kernel_rfl) rfl #[.agg #[.slice A0_0 l0_0.length c0_0, .slice A0_1 l0_1.length c0_1]] (by rfl) rfl rfl (by (try simp only [List.map_toArray, List.map_cons, List.map_nil]); first | done | rfl | (simp only [List.length_drop, List.length_take]; rfl)) ?_
   with_reducible refine (zaq.calls k (fun k_ => k_ < w.heap.size) _ _ l0_0 (fun k_ => k_ < w.heap.size) _ _ l0_1 t327 t330 _ ?side1 ?side2 A12.out).mono ?_
   (case side1 => exact Kd.V_mk HC0_0.out (Kd.zcR (Kd.C_F zeq HR0_0.out) (by repeat (first | (with_reducible first | exact HB.out | apply zac | apply zab | apply zad | refine zah ?_ GE319.out | refine zah ?_ GE326.out) | exact HB.out))))
   (case side2 => exact Kd.V_mk HC0_1.out (Kd.zcR (Kd.C_F (Kd.zcV 62 zeg) HR0_1.out) (by repeat (first | (with_reducible first | exact HB.out | apply zac | apply zab | apply zad | refine zah ?_ GE319.out | refine zah ?_ GE326.out) | exact HB.out))))
   rintro e w43 ⟨v328, v331, rfl, ho0, ho1, hb⟩
   refine ⟨_, rfl, ?_⟩
   have n0_ := zaa.mk (Kd.zdz (Kd.zbO (ok' := fun k_ => some k_ ≠ (v331 : Value).ownBlock ∧ k_ ≠ gb319 ∧ k_ ≠ gb326) ho0 (fun k_ hk_ => ⟨hk_.2, Or.elim hk_.1 (fun hs_ => Or.elim hs_ (fun hs_ => fun e_ => Nat.not_le.2 hs_ (by rw [e_]; exact GW319.out)) (fun hs_ => fun e_ => Nat.not_le.2 hs_ (by rw [e_]; exact GW319.out))) (fun hn_ => (Kd.zbW (g := gb319) (o := .cells #[.slice A0_0 l0_0.length c0_0, .slice A0_1 l0_1.length c0_1] 41 (0, 0)) (by (with_reducible repeat (first | refine zaf ?_ _ | refine zai ?_ | refine zae ?_ _)); exact BK319.out) k_ hn_)), Or.elim hk_.1 (fun hs_ => Or.elim hs_ (fun hs_ => fun e_ => Nat.not_le.2 hs_ (by rw [e_]; exact GW326.out)) (fun hs_ => fun e_ => Nat.not_le.2 hs_ (by rw [e_]; exact GW326.out))) (fun hn_ => (Kd.zbW (g := gb326) (o := .cells #[.int .i64 t323, .int .i64 t324, .int .i64 t325] 43 (0, 0)) (by (with_reducible repeat (first | refine zaf ?_ _ | refine zai ?_ | refine zae ?_ _)); exact BK326.out) k_ hn_))⟩)) (zas (by repeat (first | (with_reducible first | exact HB.out | apply zac | apply zab | apply zad | refine zah ?_ GE319.out | refine zah ?_ GE326.out) | exact HB.out))))
   have n1_ := zaa.mk (Kd.zdz (Kd.zbO (ok' := fun k_ => some k_ ≠ (v328 : Value).ownBlock ∧ k_ ≠ gb319 ∧ k_ ≠ gb326) ho1 (fun k_ hk_ => ⟨hk_.2, Or.elim hk_.1 (fun hs_ => Or.elim hs_ (fun hs_ => fun e_ => Nat.not_le.2 hs_ (by rw [e_]; exact GW319.out)) (fun hs_ => fun e_ => Nat.not_le.2 hs_ (by rw [e_]; exact GW319.out))) (fun hn_ => (Kd.zbW (g := gb319) (o := .cells #[.slice A0_0 l0_0.length c0_0, .slice A0_1 l0_1.length c0_1] 41 (0, 0)) (by (with_reducible repeat (first | refine zaf ?_ _ | refine zai ?_ | refine zae ?_ _)); exact BK319.out) k_ hn_)), Or.elim hk_.1 (fun hs_ => Or.elim hs_ (fun hs_ => fun e_ => Nat.not_le.2 hs_ (by rw [e_]; exact GW326.out)) (fun hs_ => fun e_ => Nat.not_le.2 hs_ (by rw [e_]; exact GW326.out))) (fun hn_ => (Kd.zbW (g := gb326) (o := .cells #[.int .i64 t323, .int .i64 t324, .int .i64 t325] 43 (0, 0)) (by (with_reducible repeat (first | refine zaf ?_ _ | refine zai ?_ | refine zae ?_ _)); exact BK326.out) k_ hn_))⟩)) (zas (by repeat (first | (with_reducible first | exact HB.out | apply zac | apply zab | apply zad | refine zah ?_ GE319.out | refine zah ?_ GE326.out) | exact HB.out))))
   have n2_ := zaa.mk (zaE (g := gb319) (o := .cells #[.slice A0_0 l0_0.length c0_0, .slice A0_1 l0_1.length c0_1] 41 (0, 0)) (by (with_reducible repeat (first | refine zaf ?_ _ | refine zai ?_ | refine zae ?_ _)); exact BK319.out) hb)
   have n3_ := zaa.mk (zaE (g := gb326) (o := .cells #[.int .i64 t323, .int .i64 t324, .int .i64 t325] 43 (0, 0)) (by (with_reducible repeat (first | refine zaf ?_ _ | refine zai ?_ | refine zae ?_ _)); exact BK326.out) hb)
   have n4_ := zaa.mk (zat (by repeat (first | (with_reducible first | exact HB.out | apply zac | apply zab | apply zad | refine zah ?_ GE319.out | refine zah ?_ GE326.out) | exact HB.out)) hb)
   clear BK319
   clear BK326
   clear HB
   have HO329 := n0_
   have HO332 := n1_
   have BK319 := n2_
   have BK326 := n3_
   have HB := n4_
   clear n0_ n1_ n2_ n3_ n4_
   (try clear hb)
   (try clear hb2)
   (try clear hk)
   (try clear hi)
   (try clear ho0)
   (try clear ho1)
   obtain ⟨Ao44, co44, eo44⟩ := Kd.zcB HO329.out
   (first | subst eo44 | (injection eo44 with f1_ f2_ f3_; have f4_ := f1_.symm; have f5_ := f3_.symm; clear f1_ f2_ f3_; subst f4_; subst f5_))
   obtain ⟨Ao45, co45, eo45⟩ := Kd.zcB HO332.out
   (first | subst eo45 | (injection eo45 with f1_ f2_ f3_; have f4_ := f1_.symm; have f5_ := f3_.symm; clear f1_ f2_ f3_; subst f4_; subst f5_))
   refine hK.out _ _ ⟨(zaj BK319.out 0).trans rfl, (zaj BK319.out 1).trans rfl, (zaj BK326.out 0).trans rfl, (zaj BK326.out 1).trans rfl, (zaj BK326.out 2).trans rfl⟩ (fun hHeld => ?_)
   clear hK K
   refine zck (a' := ?_) ?_ ?_
   rotate_left
   ·show Act.put _ (some 20) _ = _
    simp only [Act.put, List.setIfInBounds_toArray, List.set_cons_zero, List.set_cons_succ, zax, zay]
    rfl
   refine one_ (i := 4) (N := some 23) #[true, true, true, true, true, true, true, false, false, false, false, false, false] rfl rfl (zbV HT_.out (by kernel_rfl)) (by decide) (fun K hK => ?_)
   refine zde Tryd.func26 (by kernel_rfl) rfl #[.agg #[.slice Ao44 t327.length co44, .slice Ao45 t330.length co45], .int .i64 a1, .int .i64 a2] (by rfl) rfl rfl (by (try simp only [List.map_toArray, List.map_cons, List.map_nil]); first | done | rfl | (simp only [List.length_drop, List.length_take]; rfl)) ?_
   with_reducible refine (zaG.calls k _ _ t327 _ _ t330 a1 a2 t333 t334 t335 t336 _ ?side1 ?side2 ?side3 ?side4 A13.out).mono ?_
   (case side1 => repeat (first | exact (Kd.zbI HO329.out).2.2 | (with_reducible refine Kd.zaQ ?_ _) | (with_reducible refine Kd.zaR ?_ _) | (with_reducible refine Kd.zaZ ?_)))
   (case side2 => exact (Kd.zbI HO329.out).2.1)
   (case side3 => repeat (first | exact (Kd.zbI HO332.out).2.2 | (with_reducible refine Kd.zaQ ?_ _) | (with_reducible refine Kd.zaR ?_ _) | (with_reducible refine Kd.zaZ ?_)))
   (case side4 => exact (Kd.zbI HO332.out).2.1)
   rintro e w46 ⟨rfl, hb⟩
   refine ⟨_, rfl, ?_⟩
   have n0_ := zaa.mk (Kd.zb2 (by (with_reducible repeat (first | apply Kd.zbj | apply Kd.zbk | apply Kd.zbn)); exact HO329.out) hb)
   have n1_ := zaa.mk (Kd.zb2 (by (with_reducible repeat (first | apply Kd.zbj | apply Kd.zbk | apply Kd.zbn)); exact HO332.out) hb)
   have n2_ := zaa.mk (zaE (g := gb319) (o := .cells #[.slice A0_0 l0_0.length c0_0, .slice A0_1 l0_1.length c0_1] 41 (0, 0)) (by (with_reducible repeat (first | refine zaf ?_ _ | refine zai ?_ | refine zae ?_ _)); exact BK319.out) hb)
   have n3_ := zaa.mk (zaE (g := gb326) (o := .cells #[.int .i64 t323, .int .i64 t324, .int .i64 t325] 43 (0, 0)) (by (with_reducible repeat (first | refine zaf ?_ _ | refine zai ?_ | refine zae ?_ _)); exact BK326.out) hb)
   have n4_ := zaa.mk (zat (by repeat (first | (with_reducible first | exact HB.out | apply zac | apply zab | apply zad | refine zah ?_ GE319.out | refine zah ?_ GE326.out) | exact HB.out)) hb)
   clear HO329
   clear HO332
   clear BK319
   clear BK326
   clear HB
   have HO329 := n0_
   have HO332 := n1_
   have BK319 := n2_
   have BK326 := n3_
   have HB := n4_
   clear n0_ n1_ n2_ n3_ n4_
   (try clear hb)
   (try clear hb2)
   (try clear hk)
   (try clear hi)
   refine hK.out _ _ ⟨(zaj BK319.out 0).trans rfl, (zaj BK319.out 1).trans rfl, (zaj BK326.out 0).trans rfl, (zaj BK326.out 1).trans rfl, (zaj BK326.out 2).trans rfl⟩ (fun hHeld => ?_)
   clear hK K
   refine zck (a' := ?_) ?_ ?_
   rotate_left
   ·show Act.put _ (some 23) _ = _
    simp only [Act.put, List.setIfInBounds_toArray, List.set_cons_zero, List.set_cons_succ, zax, zay]
    rfl
   refine one_ (i := 7) (N := some 26) #[true, true, true, true, true, true, true, true, false, false, false, false, false] rfl rfl (zbV HT_.out (by kernel_rfl)) (by decide) (fun K hK => ?_)
   refine zde Tryd.func28 (by kernel_rfl) rfl #[.bool t322, .agg #[.int .i64 t323, .int .i64 t324, .int .i64 t325]] (by rfl) rfl rfl (by (try simp only [List.map_toArray, List.map_cons, List.map_nil]); first | done | rfl | (simp only [List.length_drop, List.length_take]; rfl)) ?_
   with_reducible refine (zbt.calls t322 t323 t324 t325 t337 t338 t339 t340 _ A14.out).mono ?_
   rintro e w47 ⟨rfl, hb⟩
   refine ⟨_, rfl, ?_⟩
   have n0_ := zaa.mk (Kd.zb2 (by (with_reducible repeat (first | apply Kd.zbj | apply Kd.zbk | apply Kd.zbn)); exact HO329.out) hb)
   have n1_ := zaa.mk (Kd.zb2 (by (with_reducible repeat (first | apply Kd.zbj | apply Kd.zbk | apply Kd.zbn)); exact HO332.out) hb)
   have n2_ := zaa.mk (zaE (g := gb319) (o := .cells #[.slice A0_0 l0_0.length c0_0, .slice A0_1 l0_1.length c0_1] 41 (0, 0)) (by (with_reducible repeat (first | refine zaf ?_ _ | refine zai ?_ | refine zae ?_ _)); exact BK319.out) hb)
   have n3_ := zaa.mk (zaE (g := gb326) (o := .cells #[.int .i64 t323, .int .i64 t324, .int .i64 t325] 43 (0, 0)) (by (with_reducible repeat (first | refine zaf ?_ _ | refine zai ?_ | refine zae ?_ _)); exact BK326.out) hb)
   have n4_ := zaa.mk (zat (by repeat (first | (with_reducible first | exact HB.out | apply zac | apply zab | apply zad | refine zah ?_ GE319.out | refine zah ?_ GE326.out) | exact HB.out)) hb)
   clear HO329
   clear HO332
   clear BK319
   clear BK326
   clear HB
   have HO329 := n0_
   have HO332 := n1_
   have BK319 := n2_
   have BK326 := n3_
   have HB := n4_
   clear n0_ n1_ n2_ n3_ n4_
   (try clear hb)
   (try clear hb2)
   (try clear hk)
   (try clear hi)
   refine hK.out _ _ ⟨(zaj BK319.out 0).trans rfl, (zaj BK319.out 1).trans rfl, (zaj BK326.out 0).trans rfl, (zaj BK326.out 1).trans rfl, (zaj BK326.out 2).trans rfl⟩ (fun hHeld => ?_)
   clear hK K
   refine zck (a' := ?_) ?_ ?_
   rotate_left
   ·show Act.put _ (some 26) _ = _
    simp only [Act.put, List.setIfInBounds_toArray, List.set_cons_zero, List.set_cons_succ, zax, zay]
    rfl
   refine zaO (i := 8) (N := some 27) (v := ?_) (a' := ?_) #[true, true, true, true, true, true, true, true, true, false, false, false, false] rfl rfl (zaK HT_.out (by kernel_rfl)) (fun _ _ _ h => h) (Or.inl ⟨by rfl, ?_⟩) ?_ ?_
   rotate_left
   ·intro w'
    go_simp
    with_reducible rfl
   rotate_left
   ·simp only [Act.put, List.setIfInBounds_toArray, List.set_cons_zero, List.set_cons_succ, zax, zay]
    rfl
   refine zaO (i := 9) (N := some 28) (v := ?_) (a' := ?_) #[true, true, true, true, true, true, true, true, true, true, false, false, false] rfl rfl (zaK HT_.out (by kernel_rfl)) (fun _ _ _ h => h) (Or.inl ⟨by rfl, ?_⟩) ?_ ?_
   rotate_left
   ·intro w'
    go_simp
    with_reducible rfl
   rotate_left
   ·simp only [Act.put, List.setIfInBounds_toArray, List.set_cons_zero, List.set_cons_succ, zax, zay]
    rfl
   refine zaO (i := 10) (N := some 29) (v := undef) (a' := ?_) #[true, true, true, true, true, true, true, true, true, true, true, false, false] rfl rfl (zaK HT_.out (by kernel_rfl)) (fun _ _ _ h => h) (Or.inr ⟨by rfl, rfl⟩) ?_ ?_
   rotate_left
   ·simp only [Act.put, List.setIfInBounds_toArray, List.set_cons_zero, List.set_cons_succ, zax, zay]
    rfl
   refine zaO (i := 11) (N := some 30) (v := ?_) (a' := ?_) #[true, true, true, true, true, true, true, true, true, true, true, true, false] rfl rfl (zaK HT_.out (by kernel_rfl)) (fun _ _ _ h => h) (Or.inl ⟨by rfl, ?_⟩) ?_ ?_
   rotate_left
   ·intro w'
    go_simp
    with_reducible rfl
   rotate_left
   ·simp only [Act.put, List.setIfInBounds_toArray, List.set_cons_zero, List.set_cons_succ, zax, zay]
    rfl
   refine zaO (i := 12) (N := some 6) (v := ?_) (a' := ?_) #[true, true, true, true, true, true, true, true, true, true, true, true, true] rfl rfl (zaK HT_.out (by kernel_rfl)) (fun _ _ _ h => h) (Or.inl ⟨by rfl, ?_⟩) ?_ ?_
   rotate_left
   ·intro w'
    go_simp
    with_reducible rfl
   rotate_left
   ·simp only [Act.put, List.setIfInBounds_toArray, List.set_cons_zero, List.set_cons_succ, zax, zay]
    rfl
   refine zdq (zcS HT_.out (by kernel_rfl)) ?_
   try go_wp2
   go_ret
   exact ⟨by first | rfl | (simp [zam, zan] <;> rfl) | (simp [*, zam, zan] <;> rfl), by repeat (first | (with_reducible first | exact HB.out | apply zac | apply zab | apply zad | refine zah ?_ GE319.out | refine zah ?_ GE326.out) | exact HB.out)⟩
end Go.Proofs.YtbicjgaadknmfaaDoor.P
end
section
namespace Go.Proofs.YtbicjgaadknmfaaDoor.M
set_option linter.unusedVariables false
set_option linter.unusedSimpArgs false
inductive Ex (α : Type) where
  | leaf (a : α)
  | un (a : α) (x : Ex α)
  | bin (a : α) (x y : Ex α)
namespace Ex
variable {α β : Type}
def flat : Ex α → List α
  | leaf a => [a]
  | un a x => x.flat ++ [a]
  | bin a x y => x.flat ++ (y.flat ++ [a])
def root : Ex α → α
  | leaf a => a
  | un a _ => a
  | bin a _ _ => a
def depth : Ex α → Nat
  | leaf _ => 1
  | un _ x => x.depth + 1
  | bin _ x y => max x.depth y.depth + 1
def ok (ar : α → Int) : Ex α → Prop
  | leaf a => ar a = 0
  | un a x => ar a = 1 ∧ x.ok ar
  | bin a x y => ar a = 2 ∧ x.ok ar ∧ y.ok ar
def map (f : α → β) : Ex α → Ex β
  | leaf a => leaf (f a)
  | un a x => un (f a) (x.map f)
  | bin a x y => bin (f a) (x.map f) (y.map f)
theorem zld (f : α → β) (e : Ex α) : (e.map f).flat = e.flat.map f := by
  induction e with
  | leaf a => rfl
  | un a x ih => simp [map, flat, ih]
  | bin a x y ih ih2 => simp [map, flat, ih, ih2]
theorem zlb (f : α → β) (e : Ex α) : (e.map f).depth = e.depth := by
  induction e with
  | leaf a => rfl
  | un a x ih => simp [map, depth, ih]
  | bin a x y ih ih2 => simp [map, depth, ih, ih2]
theorem zle (f : α → β) (e : Ex α) : (e.map f).root = f e.root := by cases e <;> rfl
theorem zlt (f : α → β) (ar : α → Int) (ar' : β → Int) (h : ∀ a, ar' (f a) = ar a) (e : Ex α) : (e.map f).ok ar' ↔ e.ok ar := by
  induction e with
  | leaf a => simp [map, ok, h]
  | un a x ih => simp [map, ok, h, ih]
  | bin a x y ih ih2 => simp [map, ok, h, ih, ih2]
theorem zg8 (e : Ex α) : 0 < e.flat.length := by cases e <;> simp [flat] <;> omega
theorem zk6 (e : Ex α) : 0 < e.depth := by cases e <;> simp [depth]
theorem zdH (e : Ex α) : e.depth ≤ e.flat.length := by
  induction e with
  | leaf a => simp [depth, flat]
  | un a x ih => simp [depth, flat]; omega
  | bin a x y ih ih2 => simp [depth, flat]; omega
theorem zk0 (e : Ex α) : ∃ l, e.flat = l ++ [e.root] := by
  cases e with
  | leaf a => exact ⟨[], rfl⟩
  | un a x => exact ⟨x.flat, rfl⟩
  | bin a x y => exact ⟨x.flat ++ y.flat, by simp [flat, root]⟩
theorem zlm {ar : α → Int} {e : Ex α} (h : e.ok ar) : 0 ≤ ar e.root ∧ ar e.root ≤ 2 := by
  cases e with
  | leaf a => have : ar a = 0 := h; simp [root]; omega
  | un a x => have := h.1; simp [root]; omega
  | bin a x y => have := h.1; simp [root]; omega
end Ex
section
variable {α : Type} (ar : α → Int)
def zbJ : List α → Int → Int → Int
  | [], o, i => if o = 1 then -1 else i
  | a :: l, o, i => if ar a < 0 ∨ o < ar a then i else zbJ l (o + 1 - ar a) (i + 1)
def zcT (l : List α) : Int := zbJ ar l 0 0
def zeF : List (Ex α) → List α
  | [] => []
  | e :: st => zeF st ++ e.flat
variable {ar}
theorem zi9 (l : List α) : ∀ o i, 0 ≤ i → zbJ ar l o i = -1 ∨ (i ≤ zbJ ar l o i ∧ zbJ ar l o i ≤ i + l.length) := by
  induction l with
  | nil => intro o i hi; unfold zbJ; split <;> simp
  | cons a l ih =>
    intro o i hi
    unfold zbJ
    split
    · right; simp; omega
    · rcases ih (o + 1 - ar a) (i + 1) (by omega) with h | h
      · exact .inl h
      · right; simp; omega
theorem zh4 (h2 : ∀ a, ar a ≤ 2) (l : List α) : ∀ (st : List (Ex α)) (i : Int), 0 ≤ i → (∀ e ∈ st, e.ok ar) → zbJ ar l (st.length : Int) i = -1 → ∃ e : Ex α, e.ok ar ∧ e.flat = zeF st ++ l := by
  induction l with
  | nil =>
    intro st i hi hst h
    unfold zbJ at h
    split at h
    · match st, hst with
      | [e], hst => exact ⟨e, hst e (by simp), by simp [zeF]⟩
      | [], _ => simp at *
      | _ :: _ :: _, _ => simp at *; omega
    · omega
  | cons a l ih =>
    intro st i hi hst h
    unfold zbJ at h
    split at h
    · omega
    · rename_i hc
      have hr : 0 ≤ ar a ∧ ar a ≤ (st.length : Int) := by omega
      have h2a := h2 a
      have : ar a = 0 ∨ ar a = 1 ∨ ar a = 2 := by omega
      rcases this with h0 | h0 | h0
      · obtain ⟨e, he, hf⟩ := ih (Ex.leaf a :: st) (i + 1) (by omega) (by
          intro e he
          rcases List.mem_cons.1 he with rfl | he
          · exact h0
          · exact hst e he) (by rw [← h, h0]; simp)
        exact ⟨e, he, by simp [hf, zeF, Ex.flat]⟩
      · match st, hst, hr with
        | x :: st, hst, _ =>
          obtain ⟨e, he, hf⟩ := ih (Ex.un a x :: st) (i + 1) (by omega) (by
            intro e he
            rcases List.mem_cons.1 he with rfl | he
            · exact ⟨h0, hst x (by simp)⟩
            · exact hst e (by simp [he])) (by rw [← h, h0]; congr 1; simp)
          exact ⟨e, he, by simp [hf, zeF, Ex.flat]⟩
        | [], _, hr => simp at hr; omega
      · match st, hst, hr with
        | y :: x :: st, hst, _ =>
          obtain ⟨e, he, hf⟩ := ih (Ex.bin a x y :: st) (i + 1) (by omega) (by
            intro e he
            rcases List.mem_cons.1 he with rfl | he
            · exact ⟨h0, hst x (by simp), hst y (by simp)⟩
            · exact hst e (by simp [he])) (by rw [← h, h0]; congr 1; simp; omega)
          exact ⟨e, he, by simp [hf, zeF, Ex.flat]⟩
        | [_], _, hr => simp at hr; omega
        | [], _, hr => simp at hr; omega
theorem zeR (h2 : ∀ a, ar a ≤ 2) {l : List α} (h : zcT ar l < 0) : ∃ e : Ex α, e.ok ar ∧ e.flat = l := by
  have h' : zcT ar l = -1 := by
    rcases zi9 (ar := ar) l 0 0 (by omega) with h1 | h1
    · exact h1
    · unfold zcT at h; omega
  obtain ⟨e, he, hf⟩ := zh4 h2 l [] 0 (by omega) (by simp) h'
  exact ⟨e, he, by simpa [zeF] using hf⟩
theorem zhJ {e : Ex α} (he : e.ok ar) : ∀ (r : List α) (o i : Int), 0 ≤ o → zbJ ar (e.flat ++ r) o i = zbJ ar r (o + 1) (i + e.flat.length) := by
  induction e with
  | leaf a =>
    intro r o i ho
    have h0 : ar a = 0 := he
    simp only [Ex.flat, List.singleton_append, zbJ, List.length_singleton]
    rw [if_neg (by omega), h0]; simp
  | un a x ih =>
    intro r o i ho
    have h0 := he.1
    simp only [Ex.flat, List.append_assoc, List.singleton_append]
    rw [ih he.2 _ _ _ ho]
    simp only [zbJ]
    rw [if_neg (by omega), h0]
    congr 1
    · omega
    · simp; omega
  | bin a x y ih ih2 =>
    intro r o i ho
    have h0 := he.1
    simp only [Ex.flat, List.append_assoc, List.singleton_append]
    rw [ih he.2.1 _ _ _ ho, ih2 he.2.2 _ _ _ (by omega)]
    simp only [zbJ]
    rw [if_neg (by omega), h0]
    congr 1
    · omega
    · simp; omega
theorem zgC {e : Ex α} (he : e.ok ar) : zcT ar e.flat = -1 := by
  have := zhJ he [] 0 0 (by omega)
  rw [List.append_nil] at this
  unfold zcT
  rw [this]
  simp [zbJ]
theorem zhe {e f : Ex α} (he : e.ok ar) (hf : f.ok ar) : ∀ {p q : List α}, p ++ e.flat = q ++ f.flat → e = f ∧ p = q := by
  induction e generalizing f with
  | leaf a =>
    intro p q h
    have h0 : ar a = 0 := he
    cases f with
    | leaf b =>
      have := List.append_inj' h rfl
      simp [Ex.flat] at this
      exact ⟨by rw [this.2], this.1⟩
    | un b x =>
      have h' := h
      simp only [Ex.flat, ← List.append_assoc] at h'
      have := (List.append_inj' h' rfl).2
      simp at this
      have := hf.1
      subst_vars
      omega
    | bin b x y =>
      have h' := h
      simp only [Ex.flat, ← List.append_assoc] at h'
      have := (List.append_inj' h' rfl).2
      simp at this
      have := hf.1
      subst_vars
      omega
  | un a x ih =>
    intro p q h
    have h0 := he.1
    cases f with
    | leaf b =>
      have h' := h
      simp only [Ex.flat, ← List.append_assoc] at h'
      have := (List.append_inj' h' rfl).2
      simp at this
      have : ar b = 0 := hf
      subst_vars
      omega
    | un b z =>
      have h' := h
      simp only [Ex.flat, ← List.append_assoc] at h'
      obtain ⟨h1, h2⟩ := List.append_inj' h' rfl
      simp at h2
      obtain ⟨rfl, rfl⟩ := ih he.2 hf.2 h1
      exact ⟨by rw [h2], rfl⟩
    | bin b z z2 =>
      have h' := h
      simp only [Ex.flat, ← List.append_assoc] at h'
      have := (List.append_inj' h' rfl).2
      simp at this
      have := hf.1
      subst_vars
      omega
  | bin a x y ih ih2 =>
    intro p q h
    have h0 := he.1
    cases f with
    | leaf b =>
      have h' := h
      simp only [Ex.flat, ← List.append_assoc] at h'
      have := (List.append_inj' h' rfl).2
      simp at this
      have : ar b = 0 := hf
      subst_vars
      omega
    | un b z =>
      have h' := h
      simp only [Ex.flat, ← List.append_assoc] at h'
      have := (List.append_inj' h' rfl).2
      simp at this
      have := hf.1
      subst_vars
      omega
    | bin b z z2 =>
      have h' := h
      simp only [Ex.flat, ← List.append_assoc] at h'
      obtain ⟨h1, h2⟩ := List.append_inj' h' rfl
      simp at h2
      obtain ⟨rfl, h3⟩ := ih2 he.2.2 hf.2.2 h1
      obtain ⟨rfl, rfl⟩ := ih he.2.1 hf.2.1 h3
      exact ⟨by rw [h2], rfl⟩
theorem zjb {e f : Ex α} (he : e.ok ar) (hf : f.ok ar) (h : e.flat = f.flat) : e = f := (zhe he hf (p := []) (q := []) (by simpa using h)).1
end
end Go.Proofs.YtbicjgaadknmfaaDoor.M
end
section
namespace Go.Proofs.YtbicjgaadknmfaaDoor.M
open Go.RowKit Go.Proofs.YtbicjgaadknmfaaDoorW.PrintWords Go.Proofs.YtbicjgaadknmfaaDoor.P
set_option linter.unusedVariables false
set_option linter.unusedSimpArgs false
theorem Wl.set {l : List Int} (h : Wl l) (j : Nat) {v : Int} (h0 : 0 ≤ v) (h1 : v < 4294967296) : Wl (l.set j v) := by
  intro y hy
  rcases List.mem_or_eq_of_mem_set hy with hy | rfl
  · exact h y hy
  · exact ⟨h0, h1⟩
theorem zlq {l : List Int} {j : Nat} (hj : j < l.length) (v : Int) : val (l.set j v) = val l + (v - l[j]) * 4294967296 ^ j := by
  induction l generalizing j with
  | nil => simp at hj
  | cons x l ih =>
    cases j with
    | zero => simp [val]; omega
    | succ j =>
      simp only [List.set_cons_succ, val, List.getElem_cons_succ]
      rw [ih (by simpa using hj), Int.pow_succ]
      grind
theorem zkl {l : List Int} {i : Nat} (hi : i < l.length) : val (l.take (i + 1)) = val (l.take i) + l[i] * 4294967296 ^ i := by
  rw [List.take_succ_eq_append_getElem hi, val_append]
  simp only [List.length_take, val]
  rw [show min i l.length = i by omega]
  grind
theorem zhi (l : List Int) (hn : l.length < 35184372088832) (j : Nat) (hj : j ≤ l.length) : Ev (fun k => zaD.l0 k l (j : Int)) (strip (l.take j)) := by
  induction j with
  | zero =>
    refine Ev.step (f := fun _ => some (strip (l.take 0))) (fun k => ?_) (Ev.now _)
    simp only [zaD.l0]
    rw [if_neg (by omega), Option.bind_some, if_pos (by omega), if_pos (by omega), if_pos (by first | (simp; done) | (simp; omega))]
    rfl
  | succ j ih =>
    have hlt : j < l.length := by omega
    have e : ((j + 1 : Nat) : Int) - 1 = (j : Int) := by omega
    rw [List.take_succ_eq_append_getElem hlt]
    by_cases h0 : l[j] = 0
    · rw [h0, zfF]
      refine Ev.step (fun k => ?_) (ih (by omega))
      simp only [zaD.l0]
      rw [if_pos (by omega), e, zbl (by omega) (by omega), if_pos (by omega), if_pos (by omega), zdP hlt, if_pos h0]
    · rw [zg4 _ _ h0]
      refine Ev.step (f := fun _ => some (l.take j ++ [l[j]])) (fun k => ?_) (Ev.now _)
      simp only [zaD.l0]
      rw [if_pos (by omega), e, zbl (by omega) (by omega), if_pos (by omega), if_pos (by omega), zdP hlt, if_neg h0, Option.bind_some, if_pos (by omega), if_pos (by omega), if_pos (by simp; omega), List.nil_append,
        show ((j + 1 : Nat) : Int).toNat = j + 1 by omega, List.take_succ_eq_append_getElem hlt]
theorem zf4 {l : List Int} (h : Wl l) (hn : l.length < 35184372088832) : Ev (fun k => zaD.f k l) (words (val l).toNat) := by
  have := zhi l hn l.length (Nat.le_refl _)
  rw [List.take_length, zdm h] at this
  exact this
theorem zja (a b : List Int) (hl : a.length = b.length) (hn : a.length ≤ 1000000000) (m : Nat) : ∀ i : Nat, i + m = a.length → Ev (fun k => zaL.l0 k a b (i : Int)) (decide (a.drop i = b.drop i)) := by
  induction m with
  | zero =>
    intro i hi
    refine Ev.step (f := fun _ => some (decide (a.drop i = b.drop i))) (fun k => ?_) (Ev.now _)
    simp only [zaL.l0]
    rw [if_neg (by omega), List.drop_of_length_le (by omega), List.drop_of_length_le (by omega)]
    rfl
  | succ m ih =>
    intro i hi
    have h1 : i < a.length := by omega
    have h2 : i < b.length := by omega
    rw [List.drop_eq_getElem_cons h1, List.drop_eq_getElem_cons h2]
    by_cases he : a[i] = b[i]
    · have e : decide (a[i] :: a.drop (i + 1) = b[i] :: b.drop (i + 1)) = decide (a.drop (i + 1) = b.drop (i + 1)) := decide_eq_decide.2 ⟨fun h => (List.cons.inj h).2, fun h => by rw [he, h]⟩
      rw [e]
      refine Ev.step (fun k => ?_) (ih (i + 1) (by omega))
      simp only [zaL.l0]
      rw [if_pos (by omega), if_pos (by omega), if_pos (by omega), zdP h1, zdP h2, if_pos he, zbl (by omega) (by omega)]
      rfl
    · have e : decide (a[i] :: a.drop (i + 1) = b[i] :: b.drop (i + 1)) = false := decide_eq_false (fun h => he (List.cons.inj h).1)
      rw [e]
      refine Ev.step (f := fun _ => some false) (fun k => ?_) (Ev.now _)
      simp only [zaL.l0]
      rw [if_pos (by omega), if_pos (by omega), if_pos (by omega), zdP h1, zdP h2, if_neg he]
theorem zjL (a b : List Int) (hn : a.length ≤ 1000000000) : Ev (fun k => zaL.f k a b) (decide (a = b)) := by
  by_cases hl : a.length = b.length
  · refine Ev.congr (fun k => ?_) (zja a b hl hn a.length 0 (by omega))
    unfold zaL.f
    rw [if_pos (by omega)]
    rfl
  · have e : decide (a = b) = false := by simp; intro h; exact hl (by rw [h])
    rw [e]
    refine Ev.congr (f := fun _ => some false) (fun k => ?_) (Ev.now _)
    unfold zaL.f
    rw [if_neg (by omega)]
theorem zj0 {l : List Int} (hl : Wl l) (hn : l.length ≤ 1000000000) (j : Nat) :
    ∀ (qs : List Int) (r : Int), j ≤ l.length → Wl qs → val qs * 10 + r = val (l.drop j) → 0 ≤ r → r < 10 →
      ∃ o, Ev (fun k => zaN.l0 k (l.take j ++ qs) r ((j : Int) - 1)) (val l % 10, o) ∧ Wl o ∧ val o = val l / 10 ∧ o.length = j + qs.length := by
  induction j with
  | zero =>
    intro qs r hj hw hv h0 h1
    obtain ⟨e1, e2⟩ := zfU hv h0 h1
    rw [List.drop_zero] at e1 e2
    refine ⟨qs, ?_, hw, e1.symm, by omega⟩
    refine Ev.step (f := fun _ => some (val l % 10, qs)) (fun k => ?_) (Ev.now _)
    simp only [zaN.l0, List.take_zero, List.nil_append]
    rw [if_neg (by omega), e2]
  | succ j ih =>
    intro qs r hj hw hv h0 h1
    have hi : j < l.length := by omega
    have hg := hl.get j hi
    have hdm := Int.mul_ediv_add_emod (r * 4294967296 + l[j]) 10
    have hq0 : 0 ≤ (r * 4294967296 + l[j]) / 10 := by omega
    have hq1 : (r * 4294967296 + l[j]) / 10 < 4294967296 := by omega
    have hr0 : 0 ≤ (r * 4294967296 + l[j]) % 10 := by omega
    have hr1 : (r * 4294967296 + l[j]) % 10 < 10 := by omega
    have hv' : val ((r * 4294967296 + l[j]) / 10 :: qs) * 10 + (r * 4294967296 + l[j]) % 10 = val (l.drop j) := by
      rw [List.drop_eq_getElem_cons hi]
      simp only [val]
      rw [← hv]
      grind
    obtain ⟨o, he, hwo, hvo, hlo⟩ := ih ((r * 4294967296 + l[j]) / 10 :: qs) _ (by omega) (Wl.cons hq0 hq1 hw) hv' hr0 hr1
    refine ⟨o, ?_, hwo, hvo, by rw [hlo]; simp; omega⟩
    refine Ev.step (fun k => ?_) he
    simp only [zaN.l0]
    have e1 : ((j + 1 : Nat) : Int) - 1 = (j : Int) := by omega
    have e2 : (l.take (j + 1) ++ qs).set j ((r * 4294967296 + l[j]) / 10) = l.take j ++ (r * 4294967296 + l[j]) / 10 :: qs := by
      rw [List.take_succ_eq_append_getElem hi, List.append_assoc, List.set_append_right _ _ (by simp; omega)]
      simp [show min j l.length = j by omega]
    have e3 : rd (l.take (j + 1) ++ qs) (j : Int) = l[j] := by
      rw [zdP (by simp; omega), List.getElem_append_left (by simp; omega), List.getElem_take]
    rw [e1, if_pos (by omega), if_pos (by omega), if_pos (by simp; omega), e3, zdC (n := l[j]) (by omega) (by omega), zdC (n := r * 4294967296) (by omega) (by omega), zdC (n := r * 4294967296 + l[j]) (by omega) (by omega),
      Int.tmod_eq_emod_of_nonneg (by omega), Int.tdiv_eq_ediv_of_nonneg (by omega), zdC hq0 (by omega), Int.emod_eq_of_lt (a := (r * 4294967296 + l[j]) / 10) hq0 hq1, show ((j : Int)).toNat = j from by omega, e2, zbl (by omega) (by omega)]
theorem zky {l : List Int} (hl : Wl l) (hn : l.length ≤ 1000000000) : ∃ o, Ev (fun k => zaN.f k l) (val l % 10, o) ∧ Wl o ∧ val o = val l / 10 ∧ o.length = l.length := by
  obtain ⟨o, he, hw, hv, hlo⟩ := zj0 hl hn l.length [] 0 (Nat.le_refl _) Wl.nil (by simp [val]) (by omega) (by omega)
  refine ⟨o, Ev.congr (fun k => ?_) he, hw, hv, by simpa using hlo⟩
  unfold zaN.f
  rw [List.take_length, List.append_nil, zbl (by omega) (by omega)]
theorem ziR (d : Nat) (h : d < 10) : ((⟨#[48, 49, 50, 51, 52, 53, 54, 55, 56, 57]⟩ : ByteArray).extract d (d + 1)) = ofL [UInt8.ofNat (48 + d)] := by
  have : d = 0 ∨ d = 1 ∨ d = 2 ∨ d = 3 ∨ d = 4 ∨ d = 5 ∨ d = 6 ∨ d = 7 ∨ d = 8 ∨ d = 9 := by omega
  rcases this with rfl | rfl | rfl | rfl | rfl | rfl | rfl | rfl | rfl | rfl <;> rfl
theorem zgg (n : Nat) (s : List UInt8) (hn : (words n).length ≤ 1000000) (hs : s.length ≤ 1000000000) {R : ByteArray} (k : Ev (fun k => zau.l0 k (words (n / 10)) (ofL (UInt8.ofNat (48 + n % 10) :: s))) R) :
    Ev (fun k => zau.j1 k (words n) (ofL s) true) R := by
  obtain ⟨o, he, hw, hv, hlo⟩ := zky (zeE n) (by omega)
  rw [zdx] at he hv
  have hno := zf4 hw (by omega)
  rw [hv] at hno
  have e1 : ((n : Int) / 10).toNat = n / 10 := by omega
  have e2 : (n : Int) % 10 = ((n % 10 : Nat) : Int) := by omega
  have hd : n % 10 < 10 := by omega
  rw [e1] at hno
  rw [e2] at he
  generalize hdd : n % 10 = d at *
  obtain ⟨K1, k1⟩ := he
  obtain ⟨K2, k2⟩ := hno
  obtain ⟨K3, k3⟩ := k
  dsimp only at k1 k2 k3
  refine ⟨K1 + K2 + K3 + 1, fun k hk => ?_⟩
  obtain ⟨k, rfl⟩ : ∃ j, k = j + 1 := ⟨k - 1, by omega⟩
  have e3 : IntKind.u64.wrap ((d : Int) + 1) = ((d + 1 : Nat) : Int) := by rw [zdC (by omega) (by omega)]; omega
  have e4 : ofL [UInt8.ofNat (48 + d)] ++ ofL s = ofL (UInt8.ofNat (48 + d) :: s) := by apply zf1; simp
  simp only [zau.j1]
  rw [if_pos trivial, k1 k (by omega), Option.bind_some]
  simp only [e3, Int.toNat_natCast]
  rw [ziR d hd, if_pos (by omega), if_pos (by omega), if_pos (by omega), if_pos (by simp; omega), k2 k (by omega), Option.bind_some, e4]
  exact k3 k (by omega)
theorem zjj (n : Nat) : ∀ (s : List UInt8), (words n).length ≤ 1000000 → (if n = 0 ∧ s ≠ [] then s else dec n ++ s).length ≤ 1000000000 → Ev (fun k => zau.l0 k (words n) (ofL s)) (ofL (if n = 0 ∧ s ≠ [] then s else dec n ++ s)) := by
  induction n using Nat.strongRecOn with
  | ind n ih =>
    intro s hn hs
    by_cases h0 : n = 0
    · subst h0
      rw [zcd]
      by_cases hs0 : s = []
      · subst hs0
        rw [if_neg (by simp)]
        have e5 : Ev (fun k => zau.l0 k (words (0 / 10)) (ofL [UInt8.ofNat (48 + 0 % 10)])) (ofL (dec 0 ++ [])) := by
          rw [show (0 / 10 : Nat) = 0 from rfl, zcd, zdT 0 (by decide)]
          refine Ev.step (f := fun k => zau.j1 k [] (ofL [UInt8.ofNat (48 + 0 % 10)]) false) (fun k => ?_) (Ev.step (f := fun _ => some (ofL [UInt8.ofNat (48 + 0)])) (fun k => ?_) (Ev.now _))
          · simp only [zau.l0]
            rw [if_neg (by simp), toList_eq, zc2]
            rfl
          · rfl
        have := zgg 0 [] (by rw [zcd]; simp) (by simp) e5
        rw [zcd] at this
        refine Ev.step (fun k => ?_) this
        simp only [zau.l0]
        rw [if_neg (by simp), toList_eq, zc2]
        rfl
      · rw [if_pos ⟨rfl, hs0⟩]
        refine Ev.step (fun k => ?_) (Ev.step (f := fun _ => some (ofL s)) (fun k => ?_) (Ev.now _) : Ev (fun k => zau.j1 k [] (ofL s) false) (ofL s))
        · simp only [zau.l0]
          rw [if_neg (by simp), toList_eq, zc2, show (s == []) = false by simpa using hs0]
        · simp only [zau.j1]
          rw [if_neg (by simp)]
    · rw [if_neg (by simp [h0])]
      have hlen : (words (n / 10)).length ≤ 1000000 := by
        refine Nat.le_trans (zfx ?_) hn
        have := zev (zeE n)
        rw [zdx] at this
        simp only [Int.toNat_natCast] at this
        exact Nat.lt_of_le_of_lt (Nat.div_le_self _ _) this
      have hd : dec n ++ s = (if n / 10 = 0 then [] else dec (n / 10)) ++ UInt8.ofNat (48 + n % 10) :: s := by
        by_cases h1 : n / 10 = 0
        · rw [if_pos h1, zdT n (by omega), show n % 10 = n by omega]; rfl
        · rw [if_neg h1, zfv n (by omega)]; simp
      have e6 : (if n / 10 = 0 ∧ UInt8.ofNat (48 + n % 10) :: s ≠ [] then UInt8.ofNat (48 + n % 10) :: s else dec (n / 10) ++ UInt8.ofNat (48 + n % 10) :: s) = dec n ++ s := by
        rw [hd]
        by_cases h1 : n / 10 = 0
        · rw [if_pos ⟨h1, by simp⟩, if_pos h1]; rfl
        · rw [if_neg (by simp [h1]), if_neg h1]
      rw [if_neg (by simp [h0]), List.length_append] at hs
      have hk := ih (n / 10) (by omega) (UInt8.ofNat (48 + n % 10) :: s) hlen (by rw [e6, List.length_append]; exact hs)
      rw [e6] at hk
      refine Ev.step (fun k => ?_) (zgg n s hn (by omega) hk)
      simp only [zau.l0]
      rw [if_pos]
      have : words n ≠ [] := fun h => h0 ((zdY n).1 h)
      have := List.length_pos_iff.2 this
      omega
set_option linter.unusedSectionVars false
theorem zkc {n w : Nat} (h : n < 10 ^ w) (hw : 0 < w) : (dec n).length ≤ w := by
  induction w generalizing n with
  | zero => omega
  | succ w ih =>
    by_cases h1 : n < 10
    · rw [zdT n h1]; simp
    · rw [zfv n (by omega), List.length_append, List.length_singleton]
      have hw0 : 0 < w := by
        cases w with
        | zero => simp at h; omega
        | succ w => omega
      have := ih (n := n / 10) (by rw [Nat.pow_succ] at h; omega) hw0
      omega
theorem zgs {l : List Int} (h : Wl l) : (dec (val l).toNat).length ≤ 10 * l.length + 1 := by
  refine zkc ?_ (by omega)
  refine Nat.lt_of_lt_of_le (zev h) ?_
  have h1 : 4294967296 ^ l.length ≤ 10 ^ (10 * l.length) := by
    rw [Nat.pow_mul]
    exact Nat.pow_le_pow_left (by decide) _
  exact Nat.le_trans h1 (Nat.pow_le_pow_right (by decide) (by omega))
theorem zjS {l : List Int} (h : Wl l) (hn : l.length ≤ 1000000) : Ev (fun k => zau.f k l) (ofL (dec (val l).toNat)) := by
  have hl := zgs h
  have := zjj (val l).toNat [] (Nat.le_trans (zfx (zev h)) hn) (by rw [if_neg (by simp), List.append_nil]; omega)
  rw [if_neg (by simp), List.append_nil] at this
  exact Ev.bind (f := fun n t => zau.l0 n t ⟨#[]⟩) (zf4 h (by omega)) this
end Go.Proofs.YtbicjgaadknmfaaDoor.M
end
section
namespace Go.Proofs.YtbicjgaadknmfaaDoor.M
open Go.RowKit Go.Proofs.YtbicjgaadknmfaaDoorW.PrintWords Go.Proofs.YtbicjgaadknmfaaDoor.P Go.Proofs.YtbicjgaadknmfaaDoorW.PrintMore
set_option linter.unusedVariables false
set_option linter.unusedSimpArgs false
abbrev SN := S60
abbrev RN := S62
def toN (x : RN) : SN := ⟨x.f0, x.f1, x.f2⟩
theorem rdS {l : List SN} {i : Nat} (h : i < l.length) : zaU l (i : Int) = l[i] := by
  unfold zaU
  simp [List.getD_eq_getElem?_getD, h]
theorem rdR {l : List RN} {i : Nat} (h : i < l.length) : zbf l (i : Int) = l[i] := by
  unfold zbf
  simp [List.getD_eq_getElem?_getD, h]
theorem zby {α : Type} {l : List α} {i : Nat} {a : α} {r : List α} (h : l.drop i = a :: r) : ∃ hi : i < l.length, l[i] = a ∧ l.drop (i + 1) = r := by
  have hi : i < l.length := by
    have := congrArg List.length h
    simp at this; omega
  have := List.drop_eq_getElem_cons hi
  rw [h] at this
  injection this with h1 h2
  exact ⟨hi, h1.symm, h2.symm⟩
def arOp (op : Int) : Int := if 1 ≤ op ∧ op ≤ 5 then 0 else if op = 6 ∨ op = 11 then 1 else if 7 ≤ op ∧ op ≤ 10 then 2 else -1
def arN (x : SN) : Int := arOp x.f0
theorem zgE (x : SN) : arN x ≤ 2 ∧ -1 ≤ arN x := by unfold arN arOp; repeat' split; all_goals omega
theorem zg0 (op : Int) : op = 1 ∨ op = 2 ∨ op = 3 ∨ op = 4 ∨ op = 5 ∨ op = 6 ∨ op = 7 ∨ op = 8 ∨ op = 9 ∨ op = 10 ∨ op = 11 ∨ (op < 1 ∨ 11 < op) := by omega
theorem zdD (op : Int) : Ev (fun k => zaM.f k op) (arOp op) := by
  refine ⟨2, fun k hk => ?_⟩
  obtain ⟨m, rfl⟩ : ∃ m, k = m + 2 := ⟨k - 2, by omega⟩
  rcases zg0 op with h | h | h | h | h | h | h | h | h | h | h | h
  any_goals (subst h; rfl)
  have b : ∀ c : Int, 1 ≤ c → c ≤ 11 → (op == c) = false ∧ ¬ op = c := fun c h1 h2 => ⟨by simp; omega, by omega⟩
  unfold zaM.f arOp
  simp only [zaM.j0, zaM.j1]
  rw [if_neg (b 1 (by omega) (by omega)).2, if_neg (b 2 (by omega) (by omega)).2, if_neg (b 3 (by omega) (by omega)).2, if_neg (b 4 (by omega) (by omega)).2, (b 5 (by omega) (by omega)).1, (b 11 (by omega) (by omega)).1]
  rw [if_neg (by decide), if_neg (b 6 (by omega) (by omega)).2, if_neg (by decide), if_neg (b 7 (by omega) (by omega)).2, if_neg (b 8 (by omega) (by omega)).2, if_neg (b 9 (by omega) (by omega)).2, if_neg (b 10 (by omega) (by omega)).2, if_neg (by omega), if_neg (by omega), if_neg (by omega)]
theorem zgi (op : Int) : Ev (fun k => zav.f k op) (arOp op) := by
  refine ⟨2, fun k hk => ?_⟩
  obtain ⟨m, rfl⟩ : ∃ m, k = m + 2 := ⟨k - 2, by omega⟩
  rcases zg0 op with h | h | h | h | h | h | h | h | h | h | h | h
  any_goals (subst h; rfl)
  unfold zav.f arOp
  simp only [zav.j0, zav.j1]
  rw [if_neg (show ¬ (1 ≤ op ∧ op ≤ 5) by omega), if_neg (show ¬ (op = 6 ∨ op = 11) by omega), if_neg (show ¬ (7 ≤ op ∧ op ≤ 10) by omega)]
  rcases h with h | h
  · rw [if_neg (by omega), if_neg (by decide), if_neg (by omega), show (op == 11) = false by simp; omega, if_neg (by decide), if_neg (by omega)]
  · rw [if_pos (by omega), show decide (op ≤ 5) = false from decide_eq_false (by omega), if_neg (by decide), if_neg (by omega), show (op == 11) = false by simp; omega, if_neg (by decide), if_pos (by omega), if_neg (by omega)]
theorem zgw (l : List SN) (hl : l.length ≤ 1000000) : ∀ (r : List SN) (i : Nat) (o : Int), l.drop i = r → i ≤ l.length → 0 ≤ o → o ≤ i →
    Ev (fun k => zba.l0 k l o l (l.length : Int) (i : Int)) (zbJ arN r o (i : Int)) := by
  intro r
  induction r with
  | nil =>
    intro i o hd hi h0 h1
    have : l.length ≤ i := by simpa using hd
    obtain rfl : i = l.length := by omega
    refine Ev.step (f := fun _ => some (zbJ arN [] o (l.length : Int))) (fun k => ?_) (Ev.now _)
    simp only [zba.l0, zbJ]
    rw [if_neg (by omega)]
    split <;> rfl
  | cons a r ih =>
    intro i o hd hi h0 h1
    obtain ⟨hlt, ha, hr⟩ := zby hd
    refine Ev.step (f := fun k => (zaM.f k a.f0).bind fun t => if t < 0 then some (i : Int) else if t > o then some (i : Int) else zba.l0 k l (wrap64 (o + wrap64 (1 - t))) l (l.length : Int) (wrap64 ((i : Int) + 1))) (fun k => ?_) ?_
    · simp only [zba.l0]
      rw [if_pos (by omega), if_pos (by omega), if_pos (by omega), rdS hlt, ha]
    · refine Ev.bind (zdD a.f0) ?_
      have hb := zgE a
      unfold zbJ
      show Ev _ (if arN a < 0 ∨ o < arN a then _ else _)
      change Ev (fun k => if arN a < 0 then some (i : Int) else if arN a > o then some (i : Int) else zba.l0 k l (wrap64 (o + wrap64 (1 - arN a))) l (l.length : Int) (wrap64 ((i : Int) + 1))) _
      by_cases c : arN a < 0
      · rw [if_pos (.inl c)]; exact Ev.congr (fun _ => if_pos c) (Ev.now _)
      · by_cases c2 : o < arN a
        · rw [if_pos (.inr c2)]; exact Ev.congr (fun _ => by rw [if_neg c, if_pos c2]) (Ev.now _)
        · rw [if_neg (by omega)]
          have := ih (i + 1) (o + 1 - arN a) hr (by omega) (by omega) (by omega)
          refine Ev.congr (fun k => ?_) this
          rw [if_neg c, if_neg c2, zbl (n := 1 - arN a) (by omega) (by omega), zbl (by omega) (by omega), zbl (by omega) (by omega)]
          congr 1
          omega
theorem zfV (l : List SN) (hl : l.length ≤ 1000000) : Ev (fun k => zba.f k l) (zcT arN l) := zgw l hl l 0 0 rfl (by omega) (by omega) (by omega)
theorem zg7 (l : List RN) (hl : l.length ≤ 1000000) : ∀ (r : List RN) (i : Nat) (o : Int), l.drop i = r → i ≤ l.length → 0 ≤ o → o ≤ i →
    Ev (fun k => zaH.l0 k l o (i : Int)) (zbJ arN (r.map toN) o (i : Int)) := by
  intro r
  induction r with
  | nil =>
    intro i o hd hi h0 h1
    have : l.length ≤ i := by simpa using hd
    obtain rfl : i = l.length := by omega
    refine Ev.step (f := fun _ => some (zbJ arN [] o (l.length : Int))) (fun k => ?_) (Ev.now _)
    simp only [zaH.l0, zbJ]
    rw [if_neg (by omega)]
    split <;> rfl
  | cons a r ih =>
    intro i o hd hi h0 h1
    obtain ⟨hlt, ha, hr⟩ := zby hd
    refine Ev.step (f := fun k => (zav.f k a.f0).bind fun t => if t < 0 then some (i : Int) else if o < t then some (i : Int) else zaH.l0 k l (wrap64 ((wrap64 (o - t)) + 1)) (wrap64 ((i : Int) + 1))) (fun k => ?_) ?_
    · simp only [zaH.l0]
      rw [if_pos (by omega), if_pos (by omega), rdR hlt, ha]
    · refine Ev.bind (zgi a.f0) ?_
      have hb := zgE (toN a)
      rw [List.map_cons]
      unfold zbJ
      change Ev (fun k => if arN (toN a) < 0 then some (i : Int) else if o < arN (toN a) then some (i : Int) else zaH.l0 k l (wrap64 ((wrap64 (o - arN (toN a))) + 1)) (wrap64 ((i : Int) + 1))) (if arN (toN a) < 0 ∨ o < arN (toN a) then _ else _)
      by_cases c : arN (toN a) < 0
      · rw [if_pos (.inl c)]; exact Ev.congr (fun _ => if_pos c) (Ev.now _)
      · by_cases c2 : o < arN (toN a)
        · rw [if_pos (.inr c2)]; exact Ev.congr (fun _ => by rw [if_neg c, if_pos c2]) (Ev.now _)
        · rw [if_neg (by omega)]
          have := ih (i + 1) (o + 1 - arN (toN a)) hr (by omega) (by omega) (by omega)
          refine Ev.congr (fun k => ?_) this
          rw [if_neg c, if_neg c2, zbl (n := o - arN (toN a)) (by omega) (by omega), zbl (by omega) (by omega), zbl (by omega) (by omega)]
          congr 1
          omega
theorem zgh (l : List RN) (hl : l.length ≤ 1000000) : Ev (fun k => zaH.f k l) (zcT arN (l.map toN)) := zg7 l hl l 0 0 rfl (by omega) (by omega) (by omega)
open Classical in
noncomputable def zdg (l : List SN) : Int := if h : ∃ e : Ex SN, e.ok arN ∧ e.flat = l then ((Classical.choose h).depth : Int) else 0
theorem zft {e : Ex SN} (h : e.ok arN) : zdg e.flat = e.depth := by
  unfold zdg
  have hx : ∃ f : Ex SN, f.ok arN ∧ f.flat = e.flat := ⟨e, h, rfl⟩
  rw [dif_pos hx]
  obtain ⟨h1, h2⟩ := Classical.choose_spec hx
  rw [zjb h1 h h2]
theorem zeX {l : List SN} (h : 0 ≤ zcT arN l) : zdg l = 0 := by
  unfold zdg
  rw [dif_neg]
  rintro ⟨e, he, rfl⟩
  have := zgC he
  omega
theorem zkA (s : List Int) (d : Int) : rd (s ++ [d]) (s.length : Int) = d := by
  unfold rd
  simp [List.getD_eq_getElem?_getD]
theorem zeY (s : List Int) (d x : Int) (l : List SN) (i : Nat) (t : Int) (j : Nat) (hs : s.length ≤ 1000000) (hj : (j : Int) < t) (hj2 : j ≤ 10) (k : Nat) :
    zaS.l1 (k + 1) (s ++ [d]) x l (l.length : Int) (i : Int) t (j : Int) = zaS.l1 k s (mx x d) l (l.length : Int) (i : Int) t ((j + 1 : Nat) : Int) := by
  simp only [zaS.l1]
  have hw : wrap64 (((s ++ [d]).length : Int) - 1) = (s.length : Int) := by
    rw [List.length_append, List.length_singleton, zbl (by omega) (by omega)]; omega
  rw [if_pos hj, hw, if_pos (by omega), if_pos (by rw [List.length_append, List.length_singleton]; omega), if_pos (by rw [List.length_append, List.length_singleton]; omega), zkA, Int.toNat_natCast, List.take_left', zbl (by omega) (by omega)]
  · rfl
  · rfl
theorem zeI (s : List Int) (x : Int) (l : List SN) (i : Nat) (t : Int) (hs : s.length ≤ 1000000) (hi : i ≤ 1000000) (hx : 0 ≤ x ∧ x ≤ 1000000) (k : Nat) :
    zaS.l1 (k + 1) s x l (l.length : Int) (i : Int) t t = zaS.l0 k (s ++ [x + 1]) l (l.length : Int) ((i + 1 : Nat) : Int) := by
  simp only [zaS.l1]
  rw [if_neg (by omega), if_pos (by omega), zbl (by omega) (by omega), zbl (by omega) (by omega)]
  rfl
theorem zjA (a b : Nat) : mx (a : Int) (b : Int) = ((max a b : Nat) : Int) := by
  unfold mx
  split <;> omega
theorem ziS (l : List SN) (hl : l.length ≤ 1000000) {e : Ex SN} (he : e.ok arN) : ∀ (i : Nat) (s : List Int) (r : List SN) {R : Int}, l.drop i = e.flat ++ r → s.length ≤ i →
    Ev (fun k => zaS.l0 k (s ++ [(e.depth : Int)]) l (l.length : Int) ((i + e.flat.length : Nat) : Int)) R → Ev (fun k => zaS.l0 k s l (l.length : Int) (i : Int)) R := by
  induction e with
  | leaf a =>
    intro i s r R hd hs hk
    obtain ⟨hlt, ha, hr⟩ := zby hd
    have h0 : arOp a.f0 = 0 := he
    refine Ev.step (f := fun k => (zaM.f k a.f0).bind fun t => zaS.l1 k s 0 l (l.length : Int) (i : Int) t 0) (fun k => ?_) ?_
    · simp only [zaS.l0]
      rw [if_pos (by omega), if_pos (by omega), if_pos (by omega), rdS hlt, ha]
    · refine Ev.bind (zdD a.f0) ?_
      rw [h0]
      exact Ev.step (fun k => zeI s 0 l i 0 (by omega) (by omega) (by omega) k) hk
  | un a x ih =>
    intro i s r R hd hs hk
    simp only [Ex.flat, List.append_assoc, List.singleton_append] at hd
    have hle := congrArg List.length hd
    simp at hle
    have hdx := x.zdH
    have hd2 : l.drop (i + x.flat.length) = a :: r := by rw [← List.drop_drop, hd, List.drop_left]
    obtain ⟨hlt, ha, hr⟩ := zby hd2
    have h0 : arOp a.f0 = 1 := he.1
    refine ih he.2 i s (a :: r) hd hs ?_
    refine Ev.step (f := fun k => (zaM.f k a.f0).bind fun t => zaS.l1 k (s ++ [(x.depth : Int)]) 0 l (l.length : Int) ((i + x.flat.length : Nat) : Int) t 0) (fun k => ?_) ?_
    · simp only [zaS.l0]
      rw [if_pos (by omega), if_pos (by omega), if_pos (by omega), rdS hlt, ha]
    · refine Ev.bind (zdD a.f0) ?_
      rw [h0]
      refine Ev.step (fun k => zeY s x.depth 0 l (i + x.flat.length) 1 0 (by omega) (by decide) (by decide) k) ?_
      have e1 := zjA 0 x.depth
      rw [Nat.zero_max] at e1
      have e1' : mx 0 (x.depth : Int) = (x.depth : Int) := e1
      rw [e1']
      refine Ev.step (fun k => zeI s x.depth l (i + x.flat.length) 1 (by omega) (by omega) (by omega) k) ?_
      have : i + (Ex.un a x).flat.length = i + x.flat.length + 1 := by simp [Ex.flat]; omega
      rw [this] at hk
      exact hk
  | bin a x y ih ih2 =>
    intro i s r R hd hs hk
    simp only [Ex.flat, List.append_assoc, List.singleton_append] at hd
    have hle := congrArg List.length hd
    simp at hle
    have hdx := x.zdH
    have hdy := y.zdH
    have hpx := x.zg8
    have hd2 : l.drop (i + x.flat.length) = y.flat ++ (a :: r) := by rw [← List.drop_drop, hd, List.drop_left]
    have hd3 : l.drop (i + x.flat.length + y.flat.length) = a :: r := by rw [← List.drop_drop, hd2, List.drop_left]
    obtain ⟨hlt, ha, hr⟩ := zby hd3
    have h0 : arOp a.f0 = 2 := he.1
    refine ih he.2.1 i s (y.flat ++ (a :: r)) hd hs ?_
    refine ih2 he.2.2 (i + x.flat.length) (s ++ [(x.depth : Int)]) (a :: r) hd2 (by simp; omega) ?_
    refine Ev.step (f := fun k => (zaM.f k a.f0).bind fun t => zaS.l1 k ((s ++ [(x.depth : Int)]) ++ [(y.depth : Int)]) 0 l (l.length : Int) ((i + x.flat.length + y.flat.length : Nat) : Int) t 0) (fun k => ?_) ?_
    · simp only [zaS.l0]
      rw [if_pos (by omega), if_pos (by omega), if_pos (by omega), rdS hlt, ha]
    · refine Ev.bind (zdD a.f0) ?_
      rw [h0]
      refine Ev.step (fun k => zeY (s ++ [(x.depth : Int)]) y.depth 0 l (i + x.flat.length + y.flat.length) 2 0 (by simp; omega) (by decide) (by decide) k) ?_
      refine Ev.step (fun k => zeY s x.depth _ l (i + x.flat.length + y.flat.length) 2 1 (by omega) (by decide) (by decide) k) ?_
      have e1' : mx (mx 0 (y.depth : Int)) (x.depth : Int) = ((max x.depth y.depth : Nat) : Int) := by unfold mx; repeat' split; all_goals omega
      rw [e1']
      refine Ev.step (fun k => zeI s _ l (i + x.flat.length + y.flat.length) 2 (by omega) (by omega) (by omega) k) ?_
      have : i + (Ex.bin a x y).flat.length = i + x.flat.length + y.flat.length + 1 := by simp [Ex.flat]; omega
      rw [this] at hk
      exact hk
theorem zhH (l : List SN) (hl : l.length ≤ 1000000) : Ev (fun k => zbN.f k l) (decide (zcT arN l < 0)) := Ev.bind (zfV l hl) (Ev.now _)
theorem zhQ (l : List SN) (hl : l.length ≤ 1000000) : Ev (fun k => zaS.f k l) (zdg l) := by
  refine Ev.bind (zhH l hl) ?_
  by_cases h : zcT arN l < 0
  · rw [decide_eq_true h]
    obtain ⟨e, he, rfl⟩ := zeR (fun a => (zgE a).1) h
    rw [zft he]
    refine ziS e.flat hl he 0 [] [] (by simp) (by simp) ?_
    refine Ev.step (f := fun _ => some (e.depth : Int)) (fun k => ?_) (Ev.now _)
    simp only [zaS.l0]
    rw [if_neg (by omega)]
    rfl
  · rw [decide_eq_false h, zeX (by omega)]
    exact Ev.now _
theorem zj7 (l : List RN) (hl : l.length ≤ 1000000) {e : Ex SN} (he : e.ok arN) : ∀ (i : Nat) (r : List SN), (l.map toN).drop i = e.flat ++ r →
    Ev (fun k => zaB.f k l ((i + e.flat.length : Nat) - 1 : Int)) ((e.depth : Int), (i : Int)) := by
  have head : ∀ (at_ : Nat) (a : SN) (r : List SN) {R : Int × Int}, (l.map toN).drop at_ = a :: r → Ev (fun k => zaB.l0 k l 0 (at_ : Int) (arN a)) R → Ev (fun k => zaB.f k l (at_ : Int)) R := by
    intro at_ a r R hd hk
    obtain ⟨hlt, ha, _⟩ := zby hd
    rw [List.length_map] at hlt
    rw [List.getElem_map] at ha
    refine Ev.step (f := fun k => (zav.f k a.f0).bind fun t => zaB.l0 k l 0 (at_ : Int) t) (fun k => ?_) (Ev.bind (zgi a.f0) hk)
    simp only [zaB.f]
    rw [if_pos (by omega), if_pos (by omega), rdR hlt, ← ha]
    rfl
  have last : ∀ (d : Nat) (from_ : Nat), d ≤ 1000000 → Ev (fun k => zaB.l0 k l (d : Int) (from_ : Int) 0) ((d + 1 : Nat), (from_ : Int)) := by
    intro d from_ hd
    refine Ev.step (f := fun _ => some (((d + 1 : Nat) : Int), (from_ : Int))) (fun k => ?_) (Ev.now _)
    simp only [zaB.l0]
    rw [if_neg (by omega), zbl (by omega) (by omega)]
    rfl
  have one : ∀ (d : Nat) (at_ : Nat) (t : Nat) (q : Nat × Nat) {R : Int × Int}, at_ ≤ 1000000 → 0 < t → t ≤ 2 → Ev (fun k => zaB.f k l ((at_ : Int) - 1)) ((q.1 : Int), (q.2 : Int)) → Ev (fun k => zaB.l0 k l ((max d q.1 : Nat) : Int) (q.2 : Int) ((t - 1 : Nat) : Int)) R → Ev (fun k => zaB.l0 k l (d : Int) (at_ : Int) (t : Int)) R := by
    intro d at_ t q R h1 h2 h2' h3 h4
    refine Ev.step (f := fun k => (zaB.f k l ((at_ : Int) - 1)).bind fun b => zaB.l0 k l (mx d b.1) b.2 (wrap64 ((t : Int) - 1))) (fun k => ?_) (Ev.bind h3 (Ev.congr (fun k => ?_) h4))
    · simp only [zaB.l0]
      rw [if_pos (by omega), zbl (n := (at_ : Int) - 1) (by omega) (by omega)]
    · rw [zjA, zbl (by omega) (by omega)]
      congr 1
      omega
  induction e with
  | leaf a =>
    intro i r hd
    have h0 : arN a = 0 := he
    have hx := head i a r hd (R := ((1 : Nat), (i : Int))) (by rw [h0]; exact last 0 i (by omega))
    have e1 : ((i + (Ex.leaf a).flat.length : Nat) - 1 : Int) = (i : Int) := by simp [Ex.flat]
    rw [e1]
    exact hx
  | un a x ih =>
    intro i r hd
    simp only [Ex.flat, List.append_assoc, List.singleton_append] at hd
    have hle := congrArg List.length hd
    simp at hle
    have hdx := x.zdH
    have hd2 : (l.map toN).drop (i + x.flat.length) = a :: r := by rw [← List.drop_drop, hd, List.drop_left]
    have h0 : arN a = 1 := he.1
    have e1 : ((i + (Ex.un a x).flat.length : Nat) - 1 : Int) = ((i + x.flat.length : Nat) : Int) := by simp [Ex.flat]; omega
    rw [e1]
    refine head _ a r hd2 ?_
    rw [h0]
    refine one 0 (i + x.flat.length) 1 (x.depth, i) (by omega) (by omega) (by omega) (ih he.2 i (a :: r) hd) ?_
    rw [Nat.zero_max]
    exact last x.depth i (by omega)
  | bin a x y ih ih2 =>
    intro i r hd
    simp only [Ex.flat, List.append_assoc, List.singleton_append] at hd
    have hle := congrArg List.length hd
    simp at hle
    have hdx := x.zdH
    have hdy := y.zdH
    have hd2 : (l.map toN).drop (i + x.flat.length) = y.flat ++ (a :: r) := by rw [← List.drop_drop, hd, List.drop_left]
    have hd3 : (l.map toN).drop (i + x.flat.length + y.flat.length) = a :: r := by rw [← List.drop_drop, hd2, List.drop_left]
    have h0 : arN a = 2 := he.1
    have e1 : ((i + (Ex.bin a x y).flat.length : Nat) - 1 : Int) = ((i + x.flat.length + y.flat.length : Nat) : Int) := by simp [Ex.flat]; omega
    rw [e1]
    refine head _ a r hd3 ?_
    rw [h0]
    refine one 0 (i + x.flat.length + y.flat.length) 2 (y.depth, i + x.flat.length) (by omega) (by omega) (by omega) (ih2 he.2.2 _ (a :: r) hd2) ?_
    rw [Nat.zero_max]
    refine one y.depth (i + x.flat.length) 1 (x.depth, i) (by omega) (by omega) (by omega) (ih he.2.1 i _ hd) ?_
    rw [Nat.max_comm]
    exact last _ i (by omega)
theorem zim (l : List RN) (hl : l.length ≤ 1000000) : Ev (fun k => za1.f k l) (zdg (l.map toN)) := by
  refine Ev.bind (zgh l hl) ?_
  by_cases h : zcT arN (l.map toN) < 0
  · refine Ev.congr (fun k => if_neg (by omega)) ?_
    obtain ⟨e, he, hf⟩ := zeR (fun a => (zgE a).1) h
    have hlen : e.flat.length = l.length := by rw [hf, List.length_map]
    have hp := e.zg8
    have := zj7 l hl he 0 [] (by simp [hf])
    rw [Nat.zero_add, hlen] at this
    rw [← hf, zft he, zbl (by omega) (by omega)]
    exact Ev.bind this (Ev.now _)
  · rw [zeX (by omega)]
    exact Ev.congr (fun k => if_pos (by omega)) (Ev.now _)
end Go.Proofs.YtbicjgaadknmfaaDoor.M
end
section
namespace Go.Proofs.YtbicjgaadknmfaaDoor.M
open Go.RowKit Go.Proofs.YtbicjgaadknmfaaDoorW.PrintWords Go.Proofs.YtbicjgaadknmfaaDoor.P Go.Proofs.YtbicjgaadknmfaaDoorW.PrintMore
set_option linter.unusedVariables false
set_option linter.unusedSimpArgs false
def zeC (n : List Int) : Bool := decide ((strip n).length = n.length) && decide ((dec (val n).toNat).length ≤ 60)
def zb4 (x : SN) (d p l : Int) : Bool :=
  if x.f0 = 1 then decide (x.f1 = 0) && zeC x.f2
  else if 0 < x.f2.length ∨ x.f0 < 1 ∨ 11 < x.f0 then false
  else if x.f0 = 3 then decide (0 ≤ x.f1) && decide (x.f1 < d)
  else if x.f0 = 4 then decide (0 ≤ x.f1) && decide (x.f1 < p)
  else if x.f0 = 5 then decide (0 ≤ x.f1) && decide (x.f1 < l)
  else if x.f0 = 11 then decide (-8 ≤ x.f1) && decide (x.f1 ≤ 8)
  else decide (x.f1 = 0)
def Nw (x : SN) : Prop := Wl x.f2 ∧ x.f2.length ≤ 1000
theorem zhl {n : List Int} (h : Wl n) (hl : n.length ≤ 1000) : zcy.f n = some (zeC n) := by
  unfold zcy.f zcI.f zc6.f zcW.f zeC
  rw [if_pos (by omega), if_pos (zfM.2 h), if_pos (by omega)]
  simp only [Option.bind_some, zg1]
  by_cases c : (strip n).length = n.length
  · rw [if_pos (by omega), decide_eq_true c, Bool.true_and]
    congr 1
    exact decide_eq_decide.2 (by omega)
  · rw [if_neg (by omega), decide_eq_false c, Bool.false_and]
theorem zfA (a b : Int) : zbM.f a b = some (decide (0 ≤ a) && decide (a < b)) := by
  unfold zbM.f
  by_cases c : 0 ≤ a
  · rw [if_pos c, decide_eq_true c, Bool.true_and]
  · rw [if_neg c, decide_eq_false c, Bool.false_and]
theorem ziP (x : SN) (hx : Nw x) (d p l : Int) : Ev (fun k => zbm.f k x.f0 x.f1 x.f2 d p l) (zb4 x d p l) := by
  have round : ∀ b k, zbm.j0 (k + 1) d p l b x.f0 x.f1 x.f2 = if b = true then some false else if x.f0 = 1 then (if x.f1 = 0 then (zcy.f x.f2).bind fun t => some t else some false) else if x.f0 = 3 then (zbM.f x.f1 d).bind fun t => some t else if x.f0 = 4 then (zbM.f x.f1 p).bind fun t => some t else if x.f0 = 5 then (zbM.f x.f1 l).bind fun t => some t else if x.f0 = 11 then (if x.f1 ≥ -8 then some (decide (x.f1 ≤ 8)) else some false) else if x.f1 = 0 then (zaM.f k x.f0).bind fun t => some (decide (t ≥ 0)) else some false := fun b k => by simp only [zbm.j0]
  unfold zbm.f
  by_cases c1 : x.f0 = 1
  · have e : zb4 x d p l = (decide (x.f1 = 0) && zeC x.f2) := by unfold zb4; rw [if_pos c1]
    rw [e]
    refine Ev.congr (fun k => if_pos c1) (Ev.step (fun k => round false k) (Ev.congr (f := fun _ => some (decide (x.f1 = 0) && zeC x.f2)) (fun k => ?_) (Ev.now _)))
    rw [if_neg (by decide), if_pos c1, zhl hx.1 hx.2]
    by_cases c : x.f1 = 0
    · rw [if_pos c, decide_eq_true c]; rfl
    · rw [if_neg c, decide_eq_false c]; rfl
  · refine Ev.congr (fun k => if_neg c1) (Ev.step (fun k => round _ k) ?_)
    by_cases c2 : 0 < x.f2.length
    · have e : zb4 x d p l = false := by unfold zb4; rw [if_neg c1, if_pos (.inl c2)]
      rw [e]
      exact Ev.congr (fun k => if_pos (decide_eq_true (by omega))) (Ev.now _)
    · refine Ev.congr (fun k => if_neg (by rw [decide_eq_false (by omega)]; decide)) (Ev.congr (fun k => if_neg c1) ?_)
      by_cases c3 : x.f0 = 3
      · have e : zb4 x d p l = (decide (0 ≤ x.f1) && decide (x.f1 < d)) := by unfold zb4; rw [if_neg c1, if_neg (by omega), if_pos c3]
        rw [e]
        exact Ev.congr (fun k => by rw [if_pos c3, zfA]; rfl) (Ev.now _)
      by_cases c4 : x.f0 = 4
      · have e : zb4 x d p l = (decide (0 ≤ x.f1) && decide (x.f1 < p)) := by unfold zb4; rw [if_neg c1, if_neg (by omega), if_neg c3, if_pos c4]
        rw [e]
        exact Ev.congr (fun k => by rw [if_neg c3, if_pos c4, zfA]; rfl) (Ev.now _)
      by_cases c5 : x.f0 = 5
      · have e : zb4 x d p l = (decide (0 ≤ x.f1) && decide (x.f1 < l)) := by unfold zb4; rw [if_neg c1, if_neg (by omega), if_neg c3, if_neg c4, if_pos c5]
        rw [e]
        exact Ev.congr (fun k => by rw [if_neg c3, if_neg c4, if_pos c5, zfA]; rfl) (Ev.now _)
      by_cases c6 : x.f0 = 11
      · have e : zb4 x d p l = (decide (-8 ≤ x.f1) && decide (x.f1 ≤ 8)) := by unfold zb4; rw [if_neg c1, if_neg (by omega), if_neg c3, if_neg c4, if_neg c5, if_pos c6]
        rw [e]
        refine Ev.congr (f := fun _ => some (decide (-8 ≤ x.f1) && decide (x.f1 ≤ 8))) (fun k => ?_) (Ev.now _)
        rw [if_neg c3, if_neg c4, if_neg c5, if_pos c6]
        by_cases c : -8 ≤ x.f1
        · rw [if_pos c, decide_eq_true c, Bool.true_and]
        · rw [if_neg c, decide_eq_false c, Bool.false_and]
      refine Ev.congr (fun k => by rw [if_neg c3, if_neg c4, if_neg c5, if_neg c6]) ?_
      have har := zdD x.f0
      by_cases c : x.f1 = 0
      · refine Ev.congr (fun k => if_pos c) (Ev.bind har ?_)
        have e : zb4 x d p l = decide (arOp x.f0 ≥ 0) := by
          unfold zb4
          rw [if_neg c1]
          by_cases c7 : x.f0 < 1 ∨ 11 < x.f0
          · rw [if_pos (by omega)]
            symm
            apply decide_eq_false
            unfold arOp
            rw [if_neg (by omega), if_neg (by omega), if_neg (by omega)]
            omega
          · rw [if_neg (by omega), if_neg c3, if_neg c4, if_neg c5, if_neg c6, decide_eq_true c]
            symm
            apply decide_eq_true
            unfold arOp
            repeat' split
            all_goals omega
        rw [e]
        exact Ev.now _
      · have e : zb4 x d p l = false := by
          unfold zb4
          rw [if_neg c1, if_neg c3, if_neg c4, if_neg c5, if_neg c6, decide_eq_false c]
          split <;> rfl
        rw [e]
        exact Ev.congr (fun k => if_neg c) (Ev.now _)
theorem ze2 (n : List Int) : strip n = n ↔ (strip n).length = n.length := by
  constructor
  · intro h; rw [h]
  · intro h
    have := zfD n
    rw [h, List.take_length] at this
    exact this.symm
theorem zi4 (x : RN) (hx : Nw (toN x)) (d p l : Int) : Ev (fun k => zaA.f k x.f0 x.f1 x.f2 d p l) (zb4 (toN x) d p l) := by
  have hw : Wl x.f2 := hx.1
  have hl : x.f2.length ≤ 1000 := hx.2
  have round : ∀ b k, zaA.j0 (k + 1) d p l b x.f0 x.f1 x.f2 = if b = true then some false else if x.f0 = 3 then (if x.f1 ≥ 0 then some (decide (x.f1 < d)) else some false) else if x.f0 = 4 then (if x.f1 ≥ 0 then some (decide (x.f1 < p)) else some false) else if x.f0 = 5 then (if x.f1 ≥ 0 then some (decide (x.f1 < l)) else some false) else if x.f0 = 11 then (if x.f1 ≥ -8 then some (decide (x.f1 ≤ 8)) else some false) else some (x.f1 == 0) := fun b k => by simp only [zaA.j0]
  have two : ∀ (a b : Int) (q : Bool), (if a ≥ b then some q else some false) = some (decide (b ≤ a) && q) := by
    intro a b q
    by_cases c : b ≤ a
    · rw [if_pos c, decide_eq_true c, Bool.true_and]
    · rw [if_neg c, decide_eq_false c, Bool.false_and]
  have e0 : zb4 (toN x) d p l = if x.f0 = 1 then decide (x.f1 = 0) && zeC x.f2 else if 0 < x.f2.length ∨ x.f0 < 1 ∨ 11 < x.f0 then false else if x.f0 = 3 then decide (0 ≤ x.f1) && decide (x.f1 < d) else if x.f0 = 4 then decide (0 ≤ x.f1) && decide (x.f1 < p) else if x.f0 = 5 then decide (0 ≤ x.f1) && decide (x.f1 < l) else if x.f0 = 11 then decide (-8 ≤ x.f1) && decide (x.f1 ≤ 8) else decide (x.f1 = 0) := rfl
  unfold zaA.f
  by_cases c1 : x.f0 = 1
  · rw [if_pos c1] at e0
    rw [e0]
    refine Ev.congr (fun k => if_pos c1) ?_
    by_cases c : x.f1 = 0
    · rw [decide_eq_true c, Bool.true_and]
      have hn := zf4 hw (by omega)
      rw [← zdm hw] at hn
      refine Ev.congr (fun k => if_pos c) (Ev.bind hn (Ev.bind (zjL (strip x.f2) x.f2 (by have := zeh x.f2; omega)) ?_))
      unfold zeC
      by_cases c2 : (strip x.f2).length = x.f2.length
      · rw [decide_eq_true ((ze2 _).2 c2), decide_eq_true c2, Bool.true_and]
        refine Ev.congr (fun k => if_pos rfl) (Ev.bind (zjS hw (by omega)) (Ev.congr (f := fun _ => some (decide ((dec (val x.f2).toNat).length ≤ 60))) (fun k => ?_) (Ev.now _)))
        rw [zg1]
        congr 1
        exact decide_eq_decide.2 (by omega)
      · rw [decide_eq_false (fun h => c2 ((ze2 _).1 h)), decide_eq_false c2, Bool.false_and]
        exact Ev.now _
    · rw [decide_eq_false c, Bool.false_and]
      exact Ev.congr (fun k => if_neg c) (Ev.now _)
  · rw [if_neg c1] at e0
    refine Ev.congr (fun k => if_neg c1) ?_
    have bad : Ev (fun k => zaA.j0 k d p l true x.f0 x.f1 x.f2) false := Ev.step (fun k => round true k) (Ev.congr (fun k => if_pos rfl) (Ev.now _))
    by_cases c2 : 0 < x.f2.length
    · rw [if_pos (.inl c2)] at e0
      rw [e0]
      exact Ev.congr (fun k => if_pos (by omega)) bad
    refine Ev.congr (fun k => if_neg (by omega)) ?_
    by_cases c7 : x.f0 < 1
    · rw [if_pos (.inr (.inl c7))] at e0
      rw [e0]
      exact Ev.congr (fun k => if_pos c7) bad
    refine Ev.congr (fun k => if_neg c7) ?_
    by_cases c8 : 11 < x.f0
    · rw [if_pos (.inr (.inr c8))] at e0
      rw [e0, decide_eq_true (show x.f0 > 11 from c8)]
      exact bad
    rw [decide_eq_false (show ¬ x.f0 > 11 from c8)]
    rw [if_neg (by omega)] at e0
    refine Ev.step (fun k => round false k) (Ev.congr (f := fun _ => some (zb4 (toN x) d p l)) (fun k => ?_) (Ev.now _))
    rw [if_neg (by decide), e0]
    simp only [two]
    repeat' split
    all_goals first | rfl | (congr 1; rw [Bool.eq_iff_iff, beq_iff_eq, decide_eq_true_iff])
def zd4 (d p l w : Int) : List SN → Int → Int
  | [], _ => w
  | x :: r, i => if i = w ∨ zb4 x d p l = false then i else zd4 d p l w r (i + 1)
def zdU (c : List SN) (d p l : Int) : Int := zd4 d p l (zcT arN c) c 0
theorem zhE (c : List SN) (hc : ∀ x ∈ c, Nw x) (hl : c.length ≤ 1000000) (d p l : Int) : Ev (fun k => za9.f k c d p l) (zdU c d p l) := by
  refine Ev.bind (zfV c hl) ?_
  unfold zdU
  generalize zcT arN c = w
  have go : ∀ (r : List SN) (i : Nat), c.drop i = r → Ev (fun k => za9.l0 k d p l w c (c.length : Int) (i : Int)) (zd4 d p l w r (i : Int)) := by
    intro r
    induction r with
    | nil =>
      intro i hd
      have : c.length ≤ i := by simpa using hd
      refine Ev.step (f := fun _ => some w) (fun k => ?_) (Ev.now _)
      simp only [za9.l0]
      rw [if_neg (by omega)]
    | cons a r ih =>
      intro i hd
      obtain ⟨hlt, ha, hr⟩ := zby hd
      unfold zd4
      by_cases c1 : (i : Int) = w
      · rw [if_pos (.inl c1)]
        refine Ev.step (f := fun _ => some (i : Int)) (fun k => ?_) (Ev.now _)
        simp only [za9.l0]
        rw [if_pos (by omega), if_pos (by omega), if_pos (by omega), if_pos c1]
      · refine Ev.step (f := fun k => (zbm.f k a.f0 a.f1 a.f2 d p l).bind fun t => if t = true then za9.l0 k d p l w c (c.length : Int) (wrap64 ((i : Int) + 1)) else some (i : Int)) (fun k => ?_) (Ev.bind (ziP a (hc a (by rw [← ha]; exact List.getElem_mem _)) d p l) ?_)
        · simp only [za9.l0]
          rw [if_pos (by omega), if_pos (by omega), if_pos (by omega), if_neg c1, rdS hlt, ha]
        · cases hn : zb4 a d p l with
          | false => rw [if_pos (.inr rfl)]; exact Ev.congr (fun k => if_neg (by decide)) (Ev.now _)
          | true =>
            rw [if_neg (by simp [c1])]
            refine Ev.congr (fun k => ?_) (ih (i + 1) hr)
            rw [if_pos rfl, zbl (by omega) (by omega)]
            rfl
  exact go c 0 rfl
theorem ziB (c : List RN) (hc : ∀ x ∈ c, Nw (toN x)) (hl : c.length ≤ 1000000) (d p l : Int) : Ev (fun k => zaC.f k c d p l) (zdU (c.map toN) d p l) := by
  refine Ev.bind (zgh c hl) ?_
  unfold zdU
  generalize zcT arN (c.map toN) = w
  have go : ∀ (r : List RN) (i : Nat), c.drop i = r → Ev (fun k => zaC.l0 k c d p l w (i : Int)) (zd4 d p l w (r.map toN) (i : Int)) := by
    intro r
    induction r with
    | nil =>
      intro i hd
      have : c.length ≤ i := by simpa using hd
      refine Ev.step (f := fun _ => some w) (fun k => ?_) (Ev.now _)
      simp only [zaC.l0]
      rw [if_neg (by omega)]
    | cons a r ih =>
      intro i hd
      obtain ⟨hlt, ha, hr⟩ := zby hd
      rw [List.map_cons]
      unfold zd4
      by_cases c1 : (i : Int) = w
      · rw [if_pos (.inl c1)]
        refine Ev.step (f := fun _ => some (i : Int)) (fun k => ?_) (Ev.now _)
        simp only [zaC.l0]
        rw [if_pos (by omega), if_pos c1]
      · refine Ev.step (f := fun k => (zaA.f k a.f0 a.f1 a.f2 d p l).bind fun t => if t = true then zaC.l0 k c d p l w (wrap64 ((i : Int) + 1)) else some (i : Int)) (fun k => ?_) (Ev.bind (zi4 a (hc a (by rw [← ha]; exact List.getElem_mem _)) d p l) ?_)
        · simp only [zaC.l0]
          rw [if_pos (by omega), if_neg c1, if_pos (by omega), rdR hlt, ha]
        · cases hn : zb4 (toN a) d p l with
          | false => rw [if_pos (.inr rfl)]; exact Ev.congr (fun k => if_neg (by decide)) (Ev.now _)
          | true =>
            rw [if_neg (by simp [c1])]
            refine Ev.congr (fun k => ?_) (ih (i + 1) hr)
            rw [if_pos rfl, zbl (by omega) (by omega)]
            rfl
  exact go c 0 rfl
def zci (s : ByteArray) : Bool := zcD 2 (toL s) && decide (¬ (toL s = [116] ∨ toL s = [121] ∨ toL s = [112] ∨ toL s = [108, 101, 116]))
theorem ziL (s : ByteArray) (hs : s.size ≤ 4000) : zcj.f s = some (zci s) := by
  unfold zcj.f zci
  rw [toList_eq]
  by_cases h1 : toL s = [116]
  · rw [if_pos h1, decide_eq_false (by simp [h1]), Bool.and_false]
  by_cases h2 : toL s = [121]
  · rw [if_neg h1, if_pos h2, decide_eq_false (by simp [h2]), Bool.and_false]
  by_cases h3 : toL s = [112]
  · rw [if_neg h1, if_neg h2, if_pos h3, decide_eq_false (by simp [h3]), Bool.and_false]
  by_cases h4 : toL s = [108, 101, 116]
  · rw [if_neg h1, if_neg h2, if_neg h3, if_pos h4, decide_eq_false (by simp [h4]), Bool.and_false]
  rw [decide_eq_true (by simp [h1, h2, h3, h4]), Bool.and_true, if_neg h1, if_neg h2, if_neg h3, if_neg h4, right_eq 2 s 0 hs]
  rfl
theorem ziU (s : ByteArray) (hs : s.size ≤ 4000) : zbY.f s = some (zci s) := by
  unfold zbY.f zci
  rw [ziw 2 s 0 hs, toList_eq, Option.bind_some]
  cases zcD 2 (toL s) with
  | false => rfl
  | true =>
    rw [if_pos rfl, Bool.true_and]
    by_cases h1 : toL s = [116]
    · rw [if_pos h1, decide_eq_false (by simp [h1])]
    by_cases h2 : toL s = [121]
    · rw [if_neg h1, if_pos h2, decide_eq_false (by simp [h2])]
    by_cases h3 : toL s = [112]
    · rw [if_neg h1, if_neg h2, if_pos h3, decide_eq_false (by simp [h3])]
    rw [if_neg h1, if_neg h2, if_neg h3]
    congr 1
    rw [Bool.eq_iff_iff, decide_eq_true_iff]
    simp [h1, h2, h3]
end Go.Proofs.YtbicjgaadknmfaaDoor.M
end
section
namespace Go.Proofs.YtbicjgaadknmfaaDoor.M
open Go.RowKit Go.Proofs.YtbicjgaadknmfaaDoorW.PrintWords Go.Proofs.YtbicjgaadknmfaaDoor.P Go.Proofs.YtbicjgaadknmfaaDoorW.PrintMore
set_option linter.unusedVariables false
set_option linter.unusedSimpArgs false
abbrev SL := S127
abbrev RL := S121
def zbL (x : RL) : SL := ⟨x.f0, x.f1.map toN⟩
structure Fit (L : List SL) (O : List (List SN)) (m : Nat) : Prop where
  lets : L.length ≤ 100
  outs : O.length ≤ 100
  name : ∀ x ∈ L, x.f0.size ≤ 4000
  code : ∀ x ∈ L, x.f1.length ≤ m ∧ ∀ n ∈ x.f1, Nw n
  out : ∀ c ∈ O, c.length ≤ m ∧ ∀ n ∈ c, Nw n
theorem rdL {l : List SL} {i : Nat} (h : i < l.length) : zaV l (i : Int) = l[i] := by
  unfold zaV
  simp [List.getD_eq_getElem?_getD, h]
theorem rdRL {l : List RL} {i : Nat} (h : i < l.length) : zbi l (i : Int) = l[i] := by
  unfold zbi
  simp [List.getD_eq_getElem?_getD, h]
theorem rdC {l : List (List SN)} {i : Nat} (h : i < l.length) : l.getD i [] = l[i] := by simp [List.getD_eq_getElem?_getD, h]
theorem rdRC {l : List (List RN)} {i : Nat} (h : i < l.length) : l.getD i [] = l[i] := by simp [List.getD_eq_getElem?_getD, h]
theorem zfj (c : List SN) (hc : ∀ x ∈ c, Nw x) (hl : c.length ≤ 1000000) : Ev (fun k => zaY.f k c) c := by
  have go : ∀ (r : List SN) (i : Nat) (acc : List SN), c.drop i = r → i ≤ c.length → acc = c.take i → Ev (fun k => zaY.l0 k acc c (c.length : Int) (i : Int)) c := by
    intro r
    induction r with
    | nil =>
      intro i acc hd hi ha
      have : c.length ≤ i := by simpa using hd
      refine Ev.step (f := fun _ => some acc) (fun k => ?_) ?_
      · simp only [zaY.l0]
        rw [if_neg (by omega)]
      · rw [ha, List.take_of_length_le this]; exact Ev.now _
    | cons a r ih =>
      intro i acc hd hi ha
      obtain ⟨hlt, h1, hr⟩ := zby hd
      have hn := (hc a (by rw [← h1]; exact List.getElem_mem _)).2
      refine Ev.step (f := fun k => zaY.l0 k (acc ++ [a]) c (c.length : Int) ((i + 1 : Nat) : Int)) (fun k => ?_) (ih (i + 1) _ hr (by omega) (by rw [ha, ← h1, List.take_succ_eq_append_getElem hlt]))
      have hal : acc.length = i := by rw [ha]; simp; omega
      simp only [zaY.l0]
      rw [if_pos (by omega), if_pos (by omega), if_pos (by omega), rdS hlt, h1, if_pos (by simp; omega), if_pos (by omega), zbl (by omega) (by omega), List.nil_append]
      rfl
  exact go c 0 [] rfl (by omega) rfl
def zcJ (L : List SL) (O : List (List SN)) : List (List SN) := L.map (·.f1) ++ O
theorem zh1 {L : List SL} {O : List (List SN)} {m : Nat} (h : Fit L O m) (hm : m ≤ 1000000) : Ev (fun k => za0.f k L O) (zcJ L O) := by
  have hl := h.lets
  have ho := h.outs
  have goO : ∀ (r : List (List SN)) (i : Nat) (acc : List (List SN)), O.drop i = r → i ≤ O.length → acc = L.map (·.f1) ++ O.take i → Ev (fun k => za0.l1 k acc O (O.length : Int) (i : Int)) (zcJ L O) := by
    intro r
    induction r with
    | nil =>
      intro i acc hd hi ha
      have : O.length ≤ i := by simpa using hd
      refine Ev.step (f := fun _ => some acc) (fun k => ?_) ?_
      · simp only [za0.l1]
        rw [if_neg (by omega)]
      · rw [ha, List.take_of_length_le this]; exact Ev.now _
    | cons a r ih =>
      intro i acc hd hi ha
      obtain ⟨hlt, h1, hr⟩ := zby hd
      have hn := h.out a (by rw [← h1]; exact List.getElem_mem _)
      have hal : acc.length ≤ 1000 := by rw [ha]; simp; omega
      refine Ev.step (f := fun k => (zaY.f k a).bind fun t => if acc.length < 5864062014805 then za0.l1 k (acc ++ [t]) O (O.length : Int) (wrap64 ((i : Int) + 1)) else none) (fun k => ?_) (Ev.bind (zfj a hn.2 (by omega)) (Ev.congr (fun k => ?_) (ih (i + 1) (acc ++ [a]) hr (by omega) (by rw [ha, ← h1, List.take_succ_eq_append_getElem hlt, List.append_assoc]))))
      · simp only [za0.l1]
        rw [if_pos (by omega), if_pos (by omega), if_pos (by omega)]
        congr 1
        show zaY.f k (O.getD (i : Int).toNat []) = _
        rw [Int.toNat_natCast, rdC hlt, h1]
      · rw [if_pos (by omega), zbl (by omega) (by omega)]
        rfl
  have goL : ∀ (r : List SL) (i : Nat) (acc : List (List SN)), L.drop i = r → i ≤ L.length → acc = (L.take i).map (·.f1) → Ev (fun k => za0.l0 k acc L (L.length : Int) (i : Int) L O) (zcJ L O) := by
    intro r
    induction r with
    | nil =>
      intro i acc hd hi ha
      have : L.length ≤ i := by simpa using hd
      refine Ev.step (f := fun k => za0.l1 k acc O (O.length : Int) 0) (fun k => ?_) (goO O 0 acc rfl (by omega) (by rw [ha, List.take_of_length_le this]; simp))
      simp only [za0.l0]
      rw [if_neg (by omega)]
    | cons a r ih =>
      intro i acc hd hi ha
      obtain ⟨hlt, h1, hr⟩ := zby hd
      have hn := h.code a (by rw [← h1]; exact List.getElem_mem _)
      have hal : acc.length ≤ 1000 := by rw [ha]; simp; omega
      refine Ev.step (f := fun k => (zaY.f k a.f1).bind fun t => if acc.length < 5864062014805 then za0.l0 k (acc ++ [t]) L (L.length : Int) (wrap64 ((i : Int) + 1)) L O else none) (fun k => ?_) (Ev.bind (zfj a.f1 hn.2 (by omega)) (Ev.congr (fun k => ?_) (ih (i + 1) (acc ++ [a.f1]) hr (by omega) (by rw [ha, ← h1, List.take_succ_eq_append_getElem hlt, List.map_append]; rfl))))
      · simp only [za0.l0]
        rw [if_pos (by omega), if_pos (by omega), if_pos (by omega), rdL hlt, h1]
      · rw [if_pos (by omega), zbl (by omega) (by omega)]
        rfl
  exact goL L 0 [] rfl (by omega) rfl
def zcc (C : List (List SN)) : Nat := (C.map List.length).sum
theorem size_le (C : List (List SN)) (m : Nat) (h : ∀ c ∈ C, c.length ≤ m) : zcc C ≤ C.length * m := by
  induction C with
  | nil => simp [zcc]
  | cons a r ih =>
    have h1 := ih (fun c hc => h c (List.mem_cons_of_mem _ hc))
    have h2 := h a List.mem_cons_self
    simp only [zcc, List.map_cons, List.sum_cons, List.length_cons, Nat.succ_mul] at *
    omega
theorem zgo {L : List SL} {O : List (List SN)} {m : Nat} (h : Fit L O m) : (zcJ L O).length ≤ 200 ∧ ∀ c ∈ zcJ L O, c.length ≤ m ∧ ∀ n ∈ c, Nw n := by
  refine ⟨by have := h.lets; have := h.outs; simp [zcJ]; omega, fun c hc => ?_⟩
  rcases List.mem_append.1 hc with hc | hc
  · obtain ⟨x, hx, rfl⟩ := List.mem_map.1 hc
    exact h.code x hx
  · exact h.out c hc
theorem size_take {C : List (List SN)} {i : Nat} (h : i < C.length) : zcc (C.take (i + 1)) = zcc (C.take i) + C[i].length := by
  unfold zcc
  rw [List.take_succ_eq_append_getElem h, List.map_append, List.sum_append]
  simp
theorem ze6 (C : List (List SN)) (i : Nat) : zcc (C.take i) ≤ zcc C := by
  conv => rhs; rw [← List.take_append_drop i C]
  unfold zcc
  rw [List.map_append, List.sum_append]
  omega
theorem ziQ {L : List SL} {O : List (List SN)} {m : Nat} (h : Fit L O m) (hm : m ≤ 1000000) : Ev (fun k => zbr.f k L O) ((zcc (zcJ L O) : Nat) : Int) := by
  refine Ev.bind (zh1 h hm) ?_
  obtain ⟨f1, f2⟩ := zgo h
  generalize zcJ L O = C at *
  have hs := size_le C m (fun c hc => (f2 c hc).1)
  have hs2 : C.length * m ≤ 200 * 1000000 := Nat.mul_le_mul f1 hm
  have go : ∀ (r : List (List SN)) (i : Nat), C.drop i = r → i ≤ C.length → Ev (fun k => zbr.l0 k ((zcc (C.take i) : Nat) : Int) C (C.length : Int) (i : Int)) ((zcc C : Nat) : Int) := by
    intro r
    induction r with
    | nil =>
      intro i hd hi
      have : C.length ≤ i := by simpa using hd
      rw [List.take_of_length_le this]
      refine Ev.step (f := fun _ => some ((zcc C : Nat) : Int)) (fun k => ?_) (Ev.now _)
      simp only [zbr.l0]
      rw [if_neg (by omega)]
    | cons a r ih =>
      intro i hd hi
      obtain ⟨hlt, h1, hr⟩ := zby hd
      refine Ev.step (f := fun k => zbr.l0 k ((zcc (C.take (i + 1)) : Nat) : Int) C (C.length : Int) ((i + 1 : Nat) : Int)) (fun k => ?_) (ih (i + 1) hr (by omega))
      simp only [zbr.l0]
      have e1 := size_take hlt
      have e2 := ze6 C (i + 1)
      rw [if_pos (by omega), if_pos (by omega), if_pos (by omega)]
      have e3 : (C.getD (i : Int).toNat []).length = C[i].length := by rw [Int.toNat_natCast, rdC hlt]
      show zbr.l0 k (wrap64 (((zcc (C.take i) : Nat) : Int) + (((C.getD (i : Int).toNat []).length : Nat) : Int))) C _ _ = _
      rw [e3, zbl (by omega) (by omega), zbl (by omega) (by omega), e1]
      rfl
  exact go C 0 rfl (by omega)
theorem zgk {L : List RL} {O : List (List RN)} (hl : L.length ≤ 100) (ho : O.length ≤ 100) : Ev (fun k => zaz.f k L O) (L.map (·.f1) ++ O) := by
  have goL : ∀ (r : List RL) (i : Nat) (acc : List (List RN)), L.drop i = r → i ≤ L.length → acc = (L.take i).map (·.f1) → Ev (fun k => zaz.l0 k acc (i : Int) L O) (L.map (·.f1) ++ O) := by
    intro r
    induction r with
    | nil =>
      intro i acc hd hi ha
      have : L.length ≤ i := by simpa using hd
      rw [List.take_of_length_le this] at ha
      subst ha
      refine Ev.step (f := fun _ => some (L.map (·.f1) ++ O)) (fun k => ?_) (Ev.now _)
      simp only [zaz.l0]
      rw [if_neg (by omega), if_pos (by simp; omega)]
    | cons a r ih =>
      intro i acc hd hi ha
      obtain ⟨hlt, h1, hr⟩ := zby hd
      have hal : acc.length ≤ 1000 := by rw [ha]; simp; omega
      refine Ev.step (f := fun k => zaz.l0 k (acc ++ [a.f1]) ((i + 1 : Nat) : Int) L O) (fun k => ?_) (ih (i + 1) (acc ++ [a.f1]) hr (by omega) (by rw [ha, ← h1, List.take_succ_eq_append_getElem hlt, List.map_append]; rfl))
      simp only [zaz.l0]
      rw [if_pos (by omega), if_pos (by omega), if_pos (by omega), rdRL hlt, h1, zbl (by omega) (by omega)]
      rfl
  exact goL L 0 [] rfl (by omega) rfl
theorem zjm {L : List RL} {O : List (List RN)} {m : Nat} (h : Fit (L.map zbL) (O.map (List.map toN)) m) (hm : m ≤ 1000000) : Ev (fun k => zaJ.f k L O) ((zcc (zcJ (L.map zbL) (O.map (List.map toN))) : Nat) : Int) := by
  have hl := h.lets
  have ho := h.outs
  rw [List.length_map] at hl ho
  refine Ev.bind (zgk hl ho) ?_
  have hC : zcJ (L.map zbL) (O.map (List.map toN)) = (L.map (·.f1) ++ O).map (List.map toN) := by
    unfold zcJ
    rw [List.map_append, List.map_map, List.map_map]
    rfl
  obtain ⟨f1, f2⟩ := zgo h
  rw [hC] at f1 f2 ⊢
  generalize L.map (·.f1) ++ O = D at *
  have hs := size_le (D.map (List.map toN)) m (fun c hc => (f2 c hc).1)
  have hs2 : (D.map (List.map toN)).length * m ≤ 200 * 1000000 := Nat.mul_le_mul f1 hm
  have go : ∀ (r : List (List RN)) (i : Nat), D.drop i = r → i ≤ D.length → Ev (fun k => zaJ.l0 k ((zcc ((D.map (List.map toN)).take i) : Nat) : Int) D (i : Int)) ((zcc (D.map (List.map toN)) : Nat) : Int) := by
    intro r
    induction r with
    | nil =>
      intro i hd hi
      have : D.length ≤ i := by simpa using hd
      rw [List.take_of_length_le (by rw [List.length_map]; exact this)]
      refine Ev.step (f := fun _ => some ((zcc (D.map (List.map toN)) : Nat) : Int)) (fun k => ?_) (Ev.now _)
      simp only [zaJ.l0]
      rw [if_neg (by omega)]
    | cons a r ih =>
      intro i hd hi
      obtain ⟨hlt, h1, hr⟩ := zby hd
      rw [List.length_map] at f1
      refine Ev.step (f := fun k => zaJ.l0 k ((zcc ((D.map (List.map toN)).take (i + 1)) : Nat) : Int) D ((i + 1 : Nat) : Int)) (fun k => ?_) (ih (i + 1) hr (by omega))
      simp only [zaJ.l0]
      have e1 := size_take (C := D.map (List.map toN)) (i := i) (by rw [List.length_map]; exact hlt)
      have e2 := ze6 (D.map (List.map toN)) (i + 1)
      rw [if_pos (by omega), if_pos (by omega)]
      have e3 : (D.getD (i : Int).toNat []).length = ((D.map (List.map toN))[i]'(by rw [List.length_map]; exact hlt)).length := by rw [Int.toNat_natCast, rdRC hlt, List.getElem_map, List.length_map]
      show zaJ.l0 k (wrap64 (((zcc ((D.map (List.map toN)).take i) : Nat) : Int) + (((D.getD (i : Int).toNat []).length : Nat) : Int))) D _ = _
      rw [e3, zbl (by omega) (by omega), zbl (by omega) (by omega), e1]
      rfl
  exact go D 0 rfl (by omega)
end Go.Proofs.YtbicjgaadknmfaaDoor.M
end
