import Derived.Test.YtbicjgaadknmfaaDoorQ1
import Derived.Test.YtbicjgaadknmfaaDoorQ2
import Derived.Test.YtbicjgaadknmfaaDoorQ0
import Derived.Laws.Strings
import Derived.Laws.AppendOwn
import Derived.Deep.RegionLaw
import Derived.Deep.RegionWith
section
namespace Go.Proofs.YtbicjgaadknmfaaDoor.P
open Go.RowKit Go.Proofs.YtbicjgaadknmfaaDoorW.PrintWords Go.Proofs.YtbicjgaadknmfaaDoorW.PrintLast Go.Proofs.YtbicjgaadknmfaaDoorW.PrintMore
attribute [local go_sem] zck zcl zca zcc zbQ zbP zb0 zb1
set_option linter.unusedVariables false
set_option linter.unusedSimpArgs false
def zar.j0 : Nat → Int → Int → Int → Bool → Int → Int → List Int → Option (Bool)
 | 0, _, _, _, _, _, _, _ => none
 | k + 1, x1, x2, x3, x43, x161000, x161001, x161002 => if x43 = true then (some false) else (if x161000 = 3 then (if x161001 ≥ 0 then (some (decide (x161001 < x1))) else (some false)) else (if x161000 = 4 then (if x161001 ≥ 0 then (some (decide (x161001 < x2))) else (some false)) else (if x161000 = 5 then (if x161001 ≥ 0 then (some (decide (x161001 < x3))) else (some false)) else (if x161000 = 11 then (if x161001 ≥ (-8) then (some (decide (x161001 ≤ 8))) else (some false)) else (some (x161001 == 0))))))
def zar.f (k : Nat) (a0_0 : Int) (a0_1 : Int) (l0_2 : List Int) (a1 : Int) (a2 : Int) (a3 : Int) : Option (Bool) := if a0_0 = 1 then (if a0_1 = 0 then ((zaA.f k l0_2).bind fun t161 => ((zaH.f k t161 l0_2).bind fun t164 => (if t164 = true then ((zau.f k l0_2).bind fun t165 => (some (decide ((t165.size : Int) ≤ 60)))) else (some false)))) else (some false)) else (if (l0_2.length : Int) > 0 then (zar.j0 k a1 a2 a3 true a0_0 a0_1 l0_2) else (if a0_0 < 1 then (zar.j0 k a1 a2 a3 true a0_0 a0_1 l0_2) else (zar.j0 k a1 a2 a3 (decide (a0_0 > 11)) a0_0 a0_1 l0_2)))
theorem zar.zaR : ∀ k, (∀ y0 y1 y2 y3 y4 y5 y6, LeO (zar.j0 k y0 y1 y2 y3 y4 y5 y6) (zar.j0 (k + 1) y0 y1 y2 y3 y4 y5 y6))
 | 0 => fun _ _ _ _ _ _ _ r h => by simp [zar.j0] at h
 | k + 1 => by
  have ih0 := zar.zaR k
  ·intro y0 y1 y2 y3 y4 y5 y6
   unfold zar.j0
   repeat' first
   | (with_reducible exact ih0 _ _ _ _ _ _ _)
   | (with_reducible exact zaA.mono _ _)
   | (with_reducible exact zaH.mono _ _ _)
   | (with_reducible exact zau.mono _ _)
   | (with_reducible exact LeO.refl _)
   | (with_reducible exact LeO.none _)
   | (with_reducible refine LeO.ite ?_ ?_)
   | (with_reducible refine LeO.bind ?_ (fun _ => ?_))
   | exact ih0 _ _ _ _ _ _ _
   | exact zaA.mono _ _
   | exact zaH.mono _ _ _
   | exact zau.mono _ _
   | exact LeO.none _
   | refine LeO.ite ?_ ?_
   | refine LeO.bind ?_ (fun _ => ?_)
theorem zar.mono : ∀ a0 a1 a2 a3 a4 a5 k, LeO (zar.f k a0 a1 a2 a3 a4 a5) (zar.f (k + 1) a0 a1 a2 a3 a4 a5) := by
 intro a0 a1 a2 a3 a4 a5 k
 have ih0 := zar.zaR k
 unfold zar.f
 repeat' first
   | (with_reducible exact ih0 _ _ _ _ _ _ _)
   | (with_reducible exact zaA.mono _ _)
   | (with_reducible exact zaH.mono _ _ _)
   | (with_reducible exact zau.mono _ _)
   | (with_reducible exact LeO.refl _)
   | (with_reducible exact LeO.none _)
   | (with_reducible refine LeO.ite ?_ ?_)
   | (with_reducible refine LeO.bind ?_ (fun _ => ?_))
   | exact ih0 _ _ _ _ _ _ _
   | exact zaA.mono _ _
   | exact zaH.mono _ _ _
   | exact zau.mono _ _
   | exact LeO.none _
   | refine LeO.ite ?_ ?_
   | refine LeO.bind ?_ (fun _ => ?_)
def zar.T2 : Bool × List (List Nat × List Nat) := (true, [([], []), ([0], [0]), ([1], [1]), ([2], [2]), ([3], [3]), ([4, 3], [3, 4]), ([5, 3, 3], [3, 5]), ([3], [3]), ([7, 3], [3, 7]), ([6, 8, 6, 3], [3, 6, 8]), ([3, 9], [3, 9]), ([10, 9], [10]), ([11], [11]), ([12, 11], [11, 12]), ([13, 11, 11], [11, 13]), ([14, 11], [11, 14]), ([15, 11], [11, 15]), ([11, 16], [11, 16]), ([17, 14, 0, 1, 2, 3, 4, 5, 6, 7, 8, 9, 10, 11, 12, 13, 14, 15, 16, 17], [17])])
def zar.B2 : List Nat := [0, 1, 3, 7, 15, 31, 63, 15, 143, 511, 1023, 2047, 4095, 8191, 16383, 32767, 65535, 131071, 262143]
theorem zar.tab2 : rtab .any (opsOf Tryd.f32 2) = zar.T2 := by kernel_rfl
theorem zar.zhf : zcU zar.T2.2 zar.B2 = true := by kernel_rfl
set_option maxHeartbeats 8000000 in
set_option maxRecDepth 100000 in
theorem zar.calls (k : Nat) (a0_0 : Int) (a0_1 : Int) (A0_2 : Option Addr) (c0_2 : Nat) (l0_2 : List Int) (a1 : Int) (a2 : Int) (a3 : Int) (r : Bool) (w : World) (hr0_2 : Kd.C (Kd.int .u32) w A0_2 l0_2.length l0_2) (hc0_2 : l0_2.length ≤ c0_2) (h : zar.f k a0_0 a0_1 l0_2 a1 a2 a3 = some r) :
  Calls Tryd.prog 32 #[.agg #[.int .i64 a0_0, .int .i64 a0_1, .slice A0_2 l0_2.length c0_2], .int .i64 a1, .int .i64 a2, .int .i64 a3] w fun e w' => e = .returned (.bool r) ∧ Below w.heap.size w w' := by
 have hu62 := Tryd.underlying62
 have HR0_2 := zaa.mk hr0_2
 have HC0_2 := zaa.mk hc0_2
 clear hr0_2 hc0_2
 have HB := zaa.mk (Below.refl w.heap.size w)
 have H : (if a0_0 = 1 then (if a0_1 = 0 then ((zaA.f k l0_2).bind fun t161 => ((zaH.f k t161 l0_2).bind fun t164 => (if t164 = true then ((zau.f k l0_2).bind fun t165 => (some (decide ((t165.size : Int) ≤ 60)))) else (some false)))) else (some false)) else (if (l0_2.length : Int) > 0 then (zar.j0 k a1 a2 a3 true a0_0 a0_1 l0_2) else (if a0_0 < 1 then (zar.j0 k a1 a2 a3 true a0_0 a0_1 l0_2) else (zar.j0 k a1 a2 a3 (decide (a0_0 > 11)) a0_0 a0_1 l0_2)))) = some r := h
 clear h
 by_cases c5 : a0_0 = 1
 ·rw [if_pos c5] at H
  have c5b0 : (a0_0 == 1) = true := beq_iff_eq.mpr c5
  have c5b1 : (a0_0 != 1) = false := bne_eq_false_iff_eq.mpr c5
  clear c5
  by_cases c6 : a0_1 = 0
  ·rw [if_pos c6] at H
   have c6b0 : (a0_1 == 0) = true := beq_iff_eq.mpr c6
   have c6b1 : (a0_1 != 0) = false := bne_eq_false_iff_eq.mpr c6
   clear c6
   replace H := Option.bind_eq_some_iff.mp H
   obtain ⟨t161, A70, H⟩ := H
   replace H : ((zaH.f k t161 l0_2).bind fun t164 => (if t164 = true then ((zau.f k l0_2).bind fun t165 => (some (decide ((t165.size : Int) ≤ 60)))) else (some false))) = some r := H
   have A7 := zaa.mk A70
   clear A70
   replace H := Option.bind_eq_some_iff.mp H
   obtain ⟨t164, A80, H⟩ := H
   replace H : (if t164 = true then ((zau.f k l0_2).bind fun t165 => (some (decide ((t165.size : Int) ≤ 60)))) else (some false)) = some r := H
   have A8 := zaa.mk A80
   clear A80
   by_cases c9 : t164 = true
   ·subst c9
    have H1 : ((zau.f k l0_2).bind fun t165 => (some (decide ((t165.size : Int) ≤ 60)))) = some r := by rw [if_pos rfl] at H; exact H
    clear H
    have H := H1
    clear H1
    replace H := Option.bind_eq_some_iff.mp H
    obtain ⟨t165, A100, H⟩ := H
    replace H : (some (decide ((t165.size : Int) ≤ 60))) = some r := H
    have A10 := zaa.mk A100
    clear A100
    obtain rfl := Option.some.inj H
    go_enter Tryd.func32, Tryd.ntmps32
    try go_wp2_with (first | ((with_reducible refine zbc (N := 4) rfl ?_); (try (refine zbN (by rfl) ?_; dsimp only)); refine zbb ?hg (N := 4) ?hd (cs := #[.int .i64 a0_0, .int .i64 a0_1, .slice A0_2 l0_2.length c0_2]) (t := 62) ?hr ?_; (case hd => rfl); (case hg => rfl); (case hr => first | (go_simp; done) | (go_simp; rfl)); intro gb160 hg w11 hbox hb; have n0_ := zaa.mk (zax (by repeat (first | (with_reducible first | exact HB.out | apply zac | apply zab | apply zad) | exact HB.out)) hb); have n1_ := zaa.mk (hbox); have n2_ := zaa.mk ((by rw [hg]; exact (zay (by repeat (first | (with_reducible first | exact HB.out | apply zac | apply zab | apply zad) | exact HB.out))) : w.heap.size ≤ gb160)); have n3_ := zaa.mk ((by rw [hg]; exact (zay (by repeat (first | (with_reducible first | exact HB.out | apply zac | apply zab | apply zad) | exact HB.out))) : w.heap.size ≤ gb160)); clear HB; have HB := n0_; have BK160 := n1_; have GW160 := n2_; have GE160 := n3_; clear n0_ n1_ n2_ n3_; clear hb hbox hg; have hcz12_0 : w11.cell? ⟨gb160, 0, none⟩ = some (.int .i64 a0_0) := (zae BK160.out 0).trans rfl; have hcz12_1 : w11.cell? ⟨gb160, 1, none⟩ = some (.int .i64 a0_1) := (zae BK160.out 1).trans rfl; have hcz12_2 : w11.cell? ⟨gb160, 2, none⟩ = some (.slice A0_2 l0_2.length c0_2) := (zae BK160.out 2).trans rfl; have hfz12_0 := zaj BK160.out 0; have hfz12_1 := zaj BK160.out 1; have hfz12_2 := zaj BK160.out 2))
    have n0_ := zaa.mk (zak BK160.out)
    have n1_ := zaa.mk (zad HB.out)
    clear BK160
    clear HB
    have BK160 := n0_
    have HB := n1_
    clear n0_ n1_
    refine zcZ (n := 19) (S := fun w' => w'.cell? ⟨gb160, 0, none⟩ = some (.int .i64 a0_0) ∧ w'.cell? ⟨gb160, 1, none⟩ = some (.int .i64 a0_1) ∧ w'.cell? ⟨gb160, 2, none⟩ = some (.slice A0_2 l0_2.length c0_2)) (ds := []) #[false, false, false, false, false, false, false, false, false, false, false, false, false, false, false, false, false, false, false] (by kernel_rfl) rfl rfl ⟨(zae BK160.out 0).trans rfl, (zae BK160.out 1).trans rfl, (zae BK160.out 2).trans rfl⟩ (fun hHeld => ?_); refine zcr zar.tab2 zar.zhf (fun HT_ HW_ => ?_)
    generalize w11.drew = w13 at BK160 HB hHeld ⊢
    refine zaI (i := 0) (N := some 12) (v := ?_) (a' := ?_) #[true, false, false, false, false, false, false, false, false, false, false, false, false, false, false, false, false, false, false] rfl rfl (zaC HT_.out (by kernel_rfl)) (fun _ _ _ h => h) (Or.inl ⟨by rfl, ?_⟩) ?_ ?_
    rotate_left
    ·intro w'
     go_simp
     with_reducible rfl
    rotate_left
    ·simp only [Act.put, List.setIfInBounds_toArray, List.set_cons_zero, List.set_cons_succ, zas, zat]
     rfl
    refine zbl (i := 1) (N := some 13) (v := ?_) (a' := ?_) #[true, true, false, false, false, false, false, false, false, false, false, false, false, false, false, false, false, false, false] rfl rfl (za6 HT_.out HW_.out (by kernel_rfl)) (fun _ _ _ h => h) (Or.inl ⟨by rfl, ?_⟩) hHeld ?_ ?_
    rotate_left
    ·rintro w' ⟨s0, s1, s2⟩
     go_simp
     with_reducible rfl
    rotate_left
    ·simp only [Act.put, List.setIfInBounds_toArray, List.set_cons_zero, List.set_cons_succ, zas, zat]
     rfl
    refine zaI (i := 2) (N := some 14) (v := ?_) (a' := ?_) #[true, true, true, false, false, false, false, false, false, false, false, false, false, false, false, false, false, false, false] rfl rfl (zaC HT_.out (by kernel_rfl)) (fun _ _ _ h => h) (Or.inl ⟨by rfl, ?_⟩) ?_ ?_
    rotate_left
    ·intro w'
     go_simp
     with_reducible rfl
    rotate_left
    ·simp only [Act.put, List.setIfInBounds_toArray, List.set_cons_zero, List.set_cons_succ, zas, zat]
     rfl
    refine zaI (i := 3) (N := some 15) (v := ?_) (a' := ?_) #[true, true, true, true, false, false, false, false, false, false, false, false, false, false, false, false, false, false, false] rfl rfl (zaC HT_.out (by kernel_rfl)) (fun _ _ _ h => h) (Or.inl ⟨by rfl, ?_⟩) ?_ ?_
    rotate_left
    ·intro w'
     go_simp
     with_reducible rfl
    rotate_left
    ·simp only [Act.put, List.setIfInBounds_toArray, List.set_cons_zero, List.set_cons_succ, zas, zat]
     rfl
    refine zaI (i := 4) (N := some 16) (v := ?_) (a' := ?_) #[true, true, true, true, true, false, false, false, false, false, false, false, false, false, false, false, false, false, false] rfl rfl (zaC HT_.out (by kernel_rfl)) (fun _ _ _ h => h) (Or.inl ⟨by rfl, ?_⟩) ?_ ?_
    rotate_left
    ·intro w'
     go_simp
     with_reducible rfl
    rotate_left
    ·simp only [Act.put, List.setIfInBounds_toArray, List.set_cons_zero, List.set_cons_succ, zas, zat]
     rfl
    refine zaI (i := 7) (N := some 19) (v := ?_) (a' := ?_) #[true, true, true, true, true, false, false, true, false, false, false, false, false, false, false, false, false, false, false] rfl rfl (zaC HT_.out (by kernel_rfl)) (fun _ _ _ h => h) (Or.inl ⟨by rfl, ?_⟩) ?_ ?_
    rotate_left
    ·intro w'
     go_simp
     with_reducible rfl
    rotate_left
    ·simp only [Act.put, List.setIfInBounds_toArray, List.set_cons_zero, List.set_cons_succ, zas, zat]
     rfl
    refine zbl (i := 5) (N := some 17) (v := ?_) (a' := ?_) #[true, true, true, true, true, true, false, true, false, false, false, false, false, false, false, false, false, false, false] rfl rfl (za6 HT_.out HW_.out (by kernel_rfl)) (fun _ _ _ h => h) (Or.inl ⟨by rfl, ?_⟩) hHeld ?_ ?_
    rotate_left
    ·rintro w' ⟨s0, s1, s2⟩
     go_simp
     with_reducible rfl
    rotate_left
    ·simp only [Act.put, List.setIfInBounds_toArray, List.set_cons_zero, List.set_cons_succ, zas, zat]
     rfl
    refine zbl (i := 8) (N := some 20) (v := ?_) (a' := ?_) #[true, true, true, true, true, true, false, true, true, false, false, false, false, false, false, false, false, false, false] rfl rfl (za6 HT_.out HW_.out (by kernel_rfl)) (fun _ _ _ h => h) (Or.inl ⟨by rfl, ?_⟩) hHeld ?_ ?_
    rotate_left
    ·rintro w' ⟨s0, s1, s2⟩
     go_simp
     with_reducible rfl
    rotate_left
    ·simp only [Act.put, List.setIfInBounds_toArray, List.set_cons_zero, List.set_cons_succ, zas, zat]
     rfl
    refine one_ (i := 6) (N := some 18) #[true, true, true, true, true, true, true, true, true, false, false, false, false, false, false, false, false, false, false] rfl rfl (zbJ HT_.out (by kernel_rfl)) (by decide) (fun K hK => ?_)
    refine zch Tryd.func63 (by kernel_rfl) rfl #[.slice A0_2 l0_2.length c0_2] (by rfl) rfl rfl (by (try simp only [List.map_toArray, List.map_cons, List.map_nil]); first | done | rfl | (simp only [List.length_drop, List.length_take]; rfl)) ?_
    with_reducible refine (zaA.calls k _ _ l0_2 t161 _ ?side1 ?side2 A7.out).mono ?_
    (case side1 => repeat (first | exact (Kd.za7 HR0_2.out HB.out) | (with_reducible refine Kd.zaT ?_ _) | (with_reducible refine Kd.zaU ?_ _) | (with_reducible refine Kd.za0 ?_)))
    (case side2 => exact HC0_2.out)
    rintro e w14 ⟨v162, rfl, ho0, hb⟩
    refine ⟨_, rfl, ?_⟩
    have n0_ := zaa.mk (Kd.zcj ho0 (zay (by repeat (first | (with_reducible first | exact HB.out | apply zac | apply zab | apply zad | refine zai ?_ GE160.out) | exact HB.out))))
    have n1_ := zaa.mk (zaP (g := gb160) (o := .cells #[.int .i64 a0_0, .int .i64 a0_1, .slice A0_2 l0_2.length c0_2] 62 (0, 0)) (by (with_reducible repeat (first | refine zah ?_ _ | refine zak ?_ | refine zaf ?_ _)); exact BK160.out) hb)
    have n2_ := zaa.mk (zax (by repeat (first | (with_reducible first | exact HB.out | apply zac | apply zab | apply zad | refine zai ?_ GE160.out) | exact HB.out)) hb)
    clear BK160
    clear HB
    have HO163 := n0_
    have BK160 := n1_
    have HB := n2_
    clear n0_ n1_ n2_
    (try clear hb)
    (try clear hb2)
    (try clear hk)
    (try clear hi)
    (try clear ho0)
    obtain ⟨Ao15, co15, eo15⟩ := Kd.zbE HO163.out
    (first | subst eo15 | (injection eo15 with f1_ f2_ f3_; have f4_ := f1_.symm; have f5_ := f3_.symm; clear f1_ f2_ f3_; subst f4_; subst f5_))
    refine hK.out _ _ ⟨(zae BK160.out 0).trans rfl, (zae BK160.out 1).trans rfl, (zae BK160.out 2).trans rfl⟩ (fun hHeld => ?_)
    clear hK K
    refine zbZ (a' := ?_) ?_ ?_
    rotate_left
    ·show Act.put _ (some 18) _ = _
     simp only [Act.put, List.setIfInBounds_toArray, List.set_cons_zero, List.set_cons_succ, zas, zat]
     rfl
    refine one_ (i := 9) (N := some 21) #[true, true, true, true, true, true, true, true, true, true, false, false, false, false, false, false, false, false, false] rfl rfl (zbJ HT_.out (by kernel_rfl)) (by decide) (fun K hK => ?_)
    refine zch Tryd.func16 (by kernel_rfl) rfl #[.slice Ao15 t161.length co15, .slice A0_2 l0_2.length c0_2] (by rfl) rfl rfl (by (try simp only [List.map_toArray, List.map_cons, List.map_nil]); first | done | rfl | (simp only [List.length_drop, List.length_take]; rfl)) ?_
    with_reducible refine (zaH.calls k _ _ t161 _ _ l0_2 true _ ?side1 ?side2 ?side3 ?side4 A8.out).mono ?_
    (case side1 => repeat (first | exact (Kd.zbs HO163.out).2.2 | (with_reducible refine Kd.zaT ?_ _) | (with_reducible refine Kd.zaU ?_ _) | (with_reducible refine Kd.za0 ?_)))
    (case side2 => exact (Kd.zbs HO163.out).2.1)
    (case side3 => repeat (first | exact (Kd.za7 HR0_2.out HB.out) | (with_reducible refine Kd.zaT ?_ _) | (with_reducible refine Kd.zaU ?_ _) | (with_reducible refine Kd.za0 ?_)))
    (case side4 => exact HC0_2.out)
    rintro e w' ⟨rfl, ⟨nd, rfl⟩⟩
    refine ⟨_, rfl, ?_⟩
    refine hK.out _ _ ⟨(zae BK160.out 0).trans rfl, (zae BK160.out 1).trans rfl, (zae BK160.out 2).trans rfl⟩ (fun hHeld => ?_)
    clear hK K
    refine zbZ (a' := ?_) ?_ ?_
    rotate_left
    ·show Act.put _ (some 21) _ = _
     simp only [Act.put, List.setIfInBounds_toArray, List.set_cons_zero, List.set_cons_succ, zas, zat]
     rfl
    refine zaI (i := 10) (N := some 22) (v := ?_) (a' := ?_) #[true, true, true, true, true, true, true, true, true, true, true, false, false, false, false, false, false, false, false] rfl rfl (zaC HT_.out (by kernel_rfl)) (fun _ _ _ h => h) (Or.inl ⟨by rfl, ?_⟩) ?_ ?_
    rotate_left
    ·intro w'
     go_simp
     with_reducible rfl
    rotate_left
    ·simp only [Act.put, List.setIfInBounds_toArray, List.set_cons_zero, List.set_cons_succ, zas, zat]
     rfl
    refine zaI (i := 11) (N := some 23) (v := ?_) (a' := ?_) #[true, true, true, true, true, true, true, true, true, true, true, true, false, false, false, false, false, false, false] rfl rfl (zaC HT_.out (by kernel_rfl)) (fun _ _ _ h => h) (Or.inl ⟨by rfl, ?_⟩) ?_ ?_
    rotate_left
    ·intro w'
     go_simp
     with_reducible rfl
    rotate_left
    ·simp only [Act.put, List.setIfInBounds_toArray, List.set_cons_zero, List.set_cons_succ, zas, zat]
     rfl
    refine zaI (i := 12) (N := some 24) (v := ?_) (a' := ?_) #[true, true, true, true, true, true, true, true, true, true, true, true, true, false, false, false, false, false, false] rfl rfl (zaC HT_.out (by kernel_rfl)) (fun _ _ _ h => h) (Or.inl ⟨by rfl, ?_⟩) ?_ ?_
    rotate_left
    ·intro w'
     go_simp
     with_reducible rfl
    rotate_left
    ·simp only [Act.put, List.setIfInBounds_toArray, List.set_cons_zero, List.set_cons_succ, zas, zat]
     rfl
    refine zbl (i := 13) (N := some 25) (v := ?_) (a' := ?_) #[true, true, true, true, true, true, true, true, true, true, true, true, true, true, false, false, false, false, false] rfl rfl (za6 HT_.out HW_.out (by kernel_rfl)) (fun _ _ _ h => h) (Or.inl ⟨by rfl, ?_⟩) hHeld ?_ ?_
    rotate_left
    ·rintro w' ⟨s0, s1, s2⟩
     go_simp
     with_reducible rfl
    rotate_left
    ·simp only [Act.put, List.setIfInBounds_toArray, List.set_cons_zero, List.set_cons_succ, zas, zat]
     rfl
    refine one_ (i := 14) (N := some 26) #[true, true, true, true, true, true, true, true, true, true, true, true, true, true, true, false, false, false, false] rfl rfl (zbJ HT_.out (by kernel_rfl)) (by decide) (fun K hK => ?_)
    refine zch Tryd.func18 (by kernel_rfl) rfl #[.slice A0_2 l0_2.length c0_2] (by rfl) rfl rfl (by (try simp only [List.map_toArray, List.map_cons, List.map_nil]); first | done | rfl | (simp only [List.length_drop, List.length_take]; rfl)) ?_
    with_reducible refine (zau.calls k _ _ l0_2 t165 _ ?side1 ?side2 A10.out).mono ?_
    (case side1 => repeat (first | exact (Kd.za7 HR0_2.out (by repeat (first | (with_reducible first | exact HB.out | apply zac | apply zab | apply zad | refine zai ?_ GE160.out) | exact HB.out))) | (with_reducible refine Kd.zaT ?_ _) | (with_reducible refine Kd.zaU ?_ _) | (with_reducible refine Kd.za0 ?_)))
    (case side2 => exact HC0_2.out)
    rintro e w16 ⟨rfl, hb⟩
    refine ⟨_, rfl, ?_⟩
    have n0_ := zaa.mk (Kd.zcy (by (with_reducible repeat (first | apply Kd.zbf | apply Kd.zbd | apply Kd.zbp)); exact HO163.out) hb)
    have n1_ := zaa.mk (zaP (g := gb160) (o := .cells #[.int .i64 a0_0, .int .i64 a0_1, .slice A0_2 l0_2.length c0_2] 62 (0, 0)) (by (with_reducible repeat (first | refine zah ?_ _ | refine zak ?_ | refine zaf ?_ _)); exact BK160.out) hb)
    have n2_ := zaa.mk (zax (by repeat (first | (with_reducible first | exact HB.out | apply zac | apply zab | apply zad | refine zai ?_ GE160.out) | exact HB.out)) hb)
    clear HO163
    clear BK160
    clear HB
    have HO163 := n0_
    have BK160 := n1_
    have HB := n2_
    clear n0_ n1_ n2_
    (try clear hb)
    (try clear hb2)
    (try clear hk)
    (try clear hi)
    refine hK.out _ _ ⟨(zae BK160.out 0).trans rfl, (zae BK160.out 1).trans rfl, (zae BK160.out 2).trans rfl⟩ (fun hHeld => ?_)
    clear hK K
    refine zbZ (a' := ?_) ?_ ?_
    rotate_left
    ·show Act.put _ (some 26) _ = _
     simp only [Act.put, List.setIfInBounds_toArray, List.set_cons_zero, List.set_cons_succ, zas, zat]
     rfl
    refine zaI (i := 15) (N := some 27) (v := ?_) (a' := ?_) #[true, true, true, true, true, true, true, true, true, true, true, true, true, true, true, true, false, false, false] rfl rfl (zaC HT_.out (by kernel_rfl)) (fun _ _ _ h => h) (Or.inl ⟨by rfl, ?_⟩) ?_ ?_
    rotate_left
    ·intro w'
     go_simp
     with_reducible rfl
    rotate_left
    ·simp only [Act.put, List.setIfInBounds_toArray, List.set_cons_zero, List.set_cons_succ, zas, zat]
     rfl
    refine zaI (i := 16) (N := some 28) (v := ?_) (a' := ?_) #[true, true, true, true, true, true, true, true, true, true, true, true, true, true, true, true, true, false, false] rfl rfl (zaC HT_.out (by kernel_rfl)) (fun _ _ _ h => h) (Or.inl ⟨by rfl, ?_⟩) ?_ ?_
    rotate_left
    ·intro w'
     go_simp
     with_reducible rfl
    rotate_left
    ·simp only [Act.put, List.setIfInBounds_toArray, List.set_cons_zero, List.set_cons_succ, zas, zat]
     rfl
    refine zaI (i := 17) (N := some 29) (v := ?_) (a' := ?_) #[true, true, true, true, true, true, true, true, true, true, true, true, true, true, true, true, true, true, false] rfl rfl (zaC HT_.out (by kernel_rfl)) (fun _ _ _ h => h) (Or.inl ⟨by rfl, ?_⟩) ?_ ?_
    rotate_left
    ·intro w'
     go_simp
     with_reducible rfl
    rotate_left
    ·simp only [Act.put, List.setIfInBounds_toArray, List.set_cons_zero, List.set_cons_succ, zas, zat]
     rfl
    refine zaI (i := 18) (N := some 8) (v := ?_) (a' := ?_) #[true, true, true, true, true, true, true, true, true, true, true, true, true, true, true, true, true, true, true] rfl rfl (zaC HT_.out (by kernel_rfl)) (fun _ _ _ h => h) (Or.inl ⟨by rfl, ?_⟩) ?_ ?_
    rotate_left
    ·intro w'
     go_simp
     with_reducible rfl
    rotate_left
    ·simp only [Act.put, List.setIfInBounds_toArray, List.set_cons_zero, List.set_cons_succ, zas, zat]
     rfl
    refine zdj (zcQ HT_.out (by kernel_rfl)) ?_
    try go_wp2
    go_ret
    exact ⟨by first | rfl | (simp [zan, zam] <;> rfl) | (simp [*, zan, zam] <;> rfl), by repeat (first | (with_reducible first | exact HB.out | apply zac | apply zab | apply zad | refine zai ?_ GE160.out) | exact HB.out)⟩
   ·replace c9 := Bool.eq_false_iff.mpr c9
    subst c9
    have H1 : (some false) = some r := by rw [if_neg (show ¬ (false = true) by decide)] at H; exact H
    clear H
    have H := H1
    clear H1
    obtain rfl := Option.some.inj H
    go_enter Tryd.func32, Tryd.ntmps32
    try go_wp2_with (first | ((with_reducible refine zbc (N := 4) rfl ?_); (try (refine zbN (by rfl) ?_; dsimp only)); refine zbb ?hg (N := 4) ?hd (cs := #[.int .i64 a0_0, .int .i64 a0_1, .slice A0_2 l0_2.length c0_2]) (t := 62) ?hr ?_; (case hd => rfl); (case hg => rfl); (case hr => first | (go_simp; done) | (go_simp; rfl)); intro gb160 hg w17 hbox hb; have n0_ := zaa.mk (zax (by repeat (first | (with_reducible first | exact HB.out | apply zac | apply zab | apply zad) | exact HB.out)) hb); have n1_ := zaa.mk (hbox); have n2_ := zaa.mk ((by rw [hg]; exact (zay (by repeat (first | (with_reducible first | exact HB.out | apply zac | apply zab | apply zad) | exact HB.out))) : w.heap.size ≤ gb160)); have n3_ := zaa.mk ((by rw [hg]; exact (zay (by repeat (first | (with_reducible first | exact HB.out | apply zac | apply zab | apply zad) | exact HB.out))) : w.heap.size ≤ gb160)); clear HB; have HB := n0_; have BK160 := n1_; have GW160 := n2_; have GE160 := n3_; clear n0_ n1_ n2_ n3_; clear hb hbox hg; have hcz18_0 : w17.cell? ⟨gb160, 0, none⟩ = some (.int .i64 a0_0) := (zae BK160.out 0).trans rfl; have hcz18_1 : w17.cell? ⟨gb160, 1, none⟩ = some (.int .i64 a0_1) := (zae BK160.out 1).trans rfl; have hcz18_2 : w17.cell? ⟨gb160, 2, none⟩ = some (.slice A0_2 l0_2.length c0_2) := (zae BK160.out 2).trans rfl; have hfz18_0 := zaj BK160.out 0; have hfz18_1 := zaj BK160.out 1; have hfz18_2 := zaj BK160.out 2))
    have n0_ := zaa.mk (zak BK160.out)
    have n1_ := zaa.mk (zad HB.out)
    clear BK160
    clear HB
    have BK160 := n0_
    have HB := n1_
    clear n0_ n1_
    refine zcZ (n := 19) (S := fun w' => w'.cell? ⟨gb160, 0, none⟩ = some (.int .i64 a0_0) ∧ w'.cell? ⟨gb160, 1, none⟩ = some (.int .i64 a0_1) ∧ w'.cell? ⟨gb160, 2, none⟩ = some (.slice A0_2 l0_2.length c0_2)) (ds := []) #[false, false, false, false, false, false, false, false, false, false, false, false, false, false, false, false, false, false, false] (by kernel_rfl) rfl rfl ⟨(zae BK160.out 0).trans rfl, (zae BK160.out 1).trans rfl, (zae BK160.out 2).trans rfl⟩ (fun hHeld => ?_); refine zcr zar.tab2 zar.zhf (fun HT_ HW_ => ?_)
    generalize w17.drew = w19 at BK160 HB hHeld ⊢
    refine zaI (i := 0) (N := some 12) (v := ?_) (a' := ?_) #[true, false, false, false, false, false, false, false, false, false, false, false, false, false, false, false, false, false, false] rfl rfl (zaC HT_.out (by kernel_rfl)) (fun _ _ _ h => h) (Or.inl ⟨by rfl, ?_⟩) ?_ ?_
    rotate_left
    ·intro w'
     go_simp
     with_reducible rfl
    rotate_left
    ·simp only [Act.put, List.setIfInBounds_toArray, List.set_cons_zero, List.set_cons_succ, zas, zat]
     rfl
    refine zbl (i := 1) (N := some 13) (v := ?_) (a' := ?_) #[true, true, false, false, false, false, false, false, false, false, false, false, false, false, false, false, false, false, false] rfl rfl (za6 HT_.out HW_.out (by kernel_rfl)) (fun _ _ _ h => h) (Or.inl ⟨by rfl, ?_⟩) hHeld ?_ ?_
    rotate_left
    ·rintro w' ⟨s0, s1, s2⟩
     go_simp
     with_reducible rfl
    rotate_left
    ·simp only [Act.put, List.setIfInBounds_toArray, List.set_cons_zero, List.set_cons_succ, zas, zat]
     rfl
    refine zaI (i := 2) (N := some 14) (v := ?_) (a' := ?_) #[true, true, true, false, false, false, false, false, false, false, false, false, false, false, false, false, false, false, false] rfl rfl (zaC HT_.out (by kernel_rfl)) (fun _ _ _ h => h) (Or.inl ⟨by rfl, ?_⟩) ?_ ?_
    rotate_left
    ·intro w'
     go_simp
     with_reducible rfl
    rotate_left
    ·simp only [Act.put, List.setIfInBounds_toArray, List.set_cons_zero, List.set_cons_succ, zas, zat]
     rfl
    refine zaI (i := 3) (N := some 15) (v := ?_) (a' := ?_) #[true, true, true, true, false, false, false, false, false, false, false, false, false, false, false, false, false, false, false] rfl rfl (zaC HT_.out (by kernel_rfl)) (fun _ _ _ h => h) (Or.inl ⟨by rfl, ?_⟩) ?_ ?_
    rotate_left
    ·intro w'
     go_simp
     with_reducible rfl
    rotate_left
    ·simp only [Act.put, List.setIfInBounds_toArray, List.set_cons_zero, List.set_cons_succ, zas, zat]
     rfl
    refine zaI (i := 4) (N := some 16) (v := ?_) (a' := ?_) #[true, true, true, true, true, false, false, false, false, false, false, false, false, false, false, false, false, false, false] rfl rfl (zaC HT_.out (by kernel_rfl)) (fun _ _ _ h => h) (Or.inl ⟨by rfl, ?_⟩) ?_ ?_
    rotate_left
    ·intro w'
     go_simp
     with_reducible rfl
    rotate_left
    ·simp only [Act.put, List.setIfInBounds_toArray, List.set_cons_zero, List.set_cons_succ, zas, zat]
     rfl
    refine zaI (i := 7) (N := some 19) (v := ?_) (a' := ?_) #[true, true, true, true, true, false, false, true, false, false, false, false, false, false, false, false, false, false, false] rfl rfl (zaC HT_.out (by kernel_rfl)) (fun _ _ _ h => h) (Or.inl ⟨by rfl, ?_⟩) ?_ ?_
    rotate_left
    ·intro w'
     go_simp
     with_reducible rfl
    rotate_left
    ·simp only [Act.put, List.setIfInBounds_toArray, List.set_cons_zero, List.set_cons_succ, zas, zat]
     rfl
    refine zbl (i := 5) (N := some 17) (v := ?_) (a' := ?_) #[true, true, true, true, true, true, false, true, false, false, false, false, false, false, false, false, false, false, false] rfl rfl (za6 HT_.out HW_.out (by kernel_rfl)) (fun _ _ _ h => h) (Or.inl ⟨by rfl, ?_⟩) hHeld ?_ ?_
    rotate_left
    ·rintro w' ⟨s0, s1, s2⟩
     go_simp
     with_reducible rfl
    rotate_left
    ·simp only [Act.put, List.setIfInBounds_toArray, List.set_cons_zero, List.set_cons_succ, zas, zat]
     rfl
    refine zbl (i := 8) (N := some 20) (v := ?_) (a' := ?_) #[true, true, true, true, true, true, false, true, true, false, false, false, false, false, false, false, false, false, false] rfl rfl (za6 HT_.out HW_.out (by kernel_rfl)) (fun _ _ _ h => h) (Or.inl ⟨by rfl, ?_⟩) hHeld ?_ ?_
    rotate_left
    ·rintro w' ⟨s0, s1, s2⟩
     go_simp
     with_reducible rfl
    rotate_left
    ·simp only [Act.put, List.setIfInBounds_toArray, List.set_cons_zero, List.set_cons_succ, zas, zat]
     rfl
    refine one_ (i := 6) (N := some 18) #[true, true, true, true, true, true, true, true, true, false, false, false, false, false, false, false, false, false, false] rfl rfl (zbJ HT_.out (by kernel_rfl)) (by decide) (fun K hK => ?_)
    refine zch Tryd.func63 (by kernel_rfl) rfl #[.slice A0_2 l0_2.length c0_2] (by rfl) rfl rfl (by (try simp only [List.map_toArray, List.map_cons, List.map_nil]); first | done | rfl | (simp only [List.length_drop, List.length_take]; rfl)) ?_
    with_reducible refine (zaA.calls k _ _ l0_2 t161 _ ?side1 ?side2 A7.out).mono ?_
    (case side1 => repeat (first | exact (Kd.za7 HR0_2.out HB.out) | (with_reducible refine Kd.zaT ?_ _) | (with_reducible refine Kd.zaU ?_ _) | (with_reducible refine Kd.za0 ?_)))
    (case side2 => exact HC0_2.out)
    rintro e w20 ⟨v162, rfl, ho0, hb⟩
    refine ⟨_, rfl, ?_⟩
    have n0_ := zaa.mk (Kd.zcj ho0 (zay (by repeat (first | (with_reducible first | exact HB.out | apply zac | apply zab | apply zad | refine zai ?_ GE160.out) | exact HB.out))))
    have n1_ := zaa.mk (zaP (g := gb160) (o := .cells #[.int .i64 a0_0, .int .i64 a0_1, .slice A0_2 l0_2.length c0_2] 62 (0, 0)) (by (with_reducible repeat (first | refine zah ?_ _ | refine zak ?_ | refine zaf ?_ _)); exact BK160.out) hb)
    have n2_ := zaa.mk (zax (by repeat (first | (with_reducible first | exact HB.out | apply zac | apply zab | apply zad | refine zai ?_ GE160.out) | exact HB.out)) hb)
    clear BK160
    clear HB
    have HO163 := n0_
    have BK160 := n1_
    have HB := n2_
    clear n0_ n1_ n2_
    (try clear hb)
    (try clear hb2)
    (try clear hk)
    (try clear hi)
    (try clear ho0)
    obtain ⟨Ao21, co21, eo21⟩ := Kd.zbE HO163.out
    (first | subst eo21 | (injection eo21 with f1_ f2_ f3_; have f4_ := f1_.symm; have f5_ := f3_.symm; clear f1_ f2_ f3_; subst f4_; subst f5_))
    refine hK.out _ _ ⟨(zae BK160.out 0).trans rfl, (zae BK160.out 1).trans rfl, (zae BK160.out 2).trans rfl⟩ (fun hHeld => ?_)
    clear hK K
    refine zbZ (a' := ?_) ?_ ?_
    rotate_left
    ·show Act.put _ (some 18) _ = _
     simp only [Act.put, List.setIfInBounds_toArray, List.set_cons_zero, List.set_cons_succ, zas, zat]
     rfl
    refine one_ (i := 9) (N := some 21) #[true, true, true, true, true, true, true, true, true, true, false, false, false, false, false, false, false, false, false] rfl rfl (zbJ HT_.out (by kernel_rfl)) (by decide) (fun K hK => ?_)
    refine zch Tryd.func16 (by kernel_rfl) rfl #[.slice Ao21 t161.length co21, .slice A0_2 l0_2.length c0_2] (by rfl) rfl rfl (by (try simp only [List.map_toArray, List.map_cons, List.map_nil]); first | done | rfl | (simp only [List.length_drop, List.length_take]; rfl)) ?_
    with_reducible refine (zaH.calls k _ _ t161 _ _ l0_2 false _ ?side1 ?side2 ?side3 ?side4 A8.out).mono ?_
    (case side1 => repeat (first | exact (Kd.zbs HO163.out).2.2 | (with_reducible refine Kd.zaT ?_ _) | (with_reducible refine Kd.zaU ?_ _) | (with_reducible refine Kd.za0 ?_)))
    (case side2 => exact (Kd.zbs HO163.out).2.1)
    (case side3 => repeat (first | exact (Kd.za7 HR0_2.out HB.out) | (with_reducible refine Kd.zaT ?_ _) | (with_reducible refine Kd.zaU ?_ _) | (with_reducible refine Kd.za0 ?_)))
    (case side4 => exact HC0_2.out)
    rintro e w' ⟨rfl, ⟨nd, rfl⟩⟩
    refine ⟨_, rfl, ?_⟩
    refine hK.out _ _ ⟨(zae BK160.out 0).trans rfl, (zae BK160.out 1).trans rfl, (zae BK160.out 2).trans rfl⟩ (fun hHeld => ?_)
    clear hK K
    refine zbZ (a' := ?_) ?_ ?_
    rotate_left
    ·show Act.put _ (some 21) _ = _
     simp only [Act.put, List.setIfInBounds_toArray, List.set_cons_zero, List.set_cons_succ, zas, zat]
     rfl
    refine zaI (i := 10) (N := some 22) (v := ?_) (a' := ?_) #[true, true, true, true, true, true, true, true, true, true, true, false, false, false, false, false, false, false, false] rfl rfl (zaC HT_.out (by kernel_rfl)) (fun _ _ _ h => h) (Or.inl ⟨by rfl, ?_⟩) ?_ ?_
    rotate_left
    ·intro w'
     go_simp
     with_reducible rfl
    rotate_left
    ·simp only [Act.put, List.setIfInBounds_toArray, List.set_cons_zero, List.set_cons_succ, zas, zat]
     rfl
    refine zaI (i := 11) (N := some 23) (v := ?_) (a' := ?_) #[true, true, true, true, true, true, true, true, true, true, true, true, false, false, false, false, false, false, false] rfl rfl (zaC HT_.out (by kernel_rfl)) (fun _ _ _ h => h) (Or.inl ⟨by rfl, ?_⟩) ?_ ?_
    rotate_left
    ·intro w'
     go_simp
     with_reducible rfl
    rotate_left
    ·simp only [Act.put, List.setIfInBounds_toArray, List.set_cons_zero, List.set_cons_succ, zas, zat]
     rfl
    refine zaI (i := 12) (N := some 24) (v := undef) (a' := ?_) #[true, true, true, true, true, true, true, true, true, true, true, true, true, false, false, false, false, false, false] rfl rfl (zaC HT_.out (by kernel_rfl)) (fun _ _ _ h => h) (Or.inr ⟨by rfl, rfl⟩) ?_ ?_
    rotate_left
    ·simp only [Act.put, List.setIfInBounds_toArray, List.set_cons_zero, List.set_cons_succ, zas, zat]
     rfl
    refine zaI (i := 13) (N := some 25) (v := undef) (a' := ?_) #[true, true, true, true, true, true, true, true, true, true, true, true, true, true, false, false, false, false, false] rfl rfl (zaC HT_.out (by kernel_rfl)) (fun _ _ _ h => h) (Or.inr ⟨by rfl, rfl⟩) ?_ ?_
    rotate_left
    ·simp only [Act.put, List.setIfInBounds_toArray, List.set_cons_zero, List.set_cons_succ, zas, zat]
     rfl
    refine zaI (i := 14) (N := some 26) (v := undef) (a' := ?_) #[true, true, true, true, true, true, true, true, true, true, true, true, true, true, true, false, false, false, false] rfl rfl (zaC HT_.out (by kernel_rfl)) (fun _ _ _ h => h) (Or.inr ⟨by rfl, rfl⟩) ?_ ?_
    rotate_left
    ·simp only [Act.put, List.setIfInBounds_toArray, List.set_cons_zero, List.set_cons_succ, zas, zat]
     rfl
    refine zaI (i := 15) (N := some 27) (v := undef) (a' := ?_) #[true, true, true, true, true, true, true, true, true, true, true, true, true, true, true, true, false, false, false] rfl rfl (zaC HT_.out (by kernel_rfl)) (fun _ _ _ h => h) (Or.inr ⟨by rfl, rfl⟩) ?_ ?_
    rotate_left
    ·simp only [Act.put, List.setIfInBounds_toArray, List.set_cons_zero, List.set_cons_succ, zas, zat]
     rfl
    refine zaI (i := 16) (N := some 28) (v := undef) (a' := ?_) #[true, true, true, true, true, true, true, true, true, true, true, true, true, true, true, true, true, false, false] rfl rfl (zaC HT_.out (by kernel_rfl)) (fun _ _ _ h => h) (Or.inr ⟨by rfl, rfl⟩) ?_ ?_
    rotate_left
    ·simp only [Act.put, List.setIfInBounds_toArray, List.set_cons_zero, List.set_cons_succ, zas, zat]
     rfl
    refine zaI (i := 17) (N := some 29) (v := ?_) (a' := ?_) #[true, true, true, true, true, true, true, true, true, true, true, true, true, true, true, true, true, true, false] rfl rfl (zaC HT_.out (by kernel_rfl)) (fun _ _ _ h => h) (Or.inl ⟨by rfl, ?_⟩) ?_ ?_
    rotate_left
    ·intro w'
     go_simp
     with_reducible rfl
    rotate_left
    ·simp only [Act.put, List.setIfInBounds_toArray, List.set_cons_zero, List.set_cons_succ, zas, zat]
     rfl
    refine zaI (i := 18) (N := some 8) (v := ?_) (a' := ?_) #[true, true, true, true, true, true, true, true, true, true, true, true, true, true, true, true, true, true, true] rfl rfl (zaC HT_.out (by kernel_rfl)) (fun _ _ _ h => h) (Or.inl ⟨by rfl, ?_⟩) ?_ ?_
    rotate_left
    ·intro w'
     go_simp
     with_reducible rfl
    rotate_left
    ·simp only [Act.put, List.setIfInBounds_toArray, List.set_cons_zero, List.set_cons_succ, zas, zat]
     rfl
    refine zdj (zcQ HT_.out (by kernel_rfl)) ?_
    try go_wp2
    go_ret
    exact ⟨by first | rfl | (simp [zan, zam] <;> rfl) | (simp [*, zan, zam] <;> rfl), by repeat (first | (with_reducible first | exact HB.out | apply zac | apply zab | apply zad | refine zai ?_ GE160.out) | exact HB.out)⟩
  ·rw [if_neg c6] at H
   have c6b0 : (a0_1 == 0) = false := beq_eq_false_iff_ne.mpr c6
   have c6b1 : (a0_1 != 0) = true := bne_iff_ne.mpr c6
   obtain rfl := Option.some.inj H
   go_enter Tryd.func32, Tryd.ntmps32
   try go_wp2_with (first | ((with_reducible refine zbc (N := 4) rfl ?_); (try (refine zbN (by rfl) ?_; dsimp only)); refine zbb ?hg (N := 4) ?hd (cs := #[.int .i64 a0_0, .int .i64 a0_1, .slice A0_2 l0_2.length c0_2]) (t := 62) ?hr ?_; (case hd => rfl); (case hg => rfl); (case hr => first | (go_simp; done) | (go_simp; rfl)); intro gb160 hg w22 hbox hb; have n0_ := zaa.mk (zax (by repeat (first | (with_reducible first | exact HB.out | apply zac | apply zab | apply zad) | exact HB.out)) hb); have n1_ := zaa.mk (hbox); have n2_ := zaa.mk ((by rw [hg]; exact (zay (by repeat (first | (with_reducible first | exact HB.out | apply zac | apply zab | apply zad) | exact HB.out))) : w.heap.size ≤ gb160)); have n3_ := zaa.mk ((by rw [hg]; exact (zay (by repeat (first | (with_reducible first | exact HB.out | apply zac | apply zab | apply zad) | exact HB.out))) : w.heap.size ≤ gb160)); clear HB; have HB := n0_; have BK160 := n1_; have GW160 := n2_; have GE160 := n3_; clear n0_ n1_ n2_ n3_; clear hb hbox hg; have hcz23_0 : w22.cell? ⟨gb160, 0, none⟩ = some (.int .i64 a0_0) := (zae BK160.out 0).trans rfl; have hcz23_1 : w22.cell? ⟨gb160, 1, none⟩ = some (.int .i64 a0_1) := (zae BK160.out 1).trans rfl; have hcz23_2 : w22.cell? ⟨gb160, 2, none⟩ = some (.slice A0_2 l0_2.length c0_2) := (zae BK160.out 2).trans rfl; have hfz23_0 := zaj BK160.out 0; have hfz23_1 := zaj BK160.out 1; have hfz23_2 := zaj BK160.out 2))
   have n0_ := zaa.mk (zak BK160.out)
   have n1_ := zaa.mk (zad HB.out)
   clear BK160
   clear HB
   have BK160 := n0_
   have HB := n1_
   clear n0_ n1_
   refine zcZ (n := 19) (S := fun w' => w'.cell? ⟨gb160, 0, none⟩ = some (.int .i64 a0_0) ∧ w'.cell? ⟨gb160, 1, none⟩ = some (.int .i64 a0_1) ∧ w'.cell? ⟨gb160, 2, none⟩ = some (.slice A0_2 l0_2.length c0_2)) (ds := []) #[false, false, false, false, false, false, false, false, false, false, false, false, false, false, false, false, false, false, false] (by kernel_rfl) rfl rfl ⟨(zae BK160.out 0).trans rfl, (zae BK160.out 1).trans rfl, (zae BK160.out 2).trans rfl⟩ (fun hHeld => ?_); refine zcr zar.tab2 zar.zhf (fun HT_ HW_ => ?_)
   generalize w22.drew = w24 at BK160 HB hHeld ⊢
   refine zaI (i := 0) (N := some 12) (v := ?_) (a' := ?_) #[true, false, false, false, false, false, false, false, false, false, false, false, false, false, false, false, false, false, false] rfl rfl (zaC HT_.out (by kernel_rfl)) (fun _ _ _ h => h) (Or.inl ⟨by rfl, ?_⟩) ?_ ?_
   rotate_left
   ·intro w'
    go_simp
    with_reducible rfl
   rotate_left
   ·simp only [Act.put, List.setIfInBounds_toArray, List.set_cons_zero, List.set_cons_succ, zas, zat]
    rfl
   refine zbl (i := 1) (N := some 13) (v := ?_) (a' := ?_) #[true, true, false, false, false, false, false, false, false, false, false, false, false, false, false, false, false, false, false] rfl rfl (za6 HT_.out HW_.out (by kernel_rfl)) (fun _ _ _ h => h) (Or.inl ⟨by rfl, ?_⟩) hHeld ?_ ?_
   rotate_left
   ·rintro w' ⟨s0, s1, s2⟩
    go_simp
    with_reducible rfl
   rotate_left
   ·simp only [Act.put, List.setIfInBounds_toArray, List.set_cons_zero, List.set_cons_succ, zas, zat]
    rfl
   refine zaI (i := 2) (N := some 14) (v := ?_) (a' := ?_) #[true, true, true, false, false, false, false, false, false, false, false, false, false, false, false, false, false, false, false] rfl rfl (zaC HT_.out (by kernel_rfl)) (fun _ _ _ h => h) (Or.inl ⟨by rfl, ?_⟩) ?_ ?_
   rotate_left
   ·intro w'
    go_simp
    with_reducible rfl
   rotate_left
   ·simp only [Act.put, List.setIfInBounds_toArray, List.set_cons_zero, List.set_cons_succ, zas, zat]
    rfl
   refine zaI (i := 3) (N := some 15) (v := ?_) (a' := ?_) #[true, true, true, true, false, false, false, false, false, false, false, false, false, false, false, false, false, false, false] rfl rfl (zaC HT_.out (by kernel_rfl)) (fun _ _ _ h => h) (Or.inl ⟨by rfl, ?_⟩) ?_ ?_
   rotate_left
   ·intro w'
    go_simp
    with_reducible rfl
   rotate_left
   ·simp only [Act.put, List.setIfInBounds_toArray, List.set_cons_zero, List.set_cons_succ, zas, zat]
    rfl
   refine zaI (i := 4) (N := some 16) (v := undef) (a' := ?_) #[true, true, true, true, true, false, false, false, false, false, false, false, false, false, false, false, false, false, false] rfl rfl (zaC HT_.out (by kernel_rfl)) (fun _ _ _ h => h) (Or.inr ⟨by rfl, rfl⟩) ?_ ?_
   rotate_left
   ·simp only [Act.put, List.setIfInBounds_toArray, List.set_cons_zero, List.set_cons_succ, zas, zat]
    rfl
   refine zaI (i := 5) (N := some 17) (v := undef) (a' := ?_) #[true, true, true, true, true, true, false, false, false, false, false, false, false, false, false, false, false, false, false] rfl rfl (zaC HT_.out (by kernel_rfl)) (fun _ _ _ h => h) (Or.inr ⟨by rfl, rfl⟩) ?_ ?_
   rotate_left
   ·simp only [Act.put, List.setIfInBounds_toArray, List.set_cons_zero, List.set_cons_succ, zas, zat]
    rfl
   refine zaI (i := 6) (N := some 18) (v := undef) (a' := ?_) #[true, true, true, true, true, true, true, false, false, false, false, false, false, false, false, false, false, false, false] rfl rfl (zaC HT_.out (by kernel_rfl)) (fun _ _ _ h => h) (Or.inr ⟨by rfl, rfl⟩) ?_ ?_
   rotate_left
   ·simp only [Act.put, List.setIfInBounds_toArray, List.set_cons_zero, List.set_cons_succ, zas, zat]
    rfl
   refine zaI (i := 7) (N := some 19) (v := undef) (a' := ?_) #[true, true, true, true, true, true, true, true, false, false, false, false, false, false, false, false, false, false, false] rfl rfl (zaC HT_.out (by kernel_rfl)) (fun _ _ _ h => h) (Or.inr ⟨by rfl, rfl⟩) ?_ ?_
   rotate_left
   ·simp only [Act.put, List.setIfInBounds_toArray, List.set_cons_zero, List.set_cons_succ, zas, zat]
    rfl
   refine zaI (i := 8) (N := some 20) (v := undef) (a' := ?_) #[true, true, true, true, true, true, true, true, true, false, false, false, false, false, false, false, false, false, false] rfl rfl (zaC HT_.out (by kernel_rfl)) (fun _ _ _ h => h) (Or.inr ⟨by rfl, rfl⟩) ?_ ?_
   rotate_left
   ·simp only [Act.put, List.setIfInBounds_toArray, List.set_cons_zero, List.set_cons_succ, zas, zat]
    rfl
   refine zaI (i := 9) (N := some 21) (v := undef) (a' := ?_) #[true, true, true, true, true, true, true, true, true, true, false, false, false, false, false, false, false, false, false] rfl rfl (zaC HT_.out (by kernel_rfl)) (fun _ _ _ h => h) (Or.inr ⟨by rfl, rfl⟩) ?_ ?_
   rotate_left
   ·simp only [Act.put, List.setIfInBounds_toArray, List.set_cons_zero, List.set_cons_succ, zas, zat]
    rfl
   refine zaI (i := 10) (N := some 22) (v := ?_) (a' := ?_) #[true, true, true, true, true, true, true, true, true, true, true, false, false, false, false, false, false, false, false] rfl rfl (zaC HT_.out (by kernel_rfl)) (fun _ _ _ h => h) (Or.inl ⟨by rfl, ?_⟩) ?_ ?_
   rotate_left
   ·intro w'
    go_simp
    with_reducible rfl
   rotate_left
   ·simp only [Act.put, List.setIfInBounds_toArray, List.set_cons_zero, List.set_cons_succ, zas, zat]
    rfl
   refine zaI (i := 11) (N := some 23) (v := ?_) (a' := ?_) #[true, true, true, true, true, true, true, true, true, true, true, true, false, false, false, false, false, false, false] rfl rfl (zaC HT_.out (by kernel_rfl)) (fun _ _ _ h => h) (Or.inl ⟨by rfl, ?_⟩) ?_ ?_
   rotate_left
   ·intro w'
    go_simp
    with_reducible rfl
   rotate_left
   ·simp only [Act.put, List.setIfInBounds_toArray, List.set_cons_zero, List.set_cons_succ, zas, zat]
    rfl
   refine zaI (i := 12) (N := some 24) (v := undef) (a' := ?_) #[true, true, true, true, true, true, true, true, true, true, true, true, true, false, false, false, false, false, false] rfl rfl (zaC HT_.out (by kernel_rfl)) (fun _ _ _ h => h) (Or.inr ⟨by rfl, rfl⟩) ?_ ?_
   rotate_left
   ·simp only [Act.put, List.setIfInBounds_toArray, List.set_cons_zero, List.set_cons_succ, zas, zat]
    rfl
   refine zaI (i := 13) (N := some 25) (v := undef) (a' := ?_) #[true, true, true, true, true, true, true, true, true, true, true, true, true, true, false, false, false, false, false] rfl rfl (zaC HT_.out (by kernel_rfl)) (fun _ _ _ h => h) (Or.inr ⟨by rfl, rfl⟩) ?_ ?_
   rotate_left
   ·simp only [Act.put, List.setIfInBounds_toArray, List.set_cons_zero, List.set_cons_succ, zas, zat]
    rfl
   refine zaI (i := 14) (N := some 26) (v := undef) (a' := ?_) #[true, true, true, true, true, true, true, true, true, true, true, true, true, true, true, false, false, false, false] rfl rfl (zaC HT_.out (by kernel_rfl)) (fun _ _ _ h => h) (Or.inr ⟨by rfl, rfl⟩) ?_ ?_
   rotate_left
   ·simp only [Act.put, List.setIfInBounds_toArray, List.set_cons_zero, List.set_cons_succ, zas, zat]
    rfl
   refine zaI (i := 15) (N := some 27) (v := undef) (a' := ?_) #[true, true, true, true, true, true, true, true, true, true, true, true, true, true, true, true, false, false, false] rfl rfl (zaC HT_.out (by kernel_rfl)) (fun _ _ _ h => h) (Or.inr ⟨by rfl, rfl⟩) ?_ ?_
   rotate_left
   ·simp only [Act.put, List.setIfInBounds_toArray, List.set_cons_zero, List.set_cons_succ, zas, zat]
    rfl
   refine zaI (i := 16) (N := some 28) (v := undef) (a' := ?_) #[true, true, true, true, true, true, true, true, true, true, true, true, true, true, true, true, true, false, false] rfl rfl (zaC HT_.out (by kernel_rfl)) (fun _ _ _ h => h) (Or.inr ⟨by rfl, rfl⟩) ?_ ?_
   rotate_left
   ·simp only [Act.put, List.setIfInBounds_toArray, List.set_cons_zero, List.set_cons_succ, zas, zat]
    rfl
   refine zaI (i := 17) (N := some 29) (v := ?_) (a' := ?_) #[true, true, true, true, true, true, true, true, true, true, true, true, true, true, true, true, true, true, false] rfl rfl (zaC HT_.out (by kernel_rfl)) (fun _ _ _ h => h) (Or.inl ⟨by rfl, ?_⟩) ?_ ?_
   rotate_left
   ·intro w'
    go_simp
    with_reducible rfl
   rotate_left
   ·simp only [Act.put, List.setIfInBounds_toArray, List.set_cons_zero, List.set_cons_succ, zas, zat]
    rfl
   refine zaI (i := 18) (N := some 8) (v := ?_) (a' := ?_) #[true, true, true, true, true, true, true, true, true, true, true, true, true, true, true, true, true, true, true] rfl rfl (zaC HT_.out (by kernel_rfl)) (fun _ _ _ h => h) (Or.inl ⟨by rfl, ?_⟩) ?_ ?_
   rotate_left
   ·intro w'
    go_simp
    with_reducible rfl
   rotate_left
   ·simp only [Act.put, List.setIfInBounds_toArray, List.set_cons_zero, List.set_cons_succ, zas, zat]
    rfl
   refine zdj (zcQ HT_.out (by kernel_rfl)) ?_
   try go_wp2
   go_ret
   exact ⟨by first | rfl | (simp [zan, zam] <;> rfl) | (simp [*, zan, zam] <;> rfl), by repeat (first | (with_reducible first | exact HB.out | apply zac | apply zab | apply zad | refine zai ?_ GE160.out) | exact HB.out)⟩
 ·rw [if_neg c5] at H
  have c5b0 : (a0_0 == 1) = false := beq_eq_false_iff_ne.mpr c5
  have c5b1 : (a0_0 != 1) = true := bne_iff_ne.mpr c5
  have HC25 := zaa.mk H
  clear H
  go_enter Tryd.func32, Tryd.ntmps32
  go_upto_region 3 with (first | ((with_reducible refine zbc (N := 4) rfl ?_); (try (refine zbN (by rfl) ?_; dsimp only)); refine zbb ?hg (N := 4) ?hd (cs := #[.int .i64 a0_0, .int .i64 a0_1, .slice A0_2 l0_2.length c0_2]) (t := 62) ?hr ?_; (case hd => rfl); (case hg => rfl); (case hr => first | (go_simp; done) | (go_simp; rfl)); intro gb160 hg w26 hbox hb; have n0_ := zaa.mk (zax (by repeat (first | (with_reducible first | exact HB.out | apply zac | apply zab | apply zad) | exact HB.out)) hb); have n1_ := zaa.mk (hbox); have n2_ := zaa.mk ((by rw [hg]; exact (zay (by repeat (first | (with_reducible first | exact HB.out | apply zac | apply zab | apply zad) | exact HB.out))) : w.heap.size ≤ gb160)); have n3_ := zaa.mk ((by rw [hg]; exact (zay (by repeat (first | (with_reducible first | exact HB.out | apply zac | apply zab | apply zad) | exact HB.out))) : w.heap.size ≤ gb160)); clear HB; have HB := n0_; have BK160 := n1_; have GW160 := n2_; have GE160 := n3_; clear n0_ n1_ n2_ n3_; clear hb hbox hg; have hcz27_0 : w26.cell? ⟨gb160, 0, none⟩ = some (.int .i64 a0_0) := (zae BK160.out 0).trans rfl; have hcz27_1 : w26.cell? ⟨gb160, 1, none⟩ = some (.int .i64 a0_1) := (zae BK160.out 1).trans rfl; have hcz27_2 : w26.cell? ⟨gb160, 2, none⟩ = some (.slice A0_2 l0_2.length c0_2) := (zae BK160.out 2).trans rfl; have hfz27_0 := zaj BK160.out 0; have hfz27_1 := zaj BK160.out 1; have hfz27_2 := zaj BK160.out 2))
  (try simp only [Act.put, List.setIfInBounds_toArray, List.set_cons_zero, List.set_cons_succ])
  go_cut [43] (fun v43 wc => ∃ (kq : Nat) (x43_24 : Bool), v43 = .bool x43_24 ∧ zaa (zar.j0 kq a1 a2 a3 x43_24 a0_0 a0_1 l0_2 = some r) ∧ zaa (kq ≤ k) ∧ zaa (wc.heap[gb160]? = some (.cells #[.int .i64 a0_0, .int .i64 a0_1, (.slice A0_2 l0_2.length c0_2)] 62 (0, 0))) ∧ zaa (Below w.heap.size w wc))
  case first =>
   have H := HC25.out
   clear HC25
   by_cases c28 : (l0_2.length : Int) > 0
   ·rw [if_pos c28] at H
    have c28b0 : decide (0 < (l0_2.length : Int)) = true := decide_eq_true c28
    have c28b1 : decide (0 < l0_2.length) = true := decide_eq_true (by omega)
    clear c28
    (first | rw [c28b0] | (simp only [zas, zat]; rw [c28b0]) | skip)
    have H' := zaa.mk H
    clear H
    have hcz29_0 : w26.cell? ⟨gb160, 0, none⟩ = some (.int .i64 a0_0) := (zae BK160.out 0).trans rfl
    have hcz29_1 : w26.cell? ⟨gb160, 1, none⟩ = some (.int .i64 a0_1) := (zae BK160.out 1).trans rfl
    have hcz29_2 : w26.cell? ⟨gb160, 2, none⟩ = some (.slice A0_2 l0_2.length c0_2) := (zae BK160.out 2).trans rfl
    have hfz29_0 := zaj BK160.out 0
    have hfz29_1 := zaj BK160.out 1
    have hfz29_2 := zaj BK160.out 2
    go_wp2
    go_meet
    case rel => exact ⟨_, (true), (by first | rfl | (simp; done) | (simp [*]; done)), H', ⟨by first | omega | exact Nat.le_refl _⟩, ⟨by (with_reducible repeat (first | refine zah ?_ _ | refine zak ?_ | refine zaf ?_ _)); exact BK160.out⟩, ⟨by repeat (first | (with_reducible first | exact HB.out | apply zac | apply zab | apply zad | refine zai ?_ GE160.out) | exact HB.out)⟩⟩
   ·rw [if_neg c28] at H
    have c28b0 : decide (0 < (l0_2.length : Int)) = false := decide_eq_false c28
    have c28b1 : decide (0 < l0_2.length) = false := decide_eq_false (by omega)
    clear c28
    (first | rw [c28b0] | (simp only [zas, zat]; rw [c28b0]) | skip)
    by_cases c30 : a0_0 < 1
    ·rw [if_pos c30] at H
     have c30b0 : decide (a0_0 < 1) = true := decide_eq_true c30
     clear c30
     have H' := zaa.mk H
     clear H
     have hcz31_0 : w26.cell? ⟨gb160, 0, none⟩ = some (.int .i64 a0_0) := (zae BK160.out 0).trans rfl
     have hcz31_1 : w26.cell? ⟨gb160, 1, none⟩ = some (.int .i64 a0_1) := (zae BK160.out 1).trans rfl
     have hcz31_2 : w26.cell? ⟨gb160, 2, none⟩ = some (.slice A0_2 l0_2.length c0_2) := (zae BK160.out 2).trans rfl
     have hfz31_0 := zaj BK160.out 0
     have hfz31_1 := zaj BK160.out 1
     have hfz31_2 := zaj BK160.out 2
     go_wp2
     go_meet
     case rel => exact ⟨_, (true), (by first | rfl | (simp; done) | (simp [*]; done)), H', ⟨by first | omega | exact Nat.le_refl _⟩, ⟨by (with_reducible repeat (first | refine zah ?_ _ | refine zak ?_ | refine zaf ?_ _)); exact BK160.out⟩, ⟨by repeat (first | (with_reducible first | exact HB.out | apply zac | apply zab | apply zad | refine zai ?_ GE160.out) | exact HB.out)⟩⟩
    ·rw [if_neg c30] at H
     have c30b0 : decide (a0_0 < 1) = false := decide_eq_false c30
     clear c30
     have H' := zaa.mk H
     clear H
     have hcz32_0 : w26.cell? ⟨gb160, 0, none⟩ = some (.int .i64 a0_0) := (zae BK160.out 0).trans rfl
     have hcz32_1 : w26.cell? ⟨gb160, 1, none⟩ = some (.int .i64 a0_1) := (zae BK160.out 1).trans rfl
     have hcz32_2 : w26.cell? ⟨gb160, 2, none⟩ = some (.slice A0_2 l0_2.length c0_2) := (zae BK160.out 2).trans rfl
     have hfz32_0 := zaj BK160.out 0
     have hfz32_1 := zaj BK160.out 1
     have hfz32_2 := zaj BK160.out 2
     go_wp2
     go_meet
     case rel => exact ⟨_, (decide (a0_0 > 11)), (by first | rfl | (simp; done) | (simp [*]; done)), H', ⟨by first | omega | exact Nat.le_refl _⟩, ⟨by (with_reducible repeat (first | refine zah ?_ _ | refine zak ?_ | refine zaf ?_ _)); exact BK160.out⟩, ⟨by repeat (first | (with_reducible first | exact HB.out | apply zac | apply zab | apply zad | refine zai ?_ GE160.out) | exact HB.out)⟩⟩
  case rest =>
   clear HC25
   try clear c1
   try clear c2
   try clear p2
   try clear c3
   try clear c5
   try clear c5b0
   try clear c5b1
   try clear c6
   try clear c6b0
   try clear c6b1
   try clear c9
   try clear c16
   try clear c18
   try clear c28
   try clear c28b0
   try clear c28b1
   try clear c30
   try clear c30b0
   try clear c32
   try clear hcz12_0
   try clear hcz12_1
   try clear hcz12_2
   try clear hcz18_0
   try clear hcz18_1
   try clear hcz18_2
   try clear hcz23_0
   try clear hcz23_1
   try clear hcz23_2
   try clear hcz27_0
   try clear hcz27_1
   try clear hcz27_2
   try clear hcz29_0
   try clear hcz29_1
   try clear hcz29_2
   try clear hcz31_0
   try clear hcz31_1
   try clear hcz31_2
   try clear hcz32_0
   try clear hcz32_1
   try clear hcz32_2
   try clear hfz12_0
   try clear hfz12_1
   try clear hfz12_2
   try clear hfz18_0
   try clear hfz18_1
   try clear hfz18_2
   try clear hfz23_0
   try clear hfz23_1
   try clear hfz23_2
   try clear hfz27_0
   try clear hfz27_1
   try clear hfz27_2
   try clear hfz29_0
   try clear hfz29_1
   try clear hfz29_2
   try clear hfz31_0
   try clear hfz31_1
   try clear hfz31_2
   try clear hfz32_0
   try clear hfz32_1
   try clear hfz32_2
   obtain ⟨kq, x43_24, rfl, HA, HJ24, BK160, HB⟩ := hcut
   cases kq with
   | zero => exact absurd HA.out (by simp [zar.j0])
   | succ kj24 =>
    have H := HA.out
    clear HA
    simp only [zar.j0] at H
    by_cases c33 : x43_24 = true
    ·subst c33
     have H1 : (some false) = some r := by rw [if_pos rfl] at H; exact H
     clear H
     have H := H1
     clear H1
     obtain rfl := Option.some.inj H
     go_wp2
     go_ret
     exact ⟨by first | rfl | (simp [zan, zam] <;> rfl) | (simp [*, zan, zam] <;> rfl), by repeat (first | (with_reducible first | exact HB.out | apply zac | apply zab | apply zad | refine zai ?_ GE160.out) | exact HB.out)⟩
    ·replace c33 := Bool.eq_false_iff.mpr c33
     subst c33
     have H1 : (if a0_0 = 3 then (if a0_1 ≥ 0 then (some (decide (a0_1 < a1))) else (some false)) else (if a0_0 = 4 then (if a0_1 ≥ 0 then (some (decide (a0_1 < a2))) else (some false)) else (if a0_0 = 5 then (if a0_1 ≥ 0 then (some (decide (a0_1 < a3))) else (some false)) else (if a0_0 = 11 then (if a0_1 ≥ (-8) then (some (decide (a0_1 ≤ 8))) else (some false)) else (some (a0_1 == 0)))))) = some r := by rw [if_neg (show ¬ (false = true) by decide)] at H; exact H
     clear H
     have H := H1
     clear H1
     by_cases c34 : a0_0 = 3
     ·rw [if_pos c34] at H
      have c34b0 : (a0_0 == 3) = true := beq_iff_eq.mpr c34
      have c34b1 : (a0_0 != 3) = false := bne_eq_false_iff_eq.mpr c34
      clear c34
      by_cases c35 : a0_1 ≥ 0
      ·rw [if_pos c35] at H
       have c35b0 : decide (0 ≤ a0_1) = true := decide_eq_true c35
       clear c35
       obtain rfl := Option.some.inj H
       have hcz36_0 : wc.cell? ⟨gb160, 0, none⟩ = some (.int .i64 a0_0) := (zae BK160.out 0).trans rfl
       have hcz36_1 : wc.cell? ⟨gb160, 1, none⟩ = some (.int .i64 a0_1) := (zae BK160.out 1).trans rfl
       have hcz36_2 : wc.cell? ⟨gb160, 2, none⟩ = some (.slice A0_2 l0_2.length c0_2) := (zae BK160.out 2).trans rfl
       have hfz36_0 := zaj BK160.out 0
       have hfz36_1 := zaj BK160.out 1
       have hfz36_2 := zaj BK160.out 2
       go_wp2
       go_ret
       exact ⟨by first | rfl | (simp [zan, zam] <;> rfl) | (simp [*, zan, zam] <;> rfl), by repeat (first | (with_reducible first | exact HB.out | apply zac | apply zab | apply zad | refine zai ?_ GE160.out) | exact HB.out)⟩
      ·rw [if_neg c35] at H
       have c35b0 : decide (0 ≤ a0_1) = false := decide_eq_false c35
       clear c35
       obtain rfl := Option.some.inj H
       have hcz37_0 : wc.cell? ⟨gb160, 0, none⟩ = some (.int .i64 a0_0) := (zae BK160.out 0).trans rfl
       have hcz37_1 : wc.cell? ⟨gb160, 1, none⟩ = some (.int .i64 a0_1) := (zae BK160.out 1).trans rfl
       have hcz37_2 : wc.cell? ⟨gb160, 2, none⟩ = some (.slice A0_2 l0_2.length c0_2) := (zae BK160.out 2).trans rfl
       have hfz37_0 := zaj BK160.out 0
       have hfz37_1 := zaj BK160.out 1
       have hfz37_2 := zaj BK160.out 2
       go_wp2
       go_ret
       exact ⟨by first | rfl | (simp [zan, zam] <;> rfl) | (simp [*, zan, zam] <;> rfl), by repeat (first | (with_reducible first | exact HB.out | apply zac | apply zab | apply zad | refine zai ?_ GE160.out) | exact HB.out)⟩
     ·rw [if_neg c34] at H
      have c34b0 : (a0_0 == 3) = false := beq_eq_false_iff_ne.mpr c34
      have c34b1 : (a0_0 != 3) = true := bne_iff_ne.mpr c34
      by_cases c38 : a0_0 = 4
      ·rw [if_pos c38] at H
       have c38b0 : (a0_0 == 4) = true := beq_iff_eq.mpr c38
       have c38b1 : (a0_0 != 4) = false := bne_eq_false_iff_eq.mpr c38
       clear c38
       by_cases c39 : a0_1 ≥ 0
       ·rw [if_pos c39] at H
        have c39b0 : decide (0 ≤ a0_1) = true := decide_eq_true c39
        clear c39
        obtain rfl := Option.some.inj H
        have hcz40_0 : wc.cell? ⟨gb160, 0, none⟩ = some (.int .i64 a0_0) := (zae BK160.out 0).trans rfl
        have hcz40_1 : wc.cell? ⟨gb160, 1, none⟩ = some (.int .i64 a0_1) := (zae BK160.out 1).trans rfl
        have hcz40_2 : wc.cell? ⟨gb160, 2, none⟩ = some (.slice A0_2 l0_2.length c0_2) := (zae BK160.out 2).trans rfl
        have hfz40_0 := zaj BK160.out 0
        have hfz40_1 := zaj BK160.out 1
        have hfz40_2 := zaj BK160.out 2
        go_wp2
        go_ret
        exact ⟨by first | rfl | (simp [zan, zam] <;> rfl) | (simp [*, zan, zam] <;> rfl), by repeat (first | (with_reducible first | exact HB.out | apply zac | apply zab | apply zad | refine zai ?_ GE160.out) | exact HB.out)⟩
       ·rw [if_neg c39] at H
        have c39b0 : decide (0 ≤ a0_1) = false := decide_eq_false c39
        clear c39
        obtain rfl := Option.some.inj H
        have hcz41_0 : wc.cell? ⟨gb160, 0, none⟩ = some (.int .i64 a0_0) := (zae BK160.out 0).trans rfl
        have hcz41_1 : wc.cell? ⟨gb160, 1, none⟩ = some (.int .i64 a0_1) := (zae BK160.out 1).trans rfl
        have hcz41_2 : wc.cell? ⟨gb160, 2, none⟩ = some (.slice A0_2 l0_2.length c0_2) := (zae BK160.out 2).trans rfl
        have hfz41_0 := zaj BK160.out 0
        have hfz41_1 := zaj BK160.out 1
        have hfz41_2 := zaj BK160.out 2
        go_wp2
        go_ret
        exact ⟨by first | rfl | (simp [zan, zam] <;> rfl) | (simp [*, zan, zam] <;> rfl), by repeat (first | (with_reducible first | exact HB.out | apply zac | apply zab | apply zad | refine zai ?_ GE160.out) | exact HB.out)⟩
      ·rw [if_neg c38] at H
       have c38b0 : (a0_0 == 4) = false := beq_eq_false_iff_ne.mpr c38
       have c38b1 : (a0_0 != 4) = true := bne_iff_ne.mpr c38
       by_cases c42 : a0_0 = 5
       ·rw [if_pos c42] at H
        have c42b0 : (a0_0 == 5) = true := beq_iff_eq.mpr c42
        have c42b1 : (a0_0 != 5) = false := bne_eq_false_iff_eq.mpr c42
        clear c42
        by_cases c43 : a0_1 ≥ 0
        ·rw [if_pos c43] at H
         have c43b0 : decide (0 ≤ a0_1) = true := decide_eq_true c43
         clear c43
         obtain rfl := Option.some.inj H
         have hcz44_0 : wc.cell? ⟨gb160, 0, none⟩ = some (.int .i64 a0_0) := (zae BK160.out 0).trans rfl
         have hcz44_1 : wc.cell? ⟨gb160, 1, none⟩ = some (.int .i64 a0_1) := (zae BK160.out 1).trans rfl
         have hcz44_2 : wc.cell? ⟨gb160, 2, none⟩ = some (.slice A0_2 l0_2.length c0_2) := (zae BK160.out 2).trans rfl
         have hfz44_0 := zaj BK160.out 0
         have hfz44_1 := zaj BK160.out 1
         have hfz44_2 := zaj BK160.out 2
         go_wp2
         go_ret
         exact ⟨by first | rfl | (simp [zan, zam] <;> rfl) | (simp [*, zan, zam] <;> rfl), by repeat (first | (with_reducible first | exact HB.out | apply zac | apply zab | apply zad | refine zai ?_ GE160.out) | exact HB.out)⟩
        ·rw [if_neg c43] at H
         have c43b0 : decide (0 ≤ a0_1) = false := decide_eq_false c43
         clear c43
         obtain rfl := Option.some.inj H
         have hcz45_0 : wc.cell? ⟨gb160, 0, none⟩ = some (.int .i64 a0_0) := (zae BK160.out 0).trans rfl
         have hcz45_1 : wc.cell? ⟨gb160, 1, none⟩ = some (.int .i64 a0_1) := (zae BK160.out 1).trans rfl
         have hcz45_2 : wc.cell? ⟨gb160, 2, none⟩ = some (.slice A0_2 l0_2.length c0_2) := (zae BK160.out 2).trans rfl
         have hfz45_0 := zaj BK160.out 0
         have hfz45_1 := zaj BK160.out 1
         have hfz45_2 := zaj BK160.out 2
         go_wp2
         go_ret
         exact ⟨by first | rfl | (simp [zan, zam] <;> rfl) | (simp [*, zan, zam] <;> rfl), by repeat (first | (with_reducible first | exact HB.out | apply zac | apply zab | apply zad | refine zai ?_ GE160.out) | exact HB.out)⟩
       ·rw [if_neg c42] at H
        have c42b0 : (a0_0 == 5) = false := beq_eq_false_iff_ne.mpr c42
        have c42b1 : (a0_0 != 5) = true := bne_iff_ne.mpr c42
        by_cases c46 : a0_0 = 11
        ·rw [if_pos c46] at H
         have c46b0 : (a0_0 == 11) = true := beq_iff_eq.mpr c46
         have c46b1 : (a0_0 != 11) = false := bne_eq_false_iff_eq.mpr c46
         clear c46
         by_cases c47 : a0_1 ≥ (-8)
         ·rw [if_pos c47] at H
          have c47b0 : decide ((-8) ≤ a0_1) = true := decide_eq_true c47
          clear c47
          obtain rfl := Option.some.inj H
          have hcz48_0 : wc.cell? ⟨gb160, 0, none⟩ = some (.int .i64 a0_0) := (zae BK160.out 0).trans rfl
          have hcz48_1 : wc.cell? ⟨gb160, 1, none⟩ = some (.int .i64 a0_1) := (zae BK160.out 1).trans rfl
          have hcz48_2 : wc.cell? ⟨gb160, 2, none⟩ = some (.slice A0_2 l0_2.length c0_2) := (zae BK160.out 2).trans rfl
          have hfz48_0 := zaj BK160.out 0
          have hfz48_1 := zaj BK160.out 1
          have hfz48_2 := zaj BK160.out 2
          go_wp2
          go_ret
          exact ⟨by first | rfl | (simp [zan, zam] <;> rfl) | (simp [*, zan, zam] <;> rfl), by repeat (first | (with_reducible first | exact HB.out | apply zac | apply zab | apply zad | refine zai ?_ GE160.out) | exact HB.out)⟩
         ·rw [if_neg c47] at H
          have c47b0 : decide ((-8) ≤ a0_1) = false := decide_eq_false c47
          clear c47
          obtain rfl := Option.some.inj H
          have hcz49_0 : wc.cell? ⟨gb160, 0, none⟩ = some (.int .i64 a0_0) := (zae BK160.out 0).trans rfl
          have hcz49_1 : wc.cell? ⟨gb160, 1, none⟩ = some (.int .i64 a0_1) := (zae BK160.out 1).trans rfl
          have hcz49_2 : wc.cell? ⟨gb160, 2, none⟩ = some (.slice A0_2 l0_2.length c0_2) := (zae BK160.out 2).trans rfl
          have hfz49_0 := zaj BK160.out 0
          have hfz49_1 := zaj BK160.out 1
          have hfz49_2 := zaj BK160.out 2
          go_wp2
          go_ret
          exact ⟨by first | rfl | (simp [zan, zam] <;> rfl) | (simp [*, zan, zam] <;> rfl), by repeat (first | (with_reducible first | exact HB.out | apply zac | apply zab | apply zad | refine zai ?_ GE160.out) | exact HB.out)⟩
        ·rw [if_neg c46] at H
         have c46b0 : (a0_0 == 11) = false := beq_eq_false_iff_ne.mpr c46
         have c46b1 : (a0_0 != 11) = true := bne_iff_ne.mpr c46
         obtain rfl := Option.some.inj H
         have hcz50_0 : wc.cell? ⟨gb160, 0, none⟩ = some (.int .i64 a0_0) := (zae BK160.out 0).trans rfl
         have hcz50_1 : wc.cell? ⟨gb160, 1, none⟩ = some (.int .i64 a0_1) := (zae BK160.out 1).trans rfl
         have hcz50_2 : wc.cell? ⟨gb160, 2, none⟩ = some (.slice A0_2 l0_2.length c0_2) := (zae BK160.out 2).trans rfl
         have hfz50_0 := zaj BK160.out 0
         have hfz50_1 := zaj BK160.out 1
         have hfz50_2 := zaj BK160.out 2
         go_wp2
         go_ret
         exact ⟨by first | rfl | (simp [zan, zam] <;> rfl) | (simp [*, zan, zam] <;> rfl), by repeat (first | (with_reducible first | exact HB.out | apply zac | apply zab | apply zad | refine zai ?_ GE160.out) | exact HB.out)⟩
end Go.Proofs.YtbicjgaadknmfaaDoor.P
end
section
namespace Go.Proofs.YtbicjgaadknmfaaDoor.M
open Go.RowKit Go.Proofs.YtbicjgaadknmfaaDoorW.PrintWords
set_option linter.unusedVariables false
set_option linter.unusedSimpArgs false
def toL (s : ByteArray) : List UInt8 := s.data.toList
def ofL (l : List UInt8) : ByteArray := ⟨l.toArray⟩
@[simp] theorem zcG (l : List UInt8) : toL (ofL l) = l := by simp [toL, ofL]
@[simp] theorem zgN (s : ByteArray) : ofL (toL s) = s := by simp [toL, ofL]
theorem zfn {s t : ByteArray} (h : toL s = toL t) : s = t := by rw [← zgN s, h, zgN]
theorem zkE {s t : List UInt8} (h : ofL s = ofL t) : s = t := by rw [← zcG s, h, zcG]
@[simp] theorem zcp (s : ByteArray) : (toL s).length = s.size := by simp [toL]
@[simp] theorem zgp (l : List UInt8) : (ofL l).size = l.length := by rw [← zcp, zcG]
theorem toList_eq (s : ByteArray) : s.toList = toL s := by
  exact ByteArray.toList_eq s
theorem zeR (s : ByteArray) (a b : Nat) : toL (s.extract a b) = ((toL s).drop a).take (b - a) := by
  simp [toL, ByteArray.data_extract, List.drop_take, List.extract_eq_take_drop]
@[simp] theorem zj3 (s t : ByteArray) : toL (s ++ t) = toL s ++ toL t := by simp [toL]
theorem zkB (l : List UInt8) : toL ⟨l.toArray⟩ = l := zcG l
theorem zhW (s : ByteArray) (i : Int) : bt s i = (((toL s).getD i.toNat 0).toNat : Int) := by
  unfold bt
  split
  · rename_i h
    simp [toL, List.getD_eq_getElem?_getD, h]
    rfl
  · rename_i h
    have : (toL s).length ≤ i.toNat := by simp; omega
    rw [List.getD_eq_getElem?_getD, List.getElem?_eq_none this]
    rfl
theorem zfv (s : ByteArray) (i : Nat) (c : UInt8) (r : List UInt8) (h : (toL s).drop i = c :: r) : bt s (i : Int) = (c.toNat : Int) := by
  rw [zhW]
  have : (toL s)[i]? = some c := by
    have := congrArg (fun l => l[0]?) h
    simpa using this
  simp [List.getD_eq_getElem?_getD, this]
theorem zgX {l : List UInt8} {i : Nat} {c : UInt8} {r : List UInt8} (h : l.drop i = c :: r) : i < l.length := by
  have := congrArg List.length h
  simp at this
  omega
theorem zfC {l : List UInt8} {i : Nat} {c : UInt8} {r : List UInt8} (h : l.drop i = c :: r) : l.drop (i + 1) = r := by
  rw [← List.drop_drop, h]; rfl
theorem drop_nil {l : List UInt8} {i : Nat} (h : l.drop i = []) : l.length ≤ i := by simpa using h
theorem zbv {n : Int} (h0 : -9223372036854775808 ≤ n) (h1 : n ≤ 9223372036854775807) : wrap64 n = n := by unfold wrap64; omega
theorem Ev.zkH {α : Type} {c : Nat → Prop} [∀ k, Decidable (c k)] {g f : Nat → Option α} {r : α} (h : ∀ k, c k) (k : Ev g r) : Ev (fun n => if c n then g n else f n) r :=
  Ev.congr (fun n => if_pos (h n)) k
theorem Ev.of_eq {α : Type} {g : Nat → Option α} {r : α} (h : ∀ k, g k = some r) : Ev g r := ⟨0, fun k _ => h k⟩
theorem Ev.uniq {α : Type} {g : Nat → Option α} {r q : α} (h : Ev g r) (k : Ev g q) : r = q := by
  obtain ⟨K, h⟩ := h
  obtain ⟨K', k⟩ := k
  have h1 := h (max K K') (by omega)
  have h2 := k (max K K') (by omega)
  rw [h1] at h2
  exact Option.some.inj h2
end Go.Proofs.YtbicjgaadknmfaaDoor.M
end
section
namespace Go.Proofs.YtbicjgaadknmfaaDoor.M
open Go.RowKit Go.Proofs.YtbicjgaadknmfaaDoorW.PrintWords
set_option linter.unusedVariables false
set_option linter.unusedSimpArgs false
structure Wd where
  kd : Nat
  tx : List UInt8
  pl : Nat
def isDigit (c : UInt8) : Bool := decide (48 ≤ c.toNat ∧ c.toNat ≤ 57)
def zct (c : UInt8) : Bool := decide ((97 ≤ c.toNat ∧ c.toNat ≤ 122) ∨ (65 ≤ c.toNat ∧ c.toNat ≤ 90) ∨ c.toNat = 95)
def zdI : List UInt8 := [43, 45, 42, 47, 94, 40, 41, 91, 93, 44, 59, 61]
def zep (c : UInt8) : Bool := zdI.contains c
def za9 (c : UInt8) : Nat := if isDigit c then 1 else if zct c then 2 else if zep c then 3 else 0
def zbe (k : Nat) (c : UInt8) : Bool := (k == 1 && isDigit c) || (k == 2 && (zct c || isDigit c))
def zb4 (k : Nat) : Nat := if k = 1 then 60 else if k = 2 then 12 else 1
theorem zgl (k : Nat) : 1 ≤ zb4 k := by
  unfold zb4
  split
  · omega
  · split <;> omega
def zcx (c : UInt8) : Bool := decide (c.toNat = 32 ∨ c.toNat = 9 ∨ c.toNat = 10 ∨ c.toNat = 13)
def zcz (c : UInt8) : Bool := decide (c.toNat ≠ 10)
theorem zcI {α : Type} (p : α → Bool) (l : List α) : (l.dropWhile p).length ≤ l.length := (List.dropWhile_suffix p).length_le
theorem zfV {α : Type} (p : α → Bool) (l : List α) : (l.takeWhile p).length + (l.dropWhile p).length = l.length := by
  rw [← List.length_append, List.takeWhile_append_dropWhile]
theorem zja {α : Type} (p : α → Bool) (l : List α) : l.drop (l.takeWhile p).length = l.dropWhile p := by
  induction l with
  | nil => rfl
  | cons a l ih => by_cases h : p a = true <;> simp [List.takeWhile_cons, List.dropWhile_cons, h, ih]
def zg9 (w : Wd) : Except Nat (List Wd) → Except Nat (List Wd)
  | .ok ws => .ok (w :: ws)
  | .error q => .error q
def zce : List UInt8 → Nat → Except Nat (List Wd)
  | [], _ => .ok []
  | c :: r, p =>
    if zcx c then zce r (p + 1)
    else if c.toNat = 35 then zce (r.dropWhile zcz) (p + 1 + (r.takeWhile zcz).length)
    else if za9 c = 0 then .error p
    else if zb4 (za9 c) < (r.takeWhile (zbe (za9 c))).length + 1 then .error (p + zb4 (za9 c))
    else zg9 ⟨za9 c, c :: r.takeWhile (zbe (za9 c)), p⟩ (zce (r.dropWhile (zbe (za9 c))) (p + ((r.takeWhile (zbe (za9 c))).length + 1)))
  termination_by l => l.length
  decreasing_by
  · simp
  · have := zcI zcz r; simp; omega
  · have := zcI (zbe (za9 c)) r; simp; omega
def zdk (l : List UInt8) : Except Nat (List Wd) := if 4000 < l.length then .error 4000 else zce l 0
end Go.Proofs.YtbicjgaadknmfaaDoor.M
end
section
namespace Go.Proofs.YtbicjgaadknmfaaDoor.M
open Go.RowKit Go.Proofs.YtbicjgaadknmfaaDoorW.PrintWords
set_option linter.unusedVariables false
set_option linter.unusedSimpArgs false
def zbX (c : UInt8) (note : Bool) : Bool := if c.toNat = 35 then true else if c.toNat = 10 then false else note
def zdV (acc : List Wd) (i : Nat) (c : UInt8) : Option (List Wd) := if za9 c = 0 then none else some (acc ++ [⟨za9 c, [c], i⟩])
def zc6 (acc : List Wd) (i : Nat) (c : UInt8) : Option (List Wd) :=
  match acc.getLast? with
  | some w => if w.pl + w.tx.length = i ∧ zbe w.kd c = true then (if zb4 w.kd < w.tx.length + 1 then none else some (acc.dropLast ++ [⟨w.kd, w.tx ++ [c], w.pl⟩])) else zdV acc i c
  | none => zdV acc i c
def zbI : List UInt8 → Nat → Bool → List Wd → Except Nat (List Wd)
  | [], _, _, acc => .ok acc
  | c :: r, i, note, acc =>
    if (zbX c note || zcx c) = true then zbI r (i + 1) (zbX c note) acc
    else match zc6 acc i c with
      | none => .error i
      | some acc' => zbI r (i + 1) false acc'
def appW (acc : List Wd) : Except Nat (List Wd) → Except Nat (List Wd)
  | .ok ws => .ok (acc ++ ws)
  | .error q => .error q
theorem zhb {k : Nat} {c : UInt8} (h : zbe k c = true) : zcx c = false ∧ ¬ c.toNat = 35 ∧ ¬ c.toNat = 10 := by
  have hc : (48 ≤ c.toNat ∧ c.toNat ≤ 57) ∨ (97 ≤ c.toNat ∧ c.toNat ≤ 122) ∨ (65 ≤ c.toNat ∧ c.toNat ≤ 90) ∨ c.toNat = 95 := by
    unfold zbe isDigit zct at h
    simp only [Bool.or_eq_true, Bool.and_eq_true, decide_eq_true_eq] at h
    omega
  refine ⟨?_, by omega, by omega⟩
  unfold zcx
  apply decide_eq_false
  omega
theorem ziw (l : List UInt8) : ∀ (i : Nat) (acc : List Wd), zbI l i true acc = zbI (l.dropWhile zcz) (i + (l.takeWhile zcz).length) false acc := by
  induction l with
  | nil => intro i acc; rfl
  | cons c r ih =>
    intro i acc
    by_cases h : c.toNat = 10
    · have hnb : zcz c = false := by simp [zcz, h]
      rw [List.takeWhile_cons_of_neg (by simp [hnb]), List.dropWhile_cons_of_neg (by simp [hnb])]
      have : zbX c true = zbX c false := by simp [zbX, h]
      simp only [zbI, this, List.length_nil, Nat.add_zero]
    · have hnb : zcz c = true := by simp [zcz, h]
      have hn : zbX c true = true := by simp [zbX, h]
      rw [List.takeWhile_cons_of_pos hnb, List.dropWhile_cons_of_pos hnb, List.length_cons]
      simp only [zbI, hn, Bool.true_or, if_true]
      rw [ih]
      congr 1
      omega
theorem zit (kd p : Nat) : ∀ (r : List UInt8) (i : Nat) (t : List UInt8) (pre : List Wd), p + t.length = i → t.length ≤ zb4 kd →
    zbI r i false (pre ++ [⟨kd, t, p⟩]) = if zb4 kd < t.length + (r.takeWhile (zbe kd)).length then .error (p + zb4 kd) else zbI (r.dropWhile (zbe kd)) (i + (r.takeWhile (zbe kd)).length) false (pre ++ [⟨kd, t ++ r.takeWhile (zbe kd), p⟩]) := by
  intro r
  induction r with
  | nil =>
    intro i t pre hp ht
    rw [List.takeWhile_nil, List.length_nil, if_neg (by omega), List.append_nil]
    rfl
  | cons c r ih =>
    intro i t pre hp ht
    by_cases hg : zbe kd c = true
    · obtain ⟨h1, h2, h10⟩ := zhb hg
      have hn : zbX c false = false := by simp [zbX, h2]
      rw [List.takeWhile_cons_of_pos hg, List.dropWhile_cons_of_pos hg, List.length_cons]
      have e : zc6 (pre ++ [⟨kd, t, p⟩]) i c = if zb4 kd < t.length + 1 then none else some (pre ++ [⟨kd, t ++ [c], p⟩]) := by
        unfold zc6
        rw [List.getLast?_concat, List.dropLast_concat]
        simp only [hp, hg, and_self, if_true]
      simp only [zbI, hn, h1, Bool.or_self, Bool.false_eq_true, if_false, e]
      by_cases h0 : zb4 kd < t.length + 1
      · rw [if_pos h0, if_pos (by omega)]
        simp only
        congr 1
        omega
      · rw [if_neg h0]
        simp only
        rw [ih (i + 1) (t ++ [c]) pre (by simp; omega) (by simp; omega), List.length_append, List.length_singleton, List.append_assoc, List.singleton_append, show t.length + 1 + (r.takeWhile (zbe kd)).length = t.length + ((r.takeWhile (zbe kd)).length + 1) from by omega, show i + 1 + (r.takeWhile (zbe kd)).length = i + ((r.takeWhile (zbe kd)).length + 1) from by omega]
    · rw [List.takeWhile_cons_of_neg hg, List.dropWhile_cons_of_neg hg, List.length_nil, List.append_nil, if_neg (by omega)]
      rfl
def Shut (acc : List Wd) (i : Nat) (l : List UInt8) : Prop := acc = [] ∨ ∃ pre w, acc = pre ++ [w] ∧ (w.pl + w.tx.length < i ∨ w.pl + w.tx.length = i ∧ ∀ c r, l = c :: r → zbe w.kd c = false)
theorem Shut.later {acc : List Wd} {i j : Nat} {l l' : List UInt8} (h : Shut acc i l) (hj : i < j) : Shut acc j l' := by
  rcases h with h | ⟨pre, w, h, hw⟩
  · exact .inl h
  · exact .inr ⟨pre, w, h, .inl (by omega)⟩
theorem Shut.step {acc : List Wd} {i : Nat} {c : UInt8} {r : List UInt8} (h : Shut acc i (c :: r)) : zc6 acc i c = zdV acc i c := by
  rcases h with rfl | ⟨pre, w, rfl, hw⟩
  · rfl
  · unfold zc6
    rw [List.getLast?_concat]
    simp only
    rw [if_neg]
    rintro ⟨h1, h2⟩
    rcases hw with hw | ⟨_, hw⟩
    · omega
    · rw [hw c r rfl] at h2; cases h2
theorem zib : ∀ (n : Nat) (l : List UInt8) (i : Nat) (acc : List Wd), l.length ≤ n → Shut acc i l → zbI l i false acc = appW acc (zce l i) := by
  intro n
  induction n with
  | zero =>
    intro l i acc hn hs
    obtain rfl := List.length_eq_zero_iff.1 (Nat.le_zero.1 hn)
    rw [zce]; simp [zbI, appW]
  | succ n ih =>
    intro l i acc hn hs
    cases l with
    | nil => rw [zce]; simp [zbI, appW]
    | cons c r =>
      simp only [List.length_cons] at hn
      rw [zce]
      by_cases h1 : zcx c = true
      · rw [if_pos h1]
        have h35 : zbX c false = false := by
          unfold zcx at h1
          have := of_decide_eq_true h1
          unfold zbX
          rw [if_neg (by omega)]
          split <;> rfl
        simp only [zbI, h35, h1, Bool.or_true, if_true]
        exact ih r (i + 1) acc (by omega) (hs.later (by omega))
      · rw [if_neg h1]
        by_cases h2 : c.toNat = 35
        · rw [if_pos h2]
          have h35 : zbX c false = true := by simp [zbX, h2]
          have hle := zcI zcz r
          simp only [zbI, h35, Bool.true_or, if_true]
          rw [ziw]
          exact ih _ _ acc (by omega) (hs.later (by omega))
        · rw [if_neg h2]
          have h35 : zbX c false = false := by simp [zbX, h2]
          have h1' := eq_false_of_ne_true h1
          simp only [zbI, h35, h1', Bool.or_self, Bool.false_eq_true, if_false, hs.step]
          unfold zdV
          by_cases h3 : za9 c = 0
          · rw [if_pos h3, if_pos h3]; rfl
          · rw [if_neg h3, if_neg h3]
            simp only
            have hm := zgl (za9 c)
            have hle := zcI (zbe (za9 c)) r
            rw [zit (za9 c) i r (i + 1) [c] acc (by simp) (by simpa using hm), List.length_singleton, Nat.add_comm 1 (r.takeWhile (zbe (za9 c))).length]
            by_cases h4 : zb4 (za9 c) < (r.takeWhile (zbe (za9 c))).length + 1
            · rw [if_pos h4, if_pos h4]; rfl
            · rw [if_neg h4, if_neg h4]
              rw [ih _ _ _ (by omega) (.inr ⟨acc, _, rfl, .inr ⟨by simp; omega, ?_⟩⟩)]
              · rw [show i + 1 + (r.takeWhile (zbe (za9 c))).length = i + ((r.takeWhile (zbe (za9 c))).length + 1) by omega]
                cases zce (r.dropWhile (zbe (za9 c))) (i + ((r.takeWhile (zbe (za9 c))).length + 1)) with
                | ok ws => simp [appW, zg9]
                | error q => rfl
              · intro d u hu
                have := List.head?_dropWhile_not (zbe (za9 c)) r
                rw [hu] at this
                simpa using this
theorem zhV (l : List UInt8) (h : l.length ≤ 4000) : zbI l 0 false [] = zdk l := by
  unfold zdk
  rw [if_neg (by omega), zib l.length l 0 [] (Nat.le_refl _) (.inl rfl)]
  cases zce l 0 <;> rfl
end Go.Proofs.YtbicjgaadknmfaaDoor.M
end
section
namespace Go.Proofs.YtbicjgaadknmfaaDoor.M
open Go.RowKit Go.Proofs.YtbicjgaadknmfaaDoorW.PrintWords Go.Proofs.YtbicjgaadknmfaaDoor.P
set_option linter.unusedVariables false
set_option linter.unusedSimpArgs false
theorem zfH (c : UInt8) : za5.f (c.toNat : Int) = some (isDigit c) := by
  unfold za5.f isDigit
  by_cases h : 48 ≤ c.toNat
  · rw [if_pos (by omega)]
    congr 1
    apply decide_eq_decide.2
    omega
  · rw [if_neg (by omega)]
    congr 1
    symm
    apply decide_eq_false
    omega
theorem ze3 (c : UInt8) : zaX.f (c.toNat : Int) = some (zct c) := by
  unfold zaX.f zct
  repeat' split
  all_goals
    congr 1
    symm
    first
    | (apply decide_eq_true; omega)
    | (rw [Bool.eq_iff_iff, decide_eq_true_iff, beq_iff_eq]; omega)
theorem zh9 (k : Nat) (c : UInt8) : zbr.f (k : Int) (c.toNat : Int) = some (zbe k c) := by
  unfold zbr.f zbe
  simp only [zfH, ze3, Option.bind_some]
  by_cases h1 : k = 1
  · subst h1
    rcases Bool.eq_false_or_eq_true (isDigit c) with h | h <;> simp [h]
  · by_cases h2 : k = 2
    · subst h2
      rcases Bool.eq_false_or_eq_true (isDigit c) with h | h <;> rcases Bool.eq_false_or_eq_true (zct c) with h' | h' <;> simp [h, h']
    · have e1 : ¬ (k : Int) = 1 := by omega
      have e2 : ¬ (k : Int) = 2 := by omega
      simp [h1, h2, e1, e2]
theorem ziy (k : Nat) : zb5.f (k : Int) = some (zb4 k : Int) := by
  unfold zb5.f zb4
  by_cases h1 : k = 1
  · subst h1; rfl
  · by_cases h2 : k = 2
    · subst h2; rfl
    · have e1 : ¬ (k : Int) = 1 := by omega
      have e2 : ¬ (k : Int) = 2 := by omega
      simp [h1, h2, e1, e2]
theorem zg3 (c : UInt8) (s : ByteArray) (hs : s.size ≤ 1000) : ∀ (r : List UInt8) (i : Nat), (toL s).drop i = r → i ≤ s.size →
    Ev (fun n => zaL.l0 n (c.toNat : Int) s (i : Int)) (if r.contains c then 3 else 0) := by
  intro r
  induction r with
  | nil =>
    intro i hd hi
    have := drop_nil hd
    rw [zcp] at this
    refine Ev.step (f := fun _ => some 0) (fun n => ?_) (Ev.now _)
    simp only [zaL.l0]
    rw [if_neg (by omega)]
  | cons b r ih =>
    intro i hd hi
    have hlt := zgX hd
    rw [zcp] at hlt
    have hb := zfv s i b r hd
    by_cases hg : b = c
    · subst hg
      refine Ev.step (f := fun _ => some 3) (fun n => ?_) ?_
      · simp only [zaL.l0]
        rw [if_pos (by omega), if_pos (by omega), hb, if_pos rfl]
      · simp only [List.contains_cons, beq_self_eq_true, Bool.true_or, if_true]
        exact Ev.now _
    · have hne : ¬ (b.toNat : Int) = (c.toNat : Int) := fun h => hg (UInt8.toNat_inj.1 (by omega))
      refine Ev.step (f := fun n => zaL.l0 n (c.toNat : Int) s ((i + 1 : Nat) : Int)) (fun n => ?_) ?_
      · simp only [zaL.l0]
        rw [if_pos (by omega), if_pos (by omega), hb, if_neg hne, zbv (by omega) (by omega)]
        rfl
      · have e : (b :: r).contains c = r.contains c := by
          rw [List.contains_cons, beq_eq_false_iff_ne.2 (fun h => hg h.symm), Bool.false_or]
        rw [e]
        exact ih (i + 1) (zfC hd) (by omega)
theorem zid (c : UInt8) : Ev (fun n => zaL.f n (c.toNat : Int)) (za9 c : Int) := by
  unfold zaL.f za9
  simp only [zfH, ze3, Option.bind_some]
  by_cases h1 : isDigit c = true
  · simp only [h1, if_true]; exact Ev.now _
  · simp only [h1, if_false]
    by_cases h2 : zct c = true
    · simp only [h2, if_true]; exact Ev.now _
    · simp only [h2, if_false]
      have := zg3 c ⟨#[43, 45, 42, 47, 94, 40, 41, 91, 93, 44, 59, 61]⟩ (by decide) zdI 0 rfl (by decide)
      unfold zep
      split at this <;> rename_i h
      · rw [if_pos h]; exact this
      · rw [if_neg h]; exact this
def mkR (w : Wd) : S136 := ⟨w.kd, ofL w.tx, w.pl⟩
def resR : Except Nat (List Wd) → List S136 × Int
  | .ok ws => (ws.map mkR, -1)
  | .error q => ([], (q : Int))
end Go.Proofs.YtbicjgaadknmfaaDoor.M
end
section
namespace Go.Proofs.YtbicjgaadknmfaaDoor.P
open Go.RowKit Go.Proofs.YtbicjgaadknmfaaDoorW.PrintWords Go.Proofs.YtbicjgaadknmfaaDoor.M
set_option linter.unusedVariables false
set_option linter.unusedSimpArgs false
def zcN.f (a0 : ByteArray) : Option (List S136 × Int) := some (resR (zdk (toL a0)))
def zdl (acc : List Wd) (i : Nat) (c : UInt8) : Bool := match acc.getLast? with
  | some w => decide (w.pl + w.tx.length = i) && zbe w.kd c
  | none => false
def zb8 (acc : List Wd) (i : Nat) (c : UInt8) : List Wd × Wd := match acc.getLast? with
  | some w => if zdl acc i c = true then (acc.dropLast, ⟨w.kd, w.tx ++ [c], w.pl⟩) else (acc, ⟨za9 c, [c], i⟩)
  | none => (acc, ⟨za9 c, [c], i⟩)
theorem zgA (acc : List Wd) (i : Nat) (c : UInt8) : zc6 acc i c = if (zb8 acc i c).2.kd = 0 ∨ zb4 (zb8 acc i c).2.kd < (zb8 acc i c).2.tx.length then none else some ((zb8 acc i c).1 ++ [(zb8 acc i c).2]) := by
  unfold zc6 zb8 zdl
  have hm := zgl (za9 c)
  cases h : acc.getLast? with
  | none =>
    simp only [zdV, List.length_singleton]
    by_cases h0 : za9 c = 0
    · rw [if_pos h0, if_pos (.inl h0)]
    · rw [if_neg h0, if_neg (by omega)]
  | some w =>
    by_cases h1 : w.pl + w.tx.length = i ∧ zbe w.kd c = true
    · have hk : ¬ w.kd = 0 := fun h0 => by have := h1.2; rw [h0] at this; cases this
      have e : (decide (w.pl + w.tx.length = i) && zbe w.kd c) = true := by rw [h1.2, decide_eq_true h1.1]; rfl
      simp only [if_pos h1, e, if_true, List.length_append, List.length_singleton]
      by_cases h2 : zb4 w.kd < w.tx.length + 1
      · rw [if_pos h2, if_pos (.inr h2)]
      · rw [if_neg h2, if_neg (by omega)]
    · have e : (decide (w.pl + w.tx.length = i) && zbe w.kd c) = false := by
        rw [Bool.eq_false_iff]; intro h; rw [Bool.and_eq_true, decide_eq_true_eq] at h; exact h1 h
      simp only [if_neg h1, e, if_false, Bool.false_eq_true, zdV, List.length_singleton]
      by_cases h0 : za9 c = 0
      · rw [if_pos h0, if_pos (.inl h0)]
      · rw [if_neg h0, if_neg (by omega)]
theorem zji {acc : List Wd} {i : Nat} {c : UInt8} (h : acc.length ≤ i) : (zb8 acc i c).1.length ≤ i := by
  unfold zb8
  cases acc.getLast? with
  | none => exact h
  | some w => simp only; split <;> simp <;> omega
theorem zdD {acc : List Wd} {i : Nat} (h : zaa (∀ x ∈ acc, x.pl + x.tx.length ≤ i)) : zaa (∀ x ∈ acc, x.pl + x.tx.length ≤ i + 1) := ⟨fun x hx => by have := h.out x hx; omega⟩
theorem zis {acc : List Wd} {i : Nat} {c : UInt8} (h : ∀ x ∈ acc, x.pl + x.tx.length ≤ i) : ∀ x ∈ (zb8 acc i c).1 ++ [(zb8 acc i c).2], x.pl + x.tx.length ≤ i + 1 := by
  intro x hx
  unfold zb8 at hx
  cases h1 : acc.getLast? with
  | none =>
    rw [h1] at hx
    rcases List.mem_append.1 hx with hx | hx
    · have := h x hx; omega
    · rw [List.mem_singleton.1 hx]; simp
  | some w =>
    rw [h1] at hx
    have hw := h w (by obtain ⟨l, rfl⟩ := List.getLast?_eq_some_iff.1 h1; simp)
    simp only at hx
    split at hx
    · rcases List.mem_append.1 hx with hx | hx
      · have := h x (List.dropLast_subset _ hx); omega
      · rw [List.mem_singleton.1 hx]; simp; omega
    · rcases List.mem_append.1 hx with hx | hx
      · have := h x hx; omega
      · rw [List.mem_singleton.1 hx]; simp
theorem zi0 {c : UInt8} {r : List UInt8} {i : Nat} {acc : List Wd} {R : Except Nat (List Wd)} (h : zaa (zbI (c :: r) i false acc = R)) (hn : zbX c false = false) (hb : zcx c = false) :
    zaa ((match zc6 acc i c with | none => .error i | some acc' => zbI r (i + 1) false acc') = R) := by
  refine ⟨?_⟩
  have := h.out
  simp only [zbI, hn, hb, Bool.or_self, Bool.false_eq_true, if_false] at this
  exact this
theorem zfd {w : World} {base : Nat} {A : Option Addr} {c : Nat} {xs : List S136} {x : S136} (h : Kd.R k136 136 w base (fun _ => True) (.slice A (xs.length + 1) c) (xs ++ [x])) :
    ∃ g, A = some ⟨g, 0, none⟩ ∧ base ≤ g ∧ w.cell? ⟨g, xs.length * 3, none⟩ = some (.int .i64 x.f0) ∧ w.cell? ⟨g, xs.length * 3 + 1, none⟩ = some (.string x.f1) ∧ w.cell? ⟨g, xs.length * 3 + 2, none⟩ = some (.int .i64 x.f2) ∧ ∀ o, w.frozen? ⟨g, o, none⟩ = false := by
  obtain ⟨inner, ho⟩ := Kd.zeG h
  obtain ⟨hl, h1 | ⟨g, cap, cur, e, hb, hh, _⟩⟩ := ho
  · have := h1.1; simp at this
  · injection e with e1 _ _
    subst e1
    obtain ⟨ad, e2, c0, c1, c2⟩ := zjt (Kd.zbs (n := xs.length + 1) h).2.2 (xs.length : Int) (by omega) (by simp; omega)
    injection e2 with e2
    subst e2
    have hr : zdX (xs ++ [x]) (xs.length : Int) = x := by
      unfold zdX
      simp [List.getD_eq_getElem?_getD]
    rw [hr] at c0 c1 c2
    simp only [add_plain, Int.toNat_natCast] at c0 c1 c2
    exact ⟨g, rfl, hb, c0, c1, c2, fun o => zaj hh o⟩
theorem zjl {w : World} {base : Nat} {g : Nat} {c : Nat} {xs : List S136} {x : S136} (t : ByteArray) (h : Kd.R k136 136 w base (fun _ => True) (.slice (some ⟨g, 0, none⟩) (xs.length + 1) c) (xs ++ [x])) :
    Kd.R k136 136 (w.setCell ⟨g, xs.length * 3 + 1, none⟩ (.string t)) base (fun _ => True) (.slice (some ⟨g, 0, none⟩) (xs.length + 1) c) (xs ++ [⟨x.f0, t, x.f2⟩]) := by
  obtain ⟨cc, hcl, hM, hcc, _⟩ := Kd.zgf h z136 (xs.length : Int) (by omega) (by omega)
  have hr : (xs ++ [x]).getD (xs.length : Int).toNat z136 = x := by simp [List.getD_eq_getElem?_getD]
  rw [hr] at hM
  obtain rfl := zhe hM
  have := (Kd.zj5 h (xs.length : Int) (by omega) (by omega) hcl hcc (j := 1) (seg := [.string t]) (Nat.le_of_ble_eq_true rfl) (x' := ⟨x.f0, t, x.f2⟩) (okp := fun _ => False) (zgo _ _ _ _) (fun _ h => h.elim)).1
  rw [show (xs ++ [x]).set (xs.length : Int).toNat ⟨x.f0, t, x.f2⟩ = xs ++ [⟨x.f0, t, x.f2⟩] by simp] at this
  exact this
theorem zjI : (Tryd.prog.info? 136).map (fun i => (i.zero, i.size, i.bytes)) = some (some (.agg #[.int .i64 0, .string ⟨#[]⟩, .int .i64 0]), 3, 32) := by kernel_rfl
theorem zfw {α : Type} {d : Kd α} {e : Nat} {W : World} {base g : Nat} (hg : W.heap.size = g) (hb : base ≤ W.heap.size) : d.R e (W.alloc (.cells #[] e)) base (fun _ => True) (.slice (some ⟨g, 0, none⟩) 0 0) [] := by
  subst hg
  exact ⟨fun _ _ => trivial, zbV.lit W base (inner := []) (Reps.none _ _) hb (by simp)⟩
theorem bqT {n : Nat} {k : Int} (h : (n : Int) = k) : ((n : Int) == k) = true := by simpa using h
theorem bqF {n : Nat} {k : Int} (h : ¬ (n : Int) = k) : ((n : Int) == k) = false := by simpa using h
theorem zeF {c : UInt8} {r : List UInt8} {i : Nat} {note n' : Bool} {acc : List Wd} {R : Except Nat (List Wd)} (h : zaa (zbI (c :: r) i note acc = R)) (hn : zbX c note = n') (hb : (n' || zcx c) = true) : zaa (zbI r (i + 1) n' acc = R) := by
  refine ⟨?_⟩
  have := h.out
  simp only [zbI, hn, hb, if_true] at this
  exact this
set_option maxHeartbeats 16000000 in
set_option maxRecDepth 100000 in
theorem zgE (s : ByteArray) (hs : s.size ≤ 4000) (R : Except Nat (List Wd)) (hR : zbI (toL s) 0 false [] = R) (w : World) :
    Calls Tryd.prog 118 #[.string s] w fun e w' => ∃ v0_ : Value, e = .returned (.tuple #[v0_, .int .i64 (resR R).2]) ∧ Kd.R k136 136 w' w.heap.size (fun _ => True) v0_ (resR R).1 ∧ Below w.heap.size w w' := by
  have hl : ¬ (4000 : Int) < s.size := by omega
  have HR := zaa.mk hR
  clear hR
  go_enter Tryd.func118, Tryd.ntmps118
  go_wp2
  go_loopw [4, 5, 6] (fun v4 v5 v6 w' => ∃ (i : Nat) (acc : List Wd) (note : Bool), v5 = .bool note ∧ v6 = .int .i64 i ∧ i ≤ s.size ∧ acc.length ≤ i ∧ zaa (∀ x ∈ acc, x.pl + x.tx.length ≤ i) ∧ zaa (Kd.R k136 136 w' w.heap.size (fun _ => True) v4 (acc.map mkR)) ∧ zaa (zbI ((toL s).drop i) i note acc = R) ∧ zaa (Below w.heap.size w w')) (fun _ _ v6 _ => s.size - (intOf v6).toNat)
  case atStart => exact ⟨0, [], false, rfl, rfl, by omega, by simp, ⟨by simp⟩, ⟨Kd.zc3 _ _ _ _ _⟩, HR, ⟨Below.refl _ _⟩⟩
  case round =>
    obtain ⟨i, acc, note, rfl, rfl, hi, ha, HP, HV, HR2, HB⟩ := hrel
    clear HR
    by_cases hlt : i < s.size
    · have hd : (toL s).drop i = s[i] :: (toL s).drop (i + 1) := List.drop_eq_getElem_cons (by simpa using hlt)
      have HR3 := zaa.mk (show zbI (s[i] :: (toL s).drop (i + 1)) i note acc = R by rw [← hd]; exact HR2.out)
      clear hd HR2
      obtain ⟨A, cp, rfl⟩ := Kd.zbE HV.out
      rw [List.length_map] at *
      by_cases h10 : s[i].toNat = 10
      · have a1 : ((s[i].toNat : Int) == 10) = true := bqT (by omega)
        have a2 : ((s[i].toNat : Int) == 35) = false := bqF (by omega)
        have a3 : ¬ (s[i].toNat : Int) = 32 := by omega
        have a4 : ¬ (s[i].toNat : Int) = 9 := by omega
        have HN := zeF HR3 (n' := false) (by simp [zbX, h10]) (by simp [zcx, h10])
        clear h10 HR3
        go_wp2
        go_roundw
        case rel => exact ⟨i + 1, acc, false, rfl, by simp, by omega, by omega, zdD HP, HV, HN, HB⟩
        case measure => simp [intOf]; omega
      have a1 : ((s[i].toNat : Int) == 10) = false := bqF (by omega)
      by_cases h35 : s[i].toNat = 35
      · have a2 : ((s[i].toNat : Int) == 35) = true := bqT (by omega)
        have HN := zeF HR3 (n' := true) (by simp [zbX, h35]) rfl
        clear h10 h35 HR3
        go_wp2
        go_roundw
        case rel => exact ⟨i + 1, acc, true, rfl, by simp, by omega, by omega, zdD HP, HV, HN, HB⟩
        case measure => simp [intOf]; omega
      have a2 : ((s[i].toNat : Int) == 35) = false := bqF (by omega)
      have hnote : zbX s[i] note = note := by simp [zbX, h10, h35]
      cases note with
      | true =>
        have HN := zeF HR3 (n' := true) hnote rfl
        clear h10 h35 HR3 hnote
        go_wp2
        go_roundw
        case rel => exact ⟨i + 1, acc, true, rfl, by simp, by omega, by omega, zdD HP, HV, HN, HB⟩
        case measure => simp [intOf]; omega
      | false =>
      by_cases hbl : zcx s[i] = true
      · have HN := zeF HR3 (n' := false) hnote (by simp [hbl])
        have h3 := of_decide_eq_true hbl
        clear h35 HR3 hnote hbl
        by_cases h32 : s[i].toNat = 32
        · have a3 : (s[i].toNat : Int) = 32 := by omega
          clear h10 h3 h32
          go_wp2
          go_roundw
          case rel => exact ⟨i + 1, acc, false, rfl, by simp, by omega, by omega, zdD HP, HV, HN, HB⟩
          case measure => simp [intOf]; omega
        have a3 : ¬ (s[i].toNat : Int) = 32 := by omega
        by_cases h9 : s[i].toNat = 9
        · have a4 : (s[i].toNat : Int) = 9 := by omega
          clear h10 h3 h32 h9
          go_wp2
          go_roundw
          case rel => exact ⟨i + 1, acc, false, rfl, by simp, by omega, by omega, zdD HP, HV, HN, HB⟩
          case measure => simp [intOf]; omega
        have a4 : ¬ (s[i].toNat : Int) = 9 := by omega
        have a5 : ((s[i].toNat : Int) == 13) = true := bqT (by omega)
        clear h10 h3 h32 h9
        go_wp2
        go_roundw
        case rel => exact ⟨i + 1, acc, false, rfl, by simp, by omega, by omega, zdD HP, HV, HN, HB⟩
        case measure => simp [intOf]; omega
      · have h3 : ¬ (s[i].toNat = 32 ∨ s[i].toNat = 9 ∨ s[i].toNat = 10 ∨ s[i].toNat = 13) := fun h => hbl (decide_eq_true h)
        have a3 : ¬ (s[i].toNat : Int) = 32 := by omega
        have a4 : ¬ (s[i].toNat : Int) = 9 := by omega
        have a5 : ((s[i].toNat : Int) == 13) = false := bqF (by omega)
        have a6 : ((s[i].toNat : Int) == 32) = false := bqF (by omega)
        have a7 : ((s[i].toNat : Int) == 9) = false := bqF (by omega)
        have HW := zi0 HR3 hnote (eq_false_of_ne_true hbl)
        clear h10 h3 h35 hnote hbl HR3
        obtain ⟨L, hL⟩ : ∃ L, acc.length = L := ⟨_, rfl⟩
        have hv1 := HV.out
        rw [hL] at ha hv1 ⊢
        clear HV
        have HV := zaa.mk hv1
        clear hv1
        have HLn := zaa.mk hL
        clear hL
        go_upto_if 75 with (fail)
        go_cut [75] (fun v75 wc => v75 = .bool (zdl acc i s[i]) ∧ ∃ n, wc = wr.drewN n)
        case first =>
          cases hacc : acc.getLast? with
          | none =>
            have h0 : acc = [] := List.getLast?_eq_none_iff.1 hacc
            subst h0
            obtain rfl : L = 0 := HLn.out.symm
            clear hacc HW HLn
            go_wp2
            go_quiet (fail)
            go_wp2
            go_meet
            case rel => exact ⟨rfl, _, rfl⟩
          | some w0 =>
            obtain ⟨pre, rfl⟩ := List.getLast?_eq_some_iff.1 hacc
            have hp0 := HP.out w0 (by simp)
            have HL := zaa.mk (show zdl (pre ++ [w0]) i s[i] = (decide (w0.pl + w0.tx.length = i) && zbe w0.kd s[i]) by unfold zdl; rw [hacc])
            have HV2 := HV.out
            rw [List.map_append, List.map_singleton] at HV2
            obtain rfl : L = (pre.map mkR).length + 1 := by rw [← HLn.out]; simp
            obtain ⟨g, rfl, hg, c0, c1, c2, hz⟩ := zfd HV2
            have hsz : (mkR w0).f1.size = w0.tx.length := by simp [mkR]
            have hf2 : (mkR w0).f2 = (w0.pl : Int) := rfl
            have hf0 : (mkR w0).f0 = (w0.kd : Int) := rfl
            rw [hf0] at c0
            rw [hf2] at c2
            generalize (mkR w0).f1 = tx0 at *
            have hml : (pre.map mkR).length ≤ 4000 := by omega
            generalize (pre.map mkR).length = m at *
            clear hacc HW HV HV2 hf2 hf0 hz HLn
            have HC0 := zaa.mk c0
            have HC1 := zaa.mk c1
            have HC2 := zaa.mk c2
            clear c0 c1 c2
            have hi1 : (i : Int) ≤ 4000 := by omega
            have hm1 : (m : Int) ≤ 4000 := by omega
            have hw0 : (w0.pl : Int) + (tx0.size : Int) ≤ 4000 := by omega
            have s1 : IntKind.i64.wrap ((m : Int) + 1 - 1) = (m : Int) := by rw [show (m : Int) + 1 - 1 = m by omega]; exact IntWalk.i64_in _ (by omega)
            have s2 : IntKind.i64.wrap (m : Int) = (m : Int) := IntWalk.i64_in _ (by omega)
            have s3 : IntKind.i64.wrap ((w0.pl : Int) + (tx0.size : Int)) = (w0.pl : Int) + (tx0.size : Int) := IntWalk.i64_in _ (by omega)
            have s4 : (0 : Int) ≤ (m : Int) := by omega
            have s5 : (m : Int) < (m : Int) + 1 := by omega
            have HSZ := zaa.mk hsz
            clear hsz
            by_cases hop : w0.pl + w0.tx.length = i
            · have t2 : ((w0.pl : Int) + (tx0.size : Int) == (i : Int)) = true := by have := HSZ.out; simp; omega
              have HL2 := zaa.mk (show zdl (pre ++ [w0]) i s[i] = zbe w0.kd s[i] by rw [HL.out, decide_eq_true hop, Bool.true_and])
              have c0 := HC0.out
              have c1 := HC1.out
              have c2 := HC2.out
              have HM := zaa.mk (fun w => zbr.calls _ _ _ w (zh9 w0.kd s[i]))
              clear hop
              go_wp2
              go_quiet ((go_at_call 143; exact Calls.quiet_of ((HM.out _).mono fun e w' ⟨he, ⟨nd, hd⟩⟩ => ⟨he, nd, hd⟩)))
              go_wp2
              go_meet
              case rel => exact ⟨by rw [HL2.out], _, rfl⟩
            · have t2 : ((w0.pl : Int) + (tx0.size : Int) == (i : Int)) = false := by have := HSZ.out; simp; omega
              have HL2 := zaa.mk (show zdl (pre ++ [w0]) i s[i] = false by rw [HL.out, decide_eq_false hop, Bool.false_and])
              have c0 := HC0.out
              have c1 := HC1.out
              have c2 := HC2.out
              clear hop
              go_wp2
              go_quiet (fail)
              go_wp2
              go_meet
              case rel => exact ⟨by rw [HL2.out], _, rfl⟩
        case rest =>
          obtain ⟨rfl, n, rfl⟩ := hcut
          have b1 : IntKind.i64.wrap ((i : Int) + 1) = (i : Int) + 1 := IntWalk.i64_in _ (by omega)
          have b2 : (0 : Int) ≤ (i : Int) := by omega
          have b3 : (i : Int) ≤ (i : Int) + 1 := by omega
          have b4 : (i : Int) + 1 ≤ (s.size : Int) := by omega
          have b5 : ((i : Int) + 1).toNat = i + 1 := by omega
          have HX := zaa.mk (show s.extract i (i + 1) = ofL [s[i]] by
            apply zfn
            rw [zeR, List.drop_eq_getElem_cons (by simpa using hlt), zcG, show i + 1 - i = 1 by omega]
            rfl)
          go_upto_if 75 with (fail)
          go_cut [4] (fun v4 wc => ∃ v, v4 = v ∧ zaa (Kd.R k136 136 wc w.heap.size (fun _ => True) v ((zb8 acc i s[i]).1.map mkR ++ [mkR (zb8 acc i s[i]).2])) ∧ zaa (Below w.heap.size w wc))
          case first =>
            obtain ⟨kk, hkk⟩ := (zid s[i]).rounds
            have HK := zaa.mk (fun w => zaL.calls kk _ _ w hkk)
            clear hkk HW
            by_cases hop : zdl acc i s[i] = true
            · obtain ⟨pre, w0, hacc, h1, h2⟩ : ∃ pre w0, acc = pre ++ [w0] ∧ w0.pl + w0.tx.length = i ∧ zbe w0.kd s[i] = true := by
                cases h : acc.getLast? with
                | none => unfold zdl at hop; rw [h] at hop; cases hop
                | some w0 =>
                  obtain ⟨pre, e⟩ := List.getLast?_eq_some_iff.1 h
                  unfold zdl at hop
                  rw [h] at hop
                  simp only [Bool.and_eq_true, decide_eq_true_eq] at hop
                  exact ⟨pre, w0, e, hop.1, hop.2⟩
              have HO := zaa.mk (show zb8 acc i s[i] = (pre, ⟨w0.kd, w0.tx ++ [s[i]], w0.pl⟩) by
                unfold zb8
                rw [show acc.getLast? = some w0 by rw [hacc, List.getLast?_concat]]
                simp only
                rw [if_pos hop, hacc, List.dropLast_concat])
              rw [hop]
              subst hacc
              obtain rfl : L = (pre.map mkR).length + 1 := by rw [← HLn.out]; simp
              have hv2 := Kd.zbd HV.out n
              rw [List.map_append, List.map_singleton] at hv2
              obtain ⟨g, rfl, hg, c0, c1, c2, hz⟩ := zfd hv2
              have z1 := hz ((pre.map mkR).length * 3 + 1)
              have HVn := zaa.mk hv2
              have HBn := zaa.mk (zab HB.out n)
              have HSZ := zaa.mk (show (mkR w0).f1.size ≤ 4000 by simp [mkR]; omega)
              have hml : (pre.map mkR).length ≤ 4000 := by omega
              clear hop hv2 hz HV HB h1 h2 HLn
              generalize wr.drewN n = w1 at *
              generalize htx : (mkR w0).f1 = tx0 at *
              have HTX := zaa.mk htx
              have HC0 := zaa.mk c0
              have HC2 := zaa.mk c2
              have HEX := zaa.mk (show (s.extract i (i + 1)).size = 1 by rw [HX.out]; rfl)
              clear htx c0 c2
              generalize hm : (pre.map mkR).length = m at *
              have HM := zaa.mk hm
              clear hm
              have hm1 : (m : Int) ≤ 4000 := by omega
              have s1 : IntKind.i64.wrap ((m : Int) + 1 - 1) = (m : Int) := by rw [show (m : Int) + 1 - 1 = m by omega]; exact IntWalk.i64_in _ (by omega)
              have s2 : IntKind.i64.wrap (m : Int) = (m : Int) := IntWalk.i64_in _ (by omega)
              have s4 : (0 : Int) ≤ (m : Int) := by omega
              have s5 : (m : Int) < (m : Int) + 1 := by omega
              have s6 : ¬ 9223372036854775807 < tx0.size + (min (i + 1) s.size - i) := by have := HSZ.out; omega
              go_wp2
              go_region
              go_wp2
              go_meet
              case rel =>
                have hv := HVn.out
                rw [← HM.out] at hv
                have hR := zjl (tx0 ++ s.extract i (i + 1)) hv
                rw [HM.out] at hR
                refine ⟨_, rfl, ⟨?_⟩, ⟨zcA (HBn.out.setCell (p := ⟨g, m * 3 + 1, none⟩) hg _)⟩⟩
                rw [HO.out]
                have e : mkR ⟨w0.kd, w0.tx ++ [s[i]], w0.pl⟩ = ⟨(mkR w0).f0, tx0 ++ s.extract i (i + 1), (mkR w0).f2⟩ := by
                  rw [HX.out, ← HTX.out]
                  unfold mkR
                  congr 1
                rw [e]
                exact hR
            · have HO := zaa.mk (show zb8 acc i s[i] = (acc, ⟨za9 s[i], [s[i]], i⟩) by
                unfold zb8
                cases acc.getLast? with
                | none => rfl
                | some w => simp only; rw [if_neg hop])
              rw [eq_false_of_ne_true hop]
              clear hop
              have HVn := zaa.mk (Kd.zbd HV.out n)
              have HBn := zaa.mk (zab HB.out n)
              generalize wr.drewN n = w1 at *
              have hlm : L ≤ 4000 := by omega
              go_wp2
              go_region_law (first | (go_simp; go_at_call 144; refine (HK.out _).mono ?_; rintro e w' ⟨rfl, ⟨nd, rfl⟩⟩) | (refine Kd.zdu k136 (w0 := w) w.heap.size (by rfl) (.tmp 90) (.tmp 100) 183 136 (.agg #[.int .i64 0, .string ⟨#[]⟩, .int .i64 0]) 32 rfl Tryd.underlying183 zjI rfl (by decide) (by decide) (.slice A L cp) (acc.map mkR) (⟨za9 s[i], s.extract i (i + 1), i⟩ : S136) [.int .i64 (za9 s[i]), .string (s.extract i (i + 1)), .int .i64 i] (fun _ => True) (fun _ => False) rfl rfl (zgo _ _ _ _) (fun _ h => h.elim) (fun _ _ => trivial) (Kd.zbd HVn.out _) (zab HBn.out _) (by have := HBn.out.size; exact this) (by rw [List.length_map, HLn.out]; omega) ?_; intro v1 w2 ho hb _ _))
              go_wp2
              go_meet
              case rel => exact ⟨_, rfl, ⟨by rw [HO.out]; rw [HX.out] at ho; exact ho⟩, ⟨hb⟩⟩
          case rest =>
            obtain ⟨v, rfl, HV', HB'⟩ := hcut
            have hst := HW.out
            rw [zgA] at hst
            have hll := zji (c := s[i]) (show acc.length ≤ i by rw [HLn.out]; exact ha)
            have HE := zaa.mk (zis (acc := acc) (i := i) (c := s[i]) HP.out)
            generalize zb8 acc i s[i] = q at *
            obtain ⟨Aq, cq, rfl⟩ := Kd.zbE HV'.out
            have hv := HV'.out
            rw [List.length_append, List.length_singleton] at hv
            rw [List.length_append, List.length_singleton]
            obtain ⟨g, rfl, hg, c0, c1, c2, hz⟩ := zfd hv
            have HX2 := zaa.mk (show (mkR q.2).f1.size = q.2.tx.length by simp [mkR])
            have hf0 : (mkR q.2).f0 = (q.2.kd : Int) := rfl
            rw [hf0] at c0
            generalize (mkR q.2).f1 = tx at *
            generalize (mkR q.2).f2 = pl at *
            have HST := zaa.mk hst
            have HV2 := zaa.mk hv
            have hmm : (q.1.map mkR).length ≤ i := by rw [List.length_map]; exact hll
            generalize hm : (q.1.map mkR).length = m at *
            have HM := zaa.mk hm
            clear hm hst hv hz hf0 HV' HV HW hll
            have hm1 : (m : Int) ≤ 4000 := by omega
            have s1 : IntKind.i64.wrap ((m : Int) + 1 - 1) = (m : Int) := by rw [show (m : Int) + 1 - 1 = m by omega]; exact IntWalk.i64_in _ (by omega)
            have s2 : IntKind.i64.wrap (m : Int) = (m : Int) := IntWalk.i64_in _ (by omega)
            have s4 : (0 : Int) ≤ (m : Int) := by omega
            have s5 : (m : Int) < (m : Int) + 1 := by omega
            by_cases hk0 : q.2.kd = 0
            · have t1 : ((q.2.kd : Int) == 0) = true := by simp [hk0]
              have HF := zaa.mk (show R = .error i by rw [← HST.out, if_pos (.inl hk0)])
              clear hk0
              go_wp2
              go_quiet (fail)
              go_wp2
              go_ret2
              rw [HF.out]
              refine ⟨_, rfl, ?_, ?_⟩
              · exact zfw (by simp) (zac HB'.out _).size
              · exact zac (zab (zac HB'.out _) _) _
            · have t1 : ((q.2.kd : Int) == 0) = false := by simpa using hk0
              have HM2 := zaa.mk (fun w => zb5.calls _ _ w (ziy q.2.kd))
              have hst2 := HST.out
              generalize zb4 q.2.kd = mo at *
              by_cases hlen : mo < q.2.tx.length
              · have HF := zaa.mk (show R = .error i by rw [← hst2, if_pos (.inr hlen)])
                have t2 : (mo : Int) < (tx.size : Int) := by have := HX2.out; omega
                clear hst2 hlen hk0
                go_wp2
                go_quiet ((go_at_call 145; exact Calls.quiet_of ((HM2.out _).mono fun e w' ⟨he, ⟨nd, hd⟩⟩ => ⟨he, nd, hd⟩)))
                go_wp2
                go_ret2
                rw [HF.out]
                refine ⟨_, rfl, ?_, ?_⟩
                · exact zfw (by simp) (zac HB'.out _).size
                · exact zac (zab (zac HB'.out _) _) _
              · rw [if_neg (by omega)] at hst2
                have t2 : ¬ (mo : Int) < (tx.size : Int) := by have := HX2.out; omega
                have t3 : decide ((mo : Int) < (tx.size : Int)) = false := decide_eq_false t2
                have HN := zaa.mk hst2
                clear hst2 hlen hk0
                go_wp2
                go_quiet ((go_at_call 145; exact Calls.quiet_of ((HM2.out _).mono fun e w' ⟨he, ⟨nd, hd⟩⟩ => ⟨he, nd, hd⟩)))
                go_wp2
                go_roundw
                case rel =>
                  refine ⟨i + 1, q.1 ++ [q.2], false, rfl, by simp, by omega, ?_, HE, ⟨?_⟩, HN, ⟨?_⟩⟩
                  · have := HM.out; simp at this ⊢; omega
                  · rw [List.map_append, List.map_singleton]; exact Kd.zbd (Kd.zbf HV2.out _) _
                  · exact zab (zac HB'.out _) _
                case measure => simp [intOf]; omega
    · obtain rfl : i = s.size := by omega
      have hr := HR2.out
      rw [List.drop_of_length_le (by simp)] at hr
      have HF := zaa.mk (show R = .ok acc from hr.symm)
      clear hr HR2
      go_wp2
      go_ret2
      rw [HF.out]
      exact ⟨_, rfl, HV.out, HB.out⟩
set_option maxHeartbeats 400000 in
theorem zcN.calls (a0 : ByteArray) (r1 : List S136) (r2 : Int) (w : World) (h : zcN.f a0 = some (r1, r2)) :
    Calls Tryd.prog 118 #[.string a0] w fun e w' => ∃ v0_ : Value, e = .returned (.tuple #[v0_, .int .i64 r2]) ∧ Kd.R k136 136 w' w.heap.size (fun _ => True) v0_ r1 ∧ Below w.heap.size w w' := by
  have h' := Option.some.inj h
  by_cases hs : a0.size ≤ 4000
  · rw [← zhV _ (by rw [zcp]; exact hs)] at h'
    have := zgE a0 hs _ rfl w
    rw [h'] at this
    exact this
  · have e : zdk (toL a0) = .error 4000 := by unfold zdk; rw [if_pos (by rw [zcp]; omega)]
    rw [e] at h'
    simp only [resR, Prod.mk.injEq] at h'
    obtain ⟨rfl, rfl⟩ := h'
    have hl : (4000 : Int) < a0.size := by omega
    clear h e hs
    go_enter Tryd.func118, Tryd.ntmps118
    go_wp2
    go_ret2
    refine ⟨_, rfl, ?_, ?_⟩
    · exact zfw rfl (Nat.le_refl _)
    · exact zac (Below.refl _ _) _
end Go.Proofs.YtbicjgaadknmfaaDoor.P
end
section
namespace Go.Proofs.YtbicjgaadknmfaaDoor.M
open Go.RowKit Go.Proofs.YtbicjgaadknmfaaDoorW.PrintWords Go.Proofs.YtbicjgaadknmfaaDoor.P
set_option linter.unusedVariables false
set_option linter.unusedSimpArgs false
theorem digit_eq (c : UInt8) : zbx.f (c.toNat : Int) = some (isDigit c) := by
  unfold zbx.f isDigit
  by_cases h : 48 ≤ c.toNat
  · rw [if_pos (by omega)]
    congr 1
    apply decide_eq_decide.2
    omega
  · rw [if_neg (by omega)]
    congr 1
    symm
    apply decide_eq_false
    omega
theorem letter_eq (c : UInt8) : zbq.f (c.toNat : Int) = some (zct c) := by
  unfold zbq.f zct
  repeat' split
  all_goals
    congr 1
    symm
    first
    | (apply decide_eq_true; omega)
    | (rw [Bool.eq_iff_iff, decide_eq_true_iff, beq_iff_eq]; omega)
theorem sign_eq (c : UInt8) : zcd.f (c.toNat : Int) = some (zep c) := by
  unfold zcd.f
  rw [if_pos (by omega), if_pos (by have := c.toNat_lt; omega)]
  congr 1
  unfold zeC zep
  show (zdI.any fun b => decide ((b.toNat : Int) = (c.toNat : Int))) = zdI.contains c
  rw [List.contains_eq_any_beq]
  congr 1
  funext b
  rw [Bool.eq_iff_iff, decide_eq_true_iff, beq_iff_eq]
  constructor
  · intro h; exact (UInt8.toNat_inj.1 (by omega)).symm
  · intro h; rw [h]
theorem zjm (c : UInt8) : zdL.f (c.toNat : Int) = some (za9 c : Int) := by
  unfold zdL.f za9
  rw [digit_eq, letter_eq, sign_eq]
  simp only [Option.bind_some]
  repeat' split
  all_goals rfl
theorem zgT (k : Nat) (c : UInt8) : zc4.f (k : Int) (c.toNat : Int) = some (zbe k c) := by
  unfold zc4.f zbe
  simp only [digit_eq, letter_eq, Option.bind_some]
  by_cases h1 : k = 1
  · subst h1
    rcases Bool.eq_false_or_eq_true (isDigit c) with h | h <;> simp [h]
  · by_cases h2 : k = 2
    · subst h2
      rcases Bool.eq_false_or_eq_true (isDigit c) with h | h <;> rcases Bool.eq_false_or_eq_true (zct c) with h' | h' <;> simp [h, h']
    · have e1 : ¬ (k : Int) = 1 := by omega
      have e2 : ¬ (k : Int) = 2 := by omega
      simp [h1, h2, e1, e2]
theorem ziZ (k : Nat) : zdJ.f (k : Int) = some (zb4 k : Int) := by
  unfold zdJ.f zb4
  by_cases h1 : k = 1
  · subst h1; rfl
  · by_cases h2 : k = 2
    · subst h2; rfl
    · have e1 : ¬ (k : Int) = 1 := by omega
      have e2 : ¬ (k : Int) = 2 := by omega
      simp [h1, h2, e1, e2]
theorem zie (s : ByteArray) (hs : s.size ≤ 140737488351232) (k : Nat) : ∀ (r : List UInt8) (i : Nat), (toL s).drop i = r → i ≤ s.size →
    Ev (fun n => zbk.l0 n s (k : Int) (i : Int)) ((i + (r.takeWhile (zbe k)).length : Nat) : Int) := by
  intro r
  induction r with
  | nil =>
    intro i hd hi
    have := drop_nil hd
    rw [zcp] at this
    refine Ev.step (f := fun _ => some (i : Int)) (fun n => ?_) (Ev.now _)
    simp only [zbk.l0]
    rw [if_neg (by omega)]
  | cons c r ih =>
    intro i hd hi
    have hlt := zgX hd
    rw [zcp] at hlt
    have hb := zfv s i c r hd
    by_cases hg : zbe k c = true
    · refine Ev.step (f := fun n => zbk.l0 n s (k : Int) ((i + 1 : Nat) : Int)) (fun n => ?_) ?_
      · simp only [zbk.l0]
        rw [if_pos (by omega), if_pos (by omega), hb, zgT, hg]
        simp only [Option.bind_some, if_true]
        rw [zbv (by omega) (by omega)]
        rfl
      · have := ih (i + 1) (zfC hd) (by omega)
        rw [List.takeWhile_cons_of_pos hg, List.length_cons]
        rw [show i + ((r.takeWhile (zbe k)).length + 1) = i + 1 + (r.takeWhile (zbe k)).length from by omega]
        exact this
    · refine Ev.step (f := fun _ => some (i : Int)) (fun n => ?_) ?_
      · simp only [zbk.l0]
        rw [if_pos (by omega), if_pos (by omega), hb, zgT, eq_false_of_ne_true hg]
        simp
      · rw [List.takeWhile_cons_of_neg hg]
        exact Ev.now _
def zco (kd : Int) : List UInt8 → Bool
  | [] => false
  | c :: r => decide (¬ za9 c = 0 ∧ (za9 c : Int) = kd ∧ (r.takeWhile (zbe (za9 c))).length = r.length ∧ r.length + 1 ≤ zb4 (za9 c))
theorem zi8 : ∀ (n : Nat) (l : List UInt8) (p : Nat) (w : Wd) (ws : List Wd), l.length ≤ n → zce l p = .ok (w :: ws) → w.tx.length ≤ l.length := by
  intro n
  induction n with
  | zero =>
    intro l p w ws h e
    obtain rfl := List.length_eq_zero_iff.1 (Nat.le_zero.1 h)
    rw [zce] at e
    cases e
  | succ n ih =>
    intro l p w ws h e
    cases l with
    | nil => rw [zce] at e; cases e
    | cons c r =>
      simp only [List.length_cons] at h ⊢
      rw [zce] at e
      split at e
      · have := ih r _ w ws (by omega) e; omega
      · split at e
        · have h2 := zcI zcz r
          have := ih _ _ w ws (by omega) e; omega
        · split at e
          · cases e
          · split at e
            · cases e
            · cases h3 : zce (r.dropWhile (zbe (za9 c))) (p + ((r.takeWhile (zbe (za9 c))).length + 1)) with
              | error q => rw [h3] at e; cases e
              | ok vs =>
                rw [h3] at e
                cases e
                have hle : (r.takeWhile (zbe (za9 c))).length ≤ r.length := (List.takeWhile_prefix _).length_le
                simp; omega
def lone (kd : Int) (l : List UInt8) : Except Nat (List Wd) → Bool
  | .ok [w] => decide ((w.kd : Int) = kd) && decide (w.tx = l)
  | _ => false
theorem zg0 (kd : Int) (l : List UInt8) (h : l.length ≤ 4000) : lone kd l (zdk l) = zco kd l := by
  unfold zdk
  rw [if_neg (by omega)]
  cases l with
  | nil => rw [zce]; rfl
  | cons c r =>
    have small : ∀ (l' : List UInt8) (p : Nat), l'.length ≤ r.length → lone kd (c :: r) (zce l' p) = false := by
      intro l' p hl
      cases e : zce l' p with
      | error q => rfl
      | ok ws =>
        match ws, e with
        | [], _ => rfl
        | [w], e =>
          have := zi8 l'.length l' p w [] (Nat.le_refl _) e
          unfold lone
          have hne : ¬ w.tx = c :: r := fun h => by rw [h, List.length_cons] at this; omega
          simp [hne]
        | _ :: _ :: _, _ => rfl
    rw [zce]
    by_cases h1 : zcx c = true
    · rw [if_pos h1, small r _ (Nat.le_refl _)]
      have : za9 c = 0 := by
        unfold zcx at h1
        have h1 := of_decide_eq_true h1
        unfold za9 isDigit zct zep
        rw [if_neg (by simp; omega), if_neg (by simp; omega)]
        have hc : c = 32 ∨ c = 9 ∨ c = 10 ∨ c = 13 := by
          rcases h1 with h | h | h | h
          · exact .inl (UInt8.toNat_inj.1 h)
          · exact .inr (.inl (UInt8.toNat_inj.1 h))
          · exact .inr (.inr (.inl (UInt8.toNat_inj.1 h)))
          · exact .inr (.inr (.inr (UInt8.toNat_inj.1 h)))
        have hn : zdI.contains c = false := by rcases hc with rfl | rfl | rfl | rfl <;> decide
        rw [hn]
        rfl
      unfold zco
      symm
      apply decide_eq_false
      omega
    · rw [if_neg h1]
      by_cases h2 : c.toNat = 35
      · rw [if_pos h2, small _ _ (zcI zcz r)]
        have : za9 c = 0 := by
          have e : c = 35 := UInt8.toNat_inj.1 h2
          subst e
          decide
        unfold zco
        symm
        apply decide_eq_false
        omega
      · rw [if_neg h2]
        by_cases h3 : za9 c = 0
        · rw [if_pos h3]
          unfold zco lone
          symm
          apply decide_eq_false
          omega
        · rw [if_neg h3]
          have hle : (r.takeWhile (zbe (za9 c))).length ≤ r.length := (List.takeWhile_prefix _).length_le
          by_cases h4 : zb4 (za9 c) < (r.takeWhile (zbe (za9 c))).length + 1
          · rw [if_pos h4]
            unfold zco lone
            symm
            apply decide_eq_false
            omega
          · rw [if_neg h4]
            by_cases h5 : (r.takeWhile (zbe (za9 c))).length = r.length
            · have e1 : r.takeWhile (zbe (za9 c)) = r := (List.takeWhile_prefix _).eq_of_length h5
              have e2 : r.dropWhile (zbe (za9 c)) = [] := by
                have := zfV (zbe (za9 c)) r
                exact List.length_eq_zero_iff.1 (by omega)
              rw [e1, e2, zce]
              show (decide ((za9 c : Int) = kd) && decide (c :: r = c :: r)) = decide (¬ za9 c = 0 ∧ (za9 c : Int) = kd ∧ (r.takeWhile (zbe (za9 c))).length = r.length ∧ r.length + 1 ≤ zb4 (za9 c))
              rw [e1]
              simp only [decide_true, Bool.and_true]
              rw [decide_eq_decide]
              constructor
              · intro h; exact ⟨h3, h, trivial, by rw [e1] at h4; omega⟩
              · intro h; exact h.2.1
            · have er : zco kd (c :: r) = false := by unfold zco; apply decide_eq_false; omega
              rw [er]
              cases zce (r.dropWhile (zbe (za9 c))) (0 + ((r.takeWhile (zbe (za9 c))).length + 1)) with
              | error q => rfl
              | ok ws =>
                cases ws with
                | nil =>
                  unfold zg9 lone
                  have hne : ¬ c :: r.takeWhile (zbe (za9 c)) = c :: r := fun h => h5 (by rw [List.cons.inj h |>.2])
                  simp [hne]
                | cons _ _ => rfl
end Go.Proofs.YtbicjgaadknmfaaDoor.M
end
section
namespace Go.Proofs.YtbicjgaadknmfaaDoor.P
open Go.RowKit Go.Proofs.YtbicjgaadknmfaaDoorW.PrintWords Go.Proofs.YtbicjgaadknmfaaDoor.M
set_option linter.unusedVariables false
set_option linter.unusedSimpArgs false
def zbi.f (a0_0 : Int) (a0_1 : ByteArray) (a0_2 : Int) : Option Bool := if a0_1.size ≤ 4000 then some (zco a0_0 (toL a0_1)) else none
def zcK.f (a0_0 : Int) (a0_1 : ByteArray) (a0_2 : Int) : Option Bool := if a0_1.size ≤ 4000 then some (zco a0_0 (toL a0_1)) else none
set_option maxHeartbeats 2000000 in
set_option maxRecDepth 100000 in
theorem zbi.calls (a0_0 : Int) (a0_1 : ByteArray) (a0_2 : Int) (r : Bool) (w : World) (h : zbi.f a0_0 a0_1 a0_2 = some r) :
    Calls Tryd.prog 84 #[.agg #[.int .i64 a0_0, .string a0_1, .int .i64 a0_2]] w fun e w' => e = .returned (.bool r) ∧ Below w.heap.size w w' := by
  unfold zbi.f at h
  split at h
  case isFalse => cases h
  case isTrue hs =>
  have HR := zaa.mk (Option.some.inj h)
  have HL := zaa.mk (zg0 a0_0 (toL a0_1) (by rw [zcp]; omega))
  have HS := zaa.mk (fun W => zcN.calls a0_1 (resR (zdk (toL a0_1))).1 (resR (zdk (toL a0_1))).2 W rfl)
  clear h
  generalize zdk (toL a0_1) = q at *
  have kept : ∀ {w1 : World}, Below (w.alloc (.cells #[.int .i64 a0_0, .string a0_1, .int .i64 a0_2] 136)).heap.size (w.alloc (.cells #[.int .i64 a0_0, .string a0_1, .int .i64 a0_2] 136)) w1 → w1.cell? ⟨w.heap.size, 0, none⟩ = some (.int .i64 a0_0) ∧ w1.cell? ⟨w.heap.size, 1, none⟩ = some (.string a0_1) := fun hb => ⟨zbF hb (by go_simp), zbF hb (by go_simp)⟩
  have HK := zaa.mk @kept
  clear kept
  cases q with
  | error p =>
    have HS2 := zaa.mk (show ∀ W, Calls Tryd.prog 118 #[.string a0_1] W fun e w' => ∃ v0_ : Value, e = .returned (.tuple #[v0_, .int .i64 (p : Int)]) ∧ Kd.R k136 136 w' W.heap.size (fun _ => True) v0_ [] ∧ Below W.heap.size W w' from HS.out)
    have HF := zaa.mk (show r = false by rw [← HR.out, ← HL.out]; rfl)
    clear HR HL HS
    have n1 : ¬ (p : Int) < 0 := by omega
    have n2 : decide ((p : Int) < 0) = false := decide_eq_false n1
    go_enter Tryd.func84, Tryd.ntmps84
    go_wp2_with (go_at_call 118; refine (HS2.out _).mono ?_; rintro e w1 ⟨v, rfl, hv, hb⟩; have HB := zaa.mk (zax (zac (Below.refl _ _) _) hb); obtain ⟨k0, k1⟩ := HK.out hb; clear hb hv)
    go_quiet (fail)
    go_wp2_with fail
    go_ret
    exact ⟨by rw [HF.out]; rfl, zab HB.out _⟩
  | ok ws =>
    have HS2 := zaa.mk (show ∀ W, Calls Tryd.prog 118 #[.string a0_1] W fun e w' => ∃ v0_ : Value, e = .returned (.tuple #[v0_, .int .i64 (-1)]) ∧ Kd.R k136 136 w' W.heap.size (fun _ => True) v0_ (ws.map mkR) ∧ Below W.heap.size W w' from HS.out)
    by_cases hw : ws.length = 1
    · match ws, hw with
      | [x], _ =>
        have HF := zaa.mk (show r = (decide ((x.kd : Int) = a0_0) && decide (x.tx = toL a0_1)) by rw [← HR.out, ← HL.out]; rfl)
        clear HR HL HS
        have HX := zaa.mk (show mkR x = ⟨x.kd, ofL x.tx, x.pl⟩ from rfl)
        by_cases hk : (x.kd : Int) = a0_0
        · have t1 : ((x.kd : Int) == a0_0) = true := by simpa using hk
          have HF2 := zaa.mk (show r = ((ofL x.tx).toList == a0_1.toList) by rw [HF.out, decide_eq_true hk, Bool.true_and, toList_eq, toList_eq, zcG, Bool.eq_iff_iff]; simp)
          clear hk HF
          generalize ofL x.tx = tx at *
          go_enter Tryd.func84, Tryd.ntmps84
          go_wp2_with (go_at_call 118; refine (HS2.out _).mono ?_; rintro e w1 ⟨v, rfl, hv, hb⟩; have HB := zaa.mk (zax (zac (Below.refl _ _) _) hb); obtain ⟨k0, k1⟩ := HK.out hb; obtain ⟨A, cp, rfl⟩ := Kd.zbE hv; obtain ⟨g, rfl, hg, c0, c1, c2, hz⟩ := zfd (xs := []) hv; simp only [List.length_nil, Nat.zero_mul, Nat.zero_add] at c0 c1; rw [HX.out] at c0 c1; clear hb hv hz hg c2)
          go_quiet (fail)
          go_wp2_with fail
          go_ret
          exact ⟨by rw [HF2.out]; rfl, zab HB.out _⟩
        · have t1 : ((x.kd : Int) == a0_0) = false := by simpa using hk
          have HF2 := zaa.mk (show r = false by rw [HF.out, decide_eq_false hk, Bool.false_and])
          clear hk HF
          generalize ofL x.tx = tx at *
          go_enter Tryd.func84, Tryd.ntmps84
          go_wp2_with (go_at_call 118; refine (HS2.out _).mono ?_; rintro e w1 ⟨v, rfl, hv, hb⟩; have HB := zaa.mk (zax (zac (Below.refl _ _) _) hb); obtain ⟨k0, k1⟩ := HK.out hb; obtain ⟨A, cp, rfl⟩ := Kd.zbE hv; obtain ⟨g, rfl, hg, c0, c1, c2, hz⟩ := zfd (xs := []) hv; simp only [List.length_nil, Nat.zero_mul, Nat.zero_add] at c0 c1; rw [HX.out] at c0 c1; clear hb hv hz hg c2)
          go_quiet (fail)
          go_wp2_with fail
          go_ret
          exact ⟨by rw [HF2.out]; rfl, zab HB.out _⟩
    · have HF := zaa.mk (show r = false by
        rw [← HR.out, ← HL.out]
        match ws, hw with
        | [], _ => rfl
        | [x], hw => exact absurd rfl hw
        | _ :: _ :: _, _ => rfl)
      have t1 : ((ws.length : Int) == 1) = false := by simp; omega
      have t2 : (ws.length == 1) = false := by simpa using hw
      clear HR HL HS hw
      go_enter Tryd.func84, Tryd.ntmps84
      go_wp2_with (go_at_call 118; refine (HS2.out _).mono ?_; rintro e w1 ⟨v, rfl, hv, hb⟩; have HB := zaa.mk (zax (zac (Below.refl _ _) _) hb); obtain ⟨A, cp, rfl⟩ := Kd.zbE hv; rw [List.length_map]; clear hb hv)
      go_quiet (fail)
      go_wp2_with fail
      go_ret
      exact ⟨by rw [HF.out]; rfl, zab HB.out _⟩
set_option maxHeartbeats 2000000 in
set_option maxRecDepth 100000 in
theorem zcK.calls (a0_0 : Int) (a0_1 : ByteArray) (a0_2 : Int) (r : Bool) (w : World) (h : zcK.f a0_0 a0_1 a0_2 = some r) :
    Calls Tryd.prog 83 #[.agg #[.int .i64 a0_0, .string a0_1, .int .i64 a0_2]] w fun e w' => e = .returned (.bool r) ∧ Below w.heap.size w w' := by
  unfold zcK.f at h
  split at h
  case isFalse => cases h
  case isTrue hs =>
  have hr := Option.some.inj h
  clear h
  cases hl : toL a0_1 with
  | nil =>
    have t1 : (a0_1.toList == ([] : List UInt8)) = true := by rw [toList_eq, hl]; rfl
    have t2 : a0_1.toList = [] := by rw [toList_eq, hl]
    have HF := zaa.mk (show r = false by rw [← hr, hl]; rfl)
    clear hr hl hs
    go_enter Tryd.func83, Tryd.ntmps83
    go_wp2_with fail
    go_quiet (fail)
    go_wp2_with fail
    go_ret
    exact ⟨by rw [HF.out]; rfl, zab (zac (Below.refl _ _) _) _⟩
  | cons c q =>
    have t1 : (a0_1.toList == ([] : List UInt8)) = false := by rw [toList_eq, hl]; rfl
    by_cases hk0 : a0_0 = 0
    · have t2 : (a0_0 == 0) = true := by simpa using hk0
      have HF := zaa.mk (show r = false by rw [← hr, hl, hk0]; unfold zco; apply decide_eq_false; omega)
      clear hr hl hs hk0
      go_enter Tryd.func83, Tryd.ntmps83
      go_wp2_with fail
      go_quiet (fail)
      go_wp2_with fail
      go_ret
      exact ⟨by rw [HF.out]; rfl, zab (zac (Below.refl _ _) _) _⟩
    · have t2 : (a0_0 == 0) = false := by simpa using hk0
      have hsz : a0_1.size = q.length + 1 := by rw [← zcp, hl, List.length_cons]
      have hb0 : ∀ h : 0 < a0_1.size, (a0_1[0]'h).toNat = c.toNat := by
        intro h
        have h1 := zfv a0_1 0 c q (by rw [hl]; rfl)
        unfold bt at h1
        rw [dif_pos (by simpa using h)] at h1
        have h2 : ((a0_1[0]'h).toNat : Int) = (c.toNat : Int) := by simpa using h1
        omega
      have hp : 0 < a0_1.size := by omega
      have hb1 := hb0 hp
      have HK := zaa.mk (fun W => zdL.calls _ _ W (zjm c))
      have p0 : (0 : Int) < (a0_1.size : Int) := by omega
      have HR := zaa.mk hr
      rw [hl] at hr
      by_cases hkk : (za9 c : Int) = a0_0
      · have t3 : ((za9 c : Int) != a0_0) = false := by simpa using hkk
        have hle : (q.takeWhile (zbe (za9 c))).length ≤ q.length := (List.takeWhile_prefix _).length_le
        obtain ⟨kf, hkf⟩ := Ev.rounds (zie a0_1 (by omega) (za9 c) q 1 (by rw [hl]; rfl) (by omega))
        rw [hkk] at hkf
        have HFi := zaa.mk (fun W => zbk.calls kf a0_1 a0_0 _ W hkf)
        have hmo := ziZ (za9 c)
        rw [hkk] at hmo
        have HMo := zaa.mk (fun W => zdJ.calls a0_0 _ W hmo)
        have HF := zaa.mk (show r = (decide ((q.takeWhile (zbe (za9 c))).length = q.length) && decide (q.length + 1 ≤ zb4 (za9 c))) by
          rw [← hr]
          unfold zco
          rw [Bool.eq_iff_iff, Bool.and_eq_true, decide_eq_true_iff, decide_eq_true_iff, decide_eq_true_iff]
          constructor
          · intro h; exact ⟨h.2.2.1, h.2.2.2⟩
          · intro h; exact ⟨by omega, hkk, h.1, h.2⟩)
        have HS := zaa.mk hsz
        clear HR hr hl hs hk0 hkk hsz hb0 hkf hmo
        generalize (q.takeWhile (zbe (za9 c))).length = m at *
        generalize zb4 (za9 c) = mo at *
        generalize za9 c = kk at *
        have hq : (1 + m : Nat) ≤ a0_1.size := by have := HS.out; omega
        have HQ := zaa.mk hq
        clear hq hle
        go_enter Tryd.func83, Tryd.ntmps83
        go_wp2_with fail
        go_cut [19] (fun v19 wc => v19 = .bool false ∧ wc.cell? ⟨w.heap.size, 0, none⟩ = some (.int .i64 a0_0) ∧ wc.cell? ⟨w.heap.size, 1, none⟩ = some (.string a0_1) ∧ zaa (Below w.heap.size w wc))
        case first =>
          go_region_with (go_at_call 93; refine (HK.out _).mono ?_; rintro e w1 ⟨rfl, hb⟩; have k0 := zbF hb (a := ⟨w.heap.size, 0, none⟩) (v := .int .i64 a0_0) (by go_simp); have k1 := zbF hb (a := ⟨w.heap.size, 1, none⟩) (v := .string a0_1) (by go_simp); have HB := zaa.mk hb; clear hb)
          all_goals
            go_wp2_with fail
            go_meet
            case rel => exact ⟨rfl, k0, k1, ⟨zax (zcA (zac (Below.refl _ _) _)) HB.out⟩⟩
        case rest =>
          obtain ⟨rfl, k0, k1, HB⟩ := hcut
          by_cases hm : m = q.length
          · have t4 : ((1 + (m : Int)) == (a0_1.size : Int)) = true := by have := HS.out; simp; omega
            have HF2 := zaa.mk (show r = decide (a0_1.size ≤ mo) by
              rw [HF.out, decide_eq_true hm, Bool.true_and]
              have := HS.out
              exact decide_eq_decide.2 (by omega))
            clear HF hm
            go_wp2_with fail
            go_quiet (first | (go_at_call 94; exact Calls.quiet_of ((HFi.out _).mono fun e w' ⟨he, ⟨nd, hd⟩⟩ => ⟨he, nd, hd⟩)) | (go_at_call 95; exact Calls.quiet_of ((HMo.out _).mono fun e w' ⟨he, ⟨nd, hd⟩⟩ => ⟨he, nd, hd⟩)))
            go_wp2_with fail
            go_ret
            exact ⟨by rw [HF2.out]; rfl, zab HB.out _⟩
          · have t4 : ((1 + (m : Int)) == (a0_1.size : Int)) = false := by have := HS.out; simp; omega
            have HF2 := zaa.mk (show r = false by rw [HF.out, decide_eq_false hm, Bool.false_and])
            clear HF hm
            go_wp2_with fail
            go_quiet (first | (go_at_call 94; exact Calls.quiet_of ((HFi.out _).mono fun e w' ⟨he, ⟨nd, hd⟩⟩ => ⟨he, nd, hd⟩)) | (go_at_call 95; exact Calls.quiet_of ((HMo.out _).mono fun e w' ⟨he, ⟨nd, hd⟩⟩ => ⟨he, nd, hd⟩)))
            go_wp2_with fail
            go_ret
            exact ⟨by rw [HF2.out]; rfl, zab HB.out _⟩
      · have t3 : ((za9 c : Int) != a0_0) = true := by simpa using hkk
        have HF := zaa.mk (show r = false by rw [← hr]; unfold zco; apply decide_eq_false; omega)
        clear HR hr hl hs hk0 hkk hsz hb0
        generalize za9 c = kk at *
        go_enter Tryd.func83, Tryd.ntmps83
        go_wp2_with fail
        go_region_with (go_at_call 93; refine (HK.out _).mono ?_; rintro e w1 ⟨rfl, hb⟩; have k0 := zbF hb (a := ⟨w.heap.size, 0, none⟩) (v := .int .i64 a0_0) (by go_simp); have k1 := zbF hb (a := ⟨w.heap.size, 1, none⟩) (v := .string a0_1) (by go_simp); have HB := zaa.mk hb; clear hb)
        all_goals
          go_wp2_with fail
          go_ret
          exact ⟨by rw [HF.out]; rfl, zax (zcA (zac (Below.refl _ _) _)) HB.out⟩
theorem right_eq (kd : Int) (s : ByteArray) (x : Int) (hs : s.size ≤ 4000) : zcK.f kd s x = some (zco kd (toL s)) := by unfold zcK.f; rw [if_pos hs]
theorem zhY (kd : Int) (s : ByteArray) (x : Int) (hs : s.size ≤ 4000) : zbi.f kd s x = some (zco kd (toL s)) := by unfold zbi.f; rw [if_pos hs]
end Go.Proofs.YtbicjgaadknmfaaDoor.P
end
