import Derived.Test.YtbicjgaadknmfaaDoorQ1
import Derived.Test.YtbicjgaadknmfaaDoorQ2
import Derived.Test.YtbicjgaadknmfaaDoorQ3
import Derived.Test.YtbicjgaadknmfaaDoorQ4
import Derived.Test.YtbicjgaadknmfaaDoorQ5
import Derived.Test.YtbicjgaadknmfaaDoorQ6
import Derived.Test.YtbicjgaadknmfaaDoorQ7
import Derived.Test.YtbicjgaadknmfaaDoorQ0
section
namespace Go.Proofs.YtbicjgaadknmfaaDoor.P
open Go.RowKit Go.Proofs.YtbicjgaadknmfaaDoorW.PrintWords Go.Proofs.YtbicjgaadknmfaaDoorW.PrintLast Go.Proofs.YtbicjgaadknmfaaDoorW.PrintMore
attribute [local go_sem] zck zcl zca zcc zbQ zbP zb0 zb1
set_option linter.unusedVariables false
set_option linter.unusedSimpArgs false
mutual
def zal.j0 : Nat → List (S62) → ByteArray → Bool → Int → Int → Int → Option (Bool)
 | 0, _, _, _, _, _, _ => none
 | k + 1, x0, x2, x15, x343000, x343001, x343002 => if x15 = true then ((zbj.f).bind fun t344 => (some t344)) else ((zaE.f k x0).bind fun t345 => (zal.l0 k x0 x2 t345 0 x343000 x343001 x343002))
def zal.l0 : Nat → List (S62) → ByteArray → List (S60) → Int → Int → Int → Int → Option (Bool)
 | 0, _, _, _, _, _, _, _ => none
 | k + 1, x0, x2, x7, x8, x343000, x343001, x343002 => if x8 < (x0.length : Int) then (if 0 ≤ x8 then (if x8 < (x7.length : Int) then ((zaY.f k ((zaF x7 x8).f0) ((zaF x7 x8).f1) ((zaF x7 x8).f2) x343000 x343001 x343002).bind fun t349 => ((zar.f k ((zaV x0 x8).f0) ((zaV x0 x8).f1) ((zaV x0 x8).f2) x343000 x343001 x343002).bind fun t351 => (if (t349 != t351) = true then (some false) else (zal.l0 k x0 x2 x7 (wrap64 (x8 + 1)) x343000 x343001 x343002)))) else (none)) else (none)) else ((zaS.f k x7 x343000 x343001 x343002).bind fun t352 => ((zaB.f k x0 x343000 x343001 x343002).bind fun t353 => (if t352 = t353 then ((zbD.f x2).bind fun t354 => ((zbo.f x2).bind fun t355 => (if (t354 == t355) = true then ((zbj.f).bind fun t356 => (some t356)) else (some false)))) else (some false))))
end
def zal.f (k : Nat) (l0 : List (S62)) (a1_0 : Int) (a1_1 : Int) (a1_2 : Int) (a2 : ByteArray) : Option (Bool) := (zaq.f k l0 100 9).bind fun t343 => (if t343 = true then (zal.j0 k l0 a2 true a1_0 a1_1 a1_2) else (zal.j0 k l0 a2 (decide ((a2.size : Int) > 100)) a1_0 a1_1 a1_2))
theorem zal.zaR : ∀ k, (∀ y0 y1 y2 y3 y4 y5, LeO (zal.j0 k y0 y1 y2 y3 y4 y5) (zal.j0 (k + 1) y0 y1 y2 y3 y4 y5)) ∧ (∀ y0 y1 y2 y3 y4 y5 y6, LeO (zal.l0 k y0 y1 y2 y3 y4 y5 y6) (zal.l0 (k + 1) y0 y1 y2 y3 y4 y5 y6))
 | 0 => ⟨fun _ _ _ _ _ _ r h => by simp [zal.j0] at h, fun _ _ _ _ _ _ _ r h => by simp [zal.l0] at h⟩
 | k + 1 => by
  obtain ⟨ih0, ih1⟩ := zal.zaR k
  refine ⟨?_, ?_⟩
  ·intro y0 y1 y2 y3 y4 y5
   unfold zal.j0
   repeat' first
   | (with_reducible exact ih0 _ _ _ _ _ _)
   | (with_reducible exact ih1 _ _ _ _ _ _ _)
   | (with_reducible exact zaY.mono _ _ _ _ _ _ _)
   | (with_reducible exact zaS.mono _ _ _ _ _)
   | (with_reducible exact zaE.mono _ _)
   | (with_reducible exact zaq.mono _ _ _ _)
   | (with_reducible exact zar.mono _ _ _ _ _ _ _)
   | (with_reducible exact zaB.mono _ _ _ _ _)
   | (with_reducible exact LeO.refl _)
   | (with_reducible exact LeO.none _)
   | (with_reducible refine LeO.ite ?_ ?_)
   | (with_reducible refine LeO.bind ?_ (fun _ => ?_))
   | exact ih0 _ _ _ _ _ _
   | exact ih1 _ _ _ _ _ _ _
   | exact zaY.mono _ _ _ _ _ _ _
   | exact zaS.mono _ _ _ _ _
   | exact zaE.mono _ _
   | exact zaq.mono _ _ _ _
   | exact zar.mono _ _ _ _ _ _ _
   | exact zaB.mono _ _ _ _ _
   | exact LeO.none _
   | refine LeO.ite ?_ ?_
   | refine LeO.bind ?_ (fun _ => ?_)
  ·intro y0 y1 y2 y3 y4 y5 y6
   unfold zal.l0
   repeat' first
   | (with_reducible exact ih0 _ _ _ _ _ _)
   | (with_reducible exact ih1 _ _ _ _ _ _ _)
   | (with_reducible exact zaY.mono _ _ _ _ _ _ _)
   | (with_reducible exact zaS.mono _ _ _ _ _)
   | (with_reducible exact zaE.mono _ _)
   | (with_reducible exact zaq.mono _ _ _ _)
   | (with_reducible exact zar.mono _ _ _ _ _ _ _)
   | (with_reducible exact zaB.mono _ _ _ _ _)
   | (with_reducible exact LeO.refl _)
   | (with_reducible exact LeO.none _)
   | (with_reducible refine LeO.ite ?_ ?_)
   | (with_reducible refine LeO.bind ?_ (fun _ => ?_))
   | exact ih0 _ _ _ _ _ _
   | exact ih1 _ _ _ _ _ _ _
   | exact zaY.mono _ _ _ _ _ _ _
   | exact zaS.mono _ _ _ _ _
   | exact zaE.mono _ _
   | exact zaq.mono _ _ _ _
   | exact zar.mono _ _ _ _ _ _ _
   | exact zaB.mono _ _ _ _ _
   | exact LeO.none _
   | refine LeO.ite ?_ ?_
   | refine LeO.bind ?_ (fun _ => ?_)
theorem zal.mono : ∀ a0 a1 a2 a3 a4 k, LeO (zal.f k a0 a1 a2 a3 a4) (zal.f (k + 1) a0 a1 a2 a3 a4) := by
 intro a0 a1 a2 a3 a4 k
 obtain ⟨ih0, ih1⟩ := zal.zaR k
 unfold zal.f
 repeat' first
   | (with_reducible exact ih0 _ _ _ _ _ _)
   | (with_reducible exact ih1 _ _ _ _ _ _ _)
   | (with_reducible exact zaY.mono _ _ _ _ _ _ _)
   | (with_reducible exact zaS.mono _ _ _ _ _)
   | (with_reducible exact zaE.mono _ _)
   | (with_reducible exact zaq.mono _ _ _ _)
   | (with_reducible exact zar.mono _ _ _ _ _ _ _)
   | (with_reducible exact zaB.mono _ _ _ _ _)
   | (with_reducible exact LeO.refl _)
   | (with_reducible exact LeO.none _)
   | (with_reducible refine LeO.ite ?_ ?_)
   | (with_reducible refine LeO.bind ?_ (fun _ => ?_))
   | exact ih0 _ _ _ _ _ _
   | exact ih1 _ _ _ _ _ _ _
   | exact zaY.mono _ _ _ _ _ _ _
   | exact zaS.mono _ _ _ _ _
   | exact zaE.mono _ _
   | exact zaq.mono _ _ _ _
   | exact zar.mono _ _ _ _ _ _ _
   | exact zaB.mono _ _ _ _ _
   | exact LeO.none _
   | refine LeO.ite ?_ ?_
   | refine LeO.bind ?_ (fun _ => ?_)
def zal.T7 : Bool × List (List Nat × List Nat) := (true, [([], []), ([], []), ([0, 1], [0, 1]), ([2], [2]), ([], []), ([4], [4]), ([], []), ([6], [6]), ([], []), ([8], [8]), ([3, 5, 7, 9], [3, 5, 7, 9]), ([], []), ([], []), ([11, 12], [11, 12]), ([13], [13]), ([], []), ([15], [15]), ([], []), ([17], [17]), ([], []), ([19], [19]), ([14, 16, 18, 20, 10], [14, 16, 18, 20]), ([10, 21], [10, 21])])
def zal.B7 : List Nat := [0, 0, 3, 7, 0, 16, 0, 64, 0, 256, 1023, 0, 0, 6144, 14336, 0, 32768, 0, 131072, 0, 524288, 2097151, 4194303]
theorem zal.tab7 : rtab .any (opsOf Tryd.f7 7) = zal.T7 := by kernel_rfl
theorem zal.ziE : zcU zal.T7.2 zal.B7 = true := by kernel_rfl
def zal.T9 : Bool × List (List Nat × List Nat) := (true, [([], []), ([], []), ([1], [1]), ([], []), ([3], [3]), ([], []), ([5], [5]), ([0, 2, 4, 6], [0, 2, 4, 6]), ([], []), ([], []), ([9], [9]), ([], []), ([11], [11]), ([], []), ([13], [13]), ([8, 10, 12, 14, 7], [8, 10, 12, 14]), ([7, 15], [7, 15]), ([16, 15], [16]), ([17], [17]), ([18, 17, 17], [17, 18]), ([17], [17]), ([20, 19, 17], [17, 20]), ([19, 21, 17], [17, 19, 21]), ([17, 22], [17, 22]), ([23, 21], [23]), ([24, 24], [24]), ([24, 25], [24, 25]), ([26, 25, 0, 1, 2, 3, 4, 5, 6, 7, 8, 9, 10, 11, 12, 13, 14, 15, 16, 17, 18, 19, 20, 21, 22, 23, 24, 25, 26], [26])])
def zal.B9 : List Nat := [0, 0, 2, 0, 8, 0, 32, 127, 0, 0, 512, 0, 2048, 0, 8192, 32767, 65535, 131071, 262143, 524287, 262143, 2097151, 4194303, 8388607, 16777215, 33554431, 67108863, 134217727]
theorem zal.tab9 : rtab .any (opsOf Tryd.f7 9) = zal.T9 := by kernel_rfl
theorem zal.zhi : zcU zal.T9.2 zal.B9 = true := by kernel_rfl
set_option maxHeartbeats 8000000 in
set_option maxRecDepth 100000 in
theorem zal.calls (k : Nat) (A0 : Option Addr) (c0 : Nat) (l0 : List (S62)) (a1_0 : Int) (a1_1 : Int) (a1_2 : Int) (a2 : ByteArray) (r : Bool) (w : World) (hr0 : Kd.C k62 w A0 l0.length l0) (hc0 : l0.length ≤ c0) (h : zal.f k l0 a1_0 a1_1 a1_2 a2 = some r) :
  Calls Tryd.prog 7 #[.slice A0 l0.length c0, .agg #[.int .i64 a1_0, .int .i64 a1_1, .int .i64 a1_2], .string a2] w fun e w' => e = .returned (.bool r) ∧ Below w.heap.size w w' := by
 have hu43 := Tryd.underlying43
 have hu60 := Tryd.underlying60
 have hu62 := Tryd.underlying62
 have HR0 := zaa.mk hr0
 have HC0 := zaa.mk hc0
 clear hr0 hc0
 have HB := zaa.mk (Below.refl w.heap.size w)
 have H : ((zaq.f k l0 100 9).bind fun t343 => (if t343 = true then (zal.j0 k l0 a2 true a1_0 a1_1 a1_2) else (zal.j0 k l0 a2 (decide ((a2.size : Int) > 100)) a1_0 a1_1 a1_2))) = some r := h
 clear h
 have HC4 := zaa.mk H
 clear H
 go_enter Tryd.func7, Tryd.ntmps7
 go_upto_region 1 with (first | ((with_reducible refine zbc (N := 4) rfl ?_); (try (refine zbN (by rfl) ?_; dsimp only)); refine zbb ?hg (N := 4) ?hd (cs := #[.int .i64 a1_0, .int .i64 a1_1, .int .i64 a1_2]) (t := 43) ?hr ?_; (case hd => rfl); (case hg => rfl); (case hr => first | (go_simp; done) | (go_simp; rfl)); intro gb342 hg w5 hbox hb; have n0_ := zaa.mk (zax (by repeat (first | (with_reducible first | exact HB.out | apply zac | apply zab | apply zad) | exact HB.out)) hb); have n1_ := zaa.mk (hbox); have n2_ := zaa.mk ((by rw [hg]; exact (zay (by repeat (first | (with_reducible first | exact HB.out | apply zac | apply zab | apply zad) | exact HB.out))) : w.heap.size ≤ gb342)); have n3_ := zaa.mk ((by rw [hg]; exact (zay (by repeat (first | (with_reducible first | exact HB.out | apply zac | apply zab | apply zad) | exact HB.out))) : w.heap.size ≤ gb342)); clear HB; have HB := n0_; have BK342 := n1_; have GW342 := n2_; have GE342 := n3_; clear n0_ n1_ n2_ n3_; clear hb hbox hg))
 (try simp only [Act.put, List.setIfInBounds_toArray, List.set_cons_zero, List.set_cons_succ])
 go_cut [15] (fun v15 wc => ∃ (kq : Nat) (x15_3 : Bool), v15 = .bool x15_3 ∧ zaa (zal.j0 kq l0 a2 x15_3 a1_0 a1_1 a1_2 = some r) ∧ zaa (kq ≤ k) ∧ zaa (wc.heap[gb342]? = some (.cells #[.int .i64 a1_0, .int .i64 a1_1, .int .i64 a1_2] 43 (0, 0))) ∧ zaa (Below w.heap.size w wc))
 case first =>
  have H := HC4.out
  clear HC4
  replace H := Option.bind_eq_some_iff.mp H
  obtain ⟨t343, A60, H⟩ := H
  replace H : (if t343 = true then (zal.j0 k l0 a2 true a1_0 a1_1 a1_2) else (zal.j0 k l0 a2 (decide ((a2.size : Int) > 100)) a1_0 a1_1 a1_2)) = some r := H
  have A6 := zaa.mk A60
  clear A60
  by_cases c7 : t343 = true
  ·subst c7
   have H1 : (zal.j0 k l0 a2 true a1_0 a1_1 a1_2) = some r := by rw [if_pos rfl] at H; exact H
   clear H
   have H := H1
   clear H1
   have H' := zaa.mk H
   clear H
   go_wp2_with (first | ((with_reducible refine zaG (f := 29) rfl ?_); refine za2 (some 10) rfl rfl Tryd.func29 (by kernel_rfl) rfl #[.slice A0 l0.length c0, .int .i64 100, .int .i64 9] rfl (by (try simp only [List.map_toArray, List.map_cons, List.map_nil]); first | done | rfl | (simp only [List.length_drop, List.length_take]; rfl)) ?_; (with_reducible refine (zaq.calls k _ _ l0 100 9 true _ ?side1 ?side2 A6.out).mono ?_); (case side1 => repeat (first | exact (Kd.za7 HR0.out HB.out) | (with_reducible refine Kd.zaT ?_ _) | (with_reducible refine Kd.zaU ?_ _) | (with_reducible refine Kd.za0 ?_))); (case side2 => exact HC0.out); rintro e w' ⟨rfl, ⟨nd, rfl⟩⟩; refine ⟨_, rfl, ?_⟩))
   go_meet
   case rel => exact ⟨_, (true), (by first | rfl | (simp; done) | (simp [*]; done)), H', ⟨by first | omega | exact Nat.le_refl _⟩, ⟨by (with_reducible repeat (first | refine zah ?_ _ | refine zak ?_ | refine zaf ?_ _)); exact BK342.out⟩, ⟨by repeat (first | (with_reducible first | exact HB.out | apply zac | apply zab | apply zad | refine zai ?_ GE342.out) | exact HB.out)⟩⟩
  ·replace c7 := Bool.eq_false_iff.mpr c7
   subst c7
   have H1 : (zal.j0 k l0 a2 (decide ((a2.size : Int) > 100)) a1_0 a1_1 a1_2) = some r := by rw [if_neg (show ¬ (false = true) by decide)] at H; exact H
   clear H
   have H := H1
   clear H1
   have H' := zaa.mk H
   clear H
   go_wp2_with (first | ((with_reducible refine zaG (f := 29) rfl ?_); refine za2 (some 10) rfl rfl Tryd.func29 (by kernel_rfl) rfl #[.slice A0 l0.length c0, .int .i64 100, .int .i64 9] rfl (by (try simp only [List.map_toArray, List.map_cons, List.map_nil]); first | done | rfl | (simp only [List.length_drop, List.length_take]; rfl)) ?_; (with_reducible refine (zaq.calls k _ _ l0 100 9 false _ ?side1 ?side2 A6.out).mono ?_); (case side1 => repeat (first | exact (Kd.za7 HR0.out HB.out) | (with_reducible refine Kd.zaT ?_ _) | (with_reducible refine Kd.zaU ?_ _) | (with_reducible refine Kd.za0 ?_))); (case side2 => exact HC0.out); rintro e w' ⟨rfl, ⟨nd, rfl⟩⟩; refine ⟨_, rfl, ?_⟩))
   go_meet
   case rel => exact ⟨_, (decide ((a2.size : Int) > 100)), (by first | rfl | (simp; done) | (simp [*]; done)), H', ⟨by first | omega | exact Nat.le_refl _⟩, ⟨by (with_reducible repeat (first | refine zah ?_ _ | refine zak ?_ | refine zaf ?_ _)); exact BK342.out⟩, ⟨by repeat (first | (with_reducible first | exact HB.out | apply zac | apply zab | apply zad | refine zai ?_ GE342.out) | exact HB.out)⟩⟩
 case rest =>
  clear HC4
  try clear c2
  try clear p2
  try clear c7
  obtain ⟨kq, x15_3, rfl, HA, HJ3, BK342, HB⟩ := hcut
  cases kq with
  | zero => exact absurd HA.out (by simp [zal.j0])
  | succ kj3 =>
   have H := HA.out
   clear HA
   simp only [zal.j0] at H
   by_cases c8 : x15_3 = true
   ·subst c8
    have H1 : ((zbj.f).bind fun t344 => (some t344)) = some r := by rw [if_pos rfl] at H; exact H
    clear H
    have H := H1
    clear H1
    replace H := Option.bind_eq_some_iff.mp H
    obtain ⟨t344, A90, H⟩ := H
    replace H : (some t344) = some r := H
    have A9 := zaa.mk A90
    clear A90
    obtain rfl := Option.some.inj H
    go_wp2_with (first | ((with_reducible refine zaG (f := 24) rfl ?_); refine za2 (some 16) rfl rfl Tryd.func24 (by kernel_rfl) rfl #[] rfl (by (try simp only [List.map_toArray, List.map_cons, List.map_nil]); first | done | rfl | (simp only [List.length_drop, List.length_take]; rfl)) ?_; (with_reducible refine (zbj.calls  t344 _ A9.out).mono ?_); rintro e w10 ⟨rfl, hb⟩; refine ⟨_, rfl, ?_⟩; have n0_ := zaa.mk (zaP (g := gb342) (o := .cells #[.int .i64 a1_0, .int .i64 a1_1, .int .i64 a1_2] 43 (0, 0)) (by (with_reducible repeat (first | refine zah ?_ _ | refine zak ?_ | refine zaf ?_ _)); exact BK342.out) hb); have n1_ := zaa.mk (zax (by repeat (first | (with_reducible first | exact HB.out | apply zac | apply zab | apply zad | refine zai ?_ GE342.out) | exact HB.out)) hb); clear BK342; clear HB; have BK342 := n0_; have HB := n1_; clear n0_ n1_; (try clear hb); (try clear hb2); (try clear hk); (try clear hi)))
    go_ret
    exact ⟨by first | rfl | (simp [zan, zam] <;> rfl) | (simp [*, zan, zam] <;> rfl), by repeat (first | (with_reducible first | exact HB.out | apply zac | apply zab | apply zad | refine zai ?_ GE342.out) | exact HB.out)⟩
   ·replace c8 := Bool.eq_false_iff.mpr c8
    subst c8
    have H1 : ((zaE.f kj3 l0).bind fun t345 => (zal.l0 kj3 l0 a2 t345 0 a1_0 a1_1 a1_2)) = some r := by rw [if_neg (show ¬ (false = true) by decide)] at H; exact H
    clear H
    have H := H1
    clear H1
    replace H := Option.bind_eq_some_iff.mp H
    obtain ⟨t345, A110, H⟩ := H
    replace H : (zal.l0 kj3 l0 a2 t345 0 a1_0 a1_1 a1_2) = some r := H
    have A11 := zaa.mk A110
    clear A110
    have H' := zaa.mk H
    clear H
    go_wp2_with (first | ((with_reducible refine zaG (f := 30) rfl ?_); refine za2 (some 18) rfl rfl Tryd.func30 (by kernel_rfl) rfl #[.slice A0 l0.length c0] rfl (by (try simp only [List.map_toArray, List.map_cons, List.map_nil]); first | done | rfl | (simp only [List.length_drop, List.length_take]; rfl)) ?_; (with_reducible refine (zaE.calls kj3 (fun k_ => k_ < w.heap.size) _ _ l0 t345 _ ?side1 A11.out).mono ?_); (case side1 => exact Kd.V_mk HC0.out (Kd.zdg (Kd.C_F ze0 HR0.out) (by repeat (first | (with_reducible first | exact HB.out | apply zac | apply zab | apply zad | refine zai ?_ GE342.out) | exact HB.out)))); rintro e w12 ⟨v346, rfl, ho0, hb⟩; refine ⟨_, rfl, ?_⟩; have n0_ := zaa.mk (Kd.zgP (Kd.zgn (ok' := fun k_ => k_ ≠ gb342) ho0 (fun k_ hk_ => Or.elim hk_ (fun hs_ => fun e_ => Nat.not_le.2 hs_ (by rw [e_]; exact GW342.out)) (fun hn_ => (Kd.zeg (g := gb342) (o := .cells #[.int .i64 a1_0, .int .i64 a1_1, .int .i64 a1_2] 43 (0, 0)) (by (with_reducible repeat (first | refine zah ?_ _ | refine zak ?_ | refine zaf ?_ _)); exact BK342.out) k_ hn_)))) (zay (by repeat (first | (with_reducible first | exact HB.out | apply zac | apply zab | apply zad | refine zai ?_ GE342.out) | exact HB.out)))); have n1_ := zaa.mk (zaP (g := gb342) (o := .cells #[.int .i64 a1_0, .int .i64 a1_1, .int .i64 a1_2] 43 (0, 0)) (by (with_reducible repeat (first | refine zah ?_ _ | refine zak ?_ | refine zaf ?_ _)); exact BK342.out) hb); have n2_ := zaa.mk (zax (by repeat (first | (with_reducible first | exact HB.out | apply zac | apply zab | apply zad | refine zai ?_ GE342.out) | exact HB.out)) hb); clear BK342; clear HB; have HO347 := n0_; have BK342 := n1_; have HB := n2_; clear n0_ n1_ n2_; (try clear hb); (try clear hb2); (try clear hk); (try clear hi); (try clear ho0)))
    go_loopg [8] kj3 (fun kq v8 w' => ∃ (x8_2 : Int), v8 = .int .i64 x8_2 ∧ zaa (zal.l0 kq l0 a2 t345 x8_2 a1_0 a1_1 a1_2 = some r) ∧ zaa (kq ≤ kj3) ∧ zaa (Kd.N k60 60 w' w.heap.size (fun k_ => k_ ≠ gb342) v346 t345) ∧ zaa (w'.heap[gb342]? = some (.cells #[.int .i64 a1_0, .int .i64 a1_1, .int .i64 a1_2] 43 (0, 0))) ∧ zaa (Below w.heap.size w w'))
    case atStart => exact ⟨(0), (by first | rfl | (simp; done) | (simp [*]; done)), H', ⟨Nat.le_refl _⟩, ⟨by (with_reducible repeat (first | apply Kd.zbA | apply Kd.zbz | apply Kd.zby)); exact HO347.out⟩, ⟨by (with_reducible repeat (first | refine zah ?_ _ | refine zak ?_ | refine zaf ?_ _)); exact BK342.out⟩, ⟨by repeat (first | (with_reducible first | exact HB.out | apply zac | apply zab | apply zad | refine zai ?_ GE342.out) | exact HB.out)⟩⟩
    case round =>
     clear H'
     try clear c2
     try clear p2
     try clear c3
     try clear c7
     try clear c8
     try clear p2
     obtain ⟨x8_2, rfl, HA, HK2, HO_7, BK342, HB⟩ := hrel
     cases gk with
     | zero => exact absurd HA.out (by simp [zal.l0])
     | succ k2 =>
      have H := HA.out
      clear HA
      simp only [zal.l0] at H
      by_cases c13 : x8_2 < (l0.length : Int)
      ·rw [if_pos c13] at H
       have c13b0 : decide (x8_2 < (l0.length : Int)) = true := decide_eq_true c13
       clear c13
       by_cases c14 : 0 ≤ x8_2
       ·rw [if_pos c14] at H
        have c14b0 : decide (0 ≤ x8_2) = true := decide_eq_true c14
        clear c14
        by_cases c15 : x8_2 < (t345.length : Int)
        ·rw [if_pos c15] at H
         have c15b0 : decide (x8_2 < (t345.length : Int)) = true := decide_eq_true c15
         clear c15
         replace H := Option.bind_eq_some_iff.mp H
         obtain ⟨t349, A160, H⟩ := H
         replace H : ((zar.f k2 ((zaV l0 x8_2).f0) ((zaV l0 x8_2).f1) ((zaV l0 x8_2).f2) a1_0 a1_1 a1_2).bind fun t351 => (if (t349 != t351) = true then (some false) else (zal.l0 k2 l0 a2 t345 (wrap64 (x8_2 + 1)) a1_0 a1_1 a1_2))) = some r := H
         have A16 := zaa.mk A160
         clear A160
         replace H := Option.bind_eq_some_iff.mp H
         obtain ⟨t351, A170, H⟩ := H
         replace H : (if (t349 != t351) = true then (some false) else (zal.l0 k2 l0 a2 t345 (wrap64 (x8_2 + 1)) a1_0 a1_1 a1_2)) = some r := H
         have A17 := zaa.mk A170
         clear A170
         by_cases c18 : (t349 != t351) = true
         ·rw [if_pos c18] at H
          have c18b0 : (t349 != t351) = true := c18
          (try (have c18b1 : decide (t349 = t351) = false := by simpa using c18))
          (try (have c18b2 : (t349 == t351) = false := by simpa using c18))
          (try (have c18b3 : ¬ (t349 = t351) := by simpa using c18))
          clear c18
          obtain rfl := Option.some.inj H
          try go_wp2
          have n0_ := zaa.mk (Kd.zby HO_7.out)
          have n1_ := zaa.mk (zak BK342.out)
          have n2_ := zaa.mk (zad HB.out)
          clear HO_7
          clear BK342
          clear HB
          have HO_7 := n0_
          have BK342 := n1_
          have HB := n2_
          clear n0_ n1_ n2_
          obtain ⟨Ao20, co20, eo20⟩ := Kd.zde HO_7.out
          (first | subst eo20 | (injection eo20 with f1_ f2_ f3_; have f4_ := f1_.symm; have f5_ := f3_.symm; clear f1_ f2_ f3_; subst f4_; subst f5_))
          have p348 : 0 ≤ (x8_2 : Int) := of_decide_eq_true (by first | (with_reducible assumption) | assumption)
          have q348 : x8_2 < (t345.length : Int) := of_decide_eq_true (by first | (with_reducible assumption) | assumption)
          obtain ⟨ad348, A348_2, c348_2, e348, hx348_0, hx348_1, hx348_2, hl348_2, hi348_2⟩ := zcY (Kd.zcm HO_7.out).2.2 x8_2 p348 q348
          cases e348
          obtain ⟨ce348, hce348, hMe348, hcc348⟩ := Kd.zhn HO_7.out z60 x8_2 p348 (by first | exact q348 | exact of_decide_eq_true (by first | (with_reducible assumption) | assumption) | (have e_ := (Kd.zcm HO_7.out).1; omega))
          obtain ⟨ua348_2, uc348_2, rfl, ul348_2, ge348_2⟩ := zfz hMe348
          have hv348_2 := hcc348 2 _ rfl
          rw [zbM _ _ 2 (by omega)] at hv348_2
          replace hv348_2 := Option.some.inj (hv348_2.symm.trans hx348_2)
          injection hv348_2 with hva_ hvn_ hvc_
          rw [hva_] at ge348_2
          rw [hvc_] at ul348_2
          have HL348_2 := zaa.mk (show Kd.V (Kd.int .u32) 101 _ w.heap.size _ _ ((zaF t345 x8_2).f2) from Kd.V_mk ul348_2 ge348_2)
          clear hva_ hvn_ hvc_ ge348_2 ul348_2
          clear hcc348 hce348
          have HR348_2 := zaa.mk hi348_2
          have HC348_2 := zaa.mk hl348_2
          clear hi348_2 hl348_2
          replace p348 := eq_true p348
          replace q348 := eq_true q348
          have p350 : 0 ≤ (x8_2 : Int) := of_decide_eq_true (by first | (with_reducible assumption) | assumption)
          have q350 : x8_2 < (l0.length : Int) := of_decide_eq_true (by first | (with_reducible assumption) | assumption)
          obtain ⟨ad350, A350_2, c350_2, e350, hx350_0, hx350_1, hx350_2, hl350_2, hi350_2⟩ := zcH HR0.out x8_2 p350 q350
          have hw350_2 := hx350_2
          have hw350_1 := hx350_1
          have hw350_0 := hx350_0
          cases e350
          replace hx350_0 := (HB.out.cell (World.block_lt_of_cell? w _ hx350_0)).trans hx350_0
          replace hx350_1 := (HB.out.cell (World.block_lt_of_cell? w _ hx350_1)).trans hx350_1
          replace hx350_2 := (HB.out.cell (World.block_lt_of_cell? w _ hx350_2)).trans hx350_2
          have HR350_2 := zaa.mk hi350_2
          have HC350_2 := zaa.mk hl350_2
          clear hi350_2 hl350_2
          replace p350 := eq_true p350
          replace q350 := eq_true q350
          refine zcZ (n := 23) (S := fun w' => w'.cell? ⟨gb342, 0, none⟩ = some (.int .i64 a1_0) ∧ w'.cell? ⟨gb342, 1, none⟩ = some (.int .i64 a1_1) ∧ w'.cell? ⟨gb342, 2, none⟩ = some (.int .i64 a1_2) ∧ w'.cell? (ad348.add ((x8_2).toNat * 3)) = some (.int .i64 ((zaF t345 x8_2).f0)) ∧ w'.cell? ⟨(ad348.add ((x8_2).toNat * 3)).block, (ad348.add ((x8_2).toNat * 3)).off + 1, none⟩ = some (.int .i64 ((zaF t345 x8_2).f1)) ∧ w'.cell? ⟨(ad348.add ((x8_2).toNat * 3)).block, (ad348.add ((x8_2).toNat * 3)).off + 2, none⟩ = some (.slice A348_2 ((zaF t345 x8_2).f2).length c348_2) ∧ w'.cell? (ad350.add ((x8_2).toNat * 3)) = some (.int .i64 ((zaV l0 x8_2).f0)) ∧ w'.cell? ⟨(ad350.add ((x8_2).toNat * 3)).block, (ad350.add ((x8_2).toNat * 3)).off + 1, none⟩ = some (.int .i64 ((zaV l0 x8_2).f1)) ∧ w'.cell? ⟨(ad350.add ((x8_2).toNat * 3)).block, (ad350.add ((x8_2).toNat * 3)).off + 2, none⟩ = some (.slice A350_2 ((zaV l0 x8_2).f2).length c350_2)) (ds := []) #[false, false, false, false, false, false, false, false, false, false, false, false, false, false, false, false, false, false, false, false, false, false, false] (by kernel_rfl) rfl rfl ⟨(zae BK342.out 0).trans rfl, (zae BK342.out 1).trans rfl, (zae BK342.out 2).trans rfl, hx348_0, hx348_1, hx348_2, ((HB.out.cell (World.block_lt_of_cell? w _ hw350_0)).trans hw350_0), ((HB.out.cell (World.block_lt_of_cell? w _ hw350_1)).trans hw350_1), ((HB.out.cell (World.block_lt_of_cell? w _ hw350_2)).trans hw350_2)⟩ (fun hHeld => ?_); refine zcr zal.tab7 zal.ziE (fun HT_ HW_ => ?_)
          generalize wr.drew = w19 at HO_7 BK342 HB HL348_2 HR348_2 HR350_2 hx348_0 hx348_1 hx348_2 hx350_0 hx350_1 hx350_2 hHeld ⊢
          refine zaI (i := 0) (N := some 25) (v := ?_) (a' := ?_) #[true, false, false, false, false, false, false, false, false, false, false, false, false, false, false, false, false, false, false, false, false, false, false] rfl rfl (zaC HT_.out (by kernel_rfl)) (fun _ _ _ h => h) (Or.inl ⟨by rfl, ?_⟩) ?_ ?_
          rotate_left
          ·intro w'
           go_simp
           with_reducible rfl
          rotate_left
          ·simp only [Act.put, List.setIfInBounds_toArray, List.set_cons_zero, List.set_cons_succ, zas, zat]
           rfl
          refine zaI (i := 1) (N := some 26) (v := ?_) (a' := ?_) #[true, true, false, false, false, false, false, false, false, false, false, false, false, false, false, false, false, false, false, false, false, false, false] rfl rfl (zaC HT_.out (by kernel_rfl)) (fun _ _ _ h => h) (Or.inl ⟨by rfl, ?_⟩) ?_ ?_
          rotate_left
          ·intro w'
           go_simp
           with_reducible rfl
          rotate_left
          ·simp only [Act.put, List.setIfInBounds_toArray, List.set_cons_zero, List.set_cons_succ, zas, zat]
           rfl
          refine zaI (i := 2) (N := some 27) (v := ?_) (a' := ?_) #[true, true, true, false, false, false, false, false, false, false, false, false, false, false, false, false, false, false, false, false, false, false, false] rfl rfl (zaC HT_.out (by kernel_rfl)) (fun _ _ _ h => h) (Or.inl ⟨by rfl, ?_⟩) ?_ ?_
          rotate_left
          ·intro w'
           go_simp
           with_reducible rfl
          rotate_left
          ·simp only [Act.put, List.setIfInBounds_toArray, List.set_cons_zero, List.set_cons_succ, zas, zat]
           rfl
          refine zaI (i := 4) (N := some 29) (v := ?_) (a' := ?_) #[true, true, true, false, true, false, false, false, false, false, false, false, false, false, false, false, false, false, false, false, false, false, false] rfl rfl (zaC HT_.out (by kernel_rfl)) (fun _ _ _ h => h) (Or.inl ⟨by rfl, ?_⟩) ?_ ?_
          rotate_left
          ·intro w'
           go_simp
           with_reducible rfl
          rotate_left
          ·simp only [Act.put, List.setIfInBounds_toArray, List.set_cons_zero, List.set_cons_succ, zas, zat]
           rfl
          refine zaI (i := 6) (N := some 31) (v := ?_) (a' := ?_) #[true, true, true, false, true, false, true, false, false, false, false, false, false, false, false, false, false, false, false, false, false, false, false] rfl rfl (zaC HT_.out (by kernel_rfl)) (fun _ _ _ h => h) (Or.inl ⟨by rfl, ?_⟩) ?_ ?_
          rotate_left
          ·intro w'
           go_simp
           with_reducible rfl
          rotate_left
          ·simp only [Act.put, List.setIfInBounds_toArray, List.set_cons_zero, List.set_cons_succ, zas, zat]
           rfl
          refine zaI (i := 8) (N := some 33) (v := ?_) (a' := ?_) #[true, true, true, false, true, false, true, false, true, false, false, false, false, false, false, false, false, false, false, false, false, false, false] rfl rfl (zaC HT_.out (by kernel_rfl)) (fun _ _ _ h => h) (Or.inl ⟨by rfl, ?_⟩) ?_ ?_
          rotate_left
          ·intro w'
           go_simp
           with_reducible rfl
          rotate_left
          ·simp only [Act.put, List.setIfInBounds_toArray, List.set_cons_zero, List.set_cons_succ, zas, zat]
           rfl
          refine zaI (i := 11) (N := some 36) (v := ?_) (a' := ?_) #[true, true, true, false, true, false, true, false, true, false, false, true, false, false, false, false, false, false, false, false, false, false, false] rfl rfl (zaC HT_.out (by kernel_rfl)) (fun _ _ _ h => h) (Or.inl ⟨by rfl, ?_⟩) ?_ ?_
          rotate_left
          ·intro w'
           go_simp
           with_reducible rfl
          rotate_left
          ·simp only [Act.put, List.setIfInBounds_toArray, List.set_cons_zero, List.set_cons_succ, zas, zat]
           rfl
          refine zaI (i := 12) (N := some 37) (v := ?_) (a' := ?_) #[true, true, true, false, true, false, true, false, true, false, false, true, true, false, false, false, false, false, false, false, false, false, false] rfl rfl (zaC HT_.out (by kernel_rfl)) (fun _ _ _ h => h) (Or.inl ⟨by rfl, ?_⟩) ?_ ?_
          rotate_left
          ·intro w'
           go_simp
           with_reducible rfl
          rotate_left
          ·simp only [Act.put, List.setIfInBounds_toArray, List.set_cons_zero, List.set_cons_succ, zas, zat]
           rfl
          refine zaI (i := 13) (N := some 38) (v := ?_) (a' := ?_) #[true, true, true, false, true, false, true, false, true, false, false, true, true, true, false, false, false, false, false, false, false, false, false] rfl rfl (zaC HT_.out (by kernel_rfl)) (fun _ _ _ h => h) (Or.inl ⟨by rfl, ?_⟩) ?_ ?_
          rotate_left
          ·intro w'
           go_simp
           with_reducible rfl
          rotate_left
          ·simp only [Act.put, List.setIfInBounds_toArray, List.set_cons_zero, List.set_cons_succ, zas, zat]
           rfl
          refine zaI (i := 15) (N := some 40) (v := ?_) (a' := ?_) #[true, true, true, false, true, false, true, false, true, false, false, true, true, true, false, true, false, false, false, false, false, false, false] rfl rfl (zaC HT_.out (by kernel_rfl)) (fun _ _ _ h => h) (Or.inl ⟨by rfl, ?_⟩) ?_ ?_
          rotate_left
          ·intro w'
           go_simp
           with_reducible rfl
          rotate_left
          ·simp only [Act.put, List.setIfInBounds_toArray, List.set_cons_zero, List.set_cons_succ, zas, zat]
           rfl
          refine zaI (i := 17) (N := some 42) (v := ?_) (a' := ?_) #[true, true, true, false, true, false, true, false, true, false, false, true, true, true, false, true, false, true, false, false, false, false, false] rfl rfl (zaC HT_.out (by kernel_rfl)) (fun _ _ _ h => h) (Or.inl ⟨by rfl, ?_⟩) ?_ ?_
          rotate_left
          ·intro w'
           go_simp
           with_reducible rfl
          rotate_left
          ·simp only [Act.put, List.setIfInBounds_toArray, List.set_cons_zero, List.set_cons_succ, zas, zat]
           rfl
          refine zaI (i := 19) (N := some 44) (v := ?_) (a' := ?_) #[true, true, true, false, true, false, true, false, true, false, false, true, true, true, false, true, false, true, false, true, false, false, false] rfl rfl (zaC HT_.out (by kernel_rfl)) (fun _ _ _ h => h) (Or.inl ⟨by rfl, ?_⟩) ?_ ?_
          rotate_left
          ·intro w'
           go_simp
           with_reducible rfl
          rotate_left
          ·simp only [Act.put, List.setIfInBounds_toArray, List.set_cons_zero, List.set_cons_succ, zas, zat]
           rfl
          refine zbl (i := 3) (N := some 28) (v := ?_) (a' := ?_) #[true, true, true, true, true, false, true, false, true, false, false, true, true, true, false, true, false, true, false, true, false, false, false] rfl rfl (za6 HT_.out HW_.out (by kernel_rfl)) (fun _ _ _ h => h) (Or.inl ⟨by rfl, ?_⟩) hHeld ?_ ?_
          rotate_left
          ·rintro w' ⟨s0, s1, s2, s3, s4, s5, s6, s7, s8⟩
           go_simp
           with_reducible rfl
          rotate_left
          ·simp only [Act.put, List.setIfInBounds_toArray, List.set_cons_zero, List.set_cons_succ, zas, zat]
           rfl
          refine zbl (i := 5) (N := some 30) (v := ?_) (a' := ?_) #[true, true, true, true, true, true, true, false, true, false, false, true, true, true, false, true, false, true, false, true, false, false, false] rfl rfl (za6 HT_.out HW_.out (by kernel_rfl)) (fun _ _ _ h => h) (Or.inl ⟨by rfl, ?_⟩) hHeld ?_ ?_
          rotate_left
          ·rintro w' ⟨s0, s1, s2, s3, s4, s5, s6, s7, s8⟩
           go_simp
           with_reducible rfl
          rotate_left
          ·simp only [Act.put, List.setIfInBounds_toArray, List.set_cons_zero, List.set_cons_succ, zas, zat]
           rfl
          refine zbl (i := 7) (N := some 32) (v := ?_) (a' := ?_) #[true, true, true, true, true, true, true, true, true, false, false, true, true, true, false, true, false, true, false, true, false, false, false] rfl rfl (za6 HT_.out HW_.out (by kernel_rfl)) (fun _ _ _ h => h) (Or.inl ⟨by rfl, ?_⟩) hHeld ?_ ?_
          rotate_left
          ·rintro w' ⟨s0, s1, s2, s3, s4, s5, s6, s7, s8⟩
           go_simp
           with_reducible rfl
          rotate_left
          ·simp only [Act.put, List.setIfInBounds_toArray, List.set_cons_zero, List.set_cons_succ, zas, zat]
           rfl
          refine zbl (i := 9) (N := some 34) (v := ?_) (a' := ?_) #[true, true, true, true, true, true, true, true, true, true, false, true, true, true, false, true, false, true, false, true, false, false, false] rfl rfl (za6 HT_.out HW_.out (by kernel_rfl)) (fun _ _ _ h => h) (Or.inl ⟨by rfl, ?_⟩) hHeld ?_ ?_
          rotate_left
          ·rintro w' ⟨s0, s1, s2, s3, s4, s5, s6, s7, s8⟩
           go_simp
           with_reducible rfl
          rotate_left
          ·simp only [Act.put, List.setIfInBounds_toArray, List.set_cons_zero, List.set_cons_succ, zas, zat]
           rfl
          refine zbl (i := 14) (N := some 39) (v := ?_) (a' := ?_) #[true, true, true, true, true, true, true, true, true, true, false, true, true, true, true, true, false, true, false, true, false, false, false] rfl rfl (za6 HT_.out HW_.out (by kernel_rfl)) (fun _ _ _ h => h) (Or.inl ⟨by rfl, ?_⟩) hHeld ?_ ?_
          rotate_left
          ·rintro w' ⟨s0, s1, s2, s3, s4, s5, s6, s7, s8⟩
           go_simp
           with_reducible rfl
          rotate_left
          ·simp only [Act.put, List.setIfInBounds_toArray, List.set_cons_zero, List.set_cons_succ, zas, zat]
           rfl
          refine zbl (i := 16) (N := some 41) (v := ?_) (a' := ?_) #[true, true, true, true, true, true, true, true, true, true, false, true, true, true, true, true, true, true, false, true, false, false, false] rfl rfl (za6 HT_.out HW_.out (by kernel_rfl)) (fun _ _ _ h => h) (Or.inl ⟨by rfl, ?_⟩) hHeld ?_ ?_
          rotate_left
          ·rintro w' ⟨s0, s1, s2, s3, s4, s5, s6, s7, s8⟩
           go_simp
           with_reducible rfl
          rotate_left
          ·simp only [Act.put, List.setIfInBounds_toArray, List.set_cons_zero, List.set_cons_succ, zas, zat]
           rfl
          refine zbl (i := 18) (N := some 43) (v := ?_) (a' := ?_) #[true, true, true, true, true, true, true, true, true, true, false, true, true, true, true, true, true, true, true, true, false, false, false] rfl rfl (za6 HT_.out HW_.out (by kernel_rfl)) (fun _ _ _ h => h) (Or.inl ⟨by rfl, ?_⟩) hHeld ?_ ?_
          rotate_left
          ·rintro w' ⟨s0, s1, s2, s3, s4, s5, s6, s7, s8⟩
           go_simp
           with_reducible rfl
          rotate_left
          ·simp only [Act.put, List.setIfInBounds_toArray, List.set_cons_zero, List.set_cons_succ, zas, zat]
           rfl
          refine zbl (i := 20) (N := some 45) (v := ?_) (a' := ?_) #[true, true, true, true, true, true, true, true, true, true, false, true, true, true, true, true, true, true, true, true, true, false, false] rfl rfl (za6 HT_.out HW_.out (by kernel_rfl)) (fun _ _ _ h => h) (Or.inl ⟨by rfl, ?_⟩) hHeld ?_ ?_
          rotate_left
          ·rintro w' ⟨s0, s1, s2, s3, s4, s5, s6, s7, s8⟩
           go_simp
           with_reducible rfl
          rotate_left
          ·simp only [Act.put, List.setIfInBounds_toArray, List.set_cons_zero, List.set_cons_succ, zas, zat]
           rfl
          refine one_ (i := 10) (N := some 35) #[true, true, true, true, true, true, true, true, true, true, true, true, true, true, true, true, true, true, true, true, true, false, false] rfl rfl (zbJ HT_.out (by kernel_rfl)) (by decide) (fun K hK => ?_)
          refine zch Tryd.func31 (by kernel_rfl) rfl #[.agg #[.int .i64 ((zaF t345 x8_2).f0), .int .i64 ((zaF t345 x8_2).f1), .slice A348_2 ((zaF t345 x8_2).f2).length c348_2], .int .i64 a1_0, .int .i64 a1_1, .int .i64 a1_2] (by rfl) rfl rfl (by (try simp only [List.map_toArray, List.map_cons, List.map_nil]); first | done | rfl | (simp only [List.length_drop, List.length_take]; rfl)) ?_
          with_reducible refine (zaY.calls k2 ((zaF t345 x8_2).f0) ((zaF t345 x8_2).f1) _ _ ((zaF t345 x8_2).f2) a1_0 a1_1 a1_2 t349 _ ?side1 ?side2 A16.out).mono ?_
          (case side1 => repeat (first | exact (by repeat (first | (with_reducible exact HR348_2.out) | (with_reducible refine Kd.zaT ?_ _) | (with_reducible refine Kd.zaU ?_ _) | (with_reducible refine Kd.za0 ?_) | exact HR348_2.out)) | (with_reducible refine Kd.zaT ?_ _) | (with_reducible refine Kd.zaU ?_ _) | (with_reducible refine Kd.za0 ?_)))
          (case side2 => exact HC348_2.out)
          rintro e w21 ⟨rfl, hb⟩
          have HS3_ := (hb.cell (World.block_lt_of_cell? _ _ (hHeld.2.2.2.1))).trans (hHeld.2.2.2.1)
          have HS4_ := (hb.cell (World.block_lt_of_cell? _ _ (hHeld.2.2.2.2.1))).trans (hHeld.2.2.2.2.1)
          have HS5_ := (hb.cell (World.block_lt_of_cell? _ _ (hHeld.2.2.2.2.2.1))).trans (hHeld.2.2.2.2.2.1)
          refine ⟨_, rfl, ?_⟩
          have n0_ := zaa.mk (Kd.zbW (by (with_reducible repeat (first | apply Kd.zbA | apply Kd.zbz | apply Kd.zby)); exact HO_7.out) hb)
          have n1_ := zaa.mk (Kd.zdC (by (with_reducible repeat (first | apply Kd.zbK | apply Kd.zbL | apply Kd.zbU)); exact HL348_2.out) hb)
          have n2_ := zaa.mk (zaP (g := gb342) (o := .cells #[.int .i64 a1_0, .int .i64 a1_1, .int .i64 a1_2] 43 (0, 0)) (by (with_reducible repeat (first | refine zah ?_ _ | refine zak ?_ | refine zaf ?_ _)); exact BK342.out) hb)
          have n3_ := zaa.mk (Kd.za7 (by repeat (first | (with_reducible exact HR348_2.out) | (with_reducible refine Kd.zaT ?_ _) | (with_reducible refine Kd.zaU ?_ _) | (with_reducible refine Kd.za0 ?_) | exact HR348_2.out)) hb)
          have n4_ := zaa.mk (zax (by repeat (first | (with_reducible first | exact HB.out | apply zac | apply zab | apply zad | refine zai ?_ GE342.out) | exact HB.out)) hb)
          clear HO_7
          clear HL348_2
          clear BK342
          clear HR348_2
          clear HB
          have HO_7 := n0_
          have HL348_2 := n1_
          have BK342 := n2_
          have HR348_2 := n3_
          have HB := n4_
          clear n0_ n1_ n2_ n3_ n4_
          (try clear hb)
          (try clear hb2)
          (try clear hk)
          (try clear hi)
          refine hK.out _ _ ⟨(zae BK342.out 0).trans rfl, (zae BK342.out 1).trans rfl, (zae BK342.out 2).trans rfl, HS3_, HS4_, HS5_, ((HB.out.cell (World.block_lt_of_cell? w _ hw350_0)).trans hw350_0), ((HB.out.cell (World.block_lt_of_cell? w _ hw350_1)).trans hw350_1), ((HB.out.cell (World.block_lt_of_cell? w _ hw350_2)).trans hw350_2)⟩ (fun hHeld => ?_)
          clear hK K
          refine zbZ (a' := ?_) ?_ ?_
          rotate_left
          ·show Act.put _ (some 35) _ = _
           simp only [Act.put, List.setIfInBounds_toArray, List.set_cons_zero, List.set_cons_succ, zas, zat]
           rfl
          refine one_ (i := 21) (N := some 46) #[true, true, true, true, true, true, true, true, true, true, true, true, true, true, true, true, true, true, true, true, true, true, false] rfl rfl (zbJ HT_.out (by kernel_rfl)) (by decide) (fun K hK => ?_)
          refine zch Tryd.func32 (by kernel_rfl) rfl #[.agg #[.int .i64 ((zaV l0 x8_2).f0), .int .i64 ((zaV l0 x8_2).f1), .slice A350_2 ((zaV l0 x8_2).f2).length c350_2], .int .i64 a1_0, .int .i64 a1_1, .int .i64 a1_2] (by rfl) rfl rfl (by (try simp only [List.map_toArray, List.map_cons, List.map_nil]); first | done | rfl | (simp only [List.length_drop, List.length_take]; rfl)) ?_
          with_reducible refine (zar.calls k2 ((zaV l0 x8_2).f0) ((zaV l0 x8_2).f1) _ _ ((zaV l0 x8_2).f2) a1_0 a1_1 a1_2 t351 _ ?side1 ?side2 A17.out).mono ?_
          (case side1 => repeat (first | exact (Kd.za7 HR350_2.out HB.out) | (with_reducible refine Kd.zaT ?_ _) | (with_reducible refine Kd.zaU ?_ _) | (with_reducible refine Kd.za0 ?_)))
          (case side2 => exact HC350_2.out)
          rintro e w22 ⟨rfl, hb⟩
          have HS3_ := (hb.cell (World.block_lt_of_cell? _ _ (hHeld.2.2.2.1))).trans (hHeld.2.2.2.1)
          have HS4_ := (hb.cell (World.block_lt_of_cell? _ _ (hHeld.2.2.2.2.1))).trans (hHeld.2.2.2.2.1)
          have HS5_ := (hb.cell (World.block_lt_of_cell? _ _ (hHeld.2.2.2.2.2.1))).trans (hHeld.2.2.2.2.2.1)
          refine ⟨_, rfl, ?_⟩
          have n0_ := zaa.mk (Kd.zbW (by (with_reducible repeat (first | apply Kd.zbA | apply Kd.zbz | apply Kd.zby)); exact HO_7.out) hb)
          have n1_ := zaa.mk (Kd.zdC (by (with_reducible repeat (first | apply Kd.zbK | apply Kd.zbL | apply Kd.zbU)); exact HL348_2.out) hb)
          have n2_ := zaa.mk (zaP (g := gb342) (o := .cells #[.int .i64 a1_0, .int .i64 a1_1, .int .i64 a1_2] 43 (0, 0)) (by (with_reducible repeat (first | refine zah ?_ _ | refine zak ?_ | refine zaf ?_ _)); exact BK342.out) hb)
          have n3_ := zaa.mk (Kd.za7 (by repeat (first | (with_reducible exact HR348_2.out) | (with_reducible refine Kd.zaT ?_ _) | (with_reducible refine Kd.zaU ?_ _) | (with_reducible refine Kd.za0 ?_) | exact HR348_2.out)) hb)
          have n4_ := zaa.mk (zax (by repeat (first | (with_reducible first | exact HB.out | apply zac | apply zab | apply zad | refine zai ?_ GE342.out) | exact HB.out)) hb)
          clear HO_7
          clear HL348_2
          clear BK342
          clear HR348_2
          clear HB
          have HO_7 := n0_
          have HL348_2 := n1_
          have BK342 := n2_
          have HR348_2 := n3_
          have HB := n4_
          clear n0_ n1_ n2_ n3_ n4_
          (try clear hb)
          (try clear hb2)
          (try clear hk)
          (try clear hi)
          refine hK.out _ _ ⟨(zae BK342.out 0).trans rfl, (zae BK342.out 1).trans rfl, (zae BK342.out 2).trans rfl, HS3_, HS4_, HS5_, ((HB.out.cell (World.block_lt_of_cell? w _ hw350_0)).trans hw350_0), ((HB.out.cell (World.block_lt_of_cell? w _ hw350_1)).trans hw350_1), ((HB.out.cell (World.block_lt_of_cell? w _ hw350_2)).trans hw350_2)⟩ (fun hHeld => ?_)
          clear hK K
          refine zbZ (a' := ?_) ?_ ?_
          rotate_left
          ·show Act.put _ (some 46) _ = _
           simp only [Act.put, List.setIfInBounds_toArray, List.set_cons_zero, List.set_cons_succ, zas, zat]
           rfl
          refine zaI (i := 22) (N := some 47) (v := ?_) (a' := ?_) #[true, true, true, true, true, true, true, true, true, true, true, true, true, true, true, true, true, true, true, true, true, true, true] rfl rfl (zaC HT_.out (by kernel_rfl)) (fun _ _ _ h => h) (Or.inl ⟨by rfl, ?_⟩) ?_ ?_
          rotate_left
          ·intro w'
           go_simp
           with_reducible rfl
          rotate_left
          ·simp only [Act.put, List.setIfInBounds_toArray, List.set_cons_zero, List.set_cons_succ, zas, zat]
           rfl
          refine zdj (zcQ HT_.out (by kernel_rfl)) ?_
          try go_wp2
          go_ret
          exact ⟨by first | rfl | (simp [zan, zam] <;> rfl) | (simp [*, zan, zam] <;> rfl), by repeat (first | (with_reducible first | exact HB.out | apply zac | apply zab | apply zad | refine zai ?_ GE342.out) | exact HB.out)⟩
         ·rw [if_neg c18] at H
          have c18b0 : (t349 != t351) = false := by simpa using c18
          (try (have c18b1 : decide (t349 = t351) = true := by simpa using c18))
          (try (have c18b2 : (t349 == t351) = true := by simpa using c18))
          clear c18
          have H' := zaa.mk H
          clear H
          try go_wp2
          have n0_ := zaa.mk (Kd.zby HO_7.out)
          have n1_ := zaa.mk (zak BK342.out)
          have n2_ := zaa.mk (zad HB.out)
          clear HO_7
          clear BK342
          clear HB
          have HO_7 := n0_
          have BK342 := n1_
          have HB := n2_
          clear n0_ n1_ n2_
          obtain ⟨Ao24, co24, eo24⟩ := Kd.zde HO_7.out
          (first | subst eo24 | (injection eo24 with f1_ f2_ f3_; have f4_ := f1_.symm; have f5_ := f3_.symm; clear f1_ f2_ f3_; subst f4_; subst f5_))
          have p348 : 0 ≤ (x8_2 : Int) := of_decide_eq_true (by first | (with_reducible assumption) | assumption)
          have q348 : x8_2 < (t345.length : Int) := of_decide_eq_true (by first | (with_reducible assumption) | assumption)
          obtain ⟨ad348, A348_2, c348_2, e348, hx348_0, hx348_1, hx348_2, hl348_2, hi348_2⟩ := zcY (Kd.zcm HO_7.out).2.2 x8_2 p348 q348
          cases e348
          obtain ⟨ce348, hce348, hMe348, hcc348⟩ := Kd.zhn HO_7.out z60 x8_2 p348 (by first | exact q348 | exact of_decide_eq_true (by first | (with_reducible assumption) | assumption) | (have e_ := (Kd.zcm HO_7.out).1; omega))
          obtain ⟨ua348_2, uc348_2, rfl, ul348_2, ge348_2⟩ := zfz hMe348
          have hv348_2 := hcc348 2 _ rfl
          rw [zbM _ _ 2 (by omega)] at hv348_2
          replace hv348_2 := Option.some.inj (hv348_2.symm.trans hx348_2)
          injection hv348_2 with hva_ hvn_ hvc_
          rw [hva_] at ge348_2
          rw [hvc_] at ul348_2
          have HL348_2 := zaa.mk (show Kd.V (Kd.int .u32) 101 _ w.heap.size _ _ ((zaF t345 x8_2).f2) from Kd.V_mk ul348_2 ge348_2)
          clear hva_ hvn_ hvc_ ge348_2 ul348_2
          clear hcc348 hce348
          have HR348_2 := zaa.mk hi348_2
          have HC348_2 := zaa.mk hl348_2
          clear hi348_2 hl348_2
          replace p348 := eq_true p348
          replace q348 := eq_true q348
          have p350 : 0 ≤ (x8_2 : Int) := of_decide_eq_true (by first | (with_reducible assumption) | assumption)
          have q350 : x8_2 < (l0.length : Int) := of_decide_eq_true (by first | (with_reducible assumption) | assumption)
          obtain ⟨ad350, A350_2, c350_2, e350, hx350_0, hx350_1, hx350_2, hl350_2, hi350_2⟩ := zcH HR0.out x8_2 p350 q350
          have hw350_2 := hx350_2
          have hw350_1 := hx350_1
          have hw350_0 := hx350_0
          cases e350
          replace hx350_0 := (HB.out.cell (World.block_lt_of_cell? w _ hx350_0)).trans hx350_0
          replace hx350_1 := (HB.out.cell (World.block_lt_of_cell? w _ hx350_1)).trans hx350_1
          replace hx350_2 := (HB.out.cell (World.block_lt_of_cell? w _ hx350_2)).trans hx350_2
          have HR350_2 := zaa.mk hi350_2
          have HC350_2 := zaa.mk hl350_2
          clear hi350_2 hl350_2
          replace p350 := eq_true p350
          replace q350 := eq_true q350
          refine zcZ (n := 23) (S := fun w' => w'.cell? ⟨gb342, 0, none⟩ = some (.int .i64 a1_0) ∧ w'.cell? ⟨gb342, 1, none⟩ = some (.int .i64 a1_1) ∧ w'.cell? ⟨gb342, 2, none⟩ = some (.int .i64 a1_2) ∧ w'.cell? (ad348.add ((x8_2).toNat * 3)) = some (.int .i64 ((zaF t345 x8_2).f0)) ∧ w'.cell? ⟨(ad348.add ((x8_2).toNat * 3)).block, (ad348.add ((x8_2).toNat * 3)).off + 1, none⟩ = some (.int .i64 ((zaF t345 x8_2).f1)) ∧ w'.cell? ⟨(ad348.add ((x8_2).toNat * 3)).block, (ad348.add ((x8_2).toNat * 3)).off + 2, none⟩ = some (.slice A348_2 ((zaF t345 x8_2).f2).length c348_2) ∧ w'.cell? (ad350.add ((x8_2).toNat * 3)) = some (.int .i64 ((zaV l0 x8_2).f0)) ∧ w'.cell? ⟨(ad350.add ((x8_2).toNat * 3)).block, (ad350.add ((x8_2).toNat * 3)).off + 1, none⟩ = some (.int .i64 ((zaV l0 x8_2).f1)) ∧ w'.cell? ⟨(ad350.add ((x8_2).toNat * 3)).block, (ad350.add ((x8_2).toNat * 3)).off + 2, none⟩ = some (.slice A350_2 ((zaV l0 x8_2).f2).length c350_2)) (ds := []) #[false, false, false, false, false, false, false, false, false, false, false, false, false, false, false, false, false, false, false, false, false, false, false] (by kernel_rfl) rfl rfl ⟨(zae BK342.out 0).trans rfl, (zae BK342.out 1).trans rfl, (zae BK342.out 2).trans rfl, hx348_0, hx348_1, hx348_2, ((HB.out.cell (World.block_lt_of_cell? w _ hw350_0)).trans hw350_0), ((HB.out.cell (World.block_lt_of_cell? w _ hw350_1)).trans hw350_1), ((HB.out.cell (World.block_lt_of_cell? w _ hw350_2)).trans hw350_2)⟩ (fun hHeld => ?_); refine zcr zal.tab7 zal.ziE (fun HT_ HW_ => ?_)
          generalize wr.drew = w23 at HO_7 BK342 HB HL348_2 HR348_2 HR350_2 hx348_0 hx348_1 hx348_2 hx350_0 hx350_1 hx350_2 hHeld ⊢
          refine zaI (i := 0) (N := some 25) (v := ?_) (a' := ?_) #[true, false, false, false, false, false, false, false, false, false, false, false, false, false, false, false, false, false, false, false, false, false, false] rfl rfl (zaC HT_.out (by kernel_rfl)) (fun _ _ _ h => h) (Or.inl ⟨by rfl, ?_⟩) ?_ ?_
          rotate_left
          ·intro w'
           go_simp
           with_reducible rfl
          rotate_left
          ·simp only [Act.put, List.setIfInBounds_toArray, List.set_cons_zero, List.set_cons_succ, zas, zat]
           rfl
          refine zaI (i := 1) (N := some 26) (v := ?_) (a' := ?_) #[true, true, false, false, false, false, false, false, false, false, false, false, false, false, false, false, false, false, false, false, false, false, false] rfl rfl (zaC HT_.out (by kernel_rfl)) (fun _ _ _ h => h) (Or.inl ⟨by rfl, ?_⟩) ?_ ?_
          rotate_left
          ·intro w'
           go_simp
           with_reducible rfl
          rotate_left
          ·simp only [Act.put, List.setIfInBounds_toArray, List.set_cons_zero, List.set_cons_succ, zas, zat]
           rfl
          refine zaI (i := 2) (N := some 27) (v := ?_) (a' := ?_) #[true, true, true, false, false, false, false, false, false, false, false, false, false, false, false, false, false, false, false, false, false, false, false] rfl rfl (zaC HT_.out (by kernel_rfl)) (fun _ _ _ h => h) (Or.inl ⟨by rfl, ?_⟩) ?_ ?_
          rotate_left
          ·intro w'
           go_simp
           with_reducible rfl
          rotate_left
          ·simp only [Act.put, List.setIfInBounds_toArray, List.set_cons_zero, List.set_cons_succ, zas, zat]
           rfl
          refine zaI (i := 4) (N := some 29) (v := ?_) (a' := ?_) #[true, true, true, false, true, false, false, false, false, false, false, false, false, false, false, false, false, false, false, false, false, false, false] rfl rfl (zaC HT_.out (by kernel_rfl)) (fun _ _ _ h => h) (Or.inl ⟨by rfl, ?_⟩) ?_ ?_
          rotate_left
          ·intro w'
           go_simp
           with_reducible rfl
          rotate_left
          ·simp only [Act.put, List.setIfInBounds_toArray, List.set_cons_zero, List.set_cons_succ, zas, zat]
           rfl
          refine zaI (i := 6) (N := some 31) (v := ?_) (a' := ?_) #[true, true, true, false, true, false, true, false, false, false, false, false, false, false, false, false, false, false, false, false, false, false, false] rfl rfl (zaC HT_.out (by kernel_rfl)) (fun _ _ _ h => h) (Or.inl ⟨by rfl, ?_⟩) ?_ ?_
          rotate_left
          ·intro w'
           go_simp
           with_reducible rfl
          rotate_left
          ·simp only [Act.put, List.setIfInBounds_toArray, List.set_cons_zero, List.set_cons_succ, zas, zat]
           rfl
          refine zaI (i := 8) (N := some 33) (v := ?_) (a' := ?_) #[true, true, true, false, true, false, true, false, true, false, false, false, false, false, false, false, false, false, false, false, false, false, false] rfl rfl (zaC HT_.out (by kernel_rfl)) (fun _ _ _ h => h) (Or.inl ⟨by rfl, ?_⟩) ?_ ?_
          rotate_left
          ·intro w'
           go_simp
           with_reducible rfl
          rotate_left
          ·simp only [Act.put, List.setIfInBounds_toArray, List.set_cons_zero, List.set_cons_succ, zas, zat]
           rfl
          refine zaI (i := 11) (N := some 36) (v := ?_) (a' := ?_) #[true, true, true, false, true, false, true, false, true, false, false, true, false, false, false, false, false, false, false, false, false, false, false] rfl rfl (zaC HT_.out (by kernel_rfl)) (fun _ _ _ h => h) (Or.inl ⟨by rfl, ?_⟩) ?_ ?_
          rotate_left
          ·intro w'
           go_simp
           with_reducible rfl
          rotate_left
          ·simp only [Act.put, List.setIfInBounds_toArray, List.set_cons_zero, List.set_cons_succ, zas, zat]
           rfl
          refine zaI (i := 12) (N := some 37) (v := ?_) (a' := ?_) #[true, true, true, false, true, false, true, false, true, false, false, true, true, false, false, false, false, false, false, false, false, false, false] rfl rfl (zaC HT_.out (by kernel_rfl)) (fun _ _ _ h => h) (Or.inl ⟨by rfl, ?_⟩) ?_ ?_
          rotate_left
          ·intro w'
           go_simp
           with_reducible rfl
          rotate_left
          ·simp only [Act.put, List.setIfInBounds_toArray, List.set_cons_zero, List.set_cons_succ, zas, zat]
           rfl
          refine zaI (i := 13) (N := some 38) (v := ?_) (a' := ?_) #[true, true, true, false, true, false, true, false, true, false, false, true, true, true, false, false, false, false, false, false, false, false, false] rfl rfl (zaC HT_.out (by kernel_rfl)) (fun _ _ _ h => h) (Or.inl ⟨by rfl, ?_⟩) ?_ ?_
          rotate_left
          ·intro w'
           go_simp
           with_reducible rfl
          rotate_left
          ·simp only [Act.put, List.setIfInBounds_toArray, List.set_cons_zero, List.set_cons_succ, zas, zat]
           rfl
          refine zaI (i := 15) (N := some 40) (v := ?_) (a' := ?_) #[true, true, true, false, true, false, true, false, true, false, false, true, true, true, false, true, false, false, false, false, false, false, false] rfl rfl (zaC HT_.out (by kernel_rfl)) (fun _ _ _ h => h) (Or.inl ⟨by rfl, ?_⟩) ?_ ?_
          rotate_left
          ·intro w'
           go_simp
           with_reducible rfl
          rotate_left
          ·simp only [Act.put, List.setIfInBounds_toArray, List.set_cons_zero, List.set_cons_succ, zas, zat]
           rfl
          refine zaI (i := 17) (N := some 42) (v := ?_) (a' := ?_) #[true, true, true, false, true, false, true, false, true, false, false, true, true, true, false, true, false, true, false, false, false, false, false] rfl rfl (zaC HT_.out (by kernel_rfl)) (fun _ _ _ h => h) (Or.inl ⟨by rfl, ?_⟩) ?_ ?_
          rotate_left
          ·intro w'
           go_simp
           with_reducible rfl
          rotate_left
          ·simp only [Act.put, List.setIfInBounds_toArray, List.set_cons_zero, List.set_cons_succ, zas, zat]
           rfl
          refine zaI (i := 19) (N := some 44) (v := ?_) (a' := ?_) #[true, true, true, false, true, false, true, false, true, false, false, true, true, true, false, true, false, true, false, true, false, false, false] rfl rfl (zaC HT_.out (by kernel_rfl)) (fun _ _ _ h => h) (Or.inl ⟨by rfl, ?_⟩) ?_ ?_
          rotate_left
          ·intro w'
           go_simp
           with_reducible rfl
          rotate_left
          ·simp only [Act.put, List.setIfInBounds_toArray, List.set_cons_zero, List.set_cons_succ, zas, zat]
           rfl
          refine zbl (i := 3) (N := some 28) (v := ?_) (a' := ?_) #[true, true, true, true, true, false, true, false, true, false, false, true, true, true, false, true, false, true, false, true, false, false, false] rfl rfl (za6 HT_.out HW_.out (by kernel_rfl)) (fun _ _ _ h => h) (Or.inl ⟨by rfl, ?_⟩) hHeld ?_ ?_
          rotate_left
          ·rintro w' ⟨s0, s1, s2, s3, s4, s5, s6, s7, s8⟩
           go_simp
           with_reducible rfl
          rotate_left
          ·simp only [Act.put, List.setIfInBounds_toArray, List.set_cons_zero, List.set_cons_succ, zas, zat]
           rfl
          refine zbl (i := 5) (N := some 30) (v := ?_) (a' := ?_) #[true, true, true, true, true, true, true, false, true, false, false, true, true, true, false, true, false, true, false, true, false, false, false] rfl rfl (za6 HT_.out HW_.out (by kernel_rfl)) (fun _ _ _ h => h) (Or.inl ⟨by rfl, ?_⟩) hHeld ?_ ?_
          rotate_left
          ·rintro w' ⟨s0, s1, s2, s3, s4, s5, s6, s7, s8⟩
           go_simp
           with_reducible rfl
          rotate_left
          ·simp only [Act.put, List.setIfInBounds_toArray, List.set_cons_zero, List.set_cons_succ, zas, zat]
           rfl
          refine zbl (i := 7) (N := some 32) (v := ?_) (a' := ?_) #[true, true, true, true, true, true, true, true, true, false, false, true, true, true, false, true, false, true, false, true, false, false, false] rfl rfl (za6 HT_.out HW_.out (by kernel_rfl)) (fun _ _ _ h => h) (Or.inl ⟨by rfl, ?_⟩) hHeld ?_ ?_
          rotate_left
          ·rintro w' ⟨s0, s1, s2, s3, s4, s5, s6, s7, s8⟩
           go_simp
           with_reducible rfl
          rotate_left
          ·simp only [Act.put, List.setIfInBounds_toArray, List.set_cons_zero, List.set_cons_succ, zas, zat]
           rfl
          refine zbl (i := 9) (N := some 34) (v := ?_) (a' := ?_) #[true, true, true, true, true, true, true, true, true, true, false, true, true, true, false, true, false, true, false, true, false, false, false] rfl rfl (za6 HT_.out HW_.out (by kernel_rfl)) (fun _ _ _ h => h) (Or.inl ⟨by rfl, ?_⟩) hHeld ?_ ?_
          rotate_left
          ·rintro w' ⟨s0, s1, s2, s3, s4, s5, s6, s7, s8⟩
           go_simp
           with_reducible rfl
          rotate_left
          ·simp only [Act.put, List.setIfInBounds_toArray, List.set_cons_zero, List.set_cons_succ, zas, zat]
           rfl
          refine zbl (i := 14) (N := some 39) (v := ?_) (a' := ?_) #[true, true, true, true, true, true, true, true, true, true, false, true, true, true, true, true, false, true, false, true, false, false, false] rfl rfl (za6 HT_.out HW_.out (by kernel_rfl)) (fun _ _ _ h => h) (Or.inl ⟨by rfl, ?_⟩) hHeld ?_ ?_
          rotate_left
          ·rintro w' ⟨s0, s1, s2, s3, s4, s5, s6, s7, s8⟩
           go_simp
           with_reducible rfl
          rotate_left
          ·simp only [Act.put, List.setIfInBounds_toArray, List.set_cons_zero, List.set_cons_succ, zas, zat]
           rfl
          refine zbl (i := 16) (N := some 41) (v := ?_) (a' := ?_) #[true, true, true, true, true, true, true, true, true, true, false, true, true, true, true, true, true, true, false, true, false, false, false] rfl rfl (za6 HT_.out HW_.out (by kernel_rfl)) (fun _ _ _ h => h) (Or.inl ⟨by rfl, ?_⟩) hHeld ?_ ?_
          rotate_left
          ·rintro w' ⟨s0, s1, s2, s3, s4, s5, s6, s7, s8⟩
           go_simp
           with_reducible rfl
          rotate_left
          ·simp only [Act.put, List.setIfInBounds_toArray, List.set_cons_zero, List.set_cons_succ, zas, zat]
           rfl
          refine zbl (i := 18) (N := some 43) (v := ?_) (a' := ?_) #[true, true, true, true, true, true, true, true, true, true, false, true, true, true, true, true, true, true, true, true, false, false, false] rfl rfl (za6 HT_.out HW_.out (by kernel_rfl)) (fun _ _ _ h => h) (Or.inl ⟨by rfl, ?_⟩) hHeld ?_ ?_
          rotate_left
          ·rintro w' ⟨s0, s1, s2, s3, s4, s5, s6, s7, s8⟩
           go_simp
           with_reducible rfl
          rotate_left
          ·simp only [Act.put, List.setIfInBounds_toArray, List.set_cons_zero, List.set_cons_succ, zas, zat]
           rfl
          refine zbl (i := 20) (N := some 45) (v := ?_) (a' := ?_) #[true, true, true, true, true, true, true, true, true, true, false, true, true, true, true, true, true, true, true, true, true, false, false] rfl rfl (za6 HT_.out HW_.out (by kernel_rfl)) (fun _ _ _ h => h) (Or.inl ⟨by rfl, ?_⟩) hHeld ?_ ?_
          rotate_left
          ·rintro w' ⟨s0, s1, s2, s3, s4, s5, s6, s7, s8⟩
           go_simp
           with_reducible rfl
          rotate_left
          ·simp only [Act.put, List.setIfInBounds_toArray, List.set_cons_zero, List.set_cons_succ, zas, zat]
           rfl
          refine one_ (i := 10) (N := some 35) #[true, true, true, true, true, true, true, true, true, true, true, true, true, true, true, true, true, true, true, true, true, false, false] rfl rfl (zbJ HT_.out (by kernel_rfl)) (by decide) (fun K hK => ?_)
          refine zch Tryd.func31 (by kernel_rfl) rfl #[.agg #[.int .i64 ((zaF t345 x8_2).f0), .int .i64 ((zaF t345 x8_2).f1), .slice A348_2 ((zaF t345 x8_2).f2).length c348_2], .int .i64 a1_0, .int .i64 a1_1, .int .i64 a1_2] (by rfl) rfl rfl (by (try simp only [List.map_toArray, List.map_cons, List.map_nil]); first | done | rfl | (simp only [List.length_drop, List.length_take]; rfl)) ?_
          with_reducible refine (zaY.calls k2 ((zaF t345 x8_2).f0) ((zaF t345 x8_2).f1) _ _ ((zaF t345 x8_2).f2) a1_0 a1_1 a1_2 t349 _ ?side1 ?side2 A16.out).mono ?_
          (case side1 => repeat (first | exact (by repeat (first | (with_reducible exact HR348_2.out) | (with_reducible refine Kd.zaT ?_ _) | (with_reducible refine Kd.zaU ?_ _) | (with_reducible refine Kd.za0 ?_) | exact HR348_2.out)) | (with_reducible refine Kd.zaT ?_ _) | (with_reducible refine Kd.zaU ?_ _) | (with_reducible refine Kd.za0 ?_)))
          (case side2 => exact HC348_2.out)
          rintro e w25 ⟨rfl, hb⟩
          have HS3_ := (hb.cell (World.block_lt_of_cell? _ _ (hHeld.2.2.2.1))).trans (hHeld.2.2.2.1)
          have HS4_ := (hb.cell (World.block_lt_of_cell? _ _ (hHeld.2.2.2.2.1))).trans (hHeld.2.2.2.2.1)
          have HS5_ := (hb.cell (World.block_lt_of_cell? _ _ (hHeld.2.2.2.2.2.1))).trans (hHeld.2.2.2.2.2.1)
          refine ⟨_, rfl, ?_⟩
          have n0_ := zaa.mk (Kd.zbW (by (with_reducible repeat (first | apply Kd.zbA | apply Kd.zbz | apply Kd.zby)); exact HO_7.out) hb)
          have n1_ := zaa.mk (Kd.zdC (by (with_reducible repeat (first | apply Kd.zbK | apply Kd.zbL | apply Kd.zbU)); exact HL348_2.out) hb)
          have n2_ := zaa.mk (zaP (g := gb342) (o := .cells #[.int .i64 a1_0, .int .i64 a1_1, .int .i64 a1_2] 43 (0, 0)) (by (with_reducible repeat (first | refine zah ?_ _ | refine zak ?_ | refine zaf ?_ _)); exact BK342.out) hb)
          have n3_ := zaa.mk (Kd.za7 (by repeat (first | (with_reducible exact HR348_2.out) | (with_reducible refine Kd.zaT ?_ _) | (with_reducible refine Kd.zaU ?_ _) | (with_reducible refine Kd.za0 ?_) | exact HR348_2.out)) hb)
          have n4_ := zaa.mk (zax (by repeat (first | (with_reducible first | exact HB.out | apply zac | apply zab | apply zad | refine zai ?_ GE342.out) | exact HB.out)) hb)
          clear HO_7
          clear HL348_2
          clear BK342
          clear HR348_2
          clear HB
          have HO_7 := n0_
          have HL348_2 := n1_
          have BK342 := n2_
          have HR348_2 := n3_
          have HB := n4_
          clear n0_ n1_ n2_ n3_ n4_
          (try clear hb)
          (try clear hb2)
          (try clear hk)
          (try clear hi)
          refine hK.out _ _ ⟨(zae BK342.out 0).trans rfl, (zae BK342.out 1).trans rfl, (zae BK342.out 2).trans rfl, HS3_, HS4_, HS5_, ((HB.out.cell (World.block_lt_of_cell? w _ hw350_0)).trans hw350_0), ((HB.out.cell (World.block_lt_of_cell? w _ hw350_1)).trans hw350_1), ((HB.out.cell (World.block_lt_of_cell? w _ hw350_2)).trans hw350_2)⟩ (fun hHeld => ?_)
          clear hK K
          refine zbZ (a' := ?_) ?_ ?_
          rotate_left
          ·show Act.put _ (some 35) _ = _
           simp only [Act.put, List.setIfInBounds_toArray, List.set_cons_zero, List.set_cons_succ, zas, zat]
           rfl
          refine one_ (i := 21) (N := some 46) #[true, true, true, true, true, true, true, true, true, true, true, true, true, true, true, true, true, true, true, true, true, true, false] rfl rfl (zbJ HT_.out (by kernel_rfl)) (by decide) (fun K hK => ?_)
          refine zch Tryd.func32 (by kernel_rfl) rfl #[.agg #[.int .i64 ((zaV l0 x8_2).f0), .int .i64 ((zaV l0 x8_2).f1), .slice A350_2 ((zaV l0 x8_2).f2).length c350_2], .int .i64 a1_0, .int .i64 a1_1, .int .i64 a1_2] (by rfl) rfl rfl (by (try simp only [List.map_toArray, List.map_cons, List.map_nil]); first | done | rfl | (simp only [List.length_drop, List.length_take]; rfl)) ?_
          with_reducible refine (zar.calls k2 ((zaV l0 x8_2).f0) ((zaV l0 x8_2).f1) _ _ ((zaV l0 x8_2).f2) a1_0 a1_1 a1_2 t351 _ ?side1 ?side2 A17.out).mono ?_
          (case side1 => repeat (first | exact (Kd.za7 HR350_2.out HB.out) | (with_reducible refine Kd.zaT ?_ _) | (with_reducible refine Kd.zaU ?_ _) | (with_reducible refine Kd.za0 ?_)))
          (case side2 => exact HC350_2.out)
          rintro e w26 ⟨rfl, hb⟩
          have HS3_ := (hb.cell (World.block_lt_of_cell? _ _ (hHeld.2.2.2.1))).trans (hHeld.2.2.2.1)
          have HS4_ := (hb.cell (World.block_lt_of_cell? _ _ (hHeld.2.2.2.2.1))).trans (hHeld.2.2.2.2.1)
          have HS5_ := (hb.cell (World.block_lt_of_cell? _ _ (hHeld.2.2.2.2.2.1))).trans (hHeld.2.2.2.2.2.1)
          refine ⟨_, rfl, ?_⟩
          have n0_ := zaa.mk (Kd.zbW (by (with_reducible repeat (first | apply Kd.zbA | apply Kd.zbz | apply Kd.zby)); exact HO_7.out) hb)
          have n1_ := zaa.mk (Kd.zdC (by (with_reducible repeat (first | apply Kd.zbK | apply Kd.zbL | apply Kd.zbU)); exact HL348_2.out) hb)
          have n2_ := zaa.mk (zaP (g := gb342) (o := .cells #[.int .i64 a1_0, .int .i64 a1_1, .int .i64 a1_2] 43 (0, 0)) (by (with_reducible repeat (first | refine zah ?_ _ | refine zak ?_ | refine zaf ?_ _)); exact BK342.out) hb)
          have n3_ := zaa.mk (Kd.za7 (by repeat (first | (with_reducible exact HR348_2.out) | (with_reducible refine Kd.zaT ?_ _) | (with_reducible refine Kd.zaU ?_ _) | (with_reducible refine Kd.za0 ?_) | exact HR348_2.out)) hb)
          have n4_ := zaa.mk (zax (by repeat (first | (with_reducible first | exact HB.out | apply zac | apply zab | apply zad | refine zai ?_ GE342.out) | exact HB.out)) hb)
          clear HO_7
          clear HL348_2
          clear BK342
          clear HR348_2
          clear HB
          have HO_7 := n0_
          have HL348_2 := n1_
          have BK342 := n2_
          have HR348_2 := n3_
          have HB := n4_
          clear n0_ n1_ n2_ n3_ n4_
          (try clear hb)
          (try clear hb2)
          (try clear hk)
          (try clear hi)
          refine hK.out _ _ ⟨(zae BK342.out 0).trans rfl, (zae BK342.out 1).trans rfl, (zae BK342.out 2).trans rfl, HS3_, HS4_, HS5_, ((HB.out.cell (World.block_lt_of_cell? w _ hw350_0)).trans hw350_0), ((HB.out.cell (World.block_lt_of_cell? w _ hw350_1)).trans hw350_1), ((HB.out.cell (World.block_lt_of_cell? w _ hw350_2)).trans hw350_2)⟩ (fun hHeld => ?_)
          clear hK K
          refine zbZ (a' := ?_) ?_ ?_
          rotate_left
          ·show Act.put _ (some 46) _ = _
           simp only [Act.put, List.setIfInBounds_toArray, List.set_cons_zero, List.set_cons_succ, zas, zat]
           rfl
          refine zaI (i := 22) (N := some 47) (v := ?_) (a' := ?_) #[true, true, true, true, true, true, true, true, true, true, true, true, true, true, true, true, true, true, true, true, true, true, true] rfl rfl (zaC HT_.out (by kernel_rfl)) (fun _ _ _ h => h) (Or.inl ⟨by rfl, ?_⟩) ?_ ?_
          rotate_left
          ·intro w'
           go_simp
           with_reducible rfl
          rotate_left
          ·simp only [Act.put, List.setIfInBounds_toArray, List.set_cons_zero, List.set_cons_succ, zas, zat]
           rfl
          refine zdj (zcQ HT_.out (by kernel_rfl)) ?_
          try go_wp2
          go_roundg k2
          case measure => have := HJ3.out; have := HK2.out; omega
          case rel => exact ⟨(wrap64 (x8_2 + 1)), (by first | rfl | (simp; done) | (simp [*]; done)), H', ⟨by have := HJ3.out; have := HK2.out; omega⟩, ⟨by (with_reducible repeat (first | apply Kd.zbA | apply Kd.zbz | apply Kd.zby)); exact HO_7.out⟩, ⟨by (with_reducible repeat (first | refine zah ?_ _ | refine zak ?_ | refine zaf ?_ _)); exact BK342.out⟩, ⟨by repeat (first | (with_reducible first | exact HB.out | apply zac | apply zab | apply zad | refine zai ?_ GE342.out) | exact HB.out)⟩⟩
        ·rw [if_neg c15] at H
         exact absurd H (by simp)
       ·rw [if_neg c14] at H
        exact absurd H (by simp)
      ·rw [if_neg c13] at H
       have c13b0 : decide (x8_2 < (l0.length : Int)) = false := decide_eq_false c13
       clear c13
       replace H := Option.bind_eq_some_iff.mp H
       obtain ⟨t352, A270, H⟩ := H
       replace H : ((zaB.f k2 l0 a1_0 a1_1 a1_2).bind fun t353 => (if t352 = t353 then ((zbD.f a2).bind fun t354 => ((zbo.f a2).bind fun t355 => (if (t354 == t355) = true then ((zbj.f).bind fun t356 => (some t356)) else (some false)))) else (some false))) = some r := H
       have A27 := zaa.mk A270
       clear A270
       replace H := Option.bind_eq_some_iff.mp H
       obtain ⟨t353, A280, H⟩ := H
       replace H : (if t352 = t353 then ((zbD.f a2).bind fun t354 => ((zbo.f a2).bind fun t355 => (if (t354 == t355) = true then ((zbj.f).bind fun t356 => (some t356)) else (some false)))) else (some false)) = some r := H
       have A28 := zaa.mk A280
       clear A280
       by_cases c29 : t352 = t353
       ·rw [if_pos c29] at H
        have c29b0 : (t352 == t353) = true := beq_iff_eq.mpr c29
        have c29b1 : (t352 != t353) = false := bne_eq_false_iff_eq.mpr c29
        clear c29
        replace H := Option.bind_eq_some_iff.mp H
        obtain ⟨t354, A300, H⟩ := H
        replace H : ((zbo.f a2).bind fun t355 => (if (t354 == t355) = true then ((zbj.f).bind fun t356 => (some t356)) else (some false))) = some r := H
        have A30 := zaa.mk A300
        clear A300
        replace H := Option.bind_eq_some_iff.mp H
        obtain ⟨t355, A310, H⟩ := H
        replace H : (if (t354 == t355) = true then ((zbj.f).bind fun t356 => (some t356)) else (some false)) = some r := H
        have A31 := zaa.mk A310
        clear A310
        by_cases c32 : (t354 == t355) = true
        ·rw [if_pos c32] at H
         have c32b0 : (t354 == t355) = true := c32
         (try (have c32b1 : decide (t354 = t355) = true := by simpa using c32))
         (try (have c32b2 : (t354 == t355) = true := by simpa using c32))
         clear c32
         replace H := Option.bind_eq_some_iff.mp H
         obtain ⟨t356, A330, H⟩ := H
         replace H : (some t356) = some r := H
         have A33 := zaa.mk A330
         clear A330
         obtain rfl := Option.some.inj H
         try go_wp2
         have n0_ := zaa.mk (Kd.zby HO_7.out)
         have n1_ := zaa.mk (zak BK342.out)
         have n2_ := zaa.mk (zad HB.out)
         clear HO_7
         clear BK342
         clear HB
         have HO_7 := n0_
         have BK342 := n1_
         have HB := n2_
         clear n0_ n1_ n2_
         obtain ⟨Ao35, co35, eo35⟩ := Kd.zde HO_7.out
         (first | subst eo35 | (injection eo35 with f1_ f2_ f3_; have f4_ := f1_.symm; have f5_ := f3_.symm; clear f1_ f2_ f3_; subst f4_; subst f5_))
         refine zcZ (n := 28) (S := fun w' => w'.cell? ⟨gb342, 0, none⟩ = some (.int .i64 a1_0) ∧ w'.cell? ⟨gb342, 1, none⟩ = some (.int .i64 a1_1) ∧ w'.cell? ⟨gb342, 2, none⟩ = some (.int .i64 a1_2)) (ds := []) #[false, false, false, false, false, false, false, false, false, false, false, false, false, false, false, false, false, false, false, false, false, false, false, false, false, false, false, false] (by kernel_rfl) rfl rfl ⟨(zae BK342.out 0).trans rfl, (zae BK342.out 1).trans rfl, (zae BK342.out 2).trans rfl⟩ (fun hHeld => ?_); refine zcr zal.tab9 zal.zhi (fun HT_ HW_ => ?_)
         generalize wr.drew = w34 at HO_7 BK342 HB hHeld ⊢
         refine zaI (i := 0) (N := some 48) (v := ?_) (a' := ?_) #[true, false, false, false, false, false, false, false, false, false, false, false, false, false, false, false, false, false, false, false, false, false, false, false, false, false, false, false] rfl rfl (zaC HT_.out (by kernel_rfl)) (fun _ _ _ h => h) (Or.inl ⟨by rfl, ?_⟩) ?_ ?_
         rotate_left
         ·intro w'
          go_simp
          with_reducible rfl
         rotate_left
         ·simp only [Act.put, List.setIfInBounds_toArray, List.set_cons_zero, List.set_cons_succ, zas, zat]
          rfl
         refine zaI (i := 1) (N := some 49) (v := ?_) (a' := ?_) #[true, true, false, false, false, false, false, false, false, false, false, false, false, false, false, false, false, false, false, false, false, false, false, false, false, false, false, false] rfl rfl (zaC HT_.out (by kernel_rfl)) (fun _ _ _ h => h) (Or.inl ⟨by rfl, ?_⟩) ?_ ?_
         rotate_left
         ·intro w'
          go_simp
          with_reducible rfl
         rotate_left
         ·simp only [Act.put, List.setIfInBounds_toArray, List.set_cons_zero, List.set_cons_succ, zas, zat]
          rfl
         refine zaI (i := 3) (N := some 51) (v := ?_) (a' := ?_) #[true, true, false, true, false, false, false, false, false, false, false, false, false, false, false, false, false, false, false, false, false, false, false, false, false, false, false, false] rfl rfl (zaC HT_.out (by kernel_rfl)) (fun _ _ _ h => h) (Or.inl ⟨by rfl, ?_⟩) ?_ ?_
         rotate_left
         ·intro w'
          go_simp
          with_reducible rfl
         rotate_left
         ·simp only [Act.put, List.setIfInBounds_toArray, List.set_cons_zero, List.set_cons_succ, zas, zat]
          rfl
         refine zaI (i := 5) (N := some 53) (v := ?_) (a' := ?_) #[true, true, false, true, false, true, false, false, false, false, false, false, false, false, false, false, false, false, false, false, false, false, false, false, false, false, false, false] rfl rfl (zaC HT_.out (by kernel_rfl)) (fun _ _ _ h => h) (Or.inl ⟨by rfl, ?_⟩) ?_ ?_
         rotate_left
         ·intro w'
          go_simp
          with_reducible rfl
         rotate_left
         ·simp only [Act.put, List.setIfInBounds_toArray, List.set_cons_zero, List.set_cons_succ, zas, zat]
          rfl
         refine zaI (i := 8) (N := some 56) (v := ?_) (a' := ?_) #[true, true, false, true, false, true, false, false, true, false, false, false, false, false, false, false, false, false, false, false, false, false, false, false, false, false, false, false] rfl rfl (zaC HT_.out (by kernel_rfl)) (fun _ _ _ h => h) (Or.inl ⟨by rfl, ?_⟩) ?_ ?_
         rotate_left
         ·intro w'
          go_simp
          with_reducible rfl
         rotate_left
         ·simp only [Act.put, List.setIfInBounds_toArray, List.set_cons_zero, List.set_cons_succ, zas, zat]
          rfl
         refine zaI (i := 9) (N := some 57) (v := ?_) (a' := ?_) #[true, true, false, true, false, true, false, false, true, true, false, false, false, false, false, false, false, false, false, false, false, false, false, false, false, false, false, false] rfl rfl (zaC HT_.out (by kernel_rfl)) (fun _ _ _ h => h) (Or.inl ⟨by rfl, ?_⟩) ?_ ?_
         rotate_left
         ·intro w'
          go_simp
          with_reducible rfl
         rotate_left
         ·simp only [Act.put, List.setIfInBounds_toArray, List.set_cons_zero, List.set_cons_succ, zas, zat]
          rfl
         refine zaI (i := 11) (N := some 59) (v := ?_) (a' := ?_) #[true, true, false, true, false, true, false, false, true, true, false, true, false, false, false, false, false, false, false, false, false, false, false, false, false, false, false, false] rfl rfl (zaC HT_.out (by kernel_rfl)) (fun _ _ _ h => h) (Or.inl ⟨by rfl, ?_⟩) ?_ ?_
         rotate_left
         ·intro w'
          go_simp
          with_reducible rfl
         rotate_left
         ·simp only [Act.put, List.setIfInBounds_toArray, List.set_cons_zero, List.set_cons_succ, zas, zat]
          rfl
         refine zaI (i := 13) (N := some 61) (v := ?_) (a' := ?_) #[true, true, false, true, false, true, false, false, true, true, false, true, false, true, false, false, false, false, false, false, false, false, false, false, false, false, false, false] rfl rfl (zaC HT_.out (by kernel_rfl)) (fun _ _ _ h => h) (Or.inl ⟨by rfl, ?_⟩) ?_ ?_
         rotate_left
         ·intro w'
          go_simp
          with_reducible rfl
         rotate_left
         ·simp only [Act.put, List.setIfInBounds_toArray, List.set_cons_zero, List.set_cons_succ, zas, zat]
          rfl
         refine zbl (i := 2) (N := some 50) (v := ?_) (a' := ?_) #[true, true, true, true, false, true, false, false, true, true, false, true, false, true, false, false, false, false, false, false, false, false, false, false, false, false, false, false] rfl rfl (za6 HT_.out HW_.out (by kernel_rfl)) (fun _ _ _ h => h) (Or.inl ⟨by rfl, ?_⟩) hHeld ?_ ?_
         rotate_left
         ·rintro w' ⟨s0, s1, s2⟩
          go_simp
          with_reducible rfl
         rotate_left
         ·simp only [Act.put, List.setIfInBounds_toArray, List.set_cons_zero, List.set_cons_succ, zas, zat]
          rfl
         refine zbl (i := 4) (N := some 52) (v := ?_) (a' := ?_) #[true, true, true, true, true, true, false, false, true, true, false, true, false, true, false, false, false, false, false, false, false, false, false, false, false, false, false, false] rfl rfl (za6 HT_.out HW_.out (by kernel_rfl)) (fun _ _ _ h => h) (Or.inl ⟨by rfl, ?_⟩) hHeld ?_ ?_
         rotate_left
         ·rintro w' ⟨s0, s1, s2⟩
          go_simp
          with_reducible rfl
         rotate_left
         ·simp only [Act.put, List.setIfInBounds_toArray, List.set_cons_zero, List.set_cons_succ, zas, zat]
          rfl
         refine zbl (i := 6) (N := some 54) (v := ?_) (a' := ?_) #[true, true, true, true, true, true, true, false, true, true, false, true, false, true, false, false, false, false, false, false, false, false, false, false, false, false, false, false] rfl rfl (za6 HT_.out HW_.out (by kernel_rfl)) (fun _ _ _ h => h) (Or.inl ⟨by rfl, ?_⟩) hHeld ?_ ?_
         rotate_left
         ·rintro w' ⟨s0, s1, s2⟩
          go_simp
          with_reducible rfl
         rotate_left
         ·simp only [Act.put, List.setIfInBounds_toArray, List.set_cons_zero, List.set_cons_succ, zas, zat]
          rfl
         refine zbl (i := 10) (N := some 58) (v := ?_) (a' := ?_) #[true, true, true, true, true, true, true, false, true, true, true, true, false, true, false, false, false, false, false, false, false, false, false, false, false, false, false, false] rfl rfl (za6 HT_.out HW_.out (by kernel_rfl)) (fun _ _ _ h => h) (Or.inl ⟨by rfl, ?_⟩) hHeld ?_ ?_
         rotate_left
         ·rintro w' ⟨s0, s1, s2⟩
          go_simp
          with_reducible rfl
         rotate_left
         ·simp only [Act.put, List.setIfInBounds_toArray, List.set_cons_zero, List.set_cons_succ, zas, zat]
          rfl
         refine zbl (i := 12) (N := some 60) (v := ?_) (a' := ?_) #[true, true, true, true, true, true, true, false, true, true, true, true, true, true, false, false, false, false, false, false, false, false, false, false, false, false, false, false] rfl rfl (za6 HT_.out HW_.out (by kernel_rfl)) (fun _ _ _ h => h) (Or.inl ⟨by rfl, ?_⟩) hHeld ?_ ?_
         rotate_left
         ·rintro w' ⟨s0, s1, s2⟩
          go_simp
          with_reducible rfl
         rotate_left
         ·simp only [Act.put, List.setIfInBounds_toArray, List.set_cons_zero, List.set_cons_succ, zas, zat]
          rfl
         refine zbl (i := 14) (N := some 62) (v := ?_) (a' := ?_) #[true, true, true, true, true, true, true, false, true, true, true, true, true, true, true, false, false, false, false, false, false, false, false, false, false, false, false, false] rfl rfl (za6 HT_.out HW_.out (by kernel_rfl)) (fun _ _ _ h => h) (Or.inl ⟨by rfl, ?_⟩) hHeld ?_ ?_
         rotate_left
         ·rintro w' ⟨s0, s1, s2⟩
          go_simp
          with_reducible rfl
         rotate_left
         ·simp only [Act.put, List.setIfInBounds_toArray, List.set_cons_zero, List.set_cons_succ, zas, zat]
          rfl
         refine one_ (i := 7) (N := some 55) #[true, true, true, true, true, true, true, true, true, true, true, true, true, true, true, false, false, false, false, false, false, false, false, false, false, false, false, false] rfl rfl (zbJ HT_.out (by kernel_rfl)) (by decide) (fun K hK => ?_)
         refine zch Tryd.func33 (by kernel_rfl) rfl #[.slice Ao35 t345.length co35, .int .i64 a1_0, .int .i64 a1_1, .int .i64 a1_2] (by rfl) rfl rfl (by (try simp only [List.map_toArray, List.map_cons, List.map_nil]); first | done | rfl | (simp only [List.length_drop, List.length_take]; rfl)) ?_
         with_reducible refine (zaS.calls k2 _ _ t345 a1_0 a1_1 a1_2 t352 _ ?side1 ?side2 A27.out).mono ?_
         (case side1 => repeat (first | exact (Kd.zcm HO_7.out).2.2 | (with_reducible refine Kd.zaT ?_ _) | (with_reducible refine Kd.zaU ?_ _) | (with_reducible refine Kd.za0 ?_)))
         (case side2 => exact (Kd.zcm HO_7.out).2.1)
         rintro e w36 ⟨rfl, hb⟩
         refine ⟨_, rfl, ?_⟩
         have n0_ := zaa.mk (Kd.zbW (by (with_reducible repeat (first | apply Kd.zbA | apply Kd.zbz | apply Kd.zby)); exact HO_7.out) hb)
         have n1_ := zaa.mk (zaP (g := gb342) (o := .cells #[.int .i64 a1_0, .int .i64 a1_1, .int .i64 a1_2] 43 (0, 0)) (by (with_reducible repeat (first | refine zah ?_ _ | refine zak ?_ | refine zaf ?_ _)); exact BK342.out) hb)
         have n2_ := zaa.mk (zax (by repeat (first | (with_reducible first | exact HB.out | apply zac | apply zab | apply zad | refine zai ?_ GE342.out) | exact HB.out)) hb)
         clear HO_7
         clear BK342
         clear HB
         have HO_7 := n0_
         have BK342 := n1_
         have HB := n2_
         clear n0_ n1_ n2_
         (try clear hb)
         (try clear hb2)
         (try clear hk)
         (try clear hi)
         refine hK.out _ _ ⟨(zae BK342.out 0).trans rfl, (zae BK342.out 1).trans rfl, (zae BK342.out 2).trans rfl⟩ (fun hHeld => ?_)
         clear hK K
         refine zbZ (a' := ?_) ?_ ?_
         rotate_left
         ·show Act.put _ (some 55) _ = _
          simp only [Act.put, List.setIfInBounds_toArray, List.set_cons_zero, List.set_cons_succ, zas, zat]
          rfl
         refine one_ (i := 15) (N := some 63) #[true, true, true, true, true, true, true, true, true, true, true, true, true, true, true, true, false, false, false, false, false, false, false, false, false, false, false, false] rfl rfl (zbJ HT_.out (by kernel_rfl)) (by decide) (fun K hK => ?_)
         refine zch Tryd.func34 (by kernel_rfl) rfl #[.slice A0 l0.length c0, .int .i64 a1_0, .int .i64 a1_1, .int .i64 a1_2] (by rfl) rfl rfl (by (try simp only [List.map_toArray, List.map_cons, List.map_nil]); first | done | rfl | (simp only [List.length_drop, List.length_take]; rfl)) ?_
         with_reducible refine (zaB.calls k2 _ _ l0 a1_0 a1_1 a1_2 t353 _ ?side1 ?side2 A28.out).mono ?_
         (case side1 => repeat (first | exact (Kd.za7 HR0.out HB.out) | (with_reducible refine Kd.zaT ?_ _) | (with_reducible refine Kd.zaU ?_ _) | (with_reducible refine Kd.za0 ?_)))
         (case side2 => exact HC0.out)
         rintro e w37 ⟨rfl, hb⟩
         refine ⟨_, rfl, ?_⟩
         have n0_ := zaa.mk (Kd.zbW (by (with_reducible repeat (first | apply Kd.zbA | apply Kd.zbz | apply Kd.zby)); exact HO_7.out) hb)
         have n1_ := zaa.mk (zaP (g := gb342) (o := .cells #[.int .i64 a1_0, .int .i64 a1_1, .int .i64 a1_2] 43 (0, 0)) (by (with_reducible repeat (first | refine zah ?_ _ | refine zak ?_ | refine zaf ?_ _)); exact BK342.out) hb)
         have n2_ := zaa.mk (zax (by repeat (first | (with_reducible first | exact HB.out | apply zac | apply zab | apply zad | refine zai ?_ GE342.out) | exact HB.out)) hb)
         clear HO_7
         clear BK342
         clear HB
         have HO_7 := n0_
         have BK342 := n1_
         have HB := n2_
         clear n0_ n1_ n2_
         (try clear hb)
         (try clear hb2)
         (try clear hk)
         (try clear hi)
         refine hK.out _ _ ⟨(zae BK342.out 0).trans rfl, (zae BK342.out 1).trans rfl, (zae BK342.out 2).trans rfl⟩ (fun hHeld => ?_)
         clear hK K
         refine zbZ (a' := ?_) ?_ ?_
         rotate_left
         ·show Act.put _ (some 63) _ = _
          simp only [Act.put, List.setIfInBounds_toArray, List.set_cons_zero, List.set_cons_succ, zas, zat]
          rfl
         refine zaI (i := 16) (N := some 64) (v := ?_) (a' := ?_) #[true, true, true, true, true, true, true, true, true, true, true, true, true, true, true, true, true, false, false, false, false, false, false, false, false, false, false, false] rfl rfl (zaC HT_.out (by kernel_rfl)) (fun _ _ _ h => h) (Or.inl ⟨by rfl, ?_⟩) ?_ ?_
         rotate_left
         ·intro w'
          go_simp
          with_reducible rfl
         rotate_left
         ·simp only [Act.put, List.setIfInBounds_toArray, List.set_cons_zero, List.set_cons_succ, zas, zat]
          rfl
         refine zaI (i := 17) (N := some 65) (v := ?_) (a' := ?_) #[true, true, true, true, true, true, true, true, true, true, true, true, true, true, true, true, true, true, false, false, false, false, false, false, false, false, false, false] rfl rfl (zaC HT_.out (by kernel_rfl)) (fun _ _ _ h => h) (Or.inl ⟨by rfl, ?_⟩) ?_ ?_
         rotate_left
         ·intro w'
          go_simp
          with_reducible rfl
         rotate_left
         ·simp only [Act.put, List.setIfInBounds_toArray, List.set_cons_zero, List.set_cons_succ, zas, zat]
          rfl
         refine zaI (i := 18) (N := some 66) (v := ?_) (a' := ?_) #[true, true, true, true, true, true, true, true, true, true, true, true, true, true, true, true, true, true, true, false, false, false, false, false, false, false, false, false] rfl rfl (zaC HT_.out (by kernel_rfl)) (fun _ _ _ h => h) (Or.inl ⟨by rfl, ?_⟩) ?_ ?_
         rotate_left
         ·intro w'
          go_simp
          with_reducible rfl
         rotate_left
         ·simp only [Act.put, List.setIfInBounds_toArray, List.set_cons_zero, List.set_cons_succ, zas, zat]
          rfl
         refine zaI (i := 20) (N := some 68) (v := ?_) (a' := ?_) #[true, true, true, true, true, true, true, true, true, true, true, true, true, true, true, true, true, true, true, false, true, false, false, false, false, false, false, false] rfl rfl (zaC HT_.out (by kernel_rfl)) (fun _ _ _ h => h) (Or.inl ⟨by rfl, ?_⟩) ?_ ?_
         rotate_left
         ·intro w'
          go_simp
          with_reducible rfl
         rotate_left
         ·simp only [Act.put, List.setIfInBounds_toArray, List.set_cons_zero, List.set_cons_succ, zas, zat]
          rfl
         refine one_ (i := 19) (N := some 67) #[true, true, true, true, true, true, true, true, true, true, true, true, true, true, true, true, true, true, true, true, true, false, false, false, false, false, false, false] rfl rfl (zbJ HT_.out (by kernel_rfl)) (by decide) (fun K hK => ?_)
         refine zch Tryd.func35 (by kernel_rfl) rfl #[.string a2] (by rfl) rfl rfl (by (try simp only [List.map_toArray, List.map_cons, List.map_nil]); first | done | rfl | (simp only [List.length_drop, List.length_take]; rfl)) ?_
         with_reducible refine (zbD.calls a2 t354 _ A30.out).mono ?_
         rintro e w38 ⟨rfl, hb⟩
         refine ⟨_, rfl, ?_⟩
         have n0_ := zaa.mk (Kd.zbW (by (with_reducible repeat (first | apply Kd.zbA | apply Kd.zbz | apply Kd.zby)); exact HO_7.out) hb)
         have n1_ := zaa.mk (zaP (g := gb342) (o := .cells #[.int .i64 a1_0, .int .i64 a1_1, .int .i64 a1_2] 43 (0, 0)) (by (with_reducible repeat (first | refine zah ?_ _ | refine zak ?_ | refine zaf ?_ _)); exact BK342.out) hb)
         have n2_ := zaa.mk (zax (by repeat (first | (with_reducible first | exact HB.out | apply zac | apply zab | apply zad | refine zai ?_ GE342.out) | exact HB.out)) hb)
         clear HO_7
         clear BK342
         clear HB
         have HO_7 := n0_
         have BK342 := n1_
         have HB := n2_
         clear n0_ n1_ n2_
         (try clear hb)
         (try clear hb2)
         (try clear hk)
         (try clear hi)
         refine hK.out _ _ ⟨(zae BK342.out 0).trans rfl, (zae BK342.out 1).trans rfl, (zae BK342.out 2).trans rfl⟩ (fun hHeld => ?_)
         clear hK K
         refine zbZ (a' := ?_) ?_ ?_
         rotate_left
         ·show Act.put _ (some 67) _ = _
          simp only [Act.put, List.setIfInBounds_toArray, List.set_cons_zero, List.set_cons_succ, zas, zat]
          rfl
         refine one_ (i := 21) (N := some 69) #[true, true, true, true, true, true, true, true, true, true, true, true, true, true, true, true, true, true, true, true, true, true, false, false, false, false, false, false] rfl rfl (zbJ HT_.out (by kernel_rfl)) (by decide) (fun K hK => ?_)
         refine zch Tryd.func36 (by kernel_rfl) rfl #[.string a2] (by rfl) rfl rfl (by (try simp only [List.map_toArray, List.map_cons, List.map_nil]); first | done | rfl | (simp only [List.length_drop, List.length_take]; rfl)) ?_
         with_reducible refine (zbo.calls a2 t355 _ A31.out).mono ?_
         rintro e w39 ⟨rfl, hb⟩
         refine ⟨_, rfl, ?_⟩
         have n0_ := zaa.mk (Kd.zbW (by (with_reducible repeat (first | apply Kd.zbA | apply Kd.zbz | apply Kd.zby)); exact HO_7.out) hb)
         have n1_ := zaa.mk (zaP (g := gb342) (o := .cells #[.int .i64 a1_0, .int .i64 a1_1, .int .i64 a1_2] 43 (0, 0)) (by (with_reducible repeat (first | refine zah ?_ _ | refine zak ?_ | refine zaf ?_ _)); exact BK342.out) hb)
         have n2_ := zaa.mk (zax (by repeat (first | (with_reducible first | exact HB.out | apply zac | apply zab | apply zad | refine zai ?_ GE342.out) | exact HB.out)) hb)
         clear HO_7
         clear BK342
         clear HB
         have HO_7 := n0_
         have BK342 := n1_
         have HB := n2_
         clear n0_ n1_ n2_
         (try clear hb)
         (try clear hb2)
         (try clear hk)
         (try clear hi)
         refine hK.out _ _ ⟨(zae BK342.out 0).trans rfl, (zae BK342.out 1).trans rfl, (zae BK342.out 2).trans rfl⟩ (fun hHeld => ?_)
         clear hK K
         refine zbZ (a' := ?_) ?_ ?_
         rotate_left
         ·show Act.put _ (some 69) _ = _
          simp only [Act.put, List.setIfInBounds_toArray, List.set_cons_zero, List.set_cons_succ, zas, zat]
          rfl
         refine zaI (i := 22) (N := some 70) (v := ?_) (a' := ?_) #[true, true, true, true, true, true, true, true, true, true, true, true, true, true, true, true, true, true, true, true, true, true, true, false, false, false, false, false] rfl rfl (zaC HT_.out (by kernel_rfl)) (fun _ _ _ h => h) (Or.inl ⟨by rfl, ?_⟩) ?_ ?_
         rotate_left
         ·intro w'
          go_simp
          with_reducible rfl
         rotate_left
         ·simp only [Act.put, List.setIfInBounds_toArray, List.set_cons_zero, List.set_cons_succ, zas, zat]
          rfl
         refine zaI (i := 23) (N := some 71) (v := ?_) (a' := ?_) #[true, true, true, true, true, true, true, true, true, true, true, true, true, true, true, true, true, true, true, true, true, true, true, true, false, false, false, false] rfl rfl (zaC HT_.out (by kernel_rfl)) (fun _ _ _ h => h) (Or.inl ⟨by rfl, ?_⟩) ?_ ?_
         rotate_left
         ·intro w'
          go_simp
          with_reducible rfl
         rotate_left
         ·simp only [Act.put, List.setIfInBounds_toArray, List.set_cons_zero, List.set_cons_succ, zas, zat]
          rfl
         refine zaI (i := 24) (N := some 72) (v := ?_) (a' := ?_) #[true, true, true, true, true, true, true, true, true, true, true, true, true, true, true, true, true, true, true, true, true, true, true, true, true, false, false, false] rfl rfl (zaC HT_.out (by kernel_rfl)) (fun _ _ _ h => h) (Or.inl ⟨by rfl, ?_⟩) ?_ ?_
         rotate_left
         ·intro w'
          go_simp
          with_reducible rfl
         rotate_left
         ·simp only [Act.put, List.setIfInBounds_toArray, List.set_cons_zero, List.set_cons_succ, zas, zat]
          rfl
         refine one_ (i := 25) (N := some 73) #[true, true, true, true, true, true, true, true, true, true, true, true, true, true, true, true, true, true, true, true, true, true, true, true, true, true, false, false] rfl rfl (zbJ HT_.out (by kernel_rfl)) (by decide) (fun K hK => ?_)
         refine zch Tryd.func24 (by kernel_rfl) rfl #[] (by rfl) rfl rfl (by (try simp only [List.map_toArray, List.map_cons, List.map_nil]); first | done | rfl | (simp only [List.length_drop, List.length_take]; rfl)) ?_
         with_reducible refine (zbj.calls  t356 _ A33.out).mono ?_
         rintro e w40 ⟨rfl, hb⟩
         refine ⟨_, rfl, ?_⟩
         have n0_ := zaa.mk (Kd.zbW (by (with_reducible repeat (first | apply Kd.zbA | apply Kd.zbz | apply Kd.zby)); exact HO_7.out) hb)
         have n1_ := zaa.mk (zaP (g := gb342) (o := .cells #[.int .i64 a1_0, .int .i64 a1_1, .int .i64 a1_2] 43 (0, 0)) (by (with_reducible repeat (first | refine zah ?_ _ | refine zak ?_ | refine zaf ?_ _)); exact BK342.out) hb)
         have n2_ := zaa.mk (zax (by repeat (first | (with_reducible first | exact HB.out | apply zac | apply zab | apply zad | refine zai ?_ GE342.out) | exact HB.out)) hb)
         clear HO_7
         clear BK342
         clear HB
         have HO_7 := n0_
         have BK342 := n1_
         have HB := n2_
         clear n0_ n1_ n2_
         (try clear hb)
         (try clear hb2)
         (try clear hk)
         (try clear hi)
         refine hK.out _ _ ⟨(zae BK342.out 0).trans rfl, (zae BK342.out 1).trans rfl, (zae BK342.out 2).trans rfl⟩ (fun hHeld => ?_)
         clear hK K
         refine zbZ (a' := ?_) ?_ ?_
         rotate_left
         ·show Act.put _ (some 73) _ = _
          simp only [Act.put, List.setIfInBounds_toArray, List.set_cons_zero, List.set_cons_succ, zas, zat]
          rfl
         refine zaI (i := 26) (N := some 74) (v := ?_) (a' := ?_) #[true, true, true, true, true, true, true, true, true, true, true, true, true, true, true, true, true, true, true, true, true, true, true, true, true, true, true, false] rfl rfl (zaC HT_.out (by kernel_rfl)) (fun _ _ _ h => h) (Or.inl ⟨by rfl, ?_⟩) ?_ ?_
         rotate_left
         ·intro w'
          go_simp
          with_reducible rfl
         rotate_left
         ·simp only [Act.put, List.setIfInBounds_toArray, List.set_cons_zero, List.set_cons_succ, zas, zat]
          rfl
         refine zaI (i := 27) (N := some 6) (v := ?_) (a' := ?_) #[true, true, true, true, true, true, true, true, true, true, true, true, true, true, true, true, true, true, true, true, true, true, true, true, true, true, true, true] rfl rfl (zaC HT_.out (by kernel_rfl)) (fun _ _ _ h => h) (Or.inl ⟨by rfl, ?_⟩) ?_ ?_
         rotate_left
         ·intro w'
          go_simp
          with_reducible rfl
         rotate_left
         ·simp only [Act.put, List.setIfInBounds_toArray, List.set_cons_zero, List.set_cons_succ, zas, zat]
          rfl
         refine zdj (zcQ HT_.out (by kernel_rfl)) ?_
         try go_wp2
         go_ret
         exact ⟨by first | rfl | (simp [zan, zam] <;> rfl) | (simp [*, zan, zam] <;> rfl), by repeat (first | (with_reducible first | exact HB.out | apply zac | apply zab | apply zad | refine zai ?_ GE342.out) | exact HB.out)⟩
        ·rw [if_neg c32] at H
         have c32b0 : (t354 == t355) = false := by simpa using c32
         (try (have c32b1 : decide (t354 = t355) = false := by simpa using c32))
         (try (have c32b2 : (t354 == t355) = false := by simpa using c32))
         (try (have c32b3 : ¬ (t354 = t355) := by simpa using c32))
         clear c32
         obtain rfl := Option.some.inj H
         try go_wp2
         have n0_ := zaa.mk (Kd.zby HO_7.out)
         have n1_ := zaa.mk (zak BK342.out)
         have n2_ := zaa.mk (zad HB.out)
         clear HO_7
         clear BK342
         clear HB
         have HO_7 := n0_
         have BK342 := n1_
         have HB := n2_
         clear n0_ n1_ n2_
         obtain ⟨Ao42, co42, eo42⟩ := Kd.zde HO_7.out
         (first | subst eo42 | (injection eo42 with f1_ f2_ f3_; have f4_ := f1_.symm; have f5_ := f3_.symm; clear f1_ f2_ f3_; subst f4_; subst f5_))
         refine zcZ (n := 28) (S := fun w' => w'.cell? ⟨gb342, 0, none⟩ = some (.int .i64 a1_0) ∧ w'.cell? ⟨gb342, 1, none⟩ = some (.int .i64 a1_1) ∧ w'.cell? ⟨gb342, 2, none⟩ = some (.int .i64 a1_2)) (ds := []) #[false, false, false, false, false, false, false, false, false, false, false, false, false, false, false, false, false, false, false, false, false, false, false, false, false, false, false, false] (by kernel_rfl) rfl rfl ⟨(zae BK342.out 0).trans rfl, (zae BK342.out 1).trans rfl, (zae BK342.out 2).trans rfl⟩ (fun hHeld => ?_); refine zcr zal.tab9 zal.zhi (fun HT_ HW_ => ?_)
         generalize wr.drew = w41 at HO_7 BK342 HB hHeld ⊢
         refine zaI (i := 0) (N := some 48) (v := ?_) (a' := ?_) #[true, false, false, false, false, false, false, false, false, false, false, false, false, false, false, false, false, false, false, false, false, false, false, false, false, false, false, false] rfl rfl (zaC HT_.out (by kernel_rfl)) (fun _ _ _ h => h) (Or.inl ⟨by rfl, ?_⟩) ?_ ?_
         rotate_left
         ·intro w'
          go_simp
          with_reducible rfl
         rotate_left
         ·simp only [Act.put, List.setIfInBounds_toArray, List.set_cons_zero, List.set_cons_succ, zas, zat]
          rfl
         refine zaI (i := 1) (N := some 49) (v := ?_) (a' := ?_) #[true, true, false, false, false, false, false, false, false, false, false, false, false, false, false, false, false, false, false, false, false, false, false, false, false, false, false, false] rfl rfl (zaC HT_.out (by kernel_rfl)) (fun _ _ _ h => h) (Or.inl ⟨by rfl, ?_⟩) ?_ ?_
         rotate_left
         ·intro w'
          go_simp
          with_reducible rfl
         rotate_left
         ·simp only [Act.put, List.setIfInBounds_toArray, List.set_cons_zero, List.set_cons_succ, zas, zat]
          rfl
         refine zaI (i := 3) (N := some 51) (v := ?_) (a' := ?_) #[true, true, false, true, false, false, false, false, false, false, false, false, false, false, false, false, false, false, false, false, false, false, false, false, false, false, false, false] rfl rfl (zaC HT_.out (by kernel_rfl)) (fun _ _ _ h => h) (Or.inl ⟨by rfl, ?_⟩) ?_ ?_
         rotate_left
         ·intro w'
          go_simp
          with_reducible rfl
         rotate_left
         ·simp only [Act.put, List.setIfInBounds_toArray, List.set_cons_zero, List.set_cons_succ, zas, zat]
          rfl
         refine zaI (i := 5) (N := some 53) (v := ?_) (a' := ?_) #[true, true, false, true, false, true, false, false, false, false, false, false, false, false, false, false, false, false, false, false, false, false, false, false, false, false, false, false] rfl rfl (zaC HT_.out (by kernel_rfl)) (fun _ _ _ h => h) (Or.inl ⟨by rfl, ?_⟩) ?_ ?_
         rotate_left
         ·intro w'
          go_simp
          with_reducible rfl
         rotate_left
         ·simp only [Act.put, List.setIfInBounds_toArray, List.set_cons_zero, List.set_cons_succ, zas, zat]
          rfl
         refine zaI (i := 8) (N := some 56) (v := ?_) (a' := ?_) #[true, true, false, true, false, true, false, false, true, false, false, false, false, false, false, false, false, false, false, false, false, false, false, false, false, false, false, false] rfl rfl (zaC HT_.out (by kernel_rfl)) (fun _ _ _ h => h) (Or.inl ⟨by rfl, ?_⟩) ?_ ?_
         rotate_left
         ·intro w'
          go_simp
          with_reducible rfl
         rotate_left
         ·simp only [Act.put, List.setIfInBounds_toArray, List.set_cons_zero, List.set_cons_succ, zas, zat]
          rfl
         refine zaI (i := 9) (N := some 57) (v := ?_) (a' := ?_) #[true, true, false, true, false, true, false, false, true, true, false, false, false, false, false, false, false, false, false, false, false, false, false, false, false, false, false, false] rfl rfl (zaC HT_.out (by kernel_rfl)) (fun _ _ _ h => h) (Or.inl ⟨by rfl, ?_⟩) ?_ ?_
         rotate_left
         ·intro w'
          go_simp
          with_reducible rfl
         rotate_left
         ·simp only [Act.put, List.setIfInBounds_toArray, List.set_cons_zero, List.set_cons_succ, zas, zat]
          rfl
         refine zaI (i := 11) (N := some 59) (v := ?_) (a' := ?_) #[true, true, false, true, false, true, false, false, true, true, false, true, false, false, false, false, false, false, false, false, false, false, false, false, false, false, false, false] rfl rfl (zaC HT_.out (by kernel_rfl)) (fun _ _ _ h => h) (Or.inl ⟨by rfl, ?_⟩) ?_ ?_
         rotate_left
         ·intro w'
          go_simp
          with_reducible rfl
         rotate_left
         ·simp only [Act.put, List.setIfInBounds_toArray, List.set_cons_zero, List.set_cons_succ, zas, zat]
          rfl
         refine zaI (i := 13) (N := some 61) (v := ?_) (a' := ?_) #[true, true, false, true, false, true, false, false, true, true, false, true, false, true, false, false, false, false, false, false, false, false, false, false, false, false, false, false] rfl rfl (zaC HT_.out (by kernel_rfl)) (fun _ _ _ h => h) (Or.inl ⟨by rfl, ?_⟩) ?_ ?_
         rotate_left
         ·intro w'
          go_simp
          with_reducible rfl
         rotate_left
         ·simp only [Act.put, List.setIfInBounds_toArray, List.set_cons_zero, List.set_cons_succ, zas, zat]
          rfl
         refine zbl (i := 2) (N := some 50) (v := ?_) (a' := ?_) #[true, true, true, true, false, true, false, false, true, true, false, true, false, true, false, false, false, false, false, false, false, false, false, false, false, false, false, false] rfl rfl (za6 HT_.out HW_.out (by kernel_rfl)) (fun _ _ _ h => h) (Or.inl ⟨by rfl, ?_⟩) hHeld ?_ ?_
         rotate_left
         ·rintro w' ⟨s0, s1, s2⟩
          go_simp
          with_reducible rfl
         rotate_left
         ·simp only [Act.put, List.setIfInBounds_toArray, List.set_cons_zero, List.set_cons_succ, zas, zat]
          rfl
         refine zbl (i := 4) (N := some 52) (v := ?_) (a' := ?_) #[true, true, true, true, true, true, false, false, true, true, false, true, false, true, false, false, false, false, false, false, false, false, false, false, false, false, false, false] rfl rfl (za6 HT_.out HW_.out (by kernel_rfl)) (fun _ _ _ h => h) (Or.inl ⟨by rfl, ?_⟩) hHeld ?_ ?_
         rotate_left
         ·rintro w' ⟨s0, s1, s2⟩
          go_simp
          with_reducible rfl
         rotate_left
         ·simp only [Act.put, List.setIfInBounds_toArray, List.set_cons_zero, List.set_cons_succ, zas, zat]
          rfl
         refine zbl (i := 6) (N := some 54) (v := ?_) (a' := ?_) #[true, true, true, true, true, true, true, false, true, true, false, true, false, true, false, false, false, false, false, false, false, false, false, false, false, false, false, false] rfl rfl (za6 HT_.out HW_.out (by kernel_rfl)) (fun _ _ _ h => h) (Or.inl ⟨by rfl, ?_⟩) hHeld ?_ ?_
         rotate_left
         ·rintro w' ⟨s0, s1, s2⟩
          go_simp
          with_reducible rfl
         rotate_left
         ·simp only [Act.put, List.setIfInBounds_toArray, List.set_cons_zero, List.set_cons_succ, zas, zat]
          rfl
         refine zbl (i := 10) (N := some 58) (v := ?_) (a' := ?_) #[true, true, true, true, true, true, true, false, true, true, true, true, false, true, false, false, false, false, false, false, false, false, false, false, false, false, false, false] rfl rfl (za6 HT_.out HW_.out (by kernel_rfl)) (fun _ _ _ h => h) (Or.inl ⟨by rfl, ?_⟩) hHeld ?_ ?_
         rotate_left
         ·rintro w' ⟨s0, s1, s2⟩
          go_simp
          with_reducible rfl
         rotate_left
         ·simp only [Act.put, List.setIfInBounds_toArray, List.set_cons_zero, List.set_cons_succ, zas, zat]
          rfl
         refine zbl (i := 12) (N := some 60) (v := ?_) (a' := ?_) #[true, true, true, true, true, true, true, false, true, true, true, true, true, true, false, false, false, false, false, false, false, false, false, false, false, false, false, false] rfl rfl (za6 HT_.out HW_.out (by kernel_rfl)) (fun _ _ _ h => h) (Or.inl ⟨by rfl, ?_⟩) hHeld ?_ ?_
         rotate_left
         ·rintro w' ⟨s0, s1, s2⟩
          go_simp
          with_reducible rfl
         rotate_left
         ·simp only [Act.put, List.setIfInBounds_toArray, List.set_cons_zero, List.set_cons_succ, zas, zat]
          rfl
         refine zbl (i := 14) (N := some 62) (v := ?_) (a' := ?_) #[true, true, true, true, true, true, true, false, true, true, true, true, true, true, true, false, false, false, false, false, false, false, false, false, false, false, false, false] rfl rfl (za6 HT_.out HW_.out (by kernel_rfl)) (fun _ _ _ h => h) (Or.inl ⟨by rfl, ?_⟩) hHeld ?_ ?_
         rotate_left
         ·rintro w' ⟨s0, s1, s2⟩
          go_simp
          with_reducible rfl
         rotate_left
         ·simp only [Act.put, List.setIfInBounds_toArray, List.set_cons_zero, List.set_cons_succ, zas, zat]
          rfl
         refine one_ (i := 7) (N := some 55) #[true, true, true, true, true, true, true, true, true, true, true, true, true, true, true, false, false, false, false, false, false, false, false, false, false, false, false, false] rfl rfl (zbJ HT_.out (by kernel_rfl)) (by decide) (fun K hK => ?_)
         refine zch Tryd.func33 (by kernel_rfl) rfl #[.slice Ao42 t345.length co42, .int .i64 a1_0, .int .i64 a1_1, .int .i64 a1_2] (by rfl) rfl rfl (by (try simp only [List.map_toArray, List.map_cons, List.map_nil]); first | done | rfl | (simp only [List.length_drop, List.length_take]; rfl)) ?_
         with_reducible refine (zaS.calls k2 _ _ t345 a1_0 a1_1 a1_2 t352 _ ?side1 ?side2 A27.out).mono ?_
         (case side1 => repeat (first | exact (Kd.zcm HO_7.out).2.2 | (with_reducible refine Kd.zaT ?_ _) | (with_reducible refine Kd.zaU ?_ _) | (with_reducible refine Kd.za0 ?_)))
         (case side2 => exact (Kd.zcm HO_7.out).2.1)
         rintro e w43 ⟨rfl, hb⟩
         refine ⟨_, rfl, ?_⟩
         have n0_ := zaa.mk (Kd.zbW (by (with_reducible repeat (first | apply Kd.zbA | apply Kd.zbz | apply Kd.zby)); exact HO_7.out) hb)
         have n1_ := zaa.mk (zaP (g := gb342) (o := .cells #[.int .i64 a1_0, .int .i64 a1_1, .int .i64 a1_2] 43 (0, 0)) (by (with_reducible repeat (first | refine zah ?_ _ | refine zak ?_ | refine zaf ?_ _)); exact BK342.out) hb)
         have n2_ := zaa.mk (zax (by repeat (first | (with_reducible first | exact HB.out | apply zac | apply zab | apply zad | refine zai ?_ GE342.out) | exact HB.out)) hb)
         clear HO_7
         clear BK342
         clear HB
         have HO_7 := n0_
         have BK342 := n1_
         have HB := n2_
         clear n0_ n1_ n2_
         (try clear hb)
         (try clear hb2)
         (try clear hk)
         (try clear hi)
         refine hK.out _ _ ⟨(zae BK342.out 0).trans rfl, (zae BK342.out 1).trans rfl, (zae BK342.out 2).trans rfl⟩ (fun hHeld => ?_)
         clear hK K
         refine zbZ (a' := ?_) ?_ ?_
         rotate_left
         ·show Act.put _ (some 55) _ = _
          simp only [Act.put, List.setIfInBounds_toArray, List.set_cons_zero, List.set_cons_succ, zas, zat]
          rfl
         refine one_ (i := 15) (N := some 63) #[true, true, true, true, true, true, true, true, true, true, true, true, true, true, true, true, false, false, false, false, false, false, false, false, false, false, false, false] rfl rfl (zbJ HT_.out (by kernel_rfl)) (by decide) (fun K hK => ?_)
         refine zch Tryd.func34 (by kernel_rfl) rfl #[.slice A0 l0.length c0, .int .i64 a1_0, .int .i64 a1_1, .int .i64 a1_2] (by rfl) rfl rfl (by (try simp only [List.map_toArray, List.map_cons, List.map_nil]); first | done | rfl | (simp only [List.length_drop, List.length_take]; rfl)) ?_
         with_reducible refine (zaB.calls k2 _ _ l0 a1_0 a1_1 a1_2 t353 _ ?side1 ?side2 A28.out).mono ?_
         (case side1 => repeat (first | exact (Kd.za7 HR0.out HB.out) | (with_reducible refine Kd.zaT ?_ _) | (with_reducible refine Kd.zaU ?_ _) | (with_reducible refine Kd.za0 ?_)))
         (case side2 => exact HC0.out)
         rintro e w44 ⟨rfl, hb⟩
         refine ⟨_, rfl, ?_⟩
         have n0_ := zaa.mk (Kd.zbW (by (with_reducible repeat (first | apply Kd.zbA | apply Kd.zbz | apply Kd.zby)); exact HO_7.out) hb)
         have n1_ := zaa.mk (zaP (g := gb342) (o := .cells #[.int .i64 a1_0, .int .i64 a1_1, .int .i64 a1_2] 43 (0, 0)) (by (with_reducible repeat (first | refine zah ?_ _ | refine zak ?_ | refine zaf ?_ _)); exact BK342.out) hb)
         have n2_ := zaa.mk (zax (by repeat (first | (with_reducible first | exact HB.out | apply zac | apply zab | apply zad | refine zai ?_ GE342.out) | exact HB.out)) hb)
         clear HO_7
         clear BK342
         clear HB
         have HO_7 := n0_
         have BK342 := n1_
         have HB := n2_
         clear n0_ n1_ n2_
         (try clear hb)
         (try clear hb2)
         (try clear hk)
         (try clear hi)
         refine hK.out _ _ ⟨(zae BK342.out 0).trans rfl, (zae BK342.out 1).trans rfl, (zae BK342.out 2).trans rfl⟩ (fun hHeld => ?_)
         clear hK K
         refine zbZ (a' := ?_) ?_ ?_
         rotate_left
         ·show Act.put _ (some 63) _ = _
          simp only [Act.put, List.setIfInBounds_toArray, List.set_cons_zero, List.set_cons_succ, zas, zat]
          rfl
         refine zaI (i := 16) (N := some 64) (v := ?_) (a' := ?_) #[true, true, true, true, true, true, true, true, true, true, true, true, true, true, true, true, true, false, false, false, false, false, false, false, false, false, false, false] rfl rfl (zaC HT_.out (by kernel_rfl)) (fun _ _ _ h => h) (Or.inl ⟨by rfl, ?_⟩) ?_ ?_
         rotate_left
         ·intro w'
          go_simp
          with_reducible rfl
         rotate_left
         ·simp only [Act.put, List.setIfInBounds_toArray, List.set_cons_zero, List.set_cons_succ, zas, zat]
          rfl
         refine zaI (i := 17) (N := some 65) (v := ?_) (a' := ?_) #[true, true, true, true, true, true, true, true, true, true, true, true, true, true, true, true, true, true, false, false, false, false, false, false, false, false, false, false] rfl rfl (zaC HT_.out (by kernel_rfl)) (fun _ _ _ h => h) (Or.inl ⟨by rfl, ?_⟩) ?_ ?_
         rotate_left
         ·intro w'
          go_simp
          with_reducible rfl
         rotate_left
         ·simp only [Act.put, List.setIfInBounds_toArray, List.set_cons_zero, List.set_cons_succ, zas, zat]
          rfl
         refine zaI (i := 18) (N := some 66) (v := ?_) (a' := ?_) #[true, true, true, true, true, true, true, true, true, true, true, true, true, true, true, true, true, true, true, false, false, false, false, false, false, false, false, false] rfl rfl (zaC HT_.out (by kernel_rfl)) (fun _ _ _ h => h) (Or.inl ⟨by rfl, ?_⟩) ?_ ?_
         rotate_left
         ·intro w'
          go_simp
          with_reducible rfl
         rotate_left
         ·simp only [Act.put, List.setIfInBounds_toArray, List.set_cons_zero, List.set_cons_succ, zas, zat]
          rfl
         refine zaI (i := 20) (N := some 68) (v := ?_) (a' := ?_) #[true, true, true, true, true, true, true, true, true, true, true, true, true, true, true, true, true, true, true, false, true, false, false, false, false, false, false, false] rfl rfl (zaC HT_.out (by kernel_rfl)) (fun _ _ _ h => h) (Or.inl ⟨by rfl, ?_⟩) ?_ ?_
         rotate_left
         ·intro w'
          go_simp
          with_reducible rfl
         rotate_left
         ·simp only [Act.put, List.setIfInBounds_toArray, List.set_cons_zero, List.set_cons_succ, zas, zat]
          rfl
         refine one_ (i := 19) (N := some 67) #[true, true, true, true, true, true, true, true, true, true, true, true, true, true, true, true, true, true, true, true, true, false, false, false, false, false, false, false] rfl rfl (zbJ HT_.out (by kernel_rfl)) (by decide) (fun K hK => ?_)
         refine zch Tryd.func35 (by kernel_rfl) rfl #[.string a2] (by rfl) rfl rfl (by (try simp only [List.map_toArray, List.map_cons, List.map_nil]); first | done | rfl | (simp only [List.length_drop, List.length_take]; rfl)) ?_
         with_reducible refine (zbD.calls a2 t354 _ A30.out).mono ?_
         rintro e w45 ⟨rfl, hb⟩
         refine ⟨_, rfl, ?_⟩
         have n0_ := zaa.mk (Kd.zbW (by (with_reducible repeat (first | apply Kd.zbA | apply Kd.zbz | apply Kd.zby)); exact HO_7.out) hb)
         have n1_ := zaa.mk (zaP (g := gb342) (o := .cells #[.int .i64 a1_0, .int .i64 a1_1, .int .i64 a1_2] 43 (0, 0)) (by (with_reducible repeat (first | refine zah ?_ _ | refine zak ?_ | refine zaf ?_ _)); exact BK342.out) hb)
         have n2_ := zaa.mk (zax (by repeat (first | (with_reducible first | exact HB.out | apply zac | apply zab | apply zad | refine zai ?_ GE342.out) | exact HB.out)) hb)
         clear HO_7
         clear BK342
         clear HB
         have HO_7 := n0_
         have BK342 := n1_
         have HB := n2_
         clear n0_ n1_ n2_
         (try clear hb)
         (try clear hb2)
         (try clear hk)
         (try clear hi)
         refine hK.out _ _ ⟨(zae BK342.out 0).trans rfl, (zae BK342.out 1).trans rfl, (zae BK342.out 2).trans rfl⟩ (fun hHeld => ?_)
         clear hK K
         refine zbZ (a' := ?_) ?_ ?_
         rotate_left
         ·show Act.put _ (some 67) _ = _
          simp only [Act.put, List.setIfInBounds_toArray, List.set_cons_zero, List.set_cons_succ, zas, zat]
          rfl
         refine one_ (i := 21) (N := some 69) #[true, true, true, true, true, true, true, true, true, true, true, true, true, true, true, true, true, true, true, true, true, true, false, false, false, false, false, false] rfl rfl (zbJ HT_.out (by kernel_rfl)) (by decide) (fun K hK => ?_)
         refine zch Tryd.func36 (by kernel_rfl) rfl #[.string a2] (by rfl) rfl rfl (by (try simp only [List.map_toArray, List.map_cons, List.map_nil]); first | done | rfl | (simp only [List.length_drop, List.length_take]; rfl)) ?_
         with_reducible refine (zbo.calls a2 t355 _ A31.out).mono ?_
         rintro e w46 ⟨rfl, hb⟩
         refine ⟨_, rfl, ?_⟩
         have n0_ := zaa.mk (Kd.zbW (by (with_reducible repeat (first | apply Kd.zbA | apply Kd.zbz | apply Kd.zby)); exact HO_7.out) hb)
         have n1_ := zaa.mk (zaP (g := gb342) (o := .cells #[.int .i64 a1_0, .int .i64 a1_1, .int .i64 a1_2] 43 (0, 0)) (by (with_reducible repeat (first | refine zah ?_ _ | refine zak ?_ | refine zaf ?_ _)); exact BK342.out) hb)
         have n2_ := zaa.mk (zax (by repeat (first | (with_reducible first | exact HB.out | apply zac | apply zab | apply zad | refine zai ?_ GE342.out) | exact HB.out)) hb)
         clear HO_7
         clear BK342
         clear HB
         have HO_7 := n0_
         have BK342 := n1_
         have HB := n2_
         clear n0_ n1_ n2_
         (try clear hb)
         (try clear hb2)
         (try clear hk)
         (try clear hi)
         refine hK.out _ _ ⟨(zae BK342.out 0).trans rfl, (zae BK342.out 1).trans rfl, (zae BK342.out 2).trans rfl⟩ (fun hHeld => ?_)
         clear hK K
         refine zbZ (a' := ?_) ?_ ?_
         rotate_left
         ·show Act.put _ (some 69) _ = _
          simp only [Act.put, List.setIfInBounds_toArray, List.set_cons_zero, List.set_cons_succ, zas, zat]
          rfl
         refine zaI (i := 22) (N := some 70) (v := ?_) (a' := ?_) #[true, true, true, true, true, true, true, true, true, true, true, true, true, true, true, true, true, true, true, true, true, true, true, false, false, false, false, false] rfl rfl (zaC HT_.out (by kernel_rfl)) (fun _ _ _ h => h) (Or.inl ⟨by rfl, ?_⟩) ?_ ?_
         rotate_left
         ·intro w'
          go_simp
          with_reducible rfl
         rotate_left
         ·simp only [Act.put, List.setIfInBounds_toArray, List.set_cons_zero, List.set_cons_succ, zas, zat]
          rfl
         refine zaI (i := 23) (N := some 71) (v := ?_) (a' := ?_) #[true, true, true, true, true, true, true, true, true, true, true, true, true, true, true, true, true, true, true, true, true, true, true, true, false, false, false, false] rfl rfl (zaC HT_.out (by kernel_rfl)) (fun _ _ _ h => h) (Or.inl ⟨by rfl, ?_⟩) ?_ ?_
         rotate_left
         ·intro w'
          go_simp
          with_reducible rfl
         rotate_left
         ·simp only [Act.put, List.setIfInBounds_toArray, List.set_cons_zero, List.set_cons_succ, zas, zat]
          rfl
         refine zaI (i := 24) (N := some 72) (v := ?_) (a' := ?_) #[true, true, true, true, true, true, true, true, true, true, true, true, true, true, true, true, true, true, true, true, true, true, true, true, true, false, false, false] rfl rfl (zaC HT_.out (by kernel_rfl)) (fun _ _ _ h => h) (Or.inl ⟨by rfl, ?_⟩) ?_ ?_
         rotate_left
         ·intro w'
          go_simp
          with_reducible rfl
         rotate_left
         ·simp only [Act.put, List.setIfInBounds_toArray, List.set_cons_zero, List.set_cons_succ, zas, zat]
          rfl
         refine zaI (i := 25) (N := some 73) (v := undef) (a' := ?_) #[true, true, true, true, true, true, true, true, true, true, true, true, true, true, true, true, true, true, true, true, true, true, true, true, true, true, false, false] rfl rfl (zaC HT_.out (by kernel_rfl)) (fun _ _ _ h => h) (Or.inr ⟨by rfl, rfl⟩) ?_ ?_
         rotate_left
         ·simp only [Act.put, List.setIfInBounds_toArray, List.set_cons_zero, List.set_cons_succ, zas, zat]
          rfl
         refine zaI (i := 26) (N := some 74) (v := ?_) (a' := ?_) #[true, true, true, true, true, true, true, true, true, true, true, true, true, true, true, true, true, true, true, true, true, true, true, true, true, true, true, false] rfl rfl (zaC HT_.out (by kernel_rfl)) (fun _ _ _ h => h) (Or.inl ⟨by rfl, ?_⟩) ?_ ?_
         rotate_left
         ·intro w'
          go_simp
          with_reducible rfl
         rotate_left
         ·simp only [Act.put, List.setIfInBounds_toArray, List.set_cons_zero, List.set_cons_succ, zas, zat]
          rfl
         refine zaI (i := 27) (N := some 6) (v := ?_) (a' := ?_) #[true, true, true, true, true, true, true, true, true, true, true, true, true, true, true, true, true, true, true, true, true, true, true, true, true, true, true, true] rfl rfl (zaC HT_.out (by kernel_rfl)) (fun _ _ _ h => h) (Or.inl ⟨by rfl, ?_⟩) ?_ ?_
         rotate_left
         ·intro w'
          go_simp
          with_reducible rfl
         rotate_left
         ·simp only [Act.put, List.setIfInBounds_toArray, List.set_cons_zero, List.set_cons_succ, zas, zat]
          rfl
         refine zdj (zcQ HT_.out (by kernel_rfl)) ?_
         try go_wp2
         go_ret
         exact ⟨by first | rfl | (simp [zan, zam] <;> rfl) | (simp [*, zan, zam] <;> rfl), by repeat (first | (with_reducible first | exact HB.out | apply zac | apply zab | apply zad | refine zai ?_ GE342.out) | exact HB.out)⟩
       ·rw [if_neg c29] at H
        have c29b0 : (t352 == t353) = false := beq_eq_false_iff_ne.mpr c29
        have c29b1 : (t352 != t353) = true := bne_iff_ne.mpr c29
        obtain rfl := Option.some.inj H
        try go_wp2
        have n0_ := zaa.mk (Kd.zby HO_7.out)
        have n1_ := zaa.mk (zak BK342.out)
        have n2_ := zaa.mk (zad HB.out)
        clear HO_7
        clear BK342
        clear HB
        have HO_7 := n0_
        have BK342 := n1_
        have HB := n2_
        clear n0_ n1_ n2_
        obtain ⟨Ao48, co48, eo48⟩ := Kd.zde HO_7.out
        (first | subst eo48 | (injection eo48 with f1_ f2_ f3_; have f4_ := f1_.symm; have f5_ := f3_.symm; clear f1_ f2_ f3_; subst f4_; subst f5_))
        refine zcZ (n := 28) (S := fun w' => w'.cell? ⟨gb342, 0, none⟩ = some (.int .i64 a1_0) ∧ w'.cell? ⟨gb342, 1, none⟩ = some (.int .i64 a1_1) ∧ w'.cell? ⟨gb342, 2, none⟩ = some (.int .i64 a1_2)) (ds := []) #[false, false, false, false, false, false, false, false, false, false, false, false, false, false, false, false, false, false, false, false, false, false, false, false, false, false, false, false] (by kernel_rfl) rfl rfl ⟨(zae BK342.out 0).trans rfl, (zae BK342.out 1).trans rfl, (zae BK342.out 2).trans rfl⟩ (fun hHeld => ?_); refine zcr zal.tab9 zal.zhi (fun HT_ HW_ => ?_)
        generalize wr.drew = w47 at HO_7 BK342 HB hHeld ⊢
        refine zaI (i := 0) (N := some 48) (v := ?_) (a' := ?_) #[true, false, false, false, false, false, false, false, false, false, false, false, false, false, false, false, false, false, false, false, false, false, false, false, false, false, false, false] rfl rfl (zaC HT_.out (by kernel_rfl)) (fun _ _ _ h => h) (Or.inl ⟨by rfl, ?_⟩) ?_ ?_
        rotate_left
        ·intro w'
         go_simp
         with_reducible rfl
        rotate_left
        ·simp only [Act.put, List.setIfInBounds_toArray, List.set_cons_zero, List.set_cons_succ, zas, zat]
         rfl
        refine zaI (i := 1) (N := some 49) (v := ?_) (a' := ?_) #[true, true, false, false, false, false, false, false, false, false, false, false, false, false, false, false, false, false, false, false, false, false, false, false, false, false, false, false] rfl rfl (zaC HT_.out (by kernel_rfl)) (fun _ _ _ h => h) (Or.inl ⟨by rfl, ?_⟩) ?_ ?_
        rotate_left
        ·intro w'
         go_simp
         with_reducible rfl
        rotate_left
        ·simp only [Act.put, List.setIfInBounds_toArray, List.set_cons_zero, List.set_cons_succ, zas, zat]
         rfl
        refine zaI (i := 3) (N := some 51) (v := ?_) (a' := ?_) #[true, true, false, true, false, false, false, false, false, false, false, false, false, false, false, false, false, false, false, false, false, false, false, false, false, false, false, false] rfl rfl (zaC HT_.out (by kernel_rfl)) (fun _ _ _ h => h) (Or.inl ⟨by rfl, ?_⟩) ?_ ?_
        rotate_left
        ·intro w'
         go_simp
         with_reducible rfl
        rotate_left
        ·simp only [Act.put, List.setIfInBounds_toArray, List.set_cons_zero, List.set_cons_succ, zas, zat]
         rfl
        refine zaI (i := 5) (N := some 53) (v := ?_) (a' := ?_) #[true, true, false, true, false, true, false, false, false, false, false, false, false, false, false, false, false, false, false, false, false, false, false, false, false, false, false, false] rfl rfl (zaC HT_.out (by kernel_rfl)) (fun _ _ _ h => h) (Or.inl ⟨by rfl, ?_⟩) ?_ ?_
        rotate_left
        ·intro w'
         go_simp
         with_reducible rfl
        rotate_left
        ·simp only [Act.put, List.setIfInBounds_toArray, List.set_cons_zero, List.set_cons_succ, zas, zat]
         rfl
        refine zaI (i := 8) (N := some 56) (v := ?_) (a' := ?_) #[true, true, false, true, false, true, false, false, true, false, false, false, false, false, false, false, false, false, false, false, false, false, false, false, false, false, false, false] rfl rfl (zaC HT_.out (by kernel_rfl)) (fun _ _ _ h => h) (Or.inl ⟨by rfl, ?_⟩) ?_ ?_
        rotate_left
        ·intro w'
         go_simp
         with_reducible rfl
        rotate_left
        ·simp only [Act.put, List.setIfInBounds_toArray, List.set_cons_zero, List.set_cons_succ, zas, zat]
         rfl
        refine zaI (i := 9) (N := some 57) (v := ?_) (a' := ?_) #[true, true, false, true, false, true, false, false, true, true, false, false, false, false, false, false, false, false, false, false, false, false, false, false, false, false, false, false] rfl rfl (zaC HT_.out (by kernel_rfl)) (fun _ _ _ h => h) (Or.inl ⟨by rfl, ?_⟩) ?_ ?_
        rotate_left
        ·intro w'
         go_simp
         with_reducible rfl
        rotate_left
        ·simp only [Act.put, List.setIfInBounds_toArray, List.set_cons_zero, List.set_cons_succ, zas, zat]
         rfl
        refine zaI (i := 11) (N := some 59) (v := ?_) (a' := ?_) #[true, true, false, true, false, true, false, false, true, true, false, true, false, false, false, false, false, false, false, false, false, false, false, false, false, false, false, false] rfl rfl (zaC HT_.out (by kernel_rfl)) (fun _ _ _ h => h) (Or.inl ⟨by rfl, ?_⟩) ?_ ?_
        rotate_left
        ·intro w'
         go_simp
         with_reducible rfl
        rotate_left
        ·simp only [Act.put, List.setIfInBounds_toArray, List.set_cons_zero, List.set_cons_succ, zas, zat]
         rfl
        refine zaI (i := 13) (N := some 61) (v := ?_) (a' := ?_) #[true, true, false, true, false, true, false, false, true, true, false, true, false, true, false, false, false, false, false, false, false, false, false, false, false, false, false, false] rfl rfl (zaC HT_.out (by kernel_rfl)) (fun _ _ _ h => h) (Or.inl ⟨by rfl, ?_⟩) ?_ ?_
        rotate_left
        ·intro w'
         go_simp
         with_reducible rfl
        rotate_left
        ·simp only [Act.put, List.setIfInBounds_toArray, List.set_cons_zero, List.set_cons_succ, zas, zat]
         rfl
        refine zbl (i := 2) (N := some 50) (v := ?_) (a' := ?_) #[true, true, true, true, false, true, false, false, true, true, false, true, false, true, false, false, false, false, false, false, false, false, false, false, false, false, false, false] rfl rfl (za6 HT_.out HW_.out (by kernel_rfl)) (fun _ _ _ h => h) (Or.inl ⟨by rfl, ?_⟩) hHeld ?_ ?_
        rotate_left
        ·rintro w' ⟨s0, s1, s2⟩
         go_simp
         with_reducible rfl
        rotate_left
        ·simp only [Act.put, List.setIfInBounds_toArray, List.set_cons_zero, List.set_cons_succ, zas, zat]
         rfl
        refine zbl (i := 4) (N := some 52) (v := ?_) (a' := ?_) #[true, true, true, true, true, true, false, false, true, true, false, true, false, true, false, false, false, false, false, false, false, false, false, false, false, false, false, false] rfl rfl (za6 HT_.out HW_.out (by kernel_rfl)) (fun _ _ _ h => h) (Or.inl ⟨by rfl, ?_⟩) hHeld ?_ ?_
        rotate_left
        ·rintro w' ⟨s0, s1, s2⟩
         go_simp
         with_reducible rfl
        rotate_left
        ·simp only [Act.put, List.setIfInBounds_toArray, List.set_cons_zero, List.set_cons_succ, zas, zat]
         rfl
        refine zbl (i := 6) (N := some 54) (v := ?_) (a' := ?_) #[true, true, true, true, true, true, true, false, true, true, false, true, false, true, false, false, false, false, false, false, false, false, false, false, false, false, false, false] rfl rfl (za6 HT_.out HW_.out (by kernel_rfl)) (fun _ _ _ h => h) (Or.inl ⟨by rfl, ?_⟩) hHeld ?_ ?_
        rotate_left
        ·rintro w' ⟨s0, s1, s2⟩
         go_simp
         with_reducible rfl
        rotate_left
        ·simp only [Act.put, List.setIfInBounds_toArray, List.set_cons_zero, List.set_cons_succ, zas, zat]
         rfl
        refine zbl (i := 10) (N := some 58) (v := ?_) (a' := ?_) #[true, true, true, true, true, true, true, false, true, true, true, true, false, true, false, false, false, false, false, false, false, false, false, false, false, false, false, false] rfl rfl (za6 HT_.out HW_.out (by kernel_rfl)) (fun _ _ _ h => h) (Or.inl ⟨by rfl, ?_⟩) hHeld ?_ ?_
        rotate_left
        ·rintro w' ⟨s0, s1, s2⟩
         go_simp
         with_reducible rfl
        rotate_left
        ·simp only [Act.put, List.setIfInBounds_toArray, List.set_cons_zero, List.set_cons_succ, zas, zat]
         rfl
        refine zbl (i := 12) (N := some 60) (v := ?_) (a' := ?_) #[true, true, true, true, true, true, true, false, true, true, true, true, true, true, false, false, false, false, false, false, false, false, false, false, false, false, false, false] rfl rfl (za6 HT_.out HW_.out (by kernel_rfl)) (fun _ _ _ h => h) (Or.inl ⟨by rfl, ?_⟩) hHeld ?_ ?_
        rotate_left
        ·rintro w' ⟨s0, s1, s2⟩
         go_simp
         with_reducible rfl
        rotate_left
        ·simp only [Act.put, List.setIfInBounds_toArray, List.set_cons_zero, List.set_cons_succ, zas, zat]
         rfl
        refine zbl (i := 14) (N := some 62) (v := ?_) (a' := ?_) #[true, true, true, true, true, true, true, false, true, true, true, true, true, true, true, false, false, false, false, false, false, false, false, false, false, false, false, false] rfl rfl (za6 HT_.out HW_.out (by kernel_rfl)) (fun _ _ _ h => h) (Or.inl ⟨by rfl, ?_⟩) hHeld ?_ ?_
        rotate_left
        ·rintro w' ⟨s0, s1, s2⟩
         go_simp
         with_reducible rfl
        rotate_left
        ·simp only [Act.put, List.setIfInBounds_toArray, List.set_cons_zero, List.set_cons_succ, zas, zat]
         rfl
        refine one_ (i := 7) (N := some 55) #[true, true, true, true, true, true, true, true, true, true, true, true, true, true, true, false, false, false, false, false, false, false, false, false, false, false, false, false] rfl rfl (zbJ HT_.out (by kernel_rfl)) (by decide) (fun K hK => ?_)
        refine zch Tryd.func33 (by kernel_rfl) rfl #[.slice Ao48 t345.length co48, .int .i64 a1_0, .int .i64 a1_1, .int .i64 a1_2] (by rfl) rfl rfl (by (try simp only [List.map_toArray, List.map_cons, List.map_nil]); first | done | rfl | (simp only [List.length_drop, List.length_take]; rfl)) ?_
        with_reducible refine (zaS.calls k2 _ _ t345 a1_0 a1_1 a1_2 t352 _ ?side1 ?side2 A27.out).mono ?_
        (case side1 => repeat (first | exact (Kd.zcm HO_7.out).2.2 | (with_reducible refine Kd.zaT ?_ _) | (with_reducible refine Kd.zaU ?_ _) | (with_reducible refine Kd.za0 ?_)))
        (case side2 => exact (Kd.zcm HO_7.out).2.1)
        rintro e w49 ⟨rfl, hb⟩
        refine ⟨_, rfl, ?_⟩
        have n0_ := zaa.mk (Kd.zbW (by (with_reducible repeat (first | apply Kd.zbA | apply Kd.zbz | apply Kd.zby)); exact HO_7.out) hb)
        have n1_ := zaa.mk (zaP (g := gb342) (o := .cells #[.int .i64 a1_0, .int .i64 a1_1, .int .i64 a1_2] 43 (0, 0)) (by (with_reducible repeat (first | refine zah ?_ _ | refine zak ?_ | refine zaf ?_ _)); exact BK342.out) hb)
        have n2_ := zaa.mk (zax (by repeat (first | (with_reducible first | exact HB.out | apply zac | apply zab | apply zad | refine zai ?_ GE342.out) | exact HB.out)) hb)
        clear HO_7
        clear BK342
        clear HB
        have HO_7 := n0_
        have BK342 := n1_
        have HB := n2_
        clear n0_ n1_ n2_
        (try clear hb)
        (try clear hb2)
        (try clear hk)
        (try clear hi)
        refine hK.out _ _ ⟨(zae BK342.out 0).trans rfl, (zae BK342.out 1).trans rfl, (zae BK342.out 2).trans rfl⟩ (fun hHeld => ?_)
        clear hK K
        refine zbZ (a' := ?_) ?_ ?_
        rotate_left
        ·show Act.put _ (some 55) _ = _
         simp only [Act.put, List.setIfInBounds_toArray, List.set_cons_zero, List.set_cons_succ, zas, zat]
         rfl
        refine one_ (i := 15) (N := some 63) #[true, true, true, true, true, true, true, true, true, true, true, true, true, true, true, true, false, false, false, false, false, false, false, false, false, false, false, false] rfl rfl (zbJ HT_.out (by kernel_rfl)) (by decide) (fun K hK => ?_)
        refine zch Tryd.func34 (by kernel_rfl) rfl #[.slice A0 l0.length c0, .int .i64 a1_0, .int .i64 a1_1, .int .i64 a1_2] (by rfl) rfl rfl (by (try simp only [List.map_toArray, List.map_cons, List.map_nil]); first | done | rfl | (simp only [List.length_drop, List.length_take]; rfl)) ?_
        with_reducible refine (zaB.calls k2 _ _ l0 a1_0 a1_1 a1_2 t353 _ ?side1 ?side2 A28.out).mono ?_
        (case side1 => repeat (first | exact (Kd.za7 HR0.out HB.out) | (with_reducible refine Kd.zaT ?_ _) | (with_reducible refine Kd.zaU ?_ _) | (with_reducible refine Kd.za0 ?_)))
        (case side2 => exact HC0.out)
        rintro e w50 ⟨rfl, hb⟩
        refine ⟨_, rfl, ?_⟩
        have n0_ := zaa.mk (Kd.zbW (by (with_reducible repeat (first | apply Kd.zbA | apply Kd.zbz | apply Kd.zby)); exact HO_7.out) hb)
        have n1_ := zaa.mk (zaP (g := gb342) (o := .cells #[.int .i64 a1_0, .int .i64 a1_1, .int .i64 a1_2] 43 (0, 0)) (by (with_reducible repeat (first | refine zah ?_ _ | refine zak ?_ | refine zaf ?_ _)); exact BK342.out) hb)
        have n2_ := zaa.mk (zax (by repeat (first | (with_reducible first | exact HB.out | apply zac | apply zab | apply zad | refine zai ?_ GE342.out) | exact HB.out)) hb)
        clear HO_7
        clear BK342
        clear HB
        have HO_7 := n0_
        have BK342 := n1_
        have HB := n2_
        clear n0_ n1_ n2_
        (try clear hb)
        (try clear hb2)
        (try clear hk)
        (try clear hi)
        refine hK.out _ _ ⟨(zae BK342.out 0).trans rfl, (zae BK342.out 1).trans rfl, (zae BK342.out 2).trans rfl⟩ (fun hHeld => ?_)
        clear hK K
        refine zbZ (a' := ?_) ?_ ?_
        rotate_left
        ·show Act.put _ (some 63) _ = _
         simp only [Act.put, List.setIfInBounds_toArray, List.set_cons_zero, List.set_cons_succ, zas, zat]
         rfl
        refine zaI (i := 16) (N := some 64) (v := ?_) (a' := ?_) #[true, true, true, true, true, true, true, true, true, true, true, true, true, true, true, true, true, false, false, false, false, false, false, false, false, false, false, false] rfl rfl (zaC HT_.out (by kernel_rfl)) (fun _ _ _ h => h) (Or.inl ⟨by rfl, ?_⟩) ?_ ?_
        rotate_left
        ·intro w'
         go_simp
         with_reducible rfl
        rotate_left
        ·simp only [Act.put, List.setIfInBounds_toArray, List.set_cons_zero, List.set_cons_succ, zas, zat]
         rfl
        refine zaI (i := 17) (N := some 65) (v := ?_) (a' := ?_) #[true, true, true, true, true, true, true, true, true, true, true, true, true, true, true, true, true, true, false, false, false, false, false, false, false, false, false, false] rfl rfl (zaC HT_.out (by kernel_rfl)) (fun _ _ _ h => h) (Or.inl ⟨by rfl, ?_⟩) ?_ ?_
        rotate_left
        ·intro w'
         go_simp
         with_reducible rfl
        rotate_left
        ·simp only [Act.put, List.setIfInBounds_toArray, List.set_cons_zero, List.set_cons_succ, zas, zat]
         rfl
        refine zaI (i := 18) (N := some 66) (v := undef) (a' := ?_) #[true, true, true, true, true, true, true, true, true, true, true, true, true, true, true, true, true, true, true, false, false, false, false, false, false, false, false, false] rfl rfl (zaC HT_.out (by kernel_rfl)) (fun _ _ _ h => h) (Or.inr ⟨by rfl, rfl⟩) ?_ ?_
        rotate_left
        ·simp only [Act.put, List.setIfInBounds_toArray, List.set_cons_zero, List.set_cons_succ, zas, zat]
         rfl
        refine zaI (i := 19) (N := some 67) (v := undef) (a' := ?_) #[true, true, true, true, true, true, true, true, true, true, true, true, true, true, true, true, true, true, true, true, false, false, false, false, false, false, false, false] rfl rfl (zaC HT_.out (by kernel_rfl)) (fun _ _ _ h => h) (Or.inr ⟨by rfl, rfl⟩) ?_ ?_
        rotate_left
        ·simp only [Act.put, List.setIfInBounds_toArray, List.set_cons_zero, List.set_cons_succ, zas, zat]
         rfl
        refine zaI (i := 20) (N := some 68) (v := undef) (a' := ?_) #[true, true, true, true, true, true, true, true, true, true, true, true, true, true, true, true, true, true, true, true, true, false, false, false, false, false, false, false] rfl rfl (zaC HT_.out (by kernel_rfl)) (fun _ _ _ h => h) (Or.inr ⟨by rfl, rfl⟩) ?_ ?_
        rotate_left
        ·simp only [Act.put, List.setIfInBounds_toArray, List.set_cons_zero, List.set_cons_succ, zas, zat]
         rfl
        refine zaI (i := 21) (N := some 69) (v := undef) (a' := ?_) #[true, true, true, true, true, true, true, true, true, true, true, true, true, true, true, true, true, true, true, true, true, true, false, false, false, false, false, false] rfl rfl (zaC HT_.out (by kernel_rfl)) (fun _ _ _ h => h) (Or.inr ⟨by rfl, rfl⟩) ?_ ?_
        rotate_left
        ·simp only [Act.put, List.setIfInBounds_toArray, List.set_cons_zero, List.set_cons_succ, zas, zat]
         rfl
        refine zaI (i := 22) (N := some 70) (v := undef) (a' := ?_) #[true, true, true, true, true, true, true, true, true, true, true, true, true, true, true, true, true, true, true, true, true, true, true, false, false, false, false, false] rfl rfl (zaC HT_.out (by kernel_rfl)) (fun _ _ _ h => h) (Or.inr ⟨by rfl, rfl⟩) ?_ ?_
        rotate_left
        ·simp only [Act.put, List.setIfInBounds_toArray, List.set_cons_zero, List.set_cons_succ, zas, zat]
         rfl
        refine zaI (i := 23) (N := some 71) (v := ?_) (a' := ?_) #[true, true, true, true, true, true, true, true, true, true, true, true, true, true, true, true, true, true, true, true, true, true, true, true, false, false, false, false] rfl rfl (zaC HT_.out (by kernel_rfl)) (fun _ _ _ h => h) (Or.inl ⟨by rfl, ?_⟩) ?_ ?_
        rotate_left
        ·intro w'
         go_simp
         with_reducible rfl
        rotate_left
        ·simp only [Act.put, List.setIfInBounds_toArray, List.set_cons_zero, List.set_cons_succ, zas, zat]
         rfl
        refine zaI (i := 24) (N := some 72) (v := ?_) (a' := ?_) #[true, true, true, true, true, true, true, true, true, true, true, true, true, true, true, true, true, true, true, true, true, true, true, true, true, false, false, false] rfl rfl (zaC HT_.out (by kernel_rfl)) (fun _ _ _ h => h) (Or.inl ⟨by rfl, ?_⟩) ?_ ?_
        rotate_left
        ·intro w'
         go_simp
         with_reducible rfl
        rotate_left
        ·simp only [Act.put, List.setIfInBounds_toArray, List.set_cons_zero, List.set_cons_succ, zas, zat]
         rfl
        refine zaI (i := 25) (N := some 73) (v := undef) (a' := ?_) #[true, true, true, true, true, true, true, true, true, true, true, true, true, true, true, true, true, true, true, true, true, true, true, true, true, true, false, false] rfl rfl (zaC HT_.out (by kernel_rfl)) (fun _ _ _ h => h) (Or.inr ⟨by rfl, rfl⟩) ?_ ?_
        rotate_left
        ·simp only [Act.put, List.setIfInBounds_toArray, List.set_cons_zero, List.set_cons_succ, zas, zat]
         rfl
        refine zaI (i := 26) (N := some 74) (v := ?_) (a' := ?_) #[true, true, true, true, true, true, true, true, true, true, true, true, true, true, true, true, true, true, true, true, true, true, true, true, true, true, true, false] rfl rfl (zaC HT_.out (by kernel_rfl)) (fun _ _ _ h => h) (Or.inl ⟨by rfl, ?_⟩) ?_ ?_
        rotate_left
        ·intro w'
         go_simp
         with_reducible rfl
        rotate_left
        ·simp only [Act.put, List.setIfInBounds_toArray, List.set_cons_zero, List.set_cons_succ, zas, zat]
         rfl
        refine zaI (i := 27) (N := some 6) (v := ?_) (a' := ?_) #[true, true, true, true, true, true, true, true, true, true, true, true, true, true, true, true, true, true, true, true, true, true, true, true, true, true, true, true] rfl rfl (zaC HT_.out (by kernel_rfl)) (fun _ _ _ h => h) (Or.inl ⟨by rfl, ?_⟩) ?_ ?_
        rotate_left
        ·intro w'
         go_simp
         with_reducible rfl
        rotate_left
        ·simp only [Act.put, List.setIfInBounds_toArray, List.set_cons_zero, List.set_cons_succ, zas, zat]
         rfl
        refine zdj (zcQ HT_.out (by kernel_rfl)) ?_
        try go_wp2
        go_ret
        exact ⟨by first | rfl | (simp [zan, zam] <;> rfl) | (simp [*, zan, zam] <;> rfl), by repeat (first | (with_reducible first | exact HB.out | apply zac | apply zab | apply zad | refine zai ?_ GE342.out) | exact HB.out)⟩
end Go.Proofs.YtbicjgaadknmfaaDoor.P
end
section
namespace Go.Proofs.YtbicjgaadknmfaaDoor.M
set_option linter.unusedVariables false
set_option linter.unusedSimpArgs false
inductive Ex (α : Type) where
  | leaf (a : α)
  | un (a : α) (x : Ex α)
  | bin (a : α) (x y : Ex α)
namespace Ex
variable {α β : Type}
def flat : Ex α → List α
  | leaf a => [a]
  | un a x => x.flat ++ [a]
  | bin a x y => x.flat ++ (y.flat ++ [a])
def root : Ex α → α
  | leaf a => a
  | un a _ => a
  | bin a _ _ => a
def depth : Ex α → Nat
  | leaf _ => 1
  | un _ x => x.depth + 1
  | bin _ x y => max x.depth y.depth + 1
def ok (ar : α → Int) : Ex α → Prop
  | leaf a => ar a = 0
  | un a x => ar a = 1 ∧ x.ok ar
  | bin a x y => ar a = 2 ∧ x.ok ar ∧ y.ok ar
def map (f : α → β) : Ex α → Ex β
  | leaf a => leaf (f a)
  | un a x => un (f a) (x.map f)
  | bin a x y => bin (f a) (x.map f) (y.map f)
theorem zko (f : α → β) (e : Ex α) : (e.map f).flat = e.flat.map f := by
  induction e with
  | leaf a => rfl
  | un a x ih => simp [map, flat, ih]
  | bin a x y ih ih2 => simp [map, flat, ih, ih2]
theorem zkh (f : α → β) (e : Ex α) : (e.map f).depth = e.depth := by
  induction e with
  | leaf a => rfl
  | un a x ih => simp [map, depth, ih]
  | bin a x y ih ih2 => simp [map, depth, ih, ih2]
theorem zkv (f : α → β) (e : Ex α) : (e.map f).root = f e.root := by cases e <;> rfl
theorem zkF (f : α → β) (ar : α → Int) (ar' : β → Int) (h : ∀ a, ar' (f a) = ar a) (e : Ex α) : (e.map f).ok ar' ↔ e.ok ar := by
  induction e with
  | leaf a => simp [map, ok, h]
  | un a x ih => simp [map, ok, h, ih]
  | bin a x y ih ih2 => simp [map, ok, h, ih, ih2]
theorem zgu (e : Ex α) : 0 < e.flat.length := by cases e <;> simp [flat] <;> omega
theorem zkg (e : Ex α) : 0 < e.depth := by cases e <;> simp [depth]
theorem zdi (e : Ex α) : e.depth ≤ e.flat.length := by
  induction e with
  | leaf a => simp [depth, flat]
  | un a x ih => simp [depth, flat]; omega
  | bin a x y ih ih2 => simp [depth, flat]; omega
theorem zke (e : Ex α) : ∃ l, e.flat = l ++ [e.root] := by
  cases e with
  | leaf a => exact ⟨[], rfl⟩
  | un a x => exact ⟨x.flat, rfl⟩
  | bin a x y => exact ⟨x.flat ++ y.flat, by simp [flat, root]⟩
theorem zkD {ar : α → Int} {e : Ex α} (h : e.ok ar) : 0 ≤ ar e.root ∧ ar e.root ≤ 2 := by
  cases e with
  | leaf a => have : ar a = 0 := h; simp [root]; omega
  | un a x => have := h.1; simp [root]; omega
  | bin a x y => have := h.1; simp [root]; omega
end Ex
section
variable {α : Type} (ar : α → Int)
def zbw : List α → Int → Int → Int
  | [], o, i => if o = 1 then -1 else i
  | a :: l, o, i => if ar a < 0 ∨ o < ar a then i else zbw l (o + 1 - ar a) (i + 1)
def zcB (l : List α) : Int := zbw ar l 0 0
def zd5 : List (Ex α) → List α
  | [] => []
  | e :: st => zd5 st ++ e.flat
variable {ar}
theorem zir (l : List α) : ∀ o i, 0 ≤ i → zbw ar l o i = -1 ∨ (i ≤ zbw ar l o i ∧ zbw ar l o i ≤ i + l.length) := by
  induction l with
  | nil => intro o i hi; unfold zbw; split <;> simp
  | cons a l ih =>
    intro o i hi
    unfold zbw
    split
    · right; simp; omega
    · rcases ih (o + 1 - ar a) (i + 1) (by omega) with h | h
      · exact .inl h
      · right; simp; omega
theorem zhj (h2 : ∀ a, ar a ≤ 2) (l : List α) : ∀ (st : List (Ex α)) (i : Int), 0 ≤ i → (∀ e ∈ st, e.ok ar) → zbw ar l (st.length : Int) i = -1 → ∃ e : Ex α, e.ok ar ∧ e.flat = zd5 st ++ l := by
  induction l with
  | nil =>
    intro st i hi hst h
    unfold zbw at h
    split at h
    · match st, hst with
      | [e], hst => exact ⟨e, hst e (by simp), by simp [zd5]⟩
      | [], _ => simp at *
      | _ :: _ :: _, _ => simp at *; omega
    · omega
  | cons a l ih =>
    intro st i hi hst h
    unfold zbw at h
    split at h
    · omega
    · rename_i hc
      have hr : 0 ≤ ar a ∧ ar a ≤ (st.length : Int) := by omega
      have h2a := h2 a
      have : ar a = 0 ∨ ar a = 1 ∨ ar a = 2 := by omega
      rcases this with h0 | h0 | h0
      · obtain ⟨e, he, hf⟩ := ih (Ex.leaf a :: st) (i + 1) (by omega) (by
          intro e he
          rcases List.mem_cons.1 he with rfl | he
          · exact h0
          · exact hst e he) (by rw [← h, h0]; simp)
        exact ⟨e, he, by simp [hf, zd5, Ex.flat]⟩
      · match st, hst, hr with
        | x :: st, hst, _ =>
          obtain ⟨e, he, hf⟩ := ih (Ex.un a x :: st) (i + 1) (by omega) (by
            intro e he
            rcases List.mem_cons.1 he with rfl | he
            · exact ⟨h0, hst x (by simp)⟩
            · exact hst e (by simp [he])) (by rw [← h, h0]; congr 1; simp)
          exact ⟨e, he, by simp [hf, zd5, Ex.flat]⟩
        | [], _, hr => simp at hr; omega
      · match st, hst, hr with
        | y :: x :: st, hst, _ =>
          obtain ⟨e, he, hf⟩ := ih (Ex.bin a x y :: st) (i + 1) (by omega) (by
            intro e he
            rcases List.mem_cons.1 he with rfl | he
            · exact ⟨h0, hst x (by simp), hst y (by simp)⟩
            · exact hst e (by simp [he])) (by rw [← h, h0]; congr 1; simp; omega)
          exact ⟨e, he, by simp [hf, zd5, Ex.flat]⟩
        | [_], _, hr => simp at hr; omega
        | [], _, hr => simp at hr; omega
theorem zeb (h2 : ∀ a, ar a ≤ 2) {l : List α} (h : zcB ar l < 0) : ∃ e : Ex α, e.ok ar ∧ e.flat = l := by
  have h' : zcB ar l = -1 := by
    rcases zir (ar := ar) l 0 0 (by omega) with h1 | h1
    · exact h1
    · unfold zcB at h; omega
  obtain ⟨e, he, hf⟩ := zhj h2 l [] 0 (by omega) (by simp) h'
  exact ⟨e, he, by simpa [zd5] using hf⟩
theorem zgZ {e : Ex α} (he : e.ok ar) : ∀ (r : List α) (o i : Int), 0 ≤ o → zbw ar (e.flat ++ r) o i = zbw ar r (o + 1) (i + e.flat.length) := by
  induction e with
  | leaf a =>
    intro r o i ho
    have h0 : ar a = 0 := he
    simp only [Ex.flat, List.singleton_append, zbw, List.length_singleton]
    rw [if_neg (by omega), h0]; simp
  | un a x ih =>
    intro r o i ho
    have h0 := he.1
    simp only [Ex.flat, List.append_assoc, List.singleton_append]
    rw [ih he.2 _ _ _ ho]
    simp only [zbw]
    rw [if_neg (by omega), h0]
    congr 1
    · omega
    · simp; omega
  | bin a x y ih ih2 =>
    intro r o i ho
    have h0 := he.1
    simp only [Ex.flat, List.append_assoc, List.singleton_append]
    rw [ih he.2.1 _ _ _ ho, ih2 he.2.2 _ _ _ (by omega)]
    simp only [zbw]
    rw [if_neg (by omega), h0]
    congr 1
    · omega
    · simp; omega
theorem zfL {e : Ex α} (he : e.ok ar) : zcB ar e.flat = -1 := by
  have := zgZ he [] 0 0 (by omega)
  rw [List.append_nil] at this
  unfold zcB
  rw [this]
  simp [zbw]
theorem zgI {e f : Ex α} (he : e.ok ar) (hf : f.ok ar) : ∀ {p q : List α}, p ++ e.flat = q ++ f.flat → e = f ∧ p = q := by
  induction e generalizing f with
  | leaf a =>
    intro p q h
    have h0 : ar a = 0 := he
    cases f with
    | leaf b =>
      have := List.append_inj' h rfl
      simp [Ex.flat] at this
      exact ⟨by rw [this.2], this.1⟩
    | un b x =>
      have h' := h
      simp only [Ex.flat, ← List.append_assoc] at h'
      have := (List.append_inj' h' rfl).2
      simp at this
      have := hf.1
      subst_vars
      omega
    | bin b x y =>
      have h' := h
      simp only [Ex.flat, ← List.append_assoc] at h'
      have := (List.append_inj' h' rfl).2
      simp at this
      have := hf.1
      subst_vars
      omega
  | un a x ih =>
    intro p q h
    have h0 := he.1
    cases f with
    | leaf b =>
      have h' := h
      simp only [Ex.flat, ← List.append_assoc] at h'
      have := (List.append_inj' h' rfl).2
      simp at this
      have : ar b = 0 := hf
      subst_vars
      omega
    | un b z =>
      have h' := h
      simp only [Ex.flat, ← List.append_assoc] at h'
      obtain ⟨h1, h2⟩ := List.append_inj' h' rfl
      simp at h2
      obtain ⟨rfl, rfl⟩ := ih he.2 hf.2 h1
      exact ⟨by rw [h2], rfl⟩
    | bin b z z2 =>
      have h' := h
      simp only [Ex.flat, ← List.append_assoc] at h'
      have := (List.append_inj' h' rfl).2
      simp at this
      have := hf.1
      subst_vars
      omega
  | bin a x y ih ih2 =>
    intro p q h
    have h0 := he.1
    cases f with
    | leaf b =>
      have h' := h
      simp only [Ex.flat, ← List.append_assoc] at h'
      have := (List.append_inj' h' rfl).2
      simp at this
      have : ar b = 0 := hf
      subst_vars
      omega
    | un b z =>
      have h' := h
      simp only [Ex.flat, ← List.append_assoc] at h'
      have := (List.append_inj' h' rfl).2
      simp at this
      have := hf.1
      subst_vars
      omega
    | bin b z z2 =>
      have h' := h
      simp only [Ex.flat, ← List.append_assoc] at h'
      obtain ⟨h1, h2⟩ := List.append_inj' h' rfl
      simp at h2
      obtain ⟨rfl, h3⟩ := ih2 he.2.2 hf.2.2 h1
      obtain ⟨rfl, rfl⟩ := ih he.2.1 hf.2.1 h3
      exact ⟨by rw [h2], rfl⟩
theorem zix {e f : Ex α} (he : e.ok ar) (hf : f.ok ar) (h : e.flat = f.flat) : e = f := (zgI he hf (p := []) (q := []) (by simpa using h)).1
end
end Go.Proofs.YtbicjgaadknmfaaDoor.M
end
