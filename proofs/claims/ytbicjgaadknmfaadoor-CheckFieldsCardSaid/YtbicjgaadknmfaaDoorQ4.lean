import Derived.Test.YtbicjgaadknmfaaDoorQ1
import Derived.Test.YtbicjgaadknmfaaDoorQ3
section
namespace Go.Proofs.YtbicjgaadknmfaaDoor.P
open Go.RowKit Go.Proofs.YtbicjgaadknmfaaDoorW.PrintWords Go.Proofs.YtbicjgaadknmfaaDoorW.PrintLast Go.Proofs.YtbicjgaadknmfaaDoorW.PrintMore
attribute [local go_sem] zco zcn zce zcf zbU zbT zb5 zb3
set_option linter.unusedVariables false
set_option linter.unusedSimpArgs false
mutual
def zav.j0 : Nat → Int → Bool → Option (Int)
 | 0, _, _ => none
 | k + 1, x0, x8 => if x8 = true then (some 0) else (if x0 = 6 then (zav.j1 k x0 true) else (zav.j1 k x0 (x0 == 11)))
def zav.j1 : Nat → Int → Bool → Option (Int)
 | 0, _, _ => none
 | k + 1, x0, x14 => if x14 = true then (some 1) else (if x0 ≥ 7 then (if x0 ≤ 10 then (some 2) else (some (-1))) else (some (-1)))
end
def zav.f (k : Nat) (a0 : Int) : Option (Int) := if a0 ≥ 1 then (zav.j0 k a0 (decide (a0 ≤ 5))) else (zav.j0 k a0 false)
theorem zav.zaX : ∀ k, (∀ y0 y1, LeO (zav.j0 k y0 y1) (zav.j0 (k + 1) y0 y1)) ∧ (∀ y0 y1, LeO (zav.j1 k y0 y1) (zav.j1 (k + 1) y0 y1))
 | 0 => ⟨fun _ _ r h => by simp [zav.j0] at h, fun _ _ r h => by simp [zav.j1] at h⟩
 | k + 1 => by
  obtain ⟨ih0, ih1⟩ := zav.zaX k
  refine ⟨?_, ?_⟩
  ·intro y0 y1
   unfold zav.j0
   repeat' first
   | (with_reducible exact ih0 _ _)
   | (with_reducible exact ih1 _ _)
   | (with_reducible exact LeO.refl _)
   | (with_reducible exact LeO.none _)
   | (with_reducible refine LeO.ite ?_ ?_)
   | (with_reducible refine LeO.bind ?_ (fun _ => ?_))
   | exact ih0 _ _
   | exact ih1 _ _
   | exact LeO.none _
   | refine LeO.ite ?_ ?_
   | refine LeO.bind ?_ (fun _ => ?_)
  ·intro y0 y1
   unfold zav.j1
   repeat' first
   | (with_reducible exact ih0 _ _)
   | (with_reducible exact ih1 _ _)
   | (with_reducible exact LeO.refl _)
   | (with_reducible exact LeO.none _)
   | (with_reducible refine LeO.ite ?_ ?_)
   | (with_reducible refine LeO.bind ?_ (fun _ => ?_))
   | exact ih0 _ _
   | exact ih1 _ _
   | exact LeO.none _
   | refine LeO.ite ?_ ?_
   | refine LeO.bind ?_ (fun _ => ?_)
theorem zav.mono : ∀ a0 k, LeO (zav.f k a0) (zav.f (k + 1) a0) := by
 intro a0 k
 obtain ⟨ih0, ih1⟩ := zav.zaX k
 unfold zav.f
 repeat' first
   | (with_reducible exact ih0 _ _)
   | (with_reducible exact ih1 _ _)
   | (with_reducible exact LeO.refl _)
   | (with_reducible exact LeO.none _)
   | (with_reducible refine LeO.ite ?_ ?_)
   | (with_reducible refine LeO.bind ?_ (fun _ => ?_))
   | exact ih0 _ _
   | exact ih1 _ _
   | exact LeO.none _
   | refine LeO.ite ?_ ?_
   | refine LeO.bind ?_ (fun _ => ?_)
set_option maxHeartbeats 8000000 in
set_option maxRecDepth 100000 in
theorem zav.calls (k : Nat) (a0 : Int) (r : Int) (w : World) (h : zav.f k a0 = some r) :
  Calls Tryd.prog 117 #[.int .i64 a0] w fun e w' => e = .returned (.int .i64 r) ∧ zar w w' := by
 have H : (if a0 ≥ 1 then (zav.j0 k a0 (decide (a0 ≤ 5))) else (zav.j0 k a0 false)) = some r := h
 clear h
 have HC2 := zaa.mk H
 clear H
 go_enter Tryd.func117, Tryd.ntmps117
 go_upto_region 1 with (fail)
 go_cut [8] (fun v8 wc => ∃ (kq : Nat) (x8_1 : Bool), v8 = .bool x8_1 ∧ zaa (zav.j0 kq a0 x8_1 = some r) ∧ zaa (kq ≤ k) ∧ zar w wc)
 case first =>
  have H := HC2.out
  clear HC2
  by_cases c3 : a0 ≥ 1
  ·rw [if_pos c3] at H
   have c3b0 : decide (1 ≤ a0) = true := decide_eq_true c3
   clear c3
   (first | rw [c3b0] | (simp only [zax, zay]; rw [c3b0]) | skip)
   have H' := zaa.mk H
   clear H
   go_wp2
   go_meet
   case rel => exact ⟨_, (decide (a0 ≤ 5)), (by first | rfl | (simp; done) | (simp [*]; done)), H', ⟨by first | omega | exact Nat.le_refl _⟩, by repeat (first | exact zar.refl _ | apply zar.step)⟩
  ·rw [if_neg c3] at H
   have c3b0 : decide (1 ≤ a0) = false := decide_eq_false c3
   clear c3
   (first | rw [c3b0] | (simp only [zax, zay]; rw [c3b0]) | skip)
   have H' := zaa.mk H
   clear H
   go_wp2
   go_meet
   case rel => exact ⟨_, (false), (by first | rfl | (simp; done) | (simp [*]; done)), H', ⟨by first | omega | exact Nat.le_refl _⟩, by repeat (first | exact zar.refl _ | apply zar.step)⟩
 case rest =>
  clear HC2
  try clear c1
  try clear p2
  try clear c3
  try clear c3b0
  obtain ⟨kq, x8_1, rfl, HA, HJ1, ⟨mc1, rfl⟩⟩ := hcut
  cases kq with
  | zero => exact absurd HA.out (by simp [zav.j0])
  | succ kj1 =>
   have H := HA.out
   clear HA
   simp only [zav.j0] at H
   by_cases c4 : x8_1 = true
   ·subst c4
    have H1 : (some 0) = some r := by rw [if_pos rfl] at H; exact H
    clear H
    have H := H1
    clear H1
    obtain rfl := Option.some.inj H
    go_wp2
    go_ret
    exact ⟨by first | rfl | (simp; done) | (simp [*]; done), by repeat (first | exact zar.refl _ | apply zar.step)⟩
   ·replace c4 := Bool.eq_false_iff.mpr c4
    subst c4
    have H1 : (if a0 = 6 then (zav.j1 kj1 a0 true) else (zav.j1 kj1 a0 (a0 == 11))) = some r := by rw [if_neg (show ¬ (false = true) by decide)] at H; exact H
    clear H
    have H := H1
    clear H1
    have HC5 := zaa.mk H
    clear H
    go_upto_region 3 with (fail)
    go_cut [14] (fun v14 wc => ∃ (kq : Nat) (x14_4 : Bool), v14 = .bool x14_4 ∧ zaa (zav.j1 kq a0 x14_4 = some r) ∧ zaa (kq ≤ kj1) ∧ zar w wc)
    case first =>
     have H := HC5.out
     clear HC5
     by_cases c6 : a0 = 6
     ·rw [if_pos c6] at H
      have c6b0 : (a0 == 6) = true := beq_iff_eq.mpr c6
      have c6b1 : (a0 != 6) = false := bne_eq_false_iff_eq.mpr c6
      clear c6
      (first | rw [c6b0] | (simp only [zax, zay]; rw [c6b0]) | skip)
      have H' := zaa.mk H
      clear H
      go_wp2
      go_meet
      case rel => exact ⟨_, (true), (by first | rfl | (simp; done) | (simp [*]; done)), H', ⟨by have := HJ1.out; first | omega | exact Nat.le_refl _⟩, by repeat (first | exact zar.refl _ | apply zar.step)⟩
     ·rw [if_neg c6] at H
      have c6b0 : (a0 == 6) = false := beq_eq_false_iff_ne.mpr c6
      have c6b1 : (a0 != 6) = true := bne_iff_ne.mpr c6
      (first | rw [c6b0] | (simp only [zax, zay]; rw [c6b0]) | skip)
      have H' := zaa.mk H
      clear H
      go_wp2
      go_meet
      case rel => exact ⟨_, ((a0 == 11)), (by first | rfl | (simp; done) | (simp [*]; done)), H', ⟨by have := HJ1.out; first | omega | exact Nat.le_refl _⟩, by repeat (first | exact zar.refl _ | apply zar.step)⟩
    case rest =>
     clear HC5
     try clear c1
     try clear p2
     try clear c3
     try clear c3b0
     try clear c4
     try clear c6
     try clear c6b0
     try clear c6b1
     try clear p2
     obtain ⟨kq, x14_4, rfl, HA, HJ4, ⟨mc4, rfl⟩⟩ := hcut
     cases kq with
     | zero => exact absurd HA.out (by simp [zav.j1])
     | succ kj4 =>
      have H := HA.out
      clear HA
      simp only [zav.j1] at H
      by_cases c7 : x14_4 = true
      ·subst c7
       have H1 : (some 1) = some r := by rw [if_pos rfl] at H; exact H
       clear H
       have H := H1
       clear H1
       obtain rfl := Option.some.inj H
       go_wp2
       go_ret
       exact ⟨by first | rfl | (simp; done) | (simp [*]; done), by repeat (first | exact zar.refl _ | apply zar.step)⟩
      ·replace c7 := Bool.eq_false_iff.mpr c7
       subst c7
       have H1 : (if a0 ≥ 7 then (if a0 ≤ 10 then (some 2) else (some (-1))) else (some (-1))) = some r := by rw [if_neg (show ¬ (false = true) by decide)] at H; exact H
       clear H
       have H := H1
       clear H1
       by_cases c8 : a0 ≥ 7
       ·rw [if_pos c8] at H
        have c8b0 : decide (7 ≤ a0) = true := decide_eq_true c8
        clear c8
        by_cases c9 : a0 ≤ 10
        ·rw [if_pos c9] at H
         have c9b0 : decide (a0 ≤ 10) = true := decide_eq_true c9
         clear c9
         obtain rfl := Option.some.inj H
         go_wp2
         go_ret
         exact ⟨by first | rfl | (simp; done) | (simp [*]; done), by repeat (first | exact zar.refl _ | apply zar.step)⟩
        ·rw [if_neg c9] at H
         have c9b0 : decide (a0 ≤ 10) = false := decide_eq_false c9
         clear c9
         obtain rfl := Option.some.inj H
         go_wp2
         go_ret
         exact ⟨by first | rfl | (simp; done) | (simp [*]; done), by repeat (first | exact zar.refl _ | apply zar.step)⟩
       ·rw [if_neg c8] at H
        have c8b0 : decide (7 ≤ a0) = false := decide_eq_false c8
        clear c8
        obtain rfl := Option.some.inj H
        go_wp2
        go_ret
        exact ⟨by first | rfl | (simp; done) | (simp [*]; done), by repeat (first | exact zar.refl _ | apply zar.step)⟩
def zaH.l0 : Nat → List (S62) → Int → Int → Option (Int)
 | 0, _, _, _ => none
 | k + 1, x0, x3, x4 => if x4 < (x0.length : Int) then (if 0 ≤ x4 then ((zav.f k ((zbf x0 x4).f0)).bind fun t167 => (if t167 < 0 then (some x4) else (if x3 < t167 then (some x4) else (zaH.l0 k x0 (wrap64 ((wrap64 (x3 - t167)) + 1)) (wrap64 (x4 + 1)))))) else (none)) else (if x3 = 1 then (some (-1)) else (some (x0.length : Int)))
def zaH.f (k : Nat) (l0 : List (S62)) : Option (Int) := zaH.l0 k l0 0 0
theorem zaH.zaX : ∀ k, (∀ y0 y1 y2, LeO (zaH.l0 k y0 y1 y2) (zaH.l0 (k + 1) y0 y1 y2))
 | 0 => fun _ _ _ r h => by simp [zaH.l0] at h
 | k + 1 => by
  have ih0 := zaH.zaX k
  ·intro y0 y1 y2
   unfold zaH.l0
   repeat' first
   | (with_reducible exact ih0 _ _ _)
   | (with_reducible exact zav.mono _ _)
   | (with_reducible exact LeO.refl _)
   | (with_reducible exact LeO.none _)
   | (with_reducible refine LeO.ite ?_ ?_)
   | (with_reducible refine LeO.bind ?_ (fun _ => ?_))
   | exact ih0 _ _ _
   | exact zav.mono _ _
   | exact LeO.none _
   | refine LeO.ite ?_ ?_
   | refine LeO.bind ?_ (fun _ => ?_)
theorem zaH.mono : ∀ a0 k, LeO (zaH.f k a0) (zaH.f (k + 1) a0) := by
 intro a0 k
 have ih0 := zaH.zaX k
 unfold zaH.f
 repeat' first
   | (with_reducible exact ih0 _ _ _)
   | (with_reducible exact zav.mono _ _)
   | (with_reducible exact LeO.refl _)
   | (with_reducible exact LeO.none _)
   | (with_reducible refine LeO.ite ?_ ?_)
   | (with_reducible refine LeO.bind ?_ (fun _ => ?_))
   | exact ih0 _ _ _
   | exact zav.mono _ _
   | exact LeO.none _
   | refine LeO.ite ?_ ?_
   | refine LeO.bind ?_ (fun _ => ?_)
set_option maxHeartbeats 8000000 in
set_option maxRecDepth 100000 in
theorem zaH.calls (k : Nat) (A0 : Option Addr) (c0 : Nat) (l0 : List (S62)) (r : Int) (w : World) (hr0 : Kd.C k62 w A0 l0.length l0) (hc0 : l0.length ≤ c0) (h : zaH.f k l0 = some r) :
  Calls Tryd.prog 82 #[.slice A0 l0.length c0] w fun e w' => e = .returned (.int .i64 r) ∧ zar w w' := by
 have HR0 := zaa.mk hr0
 have HC0 := zaa.mk hc0
 clear hr0 hc0
 have H : (zaH.l0 k l0 0 0) = some r := h
 clear h
 have H' := zaa.mk H
 clear H
 go_enter Tryd.func82, Tryd.ntmps82
 go_wp2
 go_loopg [3, 4] k (fun kq v3 v4 w' => ∃ (x3_1 : Int) (x4_1 : Int), v3 = .int .i64 x3_1 ∧ v4 = .int .i64 x4_1 ∧ zaa (zaH.l0 kq l0 x3_1 x4_1 = some r) ∧ zaa (kq ≤ k) ∧ zar w w')
 case atStart => exact ⟨(0), (0), (by first | rfl | (simp; done) | (simp [*]; done)), (by first | rfl | (simp; done) | (simp [*]; done)), H', ⟨Nat.le_refl _⟩, by repeat (first | exact zar.refl _ | apply zar.step)⟩
 case round =>
  clear H'
  obtain ⟨x3_1, x4_1, rfl, rfl, HA, HK1, ⟨m1, rfl⟩⟩ := hrel
  cases gk with
  | zero => exact absurd HA.out (by simp [zaH.l0])
  | succ k1 =>
   have H := HA.out
   clear HA
   simp only [zaH.l0] at H
   by_cases c2 : x4_1 < (l0.length : Int)
   ·rw [if_pos c2] at H
    have c2b0 : decide (x4_1 < (l0.length : Int)) = true := decide_eq_true c2
    clear c2
    by_cases c3 : 0 ≤ x4_1
    ·rw [if_pos c3] at H
     have c3b0 : decide (0 ≤ x4_1) = true := decide_eq_true c3
     clear c3
     replace H := Option.bind_eq_some_iff.mp H
     obtain ⟨t167, A40, H⟩ := H
     replace H : (if t167 < 0 then (some x4_1) else (if x3_1 < t167 then (some x4_1) else (zaH.l0 k1 l0 (wrap64 ((wrap64 (x3_1 - t167)) + 1)) (wrap64 (x4_1 + 1))))) = some r := H
     have A4 := zaa.mk A40
     clear A40
     by_cases c5 : t167 < 0
     ·rw [if_pos c5] at H
      have c5b0 : decide (t167 < 0) = true := decide_eq_true c5
      clear c5
      obtain rfl := Option.some.inj H
      have p166 : 0 ≤ (x4_1 : Int) := of_decide_eq_true (by first | (with_reducible assumption) | assumption)
      have q166 : x4_1 < (l0.length : Int) := of_decide_eq_true (by first | (with_reducible assumption) | assumption)
      obtain ⟨ad166, A166_2, c166_2, e166, hx166_0, hx166_1, hx166_2, hl166_2, hi166_2⟩ := zdi HR0.out x4_1 p166 q166
      cases e166
      have HR166_2 := zaa.mk hi166_2
      have HC166_2 := zaa.mk hl166_2
      clear hi166_2 hl166_2
      replace p166 := eq_true p166
      replace q166 := eq_true q166
      go_wp2_with (first | ((with_reducible refine zaI (f := 117) rfl ?_); refine za3 (some 17) rfl rfl Tryd.func117 (by kernel_rfl) rfl #[.int .i64 ((zbf l0 x4_1).f0)] rfl (by (try simp only [List.map_toArray, List.map_cons, List.map_nil]); first | done | rfl | (simp only [List.length_drop, List.length_take]; rfl)) ?_; (with_reducible refine (zav.calls k1 ((zbf l0 x4_1).f0) t167 _ A4.out).mono ?_); rintro e w' ⟨rfl, ⟨nd, rfl⟩⟩; refine ⟨_, rfl, ?_⟩))
      go_ret
      exact ⟨by first | rfl | (simp; done) | (simp [*]; done), by repeat (first | exact zar.refl _ | apply zar.step)⟩
     ·rw [if_neg c5] at H
      have c5b0 : decide (t167 < 0) = false := decide_eq_false c5
      clear c5
      by_cases c6 : x3_1 < t167
      ·rw [if_pos c6] at H
       have c6b0 : decide (x3_1 < t167) = true := decide_eq_true c6
       clear c6
       obtain rfl := Option.some.inj H
       have p166 : 0 ≤ (x4_1 : Int) := of_decide_eq_true (by first | (with_reducible assumption) | assumption)
       have q166 : x4_1 < (l0.length : Int) := of_decide_eq_true (by first | (with_reducible assumption) | assumption)
       obtain ⟨ad166, A166_2, c166_2, e166, hx166_0, hx166_1, hx166_2, hl166_2, hi166_2⟩ := zdi HR0.out x4_1 p166 q166
       cases e166
       have HR166_2 := zaa.mk hi166_2
       have HC166_2 := zaa.mk hl166_2
       clear hi166_2 hl166_2
       replace p166 := eq_true p166
       replace q166 := eq_true q166
       go_wp2_with (first | ((with_reducible refine zaI (f := 117) rfl ?_); refine za3 (some 17) rfl rfl Tryd.func117 (by kernel_rfl) rfl #[.int .i64 ((zbf l0 x4_1).f0)] rfl (by (try simp only [List.map_toArray, List.map_cons, List.map_nil]); first | done | rfl | (simp only [List.length_drop, List.length_take]; rfl)) ?_; (with_reducible refine (zav.calls k1 ((zbf l0 x4_1).f0) t167 _ A4.out).mono ?_); rintro e w' ⟨rfl, ⟨nd, rfl⟩⟩; refine ⟨_, rfl, ?_⟩))
       go_ret
       exact ⟨by first | rfl | (simp; done) | (simp [*]; done), by repeat (first | exact zar.refl _ | apply zar.step)⟩
      ·rw [if_neg c6] at H
       have c6b0 : decide (x3_1 < t167) = false := decide_eq_false c6
       clear c6
       have H' := zaa.mk H
       clear H
       have p166 : 0 ≤ (x4_1 : Int) := of_decide_eq_true (by first | (with_reducible assumption) | assumption)
       have q166 : x4_1 < (l0.length : Int) := of_decide_eq_true (by first | (with_reducible assumption) | assumption)
       obtain ⟨ad166, A166_2, c166_2, e166, hx166_0, hx166_1, hx166_2, hl166_2, hi166_2⟩ := zdi HR0.out x4_1 p166 q166
       cases e166
       have HR166_2 := zaa.mk hi166_2
       have HC166_2 := zaa.mk hl166_2
       clear hi166_2 hl166_2
       replace p166 := eq_true p166
       replace q166 := eq_true q166
       go_wp2_with (first | ((with_reducible refine zaI (f := 117) rfl ?_); refine za3 (some 17) rfl rfl Tryd.func117 (by kernel_rfl) rfl #[.int .i64 ((zbf l0 x4_1).f0)] rfl (by (try simp only [List.map_toArray, List.map_cons, List.map_nil]); first | done | rfl | (simp only [List.length_drop, List.length_take]; rfl)) ?_; (with_reducible refine (zav.calls k1 ((zbf l0 x4_1).f0) t167 _ A4.out).mono ?_); rintro e w' ⟨rfl, ⟨nd, rfl⟩⟩; refine ⟨_, rfl, ?_⟩))
       go_roundg k1
       case measure => have := HK1.out; omega
       case rel => exact ⟨(wrap64 ((wrap64 (x3_1 - t167)) + 1)), (wrap64 (x4_1 + 1)), (by first | rfl | (simp; done) | (simp [*]; done)), (by first | rfl | (simp; done) | (simp [*]; done)), H', ⟨by have := HK1.out; omega⟩, by repeat (first | exact zar.refl _ | apply zar.step)⟩
    ·rw [if_neg c3] at H
     exact absurd H (by simp)
   ·rw [if_neg c2] at H
    have c2b0 : decide (x4_1 < (l0.length : Int)) = false := decide_eq_false c2
    clear c2
    by_cases c7 : x3_1 = 1
    ·rw [if_pos c7] at H
     have c7b0 : (x3_1 == 1) = true := beq_iff_eq.mpr c7
     have c7b1 : (x3_1 != 1) = false := bne_eq_false_iff_eq.mpr c7
     clear c7
     obtain rfl := Option.some.inj H
     go_wp2
     go_ret
     exact ⟨by first | rfl | (simp; done) | (simp [*]; done), by repeat (first | exact zar.refl _ | apply zar.step)⟩
    ·rw [if_neg c7] at H
     have c7b0 : (x3_1 == 1) = false := beq_eq_false_iff_ne.mpr c7
     have c7b1 : (x3_1 != 1) = true := bne_iff_ne.mpr c7
     obtain rfl := Option.some.inj H
     go_wp2
     go_ret
     exact ⟨by first | rfl | (simp; done) | (simp [*]; done), by repeat (first | exact zar.refl _ | apply zar.step)⟩
def zaC.l0 : Nat → List (S62) → Int → Int → Int → Int → Int → Option (Int)
 | 0, _, _, _, _, _, _ => none
 | k + 1, x0, x1, x2, x3, x9, x10 => if x10 < (x0.length : Int) then (if x10 = x9 then (some x10) else (if 0 ≤ x10 then ((zaA.f k ((zbf x0 x10).f0) ((zbf x0 x10).f1) ((zbf x0 x10).f2) x1 x2 x3).bind fun t170 => (if t170 = true then (zaC.l0 k x0 x1 x2 x3 x9 (wrap64 (x10 + 1))) else (some x10))) else (none))) else (some x9)
def zaC.f (k : Nat) (l0 : List (S62)) (a1 : Int) (a2 : Int) (a3 : Int) : Option (Int) := (zaH.f k l0).bind fun t168 => (zaC.l0 k l0 a1 a2 a3 t168 0)
theorem zaC.zaX : ∀ k, (∀ y0 y1 y2 y3 y4 y5, LeO (zaC.l0 k y0 y1 y2 y3 y4 y5) (zaC.l0 (k + 1) y0 y1 y2 y3 y4 y5))
 | 0 => fun _ _ _ _ _ _ r h => by simp [zaC.l0] at h
 | k + 1 => by
  have ih0 := zaC.zaX k
  ·intro y0 y1 y2 y3 y4 y5
   unfold zaC.l0
   repeat' first
   | (with_reducible exact ih0 _ _ _ _ _ _)
   | (with_reducible exact zaH.mono _ _)
   | (with_reducible exact zaA.mono _ _ _ _ _ _ _)
   | (with_reducible exact LeO.refl _)
   | (with_reducible exact LeO.none _)
   | (with_reducible refine LeO.ite ?_ ?_)
   | (with_reducible refine LeO.bind ?_ (fun _ => ?_))
   | exact ih0 _ _ _ _ _ _
   | exact zaH.mono _ _
   | exact zaA.mono _ _ _ _ _ _ _
   | exact LeO.none _
   | refine LeO.ite ?_ ?_
   | refine LeO.bind ?_ (fun _ => ?_)
theorem zaC.mono : ∀ a0 a1 a2 a3 k, LeO (zaC.f k a0 a1 a2 a3) (zaC.f (k + 1) a0 a1 a2 a3) := by
 intro a0 a1 a2 a3 k
 have ih0 := zaC.zaX k
 unfold zaC.f
 repeat' first
   | (with_reducible exact ih0 _ _ _ _ _ _)
   | (with_reducible exact zaH.mono _ _)
   | (with_reducible exact zaA.mono _ _ _ _ _ _ _)
   | (with_reducible exact LeO.refl _)
   | (with_reducible exact LeO.none _)
   | (with_reducible refine LeO.ite ?_ ?_)
   | (with_reducible refine LeO.bind ?_ (fun _ => ?_))
   | exact ih0 _ _ _ _ _ _
   | exact zaH.mono _ _
   | exact zaA.mono _ _ _ _ _ _ _
   | exact LeO.none _
   | refine LeO.ite ?_ ?_
   | refine LeO.bind ?_ (fun _ => ?_)
set_option maxHeartbeats 8000000 in
set_option maxRecDepth 100000 in
theorem zaC.calls (k : Nat) (A0 : Option Addr) (c0 : Nat) (l0 : List (S62)) (a1 : Int) (a2 : Int) (a3 : Int) (r : Int) (w : World) (hr0 : Kd.C k62 w A0 l0.length l0) (hc0 : l0.length ≤ c0) (h : zaC.f k l0 a1 a2 a3 = some r) :
  Calls Tryd.prog 34 #[.slice A0 l0.length c0, .int .i64 a1, .int .i64 a2, .int .i64 a3] w fun e w' => e = .returned (.int .i64 r) ∧ Below w.heap.size w w' := by
 have hu62 := Tryd.underlying62
 have HR0 := zaa.mk hr0
 have HC0 := zaa.mk hc0
 clear hr0 hc0
 have HB := zaa.mk (Below.refl w.heap.size w)
 have H : ((zaH.f k l0).bind fun t168 => (zaC.l0 k l0 a1 a2 a3 t168 0)) = some r := h
 clear h
 replace H := Option.bind_eq_some_iff.mp H
 obtain ⟨t168, A50, H⟩ := H
 replace H : (zaC.l0 k l0 a1 a2 a3 t168 0) = some r := H
 have A5 := zaa.mk A50
 clear A50
 have H' := zaa.mk H
 clear H
 go_enter Tryd.func34, Tryd.ntmps34
 go_wp2_with (first | ((with_reducible refine zaI (f := 82) rfl ?_); refine za3 (some 12) rfl rfl Tryd.func82 (by kernel_rfl) rfl #[.slice A0 l0.length c0] rfl (by (try simp only [List.map_toArray, List.map_cons, List.map_nil]); first | done | rfl | (simp only [List.length_drop, List.length_take]; rfl)) ?_; (with_reducible refine (zaH.calls k _ _ l0 t168 _ ?side1 ?side2 A5.out).mono ?_); (case side1 => repeat (first | exact HR0.out | (with_reducible refine Kd.zaQ ?_ _) | (with_reducible refine Kd.zaR ?_ _) | (with_reducible refine Kd.zaZ ?_))); (case side2 => exact HC0.out); rintro e w' ⟨rfl, ⟨nd, rfl⟩⟩; refine ⟨_, rfl, ?_⟩))
 go_loopg [10] k (fun kq v10 w' => ∃ (x10_1 : Int), v10 = .int .i64 x10_1 ∧ zaa (zaC.l0 kq l0 a1 a2 a3 t168 x10_1 = some r) ∧ zaa (kq ≤ k) ∧ zaa (Below w.heap.size w w'))
 case atStart => exact ⟨(0), (by first | rfl | (simp; done) | (simp [*]; done)), H', ⟨Nat.le_refl _⟩, ⟨by repeat (first | (with_reducible first | exact HB.out | apply zac | apply zab | apply zad) | exact HB.out)⟩⟩
 case round =>
  clear H'
  try clear p2
  try clear c3
  obtain ⟨x10_1, rfl, HA, HK1, HB⟩ := hrel
  cases gk with
  | zero => exact absurd HA.out (by simp [zaC.l0])
  | succ k1 =>
   have H := HA.out
   clear HA
   simp only [zaC.l0] at H
   by_cases c6 : x10_1 < (l0.length : Int)
   ·rw [if_pos c6] at H
    have c6b0 : decide (x10_1 < (l0.length : Int)) = true := decide_eq_true c6
    clear c6
    by_cases c7 : x10_1 = t168
    ·rw [if_pos c7] at H
     have c7b0 : (x10_1 == t168) = true := beq_iff_eq.mpr c7
     have c7b1 : (x10_1 != t168) = false := bne_eq_false_iff_eq.mpr c7
     clear c7
     obtain rfl := Option.some.inj H
     go_wp2
     go_ret
     exact ⟨by first | rfl | (simp [zam, zan] <;> rfl) | (simp [*, zam, zan] <;> rfl), by repeat (first | (with_reducible first | exact HB.out | apply zac | apply zab | apply zad) | exact HB.out)⟩
    ·rw [if_neg c7] at H
     have c7b0 : (x10_1 == t168) = false := beq_eq_false_iff_ne.mpr c7
     have c7b1 : (x10_1 != t168) = true := bne_iff_ne.mpr c7
     by_cases c8 : 0 ≤ x10_1
     ·rw [if_pos c8] at H
      have c8b0 : decide (0 ≤ x10_1) = true := decide_eq_true c8
      clear c8
      replace H := Option.bind_eq_some_iff.mp H
      obtain ⟨t170, A90, H⟩ := H
      replace H : (if t170 = true then (zaC.l0 k1 l0 a1 a2 a3 t168 (wrap64 (x10_1 + 1))) else (some x10_1)) = some r := H
      have A9 := zaa.mk A90
      clear A90
      by_cases c10 : t170 = true
      ·subst c10
       have H1 : (zaC.l0 k1 l0 a1 a2 a3 t168 (wrap64 (x10_1 + 1))) = some r := by rw [if_pos rfl] at H; exact H
       clear H
       have H := H1
       clear H1
       have H' := zaa.mk H
       clear H
       have p169 : 0 ≤ (x10_1 : Int) := of_decide_eq_true (by first | (with_reducible assumption) | assumption)
       have q169 : x10_1 < (l0.length : Int) := of_decide_eq_true (by first | (with_reducible assumption) | assumption)
       obtain ⟨ad169, A169_2, c169_2, e169, hx169_0, hx169_1, hx169_2, hl169_2, hi169_2⟩ := zdi HR0.out x10_1 p169 q169
       cases e169
       replace hx169_0 := (HB.out.cell (World.block_lt_of_cell? w _ hx169_0)).trans hx169_0
       replace hx169_1 := (HB.out.cell (World.block_lt_of_cell? w _ hx169_1)).trans hx169_1
       replace hx169_2 := (HB.out.cell (World.block_lt_of_cell? w _ hx169_2)).trans hx169_2
       have HR169_2 := zaa.mk hi169_2
       have HC169_2 := zaa.mk hl169_2
       clear hi169_2 hl169_2
       replace p169 := eq_true p169
       replace q169 := eq_true q169
       go_wp2_with (first | (go_at_call 32; (with_reducible refine (zaA.calls k1 ((zbf l0 x10_1).f0) ((zbf l0 x10_1).f1) _ _ ((zbf l0 x10_1).f2) a1 a2 a3 true _ ?side1 ?side2 A9.out).mono ?_); (case side1 => repeat (first | exact (Kd.za2 HR169_2.out HB.out) | (with_reducible refine Kd.zaQ ?_ _) | (with_reducible refine Kd.zaR ?_ _) | (with_reducible refine Kd.zaZ ?_))); (case side2 => exact HC169_2.out); rintro e w11 ⟨rfl, hb⟩; have n0_ := zaa.mk (zat (by repeat (first | (with_reducible first | exact HB.out | apply zac | apply zab | apply zad) | exact HB.out)) hb); clear HB; have HB := n0_; clear n0_; (try clear hb); (try clear hb2); (try clear hk); (try clear hi)))
       go_roundg k1
       case measure => have := HK1.out; omega
       case rel => exact ⟨(wrap64 (x10_1 + 1)), (by first | rfl | (simp; done) | (simp [*]; done)), H', ⟨by have := HK1.out; omega⟩, ⟨by repeat (first | (with_reducible first | exact HB.out | apply zac | apply zab | apply zad) | exact HB.out)⟩⟩
      ·replace c10 := Bool.eq_false_iff.mpr c10
       subst c10
       have H1 : (some x10_1) = some r := by rw [if_neg (show ¬ (false = true) by decide)] at H; exact H
       clear H
       have H := H1
       clear H1
       obtain rfl := Option.some.inj H
       have p169 : 0 ≤ (x10_1 : Int) := of_decide_eq_true (by first | (with_reducible assumption) | assumption)
       have q169 : x10_1 < (l0.length : Int) := of_decide_eq_true (by first | (with_reducible assumption) | assumption)
       obtain ⟨ad169, A169_2, c169_2, e169, hx169_0, hx169_1, hx169_2, hl169_2, hi169_2⟩ := zdi HR0.out x10_1 p169 q169
       cases e169
       replace hx169_0 := (HB.out.cell (World.block_lt_of_cell? w _ hx169_0)).trans hx169_0
       replace hx169_1 := (HB.out.cell (World.block_lt_of_cell? w _ hx169_1)).trans hx169_1
       replace hx169_2 := (HB.out.cell (World.block_lt_of_cell? w _ hx169_2)).trans hx169_2
       have HR169_2 := zaa.mk hi169_2
       have HC169_2 := zaa.mk hl169_2
       clear hi169_2 hl169_2
       replace p169 := eq_true p169
       replace q169 := eq_true q169
       go_wp2_with (first | (go_at_call 32; (with_reducible refine (zaA.calls k1 ((zbf l0 x10_1).f0) ((zbf l0 x10_1).f1) _ _ ((zbf l0 x10_1).f2) a1 a2 a3 false _ ?side1 ?side2 A9.out).mono ?_); (case side1 => repeat (first | exact (Kd.za2 HR169_2.out HB.out) | (with_reducible refine Kd.zaQ ?_ _) | (with_reducible refine Kd.zaR ?_ _) | (with_reducible refine Kd.zaZ ?_))); (case side2 => exact HC169_2.out); rintro e w12 ⟨rfl, hb⟩; have n0_ := zaa.mk (zat (by repeat (first | (with_reducible first | exact HB.out | apply zac | apply zab | apply zad) | exact HB.out)) hb); clear HB; have HB := n0_; clear n0_; (try clear hb); (try clear hb2); (try clear hk); (try clear hi)))
       go_ret
       exact ⟨by first | rfl | (simp [zam, zan] <;> rfl) | (simp [*, zam, zan] <;> rfl), by repeat (first | (with_reducible first | exact HB.out | apply zac | apply zab | apply zad) | exact HB.out)⟩
     ·rw [if_neg c8] at H
      exact absurd H (by simp)
   ·rw [if_neg c6] at H
    have c6b0 : decide (x10_1 < (l0.length : Int)) = false := decide_eq_false c6
    clear c6
    obtain rfl := Option.some.inj H
    go_wp2
    go_ret
    exact ⟨by first | rfl | (simp [zam, zan] <;> rfl) | (simp [*, zam, zan] <;> rfl), by repeat (first | (with_reducible first | exact HB.out | apply zac | apply zab | apply zad) | exact HB.out)⟩
def zbY.f (a0 : ByteArray) : Option (Bool) := (zbx.f 2 a0 0).bind fun t171 => (if t171 = true then (if a0.toList = ([116] : List UInt8) then (some false) else (if a0.toList = ([121] : List UInt8) then (some false) else (if a0.toList = ([112] : List UInt8) then (some false) else (some (a0.toList != ([108, 101, 116] : List UInt8)))))) else (some false))
set_option maxHeartbeats 8000000 in
set_option maxRecDepth 100000 in
theorem zbY.calls (a0 : ByteArray) (r : Bool) (w : World) (h : zbY.f a0 = some r) :
  Calls Tryd.prog 36 #[.string a0] w fun e w' => e = .returned (.bool r) ∧ Below w.heap.size w w' := by
 have hu136 := Tryd.underlying136
 have HB := zaa.mk (Below.refl w.heap.size w)
 have H : ((zbx.f 2 a0 0).bind fun t171 => (if t171 = true then (if a0.toList = ([116] : List UInt8) then (some false) else (if a0.toList = ([121] : List UInt8) then (some false) else (if a0.toList = ([112] : List UInt8) then (some false) else (some (a0.toList != ([108, 101, 116] : List UInt8)))))) else (some false))) = some r := h
 clear h
 replace H := Option.bind_eq_some_iff.mp H
 obtain ⟨t171, A20, H⟩ := H
 replace H : (if t171 = true then (if a0.toList = ([116] : List UInt8) then (some false) else (if a0.toList = ([121] : List UInt8) then (some false) else (if a0.toList = ([112] : List UInt8) then (some false) else (some (a0.toList != ([108, 101, 116] : List UInt8)))))) else (some false)) = some r := H
 have A2 := zaa.mk A20
 clear A20
 by_cases c3 : t171 = true
 ·subst c3
  have H1 : (if a0.toList = ([116] : List UInt8) then (some false) else (if a0.toList = ([121] : List UInt8) then (some false) else (if a0.toList = ([112] : List UInt8) then (some false) else (some (a0.toList != ([108, 101, 116] : List UInt8)))))) = some r := by rw [if_pos rfl] at H; exact H
  clear H
  have H := H1
  clear H1
  by_cases c4 : a0.toList = ([116] : List UInt8)
  ·rw [if_pos c4] at H
   have c4b0 : (a0.toList == ([116] : List UInt8)) = true := beq_iff_eq.mpr c4
   have c4b1 : (a0.toList != ([116] : List UInt8)) = false := bne_eq_false_iff_eq.mpr c4
   clear c4
   obtain rfl := Option.some.inj H
   go_enter Tryd.func36, Tryd.ntmps36
   go_wp2_with (first | ((with_reducible refine zaI (f := 84) rfl ?_); refine za3 (some 5) rfl rfl Tryd.func84 (by kernel_rfl) rfl #[.agg #[.int .i64 2, .string a0, .int .i64 0]] rfl (by (try simp only [List.map_toArray, List.map_cons, List.map_nil]); first | done | rfl | (simp only [List.length_drop, List.length_take]; rfl)) ?_; (with_reducible refine (zbx.calls 2 a0 0 true _ A2.out).mono ?_); rintro e w5 ⟨rfl, hb⟩; refine ⟨_, rfl, ?_⟩; have n0_ := zaa.mk (zat (by repeat (first | (with_reducible first | exact HB.out | apply zac | apply zab | apply zad) | exact HB.out)) hb); clear HB; have HB := n0_; clear n0_; (try clear hb); (try clear hb2); (try clear hk); (try clear hi)))
   go_ret
   exact ⟨by first | rfl | (simp [zam, zan] <;> rfl) | (simp [*, zam, zan] <;> rfl), by repeat (first | (with_reducible first | exact HB.out | apply zac | apply zab | apply zad) | exact HB.out)⟩
  ·rw [if_neg c4] at H
   have c4b0 : (a0.toList == ([116] : List UInt8)) = false := beq_eq_false_iff_ne.mpr c4
   have c4b1 : (a0.toList != ([116] : List UInt8)) = true := bne_iff_ne.mpr c4
   by_cases c6 : a0.toList = ([121] : List UInt8)
   ·rw [if_pos c6] at H
    have c6b0 : (a0.toList == ([121] : List UInt8)) = true := beq_iff_eq.mpr c6
    have c6b1 : (a0.toList != ([121] : List UInt8)) = false := bne_eq_false_iff_eq.mpr c6
    clear c6
    obtain rfl := Option.some.inj H
    go_enter Tryd.func36, Tryd.ntmps36
    go_wp2_with (first | ((with_reducible refine zaI (f := 84) rfl ?_); refine za3 (some 5) rfl rfl Tryd.func84 (by kernel_rfl) rfl #[.agg #[.int .i64 2, .string a0, .int .i64 0]] rfl (by (try simp only [List.map_toArray, List.map_cons, List.map_nil]); first | done | rfl | (simp only [List.length_drop, List.length_take]; rfl)) ?_; (with_reducible refine (zbx.calls 2 a0 0 true _ A2.out).mono ?_); rintro e w7 ⟨rfl, hb⟩; refine ⟨_, rfl, ?_⟩; have n0_ := zaa.mk (zat (by repeat (first | (with_reducible first | exact HB.out | apply zac | apply zab | apply zad) | exact HB.out)) hb); clear HB; have HB := n0_; clear n0_; (try clear hb); (try clear hb2); (try clear hk); (try clear hi)))
    go_ret
    exact ⟨by first | rfl | (simp [zam, zan] <;> rfl) | (simp [*, zam, zan] <;> rfl), by repeat (first | (with_reducible first | exact HB.out | apply zac | apply zab | apply zad) | exact HB.out)⟩
   ·rw [if_neg c6] at H
    have c6b0 : (a0.toList == ([121] : List UInt8)) = false := beq_eq_false_iff_ne.mpr c6
    have c6b1 : (a0.toList != ([121] : List UInt8)) = true := bne_iff_ne.mpr c6
    by_cases c8 : a0.toList = ([112] : List UInt8)
    ·rw [if_pos c8] at H
     have c8b0 : (a0.toList == ([112] : List UInt8)) = true := beq_iff_eq.mpr c8
     have c8b1 : (a0.toList != ([112] : List UInt8)) = false := bne_eq_false_iff_eq.mpr c8
     clear c8
     obtain rfl := Option.some.inj H
     go_enter Tryd.func36, Tryd.ntmps36
     go_wp2_with (first | ((with_reducible refine zaI (f := 84) rfl ?_); refine za3 (some 5) rfl rfl Tryd.func84 (by kernel_rfl) rfl #[.agg #[.int .i64 2, .string a0, .int .i64 0]] rfl (by (try simp only [List.map_toArray, List.map_cons, List.map_nil]); first | done | rfl | (simp only [List.length_drop, List.length_take]; rfl)) ?_; (with_reducible refine (zbx.calls 2 a0 0 true _ A2.out).mono ?_); rintro e w9 ⟨rfl, hb⟩; refine ⟨_, rfl, ?_⟩; have n0_ := zaa.mk (zat (by repeat (first | (with_reducible first | exact HB.out | apply zac | apply zab | apply zad) | exact HB.out)) hb); clear HB; have HB := n0_; clear n0_; (try clear hb); (try clear hb2); (try clear hk); (try clear hi)))
     go_ret
     exact ⟨by first | rfl | (simp [zam, zan] <;> rfl) | (simp [*, zam, zan] <;> rfl), by repeat (first | (with_reducible first | exact HB.out | apply zac | apply zab | apply zad) | exact HB.out)⟩
    ·rw [if_neg c8] at H
     have c8b0 : (a0.toList == ([112] : List UInt8)) = false := beq_eq_false_iff_ne.mpr c8
     have c8b1 : (a0.toList != ([112] : List UInt8)) = true := bne_iff_ne.mpr c8
     obtain rfl := Option.some.inj H
     go_enter Tryd.func36, Tryd.ntmps36
     go_wp2_with (first | ((with_reducible refine zaI (f := 84) rfl ?_); refine za3 (some 5) rfl rfl Tryd.func84 (by kernel_rfl) rfl #[.agg #[.int .i64 2, .string a0, .int .i64 0]] rfl (by (try simp only [List.map_toArray, List.map_cons, List.map_nil]); first | done | rfl | (simp only [List.length_drop, List.length_take]; rfl)) ?_; (with_reducible refine (zbx.calls 2 a0 0 true _ A2.out).mono ?_); rintro e w10 ⟨rfl, hb⟩; refine ⟨_, rfl, ?_⟩; have n0_ := zaa.mk (zat (by repeat (first | (with_reducible first | exact HB.out | apply zac | apply zab | apply zad) | exact HB.out)) hb); clear HB; have HB := n0_; clear n0_; (try clear hb); (try clear hb2); (try clear hk); (try clear hi)))
     go_ret
     exact ⟨by first | rfl | (simp [zam, zan] <;> rfl) | (simp [*, zam, zan] <;> rfl), by repeat (first | (with_reducible first | exact HB.out | apply zac | apply zab | apply zad) | exact HB.out)⟩
 ·replace c3 := Bool.eq_false_iff.mpr c3
  subst c3
  have H1 : (some false) = some r := by rw [if_neg (show ¬ (false = true) by decide)] at H; exact H
  clear H
  have H := H1
  clear H1
  obtain rfl := Option.some.inj H
  go_enter Tryd.func36, Tryd.ntmps36
  go_wp2_with (first | ((with_reducible refine zaI (f := 84) rfl ?_); refine za3 (some 5) rfl rfl Tryd.func84 (by kernel_rfl) rfl #[.agg #[.int .i64 2, .string a0, .int .i64 0]] rfl (by (try simp only [List.map_toArray, List.map_cons, List.map_nil]); first | done | rfl | (simp only [List.length_drop, List.length_take]; rfl)) ?_; (with_reducible refine (zbx.calls 2 a0 0 false _ A2.out).mono ?_); rintro e w11 ⟨rfl, hb⟩; refine ⟨_, rfl, ?_⟩; have n0_ := zaa.mk (zat (by repeat (first | (with_reducible first | exact HB.out | apply zac | apply zab | apply zad) | exact HB.out)) hb); clear HB; have HB := n0_; clear n0_; (try clear hb); (try clear hb2); (try clear hk); (try clear hi)))
  go_ret
  exact ⟨by first | rfl | (simp [zam, zan] <;> rfl) | (simp [*, zam, zan] <;> rfl), by repeat (first | (with_reducible first | exact HB.out | apply zac | apply zab | apply zad) | exact HB.out)⟩
def zaz.l0 : Nat → List (List (S62)) → Int → List (S121) → List (List (S62)) → Option ((List (List (S62))))
 | 0, _, _, _, _ => none
 | k + 1, x3, x4, x173000, x173001 => if x4 < (x173000.length : Int) then (if 0 ≤ x4 then (if x3.length < 5864062014805 then (zaz.l0 k (x3 ++ [(zbi x173000 x4).f1]) (wrap64 (x4 + 1)) x173000 x173001) else (none)) else (none)) else (if x3.length + x173001.length < 5864062014805 then (some (x3 ++ x173001)) else (none))
def zaz.f (k : Nat) (l0_0 : List (S121)) (l0_1 : List (List (S62))) : Option ((List (List (S62)))) := zaz.l0 k ([] : List (List (S62))) 0 l0_0 l0_1
theorem zaz.zaX : ∀ k, (∀ y0 y1 y2 y3, LeO (zaz.l0 k y0 y1 y2 y3) (zaz.l0 (k + 1) y0 y1 y2 y3))
 | 0 => fun _ _ _ _ r h => by simp [zaz.l0] at h
 | k + 1 => by
  have ih0 := zaz.zaX k
  ·intro y0 y1 y2 y3
   unfold zaz.l0
   repeat' first
   | (with_reducible exact ih0 _ _ _ _)
   | (with_reducible exact LeO.refl _)
   | (with_reducible exact LeO.none _)
   | (with_reducible refine LeO.ite ?_ ?_)
   | (with_reducible refine LeO.bind ?_ (fun _ => ?_))
   | exact ih0 _ _ _ _
   | exact LeO.none _
   | refine LeO.ite ?_ ?_
   | refine LeO.bind ?_ (fun _ => ?_)
theorem zaz.mono : ∀ a0 a1 k, LeO (zaz.f k a0 a1) (zaz.f (k + 1) a0 a1) := by
 intro a0 a1 k
 have ih0 := zaz.zaX k
 unfold zaz.f
 repeat' first
   | (with_reducible exact ih0 _ _ _ _)
   | (with_reducible exact LeO.refl _)
   | (with_reducible exact LeO.none _)
   | (with_reducible refine LeO.ite ?_ ?_)
   | (with_reducible refine LeO.bind ?_ (fun _ => ?_))
   | exact ih0 _ _ _ _
   | exact LeO.none _
   | refine LeO.ite ?_ ?_
   | refine LeO.bind ?_ (fun _ => ?_)
set_option maxHeartbeats 8000000 in
set_option maxRecDepth 100000 in
theorem zaz.calls (k : Nat) (P0_0_ : Nat → Prop) (A0_0 : Option Addr) (c0_0 : Nat) (l0_0 : List (S121)) (P0_1_ : Nat → Prop) (A0_1 : Option Addr) (c0_1 : Nat) (l0_1 : List (List (S62))) (r : List (List (S62))) (w : World) (hs0_0 : Kd.V k121 121 w w.heap.size (fun k_ => P0_0_ k_) (.slice A0_0 l0_0.length c0_0) l0_0) (hs0_1 : Kd.V (Kd.slice 62 k62) 54 w w.heap.size (fun k_ => P0_1_ k_) (.slice A0_1 l0_1.length c0_1) l0_1) (h : zaz.f k l0_0 l0_1 = some r) :
  Calls Tryd.prog 73 #[.agg #[.slice A0_0 l0_0.length c0_0, .slice A0_1 l0_1.length c0_1]] w fun e w' => ∃ v0_ : Value, e = .returned (v0_) ∧ Kd.N (Kd.slice 62 k62) 54 w' w.heap.size (fun k_ => ((P0_0_ k_ ∨ P0_1_ k_) ∨ w.heap.size ≤ k_)) v0_ r ∧ Below w.heap.size w w' := by
 have hu41 := Tryd.underlying41
 have HO0_0 := zaa.mk (show Kd.V k121 121 w w.heap.size (fun k_ => ((P0_0_ k_ ∨ P0_1_ k_) ∨ w.heap.size ≤ k_)) (.slice A0_0 l0_0.length c0_0) l0_0 from Kd.zbB hs0_0 (fun k_ hk => .inl (.inl hk)))
 have HO0_1 := zaa.mk (show Kd.V (Kd.slice 62 k62) 54 w w.heap.size (fun k_ => ((P0_0_ k_ ∨ P0_1_ k_) ∨ w.heap.size ≤ k_)) (.slice A0_1 l0_1.length c0_1) l0_1 from Kd.zbB hs0_1 (fun k_ hk => .inl (.inr hk)))
 have HB := zaa.mk (Below.refl w.heap.size w)
 have H : (zaz.l0 k ([] : List (List (S62))) 0 l0_0 l0_1) = some r := h
 clear h
 have H' := zaa.mk H
 clear H
 go_enter Tryd.func73, Tryd.ntmps73
 go_wp2_with (first | ((with_reducible refine za8 (N := 1) rfl ?_); refine za6 ?hg (N := 1) ?hd (cs := #[.slice A0_0 l0_0.length c0_0, .slice A0_1 l0_1.length c0_1]) (t := 41) ?hr ?_; (case hd => rfl); (case hg => rfl); (case hr => first | (go_simp; done) | (go_simp; rfl)); intro gb172 hg w2 hbox hb; have n0_ := zaa.mk (Kd.zcv (Kd.zdf (by (with_reducible repeat (first | apply Kd.zbd | apply Kd.zbc | apply Kd.zbg)); exact HO0_0.out) gb172 (Nat.le_of_eq hg.symm)) hb); have n1_ := zaa.mk (Kd.zcv (Kd.zdf (by (with_reducible repeat (first | apply Kd.zbd | apply Kd.zbc | apply Kd.zbg)); exact HO0_1.out) gb172 (Nat.le_of_eq hg.symm)) hb); have n2_ := zaa.mk (zat (by repeat (first | (with_reducible first | exact HB.out | apply zac | apply zab | apply zad) | exact HB.out)) hb); have n3_ := zaa.mk (hbox); have n4_ := zaa.mk ((by rw [hg]; exact (zas (by repeat (first | (with_reducible first | exact HB.out | apply zac | apply zab | apply zad) | exact HB.out))) : w.heap.size ≤ gb172)); have n5_ := zaa.mk ((by rw [hg]; exact (zas (by repeat (first | (with_reducible first | exact HB.out | apply zac | apply zab | apply zad) | exact HB.out))) : w.heap.size ≤ gb172)); clear HO0_0; clear HO0_1; clear HB; have HO0_0 := n0_; have HO0_1 := n1_; have HB := n2_; have BK172 := n3_; have GW172 := n4_; have GE172 := n5_; clear n0_ n1_ n2_ n3_ n4_ n5_; clear hb hbox hg))
 go_loopg [3, 4] k (fun kq v3 v4 w' => ∃ (x3_1 : List (List (S62))) (x4_1 : Int), v4 = .int .i64 x4_1 ∧ zaa (zaz.l0 kq x3_1 x4_1 l0_0 l0_1 = some r) ∧ zaa (kq ≤ k) ∧ zaa (Kd.N (Kd.slice 62 k62) 54 w' w.heap.size (fun k_ => ((P0_0_ k_ ∨ P0_1_ k_) ∨ w.heap.size ≤ k_) ∧ k_ ≠ gb172) v3 x3_1) ∧ zaa (Kd.V k121 121 w' w.heap.size (fun k_ => ((P0_0_ k_ ∨ P0_1_ k_) ∨ w.heap.size ≤ k_) ∧ some k_ ≠ (v3 : Value).ownBlock ∧ k_ ≠ gb172) (.slice A0_0 l0_0.length c0_0) l0_0) ∧ zaa (Kd.V (Kd.slice 62 k62) 54 w' w.heap.size (fun k_ => ((P0_0_ k_ ∨ P0_1_ k_) ∨ w.heap.size ≤ k_) ∧ some k_ ≠ (v3 : Value).ownBlock ∧ k_ ≠ gb172) (.slice A0_1 l0_1.length c0_1) l0_1) ∧ zaa (w'.heap[gb172]? = some (.cells #[(.slice A0_0 l0_0.length c0_0), (.slice A0_1 l0_1.length c0_1)] 41 (0, 0))) ∧ zaa (Below w.heap.size w w'))
 case atStart => exact ⟨(([] : List (List (S62)))), (0), (by first | rfl | (simp; done) | (simp [*]; done)), H', ⟨Nat.le_refl _⟩, ⟨by first | exact Kd.zdd _ _ _ _ _ | exact Kd.zel _ _ _ _ _ | exact Kd.zej _ _ _ _ _ | exact Kd.zep _ _ _ _ _ | exact Kd.zei _ _ _ _ _⟩, ⟨by (with_reducible repeat (first | apply Kd.zbd | apply Kd.zbc | apply Kd.zbg)); exact Kd.zbB HO0_0.out (fun _ hk => ⟨hk.1, ⟨(by simp [Value.ownBlock]), hk.2⟩⟩)⟩, ⟨by (with_reducible repeat (first | apply Kd.zbd | apply Kd.zbc | apply Kd.zbg)); exact Kd.zbB HO0_1.out (fun _ hk => ⟨hk.1, ⟨(by simp [Value.ownBlock]), hk.2⟩⟩)⟩, ⟨by (with_reducible repeat (first | refine zaf ?_ _ | refine zai ?_ | refine zae ?_ _)); exact BK172.out⟩, ⟨by repeat (first | (with_reducible first | exact HB.out | apply zac | apply zab | apply zad | refine zah ?_ GE172.out) | exact HB.out)⟩⟩
 case round =>
  clear H'
  try clear p2
  obtain ⟨x3_1, x4_1, rfl, HA, HK1, HO_3, HO_173000, HO_173001, BK172, HB⟩ := hrel
  cases gk with
  | zero => exact absurd HA.out (by simp [zaz.l0])
  | succ k1 =>
   have H := HA.out
   clear HA
   simp only [zaz.l0] at H
   by_cases c3 : x4_1 < (l0_0.length : Int)
   ·rw [if_pos c3] at H
    have c3b0 : decide (x4_1 < (l0_0.length : Int)) = true := decide_eq_true c3
    clear c3
    by_cases c4 : 0 ≤ x4_1
    ·rw [if_pos c4] at H
     have c4b0 : decide (0 ≤ x4_1) = true := decide_eq_true c4
     clear c4
     by_cases c5 : x3_1.length < 5864062014805
     ·rw [if_pos c5] at H
      have LMc5 := zaa.mk c5
      clear c5
      obtain ⟨y174, hy174⟩ : ∃ y_ : List (List (S62)), y_ = (x3_1 ++ [(zbi l0_0 x4_1).f1]) := ⟨_, rfl⟩
      replace H : (zaz.l0 k1 y174 (wrap64 (x4_1 + 1)) l0_0 l0_1) = some r := by first | (rw [hy174]; with_reducible exact H) | (have H2_ := (Option.bind_some _ _).symm.trans H; rw [hy174]; with_reducible exact H2_) | (have H2_ := (Option.bind_some _ _).symm.trans H; with_reducible exact H2_) | with_reducible exact H | (rw [hy174]; exact H) | exact H
      have Ny174 := zaa.mk hy174
      clear hy174
      have H' := zaa.mk H
      clear H
      have hcz6_0 : wr.cell? ⟨gb172, 0, none⟩ = some (.slice A0_0 l0_0.length c0_0) := (zaj BK172.out 0).trans rfl
      have hcz6_1 : wr.cell? ⟨gb172, 1, none⟩ = some (.slice A0_1 l0_1.length c0_1) := (zaj BK172.out 1).trans rfl
      have hfz6_0 := zak BK172.out 0
      have hfz6_1 := zak BK172.out 1
      have p173 : 0 ≤ (x4_1 : Int) := of_decide_eq_true (by first | (with_reducible assumption) | assumption)
      have q173 : x4_1 < (l0_0.length : Int) := of_decide_eq_true (by first | (with_reducible assumption) | assumption)
      obtain ⟨ad173, A173_1, c173_1, e173, hx173_0, hx173_1, hl173_1, hi173_1⟩ := zcZ (Kd.zb8 HO_173000.out).2.2 x4_1 p173 q173
      cases e173
      obtain ⟨ce173, hce173, hMe173, hcc173⟩ := Kd.zeD HO_173000.out z121 x4_1 p173 (by first | exact q173 | exact of_decide_eq_true (by first | (with_reducible assumption) | assumption) | (have e_ := (Kd.zb8 HO_173000.out).1; omega))
      obtain ⟨ua173_1, uc173_1, rfl, ul173_1, ge173_1⟩ := zeA hMe173
      have hv173_1 := hcc173 1 _ rfl
      rw [zb0 _ _ 1 (by omega)] at hv173_1
      replace hv173_1 := Option.some.inj (hv173_1.symm.trans hx173_1)
      injection hv173_1 with hva_ hvn_ hvc_
      rw [hva_] at ge173_1
      rw [hvc_] at ul173_1
      have HL173_1 := zaa.mk (show Kd.V k62 62 _ w.heap.size _ _ ((zbi l0_0 x4_1).f1) from Kd.V_mk ul173_1 ge173_1)
      clear hva_ hvn_ hvc_ ge173_1 ul173_1
      clear hcc173 hce173
      have HR173_1 := zaa.mk hi173_1
      have HC173_1 := zaa.mk hl173_1
      clear hi173_1 hl173_1
      replace p173 := eq_true p173
      replace q173 := eq_true q173
      go_wp2_with (first | ((with_reducible refine zcx (b := .append) (xs := #[.tmp 12, .tmp 19]) rfl ?_); at_builtin; refine Kd.zje (Kd.slice 62 k62) (w0 := w) w.heap.size rfl (.tmp 12) (.tmp 19) 39 54 (.slice none 0 0) 24 rfl Tryd.underlying39 ziM rfl (by decide) (by omega) u3 x3_1 ((zbi l0_0 x4_1).f1) [.slice A173_1 ((zbi l0_0 x4_1).f1).length c173_1] (fun k_ => ((P0_0_ k_ ∨ P0_1_ k_) ∨ w.heap.size ≤ k_) ∧ k_ ≠ gb172) (fun k_ => ((fun k_ => ((P0_0_ k_ ∨ P0_1_ k_) ∨ w.heap.size ≤ k_) ∧ k_ ≠ gb172)) k_ ∧ some k_ ≠ (u3 : Value).ownBlock) rfl rfl ?aP (fun _ hk => hk) ?aF ?aO ?aB ?aS ?aL ?_; (case aP => exact (Kd.zfo (Kd.zb8 (Kd.zbB (ok' := (fun k_ => ((fun k_ => ((P0_0_ k_ ∨ P0_1_ k_) ∨ w.heap.size ≤ k_) ∧ k_ ≠ gb172)) k_ ∧ some k_ ≠ (u3 : Value).ownBlock)) (HL173_1.out) (fun k_ hk => ⟨⟨hk.1, hk.2.2⟩, hk.2.1⟩))).2.1 (Kd.V_F (Kd.zbB (ok' := (fun k_ => ((fun k_ => ((P0_0_ k_ ∨ P0_1_ k_) ∨ w.heap.size ≤ k_) ∧ k_ ≠ gb172)) k_ ∧ some k_ ≠ (u3 : Value).ownBlock)) (HL173_1.out) (fun k_ hk => ⟨⟨hk.1, hk.2.2⟩, hk.2.1⟩))))); (case aB => exact (by repeat (first | (with_reducible first | exact HB.out | apply zac | apply zab | apply zad | refine zah ?_ GE172.out) | exact HB.out))); (case aF => exact (fun k_ hk => ⟨(.inr (Nat.le_trans (zas (by repeat (first | (with_reducible first | exact HB.out | apply zac | apply zab | apply zad | refine zah ?_ GE172.out) | exact HB.out))) hk)), Kd.zbW (g := gb172) (o := .cells #[.slice (some ad173) l0_0.length c0_0, .slice A0_1 l0_1.length c0_1] 41 (0, 0)) (by (with_reducible repeat (first | refine zaf ?_ _ | refine zai ?_ | refine zae ?_ _)); exact BK172.out) k_ hk⟩)); (case aO => exact (by (with_reducible repeat (first | apply Kd.zbj | apply Kd.zbk | apply Kd.zbn)); exact HO_3.out)); (case aS => exact (zas (by repeat (first | (with_reducible first | exact HB.out | apply zac | apply zab | apply zad | refine zah ?_ GE172.out) | exact HB.out)))); (case aL => have := LMc5.out; omega); intro v175 w7 ho hb hg hat; rw [← Ny174.out] at ho; have n0_ := zaa.mk (Kd.zb9 (ok := (fun k_ => ((P0_0_ k_ ∨ P0_1_ k_) ∨ w.heap.size ≤ k_) ∧ k_ ≠ gb172)) (by (with_reducible repeat (first | apply Kd.zbd | apply Kd.zbc | apply Kd.zbg)); exact Kd.zbB HO_173000.out (fun _ hk => ⟨⟨hk.1, hk.2.2⟩, hk.2.1⟩)) hg hat); have n1_ := zaa.mk (Kd.zb9 (ok := (fun k_ => ((P0_0_ k_ ∨ P0_1_ k_) ∨ w.heap.size ≤ k_) ∧ k_ ≠ gb172)) (by (with_reducible repeat (first | apply Kd.zbd | apply Kd.zbc | apply Kd.zbg)); exact Kd.zbB HO_173001.out (fun _ hk => ⟨⟨hk.1, hk.2.2⟩, hk.2.1⟩)) hg hat); have n2_ := zaa.mk (zca (g := gb172) (o := .cells #[.slice (some ad173) l0_0.length c0_0, .slice A0_1 l0_1.length c0_1] 41 (0, 0)) (by (with_reducible repeat (first | refine zaf ?_ _ | refine zai ?_ | refine zae ?_ _)); exact BK172.out) hg (Kd.N_ne HO_3.out BK172.out (by decide))); have n3_ := zaa.mk (Kd.zb9 (ok := (fun k_ => ((P0_0_ k_ ∨ P0_1_ k_) ∨ w.heap.size ≤ k_) ∧ k_ ≠ gb172)) (by (with_reducible repeat (first | apply Kd.zbd | apply Kd.zbc | apply Kd.zbg)); exact Kd.zbB HL173_1.out (fun _ hk => ⟨⟨hk.1, hk.2.2⟩, hk.2.1⟩)) hg hat); have n4_ := zaa.mk (hb); have n5_ := zaa.mk (ho); clear HO_173000; clear HO_173001; clear BK172; clear HL173_1; clear HB; clear HO_3; have HO_173000 := n0_; have HO_173001 := n1_; have BK172 := n2_; have HL173_1 := n3_; have HB := n4_; have HO176 := n5_; clear n0_ n1_ n2_ n3_ n4_ n5_; clear ho hb hg hat))
      go_roundg k1
      case measure => have := HK1.out; omega
      case rel => exact ⟨(y174), (wrap64 (x4_1 + 1)), (by first | rfl | (simp; done) | (simp [*]; done)), H', ⟨by have := HK1.out; omega⟩, ⟨by (with_reducible repeat (first | apply Kd.zbj | apply Kd.zbk | apply Kd.zbn)); exact HO176.out⟩, ⟨by (with_reducible repeat (first | apply Kd.zbd | apply Kd.zbc | apply Kd.zbg)); exact Kd.zbB HO_173000.out (fun _ hk => ⟨hk.1.1, ⟨hk.2, hk.1.2⟩⟩)⟩, ⟨by (with_reducible repeat (first | apply Kd.zbd | apply Kd.zbc | apply Kd.zbg)); exact Kd.zbB HO_173001.out (fun _ hk => ⟨hk.1.1, ⟨hk.2, hk.1.2⟩⟩)⟩, ⟨by (with_reducible repeat (first | refine zaf ?_ _ | refine zai ?_ | refine zae ?_ _)); exact BK172.out⟩, ⟨by repeat (first | (with_reducible first | exact HB.out | apply zac | apply zab | apply zad | refine zah ?_ GE172.out) | exact HB.out)⟩⟩
     ·rw [if_neg c5] at H
      exact absurd H (by simp)
    ·rw [if_neg c4] at H
     exact absurd H (by simp)
   ·rw [if_neg c3] at H
    have c3b0 : decide (x4_1 < (l0_0.length : Int)) = false := decide_eq_false c3
    clear c3
    by_cases c8 : x3_1.length + l0_1.length < 5864062014805
    ·rw [if_pos c8] at H
     have LMc8 := zaa.mk c8
     clear c8
     obtain ⟨y177, hy177⟩ : ∃ y_ : List (List (S62)), y_ = (x3_1 ++ l0_1) := ⟨_, rfl⟩
     replace H : (some y177) = some r := by first | (rw [hy177]; with_reducible exact H) | (have H2_ := (Option.bind_some _ _).symm.trans H; rw [hy177]; with_reducible exact H2_) | (have H2_ := (Option.bind_some _ _).symm.trans H; with_reducible exact H2_) | with_reducible exact H | (rw [hy177]; exact H) | exact H
     have Ny177 := zaa.mk hy177
     clear hy177
     obtain rfl := Option.some.inj H
     have hcz9_0 : wr.cell? ⟨gb172, 0, none⟩ = some (.slice A0_0 l0_0.length c0_0) := (zaj BK172.out 0).trans rfl
     have hcz9_1 : wr.cell? ⟨gb172, 1, none⟩ = some (.slice A0_1 l0_1.length c0_1) := (zaj BK172.out 1).trans rfl
     have hfz9_0 := zak BK172.out 0
     have hfz9_1 := zak BK172.out 1
     go_wp2_with (first | ((with_reducible refine zcx (b := .append) (xs := #[.tmp 21, .tmp 23]) rfl ?_); at_builtin; refine Kd.zgv (Kd.slice 62 k62) (w0 := w) w.heap.size rfl (.tmp 21) (.tmp 23) 39 54 (.slice none 0 0) 24 rfl Tryd.underlying39 ziM rfl (by decide) (by omega) u3 x3_1 l0_1 _ _ _ (fun k_ => ((P0_0_ k_ ∨ P0_1_ k_) ∨ w.heap.size ≤ k_) ∧ k_ ≠ gb172) (fun k_ => ((fun k_ => ((P0_0_ k_ ∨ P0_1_ k_) ∨ w.heap.size ≤ k_) ∧ k_ ≠ gb172)) k_ ∧ some k_ ≠ (u3 : Value).ownBlock) rfl rfl ?aO ?aR (fun _ hk => hk) ?aF ?aB ?aS ?aL ?_; (case aR => exact (by skip; exact Kd.V_F (Kd.zbB (ok' := (fun k_ => ((fun k_ => ((P0_0_ k_ ∨ P0_1_ k_) ∨ w.heap.size ≤ k_) ∧ k_ ≠ gb172)) k_ ∧ some k_ ≠ (u3 : Value).ownBlock)) (HO_173001.out) (fun k_ hk => ⟨⟨hk.1, hk.2.2⟩, hk.2.1⟩)))); (case aB => exact (by repeat (first | (with_reducible first | exact HB.out | apply zac | apply zab | apply zad | refine zah ?_ GE172.out) | exact HB.out))); (case aF => exact (fun k_ hk => ⟨(.inr (Nat.le_trans (zas (by repeat (first | (with_reducible first | exact HB.out | apply zac | apply zab | apply zad | refine zah ?_ GE172.out) | exact HB.out))) hk)), Kd.zbW (g := gb172) (o := .cells #[.slice A0_0 l0_0.length c0_0, .slice A0_1 l0_1.length c0_1] 41 (0, 0)) (by (with_reducible repeat (first | refine zaf ?_ _ | refine zai ?_ | refine zae ?_ _)); exact BK172.out) k_ hk⟩)); (case aO => exact (by (with_reducible repeat (first | apply Kd.zbj | apply Kd.zbk | apply Kd.zbn)); exact HO_3.out)); (case aS => exact (zas (by repeat (first | (with_reducible first | exact HB.out | apply zac | apply zab | apply zad | refine zah ?_ GE172.out) | exact HB.out)))); (case aL => have := LMc8.out; omega); intro v178 w10 ho hb hg hat; rw [← Ny177.out] at ho; have n0_ := zaa.mk (Kd.zb9 (ok := (fun k_ => ((P0_0_ k_ ∨ P0_1_ k_) ∨ w.heap.size ≤ k_) ∧ k_ ≠ gb172)) (by (with_reducible repeat (first | apply Kd.zbd | apply Kd.zbc | apply Kd.zbg)); exact Kd.zbB HO_173000.out (fun _ hk => ⟨⟨hk.1, hk.2.2⟩, hk.2.1⟩)) hg hat); have n1_ := zaa.mk (Kd.zb9 (ok := (fun k_ => ((P0_0_ k_ ∨ P0_1_ k_) ∨ w.heap.size ≤ k_) ∧ k_ ≠ gb172)) (by (with_reducible repeat (first | apply Kd.zbd | apply Kd.zbc | apply Kd.zbg)); exact Kd.zbB HO_173001.out (fun _ hk => ⟨⟨hk.1, hk.2.2⟩, hk.2.1⟩)) hg hat); have n2_ := zaa.mk (zca (g := gb172) (o := .cells #[.slice A0_0 l0_0.length c0_0, .slice A0_1 l0_1.length c0_1] 41 (0, 0)) (by (with_reducible repeat (first | refine zaf ?_ _ | refine zai ?_ | refine zae ?_ _)); exact BK172.out) hg (Kd.N_ne HO_3.out BK172.out (by decide))); have n3_ := zaa.mk (hb); have n4_ := zaa.mk (ho); clear HO_173000; clear HO_173001; clear BK172; clear HB; clear HO_3; have HO_173000 := n0_; have HO_173001 := n1_; have BK172 := n2_; have HB := n3_; have HO179 := n4_; clear n0_ n1_ n2_ n3_ n4_; clear ho hb hg hat))
     go_ret
     exact ⟨_, by first | rfl | (simp [zam, zan] <;> rfl) | (simp [*, zam, zan] <;> rfl), by (with_reducible repeat (first | apply Kd.zbj | apply Kd.zbk | apply Kd.zbn)); exact Kd.zbO HO179.out (fun _ hk => hk.1), by repeat (first | (with_reducible first | exact HB.out | apply zac | apply zab | apply zad | refine zah ?_ GE172.out) | exact HB.out)⟩
    ·rw [if_neg c8] at H
     exact absurd H (by simp)
def zaJ.l0 : Nat → Int → List (List (S62)) → Int → Option (Int)
 | 0, _, _, _ => none
 | k + 1, x3, x4, x5 => if x5 < (x4.length : Int) then (if 0 ≤ x5 then (zaJ.l0 k (wrap64 (x3 + ((zbH x4 x5).length : Int))) x4 (wrap64 (x5 + 1))) else (none)) else (some x3)
def zaJ.f (k : Nat) (l0_0 : List (S121)) (l0_1 : List (List (S62))) : Option (Int) := (zaz.f k l0_0 l0_1).bind fun t181 => (zaJ.l0 k 0 t181 0)
theorem zaJ.zaX : ∀ k, (∀ y0 y1 y2, LeO (zaJ.l0 k y0 y1 y2) (zaJ.l0 (k + 1) y0 y1 y2))
 | 0 => fun _ _ _ r h => by simp [zaJ.l0] at h
 | k + 1 => by
  have ih0 := zaJ.zaX k
  ·intro y0 y1 y2
   unfold zaJ.l0
   repeat' first
   | (with_reducible exact ih0 _ _ _)
   | (with_reducible exact zaz.mono _ _ _)
   | (with_reducible exact LeO.refl _)
   | (with_reducible exact LeO.none _)
   | (with_reducible refine LeO.ite ?_ ?_)
   | (with_reducible refine LeO.bind ?_ (fun _ => ?_))
   | exact ih0 _ _ _
   | exact zaz.mono _ _ _
   | exact LeO.none _
   | refine LeO.ite ?_ ?_
   | refine LeO.bind ?_ (fun _ => ?_)
theorem zaJ.mono : ∀ a0 a1 k, LeO (zaJ.f k a0 a1) (zaJ.f (k + 1) a0 a1) := by
 intro a0 a1 k
 have ih0 := zaJ.zaX k
 unfold zaJ.f
 repeat' first
   | (with_reducible exact ih0 _ _ _)
   | (with_reducible exact zaz.mono _ _ _)
   | (with_reducible exact LeO.refl _)
   | (with_reducible exact LeO.none _)
   | (with_reducible refine LeO.ite ?_ ?_)
   | (with_reducible refine LeO.bind ?_ (fun _ => ?_))
   | exact ih0 _ _ _
   | exact zaz.mono _ _ _
   | exact LeO.none _
   | refine LeO.ite ?_ ?_
   | refine LeO.bind ?_ (fun _ => ?_)
set_option maxHeartbeats 8000000 in
set_option maxRecDepth 100000 in
theorem zaJ.calls (k : Nat) (A0_0 : Option Addr) (c0_0 : Nat) (l0_0 : List (S121)) (A0_1 : Option Addr) (c0_1 : Nat) (l0_1 : List (List (S62))) (r : Int) (w : World) (hr0_0 : Kd.C k121 w A0_0 l0_0.length l0_0) (hc0_0 : l0_0.length ≤ c0_0) (hr0_1 : Kd.C (Kd.slice 62 k62) w A0_1 l0_1.length l0_1) (hc0_1 : l0_1.length ≤ c0_1) (h : zaJ.f k l0_0 l0_1 = some r) :
  Calls Tryd.prog 72 #[.agg #[.slice A0_0 l0_0.length c0_0, .slice A0_1 l0_1.length c0_1]] w fun e w' => e = .returned (.int .i64 r) ∧ Below w.heap.size w w' := by
 have hu41 := Tryd.underlying41
 have HR0_0 := zaa.mk hr0_0
 have HC0_0 := zaa.mk hc0_0
 clear hr0_0 hc0_0
 have HR0_1 := zaa.mk hr0_1
 have HC0_1 := zaa.mk hc0_1
 clear hr0_1 hc0_1
 have HB := zaa.mk (Below.refl w.heap.size w)
 have H : ((zaz.f k l0_0 l0_1).bind fun t181 => (zaJ.l0 k 0 t181 0)) = some r := h
 clear h
 replace H := Option.bind_eq_some_iff.mp H
 obtain ⟨t181, A20, H⟩ := H
 replace H : (zaJ.l0 k 0 t181 0) = some r := H
 have A2 := zaa.mk A20
 clear A20
 have H' := zaa.mk H
 clear H
 go_enter Tryd.func72, Tryd.ntmps72
 go_wp2_with (first | ((with_reducible refine za8 (N := 1) rfl ?_); refine za6 ?hg (N := 1) ?hd (cs := #[.slice A0_0 l0_0.length c0_0, .slice A0_1 l0_1.length c0_1]) (t := 41) ?hr ?_; (case hd => rfl); (case hg => rfl); (case hr => first | (go_simp; done) | (go_simp; rfl)); intro gb180 hg w3 hbox hb; have n0_ := zaa.mk (zat (by repeat (first | (with_reducible first | exact HB.out | apply zac | apply zab | apply zad) | exact HB.out)) hb); have n1_ := zaa.mk (hbox); have n2_ := zaa.mk ((by rw [hg]; exact (zas (by repeat (first | (with_reducible first | exact HB.out | apply zac | apply zab | apply zad) | exact HB.out))) : w.heap.size ≤ gb180)); have n3_ := zaa.mk ((by rw [hg]; exact (zas (by repeat (first | (with_reducible first | exact HB.out | apply zac | apply zab | apply zad) | exact HB.out))) : w.heap.size ≤ gb180)); clear HB; have HB := n0_; have BK180 := n1_; have GW180 := n2_; have GE180 := n3_; clear n0_ n1_ n2_ n3_; clear hb hbox hg; have hcz4_0 : w3.cell? ⟨gb180, 0, none⟩ = some (.slice A0_0 l0_0.length c0_0) := (zaj BK180.out 0).trans rfl; have hcz4_1 : w3.cell? ⟨gb180, 1, none⟩ = some (.slice A0_1 l0_1.length c0_1) := (zaj BK180.out 1).trans rfl; have hfz4_0 := zak BK180.out 0; have hfz4_1 := zak BK180.out 1) | ((with_reducible refine zaI (f := 73) rfl ?_); refine za3 (some 7) rfl rfl Tryd.func73 (by kernel_rfl) rfl #[.agg #[.slice A0_0 l0_0.length c0_0, .slice A0_1 l0_1.length c0_1]] rfl (by (try simp only [List.map_toArray, List.map_cons, List.map_nil]); first | done | rfl | (simp only [List.length_drop, List.length_take]; rfl)) ?_; (with_reducible refine (zaz.calls k (fun k_ => k_ < w.heap.size) _ _ l0_0 (fun k_ => k_ < w.heap.size) _ _ l0_1 t181 _ ?side1 ?side2 A2.out).mono ?_); (case side1 => exact Kd.V_mk HC0_0.out (Kd.zcR (Kd.C_F zeq HR0_0.out) (by repeat (first | (with_reducible first | exact HB.out | apply zac | apply zab | apply zad | refine zah ?_ GE180.out) | exact HB.out)))); (case side2 => exact Kd.V_mk HC0_1.out (Kd.zcR (Kd.C_F (Kd.zcV 62 zeg) HR0_1.out) (by repeat (first | (with_reducible first | exact HB.out | apply zac | apply zab | apply zad | refine zah ?_ GE180.out) | exact HB.out)))); rintro e w5 ⟨v182, rfl, ho0, hb⟩; refine ⟨_, rfl, ?_⟩; have n0_ := zaa.mk (Kd.zdz (Kd.zbO (ok' := fun k_ => k_ ≠ gb180) ho0 (fun k_ hk_ => Or.elim hk_ (fun hs_ => Or.elim hs_ (fun hs_ => fun e_ => Nat.not_le.2 hs_ (by rw [e_]; exact GW180.out)) (fun hs_ => fun e_ => Nat.not_le.2 hs_ (by rw [e_]; exact GW180.out))) (fun hn_ => (Kd.zbW (g := gb180) (o := .cells #[.slice A0_0 l0_0.length c0_0, .slice A0_1 l0_1.length c0_1] 41 (0, 0)) (by (with_reducible repeat (first | refine zaf ?_ _ | refine zai ?_ | refine zae ?_ _)); exact BK180.out) k_ hn_)))) (zas (by repeat (first | (with_reducible first | exact HB.out | apply zac | apply zab | apply zad | refine zah ?_ GE180.out) | exact HB.out)))); have n1_ := zaa.mk (zaE (g := gb180) (o := .cells #[.slice A0_0 l0_0.length c0_0, .slice A0_1 l0_1.length c0_1] 41 (0, 0)) (by (with_reducible repeat (first | refine zaf ?_ _ | refine zai ?_ | refine zae ?_ _)); exact BK180.out) hb); have n2_ := zaa.mk (zat (by repeat (first | (with_reducible first | exact HB.out | apply zac | apply zab | apply zad | refine zah ?_ GE180.out) | exact HB.out)) hb); clear BK180; clear HB; have HO183 := n0_; have BK180 := n1_; have HB := n2_; clear n0_ n1_ n2_; (try clear hb); (try clear hb2); (try clear hk); (try clear hi); (try clear ho0)))
 go_loopg [3, 5] k (fun kq v3 v5 w' => ∃ (x3_1 : Int) (x5_1 : Int), v3 = .int .i64 x3_1 ∧ v5 = .int .i64 x5_1 ∧ zaa (zaJ.l0 kq x3_1 t181 x5_1 = some r) ∧ zaa (kq ≤ k) ∧ zaa (Kd.N (Kd.slice 62 k62) 54 w' w.heap.size (fun k_ => k_ ≠ gb180) v182 t181) ∧ zaa (w'.heap[gb180]? = some (.cells #[(.slice A0_0 l0_0.length c0_0), (.slice A0_1 l0_1.length c0_1)] 41 (0, 0))) ∧ zaa (Below w.heap.size w w'))
 case atStart => exact ⟨(0), (0), (by first | rfl | (simp; done) | (simp [*]; done)), (by first | rfl | (simp; done) | (simp [*]; done)), H', ⟨Nat.le_refl _⟩, ⟨by (with_reducible repeat (first | apply Kd.zbj | apply Kd.zbk | apply Kd.zbn)); exact HO183.out⟩, ⟨by (with_reducible repeat (first | refine zaf ?_ _ | refine zai ?_ | refine zae ?_ _)); exact BK180.out⟩, ⟨by repeat (first | (with_reducible first | exact HB.out | apply zac | apply zab | apply zad | refine zah ?_ GE180.out) | exact HB.out)⟩⟩
 case round =>
  clear H'
  try clear p2
  try clear hcz4_0
  try clear hcz4_1
  try clear hfz4_0
  try clear hfz4_1
  obtain ⟨x3_1, x5_1, rfl, rfl, HA, HK1, HO_4, BK180, HB⟩ := hrel
  cases gk with
  | zero => exact absurd HA.out (by simp [zaJ.l0])
  | succ k1 =>
   have H := HA.out
   clear HA
   simp only [zaJ.l0] at H
   by_cases c6 : x5_1 < (t181.length : Int)
   ·rw [if_pos c6] at H
    have c6b0 : decide (x5_1 < (t181.length : Int)) = true := decide_eq_true c6
    clear c6
    by_cases c7 : 0 ≤ x5_1
    ·rw [if_pos c7] at H
     have c7b0 : decide (0 ≤ x5_1) = true := decide_eq_true c7
     clear c7
     have H' := zaa.mk H
     clear H
     obtain ⟨Ao8, co8, eo8⟩ := Kd.zcB HO_4.out
     subst eo8
     have p184 : 0 ≤ (x5_1 : Int) := of_decide_eq_true (by first | (with_reducible assumption) | assumption)
     have q184 : x5_1 < (t181.length : Int) := of_decide_eq_true (by first | (with_reducible assumption) | assumption)
     obtain ⟨ad184, A184_0, c184_0, e184, hx184_0, hl184_0, hi184_0⟩ := zdK (Kd.zbI HO_4.out).2.2 x5_1 p184 q184
     cases e184
     obtain ⟨ce184, hce184, hMe184, hcc184⟩ := Kd.zeH HO_4.out [] x5_1 p184 (by first | exact q184 | exact of_decide_eq_true (by first | (with_reducible assumption) | assumption) | (have e_ := (Kd.zbI HO_4.out).1; omega))
     obtain ⟨ua184_0, uc184_0, rfl, ul184_0, ge184_0⟩ := Kd.zcr hMe184
     have hv184_0 := hcc184 0 _ rfl
     rw [Nat.add_zero, show ((Kd.slice 62 k62)).sz = 1 from rfl, Nat.mul_one] at hv184_0
     replace hv184_0 := Option.some.inj (hv184_0.symm.trans hx184_0)
     injection hv184_0 with hva_ hvn_ hvc_
     rw [hva_] at ge184_0
     rw [hvc_] at ul184_0
     have HL184_0 := zaa.mk (show Kd.V k62 62 _ w.heap.size _ _ (zbH t181 x5_1) from Kd.V_mk ul184_0 ge184_0)
     clear hva_ hvn_ hvc_ ge184_0 ul184_0
     clear hcc184 hce184
     have HR184_0 := zaa.mk hi184_0
     have HC184_0 := zaa.mk hl184_0
     clear hi184_0 hl184_0
     replace p184 := eq_true p184
     replace q184 := eq_true q184
     go_wp2
     go_roundg k1
     case measure => have := HK1.out; omega
     case rel => exact ⟨(wrap64 (x3_1 + ((zbH t181 x5_1).length : Int))), (wrap64 (x5_1 + 1)), (by first | rfl | (simp; done) | (simp [*]; done)), (by first | rfl | (simp; done) | (simp [*]; done)), H', ⟨by have := HK1.out; omega⟩, ⟨by (with_reducible repeat (first | apply Kd.zbj | apply Kd.zbk | apply Kd.zbn)); exact HO_4.out⟩, ⟨by (with_reducible repeat (first | refine zaf ?_ _ | refine zai ?_ | refine zae ?_ _)); exact BK180.out⟩, ⟨by repeat (first | (with_reducible first | exact HB.out | apply zac | apply zab | apply zad | refine zah ?_ GE180.out) | exact HB.out)⟩⟩
    ·rw [if_neg c7] at H
     exact absurd H (by simp)
   ·rw [if_neg c6] at H
    have c6b0 : decide (x5_1 < (t181.length : Int)) = false := decide_eq_false c6
    clear c6
    obtain rfl := Option.some.inj H
    obtain ⟨Ao9, co9, eo9⟩ := Kd.zcB HO_4.out
    subst eo9
    go_wp2
    go_ret
    exact ⟨by first | rfl | (simp [zam, zan] <;> rfl) | (simp [*, zam, zan] <;> rfl), by repeat (first | (with_reducible first | exact HB.out | apply zac | apply zab | apply zad | refine zah ?_ GE180.out) | exact HB.out)⟩
end Go.Proofs.YtbicjgaadknmfaaDoor.P
end
section
namespace Go.Proofs.YtbicjgaadknmfaaDoor.P
open Go.RowKit Go.Proofs.YtbicjgaadknmfaaDoorW.PrintWords Go.Proofs.YtbicjgaadknmfaaDoorW.PrintLast Go.Proofs.YtbicjgaadknmfaaDoorW.PrintMore
attribute [local go_sem] zco zcn zce zcf zbU zbT zb5 zb3
set_option linter.unusedVariables false
set_option linter.unusedSimpArgs false
mutual
def zaB.l0 : Nat → List (S62) → Int → Int → Int → Option (Int × Int)
 | 0, _, _, _, _ => none
 | k + 1, x0, x6, x7, x8 => if x8 > 0 then ((zaB.f k x0 (wrap64 (x7 - 1))).bind fun bt187 => (zaB.l0 k x0 (mx x6 bt187.1) bt187.2 (wrap64 (x8 - 1)))) else (some (wrap64 (x6 + 1), x7))
def zaB.f : Nat → List (S62) → Int → Option (Int × Int)
 | 0, _, _ => none
 | k + 1, l0, a1 => if 0 ≤ a1 then (if a1 < (l0.length : Int) then ((zav.f k ((zbf l0 a1).f0)).bind fun t186 => (zaB.l0 k l0 0 a1 t186)) else (none)) else (none)
end
theorem zaB.zaX : ∀ k, (∀ y0 y1, LeO (zaB.f k y0 y1) (zaB.f (k + 1) y0 y1)) ∧ (∀ y0 y1 y2 y3, LeO (zaB.l0 k y0 y1 y2 y3) (zaB.l0 (k + 1) y0 y1 y2 y3))
 | 0 => ⟨fun _ _ r h => by simp [zaB.f] at h, fun _ _ _ _ r h => by simp [zaB.l0] at h⟩
 | k + 1 => by
  obtain ⟨ih0, ih1⟩ := zaB.zaX k
  refine ⟨?_, ?_⟩
  ·intro y0 y1
   unfold zaB.f
   repeat' first
   | (with_reducible exact ih0 _ _)
   | (with_reducible exact ih1 _ _ _ _)
   | (with_reducible exact zav.mono _ _)
   | (with_reducible exact LeO.refl _)
   | (with_reducible exact LeO.none _)
   | (with_reducible refine LeO.ite ?_ ?_)
   | (with_reducible refine LeO.bind ?_ (fun _ => ?_))
   | exact ih0 _ _
   | exact ih1 _ _ _ _
   | exact zav.mono _ _
   | exact LeO.none _
   | refine LeO.ite ?_ ?_
   | refine LeO.bind ?_ (fun _ => ?_)
  ·intro y0 y1 y2 y3
   unfold zaB.l0
   repeat' first
   | (with_reducible exact ih0 _ _)
   | (with_reducible exact ih1 _ _ _ _)
   | (with_reducible exact zav.mono _ _)
   | (with_reducible exact LeO.refl _)
   | (with_reducible exact LeO.none _)
   | (with_reducible refine LeO.ite ?_ ?_)
   | (with_reducible refine LeO.bind ?_ (fun _ => ?_))
   | exact ih0 _ _
   | exact ih1 _ _ _ _
   | exact zav.mono _ _
   | exact LeO.none _
   | refine LeO.ite ?_ ?_
   | refine LeO.bind ?_ (fun _ => ?_)
theorem zaB.mono : ∀ a0 a1 k, LeO (zaB.f k a0 a1) (zaB.f (k + 1) a0 a1) := by
 intro a0 a1 k
 obtain ⟨ih0, ih1⟩ := zaB.zaX k
 exact ih0 a0 a1
set_option maxHeartbeats 8000000 in
set_option maxRecDepth 100000 in
theorem zaB.calls (k : Nat) : ∀ (A0 : Option Addr) (c0 : Nat) (l0 : List (S62)) (a1 : Int) (r1 : Int) (r2 : Int) (w : World) (hr0 : Kd.C k62 w A0 l0.length l0) (hc0 : l0.length ≤ c0) (h : zaB.f k l0 a1 = some (r1, r2)),
  Calls Tryd.prog 116 #[.slice A0 l0.length c0, .int .i64 a1] w fun e w' => e = .returned (.tuple #[.int .i64 r1, .int .i64 r2]) ∧ Below w.heap.size w w' := by
 induction k using Nat.strongRecOn with
 | _ k ih =>
 intro A0 c0 l0 a1 r1 r2 w hr0 hc0 h
 cases k with
 | zero => exact absurd h (by simp [zaB.f])
 | succ k =>
 simp only [zaB.f] at h
 have HR0 := zaa.mk hr0
 have HC0 := zaa.mk hc0
 clear hr0 hc0
 have HB := zaa.mk (Below.refl w.heap.size w)
 have H : (if 0 ≤ a1 then (if a1 < (l0.length : Int) then ((zav.f k ((zbf l0 a1).f0)).bind fun t186 => (zaB.l0 k l0 0 a1 t186)) else (none)) else (none)) = some (r1, r2) := h
 clear h
 by_cases c3 : 0 ≤ a1
 ·rw [if_pos c3] at H
  have c3b0 : decide (0 ≤ a1) = true := decide_eq_true c3
  clear c3
  by_cases c4 : a1 < (l0.length : Int)
  ·rw [if_pos c4] at H
   have c4b0 : decide (a1 < (l0.length : Int)) = true := decide_eq_true c4
   clear c4
   replace H := Option.bind_eq_some_iff.mp H
   obtain ⟨t186, A50, H⟩ := H
   replace H : (zaB.l0 k l0 0 a1 t186) = some (r1, r2) := H
   have A5 := zaa.mk A50
   clear A50
   have H' := zaa.mk H
   clear H
   have p185 : 0 ≤ (a1 : Int) := of_decide_eq_true (by first | (with_reducible assumption) | assumption)
   have q185 : a1 < (l0.length : Int) := of_decide_eq_true (by first | (with_reducible assumption) | assumption)
   obtain ⟨ad185, A185_2, c185_2, e185, hx185_0, hx185_1, hx185_2, hl185_2, hi185_2⟩ := zdi HR0.out a1 p185 q185
   cases e185
   have HR185_2 := zaa.mk hi185_2
   have HC185_2 := zaa.mk hl185_2
   clear hi185_2 hl185_2
   replace p185 := eq_true p185
   replace q185 := eq_true q185
   go_enter Tryd.func116, Tryd.ntmps116
   go_wp2_with (first | ((with_reducible refine zaI (f := 117) rfl ?_); refine za3 (some 17) rfl rfl Tryd.func117 (by kernel_rfl) rfl #[.int .i64 ((zbf l0 a1).f0)] rfl (by (try simp only [List.map_toArray, List.map_cons, List.map_nil]); first | done | rfl | (simp only [List.length_drop, List.length_take]; rfl)) ?_; (with_reducible refine (zav.calls k ((zbf l0 a1).f0) t186 _ A5.out).mono ?_); rintro e w' ⟨rfl, ⟨nd, rfl⟩⟩; refine ⟨_, rfl, ?_⟩))
   go_loopg [6, 7, 8] k (fun kq v6 v7 v8 w' => ∃ (x6_1 : Int) (x7_1 : Int) (x8_1 : Int), v6 = .int .i64 x6_1 ∧ v7 = .int .i64 x7_1 ∧ v8 = .int .i64 x8_1 ∧ zaa (zaB.l0 kq l0 x6_1 x7_1 x8_1 = some (r1, r2)) ∧ zaa (kq ≤ k) ∧ zaa (Below w.heap.size w w'))
   case atStart => exact ⟨(0), (a1), (t186), (by first | rfl | (simp; done) | (simp [*]; done)), (by first | rfl | (simp; done) | (simp [*]; done)), (by first | rfl | (simp; done) | (simp [*]; done)), H', ⟨Nat.le_refl _⟩, ⟨by repeat (first | (with_reducible first | exact HB.out | apply zac | apply zab | apply zad) | exact HB.out)⟩⟩
   case round =>
    clear H'
    try clear c1
    try clear p1
    try clear q1
    try clear hx1
    try clear p2
    try clear c3
    try clear c3b0
    try clear c4
    try clear c4b0
    try clear hx185_0
    try clear hx185_1
    try clear hx185_2
    try clear p185
    try clear q185
    obtain ⟨x6_1, x7_1, x8_1, rfl, rfl, rfl, HA, HK1, HB⟩ := hrel
    cases gk with
    | zero => exact absurd HA.out (by simp [zaB.l0])
    | succ k1 =>
     have H := HA.out
     clear HA
     simp only [zaB.l0] at H
     by_cases c6 : x8_1 > 0
     ·rw [if_pos c6] at H
      have c6b0 : decide (0 < x8_1) = true := decide_eq_true c6
      clear c6
      replace H := Option.bind_eq_some_iff.mp H
      obtain ⟨⟨t187, t188⟩, A70, H⟩ := H
      replace H : (zaB.l0 k1 l0 (mx x6_1 t187) t188 (wrap64 (x8_1 - 1))) = some (r1, r2) := H
      have A7 := zaa.mk A70
      clear A70
      obtain ⟨ji8, hji8⟩ : ∃ j_ : Int, (mx x6_1 t187) = j_ := ⟨_, rfl⟩
      replace H : (zaB.l0 k1 l0 ji8 t188 (wrap64 (x8_1 - 1))) = some (r1, r2) := by first | (rw [hji8] at H; exact H) | (simp only [hji8] at H ⊢; exact H)
      (try rw [hji8] at A7)
      have H' := zaa.mk H
      clear H
      go_wp2_with (first | ((with_reducible refine zaI (f := 116) rfl ?_); refine za3 (some 26) rfl rfl Tryd.func116 (by kernel_rfl) rfl #[.slice (some ad185) l0.length c0, .int .i64 (wrap64 (x7_1 - 1))] rfl (by (try simp only [List.map_toArray, List.map_cons, List.map_nil]); first | done | rfl | (simp only [List.length_drop, List.length_take]; rfl)) ?_; (with_reducible refine (ih k1 (by have := HK1.out; omega) _ _ l0 (wrap64 (x7_1 - 1)) t187 t188 _ ?side1 ?side2 A7.out).mono ?_); (case side1 => repeat (first | exact (Kd.za2 HR0.out HB.out) | (with_reducible refine Kd.zaQ ?_ _) | (with_reducible refine Kd.zaR ?_ _) | (with_reducible refine Kd.zaZ ?_))); (case side2 => exact HC0.out); rintro e w9 ⟨rfl, hb⟩; refine ⟨_, rfl, ?_⟩; have n0_ := zaa.mk (zat (by repeat (first | (with_reducible first | exact HB.out | apply zac | apply zab | apply zad) | exact HB.out)) hb); clear HB; have HB := n0_; clear n0_; (try clear hb); (try clear hb2); (try clear hk); (try clear hi)))
      go_roundg k1
      case measure => have := HK1.out; omega
      case rel => exact ⟨(ji8), (t188), (wrap64 (x8_1 - 1)), (by first | rfl | (simp; done) | (simp only [← hji8] <;> (first | rfl | simp)) | (simp [*]; done)), (by first | rfl | (simp; done) | (simp [*]; done)), (by first | rfl | (simp; done) | (simp [*]; done)), H', ⟨by have := HK1.out; omega⟩, ⟨by repeat (first | (with_reducible first | exact HB.out | apply zac | apply zab | apply zad) | exact HB.out)⟩⟩
     ·rw [if_neg c6] at H
      have c6b0 : decide (0 < x8_1) = false := decide_eq_false c6
      clear c6
      simp only [Option.some.injEq, Prod.mk.injEq] at H
      obtain ⟨rfl, rfl⟩ := H
      go_wp2
      go_ret2
      exact ⟨by first | rfl | (simp [zam, zan] <;> rfl) | (simp [*, zam, zan] <;> rfl), by repeat (first | (with_reducible first | exact HB.out | apply zac | apply zab | apply zad) | exact HB.out)⟩
  ·rw [if_neg c4] at H
   exact absurd H (by simp)
 ·rw [if_neg c3] at H
  exact absurd H (by simp)
def za1.f (k : Nat) (l0 : List (S62)) : Option (Int) := (zaH.f k l0).bind fun t189 => (if t189 ≥ 0 then (some 0) else ((zaB.f k l0 (wrap64 ((l0.length : Int) - 1))).bind fun bt190 => (some bt190.1)))
theorem za1.mono : ∀ a0 k, LeO (za1.f k a0) (za1.f (k + 1) a0) := by
 intro a0 k
 unfold za1.f
 repeat' first
   | (with_reducible exact zaB.mono _ _ _)
   | (with_reducible exact zaH.mono _ _)
   | (with_reducible exact LeO.refl _)
   | (with_reducible exact LeO.none _)
   | (with_reducible refine LeO.ite ?_ ?_)
   | (with_reducible refine LeO.bind ?_ (fun _ => ?_))
   | exact zaB.mono _ _ _
   | exact zaH.mono _ _
   | exact LeO.none _
   | refine LeO.ite ?_ ?_
   | refine LeO.bind ?_ (fun _ => ?_)
set_option maxHeartbeats 8000000 in
set_option maxRecDepth 100000 in
theorem za1.calls (k : Nat) (A0 : Option Addr) (c0 : Nat) (l0 : List (S62)) (r : Int) (w : World) (hr0 : Kd.C k62 w A0 l0.length l0) (hc0 : l0.length ≤ c0) (h : za1.f k l0 = some r) :
  Calls Tryd.prog 74 #[.slice A0 l0.length c0] w fun e w' => e = .returned (.int .i64 r) ∧ Below w.heap.size w w' := by
 have HR0 := zaa.mk hr0
 have HC0 := zaa.mk hc0
 clear hr0 hc0
 have HB := zaa.mk (Below.refl w.heap.size w)
 have H : ((zaH.f k l0).bind fun t189 => (if t189 ≥ 0 then (some 0) else ((zaB.f k l0 (wrap64 ((l0.length : Int) - 1))).bind fun bt190 => (some bt190.1)))) = some r := h
 clear h
 replace H := Option.bind_eq_some_iff.mp H
 obtain ⟨t189, A20, H⟩ := H
 replace H : (if t189 ≥ 0 then (some 0) else ((zaB.f k l0 (wrap64 ((l0.length : Int) - 1))).bind fun bt190 => (some bt190.1))) = some r := H
 have A2 := zaa.mk A20
 clear A20
 by_cases c3 : t189 ≥ 0
 ·rw [if_pos c3] at H
  have c3b0 : decide (0 ≤ t189) = true := decide_eq_true c3
  clear c3
  obtain rfl := Option.some.inj H
  go_enter Tryd.func74, Tryd.ntmps74
  go_wp2_with (first | ((with_reducible refine zaI (f := 82) rfl ?_); refine za3 (some 6) rfl rfl Tryd.func82 (by kernel_rfl) rfl #[.slice A0 l0.length c0] rfl (by (try simp only [List.map_toArray, List.map_cons, List.map_nil]); first | done | rfl | (simp only [List.length_drop, List.length_take]; rfl)) ?_; (with_reducible refine (zaH.calls k _ _ l0 t189 _ ?side1 ?side2 A2.out).mono ?_); (case side1 => repeat (first | exact HR0.out | (with_reducible refine Kd.zaQ ?_ _) | (with_reducible refine Kd.zaR ?_ _) | (with_reducible refine Kd.zaZ ?_))); (case side2 => exact HC0.out); rintro e w' ⟨rfl, ⟨nd, rfl⟩⟩; refine ⟨_, rfl, ?_⟩))
  go_ret
  exact ⟨by first | rfl | (simp [zam, zan] <;> rfl) | (simp [*, zam, zan] <;> rfl), by repeat (first | (with_reducible first | exact HB.out | apply zac | apply zab | apply zad) | exact HB.out)⟩
 ·rw [if_neg c3] at H
  have c3b0 : decide (0 ≤ t189) = false := decide_eq_false c3
  clear c3
  replace H := Option.bind_eq_some_iff.mp H
  obtain ⟨⟨t190, t191⟩, A40, H⟩ := H
  replace H : (some t190) = some r := H
  have A4 := zaa.mk A40
  clear A40
  obtain rfl := Option.some.inj H
  go_enter Tryd.func74, Tryd.ntmps74
  go_wp2_with (first | ((with_reducible refine zaI (f := 82) rfl ?_); refine za3 (some 6) rfl rfl Tryd.func82 (by kernel_rfl) rfl #[.slice A0 l0.length c0] rfl (by (try simp only [List.map_toArray, List.map_cons, List.map_nil]); first | done | rfl | (simp only [List.length_drop, List.length_take]; rfl)) ?_; (with_reducible refine (zaH.calls k _ _ l0 t189 _ ?side1 ?side2 A2.out).mono ?_); (case side1 => repeat (first | exact HR0.out | (with_reducible refine Kd.zaQ ?_ _) | (with_reducible refine Kd.zaR ?_ _) | (with_reducible refine Kd.zaZ ?_))); (case side2 => exact HC0.out); rintro e w' ⟨rfl, ⟨nd, rfl⟩⟩; refine ⟨_, rfl, ?_⟩) | ((with_reducible refine zaI (f := 116) rfl ?_); refine za3 (some 13) rfl rfl Tryd.func116 (by kernel_rfl) rfl #[.slice A0 l0.length c0, .int .i64 (wrap64 ((l0.length : Int) - 1))] rfl (by (try simp only [List.map_toArray, List.map_cons, List.map_nil]); first | done | rfl | (simp only [List.length_drop, List.length_take]; rfl)) ?_; (with_reducible refine (zaB.calls k _ _ l0 (wrap64 ((l0.length : Int) - 1)) t190 t191 _ ?side1 ?side2 A4.out).mono ?_); (case side1 => repeat (first | exact HR0.out | (with_reducible refine Kd.zaQ ?_ _) | (with_reducible refine Kd.zaR ?_ _) | (with_reducible refine Kd.zaZ ?_))); (case side2 => exact HC0.out); rintro e w5 ⟨rfl, hb⟩; refine ⟨_, rfl, ?_⟩; have n0_ := zaa.mk (zat (by repeat (first | (with_reducible first | exact HB.out | apply zac | apply zab | apply zad) | exact HB.out)) hb); clear HB; have HB := n0_; clear n0_; (try clear hb); (try clear hb2); (try clear hk); (try clear hi)))
  go_ret
  exact ⟨by first | rfl | (simp [zam, zan] <;> rfl) | (simp [*, zam, zan] <;> rfl), by repeat (first | (with_reducible first | exact HB.out | apply zac | apply zab | apply zad) | exact HB.out)⟩
end Go.Proofs.YtbicjgaadknmfaaDoor.P
end
