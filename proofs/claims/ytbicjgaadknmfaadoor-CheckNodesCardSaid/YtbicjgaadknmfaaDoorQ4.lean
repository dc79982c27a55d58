import Derived.Test.YtbicjgaadknmfaaDoorQ1
import Derived.Test.YtbicjgaadknmfaaDoorQ3
section
namespace Go.Proofs.YtbicjgaadknmfaaDoor.P
open Go.RowKit Go.Proofs.YtbicjgaadknmfaaDoorW.PrintWords Go.Proofs.YtbicjgaadknmfaaDoorW.PrintLast Go.Proofs.YtbicjgaadknmfaaDoorW.PrintMore
attribute [local go_sem] zck zcl zca zcc zbQ zbP zb0 zb1
set_option linter.unusedVariables false
set_option linter.unusedSimpArgs false
mutual
def zaw.j0 : Nat → Int → Bool → Option (Int)
 | 0, _, _ => none
 | k + 1, x0, x8 => if x8 = true then (some 0) else (if x0 = 6 then (zaw.j1 k x0 true) else (zaw.j1 k x0 (x0 == 11)))
def zaw.j1 : Nat → Int → Bool → Option (Int)
 | 0, _, _ => none
 | k + 1, x0, x14 => if x14 = true then (some 1) else (if x0 ≥ 7 then (if x0 ≤ 10 then (some 2) else (some (-1))) else (some (-1)))
end
def zaw.f (k : Nat) (a0 : Int) : Option (Int) := if a0 ≥ 1 then (zaw.j0 k a0 (decide (a0 ≤ 5))) else (zaw.j0 k a0 false)
theorem zaw.zaR : ∀ k, (∀ y0 y1, LeO (zaw.j0 k y0 y1) (zaw.j0 (k + 1) y0 y1)) ∧ (∀ y0 y1, LeO (zaw.j1 k y0 y1) (zaw.j1 (k + 1) y0 y1))
 | 0 => ⟨fun _ _ r h => by simp [zaw.j0] at h, fun _ _ r h => by simp [zaw.j1] at h⟩
 | k + 1 => by
  obtain ⟨ih0, ih1⟩ := zaw.zaR k
  refine ⟨?_, ?_⟩
  ·intro y0 y1
   unfold zaw.j0
   repeat' first
   | (with_reducible exact ih0 _ _)
   | (with_reducible exact ih1 _ _)
   | (with_reducible exact LeO.refl _)
   | (with_reducible exact LeO.none _)
   | (with_reducible refine LeO.ite ?_ ?_)
   | (with_reducible refine LeO.bind ?_ (fun _ => ?_))
   | exact ih0 _ _
   | exact ih1 _ _
   | exact LeO.none _
   | refine LeO.ite ?_ ?_
   | refine LeO.bind ?_ (fun _ => ?_)
  ·intro y0 y1
   unfold zaw.j1
   repeat' first
   | (with_reducible exact ih0 _ _)
   | (with_reducible exact ih1 _ _)
   | (with_reducible exact LeO.refl _)
   | (with_reducible exact LeO.none _)
   | (with_reducible refine LeO.ite ?_ ?_)
   | (with_reducible refine LeO.bind ?_ (fun _ => ?_))
   | exact ih0 _ _
   | exact ih1 _ _
   | exact LeO.none _
   | refine LeO.ite ?_ ?_
   | refine LeO.bind ?_ (fun _ => ?_)
theorem zaw.mono : ∀ a0 k, LeO (zaw.f k a0) (zaw.f (k + 1) a0) := by
 intro a0 k
 obtain ⟨ih0, ih1⟩ := zaw.zaR k
 unfold zaw.f
 repeat' first
   | (with_reducible exact ih0 _ _)
   | (with_reducible exact ih1 _ _)
   | (with_reducible exact LeO.refl _)
   | (with_reducible exact LeO.none _)
   | (with_reducible refine LeO.ite ?_ ?_)
   | (with_reducible refine LeO.bind ?_ (fun _ => ?_))
   | exact ih0 _ _
   | exact ih1 _ _
   | exact LeO.none _
   | refine LeO.ite ?_ ?_
   | refine LeO.bind ?_ (fun _ => ?_)
set_option maxHeartbeats 8000000 in
set_option maxRecDepth 100000 in
theorem zaw.calls (k : Nat) (a0 : Int) (r : Int) (w : World) (h : zaw.f k a0 = some r) :
  Calls Tryd.prog 117 #[.int .i64 a0] w fun e w' => e = .returned (.int .i64 r) ∧ zao w w' := by
 have H : (if a0 ≥ 1 then (zaw.j0 k a0 (decide (a0 ≤ 5))) else (zaw.j0 k a0 false)) = some r := h
 clear h
 have HC2 := zaa.mk H
 clear H
 go_enter Tryd.func117, Tryd.ntmps117
 go_upto_region 1 with (fail)
 go_cut [8] (fun v8 wc => ∃ (kq : Nat) (x8_1 : Bool), v8 = .bool x8_1 ∧ zaa (zaw.j0 kq a0 x8_1 = some r) ∧ zaa (kq ≤ k) ∧ zao w wc)
 case first =>
  have H := HC2.out
  clear HC2
  by_cases c3 : a0 ≥ 1
  ·rw [if_pos c3] at H
   have c3b0 : decide (1 ≤ a0) = true := decide_eq_true c3
   clear c3
   (first | rw [c3b0] | (simp only [zas, zat]; rw [c3b0]) | skip)
   have H' := zaa.mk H
   clear H
   go_wp2
   go_meet
   case rel => exact ⟨_, (decide (a0 ≤ 5)), (by first | rfl | (simp; done) | (simp [*]; done)), H', ⟨by first | omega | exact Nat.le_refl _⟩, by repeat (first | exact zao.refl _ | apply zao.step)⟩
  ·rw [if_neg c3] at H
   have c3b0 : decide (1 ≤ a0) = false := decide_eq_false c3
   clear c3
   (first | rw [c3b0] | (simp only [zas, zat]; rw [c3b0]) | skip)
   have H' := zaa.mk H
   clear H
   go_wp2
   go_meet
   case rel => exact ⟨_, (false), (by first | rfl | (simp; done) | (simp [*]; done)), H', ⟨by first | omega | exact Nat.le_refl _⟩, by repeat (first | exact zao.refl _ | apply zao.step)⟩
 case rest =>
  clear HC2
  try clear c1
  try clear p2
  try clear c3
  try clear c3b0
  obtain ⟨kq, x8_1, rfl, HA, HJ1, ⟨mc1, rfl⟩⟩ := hcut
  cases kq with
  | zero => exact absurd HA.out (by simp [zaw.j0])
  | succ kj1 =>
   have H := HA.out
   clear HA
   simp only [zaw.j0] at H
   by_cases c4 : x8_1 = true
   ·subst c4
    have H1 : (some 0) = some r := by rw [if_pos rfl] at H; exact H
    clear H
    have H := H1
    clear H1
    obtain rfl := Option.some.inj H
    go_wp2
    go_ret
    exact ⟨by first | rfl | (simp; done) | (simp [*]; done), by repeat (first | exact zao.refl _ | apply zao.step)⟩
   ·replace c4 := Bool.eq_false_iff.mpr c4
    subst c4
    have H1 : (if a0 = 6 then (zaw.j1 kj1 a0 true) else (zaw.j1 kj1 a0 (a0 == 11))) = some r := by rw [if_neg (show ¬ (false = true) by decide)] at H; exact H
    clear H
    have H := H1
    clear H1
    have HC5 := zaa.mk H
    clear H
    go_upto_region 3 with (fail)
    go_cut [14] (fun v14 wc => ∃ (kq : Nat) (x14_4 : Bool), v14 = .bool x14_4 ∧ zaa (zaw.j1 kq a0 x14_4 = some r) ∧ zaa (kq ≤ kj1) ∧ zao w wc)
    case first =>
     have H := HC5.out
     clear HC5
     by_cases c6 : a0 = 6
     ·rw [if_pos c6] at H
      have c6b0 : (a0 == 6) = true := beq_iff_eq.mpr c6
      have c6b1 : (a0 != 6) = false := bne_eq_false_iff_eq.mpr c6
      clear c6
      (first | rw [c6b0] | (simp only [zas, zat]; rw [c6b0]) | skip)
      have H' := zaa.mk H
      clear H
      go_wp2
      go_meet
      case rel => exact ⟨_, (true), (by first | rfl | (simp; done) | (simp [*]; done)), H', ⟨by have := HJ1.out; first | omega | exact Nat.le_refl _⟩, by repeat (first | exact zao.refl _ | apply zao.step)⟩
     ·rw [if_neg c6] at H
      have c6b0 : (a0 == 6) = false := beq_eq_false_iff_ne.mpr c6
      have c6b1 : (a0 != 6) = true := bne_iff_ne.mpr c6
      (first | rw [c6b0] | (simp only [zas, zat]; rw [c6b0]) | skip)
      have H' := zaa.mk H
      clear H
      go_wp2
      go_meet
      case rel => exact ⟨_, ((a0 == 11)), (by first | rfl | (simp; done) | (simp [*]; done)), H', ⟨by have := HJ1.out; first | omega | exact Nat.le_refl _⟩, by repeat (first | exact zao.refl _ | apply zao.step)⟩
    case rest =>
     clear HC5
     try clear c1
     try clear p2
     try clear c3
     try clear c3b0
     try clear c4
     try clear c6
     try clear c6b0
     try clear c6b1
     try clear p2
     obtain ⟨kq, x14_4, rfl, HA, HJ4, ⟨mc4, rfl⟩⟩ := hcut
     cases kq with
     | zero => exact absurd HA.out (by simp [zaw.j1])
     | succ kj4 =>
      have H := HA.out
      clear HA
      simp only [zaw.j1] at H
      by_cases c7 : x14_4 = true
      ·subst c7
       have H1 : (some 1) = some r := by rw [if_pos rfl] at H; exact H
       clear H
       have H := H1
       clear H1
       obtain rfl := Option.some.inj H
       go_wp2
       go_ret
       exact ⟨by first | rfl | (simp; done) | (simp [*]; done), by repeat (first | exact zao.refl _ | apply zao.step)⟩
      ·replace c7 := Bool.eq_false_iff.mpr c7
       subst c7
       have H1 : (if a0 ≥ 7 then (if a0 ≤ 10 then (some 2) else (some (-1))) else (some (-1))) = some r := by rw [if_neg (show ¬ (false = true) by decide)] at H; exact H
       clear H
       have H := H1
       clear H1
       by_cases c8 : a0 ≥ 7
       ·rw [if_pos c8] at H
        have c8b0 : decide (7 ≤ a0) = true := decide_eq_true c8
        clear c8
        by_cases c9 : a0 ≤ 10
        ·rw [if_pos c9] at H
         have c9b0 : decide (a0 ≤ 10) = true := decide_eq_true c9
         clear c9
         obtain rfl := Option.some.inj H
         go_wp2
         go_ret
         exact ⟨by first | rfl | (simp; done) | (simp [*]; done), by repeat (first | exact zao.refl _ | apply zao.step)⟩
        ·rw [if_neg c9] at H
         have c9b0 : decide (a0 ≤ 10) = false := decide_eq_false c9
         clear c9
         obtain rfl := Option.some.inj H
         go_wp2
         go_ret
         exact ⟨by first | rfl | (simp; done) | (simp [*]; done), by repeat (first | exact zao.refl _ | apply zao.step)⟩
       ·rw [if_neg c8] at H
        have c8b0 : decide (7 ≤ a0) = false := decide_eq_false c8
        clear c8
        obtain rfl := Option.some.inj H
        go_wp2
        go_ret
        exact ⟨by first | rfl | (simp; done) | (simp [*]; done), by repeat (first | exact zao.refl _ | apply zao.step)⟩
def zaD.l0 : Nat → List (S62) → Int → Int → Option (Int)
 | 0, _, _, _ => none
 | k + 1, x0, x3, x4 => if x4 < (x0.length : Int) then (if 0 ≤ x4 then ((zaw.f k ((zaV x0 x4).f0)).bind fun t167 => (if t167 < 0 then (some x4) else (if x3 < t167 then (some x4) else (zaD.l0 k x0 (wrap64 ((wrap64 (x3 - t167)) + 1)) (wrap64 (x4 + 1)))))) else (none)) else (if x3 = 1 then (some (-1)) else (some (x0.length : Int)))
def zaD.f (k : Nat) (l0 : List (S62)) : Option (Int) := zaD.l0 k l0 0 0
theorem zaD.zaR : ∀ k, (∀ y0 y1 y2, LeO (zaD.l0 k y0 y1 y2) (zaD.l0 (k + 1) y0 y1 y2))
 | 0 => fun _ _ _ r h => by simp [zaD.l0] at h
 | k + 1 => by
  have ih0 := zaD.zaR k
  ·intro y0 y1 y2
   unfold zaD.l0
   repeat' first
   | (with_reducible exact ih0 _ _ _)
   | (with_reducible exact zaw.mono _ _)
   | (with_reducible exact LeO.refl _)
   | (with_reducible exact LeO.none _)
   | (with_reducible refine LeO.ite ?_ ?_)
   | (with_reducible refine LeO.bind ?_ (fun _ => ?_))
   | exact ih0 _ _ _
   | exact zaw.mono _ _
   | exact LeO.none _
   | refine LeO.ite ?_ ?_
   | refine LeO.bind ?_ (fun _ => ?_)
theorem zaD.mono : ∀ a0 k, LeO (zaD.f k a0) (zaD.f (k + 1) a0) := by
 intro a0 k
 have ih0 := zaD.zaR k
 unfold zaD.f
 repeat' first
   | (with_reducible exact ih0 _ _ _)
   | (with_reducible exact zaw.mono _ _)
   | (with_reducible exact LeO.refl _)
   | (with_reducible exact LeO.none _)
   | (with_reducible refine LeO.ite ?_ ?_)
   | (with_reducible refine LeO.bind ?_ (fun _ => ?_))
   | exact ih0 _ _ _
   | exact zaw.mono _ _
   | exact LeO.none _
   | refine LeO.ite ?_ ?_
   | refine LeO.bind ?_ (fun _ => ?_)
set_option maxHeartbeats 8000000 in
set_option maxRecDepth 100000 in
theorem zaD.calls (k : Nat) (A0 : Option Addr) (c0 : Nat) (l0 : List (S62)) (r : Int) (w : World) (hr0 : Kd.C k62 w A0 l0.length l0) (hc0 : l0.length ≤ c0) (h : zaD.f k l0 = some r) :
  Calls Tryd.prog 82 #[.slice A0 l0.length c0] w fun e w' => e = .returned (.int .i64 r) ∧ zao w w' := by
 have HR0 := zaa.mk hr0
 have HC0 := zaa.mk hc0
 clear hr0 hc0
 have H : (zaD.l0 k l0 0 0) = some r := h
 clear h
 have H' := zaa.mk H
 clear H
 go_enter Tryd.func82, Tryd.ntmps82
 go_wp2
 go_loopg [3, 4] k (fun kq v3 v4 w' => ∃ (x3_1 : Int) (x4_1 : Int), v3 = .int .i64 x3_1 ∧ v4 = .int .i64 x4_1 ∧ zaa (zaD.l0 kq l0 x3_1 x4_1 = some r) ∧ zaa (kq ≤ k) ∧ zao w w')
 case atStart => exact ⟨(0), (0), (by first | rfl | (simp; done) | (simp [*]; done)), (by first | rfl | (simp; done) | (simp [*]; done)), H', ⟨Nat.le_refl _⟩, by repeat (first | exact zao.refl _ | apply zao.step)⟩
 case round =>
  clear H'
  obtain ⟨x3_1, x4_1, rfl, rfl, HA, HK1, ⟨m1, rfl⟩⟩ := hrel
  cases gk with
  | zero => exact absurd HA.out (by simp [zaD.l0])
  | succ k1 =>
   have H := HA.out
   clear HA
   simp only [zaD.l0] at H
   by_cases c2 : x4_1 < (l0.length : Int)
   ·rw [if_pos c2] at H
    have c2b0 : decide (x4_1 < (l0.length : Int)) = true := decide_eq_true c2
    clear c2
    by_cases c3 : 0 ≤ x4_1
    ·rw [if_pos c3] at H
     have c3b0 : decide (0 ≤ x4_1) = true := decide_eq_true c3
     clear c3
     replace H := Option.bind_eq_some_iff.mp H
     obtain ⟨t167, A40, H⟩ := H
     replace H : (if t167 < 0 then (some x4_1) else (if x3_1 < t167 then (some x4_1) else (zaD.l0 k1 l0 (wrap64 ((wrap64 (x3_1 - t167)) + 1)) (wrap64 (x4_1 + 1))))) = some r := H
     have A4 := zaa.mk A40
     clear A40
     by_cases c5 : t167 < 0
     ·rw [if_pos c5] at H
      have c5b0 : decide (t167 < 0) = true := decide_eq_true c5
      clear c5
      obtain rfl := Option.some.inj H
      have p166 : 0 ≤ (x4_1 : Int) := of_decide_eq_true (by first | (with_reducible assumption) | assumption)
      have q166 : x4_1 < (l0.length : Int) := of_decide_eq_true (by first | (with_reducible assumption) | assumption)
      obtain ⟨ad166, A166_2, c166_2, e166, hx166_0, hx166_1, hx166_2, hl166_2, hi166_2⟩ := zcH HR0.out x4_1 p166 q166
      cases e166
      have HR166_2 := zaa.mk hi166_2
      have HC166_2 := zaa.mk hl166_2
      clear hi166_2 hl166_2
      replace p166 := eq_true p166
      replace q166 := eq_true q166
      go_wp2_with (first | ((with_reducible refine zaG (f := 117) rfl ?_); refine za2 (some 17) rfl rfl Tryd.func117 (by kernel_rfl) rfl #[.int .i64 ((zaV l0 x4_1).f0)] rfl (by (try simp only [List.map_toArray, List.map_cons, List.map_nil]); first | done | rfl | (simp only [List.length_drop, List.length_take]; rfl)) ?_; (with_reducible refine (zaw.calls k1 ((zaV l0 x4_1).f0) t167 _ A4.out).mono ?_); rintro e w' ⟨rfl, ⟨nd, rfl⟩⟩; refine ⟨_, rfl, ?_⟩))
      go_ret
      exact ⟨by first | rfl | (simp; done) | (simp [*]; done), by repeat (first | exact zao.refl _ | apply zao.step)⟩
     ·rw [if_neg c5] at H
      have c5b0 : decide (t167 < 0) = false := decide_eq_false c5
      clear c5
      by_cases c6 : x3_1 < t167
      ·rw [if_pos c6] at H
       have c6b0 : decide (x3_1 < t167) = true := decide_eq_true c6
       clear c6
       obtain rfl := Option.some.inj H
       have p166 : 0 ≤ (x4_1 : Int) := of_decide_eq_true (by first | (with_reducible assumption) | assumption)
       have q166 : x4_1 < (l0.length : Int) := of_decide_eq_true (by first | (with_reducible assumption) | assumption)
       obtain ⟨ad166, A166_2, c166_2, e166, hx166_0, hx166_1, hx166_2, hl166_2, hi166_2⟩ := zcH HR0.out x4_1 p166 q166
       cases e166
       have HR166_2 := zaa.mk hi166_2
       have HC166_2 := zaa.mk hl166_2
       clear hi166_2 hl166_2
       replace p166 := eq_true p166
       replace q166 := eq_true q166
       go_wp2_with (first | ((with_reducible refine zaG (f := 117) rfl ?_); refine za2 (some 17) rfl rfl Tryd.func117 (by kernel_rfl) rfl #[.int .i64 ((zaV l0 x4_1).f0)] rfl (by (try simp only [List.map_toArray, List.map_cons, List.map_nil]); first | done | rfl | (simp only [List.length_drop, List.length_take]; rfl)) ?_; (with_reducible refine (zaw.calls k1 ((zaV l0 x4_1).f0) t167 _ A4.out).mono ?_); rintro e w' ⟨rfl, ⟨nd, rfl⟩⟩; refine ⟨_, rfl, ?_⟩))
       go_ret
       exact ⟨by first | rfl | (simp; done) | (simp [*]; done), by repeat (first | exact zao.refl _ | apply zao.step)⟩
      ·rw [if_neg c6] at H
       have c6b0 : decide (x3_1 < t167) = false := decide_eq_false c6
       clear c6
       have H' := zaa.mk H
       clear H
       have p166 : 0 ≤ (x4_1 : Int) := of_decide_eq_true (by first | (with_reducible assumption) | assumption)
       have q166 : x4_1 < (l0.length : Int) := of_decide_eq_true (by first | (with_reducible assumption) | assumption)
       obtain ⟨ad166, A166_2, c166_2, e166, hx166_0, hx166_1, hx166_2, hl166_2, hi166_2⟩ := zcH HR0.out x4_1 p166 q166
       cases e166
       have HR166_2 := zaa.mk hi166_2
       have HC166_2 := zaa.mk hl166_2
       clear hi166_2 hl166_2
       replace p166 := eq_true p166
       replace q166 := eq_true q166
       go_wp2_with (first | ((with_reducible refine zaG (f := 117) rfl ?_); refine za2 (some 17) rfl rfl Tryd.func117 (by kernel_rfl) rfl #[.int .i64 ((zaV l0 x4_1).f0)] rfl (by (try simp only [List.map_toArray, List.map_cons, List.map_nil]); first | done | rfl | (simp only [List.length_drop, List.length_take]; rfl)) ?_; (with_reducible refine (zaw.calls k1 ((zaV l0 x4_1).f0) t167 _ A4.out).mono ?_); rintro e w' ⟨rfl, ⟨nd, rfl⟩⟩; refine ⟨_, rfl, ?_⟩))
       go_roundg k1
       case measure => have := HK1.out; omega
       case rel => exact ⟨(wrap64 ((wrap64 (x3_1 - t167)) + 1)), (wrap64 (x4_1 + 1)), (by first | rfl | (simp; done) | (simp [*]; done)), (by first | rfl | (simp; done) | (simp [*]; done)), H', ⟨by have := HK1.out; omega⟩, by repeat (first | exact zao.refl _ | apply zao.step)⟩
    ·rw [if_neg c3] at H
     exact absurd H (by simp)
   ·rw [if_neg c2] at H
    have c2b0 : decide (x4_1 < (l0.length : Int)) = false := decide_eq_false c2
    clear c2
    by_cases c7 : x3_1 = 1
    ·rw [if_pos c7] at H
     have c7b0 : (x3_1 == 1) = true := beq_iff_eq.mpr c7
     have c7b1 : (x3_1 != 1) = false := bne_eq_false_iff_eq.mpr c7
     clear c7
     obtain rfl := Option.some.inj H
     go_wp2
     go_ret
     exact ⟨by first | rfl | (simp; done) | (simp [*]; done), by repeat (first | exact zao.refl _ | apply zao.step)⟩
    ·rw [if_neg c7] at H
     have c7b0 : (x3_1 == 1) = false := beq_eq_false_iff_ne.mpr c7
     have c7b1 : (x3_1 != 1) = true := bne_iff_ne.mpr c7
     obtain rfl := Option.some.inj H
     go_wp2
     go_ret
     exact ⟨by first | rfl | (simp; done) | (simp [*]; done), by repeat (first | exact zao.refl _ | apply zao.step)⟩
def zaB.l0 : Nat → List (S62) → Int → Int → Int → Int → Int → Option (Int)
 | 0, _, _, _, _, _, _ => none
 | k + 1, x0, x1, x2, x3, x9, x10 => if x10 < (x0.length : Int) then (if x10 = x9 then (some x10) else (if 0 ≤ x10 then ((zar.f k ((zaV x0 x10).f0) ((zaV x0 x10).f1) ((zaV x0 x10).f2) x1 x2 x3).bind fun t170 => (if t170 = true then (zaB.l0 k x0 x1 x2 x3 x9 (wrap64 (x10 + 1))) else (some x10))) else (none))) else (some x9)
def zaB.f (k : Nat) (l0 : List (S62)) (a1 : Int) (a2 : Int) (a3 : Int) : Option (Int) := (zaD.f k l0).bind fun t168 => (zaB.l0 k l0 a1 a2 a3 t168 0)
theorem zaB.zaR : ∀ k, (∀ y0 y1 y2 y3 y4 y5, LeO (zaB.l0 k y0 y1 y2 y3 y4 y5) (zaB.l0 (k + 1) y0 y1 y2 y3 y4 y5))
 | 0 => fun _ _ _ _ _ _ r h => by simp [zaB.l0] at h
 | k + 1 => by
  have ih0 := zaB.zaR k
  ·intro y0 y1 y2 y3 y4 y5
   unfold zaB.l0
   repeat' first
   | (with_reducible exact ih0 _ _ _ _ _ _)
   | (with_reducible exact zaD.mono _ _)
   | (with_reducible exact zar.mono _ _ _ _ _ _ _)
   | (with_reducible exact LeO.refl _)
   | (with_reducible exact LeO.none _)
   | (with_reducible refine LeO.ite ?_ ?_)
   | (with_reducible refine LeO.bind ?_ (fun _ => ?_))
   | exact ih0 _ _ _ _ _ _
   | exact zaD.mono _ _
   | exact zar.mono _ _ _ _ _ _ _
   | exact LeO.none _
   | refine LeO.ite ?_ ?_
   | refine LeO.bind ?_ (fun _ => ?_)
theorem zaB.mono : ∀ a0 a1 a2 a3 k, LeO (zaB.f k a0 a1 a2 a3) (zaB.f (k + 1) a0 a1 a2 a3) := by
 intro a0 a1 a2 a3 k
 have ih0 := zaB.zaR k
 unfold zaB.f
 repeat' first
   | (with_reducible exact ih0 _ _ _ _ _ _)
   | (with_reducible exact zaD.mono _ _)
   | (with_reducible exact zar.mono _ _ _ _ _ _ _)
   | (with_reducible exact LeO.refl _)
   | (with_reducible exact LeO.none _)
   | (with_reducible refine LeO.ite ?_ ?_)
   | (with_reducible refine LeO.bind ?_ (fun _ => ?_))
   | exact ih0 _ _ _ _ _ _
   | exact zaD.mono _ _
   | exact zar.mono _ _ _ _ _ _ _
   | exact LeO.none _
   | refine LeO.ite ?_ ?_
   | refine LeO.bind ?_ (fun _ => ?_)
set_option maxHeartbeats 8000000 in
set_option maxRecDepth 100000 in
theorem zaB.calls (k : Nat) (A0 : Option Addr) (c0 : Nat) (l0 : List (S62)) (a1 : Int) (a2 : Int) (a3 : Int) (r : Int) (w : World) (hr0 : Kd.C k62 w A0 l0.length l0) (hc0 : l0.length ≤ c0) (h : zaB.f k l0 a1 a2 a3 = some r) :
  Calls Tryd.prog 34 #[.slice A0 l0.length c0, .int .i64 a1, .int .i64 a2, .int .i64 a3] w fun e w' => e = .returned (.int .i64 r) ∧ Below w.heap.size w w' := by
 have hu62 := Tryd.underlying62
 have HR0 := zaa.mk hr0
 have HC0 := zaa.mk hc0
 clear hr0 hc0
 have HB := zaa.mk (Below.refl w.heap.size w)
 have H : ((zaD.f k l0).bind fun t168 => (zaB.l0 k l0 a1 a2 a3 t168 0)) = some r := h
 clear h
 replace H := Option.bind_eq_some_iff.mp H
 obtain ⟨t168, A50, H⟩ := H
 replace H : (zaB.l0 k l0 a1 a2 a3 t168 0) = some r := H
 have A5 := zaa.mk A50
 clear A50
 have H' := zaa.mk H
 clear H
 go_enter Tryd.func34, Tryd.ntmps34
 go_wp2_with (first | ((with_reducible refine zaG (f := 82) rfl ?_); refine za2 (some 12) rfl rfl Tryd.func82 (by kernel_rfl) rfl #[.slice A0 l0.length c0] rfl (by (try simp only [List.map_toArray, List.map_cons, List.map_nil]); first | done | rfl | (simp only [List.length_drop, List.length_take]; rfl)) ?_; (with_reducible refine (zaD.calls k _ _ l0 t168 _ ?side1 ?side2 A5.out).mono ?_); (case side1 => repeat (first | exact HR0.out | (with_reducible refine Kd.zaT ?_ _) | (with_reducible refine Kd.zaU ?_ _) | (with_reducible refine Kd.za0 ?_))); (case side2 => exact HC0.out); rintro e w' ⟨rfl, ⟨nd, rfl⟩⟩; refine ⟨_, rfl, ?_⟩))
 go_loopg [10] k (fun kq v10 w' => ∃ (x10_1 : Int), v10 = .int .i64 x10_1 ∧ zaa (zaB.l0 kq l0 a1 a2 a3 t168 x10_1 = some r) ∧ zaa (kq ≤ k) ∧ zaa (Below w.heap.size w w'))
 case atStart => exact ⟨(0), (by first | rfl | (simp; done) | (simp [*]; done)), H', ⟨Nat.le_refl _⟩, ⟨by repeat (first | (with_reducible first | exact HB.out | apply zac | apply zab | apply zad) | exact HB.out)⟩⟩
 case round =>
  clear H'
  try clear p2
  try clear c3
  obtain ⟨x10_1, rfl, HA, HK1, HB⟩ := hrel
  cases gk with
  | zero => exact absurd HA.out (by simp [zaB.l0])
  | succ k1 =>
   have H := HA.out
   clear HA
   simp only [zaB.l0] at H
   by_cases c6 : x10_1 < (l0.length : Int)
   ·rw [if_pos c6] at H
    have c6b0 : decide (x10_1 < (l0.length : Int)) = true := decide_eq_true c6
    clear c6
    by_cases c7 : x10_1 = t168
    ·rw [if_pos c7] at H
     have c7b0 : (x10_1 == t168) = true := beq_iff_eq.mpr c7
     have c7b1 : (x10_1 != t168) = false := bne_eq_false_iff_eq.mpr c7
     clear c7
     obtain rfl := Option.some.inj H
     go_wp2
     go_ret
     exact ⟨by first | rfl | (simp [zan, zam] <;> rfl) | (simp [*, zan, zam] <;> rfl), by repeat (first | (with_reducible first | exact HB.out | apply zac | apply zab | apply zad) | exact HB.out)⟩
    ·rw [if_neg c7] at H
     have c7b0 : (x10_1 == t168) = false := beq_eq_false_iff_ne.mpr c7
     have c7b1 : (x10_1 != t168) = true := bne_iff_ne.mpr c7
     by_cases c8 : 0 ≤ x10_1
     ·rw [if_pos c8] at H
      have c8b0 : decide (0 ≤ x10_1) = true := decide_eq_true c8
      clear c8
      replace H := Option.bind_eq_some_iff.mp H
      obtain ⟨t170, A90, H⟩ := H
      replace H : (if t170 = true then (zaB.l0 k1 l0 a1 a2 a3 t168 (wrap64 (x10_1 + 1))) else (some x10_1)) = some r := H
      have A9 := zaa.mk A90
      clear A90
      by_cases c10 : t170 = true
      ·subst c10
       have H1 : (zaB.l0 k1 l0 a1 a2 a3 t168 (wrap64 (x10_1 + 1))) = some r := by rw [if_pos rfl] at H; exact H
       clear H
       have H := H1
       clear H1
       have H' := zaa.mk H
       clear H
       have p169 : 0 ≤ (x10_1 : Int) := of_decide_eq_true (by first | (with_reducible assumption) | assumption)
       have q169 : x10_1 < (l0.length : Int) := of_decide_eq_true (by first | (with_reducible assumption) | assumption)
       obtain ⟨ad169, A169_2, c169_2, e169, hx169_0, hx169_1, hx169_2, hl169_2, hi169_2⟩ := zcH HR0.out x10_1 p169 q169
       cases e169
       replace hx169_0 := (HB.out.cell (World.block_lt_of_cell? w _ hx169_0)).trans hx169_0
       replace hx169_1 := (HB.out.cell (World.block_lt_of_cell? w _ hx169_1)).trans hx169_1
       replace hx169_2 := (HB.out.cell (World.block_lt_of_cell? w _ hx169_2)).trans hx169_2
       have HR169_2 := zaa.mk hi169_2
       have HC169_2 := zaa.mk hl169_2
       clear hi169_2 hl169_2
       replace p169 := eq_true p169
       replace q169 := eq_true q169
       go_wp2_with (first | (go_at_call 32; (with_reducible refine (zar.calls k1 ((zaV l0 x10_1).f0) ((zaV l0 x10_1).f1) _ _ ((zaV l0 x10_1).f2) a1 a2 a3 true _ ?side1 ?side2 A9.out).mono ?_); (case side1 => repeat (first | exact (Kd.za7 HR169_2.out HB.out) | (with_reducible refine Kd.zaT ?_ _) | (with_reducible refine Kd.zaU ?_ _) | (with_reducible refine Kd.za0 ?_))); (case side2 => exact HC169_2.out); rintro e w11 ⟨rfl, hb⟩; have n0_ := zaa.mk (zax (by repeat (first | (with_reducible first | exact HB.out | apply zac | apply zab | apply zad) | exact HB.out)) hb); clear HB; have HB := n0_; clear n0_; (try clear hb); (try clear hb2); (try clear hk); (try clear hi)))
       go_roundg k1
       case measure => have := HK1.out; omega
       case rel => exact ⟨(wrap64 (x10_1 + 1)), (by first | rfl | (simp; done) | (simp [*]; done)), H', ⟨by have := HK1.out; omega⟩, ⟨by repeat (first | (with_reducible first | exact HB.out | apply zac | apply zab | apply zad) | exact HB.out)⟩⟩
      ·replace c10 := Bool.eq_false_iff.mpr c10
       subst c10
       have H1 : (some x10_1) = some r := by rw [if_neg (show ¬ (false = true) by decide)] at H; exact H
       clear H
       have H := H1
       clear H1
       obtain rfl := Option.some.inj H
       have p169 : 0 ≤ (x10_1 : Int) := of_decide_eq_true (by first | (with_reducible assumption) | assumption)
       have q169 : x10_1 < (l0.length : Int) := of_decide_eq_true (by first | (with_reducible assumption) | assumption)
       obtain ⟨ad169, A169_2, c169_2, e169, hx169_0, hx169_1, hx169_2, hl169_2, hi169_2⟩ := zcH HR0.out x10_1 p169 q169
       cases e169
       replace hx169_0 := (HB.out.cell (World.block_lt_of_cell? w _ hx169_0)).trans hx169_0
       replace hx169_1 := (HB.out.cell (World.block_lt_of_cell? w _ hx169_1)).trans hx169_1
       replace hx169_2 := (HB.out.cell (World.block_lt_of_cell? w _ hx169_2)).trans hx169_2
       have HR169_2 := zaa.mk hi169_2
       have HC169_2 := zaa.mk hl169_2
       clear hi169_2 hl169_2
       replace p169 := eq_true p169
       replace q169 := eq_true q169
       go_wp2_with (first | (go_at_call 32; (with_reducible refine (zar.calls k1 ((zaV l0 x10_1).f0) ((zaV l0 x10_1).f1) _ _ ((zaV l0 x10_1).f2) a1 a2 a3 false _ ?side1 ?side2 A9.out).mono ?_); (case side1 => repeat (first | exact (Kd.za7 HR169_2.out HB.out) | (with_reducible refine Kd.zaT ?_ _) | (with_reducible refine Kd.zaU ?_ _) | (with_reducible refine Kd.za0 ?_))); (case side2 => exact HC169_2.out); rintro e w12 ⟨rfl, hb⟩; have n0_ := zaa.mk (zax (by repeat (first | (with_reducible first | exact HB.out | apply zac | apply zab | apply zad) | exact HB.out)) hb); clear HB; have HB := n0_; clear n0_; (try clear hb); (try clear hb2); (try clear hk); (try clear hi)))
       go_ret
       exact ⟨by first | rfl | (simp [zan, zam] <;> rfl) | (simp [*, zan, zam] <;> rfl), by repeat (first | (with_reducible first | exact HB.out | apply zac | apply zab | apply zad) | exact HB.out)⟩
     ·rw [if_neg c8] at H
      exact absurd H (by simp)
   ·rw [if_neg c6] at H
    have c6b0 : decide (x10_1 < (l0.length : Int)) = false := decide_eq_false c6
    clear c6
    obtain rfl := Option.some.inj H
    go_wp2
    go_ret
    exact ⟨by first | rfl | (simp [zan, zam] <;> rfl) | (simp [*, zan, zam] <;> rfl), by repeat (first | (with_reducible first | exact HB.out | apply zac | apply zab | apply zad) | exact HB.out)⟩
def zbo.f (a0 : ByteArray) : Option (Bool) := (zbi.f 2 a0 0).bind fun t171 => (if t171 = true then (if a0.toList = ([116] : List UInt8) then (some false) else (if a0.toList = ([121] : List UInt8) then (some false) else (if a0.toList = ([112] : List UInt8) then (some false) else (some (a0.toList != ([108, 101, 116] : List UInt8)))))) else (some false))
set_option maxHeartbeats 8000000 in
set_option maxRecDepth 100000 in
theorem zbo.calls (a0 : ByteArray) (r : Bool) (w : World) (h : zbo.f a0 = some r) :
  Calls Tryd.prog 36 #[.string a0] w fun e w' => e = .returned (.bool r) ∧ Below w.heap.size w w' := by
 have hu136 := Tryd.underlying136
 have HB := zaa.mk (Below.refl w.heap.size w)
 have H : ((zbi.f 2 a0 0).bind fun t171 => (if t171 = true then (if a0.toList = ([116] : List UInt8) then (some false) else (if a0.toList = ([121] : List UInt8) then (some false) else (if a0.toList = ([112] : List UInt8) then (some false) else (some (a0.toList != ([108, 101, 116] : List UInt8)))))) else (some false))) = some r := h
 clear h
 replace H := Option.bind_eq_some_iff.mp H
 obtain ⟨t171, A20, H⟩ := H
 replace H : (if t171 = true then (if a0.toList = ([116] : List UInt8) then (some false) else (if a0.toList = ([121] : List UInt8) then (some false) else (if a0.toList = ([112] : List UInt8) then (some false) else (some (a0.toList != ([108, 101, 116] : List UInt8)))))) else (some false)) = some r := H
 have A2 := zaa.mk A20
 clear A20
 by_cases c3 : t171 = true
 ·subst c3
  have H1 : (if a0.toList = ([116] : List UInt8) then (some false) else (if a0.toList = ([121] : List UInt8) then (some false) else (if a0.toList = ([112] : List UInt8) then (some false) else (some (a0.toList != ([108, 101, 116] : List UInt8)))))) = some r := by rw [if_pos rfl] at H; exact H
  clear H
  have H := H1
  clear H1
  by_cases c4 : a0.toList = ([116] : List UInt8)
  ·rw [if_pos c4] at H
   have c4b0 : (a0.toList == ([116] : List UInt8)) = true := beq_iff_eq.mpr c4
   have c4b1 : (a0.toList != ([116] : List UInt8)) = false := bne_eq_false_iff_eq.mpr c4
   clear c4
   obtain rfl := Option.some.inj H
   go_enter Tryd.func36, Tryd.ntmps36
   go_wp2_with (first | ((with_reducible refine zaG (f := 84) rfl ?_); refine za2 (some 5) rfl rfl Tryd.func84 (by kernel_rfl) rfl #[.agg #[.int .i64 2, .string a0, .int .i64 0]] rfl (by (try simp only [List.map_toArray, List.map_cons, List.map_nil]); first | done | rfl | (simp only [List.length_drop, List.length_take]; rfl)) ?_; (with_reducible refine (zbi.calls 2 a0 0 true _ A2.out).mono ?_); rintro e w5 ⟨rfl, hb⟩; refine ⟨_, rfl, ?_⟩; have n0_ := zaa.mk (zax (by repeat (first | (with_reducible first | exact HB.out | apply zac | apply zab | apply zad) | exact HB.out)) hb); clear HB; have HB := n0_; clear n0_; (try clear hb); (try clear hb2); (try clear hk); (try clear hi)))
   go_ret
   exact ⟨by first | rfl | (simp [zan, zam] <;> rfl) | (simp [*, zan, zam] <;> rfl), by repeat (first | (with_reducible first | exact HB.out | apply zac | apply zab | apply zad) | exact HB.out)⟩
  ·rw [if_neg c4] at H
   have c4b0 : (a0.toList == ([116] : List UInt8)) = false := beq_eq_false_iff_ne.mpr c4
   have c4b1 : (a0.toList != ([116] : List UInt8)) = true := bne_iff_ne.mpr c4
   by_cases c6 : a0.toList = ([121] : List UInt8)
   ·rw [if_pos c6] at H
    have c6b0 : (a0.toList == ([121] : List UInt8)) = true := beq_iff_eq.mpr c6
    have c6b1 : (a0.toList != ([121] : List UInt8)) = false := bne_eq_false_iff_eq.mpr c6
    clear c6
    obtain rfl := Option.some.inj H
    go_enter Tryd.func36, Tryd.ntmps36
    go_wp2_with (first | ((with_reducible refine zaG (f := 84) rfl ?_); refine za2 (some 5) rfl rfl Tryd.func84 (by kernel_rfl) rfl #[.agg #[.int .i64 2, .string a0, .int .i64 0]] rfl (by (try simp only [List.map_toArray, List.map_cons, List.map_nil]); first | done | rfl | (simp only [List.length_drop, List.length_take]; rfl)) ?_; (with_reducible refine (zbi.calls 2 a0 0 true _ A2.out).mono ?_); rintro e w7 ⟨rfl, hb⟩; refine ⟨_, rfl, ?_⟩; have n0_ := zaa.mk (zax (by repeat (first | (with_reducible first | exact HB.out | apply zac | apply zab | apply zad) | exact HB.out)) hb); clear HB; have HB := n0_; clear n0_; (try clear hb); (try clear hb2); (try clear hk); (try clear hi)))
    go_ret
    exact ⟨by first | rfl | (simp [zan, zam] <;> rfl) | (simp [*, zan, zam] <;> rfl), by repeat (first | (with_reducible first | exact HB.out | apply zac | apply zab | apply zad) | exact HB.out)⟩
   ·rw [if_neg c6] at H
    have c6b0 : (a0.toList == ([121] : List UInt8)) = false := beq_eq_false_iff_ne.mpr c6
    have c6b1 : (a0.toList != ([121] : List UInt8)) = true := bne_iff_ne.mpr c6
    by_cases c8 : a0.toList = ([112] : List UInt8)
    ·rw [if_pos c8] at H
     have c8b0 : (a0.toList == ([112] : List UInt8)) = true := beq_iff_eq.mpr c8
     have c8b1 : (a0.toList != ([112] : List UInt8)) = false := bne_eq_false_iff_eq.mpr c8
     clear c8
     obtain rfl := Option.some.inj H
     go_enter Tryd.func36, Tryd.ntmps36
     go_wp2_with (first | ((with_reducible refine zaG (f := 84) rfl ?_); refine za2 (some 5) rfl rfl Tryd.func84 (by kernel_rfl) rfl #[.agg #[.int .i64 2, .string a0, .int .i64 0]] rfl (by (try simp only [List.map_toArray, List.map_cons, List.map_nil]); first | done | rfl | (simp only [List.length_drop, List.length_take]; rfl)) ?_; (with_reducible refine (zbi.calls 2 a0 0 true _ A2.out).mono ?_); rintro e w9 ⟨rfl, hb⟩; refine ⟨_, rfl, ?_⟩; have n0_ := zaa.mk (zax (by repeat (first | (with_reducible first | exact HB.out | apply zac | apply zab | apply zad) | exact HB.out)) hb); clear HB; have HB := n0_; clear n0_; (try clear hb); (try clear hb2); (try clear hk); (try clear hi)))
     go_ret
     exact ⟨by first | rfl | (simp [zan, zam] <;> rfl) | (simp [*, zan, zam] <;> rfl), by repeat (first | (with_reducible first | exact HB.out | apply zac | apply zab | apply zad) | exact HB.out)⟩
    ·rw [if_neg c8] at H
     have c8b0 : (a0.toList == ([112] : List UInt8)) = false := beq_eq_false_iff_ne.mpr c8
     have c8b1 : (a0.toList != ([112] : List UInt8)) = true := bne_iff_ne.mpr c8
     obtain rfl := Option.some.inj H
     go_enter Tryd.func36, Tryd.ntmps36
     go_wp2_with (first | ((with_reducible refine zaG (f := 84) rfl ?_); refine za2 (some 5) rfl rfl Tryd.func84 (by kernel_rfl) rfl #[.agg #[.int .i64 2, .string a0, .int .i64 0]] rfl (by (try simp only [List.map_toArray, List.map_cons, List.map_nil]); first | done | rfl | (simp only [List.length_drop, List.length_take]; rfl)) ?_; (with_reducible refine (zbi.calls 2 a0 0 true _ A2.out).mono ?_); rintro e w10 ⟨rfl, hb⟩; refine ⟨_, rfl, ?_⟩; have n0_ := zaa.mk (zax (by repeat (first | (with_reducible first | exact HB.out | apply zac | apply zab | apply zad) | exact HB.out)) hb); clear HB; have HB := n0_; clear n0_; (try clear hb); (try clear hb2); (try clear hk); (try clear hi)))
     go_ret
     exact ⟨by first | rfl | (simp [zan, zam] <;> rfl) | (simp [*, zan, zam] <;> rfl), by repeat (first | (with_reducible first | exact HB.out | apply zac | apply zab | apply zad) | exact HB.out)⟩
 ·replace c3 := Bool.eq_false_iff.mpr c3
  subst c3
  have H1 : (some false) = some r := by rw [if_neg (show ¬ (false = true) by decide)] at H; exact H
  clear H
  have H := H1
  clear H1
  obtain rfl := Option.some.inj H
  go_enter Tryd.func36, Tryd.ntmps36
  go_wp2_with (first | ((with_reducible refine zaG (f := 84) rfl ?_); refine za2 (some 5) rfl rfl Tryd.func84 (by kernel_rfl) rfl #[.agg #[.int .i64 2, .string a0, .int .i64 0]] rfl (by (try simp only [List.map_toArray, List.map_cons, List.map_nil]); first | done | rfl | (simp only [List.length_drop, List.length_take]; rfl)) ?_; (with_reducible refine (zbi.calls 2 a0 0 false _ A2.out).mono ?_); rintro e w11 ⟨rfl, hb⟩; refine ⟨_, rfl, ?_⟩; have n0_ := zaa.mk (zax (by repeat (first | (with_reducible first | exact HB.out | apply zac | apply zab | apply zad) | exact HB.out)) hb); clear HB; have HB := n0_; clear n0_; (try clear hb); (try clear hb2); (try clear hk); (try clear hi)))
  go_ret
  exact ⟨by first | rfl | (simp [zan, zam] <;> rfl) | (simp [*, zan, zam] <;> rfl), by repeat (first | (with_reducible first | exact HB.out | apply zac | apply zab | apply zad) | exact HB.out)⟩
def zaN.l0 : Nat → List (List (S62)) → Int → List (S121) → List (List (S62)) → Option ((List (List (S62))))
 | 0, _, _, _, _ => none
 | k + 1, x3, x4, x173000, x173001 => if x4 < (x173000.length : Int) then (if 0 ≤ x4 then (if x3.length < 5864062014805 then (zaN.l0 k (x3 ++ [(zbS x173000 x4).f1]) (wrap64 (x4 + 1)) x173000 x173001) else (none)) else (none)) else (if x3.length + x173001.length < 5864062014805 then (some (x3 ++ x173001)) else (none))
def zaN.f (k : Nat) (l0_0 : List (S121)) (l0_1 : List (List (S62))) : Option ((List (List (S62)))) := zaN.l0 k ([] : List (List (S62))) 0 l0_0 l0_1
theorem zaN.zaR : ∀ k, (∀ y0 y1 y2 y3, LeO (zaN.l0 k y0 y1 y2 y3) (zaN.l0 (k + 1) y0 y1 y2 y3))
 | 0 => fun _ _ _ _ r h => by simp [zaN.l0] at h
 | k + 1 => by
  have ih0 := zaN.zaR k
  ·intro y0 y1 y2 y3
   unfold zaN.l0
   repeat' first
   | (with_reducible exact ih0 _ _ _ _)
   | (with_reducible exact LeO.refl _)
   | (with_reducible exact LeO.none _)
   | (with_reducible refine LeO.ite ?_ ?_)
   | (with_reducible refine LeO.bind ?_ (fun _ => ?_))
   | exact ih0 _ _ _ _
   | exact LeO.none _
   | refine LeO.ite ?_ ?_
   | refine LeO.bind ?_ (fun _ => ?_)
theorem zaN.mono : ∀ a0 a1 k, LeO (zaN.f k a0 a1) (zaN.f (k + 1) a0 a1) := by
 intro a0 a1 k
 have ih0 := zaN.zaR k
 unfold zaN.f
 repeat' first
   | (with_reducible exact ih0 _ _ _ _)
   | (with_reducible exact LeO.refl _)
   | (with_reducible exact LeO.none _)
   | (with_reducible refine LeO.ite ?_ ?_)
   | (with_reducible refine LeO.bind ?_ (fun _ => ?_))
   | exact ih0 _ _ _ _
   | exact LeO.none _
   | refine LeO.ite ?_ ?_
   | refine LeO.bind ?_ (fun _ => ?_)
set_option maxHeartbeats 8000000 in
set_option maxRecDepth 100000 in
theorem zaN.calls (k : Nat) (P0_0_ : Nat → Prop) (A0_0 : Option Addr) (c0_0 : Nat) (l0_0 : List (S121)) (P0_1_ : Nat → Prop) (A0_1 : Option Addr) (c0_1 : Nat) (l0_1 : List (List (S62))) (r : List (List (S62))) (w : World) (hs0_0 : Kd.V k121 121 w w.heap.size (fun k_ => P0_0_ k_) (.slice A0_0 l0_0.length c0_0) l0_0) (hs0_1 : Kd.V (Kd.slice 62 k62) 54 w w.heap.size (fun k_ => P0_1_ k_) (.slice A0_1 l0_1.length c0_1) l0_1) (h : zaN.f k l0_0 l0_1 = some r) :
  Calls Tryd.prog 73 #[.agg #[.slice A0_0 l0_0.length c0_0, .slice A0_1 l0_1.length c0_1]] w fun e w' => ∃ v0_ : Value, e = .returned (v0_) ∧ Kd.N (Kd.slice 62 k62) 54 w' w.heap.size (fun k_ => ((P0_0_ k_ ∨ P0_1_ k_) ∨ w.heap.size ≤ k_)) v0_ r ∧ Below w.heap.size w w' := by
 have hu41 := Tryd.underlying41
 have HO0_0 := zaa.mk (show Kd.V k121 121 w w.heap.size (fun k_ => ((P0_0_ k_ ∨ P0_1_ k_) ∨ w.heap.size ≤ k_)) (.slice A0_0 l0_0.length c0_0) l0_0 from Kd.zb9 hs0_0 (fun k_ hk => .inl (.inl hk)))
 have HO0_1 := zaa.mk (show Kd.V (Kd.slice 62 k62) 54 w w.heap.size (fun k_ => ((P0_0_ k_ ∨ P0_1_ k_) ∨ w.heap.size ≤ k_)) (.slice A0_1 l0_1.length c0_1) l0_1 from Kd.zb9 hs0_1 (fun k_ hk => .inl (.inr hk)))
 have HB := zaa.mk (Below.refl w.heap.size w)
 have H : (zaN.l0 k ([] : List (List (S62))) 0 l0_0 l0_1) = some r := h
 clear h
 have H' := zaa.mk H
 clear H
 go_enter Tryd.func73, Tryd.ntmps73
 go_wp2_with (first | ((with_reducible refine zbc (N := 1) rfl ?_); refine zbb ?hg (N := 1) ?hd (cs := #[.slice A0_0 l0_0.length c0_0, .slice A0_1 l0_1.length c0_1]) (t := 41) ?hr ?_; (case hd => rfl); (case hg => rfl); (case hr => first | (go_simp; done) | (go_simp; rfl)); intro gb172 hg w2 hbox hb; have n0_ := zaa.mk (Kd.zdC (Kd.zgj (by (with_reducible repeat (first | apply Kd.zbK | apply Kd.zbL | apply Kd.zbU)); exact HO0_0.out) gb172 (Nat.le_of_eq hg.symm)) hb); have n1_ := zaa.mk (Kd.zdC (Kd.zgj (by (with_reducible repeat (first | apply Kd.zbK | apply Kd.zbL | apply Kd.zbU)); exact HO0_1.out) gb172 (Nat.le_of_eq hg.symm)) hb); have n2_ := zaa.mk (zax (by repeat (first | (with_reducible first | exact HB.out | apply zac | apply zab | apply zad) | exact HB.out)) hb); have n3_ := zaa.mk (hbox); have n4_ := zaa.mk ((by rw [hg]; exact (zay (by repeat (first | (with_reducible first | exact HB.out | apply zac | apply zab | apply zad) | exact HB.out))) : w.heap.size ≤ gb172)); have n5_ := zaa.mk ((by rw [hg]; exact (zay (by repeat (first | (with_reducible first | exact HB.out | apply zac | apply zab | apply zad) | exact HB.out))) : w.heap.size ≤ gb172)); clear HO0_0; clear HO0_1; clear HB; have HO0_0 := n0_; have HO0_1 := n1_; have HB := n2_; have BK172 := n3_; have GW172 := n4_; have GE172 := n5_; clear n0_ n1_ n2_ n3_ n4_ n5_; clear hb hbox hg))
 go_loopg [3, 4] k (fun kq v3 v4 w' => ∃ (x3_1 : List (List (S62))) (x4_1 : Int), v4 = .int .i64 x4_1 ∧ zaa (zaN.l0 kq x3_1 x4_1 l0_0 l0_1 = some r) ∧ zaa (kq ≤ k) ∧ zaa (Kd.N (Kd.slice 62 k62) 54 w' w.heap.size (fun k_ => ((P0_0_ k_ ∨ P0_1_ k_) ∨ w.heap.size ≤ k_) ∧ k_ ≠ gb172) v3 x3_1) ∧ zaa (Kd.V k121 121 w' w.heap.size (fun k_ => ((P0_0_ k_ ∨ P0_1_ k_) ∨ w.heap.size ≤ k_) ∧ some k_ ≠ (v3 : Value).ownBlock ∧ k_ ≠ gb172) (.slice A0_0 l0_0.length c0_0) l0_0) ∧ zaa (Kd.V (Kd.slice 62 k62) 54 w' w.heap.size (fun k_ => ((P0_0_ k_ ∨ P0_1_ k_) ∨ w.heap.size ≤ k_) ∧ some k_ ≠ (v3 : Value).ownBlock ∧ k_ ≠ gb172) (.slice A0_1 l0_1.length c0_1) l0_1) ∧ zaa (w'.heap[gb172]? = some (.cells #[(.slice A0_0 l0_0.length c0_0), (.slice A0_1 l0_1.length c0_1)] 41 (0, 0))) ∧ zaa (Below w.heap.size w w'))
 case atStart => exact ⟨(([] : List (List (S62)))), (0), (by first | rfl | (simp; done) | (simp [*]; done)), H', ⟨Nat.le_refl _⟩, ⟨by first | exact Kd.zc3 _ _ _ _ _ | exact Kd.zew _ _ _ _ _ | exact Kd.zeA _ _ _ _ _ | exact Kd.zex _ _ _ _ _ | exact Kd.zeE _ _ _ _ _⟩, ⟨by (with_reducible repeat (first | apply Kd.zbK | apply Kd.zbL | apply Kd.zbU)); exact Kd.zb9 HO0_0.out (fun _ hk => ⟨hk.1, ⟨(by simp [Value.ownBlock]), hk.2⟩⟩)⟩, ⟨by (with_reducible repeat (first | apply Kd.zbK | apply Kd.zbL | apply Kd.zbU)); exact Kd.zb9 HO0_1.out (fun _ hk => ⟨hk.1, ⟨(by simp [Value.ownBlock]), hk.2⟩⟩)⟩, ⟨by (with_reducible repeat (first | refine zah ?_ _ | refine zak ?_ | refine zaf ?_ _)); exact BK172.out⟩, ⟨by repeat (first | (with_reducible first | exact HB.out | apply zac | apply zab | apply zad | refine zai ?_ GE172.out) | exact HB.out)⟩⟩
 case round =>
  clear H'
  try clear p2
  obtain ⟨x3_1, x4_1, rfl, HA, HK1, HO_3, HO_173000, HO_173001, BK172, HB⟩ := hrel
  cases gk with
  | zero => exact absurd HA.out (by simp [zaN.l0])
  | succ k1 =>
   have H := HA.out
   clear HA
   simp only [zaN.l0] at H
   by_cases c3 : x4_1 < (l0_0.length : Int)
   ·rw [if_pos c3] at H
    have c3b0 : decide (x4_1 < (l0_0.length : Int)) = true := decide_eq_true c3
    clear c3
    by_cases c4 : 0 ≤ x4_1
    ·rw [if_pos c4] at H
     have c4b0 : decide (0 ≤ x4_1) = true := decide_eq_true c4
     clear c4
     by_cases c5 : x3_1.length < 5864062014805
     ·rw [if_pos c5] at H
      have LMc5 := zaa.mk c5
      clear c5
      obtain ⟨y174, hy174⟩ : ∃ y_ : List (List (S62)), y_ = (x3_1 ++ [(zbS l0_0 x4_1).f1]) := ⟨_, rfl⟩
      replace H : (zaN.l0 k1 y174 (wrap64 (x4_1 + 1)) l0_0 l0_1) = some r := by first | (rw [hy174]; with_reducible exact H) | (have H2_ := (Option.bind_some _ _).symm.trans H; rw [hy174]; with_reducible exact H2_) | (have H2_ := (Option.bind_some _ _).symm.trans H; with_reducible exact H2_) | with_reducible exact H | (rw [hy174]; exact H) | exact H
      have Ny174 := zaa.mk hy174
      clear hy174
      have H' := zaa.mk H
      clear H
      have hcz6_0 : wr.cell? ⟨gb172, 0, none⟩ = some (.slice A0_0 l0_0.length c0_0) := (zae BK172.out 0).trans rfl
      have hcz6_1 : wr.cell? ⟨gb172, 1, none⟩ = some (.slice A0_1 l0_1.length c0_1) := (zae BK172.out 1).trans rfl
      have hfz6_0 := zaj BK172.out 0
      have hfz6_1 := zaj BK172.out 1
      have p173 : 0 ≤ (x4_1 : Int) := of_decide_eq_true (by first | (with_reducible assumption) | assumption)
      have q173 : x4_1 < (l0_0.length : Int) := of_decide_eq_true (by first | (with_reducible assumption) | assumption)
      obtain ⟨ad173, A173_1, c173_1, e173, hx173_0, hx173_1, hl173_1, hi173_1⟩ := zdG (Kd.zcE HO_173000.out).2.2 x4_1 p173 q173
      cases e173
      obtain ⟨ce173, hce173, hMe173, hcc173⟩ := Kd.zf1 HO_173000.out z121 x4_1 p173 (by first | exact q173 | exact of_decide_eq_true (by first | (with_reducible assumption) | assumption) | (have e_ := (Kd.zcE HO_173000.out).1; omega))
      obtain ⟨ua173_1, uc173_1, rfl, ul173_1, ge173_1⟩ := zhk hMe173
      have hv173_1 := hcc173 1 _ rfl
      rw [zbM _ _ 1 (by omega)] at hv173_1
      replace hv173_1 := Option.some.inj (hv173_1.symm.trans hx173_1)
      injection hv173_1 with hva_ hvn_ hvc_
      rw [hva_] at ge173_1
      rw [hvc_] at ul173_1
      have HL173_1 := zaa.mk (show Kd.V k62 62 _ w.heap.size _ _ ((zbS l0_0 x4_1).f1) from Kd.V_mk ul173_1 ge173_1)
      clear hva_ hvn_ hvc_ ge173_1 ul173_1
      clear hcc173 hce173
      have HR173_1 := zaa.mk hi173_1
      have HC173_1 := zaa.mk hl173_1
      clear hi173_1 hl173_1
      replace p173 := eq_true p173
      replace q173 := eq_true q173
      go_wp2_with (first | ((with_reducible refine zcf (b := .append) (xs := #[.tmp 12, .tmp 19]) rfl ?_); at_builtin; refine Kd.zin (Kd.slice 62 k62) (w0 := w) w.heap.size rfl (.tmp 12) (.tmp 19) 39 54 (.slice none 0 0) 24 rfl Tryd.underlying39 zhO rfl (by decide) (by omega) u3 x3_1 ((zbS l0_0 x4_1).f1) [.slice A173_1 ((zbS l0_0 x4_1).f1).length c173_1] (fun k_ => ((P0_0_ k_ ∨ P0_1_ k_) ∨ w.heap.size ≤ k_) ∧ k_ ≠ gb172) (fun k_ => ((fun k_ => ((P0_0_ k_ ∨ P0_1_ k_) ∨ w.heap.size ≤ k_) ∧ k_ ≠ gb172)) k_ ∧ some k_ ≠ (u3 : Value).ownBlock) rfl rfl ?aP (fun _ hk => hk) ?aF ?aO ?aB ?aS ?aL ?_; (case aP => exact (Kd.zgB (Kd.zcE (Kd.zb9 (ok' := (fun k_ => ((fun k_ => ((P0_0_ k_ ∨ P0_1_ k_) ∨ w.heap.size ≤ k_) ∧ k_ ≠ gb172)) k_ ∧ some k_ ≠ (u3 : Value).ownBlock)) (HL173_1.out) (fun k_ hk => ⟨⟨hk.1, hk.2.2⟩, hk.2.1⟩))).2.1 (Kd.V_F (Kd.zb9 (ok' := (fun k_ => ((fun k_ => ((P0_0_ k_ ∨ P0_1_ k_) ∨ w.heap.size ≤ k_) ∧ k_ ≠ gb172)) k_ ∧ some k_ ≠ (u3 : Value).ownBlock)) (HL173_1.out) (fun k_ hk => ⟨⟨hk.1, hk.2.2⟩, hk.2.1⟩))))); (case aB => exact (by repeat (first | (with_reducible first | exact HB.out | apply zac | apply zab | apply zad | refine zai ?_ GE172.out) | exact HB.out))); (case aF => exact (fun k_ hk => ⟨(.inr (Nat.le_trans (zay (by repeat (first | (with_reducible first | exact HB.out | apply zac | apply zab | apply zad | refine zai ?_ GE172.out) | exact HB.out))) hk)), Kd.zeg (g := gb172) (o := .cells #[.slice (some ad173) l0_0.length c0_0, .slice A0_1 l0_1.length c0_1] 41 (0, 0)) (by (with_reducible repeat (first | refine zah ?_ _ | refine zak ?_ | refine zaf ?_ _)); exact BK172.out) k_ hk⟩)); (case aO => exact (by (with_reducible repeat (first | apply Kd.zbA | apply Kd.zbz | apply Kd.zby)); exact HO_3.out)); (case aS => exact (zay (by repeat (first | (with_reducible first | exact HB.out | apply zac | apply zab | apply zad | refine zai ?_ GE172.out) | exact HB.out)))); (case aL => have := LMc5.out; omega); intro v175 w7 ho hb hg hat; rw [← Ny174.out] at ho; have n0_ := zaa.mk (Kd.zcL (ok := (fun k_ => ((P0_0_ k_ ∨ P0_1_ k_) ∨ w.heap.size ≤ k_) ∧ k_ ≠ gb172)) (by (with_reducible repeat (first | apply Kd.zbK | apply Kd.zbL | apply Kd.zbU)); exact Kd.zb9 HO_173000.out (fun _ hk => ⟨⟨hk.1, hk.2.2⟩, hk.2.1⟩)) hg hat); have n1_ := zaa.mk (Kd.zcL (ok := (fun k_ => ((P0_0_ k_ ∨ P0_1_ k_) ∨ w.heap.size ≤ k_) ∧ k_ ≠ gb172)) (by (with_reducible repeat (first | apply Kd.zbK | apply Kd.zbL | apply Kd.zbU)); exact Kd.zb9 HO_173001.out (fun _ hk => ⟨⟨hk.1, hk.2.2⟩, hk.2.1⟩)) hg hat); have n2_ := zaa.mk (zcJ (g := gb172) (o := .cells #[.slice (some ad173) l0_0.length c0_0, .slice A0_1 l0_1.length c0_1] 41 (0, 0)) (by (with_reducible repeat (first | refine zah ?_ _ | refine zak ?_ | refine zaf ?_ _)); exact BK172.out) hg (Kd.N_ne HO_3.out BK172.out (by decide))); have n3_ := zaa.mk (Kd.zcL (ok := (fun k_ => ((P0_0_ k_ ∨ P0_1_ k_) ∨ w.heap.size ≤ k_) ∧ k_ ≠ gb172)) (by (with_reducible repeat (first | apply Kd.zbK | apply Kd.zbL | apply Kd.zbU)); exact Kd.zb9 HL173_1.out (fun _ hk => ⟨⟨hk.1, hk.2.2⟩, hk.2.1⟩)) hg hat); have n4_ := zaa.mk (hb); have n5_ := zaa.mk (ho); clear HO_173000; clear HO_173001; clear BK172; clear HL173_1; clear HB; clear HO_3; have HO_173000 := n0_; have HO_173001 := n1_; have BK172 := n2_; have HL173_1 := n3_; have HB := n4_; have HO176 := n5_; clear n0_ n1_ n2_ n3_ n4_ n5_; clear ho hb hg hat))
      go_roundg k1
      case measure => have := HK1.out; omega
      case rel => exact ⟨(y174), (wrap64 (x4_1 + 1)), (by first | rfl | (simp; done) | (simp [*]; done)), H', ⟨by have := HK1.out; omega⟩, ⟨by (with_reducible repeat (first | apply Kd.zbA | apply Kd.zbz | apply Kd.zby)); exact HO176.out⟩, ⟨by (with_reducible repeat (first | apply Kd.zbK | apply Kd.zbL | apply Kd.zbU)); exact Kd.zb9 HO_173000.out (fun _ hk => ⟨hk.1.1, ⟨hk.2, hk.1.2⟩⟩)⟩, ⟨by (with_reducible repeat (first | apply Kd.zbK | apply Kd.zbL | apply Kd.zbU)); exact Kd.zb9 HO_173001.out (fun _ hk => ⟨hk.1.1, ⟨hk.2, hk.1.2⟩⟩)⟩, ⟨by (with_reducible repeat (first | refine zah ?_ _ | refine zak ?_ | refine zaf ?_ _)); exact BK172.out⟩, ⟨by repeat (first | (with_reducible first | exact HB.out | apply zac | apply zab | apply zad | refine zai ?_ GE172.out) | exact HB.out)⟩⟩
     ·rw [if_neg c5] at H
      exact absurd H (by simp)
    ·rw [if_neg c4] at H
     exact absurd H (by simp)
   ·rw [if_neg c3] at H
    have c3b0 : decide (x4_1 < (l0_0.length : Int)) = false := decide_eq_false c3
    clear c3
    by_cases c8 : x3_1.length + l0_1.length < 5864062014805
    ·rw [if_pos c8] at H
     have LMc8 := zaa.mk c8
     clear c8
     obtain ⟨y177, hy177⟩ : ∃ y_ : List (List (S62)), y_ = (x3_1 ++ l0_1) := ⟨_, rfl⟩
     replace H : (some y177) = some r := by first | (rw [hy177]; with_reducible exact H) | (have H2_ := (Option.bind_some _ _).symm.trans H; rw [hy177]; with_reducible exact H2_) | (have H2_ := (Option.bind_some _ _).symm.trans H; with_reducible exact H2_) | with_reducible exact H | (rw [hy177]; exact H) | exact H
     have Ny177 := zaa.mk hy177
     clear hy177
     obtain rfl := Option.some.inj H
     have hcz9_0 : wr.cell? ⟨gb172, 0, none⟩ = some (.slice A0_0 l0_0.length c0_0) := (zae BK172.out 0).trans rfl
     have hcz9_1 : wr.cell? ⟨gb172, 1, none⟩ = some (.slice A0_1 l0_1.length c0_1) := (zae BK172.out 1).trans rfl
     have hfz9_0 := zaj BK172.out 0
     have hfz9_1 := zaj BK172.out 1
     go_wp2_with (first | ((with_reducible refine zcf (b := .append) (xs := #[.tmp 21, .tmp 23]) rfl ?_); at_builtin; refine Kd.zfT (Kd.slice 62 k62) (w0 := w) w.heap.size rfl (.tmp 21) (.tmp 23) 39 54 (.slice none 0 0) 24 rfl Tryd.underlying39 zhO rfl (by decide) (by omega) u3 x3_1 l0_1 _ _ _ (fun k_ => ((P0_0_ k_ ∨ P0_1_ k_) ∨ w.heap.size ≤ k_) ∧ k_ ≠ gb172) (fun k_ => ((fun k_ => ((P0_0_ k_ ∨ P0_1_ k_) ∨ w.heap.size ≤ k_) ∧ k_ ≠ gb172)) k_ ∧ some k_ ≠ (u3 : Value).ownBlock) rfl rfl ?aO ?aR (fun _ hk => hk) ?aF ?aB ?aS ?aL ?_; (case aR => exact (by skip; exact Kd.V_F (Kd.zb9 (ok' := (fun k_ => ((fun k_ => ((P0_0_ k_ ∨ P0_1_ k_) ∨ w.heap.size ≤ k_) ∧ k_ ≠ gb172)) k_ ∧ some k_ ≠ (u3 : Value).ownBlock)) (HO_173001.out) (fun k_ hk => ⟨⟨hk.1, hk.2.2⟩, hk.2.1⟩)))); (case aB => exact (by repeat (first | (with_reducible first | exact HB.out | apply zac | apply zab | apply zad | refine zai ?_ GE172.out) | exact HB.out))); (case aF => exact (fun k_ hk => ⟨(.inr (Nat.le_trans (zay (by repeat (first | (with_reducible first | exact HB.out | apply zac | apply zab | apply zad | refine zai ?_ GE172.out) | exact HB.out))) hk)), Kd.zeg (g := gb172) (o := .cells #[.slice A0_0 l0_0.length c0_0, .slice A0_1 l0_1.length c0_1] 41 (0, 0)) (by (with_reducible repeat (first | refine zah ?_ _ | refine zak ?_ | refine zaf ?_ _)); exact BK172.out) k_ hk⟩)); (case aO => exact (by (with_reducible repeat (first | apply Kd.zbA | apply Kd.zbz | apply Kd.zby)); exact HO_3.out)); (case aS => exact (zay (by repeat (first | (with_reducible first | exact HB.out | apply zac | apply zab | apply zad | refine zai ?_ GE172.out) | exact HB.out)))); (case aL => have := LMc8.out; omega); intro v178 w10 ho hb hg hat; rw [← Ny177.out] at ho; have n0_ := zaa.mk (Kd.zcL (ok := (fun k_ => ((P0_0_ k_ ∨ P0_1_ k_) ∨ w.heap.size ≤ k_) ∧ k_ ≠ gb172)) (by (with_reducible repeat (first | apply Kd.zbK | apply Kd.zbL | apply Kd.zbU)); exact Kd.zb9 HO_173000.out (fun _ hk => ⟨⟨hk.1, hk.2.2⟩, hk.2.1⟩)) hg hat); have n1_ := zaa.mk (Kd.zcL (ok := (fun k_ => ((P0_0_ k_ ∨ P0_1_ k_) ∨ w.heap.size ≤ k_) ∧ k_ ≠ gb172)) (by (with_reducible repeat (first | apply Kd.zbK | apply Kd.zbL | apply Kd.zbU)); exact Kd.zb9 HO_173001.out (fun _ hk => ⟨⟨hk.1, hk.2.2⟩, hk.2.1⟩)) hg hat); have n2_ := zaa.mk (zcJ (g := gb172) (o := .cells #[.slice A0_0 l0_0.length c0_0, .slice A0_1 l0_1.length c0_1] 41 (0, 0)) (by (with_reducible repeat (first | refine zah ?_ _ | refine zak ?_ | refine zaf ?_ _)); exact BK172.out) hg (Kd.N_ne HO_3.out BK172.out (by decide))); have n3_ := zaa.mk (hb); have n4_ := zaa.mk (ho); clear HO_173000; clear HO_173001; clear BK172; clear HB; clear HO_3; have HO_173000 := n0_; have HO_173001 := n1_; have BK172 := n2_; have HB := n3_; have HO179 := n4_; clear n0_ n1_ n2_ n3_ n4_; clear ho hb hg hat))
     go_ret
     exact ⟨_, by first | rfl | (simp [zan, zam] <;> rfl) | (simp [*, zan, zam] <;> rfl), by (with_reducible repeat (first | apply Kd.zbA | apply Kd.zbz | apply Kd.zby)); exact Kd.zgn HO179.out (fun _ hk => hk.1), by repeat (first | (with_reducible first | exact HB.out | apply zac | apply zab | apply zad | refine zai ?_ GE172.out) | exact HB.out)⟩
    ·rw [if_neg c8] at H
     exact absurd H (by simp)
def zaZ.l0 : Nat → Int → List (List (S62)) → Int → Option (Int)
 | 0, _, _, _ => none
 | k + 1, x3, x4, x5 => if x5 < (x4.length : Int) then (if 0 ≤ x5 then (zaZ.l0 k (wrap64 (x3 + ((zc1 x4 x5).length : Int))) x4 (wrap64 (x5 + 1))) else (none)) else (some x3)
def zaZ.f (k : Nat) (l0_0 : List (S121)) (l0_1 : List (List (S62))) : Option (Int) := (zaN.f k l0_0 l0_1).bind fun t181 => (zaZ.l0 k 0 t181 0)
theorem zaZ.zaR : ∀ k, (∀ y0 y1 y2, LeO (zaZ.l0 k y0 y1 y2) (zaZ.l0 (k + 1) y0 y1 y2))
 | 0 => fun _ _ _ r h => by simp [zaZ.l0] at h
 | k + 1 => by
  have ih0 := zaZ.zaR k
  ·intro y0 y1 y2
   unfold zaZ.l0
   repeat' first
   | (with_reducible exact ih0 _ _ _)
   | (with_reducible exact zaN.mono _ _ _)
   | (with_reducible exact LeO.refl _)
   | (with_reducible exact LeO.none _)
   | (with_reducible refine LeO.ite ?_ ?_)
   | (with_reducible refine LeO.bind ?_ (fun _ => ?_))
   | exact ih0 _ _ _
   | exact zaN.mono _ _ _
   | exact LeO.none _
   | refine LeO.ite ?_ ?_
   | refine LeO.bind ?_ (fun _ => ?_)
theorem zaZ.mono : ∀ a0 a1 k, LeO (zaZ.f k a0 a1) (zaZ.f (k + 1) a0 a1) := by
 intro a0 a1 k
 have ih0 := zaZ.zaR k
 unfold zaZ.f
 repeat' first
   | (with_reducible exact ih0 _ _ _)
   | (with_reducible exact zaN.mono _ _ _)
   | (with_reducible exact LeO.refl _)
   | (with_reducible exact LeO.none _)
   | (with_reducible refine LeO.ite ?_ ?_)
   | (with_reducible refine LeO.bind ?_ (fun _ => ?_))
   | exact ih0 _ _ _
   | exact zaN.mono _ _ _
   | exact LeO.none _
   | refine LeO.ite ?_ ?_
   | refine LeO.bind ?_ (fun _ => ?_)
set_option maxHeartbeats 8000000 in
set_option maxRecDepth 100000 in
theorem zaZ.calls (k : Nat) (A0_0 : Option Addr) (c0_0 : Nat) (l0_0 : List (S121)) (A0_1 : Option Addr) (c0_1 : Nat) (l0_1 : List (List (S62))) (r : Int) (w : World) (hr0_0 : Kd.C k121 w A0_0 l0_0.length l0_0) (hc0_0 : l0_0.length ≤ c0_0) (hr0_1 : Kd.C (Kd.slice 62 k62) w A0_1 l0_1.length l0_1) (hc0_1 : l0_1.length ≤ c0_1) (h : zaZ.f k l0_0 l0_1 = some r) :
  Calls Tryd.prog 72 #[.agg #[.slice A0_0 l0_0.length c0_0, .slice A0_1 l0_1.length c0_1]] w fun e w' => e = .returned (.int .i64 r) ∧ Below w.heap.size w w' := by
 have hu41 := Tryd.underlying41
 have HR0_0 := zaa.mk hr0_0
 have HC0_0 := zaa.mk hc0_0
 clear hr0_0 hc0_0
 have HR0_1 := zaa.mk hr0_1
 have HC0_1 := zaa.mk hc0_1
 clear hr0_1 hc0_1
 have HB := zaa.mk (Below.refl w.heap.size w)
 have H : ((zaN.f k l0_0 l0_1).bind fun t181 => (zaZ.l0 k 0 t181 0)) = some r := h
 clear h
 replace H := Option.bind_eq_some_iff.mp H
 obtain ⟨t181, A20, H⟩ := H
 replace H : (zaZ.l0 k 0 t181 0) = some r := H
 have A2 := zaa.mk A20
 clear A20
 have H' := zaa.mk H
 clear H
 go_enter Tryd.func72, Tryd.ntmps72
 go_wp2_with (first | ((with_reducible refine zbc (N := 1) rfl ?_); refine zbb ?hg (N := 1) ?hd (cs := #[.slice A0_0 l0_0.length c0_0, .slice A0_1 l0_1.length c0_1]) (t := 41) ?hr ?_; (case hd => rfl); (case hg => rfl); (case hr => first | (go_simp; done) | (go_simp; rfl)); intro gb180 hg w3 hbox hb; have n0_ := zaa.mk (zax (by repeat (first | (with_reducible first | exact HB.out | apply zac | apply zab | apply zad) | exact HB.out)) hb); have n1_ := zaa.mk (hbox); have n2_ := zaa.mk ((by rw [hg]; exact (zay (by repeat (first | (with_reducible first | exact HB.out | apply zac | apply zab | apply zad) | exact HB.out))) : w.heap.size ≤ gb180)); have n3_ := zaa.mk ((by rw [hg]; exact (zay (by repeat (first | (with_reducible first | exact HB.out | apply zac | apply zab | apply zad) | exact HB.out))) : w.heap.size ≤ gb180)); clear HB; have HB := n0_; have BK180 := n1_; have GW180 := n2_; have GE180 := n3_; clear n0_ n1_ n2_ n3_; clear hb hbox hg; have hcz4_0 : w3.cell? ⟨gb180, 0, none⟩ = some (.slice A0_0 l0_0.length c0_0) := (zae BK180.out 0).trans rfl; have hcz4_1 : w3.cell? ⟨gb180, 1, none⟩ = some (.slice A0_1 l0_1.length c0_1) := (zae BK180.out 1).trans rfl; have hfz4_0 := zaj BK180.out 0; have hfz4_1 := zaj BK180.out 1) | ((with_reducible refine zaG (f := 73) rfl ?_); refine za2 (some 7) rfl rfl Tryd.func73 (by kernel_rfl) rfl #[.agg #[.slice A0_0 l0_0.length c0_0, .slice A0_1 l0_1.length c0_1]] rfl (by (try simp only [List.map_toArray, List.map_cons, List.map_nil]); first | done | rfl | (simp only [List.length_drop, List.length_take]; rfl)) ?_; (with_reducible refine (zaN.calls k (fun k_ => k_ < w.heap.size) _ _ l0_0 (fun k_ => k_ < w.heap.size) _ _ l0_1 t181 _ ?side1 ?side2 A2.out).mono ?_); (case side1 => exact Kd.V_mk HC0_0.out (Kd.zdg (Kd.C_F zhu HR0_0.out) (by repeat (first | (with_reducible first | exact HB.out | apply zac | apply zab | apply zad | refine zai ?_ GE180.out) | exact HB.out)))); (case side2 => exact Kd.V_mk HC0_1.out (Kd.zdg (Kd.C_F (Kd.zdb 62 ze0) HR0_1.out) (by repeat (first | (with_reducible first | exact HB.out | apply zac | apply zab | apply zad | refine zai ?_ GE180.out) | exact HB.out)))); rintro e w5 ⟨v182, rfl, ho0, hb⟩; refine ⟨_, rfl, ?_⟩; have n0_ := zaa.mk (Kd.zgP (Kd.zgn (ok' := fun k_ => k_ ≠ gb180) ho0 (fun k_ hk_ => Or.elim hk_ (fun hs_ => Or.elim hs_ (fun hs_ => fun e_ => Nat.not_le.2 hs_ (by rw [e_]; exact GW180.out)) (fun hs_ => fun e_ => Nat.not_le.2 hs_ (by rw [e_]; exact GW180.out))) (fun hn_ => (Kd.zeg (g := gb180) (o := .cells #[.slice A0_0 l0_0.length c0_0, .slice A0_1 l0_1.length c0_1] 41 (0, 0)) (by (with_reducible repeat (first | refine zah ?_ _ | refine zak ?_ | refine zaf ?_ _)); exact BK180.out) k_ hn_)))) (zay (by repeat (first | (with_reducible first | exact HB.out | apply zac | apply zab | apply zad | refine zai ?_ GE180.out) | exact HB.out)))); have n1_ := zaa.mk (zaP (g := gb180) (o := .cells #[.slice A0_0 l0_0.length c0_0, .slice A0_1 l0_1.length c0_1] 41 (0, 0)) (by (with_reducible repeat (first | refine zah ?_ _ | refine zak ?_ | refine zaf ?_ _)); exact BK180.out) hb); have n2_ := zaa.mk (zax (by repeat (first | (with_reducible first | exact HB.out | apply zac | apply zab | apply zad | refine zai ?_ GE180.out) | exact HB.out)) hb); clear BK180; clear HB; have HO183 := n0_; have BK180 := n1_; have HB := n2_; clear n0_ n1_ n2_; (try clear hb); (try clear hb2); (try clear hk); (try clear hi); (try clear ho0)))
 go_loopg [3, 5] k (fun kq v3 v5 w' => ∃ (x3_1 : Int) (x5_1 : Int), v3 = .int .i64 x3_1 ∧ v5 = .int .i64 x5_1 ∧ zaa (zaZ.l0 kq x3_1 t181 x5_1 = some r) ∧ zaa (kq ≤ k) ∧ zaa (Kd.N (Kd.slice 62 k62) 54 w' w.heap.size (fun k_ => k_ ≠ gb180) v182 t181) ∧ zaa (w'.heap[gb180]? = some (.cells #[(.slice A0_0 l0_0.length c0_0), (.slice A0_1 l0_1.length c0_1)] 41 (0, 0))) ∧ zaa (Below w.heap.size w w'))
 case atStart => exact ⟨(0), (0), (by first | rfl | (simp; done) | (simp [*]; done)), (by first | rfl | (simp; done) | (simp [*]; done)), H', ⟨Nat.le_refl _⟩, ⟨by (with_reducible repeat (first | apply Kd.zbA | apply Kd.zbz | apply Kd.zby)); exact HO183.out⟩, ⟨by (with_reducible repeat (first | refine zah ?_ _ | refine zak ?_ | refine zaf ?_ _)); exact BK180.out⟩, ⟨by repeat (first | (with_reducible first | exact HB.out | apply zac | apply zab | apply zad | refine zai ?_ GE180.out) | exact HB.out)⟩⟩
 case round =>
  clear H'
  try clear p2
  try clear hcz4_0
  try clear hcz4_1
  try clear hfz4_0
  try clear hfz4_1
  obtain ⟨x3_1, x5_1, rfl, rfl, HA, HK1, HO_4, BK180, HB⟩ := hrel
  cases gk with
  | zero => exact absurd HA.out (by simp [zaZ.l0])
  | succ k1 =>
   have H := HA.out
   clear HA
   simp only [zaZ.l0] at H
   by_cases c6 : x5_1 < (t181.length : Int)
   ·rw [if_pos c6] at H
    have c6b0 : decide (x5_1 < (t181.length : Int)) = true := decide_eq_true c6
    clear c6
    by_cases c7 : 0 ≤ x5_1
    ·rw [if_pos c7] at H
     have c7b0 : decide (0 ≤ x5_1) = true := decide_eq_true c7
     clear c7
     have H' := zaa.mk H
     clear H
     obtain ⟨Ao8, co8, eo8⟩ := Kd.zde HO_4.out
     subst eo8
     have p184 : 0 ≤ (x5_1 : Int) := of_decide_eq_true (by first | (with_reducible assumption) | assumption)
     have q184 : x5_1 < (t181.length : Int) := of_decide_eq_true (by first | (with_reducible assumption) | assumption)
     obtain ⟨ad184, A184_0, c184_0, e184, hx184_0, hl184_0, hi184_0⟩ := zg1 (Kd.zcm HO_4.out).2.2 x5_1 p184 q184
     cases e184
     obtain ⟨ce184, hce184, hMe184, hcc184⟩ := Kd.zhn HO_4.out [] x5_1 p184 (by first | exact q184 | exact of_decide_eq_true (by first | (with_reducible assumption) | assumption) | (have e_ := (Kd.zcm HO_4.out).1; omega))
     obtain ⟨ua184_0, uc184_0, rfl, ul184_0, ge184_0⟩ := Kd.zfQ hMe184
     have hv184_0 := hcc184 0 _ rfl
     rw [Nat.add_zero, show ((Kd.slice 62 k62)).sz = 1 from rfl, Nat.mul_one] at hv184_0
     replace hv184_0 := Option.some.inj (hv184_0.symm.trans hx184_0)
     injection hv184_0 with hva_ hvn_ hvc_
     rw [hva_] at ge184_0
     rw [hvc_] at ul184_0
     have HL184_0 := zaa.mk (show Kd.V k62 62 _ w.heap.size _ _ (zc1 t181 x5_1) from Kd.V_mk ul184_0 ge184_0)
     clear hva_ hvn_ hvc_ ge184_0 ul184_0
     clear hcc184 hce184
     have HR184_0 := zaa.mk hi184_0
     have HC184_0 := zaa.mk hl184_0
     clear hi184_0 hl184_0
     replace p184 := eq_true p184
     replace q184 := eq_true q184
     go_wp2
     go_roundg k1
     case measure => have := HK1.out; omega
     case rel => exact ⟨(wrap64 (x3_1 + ((zc1 t181 x5_1).length : Int))), (wrap64 (x5_1 + 1)), (by first | rfl | (simp; done) | (simp [*]; done)), (by first | rfl | (simp; done) | (simp [*]; done)), H', ⟨by have := HK1.out; omega⟩, ⟨by (with_reducible repeat (first | apply Kd.zbA | apply Kd.zbz | apply Kd.zby)); exact HO_4.out⟩, ⟨by (with_reducible repeat (first | refine zah ?_ _ | refine zak ?_ | refine zaf ?_ _)); exact BK180.out⟩, ⟨by repeat (first | (with_reducible first | exact HB.out | apply zac | apply zab | apply zad | refine zai ?_ GE180.out) | exact HB.out)⟩⟩
    ·rw [if_neg c7] at H
     exact absurd H (by simp)
   ·rw [if_neg c6] at H
    have c6b0 : decide (x5_1 < (t181.length : Int)) = false := decide_eq_false c6
    clear c6
    obtain rfl := Option.some.inj H
    obtain ⟨Ao9, co9, eo9⟩ := Kd.zde HO_4.out
    subst eo9
    go_wp2
    go_ret
    exact ⟨by first | rfl | (simp [zan, zam] <;> rfl) | (simp [*, zan, zam] <;> rfl), by repeat (first | (with_reducible first | exact HB.out | apply zac | apply zab | apply zad | refine zai ?_ GE180.out) | exact HB.out)⟩
end Go.Proofs.YtbicjgaadknmfaaDoor.P
end
section
namespace Go.Proofs.YtbicjgaadknmfaaDoor.P
open Go.RowKit Go.Proofs.YtbicjgaadknmfaaDoorW.PrintWords Go.Proofs.YtbicjgaadknmfaaDoorW.PrintLast Go.Proofs.YtbicjgaadknmfaaDoorW.PrintMore
attribute [local go_sem] zck zcl zca zcc zbQ zbP zb0 zb1
set_option linter.unusedVariables false
set_option linter.unusedSimpArgs false
def zbD.f (a0 : ByteArray) : Option (Bool) := if a0.toList = ([116] : List UInt8) then (some false) else (if a0.toList = ([121] : List UInt8) then (some false) else (if a0.toList = ([112] : List UInt8) then (some false) else (if a0.toList = ([108, 101, 116] : List UInt8) then (some false) else ((zcK.f 2 a0 0).bind fun t207 => (some t207)))))
set_option maxHeartbeats 8000000 in
set_option maxRecDepth 100000 in
theorem zbD.calls (a0 : ByteArray) (r : Bool) (w : World) (h : zbD.f a0 = some r) :
  Calls Tryd.prog 35 #[.string a0] w fun e w' => e = .returned (.bool r) ∧ Below w.heap.size w w' := by
 have hu134 := Tryd.underlying134
 have HB := zaa.mk (Below.refl w.heap.size w)
 have H : (if a0.toList = ([116] : List UInt8) then (some false) else (if a0.toList = ([121] : List UInt8) then (some false) else (if a0.toList = ([112] : List UInt8) then (some false) else (if a0.toList = ([108, 101, 116] : List UInt8) then (some false) else ((zcK.f 2 a0 0).bind fun t207 => (some t207)))))) = some r := h
 clear h
 by_cases c2 : a0.toList = ([116] : List UInt8)
 ·rw [if_pos c2] at H
  have c2b0 : (a0.toList == ([116] : List UInt8)) = true := beq_iff_eq.mpr c2
  have c2b1 : (a0.toList != ([116] : List UInt8)) = false := bne_eq_false_iff_eq.mpr c2
  clear c2
  obtain rfl := Option.some.inj H
  go_enter Tryd.func35, Tryd.ntmps35
  go_wp2
  go_ret
  exact ⟨by first | rfl | (simp [zan, zam] <;> rfl) | (simp [*, zan, zam] <;> rfl), by repeat (first | (with_reducible first | exact HB.out | apply zac | apply zab | apply zad) | exact HB.out)⟩
 ·rw [if_neg c2] at H
  have c2b0 : (a0.toList == ([116] : List UInt8)) = false := beq_eq_false_iff_ne.mpr c2
  have c2b1 : (a0.toList != ([116] : List UInt8)) = true := bne_iff_ne.mpr c2
  by_cases c3 : a0.toList = ([121] : List UInt8)
  ·rw [if_pos c3] at H
   have c3b0 : (a0.toList == ([121] : List UInt8)) = true := beq_iff_eq.mpr c3
   have c3b1 : (a0.toList != ([121] : List UInt8)) = false := bne_eq_false_iff_eq.mpr c3
   clear c3
   obtain rfl := Option.some.inj H
   go_enter Tryd.func35, Tryd.ntmps35
   go_wp2
   go_ret
   exact ⟨by first | rfl | (simp [zan, zam] <;> rfl) | (simp [*, zan, zam] <;> rfl), by repeat (first | (with_reducible first | exact HB.out | apply zac | apply zab | apply zad) | exact HB.out)⟩
  ·rw [if_neg c3] at H
   have c3b0 : (a0.toList == ([121] : List UInt8)) = false := beq_eq_false_iff_ne.mpr c3
   have c3b1 : (a0.toList != ([121] : List UInt8)) = true := bne_iff_ne.mpr c3
   by_cases c4 : a0.toList = ([112] : List UInt8)
   ·rw [if_pos c4] at H
    have c4b0 : (a0.toList == ([112] : List UInt8)) = true := beq_iff_eq.mpr c4
    have c4b1 : (a0.toList != ([112] : List UInt8)) = false := bne_eq_false_iff_eq.mpr c4
    clear c4
    obtain rfl := Option.some.inj H
    go_enter Tryd.func35, Tryd.ntmps35
    go_wp2
    go_ret
    exact ⟨by first | rfl | (simp [zan, zam] <;> rfl) | (simp [*, zan, zam] <;> rfl), by repeat (first | (with_reducible first | exact HB.out | apply zac | apply zab | apply zad) | exact HB.out)⟩
   ·rw [if_neg c4] at H
    have c4b0 : (a0.toList == ([112] : List UInt8)) = false := beq_eq_false_iff_ne.mpr c4
    have c4b1 : (a0.toList != ([112] : List UInt8)) = true := bne_iff_ne.mpr c4
    by_cases c5 : a0.toList = ([108, 101, 116] : List UInt8)
    ·rw [if_pos c5] at H
     have c5b0 : (a0.toList == ([108, 101, 116] : List UInt8)) = true := beq_iff_eq.mpr c5
     have c5b1 : (a0.toList != ([108, 101, 116] : List UInt8)) = false := bne_eq_false_iff_eq.mpr c5
     clear c5
     obtain rfl := Option.some.inj H
     go_enter Tryd.func35, Tryd.ntmps35
     go_wp2
     go_ret
     exact ⟨by first | rfl | (simp [zan, zam] <;> rfl) | (simp [*, zan, zam] <;> rfl), by repeat (first | (with_reducible first | exact HB.out | apply zac | apply zab | apply zad) | exact HB.out)⟩
    ·rw [if_neg c5] at H
     have c5b0 : (a0.toList == ([108, 101, 116] : List UInt8)) = false := beq_eq_false_iff_ne.mpr c5
     have c5b1 : (a0.toList != ([108, 101, 116] : List UInt8)) = true := bne_iff_ne.mpr c5
     replace H := Option.bind_eq_some_iff.mp H
     obtain ⟨t207, A60, H⟩ := H
     replace H : (some t207) = some r := H
     have A6 := zaa.mk A60
     clear A60
     obtain rfl := Option.some.inj H
     go_enter Tryd.func35, Tryd.ntmps35
     go_wp2_with (first | ((with_reducible refine zaG (f := 83) rfl ?_); refine za2 (some 11) rfl rfl Tryd.func83 (by kernel_rfl) rfl #[.agg #[.int .i64 2, .string a0, .int .i64 0]] rfl (by (try simp only [List.map_toArray, List.map_cons, List.map_nil]); first | done | rfl | (simp only [List.length_drop, List.length_take]; rfl)) ?_; (with_reducible refine (zcK.calls 2 a0 0 t207 _ A6.out).mono ?_); rintro e w7 ⟨rfl, hb⟩; refine ⟨_, rfl, ?_⟩; have n0_ := zaa.mk (zax (by repeat (first | (with_reducible first | exact HB.out | apply zac | apply zab | apply zad) | exact HB.out)) hb); clear HB; have HB := n0_; clear n0_; (try clear hb); (try clear hb2); (try clear hk); (try clear hi)))
     go_ret
     exact ⟨by first | rfl | (simp [zan, zam] <;> rfl) | (simp [*, zan, zam] <;> rfl), by repeat (first | (with_reducible first | exact HB.out | apply zac | apply zab | apply zad) | exact HB.out)⟩
def zaW.l0 : Nat → List (S60) → List (S60) → Int → Int → Option ((List (S60)))
 | 0, _, _, _, _ => none
 | k + 1, x3, x6, x7, x8 => if x8 < x7 then (if 0 ≤ x8 then (if x8 < (x6.length : Int) then (if ([] : List Int).length + ((zaF x6 x8).f2).length < 35184372088832 then (if x3.length < 3518437208883 then (zaW.l0 k (x3 ++ [(⟨(zaF x6 x8).f0, (zaF x6 x8).f1, (([] : List Int) ++ ((zaF x6 x8).f2))⟩ : S60)]) x6 x7 (wrap64 (x8 + 1))) else (none)) else (none)) else (none)) else (none)) else (some x3)
def zaW.f (k : Nat) (l0 : List (S60)) : Option ((List (S60))) := zaW.l0 k ([] : List (S60)) l0 (l0.length : Int) 0
theorem zaW.zaR : ∀ k, (∀ y0 y1 y2 y3, LeO (zaW.l0 k y0 y1 y2 y3) (zaW.l0 (k + 1) y0 y1 y2 y3))
 | 0 => fun _ _ _ _ r h => by simp [zaW.l0] at h
 | k + 1 => by
  have ih0 := zaW.zaR k
  ·intro y0 y1 y2 y3
   unfold zaW.l0
   repeat' first
   | (with_reducible exact ih0 _ _ _ _)
   | (with_reducible exact LeO.refl _)
   | (with_reducible exact LeO.none _)
   | (with_reducible refine LeO.ite ?_ ?_)
   | (with_reducible refine LeO.bind ?_ (fun _ => ?_))
   | exact ih0 _ _ _ _
   | exact LeO.none _
   | refine LeO.ite ?_ ?_
   | refine LeO.bind ?_ (fun _ => ?_)
theorem zaW.mono : ∀ a0 k, LeO (zaW.f k a0) (zaW.f (k + 1) a0) := by
 intro a0 k
 have ih0 := zaW.zaR k
 unfold zaW.f
 repeat' first
   | (with_reducible exact ih0 _ _ _ _)
   | (with_reducible exact LeO.refl _)
   | (with_reducible exact LeO.none _)
   | (with_reducible refine LeO.ite ?_ ?_)
   | (with_reducible refine LeO.bind ?_ (fun _ => ?_))
   | exact ih0 _ _ _ _
   | exact LeO.none _
   | refine LeO.ite ?_ ?_
   | refine LeO.bind ?_ (fun _ => ?_)
def zaW.T5 : Bool × List (List Nat × List Nat) := (true, [([], []), ([], []), ([1], [1]), ([], []), ([3], [3]), ([], []), ([5], [5]), ([6], [6]), ([2, 4, 7], [2, 4, 7]), ([8], [8]), ([0, 9, 7], [0, 9]), ([10, 10, 0, 1, 2, 3, 4, 5, 6, 7, 8, 9, 10], [0, 10])])
def zaW.B5 : List Nat := [0, 0, 2, 0, 8, 0, 32, 96, 254, 510, 1023, 2047]
theorem zaW.tab5 : rtab .any (opsOf Tryd.f85 5) = zaW.T5 := by kernel_rfl
theorem zaW.zg2 : zcU zaW.T5.2 zaW.B5 = true := by kernel_rfl
set_option maxHeartbeats 8000000 in
set_option maxRecDepth 100000 in
theorem zaW.calls (k : Nat) (A0 : Option Addr) (c0 : Nat) (l0 : List (S60)) (r : List (S60)) (w : World) (hr0 : Kd.C k60 w A0 l0.length l0) (hc0 : l0.length ≤ c0) (h : zaW.f k l0 = some r) :
  Calls Tryd.prog 85 #[.slice A0 l0.length c0] w fun e w' => ∃ v0_ : Value, e = .returned (v0_) ∧ Kd.S k60 60 w' w.heap.size (fun _ => True) v0_ r ∧ Below w.heap.size w w' := by
 have hu60 := Tryd.underlying60
 have HR0 := zaa.mk hr0
 have HC0 := zaa.mk hc0
 clear hr0 hc0
 have HB := zaa.mk (Below.refl w.heap.size w)
 have H : (zaW.l0 k ([] : List (S60)) l0 (l0.length : Int) 0) = some r := h
 clear h
 have H' := zaa.mk H
 clear H
 go_enter Tryd.func85, Tryd.ntmps85
 go_wp2
 go_loopg [3, 8] k (fun kq v3 v8 w' => ∃ (x3_1 : List (S60)) (x8_1 : Int), v8 = .int .i64 x8_1 ∧ zaa (zaW.l0 kq x3_1 l0 (l0.length : Int) x8_1 = some r) ∧ zaa (kq ≤ k) ∧ zaa (Kd.S k60 60 w' w.heap.size (fun _ => True) v3 x3_1) ∧ zaa (Below w.heap.size w w'))
 case atStart => exact ⟨(([] : List (S60))), (0), (by first | rfl | (simp; done) | (simp [*]; done)), H', ⟨Nat.le_refl _⟩, ⟨by first | exact Kd.zeE _ _ _ _ _ | exact Kd.zew _ _ _ _ _ | exact Kd.zeA _ _ _ _ _ | exact Kd.zex _ _ _ _ _ | exact Kd.zc3 _ _ _ _ _⟩, ⟨by repeat (first | (with_reducible first | exact HB.out | apply zac | apply zab | apply zad) | exact HB.out)⟩⟩
 case round =>
  clear H'
  obtain ⟨x3_1, x8_1, rfl, HA, HK1, HO_3, HB⟩ := hrel
  cases gk with
  | zero => exact absurd HA.out (by simp [zaW.l0])
  | succ k1 =>
   have H := HA.out
   clear HA
   simp only [zaW.l0] at H
   by_cases c2 : x8_1 < (l0.length : Int)
   ·rw [if_pos c2] at H
    have c2b0 : decide (x8_1 < (l0.length : Int)) = true := decide_eq_true c2
    clear c2
    by_cases c3 : 0 ≤ x8_1
    ·rw [if_pos c3] at H
     have c3b0 : decide (0 ≤ x8_1) = true := decide_eq_true c3
     clear c3
     by_cases c4 : x8_1 < (l0.length : Int)
     ·rw [if_pos c4] at H
      have c4b0 : decide (x8_1 < (l0.length : Int)) = true := decide_eq_true c4
      clear c4
      by_cases c5 : ([] : List Int).length + ((zaF l0 x8_1).f2).length < 35184372088832
      ·rw [if_pos c5] at H
       have LMc5 := zaa.mk c5
       clear c5
       obtain ⟨y210, hy210⟩ : ∃ y_ : List Int, y_ = (([] : List Int) ++ ((zaF l0 x8_1).f2)) := ⟨_, rfl⟩
       replace H : (if x3_1.length < 3518437208883 then (zaW.l0 k1 (x3_1 ++ [(⟨(zaF l0 x8_1).f0, (zaF l0 x8_1).f1, y210⟩ : S60)]) l0 (l0.length : Int) (wrap64 (x8_1 + 1))) else (none)) = some r := by first | (rw [hy210]; with_reducible exact H) | (have H2_ := (Option.bind_some _ _).symm.trans H; rw [hy210]; with_reducible exact H2_) | (have H2_ := (Option.bind_some _ _).symm.trans H; with_reducible exact H2_) | with_reducible exact H | (rw [hy210]; exact H) | exact H
       have Ny210 := zaa.mk hy210
       clear hy210
       by_cases c6 : x3_1.length < 3518437208883
       ·rw [if_pos c6] at H
        have LMc6 := zaa.mk c6
        clear c6
        obtain ⟨y213, hy213⟩ : ∃ y_ : List (S60), y_ = (x3_1 ++ [(⟨(zaF l0 x8_1).f0, (zaF l0 x8_1).f1, y210⟩ : S60)]) := ⟨_, rfl⟩
        replace H : (zaW.l0 k1 y213 l0 (l0.length : Int) (wrap64 (x8_1 + 1))) = some r := by first | (rw [hy213]; with_reducible exact H) | (have H2_ := (Option.bind_some _ _).symm.trans H; rw [hy213]; with_reducible exact H2_) | (have H2_ := (Option.bind_some _ _).symm.trans H; with_reducible exact H2_) | with_reducible exact H | (rw [hy213]; exact H) | exact H
        have Ny213 := zaa.mk hy213
        clear hy213
        have H' := zaa.mk H
        clear H
        have p208 : 0 ≤ (x8_1 : Int) := of_decide_eq_true (by first | (with_reducible assumption) | assumption)
        have q208 : x8_1 < (l0.length : Int) := of_decide_eq_true (by first | (with_reducible assumption) | assumption)
        obtain ⟨ad208, A208_2, c208_2, e208, hx208_0, hx208_1, hx208_2, hl208_2, hi208_2⟩ := zcY HR0.out x8_1 p208 q208
        cases e208
        replace hx208_0 := (HB.out.cell (World.block_lt_of_cell? w _ hx208_0)).trans hx208_0
        replace hx208_1 := (HB.out.cell (World.block_lt_of_cell? w _ hx208_1)).trans hx208_1
        replace hx208_2 := (HB.out.cell (World.block_lt_of_cell? w _ hx208_2)).trans hx208_2
        have HR208_2 := zaa.mk hi208_2
        have HC208_2 := zaa.mk hl208_2
        clear hi208_2 hl208_2
        replace p208 := eq_true p208
        replace q208 := eq_true q208
        try go_wp2_with (first | ((with_reducible refine zbc (N := 5) rfl ?_); refine zbb ?hg (N := 5) ?hd (cs := #[.int .i64 0, .int .i64 0, .slice none 0 0]) (t := 60) ?hr ?_; (case hd => rfl); (case hg => rfl); (case hr => first | (go_simp; done) | (go_simp; rfl)); intro gb209 hg w7 hbox hb; have n0_ := zaa.mk (Kd.zeH (Kd.ziv (by (with_reducible repeat (first | apply Kd.zdE | apply Kd.zdz | apply Kd.zdM)); exact HO_3.out) gb209 (Nat.le_of_eq hg.symm)) hb); have n1_ := zaa.mk (zax (by repeat (first | (with_reducible first | exact HB.out | apply zac | apply zab | apply zad) | exact HB.out)) hb); have n2_ := zaa.mk (hbox); have n3_ := zaa.mk ((by rw [hg]; exact (zay (by repeat (first | (with_reducible first | exact HB.out | apply zac | apply zab | apply zad) | exact HB.out))) : w.heap.size ≤ gb209)); have n4_ := zaa.mk ((by rw [hg]; exact (zay (by repeat (first | (with_reducible first | exact HB.out | apply zac | apply zab | apply zad) | exact HB.out))) : w.heap.size ≤ gb209)); clear HO_3; clear HB; have HO_3 := n0_; have HB := n1_; have BK209 := n2_; have GW209 := n3_; have GE209 := n4_; clear n0_ n1_ n2_ n3_ n4_; clear hb hbox hg; have hcz8_0 : w7.cell? ⟨gb209, 0, none⟩ = some (.int .i64 0) := (zae BK209.out 0).trans rfl; have hcz8_1 : w7.cell? ⟨gb209, 1, none⟩ = some (.int .i64 0) := (zae BK209.out 1).trans rfl; have hcz8_2 : w7.cell? ⟨gb209, 2, none⟩ = some (.slice none 0 0) := (zae BK209.out 2).trans rfl; have hfz8_0 := zaj BK209.out 0; have hfz8_1 := zaj BK209.out 1; have hfz8_2 := zaj BK209.out 2))
        have n0_ : zaa (Kd.S k60 60 (((w7.setCell ⟨gb209, 0, none⟩ (.int .i64 ((zaF l0 x8_1).f0))).setCell ⟨gb209, 1, none⟩ (.int .i64 ((zaF l0 x8_1).f1))).setCell ⟨gb209, 2, none⟩ (.slice A208_2 ((zaF l0 x8_1).f2).length c208_2)) w.heap.size (fun k_ => k_ ≠ gb209) u3 x3_1) := ⟨by (with_reducible repeat (first | apply Kd.zdE | apply Kd.zdz | apply Kd.zdM)); exact Kd.zdK (Kd.zhm (p := ⟨gb209, 2, none⟩) (Kd.zhm (p := ⟨gb209, 1, none⟩) (Kd.zhm (p := ⟨gb209, 0, none⟩) (Kd.zdK HO_3.out (fun k_ hk => (⟨hk, hk.2⟩ : _ ∧ k_ ≠ gb209))) (fun _ hk => hk.2) (.int .i64 ((zaF l0 x8_1).f0))) (fun _ hk => hk.2) (.int .i64 ((zaF l0 x8_1).f1))) (fun _ hk => hk.2) (.slice A208_2 ((zaF l0 x8_1).f2).length c208_2)) (fun _ hk => hk.1.2)⟩
        have n1_ : zaa ((((w7.setCell ⟨gb209, 0, none⟩ (.int .i64 ((zaF l0 x8_1).f0))).setCell ⟨gb209, 1, none⟩ (.int .i64 ((zaF l0 x8_1).f1))).setCell ⟨gb209, 2, none⟩ (.slice A208_2 ((zaF l0 x8_1).f2).length c208_2)).heap[gb209]? = some (.cells #[.int .i64 ((zaF l0 x8_1).f0), .int .i64 ((zaF l0 x8_1).f1), .slice A208_2 ((zaF l0 x8_1).f2).length c208_2] 60 (0, 0))) := ⟨by (with_reducible repeat (first | refine zah ?_ _ | refine zak ?_ | refine zaf ?_ _)); refine za8 (cs := #[.int .i64 ((zaF l0 x8_1).f0), .int .i64 ((zaF l0 x8_1).f1), .slice none 0 0]) ?_ 2 _ rfl; (with_reducible repeat (first | refine zah ?_ _ | refine zak ?_ | refine zaf ?_ _)); refine za8 (cs := #[.int .i64 ((zaF l0 x8_1).f0), .int .i64 0, .slice none 0 0]) ?_ 1 _ rfl; (with_reducible repeat (first | refine zah ?_ _ | refine zak ?_ | refine zaf ?_ _)); refine za8 (cs := #[.int .i64 0, .int .i64 0, .slice none 0 0]) ?_ 0 _ rfl; (with_reducible repeat (first | refine zah ?_ _ | refine zak ?_ | refine zaf ?_ _)); exact BK209.out⟩
        have n2_ : zaa (Below w.heap.size w (((w7.setCell ⟨gb209, 0, none⟩ (.int .i64 ((zaF l0 x8_1).f0))).setCell ⟨gb209, 1, none⟩ (.int .i64 ((zaF l0 x8_1).f1))).setCell ⟨gb209, 2, none⟩ (.slice A208_2 ((zaF l0 x8_1).f2).length c208_2))) := ⟨by repeat (first | (with_reducible first | exact HB.out | apply zac | apply zab | apply zad | refine zai ?_ GE209.out) | exact HB.out)⟩
        (try clear HO_3)
        (try clear BK209)
        (try clear HB)
        generalize (((w7.setCell ⟨gb209, 0, none⟩ (.int .i64 ((zaF l0 x8_1).f0))).setCell ⟨gb209, 1, none⟩ (.int .i64 ((zaF l0 x8_1).f1))).setCell ⟨gb209, 2, none⟩ (.slice A208_2 ((zaF l0 x8_1).f2).length c208_2)) = w9 at n0_ n1_ n2_ ⊢
        have HO_3 := n0_
        have BK209 := n1_
        have HB := n2_
        clear n0_ n1_ n2_
        have n0_ := zaa.mk (Kd.zdM HO_3.out)
        have n1_ := zaa.mk (zak BK209.out)
        have n2_ := zaa.mk (zad HB.out)
        clear HO_3
        clear BK209
        clear HB
        have HO_3 := n0_
        have BK209 := n1_
        have HB := n2_
        clear n0_ n1_ n2_
        refine zcZ (n := 12) (S := fun w' => w'.cell? ⟨gb209, 0, none⟩ = some (.int .i64 ((zaF l0 x8_1).f0)) ∧ w'.cell? ⟨gb209, 1, none⟩ = some (.int .i64 ((zaF l0 x8_1).f1)) ∧ w'.cell? ⟨gb209, 2, none⟩ = some (.slice A208_2 ((zaF l0 x8_1).f2).length c208_2)) (ds := []) #[false, false, false, false, false, false, false, false, false, false, false, false] (by kernel_rfl) rfl rfl ⟨(zae BK209.out 0).trans rfl, (zae BK209.out 1).trans rfl, (zae BK209.out 2).trans rfl⟩ (fun hHeld => ?_); refine zcr zaW.tab5 zaW.zg2 (fun HT_ HW_ => ?_)
        generalize w9.drew = w10 at HO_3 BK209 HB hHeld ⊢
        refine zaI (i := 0) (N := some 12) (v := ?_) (a' := ?_) #[true, false, false, false, false, false, false, false, false, false, false, false] rfl rfl (zaC HT_.out (by kernel_rfl)) (fun _ _ _ h => h) (Or.inl ⟨by rfl, ?_⟩) ?_ ?_
        rotate_left
        ·intro w'
         go_simp
         with_reducible rfl
        rotate_left
        ·simp only [Act.put, List.setIfInBounds_toArray, List.set_cons_zero, List.set_cons_succ, zas, zat]
         rfl
        refine zaI (i := 1) (N := some 13) (v := ?_) (a' := ?_) #[true, true, false, false, false, false, false, false, false, false, false, false] rfl rfl (zaC HT_.out (by kernel_rfl)) (fun _ _ _ h => h) (Or.inl ⟨by rfl, ?_⟩) ?_ ?_
        rotate_left
        ·intro w'
         go_simp
         with_reducible rfl
        rotate_left
        ·simp only [Act.put, List.setIfInBounds_toArray, List.set_cons_zero, List.set_cons_succ, zas, zat]
         rfl
        refine zaI (i := 3) (N := some 15) (v := ?_) (a' := ?_) #[true, true, false, true, false, false, false, false, false, false, false, false] rfl rfl (zaC HT_.out (by kernel_rfl)) (fun _ _ _ h => h) (Or.inl ⟨by rfl, ?_⟩) ?_ ?_
        rotate_left
        ·intro w'
         go_simp
         with_reducible rfl
        rotate_left
        ·simp only [Act.put, List.setIfInBounds_toArray, List.set_cons_zero, List.set_cons_succ, zas, zat]
         rfl
        refine zaI (i := 5) (N := some 17) (v := ?_) (a' := ?_) #[true, true, false, true, false, true, false, false, false, false, false, false] rfl rfl (zaC HT_.out (by kernel_rfl)) (fun _ _ _ h => h) (Or.inl ⟨by rfl, ?_⟩) ?_ ?_
        rotate_left
        ·intro w'
         go_simp
         with_reducible rfl
        rotate_left
        ·simp only [Act.put, List.setIfInBounds_toArray, List.set_cons_zero, List.set_cons_succ, zas, zat]
         rfl
        refine zbl (i := 2) (N := some 14) (v := ?_) (a' := ?_) #[true, true, true, true, false, true, false, false, false, false, false, false] rfl rfl (za6 HT_.out HW_.out (by kernel_rfl)) (fun _ _ _ h => h) (Or.inl ⟨by rfl, ?_⟩) hHeld ?_ ?_
        rotate_left
        ·rintro w' ⟨s0, s1, s2⟩
         go_simp
         with_reducible rfl
        rotate_left
        ·simp only [Act.put, List.setIfInBounds_toArray, List.set_cons_zero, List.set_cons_succ, zas, zat]
         rfl
        refine zbl (i := 4) (N := some 16) (v := ?_) (a' := ?_) #[true, true, true, true, true, true, false, false, false, false, false, false] rfl rfl (za6 HT_.out HW_.out (by kernel_rfl)) (fun _ _ _ h => h) (Or.inl ⟨by rfl, ?_⟩) hHeld ?_ ?_
        rotate_left
        ·rintro w' ⟨s0, s1, s2⟩
         go_simp
         with_reducible rfl
        rotate_left
        ·simp only [Act.put, List.setIfInBounds_toArray, List.set_cons_zero, List.set_cons_succ, zas, zat]
         rfl
        refine zbl (i := 6) (N := some 18) (v := ?_) (a' := ?_) #[true, true, true, true, true, true, true, false, false, false, false, false] rfl rfl (za6 HT_.out HW_.out (by kernel_rfl)) (fun _ _ _ h => h) (Or.inl ⟨by rfl, ?_⟩) hHeld ?_ ?_
        rotate_left
        ·rintro w' ⟨s0, s1, s2⟩
         go_simp
         with_reducible rfl
        rotate_left
        ·simp only [Act.put, List.setIfInBounds_toArray, List.set_cons_zero, List.set_cons_succ, zas, zat]
         rfl
        refine one_ (i := 7) (N := some 19) #[true, true, true, true, true, true, true, true, false, false, false, false] rfl rfl (zbJ HT_.out (by kernel_rfl)) (by decide) (fun K hK => ?_)
        refine Kd.zek (Kd.int .u32) (w0 := w) w.heap.size (by rfl) (.const (.slice none 0 0)) (.tmp 18) 23 101 (.int .u32 0) 4 rfl Tryd.underlying23 zdB rfl (by decide) (by omega) (.slice none 0 0) ([] : List Int) ((zaF l0 x8_1).f2) _ _ _ (fun _ => True) (fun _ => False) rfl rfl ?aO ?aR (fun _ _ h => h) (fun _ h => h.elim) ?aF ?aB ?aS ?aL ?_
        (case aR => repeat (first | exact (Kd.za7 HR208_2.out HB.out) | (with_reducible refine Kd.zaT ?_ _) | (with_reducible refine Kd.zaU ?_ _) | (with_reducible refine Kd.za0 ?_)))
        (case aB => exact (by repeat (first | (with_reducible first | exact HB.out | apply zac | apply zab | apply zad | refine zai ?_ GE209.out) | exact HB.out)))
        (case aF => exact (fun _ _ => trivial))
        (case aO => exact ((Kd.zc3 _ _ _ _ (fun _ => True))))
        (case aS => exact (zay (by repeat (first | (with_reducible first | exact HB.out | apply zac | apply zab | apply zad | refine zai ?_ GE209.out) | exact HB.out))))
        (case aL => have := LMc5.out; omega)
        intro v211 w11 ho hb hg hat
        rw [← Ny210.out] at ho
        have n0_ := zaa.mk (Kd.ziX (Kd.zgC (by (with_reducible repeat (first | apply Kd.zdE | apply Kd.zdz | apply Kd.zdM)); exact HO_3.out)) hg hat)
        have n1_ := zaa.mk (zcJ (g := gb209) (o := .cells #[.int .i64 ((zaF l0 x8_1).f0), .int .i64 ((zaF l0 x8_1).f1), .slice A208_2 ((zaF l0 x8_1).f2).length c208_2] 60 (0, 0)) (by (with_reducible repeat (first | refine zah ?_ _ | refine zak ?_ | refine zaf ?_ _)); exact BK209.out) hg (by simp [Value.ownBlock]))
        have n2_ := zaa.mk (hb)
        have n3_ := zaa.mk (ho)
        clear HO_3
        clear BK209
        clear HB
        have HO_3 := n0_
        have BK209 := n1_
        have HB := n2_
        have HO212 := n3_
        clear n0_ n1_ n2_ n3_
        clear ho hb hg hat
        obtain ⟨Ao12, co12, eo12⟩ := Kd.zbE HO212.out
        (first | subst eo12 | (injection eo12 with f1_ f2_ f3_; have f4_ := f1_.symm; have f5_ := f3_.symm; clear f1_ f2_ f3_; subst f4_; subst f5_))
        refine hK.out _ _ ⟨(zae BK209.out 0).trans rfl, (zae BK209.out 1).trans rfl, (zae BK209.out 2).trans rfl⟩ (fun hHeld => ?_)
        clear hK K
        refine zbZ (a' := ?_) ?_ ?_
        rotate_left
        ·show Act.put _ (some 19) _ = _
         simp only [Act.put, List.setIfInBounds_toArray, List.set_cons_zero, List.set_cons_succ, zas, zat]
         rfl
        refine zaI (i := 8) (N := some 20) (v := ?_) (a' := ?_) #[true, true, true, true, true, true, true, true, true, false, false, false] rfl rfl (zaC HT_.out (by kernel_rfl)) (fun _ _ _ h => h) (Or.inl ⟨by rfl, ?_⟩) ?_ ?_
        rotate_left
        ·intro w'
         go_simp
         with_reducible rfl
        rotate_left
        ·simp only [Act.put, List.setIfInBounds_toArray, List.set_cons_zero, List.set_cons_succ, zas, zat]
         rfl
        refine one_ (i := 9) (N := some 21) #[true, true, true, true, true, true, true, true, true, true, false, false] rfl rfl (zbJ HT_.out (by kernel_rfl)) (by decide) (fun K hK => ?_)
        refine zhz (w1 := ?_) (v := ?_) (by rfl) rfl ?_ ?_
        rotate_left 2
        ·go_simp
         constructor
         ·rfl
         ·rfl
        refine hK.out _ _ ⟨(zae (zaf BK209.out _) 0).trans rfl, (zae (zaf BK209.out _) 1).trans rfl, (zae (zaf BK209.out _) 2).trans rfl⟩ (fun hHeld => ?_)
        clear hK K
        refine zbZ (a' := ?_) ?_ ?_
        rotate_left
        ·show Act.put _ (some 21) _ = _
         simp only [Act.put, List.setIfInBounds_toArray, List.set_cons_zero, List.set_cons_succ, zas, zat]
         rfl
        refine one_ (i := 10) (N := some 22) #[true, true, true, true, true, true, true, true, true, true, true, false] rfl rfl (zbJ HT_.out (by kernel_rfl)) (by decide) (fun K hK => ?_)
        refine Kd.zfS k60 (w0 := w) w.heap.size (by rfl) (.tmp 12) (.tmp 21) 56 60 (.agg #[(.int .i64 0), (.int .i64 0), (.slice none 0 0)]) 40 rfl Tryd.underlying56 zhR rfl (by decide) (by omega) u3 x3_1 (⟨(zaF l0 x8_1).f0, (zaF l0 x8_1).f1, y210⟩ : S60) [.int .i64 ((zaF l0 x8_1).f0), .int .i64 ((zaF l0 x8_1).f1), .slice Ao12 y210.length co12] (fun k_ => k_ ≠ gb209) (fun k_ => some k_ = (.slice Ao12 y210.length co12 : Value).ownBlock) rfl rfl ?aP (fun k_ hk_ => ((Kd.zbO (ok' := fun k_ => ((fun k_ => k_ ≠ gb209)) k_ ∧ some k_ ≠ (u3 : Value).ownBlock) (Kd.zez (Kd.zd9 (HO212.out) (Kd.zgL HO_3.out) (by decide)) BK209.out (by decide)) (fun k_ hk => ⟨hk.2, hk.1.2⟩))).1 k_ hk_.symm) ?aF ?aO ?aB ?aS ?aL ?_
        (case aP => exact zi2 _ _ _ (⟨(zaF l0 x8_1).f0, (zaF l0 x8_1).f1, y210⟩ : S60) (Kd.zbO (Kd.zeB rfl (Kd.zbO (ok' := fun k_ => ((fun k_ => k_ ≠ gb209)) k_ ∧ some k_ ≠ (u3 : Value).ownBlock) (Kd.zez (Kd.zd9 (HO212.out) (Kd.zgL HO_3.out) (by decide)) BK209.out (by decide)) (fun k_ hk => ⟨hk.2, hk.1.2⟩))) (fun _ h_ => h_)))
        (case aB => exact (by repeat (first | (with_reducible first | exact HB.out | apply zac | apply zab | apply zad | refine zai ?_ GE209.out) | exact HB.out)))
        (case aF => exact (fun k_ hk => Kd.zeg (g := gb209) (o := .cells #[.int .i64 ((zaF l0 x8_1).f0), .int .i64 ((zaF l0 x8_1).f1), .slice A208_2 ((zaF l0 x8_1).f2).length c208_2] 60 (0, 0)) (by (with_reducible repeat (first | refine zah ?_ _ | refine zak ?_ | refine zaf ?_ _)); exact BK209.out) k_ hk))
        (case aO => exact (by (with_reducible repeat (first | apply Kd.zdE | apply Kd.zdz | apply Kd.zdM)); exact Kd.zdK HO_3.out (fun k_ hk => ⟨hk.1, fun e_ => hk.2 e_⟩)))
        (case aS => exact (zay (by repeat (first | (with_reducible first | exact HB.out | apply zac | apply zab | apply zad | refine zai ?_ GE209.out) | exact HB.out))))
        (case aL => have := LMc6.out; omega)
        intro v214 w13 ho hb hg hat
        rw [← Ny213.out] at ho
        have n0_ := zaa.mk (zcJ (g := gb209) (o := .cells #[.int .i64 ((zaF l0 x8_1).f0), .int .i64 ((zaF l0 x8_1).f1), .slice A208_2 ((zaF l0 x8_1).f2).length c208_2] 60 (0, 0)) (by (with_reducible repeat (first | refine zah ?_ _ | refine zak ?_ | refine zaf ?_ _)); exact BK209.out) hg (Kd.zjz HO_3.out (fun _ hk => hk.1)))
        have n1_ := zaa.mk (hb)
        have n2_ := zaa.mk (ho)
        clear BK209
        clear HB
        clear HO_3
        clear HO212
        have BK209 := n0_
        have HB := n1_
        have HO215 := n2_
        clear n0_ n1_ n2_
        clear ho hb hg hat
        refine hK.out _ _ ⟨(zae BK209.out 0).trans rfl, (zae BK209.out 1).trans rfl, (zae BK209.out 2).trans rfl⟩ (fun hHeld => ?_)
        clear hK K
        refine zbZ (a' := ?_) ?_ ?_
        rotate_left
        ·show Act.put _ (some 22) _ = _
         simp only [Act.put, List.setIfInBounds_toArray, List.set_cons_zero, List.set_cons_succ, zas, zat]
         rfl
        refine zaI (i := 11) (N := some 3) (v := ?_) (a' := ?_) #[true, true, true, true, true, true, true, true, true, true, true, true] rfl rfl (zaC HT_.out (by kernel_rfl)) (fun _ _ _ h => h) (Or.inl ⟨by rfl, ?_⟩) ?_ ?_
        rotate_left
        ·intro w'
         go_simp
         with_reducible rfl
        rotate_left
        ·simp only [Act.put, List.setIfInBounds_toArray, List.set_cons_zero, List.set_cons_succ, zas, zat]
         rfl
        refine zdj (zcQ HT_.out (by kernel_rfl)) ?_
        try go_wp2
        go_roundg k1
        case measure => have := HK1.out; omega
        case rel => exact ⟨(y213), (wrap64 (x8_1 + 1)), (by first | rfl | (simp; done) | (simp [*]; done)), H', ⟨by have := HK1.out; omega⟩, ⟨by (with_reducible repeat (first | apply Kd.zdE | apply Kd.zdz | apply Kd.zdM)); exact Kd.zdK HO215.out (fun _ hk => trivial)⟩, ⟨by repeat (first | (with_reducible first | exact HB.out | apply zac | apply zab | apply zad | refine zai ?_ GE209.out) | exact HB.out)⟩⟩
       ·rw [if_neg c6] at H
        exact absurd H (by simp)
      ·rw [if_neg c5] at H
       exact absurd H (by simp)
     ·rw [if_neg c4] at H
      exact absurd H (by simp)
    ·rw [if_neg c3] at H
     exact absurd H (by simp)
   ·rw [if_neg c2] at H
    have c2b0 : decide (x8_1 < (l0.length : Int)) = false := decide_eq_false c2
    clear c2
    obtain rfl := Option.some.inj H
    go_wp2
    go_ret
    exact ⟨_, by first | rfl | (simp [zan, zam] <;> rfl) | (simp [*, zan, zam] <;> rfl), by (with_reducible repeat (first | apply Kd.zdE | apply Kd.zdz | apply Kd.zdM)); exact HO_3.out, by repeat (first | (with_reducible first | exact HB.out | apply zac | apply zab | apply zad) | exact HB.out)⟩
mutual
def za1.l0 : Nat → List (List (S60)) → List (S127) → Int → Int → List (S127) → List (List (S60)) → Option ((List (List (S60))))
 | 0, _, _, _, _, _, _ => none
 | k + 1, x3, x9, x10, x11, x217000, x217001 => if x11 < x10 then (if 0 ≤ x11 then (if x11 < (x9.length : Int) then ((zaW.f k ((zaQ x9 x11).f1)).bind fun t219 => (if x3.length < 5864062014805 then (za1.l0 k (x3 ++ [t219]) x9 x10 (wrap64 (x11 + 1)) x217000 x217001) else (none))) else (none)) else (none)) else (za1.l1 k x3 x217001 (x217001.length : Int) 0)
def za1.l1 : Nat → List (List (S60)) → List (List (S60)) → Int → Int → Option ((List (List (S60))))
 | 0, _, _, _, _ => none
 | k + 1, x3, x23, x24, x25 => if x25 < x24 then (if 0 ≤ x25 then (if x25 < (x23.length : Int) then ((zaW.f k (zcv x23 x25)).bind fun t226 => (if x3.length < 5864062014805 then (za1.l1 k (x3 ++ [t226]) x23 x24 (wrap64 (x25 + 1))) else (none))) else (none)) else (none)) else (some x3)
end
def za1.f (k : Nat) (l0_0 : List (S127)) (l0_1 : List (List (S60))) : Option ((List (List (S60)))) := za1.l0 k ([] : List (List (S60))) l0_0 (l0_0.length : Int) 0 l0_0 l0_1
theorem za1.zaR : ∀ k, (∀ y0 y1 y2 y3 y4 y5, LeO (za1.l0 k y0 y1 y2 y3 y4 y5) (za1.l0 (k + 1) y0 y1 y2 y3 y4 y5)) ∧ (∀ y0 y1 y2 y3, LeO (za1.l1 k y0 y1 y2 y3) (za1.l1 (k + 1) y0 y1 y2 y3))
 | 0 => ⟨fun _ _ _ _ _ _ r h => by simp [za1.l0] at h, fun _ _ _ _ r h => by simp [za1.l1] at h⟩
 | k + 1 => by
  obtain ⟨ih0, ih1⟩ := za1.zaR k
  refine ⟨?_, ?_⟩
  ·intro y0 y1 y2 y3 y4 y5
   unfold za1.l0
   repeat' first
   | (with_reducible exact ih0 _ _ _ _ _ _)
   | (with_reducible exact ih1 _ _ _ _)
   | (with_reducible exact zaW.mono _ _)
   | (with_reducible exact LeO.refl _)
   | (with_reducible exact LeO.none _)
   | (with_reducible refine LeO.ite ?_ ?_)
   | (with_reducible refine LeO.bind ?_ (fun _ => ?_))
   | exact ih0 _ _ _ _ _ _
   | exact ih1 _ _ _ _
   | exact zaW.mono _ _
   | exact LeO.none _
   | refine LeO.ite ?_ ?_
   | refine LeO.bind ?_ (fun _ => ?_)
  ·intro y0 y1 y2 y3
   unfold za1.l1
   repeat' first
   | (with_reducible exact ih0 _ _ _ _ _ _)
   | (with_reducible exact ih1 _ _ _ _)
   | (with_reducible exact zaW.mono _ _)
   | (with_reducible exact LeO.refl _)
   | (with_reducible exact LeO.none _)
   | (with_reducible refine LeO.ite ?_ ?_)
   | (with_reducible refine LeO.bind ?_ (fun _ => ?_))
   | exact ih0 _ _ _ _ _ _
   | exact ih1 _ _ _ _
   | exact zaW.mono _ _
   | exact LeO.none _
   | refine LeO.ite ?_ ?_
   | refine LeO.bind ?_ (fun _ => ?_)
theorem za1.mono : ∀ a0 a1 k, LeO (za1.f k a0 a1) (za1.f (k + 1) a0 a1) := by
 intro a0 a1 k
 obtain ⟨ih0, ih1⟩ := za1.zaR k
 unfold za1.f
 repeat' first
   | (with_reducible exact ih0 _ _ _ _ _ _)
   | (with_reducible exact ih1 _ _ _ _)
   | (with_reducible exact zaW.mono _ _)
   | (with_reducible exact LeO.refl _)
   | (with_reducible exact LeO.none _)
   | (with_reducible refine LeO.ite ?_ ?_)
   | (with_reducible refine LeO.bind ?_ (fun _ => ?_))
   | exact ih0 _ _ _ _ _ _
   | exact ih1 _ _ _ _
   | exact zaW.mono _ _
   | exact LeO.none _
   | refine LeO.ite ?_ ?_
   | refine LeO.bind ?_ (fun _ => ?_)
set_option maxHeartbeats 8000000 in
set_option maxRecDepth 100000 in
theorem za1.calls (k : Nat) (A0_0 : Option Addr) (c0_0 : Nat) (l0_0 : List (S127)) (A0_1 : Option Addr) (c0_1 : Nat) (l0_1 : List (List (S60))) (r : List (List (S60))) (w : World) (hr0_0 : Kd.C k127 w A0_0 l0_0.length l0_0) (hc0_0 : l0_0.length ≤ c0_0) (hr0_1 : Kd.C (Kd.slice 60 k60) w A0_1 l0_1.length l0_1) (hc0_1 : l0_1.length ≤ c0_1) (h : za1.f k l0_0 l0_1 = some r) :
  Calls Tryd.prog 37 #[.agg #[.slice A0_0 l0_0.length c0_0, .slice A0_1 l0_1.length c0_1]] w fun e w' => ∃ v0_ : Value, e = .returned (v0_) ∧ Kd.R (Kd.slice 60 k60) 56 w' w.heap.size (fun _ => True) v0_ r ∧ Below w.heap.size w w' := by
 have hu50 := Tryd.underlying50
 have hu127 := Tryd.underlying127
 have HR0_0 := zaa.mk hr0_0
 have HC0_0 := zaa.mk hc0_0
 clear hr0_0 hc0_0
 have HR0_1 := zaa.mk hr0_1
 have HC0_1 := zaa.mk hc0_1
 clear hr0_1 hc0_1
 have HB := zaa.mk (Below.refl w.heap.size w)
 have H : (za1.l0 k ([] : List (List (S60))) l0_0 (l0_0.length : Int) 0 l0_0 l0_1) = some r := h
 clear h
 have H' := zaa.mk H
 clear H
 go_enter Tryd.func37, Tryd.ntmps37
 go_wp2_with (first | ((with_reducible refine zbc (N := 1) rfl ?_); refine zbb ?hg (N := 1) ?hd (cs := #[.slice A0_0 l0_0.length c0_0, .slice A0_1 l0_1.length c0_1]) (t := 50) ?hr ?_; (case hd => rfl); (case hg => rfl); (case hr => first | (go_simp; done) | (go_simp; rfl)); intro gb216 hg w2 hbox hb; have n0_ := zaa.mk (zax (by repeat (first | (with_reducible first | exact HB.out | apply zac | apply zab | apply zad) | exact HB.out)) hb); have n1_ := zaa.mk (hbox); have n2_ := zaa.mk ((by rw [hg]; exact (zay (by repeat (first | (with_reducible first | exact HB.out | apply zac | apply zab | apply zad) | exact HB.out))) : w.heap.size ≤ gb216)); have n3_ := zaa.mk ((by rw [hg]; exact (zay (by repeat (first | (with_reducible first | exact HB.out | apply zac | apply zab | apply zad) | exact HB.out))) : w.heap.size ≤ gb216)); clear HB; have HB := n0_; have BK216 := n1_; have GW216 := n2_; have GE216 := n3_; clear n0_ n1_ n2_ n3_; clear hb hbox hg; have hcz3_0 : w2.cell? ⟨gb216, 0, none⟩ = some (.slice A0_0 l0_0.length c0_0) := (zae BK216.out 0).trans rfl; have hcz3_1 : w2.cell? ⟨gb216, 1, none⟩ = some (.slice A0_1 l0_1.length c0_1) := (zae BK216.out 1).trans rfl; have hfz3_0 := zaj BK216.out 0; have hfz3_1 := zaj BK216.out 1))
 go_loopg [3, 11] k (fun kq v3 v11 w' => ∃ (x3_1 : List (List (S60))) (x11_1 : Int), v11 = .int .i64 x11_1 ∧ zaa (za1.l0 kq x3_1 l0_0 (l0_0.length : Int) x11_1 l0_0 l0_1 = some r) ∧ zaa (kq ≤ k) ∧ zaa (Kd.R (Kd.slice 60 k60) 56 w' w.heap.size (fun _ => True) v3 x3_1) ∧ zaa (w'.heap[gb216]? = some (.cells #[(.slice A0_0 l0_0.length c0_0), (.slice A0_1 l0_1.length c0_1)] 50 (0, 0))) ∧ zaa (Below w.heap.size w w'))
 case atStart => exact ⟨(([] : List (List (S60)))), (0), (by first | rfl | (simp; done) | (simp [*]; done)), H', ⟨Nat.le_refl _⟩, ⟨by first | exact Kd.zc3 _ _ _ _ _ | exact Kd.zew _ _ _ _ _ | exact Kd.zeA _ _ _ _ _ | exact Kd.zex _ _ _ _ _ | exact Kd.zeE _ _ _ _ _⟩, ⟨by (with_reducible repeat (first | refine zah ?_ _ | refine zak ?_ | refine zaf ?_ _)); exact BK216.out⟩, ⟨by repeat (first | (with_reducible first | exact HB.out | apply zac | apply zab | apply zad | refine zai ?_ GE216.out) | exact HB.out)⟩⟩
 case round =>
  clear H'
  try clear p2
  try clear c3
  try clear hcz3_0
  try clear hcz3_1
  try clear hfz3_0
  try clear hfz3_1
  obtain ⟨x3_1, x11_1, rfl, HA, HK1, HO_3, BK216, HB⟩ := hrel
  cases gk with
  | zero => exact absurd HA.out (by simp [za1.l0])
  | succ k1 =>
   have H := HA.out
   clear HA
   simp only [za1.l0] at H
   by_cases c4 : x11_1 < (l0_0.length : Int)
   ·rw [if_pos c4] at H
    have c4b0 : decide (x11_1 < (l0_0.length : Int)) = true := decide_eq_true c4
    clear c4
    by_cases c5 : 0 ≤ x11_1
    ·rw [if_pos c5] at H
     have c5b0 : decide (0 ≤ x11_1) = true := decide_eq_true c5
     clear c5
     by_cases c6 : x11_1 < (l0_0.length : Int)
     ·rw [if_pos c6] at H
      have c6b0 : decide (x11_1 < (l0_0.length : Int)) = true := decide_eq_true c6
      clear c6
      replace H := Option.bind_eq_some_iff.mp H
      obtain ⟨t219, A70, H⟩ := H
      replace H : (if x3_1.length < 5864062014805 then (za1.l0 k1 (x3_1 ++ [t219]) l0_0 (l0_0.length : Int) (wrap64 (x11_1 + 1)) l0_0 l0_1) else (none)) = some r := H
      have A7 := zaa.mk A70
      clear A70
      by_cases c8 : x3_1.length < 5864062014805
      ·rw [if_pos c8] at H
       have LMc8 := zaa.mk c8
       clear c8
       obtain ⟨y222, hy222⟩ : ∃ y_ : List (List (S60)), y_ = (x3_1 ++ [t219]) := ⟨_, rfl⟩
       replace H : (za1.l0 k1 y222 l0_0 (l0_0.length : Int) (wrap64 (x11_1 + 1)) l0_0 l0_1) = some r := by first | (rw [hy222]; with_reducible exact H) | (have H2_ := (Option.bind_some _ _).symm.trans H; rw [hy222]; with_reducible exact H2_) | (have H2_ := (Option.bind_some _ _).symm.trans H; with_reducible exact H2_) | with_reducible exact H | (rw [hy222]; exact H) | exact H
       have Ny222 := zaa.mk hy222
       clear hy222
       have H' := zaa.mk H
       clear H
       have p217 : 0 ≤ (x11_1 : Int) := of_decide_eq_true (by first | (with_reducible assumption) | assumption)
       have q217 : x11_1 < (l0_0.length : Int) := of_decide_eq_true (by first | (with_reducible assumption) | assumption)
       obtain ⟨ad217, A217_1, c217_1, e217, hx217_0, hx217_1, hl217_1, hi217_1⟩ := zdA HR0_0.out x11_1 p217 q217
       cases e217
       replace hx217_0 := (HB.out.cell (World.block_lt_of_cell? w _ hx217_0)).trans hx217_0
       replace hx217_1 := (HB.out.cell (World.block_lt_of_cell? w _ hx217_1)).trans hx217_1
       have HR217_1 := zaa.mk hi217_1
       have HC217_1 := zaa.mk hl217_1
       clear hi217_1 hl217_1
       replace p217 := eq_true p217
       replace q217 := eq_true q217
       go_wp2_with (first | ((with_reducible refine zbc (N := 5) rfl ?_); refine zbb ?hg (N := 5) ?hd (cs := #[.string (⟨#[]⟩ : ByteArray), .slice none 0 0]) (t := 127) ?hr ?_; (case hd => rfl); (case hg => rfl); (case hr => first | (go_simp; done) | (go_simp; rfl)); intro gb218 hg w9 hbox hb; have n0_ := zaa.mk (Kd.zcy (by (with_reducible repeat (first | apply Kd.zbf | apply Kd.zbd | apply Kd.zbp)); exact HO_3.out) hb); have n1_ := zaa.mk (zaP (g := gb216) (o := .cells #[.slice (some ad217) l0_0.length c0_0, .slice A0_1 l0_1.length c0_1] 50 (0, 0)) (by (with_reducible repeat (first | refine zah ?_ _ | refine zak ?_ | refine zaf ?_ _)); exact BK216.out) hb); have n2_ := zaa.mk (zax (by repeat (first | (with_reducible first | exact HB.out | apply zac | apply zab | apply zad | refine zai ?_ GE216.out) | exact HB.out)) hb); have n3_ := zaa.mk (hbox); have n4_ := zaa.mk ((by rw [hg]; exact (zay (by repeat (first | (with_reducible first | exact HB.out | apply zac | apply zab | apply zad | refine zai ?_ GE216.out) | exact HB.out))) : w.heap.size ≤ gb218)); have n5_ := zaa.mk ((by rw [hg]; exact (zay (by repeat (first | (with_reducible first | exact HB.out | apply zac | apply zab | apply zad | refine zai ?_ GE216.out) | exact HB.out))) : w.heap.size ≤ gb218)); have n6_ := zaa.mk ((by rw [hg]; exact Nat.ne_of_lt (zbt (g := gb216) (o := .cells #[.slice (some ad217) l0_0.length c0_0, .slice A0_1 l0_1.length c0_1] 50 (0, 0)) (by (with_reducible repeat (first | refine zah ?_ _ | refine zak ?_ | refine zaf ?_ _)); exact BK216.out)) : gb216 ≠ gb218)); have n7_ := zaa.mk ((by rw [hg]; exact Nat.ne_of_gt (zbt (g := gb216) (o := .cells #[.slice (some ad217) l0_0.length c0_0, .slice A0_1 l0_1.length c0_1] 50 (0, 0)) (by (with_reducible repeat (first | refine zah ?_ _ | refine zak ?_ | refine zaf ?_ _)); exact BK216.out)) : gb218 ≠ gb216)); clear HO_3; clear BK216; clear HB; have HO_3 := n0_; have BK216 := n1_; have HB := n2_; have BK218 := n3_; have GW218 := n4_; have GE218 := n5_; have NB216_218 := n6_; have NB218_216 := n7_; clear n0_ n1_ n2_ n3_ n4_ n5_ n6_ n7_; clear hb hbox hg; have hnb10 := NB218_216.out; have hnc10 := NB216_218.out; have hcz11_0 : w9.cell? ⟨gb218, 0, none⟩ = some (.string (⟨#[]⟩ : ByteArray)) := (zae BK218.out 0).trans rfl; have hcz11_1 : w9.cell? ⟨gb218, 1, none⟩ = some (.slice none 0 0) := (zae BK218.out 1).trans rfl; have hfz11_0 := zaj BK218.out 0; have hfz11_1 := zaj BK218.out 1) | ((with_reducible refine zaG (f := 85) rfl ?_); refine za2 (some 18) rfl rfl Tryd.func85 (by kernel_rfl) rfl #[.slice A217_1 ((zaQ l0_0 x11_1).f1).length c217_1] rfl (by (try simp only [List.map_toArray, List.map_cons, List.map_nil]); first | done | rfl | (simp only [List.length_drop, List.length_take]; rfl)) ?_; (with_reducible refine (zaW.calls k1 _ _ ((zaQ l0_0 x11_1).f1) t219 _ ?side1 ?side2 A7.out).mono ?_); (case side1 => exact Kd.za7 HR217_1.out (by repeat (first | (with_reducible first | exact HB.out | apply zac | apply zab | apply zad | refine zai ?_ GE216.out | refine zai ?_ GE218.out) | exact HB.out))); (case side2 => exact HC217_1.out); rintro e w12 ⟨v220, rfl, ho0, hb⟩; refine ⟨_, rfl, ?_⟩; have n0_ := zaa.mk (Kd.zd3 (by (with_reducible repeat (first | apply Kd.zbf | apply Kd.zbd | apply Kd.zbp)); exact (Kd.zbO (Kd.ze4 (p := ⟨gb218, 1, none⟩) (Kd.ze4 (p := ⟨gb218, 0, none⟩) (Kd.zez HO_3.out BK218.out (by decide)) (fun _ hk => hk.2) (.string ((zaQ l0_0 x11_1).f0))) (fun _ hk => hk.2) (.slice A217_1 ((zaQ l0_0 x11_1).f1).length c217_1)) (fun _ h_ => h_.1))) (Kd.zhE ho0) hb); have n1_ := zaa.mk (Kd.zgY ho0 (zay (by repeat (first | (with_reducible first | exact HB.out | apply zac | apply zab | apply zad | refine zai ?_ GE216.out | refine zai ?_ GE218.out) | exact HB.out)))); have n2_ := zaa.mk (zaP (g := gb216) (o := .cells #[.slice (some ad217) l0_0.length c0_0, .slice A0_1 l0_1.length c0_1] 50 (0, 0)) (by (with_reducible repeat (first | refine zah ?_ _ | refine zak ?_ | refine zaf ?_ _)); refine zbm ?_ NB216_218.out _; (with_reducible repeat (first | refine zah ?_ _ | refine zak ?_ | refine zaf ?_ _)); refine zbm ?_ NB216_218.out _; (with_reducible repeat (first | refine zah ?_ _ | refine zak ?_ | refine zaf ?_ _)); exact BK216.out) hb); have n3_ := zaa.mk (zaP (g := gb218) (o := .cells #[.string ((zaQ l0_0 x11_1).f0), .slice A217_1 ((zaQ l0_0 x11_1).f1).length c217_1] 127 (0, 0)) (by (with_reducible repeat (first | refine zah ?_ _ | refine zak ?_ | refine zaf ?_ _)); refine za8 (cs := #[.string ((zaQ l0_0 x11_1).f0), .slice none 0 0]) ?_ 1 _ rfl; (with_reducible repeat (first | refine zah ?_ _ | refine zak ?_ | refine zaf ?_ _)); refine za8 (cs := #[.string (⟨#[]⟩ : ByteArray), .slice none 0 0]) ?_ 0 _ rfl; (with_reducible repeat (first | refine zah ?_ _ | refine zak ?_ | refine zaf ?_ _)); exact BK218.out) hb); have n4_ := zaa.mk (zax (by repeat (first | (with_reducible first | exact HB.out | apply zac | apply zab | apply zad | refine zai ?_ GE216.out | refine zai ?_ GE218.out) | exact HB.out)) hb); clear HO_3; clear BK216; clear BK218; clear HB; have HO_3 := n0_; have HO221 := n1_; have BK216 := n2_; have BK218 := n3_; have HB := n4_; clear n0_ n1_ n2_ n3_ n4_; (try clear hb); (try clear hb2); (try clear hk); (try clear hi); (try clear ho0); obtain ⟨Ao14, co14, eo14⟩ := Kd.zgU HO221.out; subst eo14) | ((with_reducible refine zcf (b := .append) (xs := #[.tmp 15, .tmp 19]) rfl ?_); at_builtin; refine Kd.zdN (Kd.slice 60 k60) (w0 := w) w.heap.size rfl (.tmp 15) (.tmp 19) 48 56 (.slice none 0 0) 24 rfl Tryd.underlying48 zh2 rfl (by decide) (by omega) u3 x3_1 t219 [.slice Ao14 t219.length co14] (fun _ => True) (fun k_ => ((fun _ => True)) k_ ∧ some k_ ≠ (u3 : Value).ownBlock) rfl rfl ?aP (fun _ hk => hk) ?aF ?aO ?aB ?aS ?aL ?_; (case aP => exact Kd.ziK (Kd.zbO (Kd.zd9 ((Kd.S_R HO221.out)) (Kd.zfl HO_3.out) (by decide)) (fun k_ hk => ⟨trivial, hk.2⟩))); (case aB => exact (by repeat (first | (with_reducible first | exact HB.out | apply zac | apply zab | apply zad | refine zai ?_ GE216.out | refine zai ?_ GE218.out) | exact HB.out))); (case aF => exact (fun _ _ => trivial)); (case aO => exact (by (with_reducible repeat (first | apply Kd.zbf | apply Kd.zbd | apply Kd.zbp)); exact Kd.zbO HO_3.out (fun _ hk => trivial))); (case aS => exact (zay (by repeat (first | (with_reducible first | exact HB.out | apply zac | apply zab | apply zad | refine zai ?_ GE216.out | refine zai ?_ GE218.out) | exact HB.out)))); (case aL => have := LMc8.out; omega); intro v223 w13 ho hb hg hat; rw [← Ny222.out] at ho; have n0_ := zaa.mk (zcJ (g := gb216) (o := .cells #[.slice (some ad217) l0_0.length c0_0, .slice A0_1 l0_1.length c0_1] 50 (0, 0)) (by (with_reducible repeat (first | refine zah ?_ _ | refine zak ?_ | refine zaf ?_ _)); exact BK216.out) hg (Kd.R_ne HO_3.out BK216.out (by decide))); have n1_ := zaa.mk (zcJ (g := gb218) (o := .cells #[.string ((zaQ l0_0 x11_1).f0), .slice A217_1 ((zaQ l0_0 x11_1).f1).length c217_1] 127 (0, 0)) (by (with_reducible repeat (first | refine zah ?_ _ | refine zak ?_ | refine zaf ?_ _)); exact BK218.out) hg (Kd.R_ne HO_3.out BK218.out (by decide))); have n2_ := zaa.mk (hb); have n3_ := zaa.mk (ho); clear BK216; clear BK218; clear HB; clear HO_3; clear HO221; have BK216 := n0_; have BK218 := n1_; have HB := n2_; have HO224 := n3_; clear n0_ n1_ n2_ n3_; clear ho hb hg hat))
       go_roundg k1
       case measure => have := HK1.out; omega
       case rel => exact ⟨(y222), (wrap64 (x11_1 + 1)), (by first | rfl | (simp; done) | (simp [*]; done)), H', ⟨by have := HK1.out; omega⟩, ⟨by (with_reducible repeat (first | apply Kd.zbf | apply Kd.zbd | apply Kd.zbp)); exact HO224.out⟩, ⟨by (with_reducible repeat (first | refine zah ?_ _ | refine zak ?_ | refine zaf ?_ _)); exact BK216.out⟩, ⟨by repeat (first | (with_reducible first | exact HB.out | apply zac | apply zab | apply zad | refine zai ?_ GE216.out | refine zai ?_ GE218.out) | exact HB.out)⟩⟩
      ·rw [if_neg c8] at H
       exact absurd H (by simp)
     ·rw [if_neg c6] at H
      exact absurd H (by simp)
    ·rw [if_neg c5] at H
     exact absurd H (by simp)
   ·rw [if_neg c4] at H
    have c4b0 : decide (x11_1 < (l0_0.length : Int)) = false := decide_eq_false c4
    clear c4
    have H' := zaa.mk H
    clear H
    have hcz15_0 : wr.cell? ⟨gb216, 0, none⟩ = some (.slice A0_0 l0_0.length c0_0) := (zae BK216.out 0).trans rfl
    have hcz15_1 : wr.cell? ⟨gb216, 1, none⟩ = some (.slice A0_1 l0_1.length c0_1) := (zae BK216.out 1).trans rfl
    have hfz15_0 := zaj BK216.out 0
    have hfz15_1 := zaj BK216.out 1
    go_wp2
    go_loopg [3, 25] k1 (fun kq v3 v25 w' => ∃ (x3_2 : List (List (S60))) (x25_2 : Int), v25 = .int .i64 x25_2 ∧ zaa (za1.l1 kq x3_2 l0_1 (l0_1.length : Int) x25_2 = some r) ∧ zaa (kq ≤ k1) ∧ zaa (Kd.R (Kd.slice 60 k60) 56 w' w.heap.size (fun _ => True) v3 x3_2) ∧ zaa (w'.heap[gb216]? = some (.cells #[(.slice A0_0 l0_0.length c0_0), (.slice A0_1 l0_1.length c0_1)] 50 (0, 0))) ∧ zaa (Below w.heap.size w w'))
    case atStart => exact ⟨(x3_1), (0), (by first | rfl | (simp; done) | (simp [*]; done)), H', ⟨Nat.le_refl _⟩, ⟨by (with_reducible repeat (first | apply Kd.zbf | apply Kd.zbd | apply Kd.zbp)); exact HO_3.out⟩, ⟨by (with_reducible repeat (first | refine zah ?_ _ | refine zak ?_ | refine zaf ?_ _)); exact BK216.out⟩, ⟨by repeat (first | (with_reducible first | exact HB.out | apply zac | apply zab | apply zad | refine zai ?_ GE216.out) | exact HB.out)⟩⟩
    case round =>
     clear H'
     try clear c1
     try clear c2
     try clear p2
     try clear q2
     try clear hx2
     try clear c3
     try clear c4
     try clear c4b0
     try clear c5
     try clear c5b0
     try clear c6
     try clear c6b0
     try clear p6
     try clear c8
     try clear c10
     try clear hcz11_0
     try clear hcz11_1
     try clear hcz15_0
     try clear hcz15_1
     try clear hcz3_0
     try clear hcz3_1
     try clear hfz11_0
     try clear hfz11_1
     try clear hfz15_0
     try clear hfz15_1
     try clear hfz3_0
     try clear hfz3_1
     try clear hx217_0
     try clear hx217_1
     try clear p2
     try clear p217
     try clear q217
     obtain ⟨x3_2, x25_2, rfl, HA, HK2, HO_3, BK216, HB⟩ := hrel
     cases gk with
     | zero => exact absurd HA.out (by simp [za1.l1])
     | succ k2 =>
      have H := HA.out
      clear HA
      simp only [za1.l1] at H
      by_cases c16 : x25_2 < (l0_1.length : Int)
      ·rw [if_pos c16] at H
       have c16b0 : decide (x25_2 < (l0_1.length : Int)) = true := decide_eq_true c16
       clear c16
       by_cases c17 : 0 ≤ x25_2
       ·rw [if_pos c17] at H
        have c17b0 : decide (0 ≤ x25_2) = true := decide_eq_true c17
        clear c17
        by_cases c18 : x25_2 < (l0_1.length : Int)
        ·rw [if_pos c18] at H
         have c18b0 : decide (x25_2 < (l0_1.length : Int)) = true := decide_eq_true c18
         clear c18
         replace H := Option.bind_eq_some_iff.mp H
         obtain ⟨t226, A190, H⟩ := H
         replace H : (if x3_2.length < 5864062014805 then (za1.l1 k2 (x3_2 ++ [t226]) l0_1 (l0_1.length : Int) (wrap64 (x25_2 + 1))) else (none)) = some r := H
         have A19 := zaa.mk A190
         clear A190
         by_cases c20 : x3_2.length < 5864062014805
         ·rw [if_pos c20] at H
          have LMc20 := zaa.mk c20
          clear c20
          obtain ⟨y229, hy229⟩ : ∃ y_ : List (List (S60)), y_ = (x3_2 ++ [t226]) := ⟨_, rfl⟩
          replace H : (za1.l1 k2 y229 l0_1 (l0_1.length : Int) (wrap64 (x25_2 + 1))) = some r := by first | (rw [hy229]; with_reducible exact H) | (have H2_ := (Option.bind_some _ _).symm.trans H; rw [hy229]; with_reducible exact H2_) | (have H2_ := (Option.bind_some _ _).symm.trans H; with_reducible exact H2_) | with_reducible exact H | (rw [hy229]; exact H) | exact H
          have Ny229 := zaa.mk hy229
          clear hy229
          have H' := zaa.mk H
          clear H
          have p225 : 0 ≤ (x25_2 : Int) := of_decide_eq_true (by first | (with_reducible assumption) | assumption)
          have q225 : x25_2 < (l0_1.length : Int) := of_decide_eq_true (by first | (with_reducible assumption) | assumption)
          obtain ⟨ad225, A225_0, c225_0, e225, hx225_0, hl225_0, hi225_0⟩ := zff HR0_1.out x25_2 p225 q225
          cases e225
          replace hx225_0 := (HB.out.cell (World.block_lt_of_cell? w _ hx225_0)).trans hx225_0
          have HR225_0 := zaa.mk hi225_0
          have HC225_0 := zaa.mk hl225_0
          clear hi225_0 hl225_0
          replace p225 := eq_true p225
          replace q225 := eq_true q225
          go_wp2_with (first | ((with_reducible refine zaG (f := 85) rfl ?_); refine za2 (some 31) rfl rfl Tryd.func85 (by kernel_rfl) rfl #[.slice A225_0 (zcv l0_1 x25_2).length c225_0] rfl (by (try simp only [List.map_toArray, List.map_cons, List.map_nil]); first | done | rfl | (simp only [List.length_drop, List.length_take]; rfl)) ?_; (with_reducible refine (zaW.calls k2 _ _ (zcv l0_1 x25_2) t226 _ ?side1 ?side2 A19.out).mono ?_); (case side1 => repeat (first | exact (Kd.za7 HR225_0.out HB.out) | (with_reducible refine Kd.zaT ?_ _) | (with_reducible refine Kd.zaU ?_ _) | (with_reducible refine Kd.za0 ?_))); (case side2 => exact HC225_0.out); rintro e w21 ⟨v227, rfl, ho0, hb⟩; refine ⟨_, rfl, ?_⟩; have n0_ := zaa.mk (Kd.zd3 (by (with_reducible repeat (first | apply Kd.zbf | apply Kd.zbd | apply Kd.zbp)); exact HO_3.out) (Kd.zhE ho0) hb); have n1_ := zaa.mk (Kd.zgY ho0 (zay (by repeat (first | (with_reducible first | exact HB.out | apply zac | apply zab | apply zad | refine zai ?_ GE216.out) | exact HB.out)))); have n2_ := zaa.mk (zaP (g := gb216) (o := .cells #[.slice A0_0 l0_0.length c0_0, .slice (some ad225) l0_1.length c0_1] 50 (0, 0)) (by (with_reducible repeat (first | refine zah ?_ _ | refine zak ?_ | refine zaf ?_ _)); exact BK216.out) hb); have n3_ := zaa.mk (zax (by repeat (first | (with_reducible first | exact HB.out | apply zac | apply zab | apply zad | refine zai ?_ GE216.out) | exact HB.out)) hb); clear HO_3; clear BK216; clear HB; have HO_3 := n0_; have HO228 := n1_; have BK216 := n2_; have HB := n3_; clear n0_ n1_ n2_ n3_; (try clear hb); (try clear hb2); (try clear hk); (try clear hi); (try clear ho0); obtain ⟨Ao23, co23, eo23⟩ := Kd.zgU HO228.out; subst eo23) | ((with_reducible refine zcf (b := .append) (xs := #[.tmp 29, .tmp 32]) rfl ?_); at_builtin; refine Kd.zdN (Kd.slice 60 k60) (w0 := w) w.heap.size rfl (.tmp 29) (.tmp 32) 48 56 (.slice none 0 0) 24 rfl Tryd.underlying48 zh2 rfl (by decide) (by omega) u3 x3_2 t226 [.slice Ao23 t226.length co23] (fun _ => True) (fun k_ => ((fun _ => True)) k_ ∧ some k_ ≠ (u3 : Value).ownBlock) rfl rfl ?aP (fun _ hk => hk) ?aF ?aO ?aB ?aS ?aL ?_; (case aP => exact Kd.ziK (Kd.zbO (Kd.zd9 ((Kd.S_R HO228.out)) (Kd.zfl HO_3.out) (by decide)) (fun k_ hk => ⟨trivial, hk.2⟩))); (case aB => exact (by repeat (first | (with_reducible first | exact HB.out | apply zac | apply zab | apply zad | refine zai ?_ GE216.out) | exact HB.out))); (case aF => exact (fun _ _ => trivial)); (case aO => exact (by (with_reducible repeat (first | apply Kd.zbf | apply Kd.zbd | apply Kd.zbp)); exact Kd.zbO HO_3.out (fun _ hk => trivial))); (case aS => exact (zay (by repeat (first | (with_reducible first | exact HB.out | apply zac | apply zab | apply zad | refine zai ?_ GE216.out) | exact HB.out)))); (case aL => have := LMc20.out; omega); intro v230 w22 ho hb hg hat; rw [← Ny229.out] at ho; have n0_ := zaa.mk (zcJ (g := gb216) (o := .cells #[.slice A0_0 l0_0.length c0_0, .slice (some ad225) l0_1.length c0_1] 50 (0, 0)) (by (with_reducible repeat (first | refine zah ?_ _ | refine zak ?_ | refine zaf ?_ _)); exact BK216.out) hg (Kd.R_ne HO_3.out BK216.out (by decide))); have n1_ := zaa.mk (hb); have n2_ := zaa.mk (ho); clear BK216; clear HB; clear HO_3; clear HO228; have BK216 := n0_; have HB := n1_; have HO231 := n2_; clear n0_ n1_ n2_; clear ho hb hg hat))
          go_roundg k2
          case measure => have := HK1.out; have := HK2.out; omega
          case rel => exact ⟨(y229), (wrap64 (x25_2 + 1)), (by first | rfl | (simp; done) | (simp [*]; done)), H', ⟨by have := HK1.out; have := HK2.out; omega⟩, ⟨by (with_reducible repeat (first | apply Kd.zbf | apply Kd.zbd | apply Kd.zbp)); exact HO231.out⟩, ⟨by (with_reducible repeat (first | refine zah ?_ _ | refine zak ?_ | refine zaf ?_ _)); exact BK216.out⟩, ⟨by repeat (first | (with_reducible first | exact HB.out | apply zac | apply zab | apply zad | refine zai ?_ GE216.out) | exact HB.out)⟩⟩
         ·rw [if_neg c20] at H
          exact absurd H (by simp)
        ·rw [if_neg c18] at H
         exact absurd H (by simp)
       ·rw [if_neg c17] at H
        exact absurd H (by simp)
      ·rw [if_neg c16] at H
       have c16b0 : decide (x25_2 < (l0_1.length : Int)) = false := decide_eq_false c16
       clear c16
       obtain rfl := Option.some.inj H
       go_wp2
       go_ret
       exact ⟨_, by first | rfl | (simp [zan, zam] <;> rfl) | (simp [*, zan, zam] <;> rfl), by (with_reducible repeat (first | apply Kd.zbf | apply Kd.zbd | apply Kd.zbp)); exact HO_3.out, by repeat (first | (with_reducible first | exact HB.out | apply zac | apply zab | apply zad | refine zai ?_ GE216.out) | exact HB.out)⟩
def zbn.l0 : Nat → Int → List (List (S60)) → Int → Int → Option (Int)
 | 0, _, _, _, _ => none
 | k + 1, x3, x7, x8, x9 => if x9 < x8 then (if 0 ≤ x9 then (if x9 < (x7.length : Int) then (zbn.l0 k (wrap64 (x3 + ((zcv x7 x9).length : Int))) x7 x8 (wrap64 (x9 + 1))) else (none)) else (none)) else (some x3)
def zbn.f (k : Nat) (l0_0 : List (S127)) (l0_1 : List (List (S60))) : Option (Int) := (za1.f k l0_0 l0_1).bind fun t233 => (zbn.l0 k 0 t233 (t233.length : Int) 0)
theorem zbn.zaR : ∀ k, (∀ y0 y1 y2 y3, LeO (zbn.l0 k y0 y1 y2 y3) (zbn.l0 (k + 1) y0 y1 y2 y3))
 | 0 => fun _ _ _ _ r h => by simp [zbn.l0] at h
 | k + 1 => by
  have ih0 := zbn.zaR k
  ·intro y0 y1 y2 y3
   unfold zbn.l0
   repeat' first
   | (with_reducible exact ih0 _ _ _ _)
   | (with_reducible exact za1.mono _ _ _)
   | (with_reducible exact LeO.refl _)
   | (with_reducible exact LeO.none _)
   | (with_reducible refine LeO.ite ?_ ?_)
   | (with_reducible refine LeO.bind ?_ (fun _ => ?_))
   | exact ih0 _ _ _ _
   | exact za1.mono _ _ _
   | exact LeO.none _
   | refine LeO.ite ?_ ?_
   | refine LeO.bind ?_ (fun _ => ?_)
theorem zbn.mono : ∀ a0 a1 k, LeO (zbn.f k a0 a1) (zbn.f (k + 1) a0 a1) := by
 intro a0 a1 k
 have ih0 := zbn.zaR k
 unfold zbn.f
 repeat' first
   | (with_reducible exact ih0 _ _ _ _)
   | (with_reducible exact za1.mono _ _ _)
   | (with_reducible exact LeO.refl _)
   | (with_reducible exact LeO.none _)
   | (with_reducible refine LeO.ite ?_ ?_)
   | (with_reducible refine LeO.bind ?_ (fun _ => ?_))
   | exact ih0 _ _ _ _
   | exact za1.mono _ _ _
   | exact LeO.none _
   | refine LeO.ite ?_ ?_
   | refine LeO.bind ?_ (fun _ => ?_)
set_option maxHeartbeats 8000000 in
set_option maxRecDepth 100000 in
theorem zbn.calls (k : Nat) (A0_0 : Option Addr) (c0_0 : Nat) (l0_0 : List (S127)) (A0_1 : Option Addr) (c0_1 : Nat) (l0_1 : List (List (S60))) (r : Int) (w : World) (hr0_0 : Kd.C k127 w A0_0 l0_0.length l0_0) (hc0_0 : l0_0.length ≤ c0_0) (hr0_1 : Kd.C (Kd.slice 60 k60) w A0_1 l0_1.length l0_1) (hc0_1 : l0_1.length ≤ c0_1) (h : zbn.f k l0_0 l0_1 = some r) :
  Calls Tryd.prog 40 #[.agg #[.slice A0_0 l0_0.length c0_0, .slice A0_1 l0_1.length c0_1]] w fun e w' => e = .returned (.int .i64 r) ∧ Below w.heap.size w w' := by
 have hu50 := Tryd.underlying50
 have HR0_0 := zaa.mk hr0_0
 have HC0_0 := zaa.mk hc0_0
 clear hr0_0 hc0_0
 have HR0_1 := zaa.mk hr0_1
 have HC0_1 := zaa.mk hc0_1
 clear hr0_1 hc0_1
 have HB := zaa.mk (Below.refl w.heap.size w)
 have H : ((za1.f k l0_0 l0_1).bind fun t233 => (zbn.l0 k 0 t233 (t233.length : Int) 0)) = some r := h
 clear h
 replace H := Option.bind_eq_some_iff.mp H
 obtain ⟨t233, A20, H⟩ := H
 replace H : (zbn.l0 k 0 t233 (t233.length : Int) 0) = some r := H
 have A2 := zaa.mk A20
 clear A20
 have H' := zaa.mk H
 clear H
 go_enter Tryd.func40, Tryd.ntmps40
 go_wp2_with (first | ((with_reducible refine zbc (N := 1) rfl ?_); refine zbb ?hg (N := 1) ?hd (cs := #[.slice A0_0 l0_0.length c0_0, .slice A0_1 l0_1.length c0_1]) (t := 50) ?hr ?_; (case hd => rfl); (case hg => rfl); (case hr => first | (go_simp; done) | (go_simp; rfl)); intro gb232 hg w3 hbox hb; have n0_ := zaa.mk (zax (by repeat (first | (with_reducible first | exact HB.out | apply zac | apply zab | apply zad) | exact HB.out)) hb); have n1_ := zaa.mk (hbox); have n2_ := zaa.mk ((by rw [hg]; exact (zay (by repeat (first | (with_reducible first | exact HB.out | apply zac | apply zab | apply zad) | exact HB.out))) : w.heap.size ≤ gb232)); have n3_ := zaa.mk ((by rw [hg]; exact (zay (by repeat (first | (with_reducible first | exact HB.out | apply zac | apply zab | apply zad) | exact HB.out))) : w.heap.size ≤ gb232)); clear HB; have HB := n0_; have BK232 := n1_; have GW232 := n2_; have GE232 := n3_; clear n0_ n1_ n2_ n3_; clear hb hbox hg; have hcz4_0 : w3.cell? ⟨gb232, 0, none⟩ = some (.slice A0_0 l0_0.length c0_0) := (zae BK232.out 0).trans rfl; have hcz4_1 : w3.cell? ⟨gb232, 1, none⟩ = some (.slice A0_1 l0_1.length c0_1) := (zae BK232.out 1).trans rfl; have hfz4_0 := zaj BK232.out 0; have hfz4_1 := zaj BK232.out 1) | ((with_reducible refine zaG (f := 37) rfl ?_); refine za2 (some 7) rfl rfl Tryd.func37 (by kernel_rfl) rfl #[.agg #[.slice A0_0 l0_0.length c0_0, .slice A0_1 l0_1.length c0_1]] rfl (by (try simp only [List.map_toArray, List.map_cons, List.map_nil]); first | done | rfl | (simp only [List.length_drop, List.length_take]; rfl)) ?_; (with_reducible refine (za1.calls k _ _ l0_0 _ _ l0_1 t233 _ ?side1 ?side2 ?side3 ?side4 A2.out).mono ?_); (case side1 => repeat (first | exact (Kd.za7 HR0_0.out HB.out) | (with_reducible refine Kd.zaT ?_ _) | (with_reducible refine Kd.zaU ?_ _) | (with_reducible refine Kd.za0 ?_))); (case side2 => exact HC0_0.out); (case side3 => repeat (first | exact (Kd.za7 HR0_1.out HB.out) | (with_reducible refine Kd.zaT ?_ _) | (with_reducible refine Kd.zaU ?_ _) | (with_reducible refine Kd.za0 ?_))); (case side4 => exact HC0_1.out); rintro e w5 ⟨v234, rfl, ho0, hb⟩; refine ⟨_, rfl, ?_⟩; have n0_ := zaa.mk (Kd.zcj ho0 (zay (by repeat (first | (with_reducible first | exact HB.out | apply zac | apply zab | apply zad | refine zai ?_ GE232.out) | exact HB.out)))); have n1_ := zaa.mk (zaP (g := gb232) (o := .cells #[.slice A0_0 l0_0.length c0_0, .slice A0_1 l0_1.length c0_1] 50 (0, 0)) (by (with_reducible repeat (first | refine zah ?_ _ | refine zak ?_ | refine zaf ?_ _)); exact BK232.out) hb); have n2_ := zaa.mk (zax (by repeat (first | (with_reducible first | exact HB.out | apply zac | apply zab | apply zad | refine zai ?_ GE232.out) | exact HB.out)) hb); clear BK232; clear HB; have HO235 := n0_; have BK232 := n1_; have HB := n2_; clear n0_ n1_ n2_; (try clear hb); (try clear hb2); (try clear hk); (try clear hi); (try clear ho0); obtain ⟨Ao6, co6, eo6⟩ := Kd.zbE HO235.out; subst eo6))
 go_loopg [3, 9] k (fun kq v3 v9 w' => ∃ (x3_1 : Int) (x9_1 : Int), v3 = .int .i64 x3_1 ∧ v9 = .int .i64 x9_1 ∧ zaa (zbn.l0 kq x3_1 t233 (t233.length : Int) x9_1 = some r) ∧ zaa (kq ≤ k) ∧ zaa (Kd.R (Kd.slice 60 k60) 56 w' w.heap.size (fun _ => True) (.slice Ao6 t233.length co6) t233) ∧ zaa (w'.heap[gb232]? = some (.cells #[(.slice A0_0 l0_0.length c0_0), (.slice A0_1 l0_1.length c0_1)] 50 (0, 0))) ∧ zaa (Below w.heap.size w w'))
 case atStart => exact ⟨(0), (0), (by first | rfl | (simp; done) | (simp [*]; done)), (by first | rfl | (simp; done) | (simp [*]; done)), H', ⟨Nat.le_refl _⟩, ⟨by (with_reducible repeat (first | apply Kd.zbf | apply Kd.zbd | apply Kd.zbp)); exact HO235.out⟩, ⟨by (with_reducible repeat (first | refine zah ?_ _ | refine zak ?_ | refine zaf ?_ _)); exact BK232.out⟩, ⟨by repeat (first | (with_reducible first | exact HB.out | apply zac | apply zab | apply zad | refine zai ?_ GE232.out) | exact HB.out)⟩⟩
 case round =>
  clear H'
  try clear p2
  try clear c3
  try clear c4
  try clear hcz4_0
  try clear hcz4_1
  try clear hfz4_0
  try clear hfz4_1
  obtain ⟨x3_1, x9_1, rfl, rfl, HA, HK1, HO_7, BK232, HB⟩ := hrel
  cases gk with
  | zero => exact absurd HA.out (by simp [zbn.l0])
  | succ k1 =>
   have H := HA.out
   clear HA
   simp only [zbn.l0] at H
   by_cases c7 : x9_1 < (t233.length : Int)
   ·rw [if_pos c7] at H
    have c7b0 : decide (x9_1 < (t233.length : Int)) = true := decide_eq_true c7
    clear c7
    by_cases c8 : 0 ≤ x9_1
    ·rw [if_pos c8] at H
     have c8b0 : decide (0 ≤ x9_1) = true := decide_eq_true c8
     clear c8
     by_cases c9 : x9_1 < (t233.length : Int)
     ·rw [if_pos c9] at H
      have c9b0 : decide (x9_1 < (t233.length : Int)) = true := decide_eq_true c9
      clear c9
      have H' := zaa.mk H
      clear H
      have p236 : 0 ≤ (x9_1 : Int) := of_decide_eq_true (by first | (with_reducible assumption) | assumption)
      have q236 : x9_1 < (t233.length : Int) := of_decide_eq_true (by first | (with_reducible assumption) | assumption)
      obtain ⟨ad236, A236_0, c236_0, e236, hx236_0, hl236_0, hi236_0⟩ := zff (Kd.zbs HO_7.out).2.2 x9_1 p236 q236
      cases e236
      obtain ⟨ce236, hce236, hMe236, hcc236⟩ := Kd.zjX HO_7.out [] x9_1 p236 (by first | exact q236 | exact of_decide_eq_true (by first | (with_reducible assumption) | assumption) | (have e_ := (Kd.zbs HO_7.out).1; omega))
      obtain ⟨ve236_0, rfl, ge236_0⟩ := hMe236
      have hv236_0 := hcc236 0 _ rfl
      rw [Nat.add_zero, show ((Kd.slice 60 k60)).sz = 1 from rfl, Nat.mul_one] at hv236_0
      replace hv236_0 := Option.some.inj (hv236_0.symm.trans hx236_0)
      rw [hv236_0] at ge236_0
      have HL236_0 := zaa.mk (show Kd.R k60 60 _ _ _ _ (zcv t233 x9_1) from ge236_0)
      clear hv236_0 ge236_0
      clear hcc236 hce236
      have HR236_0 := zaa.mk hi236_0
      have HC236_0 := zaa.mk hl236_0
      clear hi236_0 hl236_0
      replace p236 := eq_true p236
      replace q236 := eq_true q236
      go_wp2
      go_roundg k1
      case measure => have := HK1.out; omega
      case rel => exact ⟨(wrap64 (x3_1 + ((zcv t233 x9_1).length : Int))), (wrap64 (x9_1 + 1)), (by first | rfl | (simp; done) | (simp [*]; done)), (by first | rfl | (simp; done) | (simp [*]; done)), H', ⟨by have := HK1.out; omega⟩, ⟨by (with_reducible repeat (first | apply Kd.zbf | apply Kd.zbd | apply Kd.zbp)); exact HO_7.out⟩, ⟨by (with_reducible repeat (first | refine zah ?_ _ | refine zak ?_ | refine zaf ?_ _)); exact BK232.out⟩, ⟨by repeat (first | (with_reducible first | exact HB.out | apply zac | apply zab | apply zad | refine zai ?_ GE232.out) | exact HB.out)⟩⟩
     ·rw [if_neg c9] at H
      exact absurd H (by simp)
    ·rw [if_neg c8] at H
     exact absurd H (by simp)
   ·rw [if_neg c7] at H
    have c7b0 : decide (x9_1 < (t233.length : Int)) = false := decide_eq_false c7
    clear c7
    obtain rfl := Option.some.inj H
    go_wp2
    go_ret
    exact ⟨by first | rfl | (simp [zan, zam] <;> rfl) | (simp [*, zan, zam] <;> rfl), by repeat (first | (with_reducible first | exact HB.out | apply zac | apply zab | apply zad | refine zai ?_ GE232.out) | exact HB.out)⟩
def zbu.f (k : Nat) (l0_0 : List (S127)) (l0_1 : List (List (S60))) (a1 : Int) (a2 : Int) : Option (Bool) := if a1 ≥ 1 then (if a1 ≤ 6 then (if a2 ≥ 0 then (if a2 ≤ 6 then (if (l0_1.length : Int) = a1 then (if (l0_0.length : Int) ≤ 10 then ((zbn.f k l0_0 l0_1).bind fun t238 => (some (decide (t238 ≤ 300)))) else (some false)) else (some false)) else (some false)) else (some false)) else (some false)) else (some false)
theorem zbu.mono : ∀ a0 a1 a2 a3 k, LeO (zbu.f k a0 a1 a2 a3) (zbu.f (k + 1) a0 a1 a2 a3) := by
 intro a0 a1 a2 a3 k
 unfold zbu.f
 repeat' first
   | (with_reducible exact zbn.mono _ _ _)
   | (with_reducible exact LeO.refl _)
   | (with_reducible exact LeO.none _)
   | (with_reducible refine LeO.ite ?_ ?_)
   | (with_reducible refine LeO.bind ?_ (fun _ => ?_))
   | exact zbn.mono _ _ _
   | exact LeO.none _
   | refine LeO.ite ?_ ?_
   | refine LeO.bind ?_ (fun _ => ?_)
set_option maxHeartbeats 8000000 in
set_option maxRecDepth 100000 in
theorem zbu.calls (k : Nat) (A0_0 : Option Addr) (c0_0 : Nat) (l0_0 : List (S127)) (A0_1 : Option Addr) (c0_1 : Nat) (l0_1 : List (List (S60))) (a1 : Int) (a2 : Int) (r : Bool) (w : World) (hr0_0 : Kd.C k127 w A0_0 l0_0.length l0_0) (hc0_0 : l0_0.length ≤ c0_0) (hr0_1 : Kd.C (Kd.slice 60 k60) w A0_1 l0_1.length l0_1) (hc0_1 : l0_1.length ≤ c0_1) (h : zbu.f k l0_0 l0_1 a1 a2 = some r) :
  Calls Tryd.prog 75 #[.agg #[.slice A0_0 l0_0.length c0_0, .slice A0_1 l0_1.length c0_1], .int .i64 a1, .int .i64 a2] w fun e w' => e = .returned (.bool r) ∧ Below w.heap.size w w' := by
 have hu50 := Tryd.underlying50
 have HR0_0 := zaa.mk hr0_0
 have HC0_0 := zaa.mk hc0_0
 clear hr0_0 hc0_0
 have HR0_1 := zaa.mk hr0_1
 have HC0_1 := zaa.mk hc0_1
 clear hr0_1 hc0_1
 have HB := zaa.mk (Below.refl w.heap.size w)
 have H : (if a1 ≥ 1 then (if a1 ≤ 6 then (if a2 ≥ 0 then (if a2 ≤ 6 then (if (l0_1.length : Int) = a1 then (if (l0_0.length : Int) ≤ 10 then ((zbn.f k l0_0 l0_1).bind fun t238 => (some (decide (t238 ≤ 300)))) else (some false)) else (some false)) else (some false)) else (some false)) else (some false)) else (some false)) = some r := h
 clear h
 by_cases c4 : a1 ≥ 1
 ·rw [if_pos c4] at H
  have c4b0 : decide (1 ≤ a1) = true := decide_eq_true c4
  clear c4
  by_cases c5 : a1 ≤ 6
  ·rw [if_pos c5] at H
   have c5b0 : decide (a1 ≤ 6) = true := decide_eq_true c5
   clear c5
   by_cases c6 : a2 ≥ 0
   ·rw [if_pos c6] at H
    have c6b0 : decide (0 ≤ a2) = true := decide_eq_true c6
    clear c6
    by_cases c7 : a2 ≤ 6
    ·rw [if_pos c7] at H
     have c7b0 : decide (a2 ≤ 6) = true := decide_eq_true c7
     clear c7
     by_cases c8 : (l0_1.length : Int) = a1
     ·rw [if_pos c8] at H
      have c8b0 : ((l0_1.length : Int) == a1) = true := beq_iff_eq.mpr c8
      have c8b1 : ((l0_1.length : Int) != a1) = false := bne_eq_false_iff_eq.mpr c8
      clear c8
      by_cases c9 : (l0_0.length : Int) ≤ 10
      ·rw [if_pos c9] at H
       have c9b0 : decide ((l0_0.length : Int) ≤ 10) = true := decide_eq_true c9
       have c9b1 : decide (l0_0.length ≤ 10) = true := decide_eq_true (by omega)
       clear c9
       replace H := Option.bind_eq_some_iff.mp H
       obtain ⟨t238, A100, H⟩ := H
       replace H : (some (decide (t238 ≤ 300))) = some r := H
       have A10 := zaa.mk A100
       clear A100
       obtain rfl := Option.some.inj H
       go_enter Tryd.func75, Tryd.ntmps75
       go_wp2_with (first | ((with_reducible refine zbc (N := 3) rfl ?_); (try (refine zbN (by rfl) ?_; dsimp only)); refine zbb ?hg (N := 3) ?hd (cs := #[.slice A0_0 l0_0.length c0_0, .slice A0_1 l0_1.length c0_1]) (t := 50) ?hr ?_; (case hd => rfl); (case hg => rfl); (case hr => first | (go_simp; done) | (go_simp; rfl)); intro gb237 hg w11 hbox hb; have n0_ := zaa.mk (zax (by repeat (first | (with_reducible first | exact HB.out | apply zac | apply zab | apply zad) | exact HB.out)) hb); have n1_ := zaa.mk (hbox); have n2_ := zaa.mk ((by rw [hg]; exact (zay (by repeat (first | (with_reducible first | exact HB.out | apply zac | apply zab | apply zad) | exact HB.out))) : w.heap.size ≤ gb237)); have n3_ := zaa.mk ((by rw [hg]; exact (zay (by repeat (first | (with_reducible first | exact HB.out | apply zac | apply zab | apply zad) | exact HB.out))) : w.heap.size ≤ gb237)); clear HB; have HB := n0_; have BK237 := n1_; have GW237 := n2_; have GE237 := n3_; clear n0_ n1_ n2_ n3_; clear hb hbox hg; have hcz12_0 : w11.cell? ⟨gb237, 0, none⟩ = some (.slice A0_0 l0_0.length c0_0) := (zae BK237.out 0).trans rfl; have hcz12_1 : w11.cell? ⟨gb237, 1, none⟩ = some (.slice A0_1 l0_1.length c0_1) := (zae BK237.out 1).trans rfl; have hfz12_0 := zaj BK237.out 0; have hfz12_1 := zaj BK237.out 1) | (go_at_call 40; (with_reducible refine (zbn.calls k _ _ l0_0 _ _ l0_1 t238 _ ?side1 ?side2 ?side3 ?side4 A10.out).mono ?_); (case side1 => repeat (first | exact (Kd.za7 HR0_0.out HB.out) | (with_reducible refine Kd.zaT ?_ _) | (with_reducible refine Kd.zaU ?_ _) | (with_reducible refine Kd.za0 ?_))); (case side2 => exact HC0_0.out); (case side3 => repeat (first | exact (Kd.za7 HR0_1.out HB.out) | (with_reducible refine Kd.zaT ?_ _) | (with_reducible refine Kd.zaU ?_ _) | (with_reducible refine Kd.za0 ?_))); (case side4 => exact HC0_1.out); rintro e w13 ⟨rfl, hb⟩; have n0_ := zaa.mk (zaP (g := gb237) (o := .cells #[.slice A0_0 l0_0.length c0_0, .slice A0_1 l0_1.length c0_1] 50 (0, 0)) (by (with_reducible repeat (first | refine zah ?_ _ | refine zak ?_ | refine zaf ?_ _)); exact BK237.out) hb); have n1_ := zaa.mk (zax (by repeat (first | (with_reducible first | exact HB.out | apply zac | apply zab | apply zad | refine zai ?_ GE237.out) | exact HB.out)) hb); clear BK237; clear HB; have BK237 := n0_; have HB := n1_; clear n0_ n1_; (try clear hb); (try clear hb2); (try clear hk); (try clear hi)))
       go_ret
       exact ⟨by first | rfl | (simp [zan, zam] <;> rfl) | (simp [*, zan, zam] <;> rfl), by repeat (first | (with_reducible first | exact HB.out | apply zac | apply zab | apply zad | refine zai ?_ GE237.out) | exact HB.out)⟩
      ·rw [if_neg c9] at H
       have c9b0 : decide ((l0_0.length : Int) ≤ 10) = false := decide_eq_false c9
       have c9b1 : decide (l0_0.length ≤ 10) = false := decide_eq_false (by omega)
       clear c9
       obtain rfl := Option.some.inj H
       go_enter Tryd.func75, Tryd.ntmps75
       go_wp2_with (first | ((with_reducible refine zbc (N := 3) rfl ?_); (try (refine zbN (by rfl) ?_; dsimp only)); refine zbb ?hg (N := 3) ?hd (cs := #[.slice A0_0 l0_0.length c0_0, .slice A0_1 l0_1.length c0_1]) (t := 50) ?hr ?_; (case hd => rfl); (case hg => rfl); (case hr => first | (go_simp; done) | (go_simp; rfl)); intro gb237 hg w14 hbox hb; have n0_ := zaa.mk (zax (by repeat (first | (with_reducible first | exact HB.out | apply zac | apply zab | apply zad) | exact HB.out)) hb); have n1_ := zaa.mk (hbox); have n2_ := zaa.mk ((by rw [hg]; exact (zay (by repeat (first | (with_reducible first | exact HB.out | apply zac | apply zab | apply zad) | exact HB.out))) : w.heap.size ≤ gb237)); have n3_ := zaa.mk ((by rw [hg]; exact (zay (by repeat (first | (with_reducible first | exact HB.out | apply zac | apply zab | apply zad) | exact HB.out))) : w.heap.size ≤ gb237)); clear HB; have HB := n0_; have BK237 := n1_; have GW237 := n2_; have GE237 := n3_; clear n0_ n1_ n2_ n3_; clear hb hbox hg; have hcz15_0 : w14.cell? ⟨gb237, 0, none⟩ = some (.slice A0_0 l0_0.length c0_0) := (zae BK237.out 0).trans rfl; have hcz15_1 : w14.cell? ⟨gb237, 1, none⟩ = some (.slice A0_1 l0_1.length c0_1) := (zae BK237.out 1).trans rfl; have hfz15_0 := zaj BK237.out 0; have hfz15_1 := zaj BK237.out 1))
       go_ret
       exact ⟨by first | rfl | (simp [zan, zam] <;> rfl) | (simp [*, zan, zam] <;> rfl), by repeat (first | (with_reducible first | exact HB.out | apply zac | apply zab | apply zad | refine zai ?_ GE237.out) | exact HB.out)⟩
     ·rw [if_neg c8] at H
      have c8b0 : ((l0_1.length : Int) == a1) = false := beq_eq_false_iff_ne.mpr c8
      have c8b1 : ((l0_1.length : Int) != a1) = true := bne_iff_ne.mpr c8
      obtain rfl := Option.some.inj H
      go_enter Tryd.func75, Tryd.ntmps75
      go_wp2_with (first | ((with_reducible refine zbc (N := 3) rfl ?_); (try (refine zbN (by rfl) ?_; dsimp only)); refine zbb ?hg (N := 3) ?hd (cs := #[.slice A0_0 l0_0.length c0_0, .slice A0_1 l0_1.length c0_1]) (t := 50) ?hr ?_; (case hd => rfl); (case hg => rfl); (case hr => first | (go_simp; done) | (go_simp; rfl)); intro gb237 hg w16 hbox hb; have n0_ := zaa.mk (zax (by repeat (first | (with_reducible first | exact HB.out | apply zac | apply zab | apply zad) | exact HB.out)) hb); have n1_ := zaa.mk (hbox); have n2_ := zaa.mk ((by rw [hg]; exact (zay (by repeat (first | (with_reducible first | exact HB.out | apply zac | apply zab | apply zad) | exact HB.out))) : w.heap.size ≤ gb237)); have n3_ := zaa.mk ((by rw [hg]; exact (zay (by repeat (first | (with_reducible first | exact HB.out | apply zac | apply zab | apply zad) | exact HB.out))) : w.heap.size ≤ gb237)); clear HB; have HB := n0_; have BK237 := n1_; have GW237 := n2_; have GE237 := n3_; clear n0_ n1_ n2_ n3_; clear hb hbox hg; have hcz17_0 : w16.cell? ⟨gb237, 0, none⟩ = some (.slice A0_0 l0_0.length c0_0) := (zae BK237.out 0).trans rfl; have hcz17_1 : w16.cell? ⟨gb237, 1, none⟩ = some (.slice A0_1 l0_1.length c0_1) := (zae BK237.out 1).trans rfl; have hfz17_0 := zaj BK237.out 0; have hfz17_1 := zaj BK237.out 1))
      go_ret
      exact ⟨by first | rfl | (simp [zan, zam] <;> rfl) | (simp [*, zan, zam] <;> rfl), by repeat (first | (with_reducible first | exact HB.out | apply zac | apply zab | apply zad | refine zai ?_ GE237.out) | exact HB.out)⟩
    ·rw [if_neg c7] at H
     have c7b0 : decide (a2 ≤ 6) = false := decide_eq_false c7
     clear c7
     obtain rfl := Option.some.inj H
     go_enter Tryd.func75, Tryd.ntmps75
     go_wp2_with (first | ((with_reducible refine zbc (N := 3) rfl ?_); (try (refine zbN (by rfl) ?_; dsimp only)); refine zbb ?hg (N := 3) ?hd (cs := #[.slice A0_0 l0_0.length c0_0, .slice A0_1 l0_1.length c0_1]) (t := 50) ?hr ?_; (case hd => rfl); (case hg => rfl); (case hr => first | (go_simp; done) | (go_simp; rfl)); intro gb237 hg w18 hbox hb; have n0_ := zaa.mk (zax (by repeat (first | (with_reducible first | exact HB.out | apply zac | apply zab | apply zad) | exact HB.out)) hb); have n1_ := zaa.mk (hbox); have n2_ := zaa.mk ((by rw [hg]; exact (zay (by repeat (first | (with_reducible first | exact HB.out | apply zac | apply zab | apply zad) | exact HB.out))) : w.heap.size ≤ gb237)); have n3_ := zaa.mk ((by rw [hg]; exact (zay (by repeat (first | (with_reducible first | exact HB.out | apply zac | apply zab | apply zad) | exact HB.out))) : w.heap.size ≤ gb237)); clear HB; have HB := n0_; have BK237 := n1_; have GW237 := n2_; have GE237 := n3_; clear n0_ n1_ n2_ n3_; clear hb hbox hg))
     go_ret
     exact ⟨by first | rfl | (simp [zan, zam] <;> rfl) | (simp [*, zan, zam] <;> rfl), by repeat (first | (with_reducible first | exact HB.out | apply zac | apply zab | apply zad | refine zai ?_ GE237.out) | exact HB.out)⟩
   ·rw [if_neg c6] at H
    have c6b0 : decide (0 ≤ a2) = false := decide_eq_false c6
    clear c6
    obtain rfl := Option.some.inj H
    go_enter Tryd.func75, Tryd.ntmps75
    go_wp2_with (first | ((with_reducible refine zbc (N := 3) rfl ?_); (try (refine zbN (by rfl) ?_; dsimp only)); refine zbb ?hg (N := 3) ?hd (cs := #[.slice A0_0 l0_0.length c0_0, .slice A0_1 l0_1.length c0_1]) (t := 50) ?hr ?_; (case hd => rfl); (case hg => rfl); (case hr => first | (go_simp; done) | (go_simp; rfl)); intro gb237 hg w19 hbox hb; have n0_ := zaa.mk (zax (by repeat (first | (with_reducible first | exact HB.out | apply zac | apply zab | apply zad) | exact HB.out)) hb); have n1_ := zaa.mk (hbox); have n2_ := zaa.mk ((by rw [hg]; exact (zay (by repeat (first | (with_reducible first | exact HB.out | apply zac | apply zab | apply zad) | exact HB.out))) : w.heap.size ≤ gb237)); have n3_ := zaa.mk ((by rw [hg]; exact (zay (by repeat (first | (with_reducible first | exact HB.out | apply zac | apply zab | apply zad) | exact HB.out))) : w.heap.size ≤ gb237)); clear HB; have HB := n0_; have BK237 := n1_; have GW237 := n2_; have GE237 := n3_; clear n0_ n1_ n2_ n3_; clear hb hbox hg))
    go_ret
    exact ⟨by first | rfl | (simp [zan, zam] <;> rfl) | (simp [*, zan, zam] <;> rfl), by repeat (first | (with_reducible first | exact HB.out | apply zac | apply zab | apply zad | refine zai ?_ GE237.out) | exact HB.out)⟩
  ·rw [if_neg c5] at H
   have c5b0 : decide (a1 ≤ 6) = false := decide_eq_false c5
   clear c5
   obtain rfl := Option.some.inj H
   go_enter Tryd.func75, Tryd.ntmps75
   go_wp2_with (first | ((with_reducible refine zbc (N := 3) rfl ?_); (try (refine zbN (by rfl) ?_; dsimp only)); refine zbb ?hg (N := 3) ?hd (cs := #[.slice A0_0 l0_0.length c0_0, .slice A0_1 l0_1.length c0_1]) (t := 50) ?hr ?_; (case hd => rfl); (case hg => rfl); (case hr => first | (go_simp; done) | (go_simp; rfl)); intro gb237 hg w20 hbox hb; have n0_ := zaa.mk (zax (by repeat (first | (with_reducible first | exact HB.out | apply zac | apply zab | apply zad) | exact HB.out)) hb); have n1_ := zaa.mk (hbox); have n2_ := zaa.mk ((by rw [hg]; exact (zay (by repeat (first | (with_reducible first | exact HB.out | apply zac | apply zab | apply zad) | exact HB.out))) : w.heap.size ≤ gb237)); have n3_ := zaa.mk ((by rw [hg]; exact (zay (by repeat (first | (with_reducible first | exact HB.out | apply zac | apply zab | apply zad) | exact HB.out))) : w.heap.size ≤ gb237)); clear HB; have HB := n0_; have BK237 := n1_; have GW237 := n2_; have GE237 := n3_; clear n0_ n1_ n2_ n3_; clear hb hbox hg))
   go_ret
   exact ⟨by first | rfl | (simp [zan, zam] <;> rfl) | (simp [*, zan, zam] <;> rfl), by repeat (first | (with_reducible first | exact HB.out | apply zac | apply zab | apply zad | refine zai ?_ GE237.out) | exact HB.out)⟩
 ·rw [if_neg c4] at H
  have c4b0 : decide (1 ≤ a1) = false := decide_eq_false c4
  clear c4
  obtain rfl := Option.some.inj H
  go_enter Tryd.func75, Tryd.ntmps75
  go_wp2_with (first | ((with_reducible refine zbc (N := 3) rfl ?_); (try (refine zbN (by rfl) ?_; dsimp only)); refine zbb ?hg (N := 3) ?hd (cs := #[.slice A0_0 l0_0.length c0_0, .slice A0_1 l0_1.length c0_1]) (t := 50) ?hr ?_; (case hd => rfl); (case hg => rfl); (case hr => first | (go_simp; done) | (go_simp; rfl)); intro gb237 hg w21 hbox hb; have n0_ := zaa.mk (zax (by repeat (first | (with_reducible first | exact HB.out | apply zac | apply zab | apply zad) | exact HB.out)) hb); have n1_ := zaa.mk (hbox); have n2_ := zaa.mk ((by rw [hg]; exact (zay (by repeat (first | (with_reducible first | exact HB.out | apply zac | apply zab | apply zad) | exact HB.out))) : w.heap.size ≤ gb237)); have n3_ := zaa.mk ((by rw [hg]; exact (zay (by repeat (first | (with_reducible first | exact HB.out | apply zac | apply zab | apply zad) | exact HB.out))) : w.heap.size ≤ gb237)); clear HB; have HB := n0_; have BK237 := n1_; have GW237 := n2_; have GE237 := n3_; clear n0_ n1_ n2_ n3_; clear hb hbox hg))
  go_ret
  exact ⟨by first | rfl | (simp [zan, zam] <;> rfl) | (simp [*, zan, zam] <;> rfl), by repeat (first | (with_reducible first | exact HB.out | apply zac | apply zab | apply zad | refine zai ?_ GE237.out) | exact HB.out)⟩
end Go.Proofs.YtbicjgaadknmfaaDoor.P
end
