import Derived.Test.YtbicjgaadknmfaaDoorQ1
import Derived.Test.YtbicjgaadknmfaaDoorQ8
import Derived.Test.YtbicjgaadknmfaaDoorQ7
import Derived.Test.YtbicjgaadknmfaaDoorQ3
import Derived.Test.YtbicjgaadknmfaaDoorQ4
section
namespace Go.Proofs.YtbicjgaadknmfaaDoor.P
open Go.RowKit Go.Proofs.YtbicjgaadknmfaaDoorW.PrintWords Go.Proofs.YtbicjgaadknmfaaDoorW.PrintLast Go.Proofs.YtbicjgaadknmfaaDoorW.PrintMore
attribute [local go_sem] zcu zcp zcl zck zbZ zbX zb9 zb7
set_option linter.unusedVariables false
set_option linter.unusedSimpArgs false
mutual
def zaz.l0 : Nat → List (S62) → Int → Int → Int → Option (Int × Int)
 | 0, _, _, _, _ => none
 | k + 1, x0, x6, x7, x8 => if x8 > 0 then ((zaz.f k x0 (wrap64 (x7 - 1))).bind fun bt187 => (zaz.l0 k x0 (mx x6 bt187.1) bt187.2 (wrap64 (x8 - 1)))) else (some (wrap64 (x6 + 1), x7))
def zaz.f : Nat → List (S62) → Int → Option (Int × Int)
 | 0, _, _ => none
 | k + 1, l0, a1 => if 0 ≤ a1 then (if a1 < (l0.length : Int) then ((zav.f k ((zbe l0 a1).f0)).bind fun t186 => (zaz.l0 k l0 0 a1 t186)) else (none)) else (none)
end
theorem zaz.zaV : ∀ k, (∀ y0 y1, LeO (zaz.f k y0 y1) (zaz.f (k + 1) y0 y1)) ∧ (∀ y0 y1 y2 y3, LeO (zaz.l0 k y0 y1 y2 y3) (zaz.l0 (k + 1) y0 y1 y2 y3))
 | 0 => ⟨fun _ _ r h => by simp [zaz.f] at h, fun _ _ _ _ r h => by simp [zaz.l0] at h⟩
 | k + 1 => by
  obtain ⟨ih0, ih1⟩ := zaz.zaV k
  refine ⟨?_, ?_⟩
  ·intro y0 y1
   unfold zaz.f
   repeat' first
   | (with_reducible exact ih0 _ _)
   | (with_reducible exact ih1 _ _ _ _)
   | (with_reducible exact zav.mono _ _)
   | (with_reducible exact LeO.refl _)
   | (with_reducible exact LeO.none _)
   | (with_reducible refine LeO.ite ?_ ?_)
   | (with_reducible refine LeO.bind ?_ (fun _ => ?_))
   | exact ih0 _ _
   | exact ih1 _ _ _ _
   | exact zav.mono _ _
   | exact LeO.none _
   | refine LeO.ite ?_ ?_
   | refine LeO.bind ?_ (fun _ => ?_)
  ·intro y0 y1 y2 y3
   unfold zaz.l0
   repeat' first
   | (with_reducible exact ih0 _ _)
   | (with_reducible exact ih1 _ _ _ _)
   | (with_reducible exact zav.mono _ _)
   | (with_reducible exact LeO.refl _)
   | (with_reducible exact LeO.none _)
   | (with_reducible refine LeO.ite ?_ ?_)
   | (with_reducible refine LeO.bind ?_ (fun _ => ?_))
   | exact ih0 _ _
   | exact ih1 _ _ _ _
   | exact zav.mono _ _
   | exact LeO.none _
   | refine LeO.ite ?_ ?_
   | refine LeO.bind ?_ (fun _ => ?_)
theorem zaz.mono : ∀ a0 a1 k, LeO (zaz.f k a0 a1) (zaz.f (k + 1) a0 a1) := by
 intro a0 a1 k
 obtain ⟨ih0, ih1⟩ := zaz.zaV k
 exact ih0 a0 a1
set_option maxHeartbeats 8000000 in
set_option maxRecDepth 100000 in
theorem zaz.calls (k : Nat) : ∀ (A0 : Option Addr) (c0 : Nat) (l0 : List (S62)) (a1 : Int) (r1 : Int) (r2 : Int) (w : World) (hr0 : Kd.C k62 w A0 l0.length l0) (hc0 : l0.length ≤ c0) (h : zaz.f k l0 a1 = some (r1, r2)),
  Calls Tryd.prog 116 #[.slice A0 l0.length c0, .int .i64 a1] w fun e w' => e = .returned (.tuple #[.int .i64 r1, .int .i64 r2]) ∧ Below w.heap.size w w' := by
 induction k using Nat.strongRecOn with
 | _ k ih =>
 intro A0 c0 l0 a1 r1 r2 w hr0 hc0 h
 cases k with
 | zero => exact absurd h (by simp [zaz.f])
 | succ k =>
 simp only [zaz.f] at h
 have HR0 := zaa.mk hr0
 have HC0 := zaa.mk hc0
 clear hr0 hc0
 have HB := zaa.mk (Below.refl w.heap.size w)
 have H : (if 0 ≤ a1 then (if a1 < (l0.length : Int) then ((zav.f k ((zbe l0 a1).f0)).bind fun t186 => (zaz.l0 k l0 0 a1 t186)) else (none)) else (none)) = some (r1, r2) := h
 clear h
 by_cases c3 : 0 ≤ a1
 ·rw [if_pos c3] at H
  have c3b0 : decide (0 ≤ a1) = true := decide_eq_true c3
  clear c3
  by_cases c4 : a1 < (l0.length : Int)
  ·rw [if_pos c4] at H
   have c4b0 : decide (a1 < (l0.length : Int)) = true := decide_eq_true c4
   clear c4
   replace H := Option.bind_eq_some_iff.mp H
   obtain ⟨t186, A50, H⟩ := H
   replace H : (zaz.l0 k l0 0 a1 t186) = some (r1, r2) := H
   have A5 := zaa.mk A50
   clear A50
   have H' := zaa.mk H
   clear H
   have p185 : 0 ≤ (a1 : Int) := of_decide_eq_true (by first | (with_reducible assumption) | assumption)
   have q185 : a1 < (l0.length : Int) := of_decide_eq_true (by first | (with_reducible assumption) | assumption)
   obtain ⟨ad185, A185_2, c185_2, e185, hx185_0, hx185_1, hx185_2, hl185_2, hi185_2⟩ := zdk HR0.out a1 p185 q185
   cases e185
   have HR185_2 := zaa.mk hi185_2
   have HC185_2 := zaa.mk hl185_2
   clear hi185_2 hl185_2
   replace p185 := eq_true p185
   replace q185 := eq_true q185
   go_enter Tryd.func116, Tryd.ntmps116
   go_wp2_with (first | ((with_reducible refine zaI (f := 117) rfl ?_); refine za5 (some 17) rfl rfl Tryd.func117 (by kernel_rfl) rfl #[.int .i64 ((zbe l0 a1).f0)] rfl (by (try simp only [List.map_toArray, List.map_cons, List.map_nil]); first | done | rfl | (simp only [List.length_drop, List.length_take]; rfl)) ?_; (with_reducible refine (zav.calls k ((zbe l0 a1).f0) t186 _ A5.out).mono ?_); rintro e w' ⟨rfl, ⟨nd, rfl⟩⟩; refine ⟨_, rfl, ?_⟩))
   go_loopg [6, 7, 8] k (fun kq v6 v7 v8 w' => ∃ (x6_1 : Int) (x7_1 : Int) (x8_1 : Int), v6 = .int .i64 x6_1 ∧ v7 = .int .i64 x7_1 ∧ v8 = .int .i64 x8_1 ∧ zaa (zaz.l0 kq l0 x6_1 x7_1 x8_1 = some (r1, r2)) ∧ zaa (kq ≤ k) ∧ zaa (Below w.heap.size w w'))
   case atStart => exact ⟨(0), (a1), (t186), (by first | rfl | (simp; done) | (simp [*]; done)), (by first | rfl | (simp; done) | (simp [*]; done)), (by first | rfl | (simp; done) | (simp [*]; done)), H', ⟨Nat.le_refl _⟩, ⟨by repeat (first | (with_reducible first | exact HB.out | apply zac | apply zab | apply zad) | exact HB.out)⟩⟩
   case round =>
    clear H'
    try clear c1
    try clear p1
    try clear q1
    try clear hx1
    try clear p2
    try clear c3
    try clear c3b0
    try clear c4
    try clear c4b0
    try clear hx185_0
    try clear hx185_1
    try clear hx185_2
    try clear p185
    try clear q185
    obtain ⟨x6_1, x7_1, x8_1, rfl, rfl, rfl, HA, HK1, HB⟩ := hrel
    cases gk with
    | zero => exact absurd HA.out (by simp [zaz.l0])
    | succ k1 =>
     have H := HA.out
     clear HA
     simp only [zaz.l0] at H
     by_cases c6 : x8_1 > 0
     ·rw [if_pos c6] at H
      have c6b0 : decide (0 < x8_1) = true := decide_eq_true c6
      clear c6
      replace H := Option.bind_eq_some_iff.mp H
      obtain ⟨⟨t187, t188⟩, A70, H⟩ := H
      replace H : (zaz.l0 k1 l0 (mx x6_1 t187) t188 (wrap64 (x8_1 - 1))) = some (r1, r2) := H
      have A7 := zaa.mk A70
      clear A70
      obtain ⟨ji8, hji8⟩ : ∃ j_ : Int, (mx x6_1 t187) = j_ := ⟨_, rfl⟩
      replace H : (zaz.l0 k1 l0 ji8 t188 (wrap64 (x8_1 - 1))) = some (r1, r2) := by first | (rw [hji8] at H; exact H) | (simp only [hji8] at H ⊢; exact H)
      (try rw [hji8] at A7)
      have H' := zaa.mk H
      clear H
      go_wp2_with (first | ((with_reducible refine zaI (f := 116) rfl ?_); refine za5 (some 26) rfl rfl Tryd.func116 (by kernel_rfl) rfl #[.slice (some ad185) l0.length c0, .int .i64 (wrap64 (x7_1 - 1))] rfl (by (try simp only [List.map_toArray, List.map_cons, List.map_nil]); first | done | rfl | (simp only [List.length_drop, List.length_take]; rfl)) ?_; (with_reducible refine (ih k1 (by have := HK1.out; omega) _ _ l0 (wrap64 (x7_1 - 1)) t187 t188 _ ?side1 ?side2 A7.out).mono ?_); (case side1 => repeat (first | exact (Kd.za1 HR0.out HB.out) | (with_reducible refine Kd.zaU ?_ _) | (with_reducible refine Kd.zaY ?_ _) | (with_reducible refine Kd.za3 ?_))); (case side2 => exact HC0.out); rintro e w9 ⟨rfl, hb⟩; refine ⟨_, rfl, ?_⟩; have n0_ := zaa.mk (zat (by repeat (first | (with_reducible first | exact HB.out | apply zac | apply zab | apply zad) | exact HB.out)) hb); clear HB; have HB := n0_; clear n0_; (try clear hb); (try clear hb2); (try clear hk); (try clear hi)))
      go_roundg k1
      case measure => have := HK1.out; omega
      case rel => exact ⟨(ji8), (t188), (wrap64 (x8_1 - 1)), (by first | rfl | (simp; done) | (simp only [← hji8] <;> (first | rfl | simp)) | (simp [*]; done)), (by first | rfl | (simp; done) | (simp [*]; done)), (by first | rfl | (simp; done) | (simp [*]; done)), H', ⟨by have := HK1.out; omega⟩, ⟨by repeat (first | (with_reducible first | exact HB.out | apply zac | apply zab | apply zad) | exact HB.out)⟩⟩
     ·rw [if_neg c6] at H
      have c6b0 : decide (0 < x8_1) = false := decide_eq_false c6
      clear c6
      simp only [Option.some.injEq, Prod.mk.injEq] at H
      obtain ⟨rfl, rfl⟩ := H
      go_wp2
      go_ret2
      exact ⟨by first | rfl | (simp [zam, zan] <;> rfl) | (simp [*, zam, zan] <;> rfl), by repeat (first | (with_reducible first | exact HB.out | apply zac | apply zab | apply zad) | exact HB.out)⟩
  ·rw [if_neg c4] at H
   exact absurd H (by simp)
 ·rw [if_neg c3] at H
  exact absurd H (by simp)
def zaZ.f (k : Nat) (l0 : List (S62)) : Option (Int) := (zaF.f k l0).bind fun t189 => (if t189 ≥ 0 then (some 0) else ((zaz.f k l0 (wrap64 ((l0.length : Int) - 1))).bind fun bt190 => (some bt190.1)))
theorem zaZ.mono : ∀ a0 k, LeO (zaZ.f k a0) (zaZ.f (k + 1) a0) := by
 intro a0 k
 unfold zaZ.f
 repeat' first
   | (with_reducible exact zaz.mono _ _ _)
   | (with_reducible exact zaF.mono _ _)
   | (with_reducible exact LeO.refl _)
   | (with_reducible exact LeO.none _)
   | (with_reducible refine LeO.ite ?_ ?_)
   | (with_reducible refine LeO.bind ?_ (fun _ => ?_))
   | exact zaz.mono _ _ _
   | exact zaF.mono _ _
   | exact LeO.none _
   | refine LeO.ite ?_ ?_
   | refine LeO.bind ?_ (fun _ => ?_)
set_option maxHeartbeats 8000000 in
set_option maxRecDepth 100000 in
theorem zaZ.calls (k : Nat) (A0 : Option Addr) (c0 : Nat) (l0 : List (S62)) (r : Int) (w : World) (hr0 : Kd.C k62 w A0 l0.length l0) (hc0 : l0.length ≤ c0) (h : zaZ.f k l0 = some r) :
  Calls Tryd.prog 74 #[.slice A0 l0.length c0] w fun e w' => e = .returned (.int .i64 r) ∧ Below w.heap.size w w' := by
 have HR0 := zaa.mk hr0
 have HC0 := zaa.mk hc0
 clear hr0 hc0
 have HB := zaa.mk (Below.refl w.heap.size w)
 have H : ((zaF.f k l0).bind fun t189 => (if t189 ≥ 0 then (some 0) else ((zaz.f k l0 (wrap64 ((l0.length : Int) - 1))).bind fun bt190 => (some bt190.1)))) = some r := h
 clear h
 replace H := Option.bind_eq_some_iff.mp H
 obtain ⟨t189, A20, H⟩ := H
 replace H : (if t189 ≥ 0 then (some 0) else ((zaz.f k l0 (wrap64 ((l0.length : Int) - 1))).bind fun bt190 => (some bt190.1))) = some r := H
 have A2 := zaa.mk A20
 clear A20
 by_cases c3 : t189 ≥ 0
 ·rw [if_pos c3] at H
  have c3b0 : decide (0 ≤ t189) = true := decide_eq_true c3
  clear c3
  obtain rfl := Option.some.inj H
  go_enter Tryd.func74, Tryd.ntmps74
  go_wp2_with (first | ((with_reducible refine zaI (f := 82) rfl ?_); refine za5 (some 6) rfl rfl Tryd.func82 (by kernel_rfl) rfl #[.slice A0 l0.length c0] rfl (by (try simp only [List.map_toArray, List.map_cons, List.map_nil]); first | done | rfl | (simp only [List.length_drop, List.length_take]; rfl)) ?_; (with_reducible refine (zaF.calls k _ _ l0 t189 _ ?side1 ?side2 A2.out).mono ?_); (case side1 => repeat (first | exact HR0.out | (with_reducible refine Kd.zaU ?_ _) | (with_reducible refine Kd.zaY ?_ _) | (with_reducible refine Kd.za3 ?_))); (case side2 => exact HC0.out); rintro e w' ⟨rfl, ⟨nd, rfl⟩⟩; refine ⟨_, rfl, ?_⟩))
  go_ret
  exact ⟨by first | rfl | (simp [zam, zan] <;> rfl) | (simp [*, zam, zan] <;> rfl), by repeat (first | (with_reducible first | exact HB.out | apply zac | apply zab | apply zad) | exact HB.out)⟩
 ·rw [if_neg c3] at H
  have c3b0 : decide (0 ≤ t189) = false := decide_eq_false c3
  clear c3
  replace H := Option.bind_eq_some_iff.mp H
  obtain ⟨⟨t190, t191⟩, A40, H⟩ := H
  replace H : (some t190) = some r := H
  have A4 := zaa.mk A40
  clear A40
  obtain rfl := Option.some.inj H
  go_enter Tryd.func74, Tryd.ntmps74
  go_wp2_with (first | ((with_reducible refine zaI (f := 82) rfl ?_); refine za5 (some 6) rfl rfl Tryd.func82 (by kernel_rfl) rfl #[.slice A0 l0.length c0] rfl (by (try simp only [List.map_toArray, List.map_cons, List.map_nil]); first | done | rfl | (simp only [List.length_drop, List.length_take]; rfl)) ?_; (with_reducible refine (zaF.calls k _ _ l0 t189 _ ?side1 ?side2 A2.out).mono ?_); (case side1 => repeat (first | exact HR0.out | (with_reducible refine Kd.zaU ?_ _) | (with_reducible refine Kd.zaY ?_ _) | (with_reducible refine Kd.za3 ?_))); (case side2 => exact HC0.out); rintro e w' ⟨rfl, ⟨nd, rfl⟩⟩; refine ⟨_, rfl, ?_⟩) | ((with_reducible refine zaI (f := 116) rfl ?_); refine za5 (some 13) rfl rfl Tryd.func116 (by kernel_rfl) rfl #[.slice A0 l0.length c0, .int .i64 (wrap64 ((l0.length : Int) - 1))] rfl (by (try simp only [List.map_toArray, List.map_cons, List.map_nil]); first | done | rfl | (simp only [List.length_drop, List.length_take]; rfl)) ?_; (with_reducible refine (zaz.calls k _ _ l0 (wrap64 ((l0.length : Int) - 1)) t190 t191 _ ?side1 ?side2 A4.out).mono ?_); (case side1 => repeat (first | exact HR0.out | (with_reducible refine Kd.zaU ?_ _) | (with_reducible refine Kd.zaY ?_ _) | (with_reducible refine Kd.za3 ?_))); (case side2 => exact HC0.out); rintro e w5 ⟨rfl, hb⟩; refine ⟨_, rfl, ?_⟩; have n0_ := zaa.mk (zat (by repeat (first | (with_reducible first | exact HB.out | apply zac | apply zab | apply zad) | exact HB.out)) hb); clear HB; have HB := n0_; clear n0_; (try clear hb); (try clear hb2); (try clear hk); (try clear hi)))
  go_ret
  exact ⟨by first | rfl | (simp [zam, zan] <;> rfl) | (simp [*, zam, zan] <;> rfl), by repeat (first | (with_reducible first | exact HB.out | apply zac | apply zab | apply zad) | exact HB.out)⟩
end Go.Proofs.YtbicjgaadknmfaaDoor.P
end
section
namespace Go.Proofs.YtbicjgaadknmfaaDoor.M
open Go.RowKit Go.Proofs.YtbicjgaadknmfaaDoorW.PrintWords Go.Proofs.YtbicjgaadknmfaaDoor.P Go.Proofs.YtbicjgaadknmfaaDoorW.PrintMore
set_option linter.unusedVariables false
set_option linter.unusedSimpArgs false
abbrev SN := S60
abbrev RN := S62
def toN (x : RN) : SN := ⟨x.f0, x.f1, x.f2⟩
theorem rdS {l : List SN} {i : Nat} (h : i < l.length) : zaQ l (i : Int) = l[i] := by
  unfold zaQ
  simp [List.getD_eq_getElem?_getD, h]
theorem rdR {l : List RN} {i : Nat} (h : i < l.length) : zbe l (i : Int) = l[i] := by
  unfold zbe
  simp [List.getD_eq_getElem?_getD, h]
theorem zbw {α : Type} {l : List α} {i : Nat} {a : α} {r : List α} (h : l.drop i = a :: r) : ∃ hi : i < l.length, l[i] = a ∧ l.drop (i + 1) = r := by
  have hi : i < l.length := by
    have := congrArg List.length h
    simp at this; omega
  have := List.drop_eq_getElem_cons hi
  rw [h] at this
  injection this with h1 h2
  exact ⟨hi, h1.symm, h2.symm⟩
def arOp (op : Int) : Int := if 1 ≤ op ∧ op ≤ 5 then 0 else if op = 6 ∨ op = 11 then 1 else if 7 ≤ op ∧ op ≤ 10 then 2 else -1
def arN (x : SN) : Int := arOp x.f0
theorem zhm (x : SN) : arN x ≤ 2 ∧ -1 ≤ arN x := by unfold arN arOp; repeat' split; all_goals omega
theorem zhz (op : Int) : op = 1 ∨ op = 2 ∨ op = 3 ∨ op = 4 ∨ op = 5 ∨ op = 6 ∨ op = 7 ∨ op = 8 ∨ op = 9 ∨ op = 10 ∨ op = 11 ∨ (op < 1 ∨ 11 < op) := by omega
theorem zdF (op : Int) : Ev (fun k => zaK.f k op) (arOp op) := by
  refine ⟨2, fun k hk => ?_⟩
  obtain ⟨m, rfl⟩ : ∃ m, k = m + 2 := ⟨k - 2, by omega⟩
  rcases zhz op with h | h | h | h | h | h | h | h | h | h | h | h
  any_goals (subst h; rfl)
  have b : ∀ c : Int, 1 ≤ c → c ≤ 11 → (op == c) = false ∧ ¬ op = c := fun c h1 h2 => ⟨by simp; omega, by omega⟩
  unfold zaK.f arOp
  simp only [zaK.j0, zaK.j1]
  rw [if_neg (b 1 (by omega) (by omega)).2, if_neg (b 2 (by omega) (by omega)).2, if_neg (b 3 (by omega) (by omega)).2, if_neg (b 4 (by omega) (by omega)).2, (b 5 (by omega) (by omega)).1, (b 11 (by omega) (by omega)).1]
  rw [if_neg (by decide), if_neg (b 6 (by omega) (by omega)).2, if_neg (by decide), if_neg (b 7 (by omega) (by omega)).2, if_neg (b 8 (by omega) (by omega)).2, if_neg (b 9 (by omega) (by omega)).2, if_neg (b 10 (by omega) (by omega)).2, if_neg (by omega), if_neg (by omega), if_neg (by omega)]
theorem zg7 (op : Int) : Ev (fun k => zav.f k op) (arOp op) := by
  refine ⟨2, fun k hk => ?_⟩
  obtain ⟨m, rfl⟩ : ∃ m, k = m + 2 := ⟨k - 2, by omega⟩
  rcases zhz op with h | h | h | h | h | h | h | h | h | h | h | h
  any_goals (subst h; rfl)
  unfold zav.f arOp
  simp only [zav.j0, zav.j1]
  rw [if_neg (show ¬ (1 ≤ op ∧ op ≤ 5) by omega), if_neg (show ¬ (op = 6 ∨ op = 11) by omega), if_neg (show ¬ (7 ≤ op ∧ op ≤ 10) by omega)]
  rcases h with h | h
  · rw [if_neg (by omega), if_neg (by decide), if_neg (by omega), show (op == 11) = false by simp; omega, if_neg (by decide), if_neg (by omega)]
  · rw [if_pos (by omega), show decide (op ≤ 5) = false from decide_eq_false (by omega), if_neg (by decide), if_neg (by omega), show (op == 11) = false by simp; omega, if_neg (by decide), if_pos (by omega), if_neg (by omega)]
theorem zg8 (l : List SN) (hl : l.length ≤ 1000000) : ∀ (r : List SN) (i : Nat) (o : Int), l.drop i = r → i ≤ l.length → 0 ≤ o → o ≤ i →
    Ev (fun k => za8.l0 k l o l (l.length : Int) (i : Int)) (zbJ arN r o (i : Int)) := by
  intro r
  induction r with
  | nil =>
    intro i o hd hi h0 h1
    have : l.length ≤ i := by simpa using hd
    obtain rfl : i = l.length := by omega
    refine Ev.step (f := fun _ => some (zbJ arN [] o (l.length : Int))) (fun k => ?_) (Ev.now _)
    simp only [za8.l0, zbJ]
    rw [if_neg (by omega)]
    split <;> rfl
  | cons a r ih =>
    intro i o hd hi h0 h1
    obtain ⟨hlt, ha, hr⟩ := zbw hd
    refine Ev.step (f := fun k => (zaK.f k a.f0).bind fun t => if t < 0 then some (i : Int) else if t > o then some (i : Int) else za8.l0 k l (wrap64 (o + wrap64 (1 - t))) l (l.length : Int) (wrap64 ((i : Int) + 1))) (fun k => ?_) ?_
    · simp only [za8.l0]
      rw [if_pos (by omega), if_pos (by omega), if_pos (by omega), rdS hlt, ha]
    · refine Ev.bind (zdF a.f0) ?_
      have hb := zhm a
      unfold zbJ
      show Ev _ (if arN a < 0 ∨ o < arN a then _ else _)
      change Ev (fun k => if arN a < 0 then some (i : Int) else if arN a > o then some (i : Int) else za8.l0 k l (wrap64 (o + wrap64 (1 - arN a))) l (l.length : Int) (wrap64 ((i : Int) + 1))) _
      by_cases c : arN a < 0
      · rw [if_pos (.inl c)]; exact Ev.congr (fun _ => if_pos c) (Ev.now _)
      · by_cases c2 : o < arN a
        · rw [if_pos (.inr c2)]; exact Ev.congr (fun _ => by rw [if_neg c, if_pos c2]) (Ev.now _)
        · rw [if_neg (by omega)]
          have := ih (i + 1) (o + 1 - arN a) hr (by omega) (by omega) (by omega)
          refine Ev.congr (fun k => ?_) this
          rw [if_neg c, if_neg c2, zbh (n := 1 - arN a) (by omega) (by omega), zbh (by omega) (by omega), zbh (by omega) (by omega)]
          congr 1
          omega
theorem zgd (l : List SN) (hl : l.length ≤ 1000000) : Ev (fun k => za8.f k l) (zch arN l) := zg8 l hl l 0 0 rfl (by omega) (by omega) (by omega)
theorem zhp (l : List RN) (hl : l.length ≤ 1000000) : ∀ (r : List RN) (i : Nat) (o : Int), l.drop i = r → i ≤ l.length → 0 ≤ o → o ≤ i →
    Ev (fun k => zaF.l0 k l o (i : Int)) (zbJ arN (r.map toN) o (i : Int)) := by
  intro r
  induction r with
  | nil =>
    intro i o hd hi h0 h1
    have : l.length ≤ i := by simpa using hd
    obtain rfl : i = l.length := by omega
    refine Ev.step (f := fun _ => some (zbJ arN [] o (l.length : Int))) (fun k => ?_) (Ev.now _)
    simp only [zaF.l0, zbJ]
    rw [if_neg (by omega)]
    split <;> rfl
  | cons a r ih =>
    intro i o hd hi h0 h1
    obtain ⟨hlt, ha, hr⟩ := zbw hd
    refine Ev.step (f := fun k => (zav.f k a.f0).bind fun t => if t < 0 then some (i : Int) else if o < t then some (i : Int) else zaF.l0 k l (wrap64 ((wrap64 (o - t)) + 1)) (wrap64 ((i : Int) + 1))) (fun k => ?_) ?_
    · simp only [zaF.l0]
      rw [if_pos (by omega), if_pos (by omega), rdR hlt, ha]
    · refine Ev.bind (zg7 a.f0) ?_
      have hb := zhm (toN a)
      rw [List.map_cons]
      unfold zbJ
      change Ev (fun k => if arN (toN a) < 0 then some (i : Int) else if o < arN (toN a) then some (i : Int) else zaF.l0 k l (wrap64 ((wrap64 (o - arN (toN a))) + 1)) (wrap64 ((i : Int) + 1))) (if arN (toN a) < 0 ∨ o < arN (toN a) then _ else _)
      by_cases c : arN (toN a) < 0
      · rw [if_pos (.inl c)]; exact Ev.congr (fun _ => if_pos c) (Ev.now _)
      · by_cases c2 : o < arN (toN a)
        · rw [if_pos (.inr c2)]; exact Ev.congr (fun _ => by rw [if_neg c, if_pos c2]) (Ev.now _)
        · rw [if_neg (by omega)]
          have := ih (i + 1) (o + 1 - arN (toN a)) hr (by omega) (by omega) (by omega)
          refine Ev.congr (fun k => ?_) this
          rw [if_neg c, if_neg c2, zbh (n := o - arN (toN a)) (by omega) (by omega), zbh (by omega) (by omega), zbh (by omega) (by omega)]
          congr 1
          omega
theorem zgQ (l : List RN) (hl : l.length ≤ 1000000) : Ev (fun k => zaF.f k l) (zch arN (l.map toN)) := zhp l hl l 0 0 rfl (by omega) (by omega) (by omega)
open Classical in
noncomputable def zcN (l : List SN) : Int := if h : ∃ e : Ex SN, e.ok arN ∧ e.flat = l then ((Classical.choose h).depth : Int) else 0
theorem zeA {e : Ex SN} (h : e.ok arN) : zcN e.flat = e.depth := by
  unfold zcN
  have hx : ∃ f : Ex SN, f.ok arN ∧ f.flat = e.flat := ⟨e, h, rfl⟩
  rw [dif_pos hx]
  obtain ⟨h1, h2⟩ := Classical.choose_spec hx
  rw [zkb h1 h h2]
theorem zfw {l : List SN} (h : 0 ≤ zch arN l) : zcN l = 0 := by
  unfold zcN
  rw [dif_neg]
  rintro ⟨e, he, rfl⟩
  have := ze9 he
  omega
theorem zlh (s : List Int) (d : Int) : rd (s ++ [d]) (s.length : Int) = d := by
  unfold rd
  simp [List.getD_eq_getElem?_getD]
theorem zfp (s : List Int) (d x : Int) (l : List SN) (i : Nat) (t : Int) (j : Nat) (hs : s.length ≤ 1000000) (hj : (j : Int) < t) (hj2 : j ≤ 10) (k : Nat) :
    zaP.l1 (k + 1) (s ++ [d]) x l (l.length : Int) (i : Int) t (j : Int) = zaP.l1 k s (mx x d) l (l.length : Int) (i : Int) t ((j + 1 : Nat) : Int) := by
  simp only [zaP.l1]
  have hw : wrap64 (((s ++ [d]).length : Int) - 1) = (s.length : Int) := by
    rw [List.length_append, List.length_singleton, zbh (by omega) (by omega)]; omega
  rw [if_pos hj, hw, if_pos (by omega), if_pos (by rw [List.length_append, List.length_singleton]; omega), if_pos (by rw [List.length_append, List.length_singleton]; omega), zlh, Int.toNat_natCast, List.take_left', zbh (by omega) (by omega)]
  · rfl
  · rfl
theorem ze3 (s : List Int) (x : Int) (l : List SN) (i : Nat) (t : Int) (hs : s.length ≤ 1000000) (hi : i ≤ 1000000) (hx : 0 ≤ x ∧ x ≤ 1000000) (k : Nat) :
    zaP.l1 (k + 1) s x l (l.length : Int) (i : Int) t t = zaP.l0 k (s ++ [x + 1]) l (l.length : Int) ((i + 1 : Nat) : Int) := by
  simp only [zaP.l1]
  rw [if_neg (by omega), if_pos (by omega), zbh (by omega) (by omega), zbh (by omega) (by omega)]
  rfl
theorem zkk (a b : Nat) : mx (a : Int) (b : Int) = ((max a b : Nat) : Int) := by
  unfold mx
  split <;> omega
theorem zj4 (l : List SN) (hl : l.length ≤ 1000000) {e : Ex SN} (he : e.ok arN) : ∀ (i : Nat) (s : List Int) (r : List SN) {R : Int}, l.drop i = e.flat ++ r → s.length ≤ i →
    Ev (fun k => zaP.l0 k (s ++ [(e.depth : Int)]) l (l.length : Int) ((i + e.flat.length : Nat) : Int)) R → Ev (fun k => zaP.l0 k s l (l.length : Int) (i : Int)) R := by
  induction e with
  | leaf a =>
    intro i s r R hd hs hk
    obtain ⟨hlt, ha, hr⟩ := zbw hd
    have h0 : arOp a.f0 = 0 := he
    refine Ev.step (f := fun k => (zaK.f k a.f0).bind fun t => zaP.l1 k s 0 l (l.length : Int) (i : Int) t 0) (fun k => ?_) ?_
    · simp only [zaP.l0]
      rw [if_pos (by omega), if_pos (by omega), if_pos (by omega), rdS hlt, ha]
    · refine Ev.bind (zdF a.f0) ?_
      rw [h0]
      exact Ev.step (fun k => ze3 s 0 l i 0 (by omega) (by omega) (by omega) k) hk
  | un a x ih =>
    intro i s r R hd hs hk
    simp only [Ex.flat, List.append_assoc, List.singleton_append] at hd
    have hle := congrArg List.length hd
    simp at hle
    have hdx := x.zdI
    have hd2 : l.drop (i + x.flat.length) = a :: r := by rw [← List.drop_drop, hd, List.drop_left]
    obtain ⟨hlt, ha, hr⟩ := zbw hd2
    have h0 : arOp a.f0 = 1 := he.1
    refine ih he.2 i s (a :: r) hd hs ?_
    refine Ev.step (f := fun k => (zaK.f k a.f0).bind fun t => zaP.l1 k (s ++ [(x.depth : Int)]) 0 l (l.length : Int) ((i + x.flat.length : Nat) : Int) t 0) (fun k => ?_) ?_
    · simp only [zaP.l0]
      rw [if_pos (by omega), if_pos (by omega), if_pos (by omega), rdS hlt, ha]
    · refine Ev.bind (zdF a.f0) ?_
      rw [h0]
      refine Ev.step (fun k => zfp s x.depth 0 l (i + x.flat.length) 1 0 (by omega) (by decide) (by decide) k) ?_
      have e1 := zkk 0 x.depth
      rw [Nat.zero_max] at e1
      have e1' : mx 0 (x.depth : Int) = (x.depth : Int) := e1
      rw [e1']
      refine Ev.step (fun k => ze3 s x.depth l (i + x.flat.length) 1 (by omega) (by omega) (by omega) k) ?_
      have : i + (Ex.un a x).flat.length = i + x.flat.length + 1 := by simp [Ex.flat]; omega
      rw [this] at hk
      exact hk
  | bin a x y ih ih2 =>
    intro i s r R hd hs hk
    simp only [Ex.flat, List.append_assoc, List.singleton_append] at hd
    have hle := congrArg List.length hd
    simp at hle
    have hdx := x.zdI
    have hdy := y.zdI
    have hpx := x.zhH
    have hd2 : l.drop (i + x.flat.length) = y.flat ++ (a :: r) := by rw [← List.drop_drop, hd, List.drop_left]
    have hd3 : l.drop (i + x.flat.length + y.flat.length) = a :: r := by rw [← List.drop_drop, hd2, List.drop_left]
    obtain ⟨hlt, ha, hr⟩ := zbw hd3
    have h0 : arOp a.f0 = 2 := he.1
    refine ih he.2.1 i s (y.flat ++ (a :: r)) hd hs ?_
    refine ih2 he.2.2 (i + x.flat.length) (s ++ [(x.depth : Int)]) (a :: r) hd2 (by simp; omega) ?_
    refine Ev.step (f := fun k => (zaK.f k a.f0).bind fun t => zaP.l1 k ((s ++ [(x.depth : Int)]) ++ [(y.depth : Int)]) 0 l (l.length : Int) ((i + x.flat.length + y.flat.length : Nat) : Int) t 0) (fun k => ?_) ?_
    · simp only [zaP.l0]
      rw [if_pos (by omega), if_pos (by omega), if_pos (by omega), rdS hlt, ha]
    · refine Ev.bind (zdF a.f0) ?_
      rw [h0]
      refine Ev.step (fun k => zfp (s ++ [(x.depth : Int)]) y.depth 0 l (i + x.flat.length + y.flat.length) 2 0 (by simp; omega) (by decide) (by decide) k) ?_
      refine Ev.step (fun k => zfp s x.depth _ l (i + x.flat.length + y.flat.length) 2 1 (by omega) (by decide) (by decide) k) ?_
      have e1' : mx (mx 0 (y.depth : Int)) (x.depth : Int) = ((max x.depth y.depth : Nat) : Int) := by unfold mx; repeat' split; all_goals omega
      rw [e1']
      refine Ev.step (fun k => ze3 s _ l (i + x.flat.length + y.flat.length) 2 (by omega) (by omega) (by omega) k) ?_
      have : i + (Ex.bin a x y).flat.length = i + x.flat.length + y.flat.length + 1 := by simp [Ex.flat]; omega
      rw [this] at hk
      exact hk
theorem zgp (l : List SN) (hl : l.length ≤ 1000000) : Ev (fun k => zbI.f k l) (decide (zch arN l < 0)) := Ev.bind (zgd l hl) (Ev.now _)
theorem zgw (l : List SN) (hl : l.length ≤ 1000000) : Ev (fun k => zaP.f k l) (zcN l) := by
  refine Ev.bind (zgp l hl) ?_
  by_cases h : zch arN l < 0
  · rw [decide_eq_true h]
    obtain ⟨e, he, rfl⟩ := zfa (fun a => (zhm a).1) h
    rw [zeA he]
    refine zj4 e.flat hl he 0 [] [] (by simp) (by simp) ?_
    refine Ev.step (f := fun _ => some (e.depth : Int)) (fun k => ?_) (Ev.now _)
    simp only [zaP.l0]
    rw [if_neg (by omega)]
    rfl
  · rw [decide_eq_false h, zfw (by omega)]
    exact Ev.now _
theorem zkJ (l : List RN) (hl : l.length ≤ 1000000) {e : Ex SN} (he : e.ok arN) : ∀ (i : Nat) (r : List SN), (l.map toN).drop i = e.flat ++ r →
    Ev (fun k => zaz.f k l ((i + e.flat.length : Nat) - 1 : Int)) ((e.depth : Int), (i : Int)) := by
  have head : ∀ (at_ : Nat) (a : SN) (r : List SN) {R : Int × Int}, (l.map toN).drop at_ = a :: r → Ev (fun k => zaz.l0 k l 0 (at_ : Int) (arN a)) R → Ev (fun k => zaz.f k l (at_ : Int)) R := by
    intro at_ a r R hd hk
    obtain ⟨hlt, ha, _⟩ := zbw hd
    rw [List.length_map] at hlt
    rw [List.getElem_map] at ha
    refine Ev.step (f := fun k => (zav.f k a.f0).bind fun t => zaz.l0 k l 0 (at_ : Int) t) (fun k => ?_) (Ev.bind (zg7 a.f0) hk)
    simp only [zaz.f]
    rw [if_pos (by omega), if_pos (by omega), rdR hlt, ← ha]
    rfl
  have last : ∀ (d : Nat) (from_ : Nat), d ≤ 1000000 → Ev (fun k => zaz.l0 k l (d : Int) (from_ : Int) 0) ((d + 1 : Nat), (from_ : Int)) := by
    intro d from_ hd
    refine Ev.step (f := fun _ => some (((d + 1 : Nat) : Int), (from_ : Int))) (fun k => ?_) (Ev.now _)
    simp only [zaz.l0]
    rw [if_neg (by omega), zbh (by omega) (by omega)]
    rfl
  have one : ∀ (d : Nat) (at_ : Nat) (t : Nat) (q : Nat × Nat) {R : Int × Int}, at_ ≤ 1000000 → 0 < t → t ≤ 2 → Ev (fun k => zaz.f k l ((at_ : Int) - 1)) ((q.1 : Int), (q.2 : Int)) → Ev (fun k => zaz.l0 k l ((max d q.1 : Nat) : Int) (q.2 : Int) ((t - 1 : Nat) : Int)) R → Ev (fun k => zaz.l0 k l (d : Int) (at_ : Int) (t : Int)) R := by
    intro d at_ t q R h1 h2 h2' h3 h4
    refine Ev.step (f := fun k => (zaz.f k l ((at_ : Int) - 1)).bind fun b => zaz.l0 k l (mx d b.1) b.2 (wrap64 ((t : Int) - 1))) (fun k => ?_) (Ev.bind h3 (Ev.congr (fun k => ?_) h4))
    · simp only [zaz.l0]
      rw [if_pos (by omega), zbh (n := (at_ : Int) - 1) (by omega) (by omega)]
    · rw [zkk, zbh (by omega) (by omega)]
      congr 1
      omega
  induction e with
  | leaf a =>
    intro i r hd
    have h0 : arN a = 0 := he
    have hx := head i a r hd (R := ((1 : Nat), (i : Int))) (by rw [h0]; exact last 0 i (by omega))
    have e1 : ((i + (Ex.leaf a).flat.length : Nat) - 1 : Int) = (i : Int) := by simp [Ex.flat]
    rw [e1]
    exact hx
  | un a x ih =>
    intro i r hd
    simp only [Ex.flat, List.append_assoc, List.singleton_append] at hd
    have hle := congrArg List.length hd
    simp at hle
    have hdx := x.zdI
    have hd2 : (l.map toN).drop (i + x.flat.length) = a :: r := by rw [← List.drop_drop, hd, List.drop_left]
    have h0 : arN a = 1 := he.1
    have e1 : ((i + (Ex.un a x).flat.length : Nat) - 1 : Int) = ((i + x.flat.length : Nat) : Int) := by simp [Ex.flat]; omega
    rw [e1]
    refine head _ a r hd2 ?_
    rw [h0]
    refine one 0 (i + x.flat.length) 1 (x.depth, i) (by omega) (by omega) (by omega) (ih he.2 i (a :: r) hd) ?_
    rw [Nat.zero_max]
    exact last x.depth i (by omega)
  | bin a x y ih ih2 =>
    intro i r hd
    simp only [Ex.flat, List.append_assoc, List.singleton_append] at hd
    have hle := congrArg List.length hd
    simp at hle
    have hdx := x.zdI
    have hdy := y.zdI
    have hd2 : (l.map toN).drop (i + x.flat.length) = y.flat ++ (a :: r) := by rw [← List.drop_drop, hd, List.drop_left]
    have hd3 : (l.map toN).drop (i + x.flat.length + y.flat.length) = a :: r := by rw [← List.drop_drop, hd2, List.drop_left]
    have h0 : arN a = 2 := he.1
    have e1 : ((i + (Ex.bin a x y).flat.length : Nat) - 1 : Int) = ((i + x.flat.length + y.flat.length : Nat) : Int) := by simp [Ex.flat]; omega
    rw [e1]
    refine head _ a r hd3 ?_
    rw [h0]
    refine one 0 (i + x.flat.length + y.flat.length) 2 (y.depth, i + x.flat.length) (by omega) (by omega) (by omega) (ih2 he.2.2 _ (a :: r) hd2) ?_
    rw [Nat.zero_max]
    refine one y.depth (i + x.flat.length) 1 (x.depth, i) (by omega) (by omega) (by omega) (ih he.2.1 i _ hd) ?_
    rw [Nat.max_comm]
    exact last _ i (by omega)
theorem zi3 (l : List RN) (hl : l.length ≤ 1000000) : Ev (fun k => zaZ.f k l) (zcN (l.map toN)) := by
  refine Ev.bind (zgQ l hl) ?_
  by_cases h : zch arN (l.map toN) < 0
  · refine Ev.congr (fun k => if_neg (by omega)) ?_
    obtain ⟨e, he, hf⟩ := zfa (fun a => (zhm a).1) h
    have hlen : e.flat.length = l.length := by rw [hf, List.length_map]
    have hp := e.zhH
    have := zkJ l hl he 0 [] (by simp [hf])
    rw [Nat.zero_add, hlen] at this
    rw [← hf, zeA he, zbh (by omega) (by omega)]
    exact Ev.bind this (Ev.now _)
  · rw [zfw (by omega)]
    exact Ev.congr (fun k => if_pos (by omega)) (Ev.now _)
end Go.Proofs.YtbicjgaadknmfaaDoor.M
end
section
namespace Go.Proofs.YtbicjgaadknmfaaDoor.M
open Go.RowKit Go.Proofs.YtbicjgaadknmfaaDoorW.PrintWords Go.Proofs.YtbicjgaadknmfaaDoor.P Go.Proofs.YtbicjgaadknmfaaDoorW.PrintMore
set_option linter.unusedVariables false
set_option linter.unusedSimpArgs false
def zeR (n : List Int) : Bool := decide ((strip n).length = n.length) && decide ((dec (val n).toNat).length ≤ 60)
def zbK (x : SN) (d p l : Int) : Bool :=
  if x.f0 = 1 then decide (x.f1 = 0) && zeR x.f2
  else if 0 < x.f2.length ∨ x.f0 < 1 ∨ 11 < x.f0 then false
  else if x.f0 = 3 then decide (0 ≤ x.f1) && decide (x.f1 < d)
  else if x.f0 = 4 then decide (0 ≤ x.f1) && decide (x.f1 < p)
  else if x.f0 = 5 then decide (0 ≤ x.f1) && decide (x.f1 < l)
  else if x.f0 = 11 then decide (-8 ≤ x.f1) && decide (x.f1 ≤ 8)
  else decide (x.f1 = 0)
def Nw (x : SN) : Prop := Wl x.f2 ∧ x.f2.length ≤ 1000
theorem zhW {n : List Int} (h : Wl n) (hl : n.length ≤ 1000) : zcx.f n = some (zeR n) := by
  unfold zcx.f zcL.f zc9.f zcW.f zeR
  rw [if_pos (by omega), if_pos (zgr.2 h), if_pos (by omega)]
  simp only [Option.bind_some, zhG]
  by_cases c : (strip n).length = n.length
  · rw [if_pos (by omega), decide_eq_true c, Bool.true_and]
    congr 1
    exact decide_eq_decide.2 (by omega)
  · rw [if_neg (by omega), decide_eq_false c, Bool.false_and]
theorem zf4 (a b : Int) : zbN.f a b = some (decide (0 ≤ a) && decide (a < b)) := by
  unfold zbN.f
  by_cases c : 0 ≤ a
  · rw [if_pos c, decide_eq_true c, Bool.true_and]
  · rw [if_neg c, decide_eq_false c, Bool.false_and]
theorem zjg (x : SN) (hx : Nw x) (d p l : Int) : Ev (fun k => zbi.f k x.f0 x.f1 x.f2 d p l) (zbK x d p l) := by
  have round : ∀ b k, zbi.j0 (k + 1) d p l b x.f0 x.f1 x.f2 = if b = true then some false else if x.f0 = 1 then (if x.f1 = 0 then (zcx.f x.f2).bind fun t => some t else some false) else if x.f0 = 3 then (zbN.f x.f1 d).bind fun t => some t else if x.f0 = 4 then (zbN.f x.f1 p).bind fun t => some t else if x.f0 = 5 then (zbN.f x.f1 l).bind fun t => some t else if x.f0 = 11 then (if x.f1 ≥ -8 then some (decide (x.f1 ≤ 8)) else some false) else if x.f1 = 0 then (zaK.f k x.f0).bind fun t => some (decide (t ≥ 0)) else some false := fun b k => by simp only [zbi.j0]
  unfold zbi.f
  by_cases c1 : x.f0 = 1
  · have e : zbK x d p l = (decide (x.f1 = 0) && zeR x.f2) := by unfold zbK; rw [if_pos c1]
    rw [e]
    refine Ev.congr (fun k => if_pos c1) (Ev.step (fun k => round false k) (Ev.congr (f := fun _ => some (decide (x.f1 = 0) && zeR x.f2)) (fun k => ?_) (Ev.now _)))
    rw [if_neg (by decide), if_pos c1, zhW hx.1 hx.2]
    by_cases c : x.f1 = 0
    · rw [if_pos c, decide_eq_true c]; rfl
    · rw [if_neg c, decide_eq_false c]; rfl
  · refine Ev.congr (fun k => if_neg c1) (Ev.step (fun k => round _ k) ?_)
    by_cases c2 : 0 < x.f2.length
    · have e : zbK x d p l = false := by unfold zbK; rw [if_neg c1, if_pos (.inl c2)]
      rw [e]
      exact Ev.congr (fun k => if_pos (decide_eq_true (by omega))) (Ev.now _)
    · refine Ev.congr (fun k => if_neg (by rw [decide_eq_false (by omega)]; decide)) (Ev.congr (fun k => if_neg c1) ?_)
      by_cases c3 : x.f0 = 3
      · have e : zbK x d p l = (decide (0 ≤ x.f1) && decide (x.f1 < d)) := by unfold zbK; rw [if_neg c1, if_neg (by omega), if_pos c3]
        rw [e]
        exact Ev.congr (fun k => by rw [if_pos c3, zf4]; rfl) (Ev.now _)
      by_cases c4 : x.f0 = 4
      · have e : zbK x d p l = (decide (0 ≤ x.f1) && decide (x.f1 < p)) := by unfold zbK; rw [if_neg c1, if_neg (by omega), if_neg c3, if_pos c4]
        rw [e]
        exact Ev.congr (fun k => by rw [if_neg c3, if_pos c4, zf4]; rfl) (Ev.now _)
      by_cases c5 : x.f0 = 5
      · have e : zbK x d p l = (decide (0 ≤ x.f1) && decide (x.f1 < l)) := by unfold zbK; rw [if_neg c1, if_neg (by omega), if_neg c3, if_neg c4, if_pos c5]
        rw [e]
        exact Ev.congr (fun k => by rw [if_neg c3, if_neg c4, if_pos c5, zf4]; rfl) (Ev.now _)
      by_cases c6 : x.f0 = 11
      · have e : zbK x d p l = (decide (-8 ≤ x.f1) && decide (x.f1 ≤ 8)) := by unfold zbK; rw [if_neg c1, if_neg (by omega), if_neg c3, if_neg c4, if_neg c5, if_pos c6]
        rw [e]
        refine Ev.congr (f := fun _ => some (decide (-8 ≤ x.f1) && decide (x.f1 ≤ 8))) (fun k => ?_) (Ev.now _)
        rw [if_neg c3, if_neg c4, if_neg c5, if_pos c6]
        by_cases c : -8 ≤ x.f1
        · rw [if_pos c, decide_eq_true c, Bool.true_and]
        · rw [if_neg c, decide_eq_false c, Bool.false_and]
      refine Ev.congr (fun k => by rw [if_neg c3, if_neg c4, if_neg c5, if_neg c6]) ?_
      have har := zdF x.f0
      by_cases c : x.f1 = 0
      · refine Ev.congr (fun k => if_pos c) (Ev.bind har ?_)
        have e : zbK x d p l = decide (arOp x.f0 ≥ 0) := by
          unfold zbK
          rw [if_neg c1]
          by_cases c7 : x.f0 < 1 ∨ 11 < x.f0
          · rw [if_pos (by omega)]
            symm
            apply decide_eq_false
            unfold arOp
            rw [if_neg (by omega), if_neg (by omega), if_neg (by omega)]
            omega
          · rw [if_neg (by omega), if_neg c3, if_neg c4, if_neg c5, if_neg c6, decide_eq_true c]
            symm
            apply decide_eq_true
            unfold arOp
            repeat' split
            all_goals omega
        rw [e]
        exact Ev.now _
      · have e : zbK x d p l = false := by
          unfold zbK
          rw [if_neg c1, if_neg c3, if_neg c4, if_neg c5, if_neg c6, decide_eq_false c]
          split <;> rfl
        rw [e]
        exact Ev.congr (fun k => if_neg c) (Ev.now _)
theorem zff (n : List Int) : strip n = n ↔ (strip n).length = n.length := by
  constructor
  · intro h; rw [h]
  · intro h
    have := zgi n
    rw [h, List.take_length] at this
    exact this.symm
theorem zjU (x : RN) (hx : Nw (toN x)) (d p l : Int) : Ev (fun k => zay.f k x.f0 x.f1 x.f2 d p l) (zbK (toN x) d p l) := by
  have hw : Wl x.f2 := hx.1
  have hl : x.f2.length ≤ 1000 := hx.2
  have round : ∀ b k, zay.j0 (k + 1) d p l b x.f0 x.f1 x.f2 = if b = true then some false else if x.f0 = 3 then (if x.f1 ≥ 0 then some (decide (x.f1 < d)) else some false) else if x.f0 = 4 then (if x.f1 ≥ 0 then some (decide (x.f1 < p)) else some false) else if x.f0 = 5 then (if x.f1 ≥ 0 then some (decide (x.f1 < l)) else some false) else if x.f0 = 11 then (if x.f1 ≥ -8 then some (decide (x.f1 ≤ 8)) else some false) else some (x.f1 == 0) := fun b k => by simp only [zay.j0]
  have two : ∀ (a b : Int) (q : Bool), (if a ≥ b then some q else some false) = some (decide (b ≤ a) && q) := by
    intro a b q
    by_cases c : b ≤ a
    · rw [if_pos c, decide_eq_true c, Bool.true_and]
    · rw [if_neg c, decide_eq_false c, Bool.false_and]
  have e0 : zbK (toN x) d p l = if x.f0 = 1 then decide (x.f1 = 0) && zeR x.f2 else if 0 < x.f2.length ∨ x.f0 < 1 ∨ 11 < x.f0 then false else if x.f0 = 3 then decide (0 ≤ x.f1) && decide (x.f1 < d) else if x.f0 = 4 then decide (0 ≤ x.f1) && decide (x.f1 < p) else if x.f0 = 5 then decide (0 ≤ x.f1) && decide (x.f1 < l) else if x.f0 = 11 then decide (-8 ≤ x.f1) && decide (x.f1 ≤ 8) else decide (x.f1 = 0) := rfl
  unfold zay.f
  by_cases c1 : x.f0 = 1
  · rw [if_pos c1] at e0
    rw [e0]
    refine Ev.congr (fun k => if_pos c1) ?_
    by_cases c : x.f1 = 0
    · rw [decide_eq_true c, Bool.true_and]
      have hn := zgI hw (by omega)
      rw [← zds hw] at hn
      refine Ev.congr (fun k => if_pos c) (Ev.bind hn (Ev.bind (zkF (strip x.f2) x.f2 (by have := zey x.f2; omega)) ?_))
      unfold zeR
      by_cases c2 : (strip x.f2).length = x.f2.length
      · rw [decide_eq_true ((zff _).2 c2), decide_eq_true c2, Bool.true_and]
        refine Ev.congr (fun k => if_pos rfl) (Ev.bind (zkv hw (by omega)) (Ev.congr (f := fun _ => some (decide ((dec (val x.f2).toNat).length ≤ 60))) (fun k => ?_) (Ev.now _)))
        rw [zhG]
        congr 1
        exact decide_eq_decide.2 (by omega)
      · rw [decide_eq_false (fun h => c2 ((zff _).1 h)), decide_eq_false c2, Bool.false_and]
        exact Ev.now _
    · rw [decide_eq_false c, Bool.false_and]
      exact Ev.congr (fun k => if_neg c) (Ev.now _)
  · rw [if_neg c1] at e0
    refine Ev.congr (fun k => if_neg c1) ?_
    have bad : Ev (fun k => zay.j0 k d p l true x.f0 x.f1 x.f2) false := Ev.step (fun k => round true k) (Ev.congr (fun k => if_pos rfl) (Ev.now _))
    by_cases c2 : 0 < x.f2.length
    · rw [if_pos (.inl c2)] at e0
      rw [e0]
      exact Ev.congr (fun k => if_pos (by omega)) bad
    refine Ev.congr (fun k => if_neg (by omega)) ?_
    by_cases c7 : x.f0 < 1
    · rw [if_pos (.inr (.inl c7))] at e0
      rw [e0]
      exact Ev.congr (fun k => if_pos c7) bad
    refine Ev.congr (fun k => if_neg c7) ?_
    by_cases c8 : 11 < x.f0
    · rw [if_pos (.inr (.inr c8))] at e0
      rw [e0, decide_eq_true (show x.f0 > 11 from c8)]
      exact bad
    rw [decide_eq_false (show ¬ x.f0 > 11 from c8)]
    rw [if_neg (by omega)] at e0
    refine Ev.step (fun k => round false k) (Ev.congr (f := fun _ => some (zbK (toN x) d p l)) (fun k => ?_) (Ev.now _))
    rw [if_neg (by decide), e0]
    simp only [two]
    repeat' split
    all_goals first | rfl | (congr 1; rw [Bool.eq_iff_iff, beq_iff_eq, decide_eq_true_iff])
def zdc (d p l w : Int) : List SN → Int → Int
  | [], _ => w
  | x :: r, i => if i = w ∨ zbK x d p l = false then i else zdc d p l w r (i + 1)
def zdD (c : List SN) (d p l : Int) : Int := zdc d p l (zch arN c) c 0
theorem ziL (c : List SN) (hc : ∀ x ∈ c, Nw x) (hl : c.length ≤ 1000000) (d p l : Int) : Ev (fun k => za7.f k c d p l) (zdD c d p l) := by
  refine Ev.bind (zgd c hl) ?_
  unfold zdD
  generalize zch arN c = w
  have go : ∀ (r : List SN) (i : Nat), c.drop i = r → Ev (fun k => za7.l0 k d p l w c (c.length : Int) (i : Int)) (zdc d p l w r (i : Int)) := by
    intro r
    induction r with
    | nil =>
      intro i hd
      have : c.length ≤ i := by simpa using hd
      refine Ev.step (f := fun _ => some w) (fun k => ?_) (Ev.now _)
      simp only [za7.l0]
      rw [if_neg (by omega)]
    | cons a r ih =>
      intro i hd
      obtain ⟨hlt, ha, hr⟩ := zbw hd
      unfold zdc
      by_cases c1 : (i : Int) = w
      · rw [if_pos (.inl c1)]
        refine Ev.step (f := fun _ => some (i : Int)) (fun k => ?_) (Ev.now _)
        simp only [za7.l0]
        rw [if_pos (by omega), if_pos (by omega), if_pos (by omega), if_pos c1]
      · refine Ev.step (f := fun k => (zbi.f k a.f0 a.f1 a.f2 d p l).bind fun t => if t = true then za7.l0 k d p l w c (c.length : Int) (wrap64 ((i : Int) + 1)) else some (i : Int)) (fun k => ?_) (Ev.bind (zjg a (hc a (by rw [← ha]; exact List.getElem_mem _)) d p l) ?_)
        · simp only [za7.l0]
          rw [if_pos (by omega), if_pos (by omega), if_pos (by omega), if_neg c1, rdS hlt, ha]
        · cases hn : zbK a d p l with
          | false => rw [if_pos (.inr rfl)]; exact Ev.congr (fun k => if_neg (by decide)) (Ev.now _)
          | true =>
            rw [if_neg (by simp [c1])]
            refine Ev.congr (fun k => ?_) (ih (i + 1) hr)
            rw [if_pos rfl, zbh (by omega) (by omega)]
            rfl
  exact go c 0 rfl
theorem zjr (c : List RN) (hc : ∀ x ∈ c, Nw (toN x)) (hl : c.length ≤ 1000000) (d p l : Int) : Ev (fun k => zaA.f k c d p l) (zdD (c.map toN) d p l) := by
  refine Ev.bind (zgQ c hl) ?_
  unfold zdD
  generalize zch arN (c.map toN) = w
  have go : ∀ (r : List RN) (i : Nat), c.drop i = r → Ev (fun k => zaA.l0 k c d p l w (i : Int)) (zdc d p l w (r.map toN) (i : Int)) := by
    intro r
    induction r with
    | nil =>
      intro i hd
      have : c.length ≤ i := by simpa using hd
      refine Ev.step (f := fun _ => some w) (fun k => ?_) (Ev.now _)
      simp only [zaA.l0]
      rw [if_neg (by omega)]
    | cons a r ih =>
      intro i hd
      obtain ⟨hlt, ha, hr⟩ := zbw hd
      rw [List.map_cons]
      unfold zdc
      by_cases c1 : (i : Int) = w
      · rw [if_pos (.inl c1)]
        refine Ev.step (f := fun _ => some (i : Int)) (fun k => ?_) (Ev.now _)
        simp only [zaA.l0]
        rw [if_pos (by omega), if_pos c1]
      · refine Ev.step (f := fun k => (zay.f k a.f0 a.f1 a.f2 d p l).bind fun t => if t = true then zaA.l0 k c d p l w (wrap64 ((i : Int) + 1)) else some (i : Int)) (fun k => ?_) (Ev.bind (zjU a (hc a (by rw [← ha]; exact List.getElem_mem _)) d p l) ?_)
        · simp only [zaA.l0]
          rw [if_pos (by omega), if_neg c1, if_pos (by omega), rdR hlt, ha]
        · cases hn : zbK (toN a) d p l with
          | false => rw [if_pos (.inr rfl)]; exact Ev.congr (fun k => if_neg (by decide)) (Ev.now _)
          | true =>
            rw [if_neg (by simp [c1])]
            refine Ev.congr (fun k => ?_) (ih (i + 1) hr)
            rw [if_pos rfl, zbh (by omega) (by omega)]
            rfl
  exact go c 0 rfl
def zb3 (s : ByteArray) : Bool := zcB 2 (toL s) && decide (¬ (toL s = [116] ∨ toL s = [121] ∨ toL s = [112] ∨ toL s = [108, 101, 116]))
theorem zjB (s : ByteArray) (hs : s.size ≤ 4000) : zcf.f s = some (zb3 s) := by
  unfold zcf.f zb3
  rw [toList_eq]
  by_cases h1 : toL s = [116]
  · rw [if_pos h1, decide_eq_false (by simp [h1]), Bool.and_false]
  by_cases h2 : toL s = [121]
  · rw [if_neg h1, if_pos h2, decide_eq_false (by simp [h2]), Bool.and_false]
  by_cases h3 : toL s = [112]
  · rw [if_neg h1, if_neg h2, if_pos h3, decide_eq_false (by simp [h3]), Bool.and_false]
  by_cases h4 : toL s = [108, 101, 116]
  · rw [if_neg h1, if_neg h2, if_neg h3, if_pos h4, decide_eq_false (by simp [h4]), Bool.and_false]
  rw [decide_eq_true (by simp [h1, h2, h3, h4]), Bool.and_true, if_neg h1, if_neg h2, if_neg h3, if_neg h4, right_eq 2 s 0 hs]
  rfl
theorem zjF (s : ByteArray) (hs : s.size ≤ 4000) : zbT.f s = some (zb3 s) := by
  unfold zbT.f zb3
  rw [zi2 2 s 0 hs, toList_eq, Option.bind_some]
  cases zcB 2 (toL s) with
  | false => rfl
  | true =>
    rw [if_pos rfl, Bool.true_and]
    by_cases h1 : toL s = [116]
    · rw [if_pos h1, decide_eq_false (by simp [h1])]
    by_cases h2 : toL s = [121]
    · rw [if_neg h1, if_pos h2, decide_eq_false (by simp [h2])]
    by_cases h3 : toL s = [112]
    · rw [if_neg h1, if_neg h2, if_pos h3, decide_eq_false (by simp [h3])]
    rw [if_neg h1, if_neg h2, if_neg h3]
    congr 1
    rw [Bool.eq_iff_iff, decide_eq_true_iff]
    simp [h1, h2, h3]
end Go.Proofs.YtbicjgaadknmfaaDoor.M
end
