import Derived.Test.YtbicjgaadknmfaaDoorQ1
import Derived.Laws.AppendOwn
import Derived.Deep.RegionLaw
import Derived.Shelf.Strings.Builder1
import Derived.Shelf.Strings.Builder2
import Derived.Shelf.Strings.OnBuilder
import Derived.Shelf.Strings.Trim
import Derived.Shelf.Small.Utf8
import Derived.Shelf.Small.Strs
import Derived.Shelf.Strings.BuilderF
import Derived.Shelf.Strings.BuilderK
import Derived.Shelf.Utf8.RuneCount
import Derived.Shelf.Strings.Builder2Cap
import Derived.Shelf.Strconv.Atoi
import Derived.Shelf.Strconv.Itoa0
import Derived.Shelf.Strconv.Itoa1
import Derived.Shelf.LaysM
import Derived.Shelf.Strconv.Itoa2
import Derived.Shelf.Strconv.Itoa3
import Derived.Shelf.Strconv.AtoiErrFast
import Derived.Shelf.Strconv.ParseIntEmpty
import Derived.Shelf.Strconv.AtoiFail
import Derived.Shelf.Strconv.Clone
import Derived.Shelf.Strconv.SyntaxError
import Derived.Shelf.LaysC
import Derived.Shelf.Strconv.ToError
import Derived.Shelf.Strconv.Lower
import Derived.Shelf.Strconv.ParseUint10
import Derived.Shelf.Strconv.ParseUint10Empty
import Derived.Shelf.Strconv.ParseUint10Any
import Derived.Shelf.Strconv.ParseInt10
import Derived.Shelf.Strconv.AtoiLong
import Derived.Shelf.Strconv.AtoiInnerAll
import Derived.Shelf.Strconv.RangeError
import Derived.Shelf.Strconv.ToErrorRange
import Derived.Shelf.Strconv.AtoiAll
import Derived.Shelf.Strconv.ErrVarAll
import Derived.Shelf.Strings.Search1
import Derived.Shelf.Strings.Search2
import Derived.Shelf.Strings.Search3
import Derived.Shelf.Strings.Cut
import Derived.Shelf.Strings.Count
import Derived.Shelf.Strings.Shaped
import Derived.Shelf.Strings.Split
import Derived.Shelf.Strings.SplitShaped
import Derived.Shelf.Unicode.Decode
import Derived.Shelf.Strings.Runes
import Derived.Shelf.Strings.RuneCount
import Derived.Shelf.Strings.AsciiSet
import Derived.Shelf.Strings.Explode
import Derived.Shelf.Unicode.DecodeSlow
import Derived.Shelf.Unicode.DecodeAny
import Derived.Shelf.Strings.BuilderCap
import Derived.Test.YtbicjgaadknmfaaDoorProg
import Derived.Test.YtbicjgaadknmfaaDoorQ0
import Derived.Laws.RangeString
import Derived.Laws.RangeAny
import Derived.Lib.Bytealg
import Derived.RegionTactic
import Derived.Laws.Strings3
section
namespace Go.Proofs.YtbicjgaadknmfaaDoor.P
open Go.RowKit Go.Proofs.YtbicjgaadknmfaaDoorW.PrintWords Go.Proofs.YtbicjgaadknmfaaDoorW.PrintLast Go.Proofs.YtbicjgaadknmfaaDoorW.PrintMore
attribute [local go_sem] zcu zcp zcl zck zbZ zbX zb9 zb7
set_option linter.unusedVariables false
set_option linter.unusedSimpArgs false
def zdJ.f (a0 : Int) (a1 : Int) (a2 : Int) : Option (Int × Int × Bool) := if a0 ≥ a2 then (some (0, 0, false)) else (if (IntKind.u64.wrap (a2)) = 0 then (none) else (some ((IntKind.u64.wrap (Int.tdiv (Go.bits .or .u64 (IntKind.u64.wrap ((IntKind.u64.wrap (a0)) * 4294967296)) (IntKind.u64.wrap (a1))) (IntKind.u64.wrap (a2)))) % 4294967296, (Int.tmod (Go.bits .or .u64 (IntKind.u64.wrap ((IntKind.u64.wrap (a0)) * 4294967296)) (IntKind.u64.wrap (a1))) (IntKind.u64.wrap (a2))) % 4294967296, true)))
set_option maxHeartbeats 8000000 in
set_option maxRecDepth 100000 in
theorem zdJ.calls (a0 : Int) (a1 : Int) (a2 : Int) (r1 : Int) (r2 : Int) (r3 : Bool) (w : World) (h : zdJ.f a0 a1 a2 = some (r1, r2, r3)) :
  Calls Tryd.prog 110 #[.int .u32 a0, .int .u32 a1, .int .u32 a2] w fun e w' => e = .returned (.tuple #[.int .u32 r1, .int .u32 r2, .bool r3]) ∧ zar w w' := by
 have H : (if a0 ≥ a2 then (some (0, 0, false)) else (if (IntKind.u64.wrap (a2)) = 0 then (none) else (some ((IntKind.u64.wrap (Int.tdiv (Go.bits .or .u64 (IntKind.u64.wrap ((IntKind.u64.wrap (a0)) * 4294967296)) (IntKind.u64.wrap (a1))) (IntKind.u64.wrap (a2)))) % 4294967296, (Int.tmod (Go.bits .or .u64 (IntKind.u64.wrap ((IntKind.u64.wrap (a0)) * 4294967296)) (IntKind.u64.wrap (a1))) (IntKind.u64.wrap (a2))) % 4294967296, true)))) = some (r1, r2, r3) := h
 clear h
 by_cases c4 : a0 ≥ a2
 ·rw [if_pos c4] at H
  have c4b0 : decide (a2 ≤ a0) = true := decide_eq_true c4
  clear c4
  simp only [Option.some.injEq, Prod.mk.injEq] at H
  obtain ⟨rfl, rfl, rfl⟩ := H
  go_enter Tryd.func110, Tryd.ntmps110
  go_wp2
  repeat (go_quiet (fail); try go_wp2)
  go_ret3
  exact ⟨by first | rfl | (simp; done) | (simp [*]; done), by repeat (first | exact zar.refl _ | apply zar.step)⟩
 ·rw [if_neg c4] at H
  have c4b0 : decide (a2 ≤ a0) = false := decide_eq_false c4
  clear c4
  by_cases c5 : (IntKind.u64.wrap (a2)) = 0
  ·rw [if_pos c5] at H
   exact absurd H (by simp)
  ·rw [if_neg c5] at H
   have c5b0 : ((IntKind.u64.wrap (a2)) == 0) = false := beq_eq_false_iff_ne.mpr c5
   have c5b1 : ((IntKind.u64.wrap (a2)) != 0) = true := bne_iff_ne.mpr c5
   simp only [Option.some.injEq, Prod.mk.injEq] at H
   obtain ⟨rfl, rfl, rfl⟩ := H
   go_enter Tryd.func110, Tryd.ntmps110
   go_wp2
   repeat (go_quiet (fail); try go_wp2)
   go_ret3
   exact ⟨by first | rfl | (simp; done) | (simp [*]; done), by repeat (first | exact zar.refl _ | apply zar.step)⟩
def zbp.l0 : Nat → List Int → Int → List Int → Int → Int → Option (List Int × Int × Bool)
 | 0, _, _, _, _, _ => none
 | k + 1, x0, x1, x4, x5, x7 => if x7 ≥ 0 then (if 0 ≤ x7 then (if x7 < (x0.length : Int) then ((zdJ.f x5 (rd x0 x7) x1).bind fun bt105 => (if x7 < (x4.length : Int) then (zbp.l0 k x0 x1 (x4.set (x7 : Int).toNat bt105.1) bt105.2.1 (wrap64 (x7 - 1))) else (none))) else (none)) else (none)) else ((zcL.f x4).bind fun t109 => (some (t109, x5, true)))
def zbp.f (k : Nat) (l0 : List Int) (a1 : Int) : Option (List Int × Int × Bool) := if a1 = 0 then (some (([] : List Int), 0, false)) else (if 0 ≤ (l0.length : Int) then (if ((l0.length : Int) : Int).toNat ≤ 70368744177664 then (zbp.l0 k l0 a1 (List.replicate ((l0.length : Int) : Int).toNat 0) 0 (wrap64 ((l0.length : Int) - 1))) else (none)) else (none))
theorem zbp.zaV : ∀ k, (∀ y0 y1 y2 y3 y4, LeO (zbp.l0 k y0 y1 y2 y3 y4) (zbp.l0 (k + 1) y0 y1 y2 y3 y4))
 | 0 => fun _ _ _ _ _ r h => by simp [zbp.l0] at h
 | k + 1 => by
  have ih0 := zbp.zaV k
  ·intro y0 y1 y2 y3 y4
   unfold zbp.l0
   repeat' first
   | (with_reducible exact ih0 _ _ _ _ _)
   | (with_reducible exact LeO.refl _)
   | (with_reducible exact LeO.none _)
   | (with_reducible refine LeO.ite ?_ ?_)
   | (with_reducible refine LeO.bind ?_ (fun _ => ?_))
   | exact ih0 _ _ _ _ _
   | exact LeO.none _
   | refine LeO.ite ?_ ?_
   | refine LeO.bind ?_ (fun _ => ?_)
theorem zbp.mono : ∀ a0 a1 k, LeO (zbp.f k a0 a1) (zbp.f (k + 1) a0 a1) := by
 intro a0 a1 k
 have ih0 := zbp.zaV k
 unfold zbp.f
 repeat' first
   | (with_reducible exact ih0 _ _ _ _ _)
   | (with_reducible exact LeO.refl _)
   | (with_reducible exact LeO.none _)
   | (with_reducible refine LeO.ite ?_ ?_)
   | (with_reducible refine LeO.bind ?_ (fun _ => ?_))
   | exact ih0 _ _ _ _ _
   | exact LeO.none _
   | refine LeO.ite ?_ ?_
   | refine LeO.bind ?_ (fun _ => ?_)
set_option maxHeartbeats 8000000 in
set_option maxRecDepth 100000 in
theorem zbp.calls (k : Nat) (A0 : Option Addr) (c0 : Nat) (l0 : List Int) (a1 : Int) (r1 : List Int) (r2 : Int) (r3 : Bool) (w : World) (hr0 : Kd.C (Kd.int .u32) w A0 l0.length l0) (hc0 : l0.length ≤ c0) (h : zbp.f k l0 a1 = some (r1, r2, r3)) :
  Calls Tryd.prog 66 #[.slice A0 l0.length c0, .int .u32 a1] w fun e w' => ∃ v0_ : Value, e = .returned (.tuple #[v0_, .int .u32 r2, .bool r3]) ∧ Kd.R (Kd.int .u32) 101 w' w.heap.size (fun _ => True) v0_ r1 ∧ Below w.heap.size w w' := by
 have HR0 := zaa.mk hr0
 have HC0 := zaa.mk hc0
 clear hr0 hc0
 have HB := zaa.mk (Below.refl w.heap.size w)
 have H : (if a1 = 0 then (some (([] : List Int), 0, false)) else (if 0 ≤ (l0.length : Int) then (if ((l0.length : Int) : Int).toNat ≤ 70368744177664 then (zbp.l0 k l0 a1 (List.replicate ((l0.length : Int) : Int).toNat 0) 0 (wrap64 ((l0.length : Int) - 1))) else (none)) else (none))) = some (r1, r2, r3) := h
 clear h
 by_cases c3 : a1 = 0
 ·rw [if_pos c3] at H
  have c3b0 : (a1 == 0) = true := beq_iff_eq.mpr c3
  have c3b1 : (a1 != 0) = false := bne_eq_false_iff_eq.mpr c3
  clear c3
  simp only [Option.some.injEq, Prod.mk.injEq] at H
  obtain ⟨rfl, rfl, rfl⟩ := H
  go_enter Tryd.func66, Tryd.ntmps66
  go_wp2
  go_ret3
  exact ⟨_, by first | rfl | (simp [zam, zan] <;> rfl) | (simp [*, zam, zan] <;> rfl), by first | exact Kd.zdg _ _ _ _ _ | exact Kd.zet _ _ _ _ _ | exact Kd.zer _ _ _ _ _ | exact Kd.zew _ _ _ _ _ | exact Kd.zeu _ _ _ _ _, by repeat (first | (with_reducible first | exact HB.out | apply zac | apply zab | apply zad) | exact HB.out)⟩
 ·rw [if_neg c3] at H
  have c3b0 : (a1 == 0) = false := beq_eq_false_iff_ne.mpr c3
  have c3b1 : (a1 != 0) = true := bne_iff_ne.mpr c3
  by_cases c4 : 0 ≤ (l0.length : Int)
  ·rw [if_pos c4] at H
   have c4b0 := eq_true c4
   have c4b1 : decide (0 ≤ (l0.length : Int)) = true := decide_eq_true c4
   clear c4
   by_cases c5 : ((l0.length : Int) : Int).toNat ≤ 70368744177664
   ·rw [if_pos c5] at H
    have c5b0 := eq_true c5
    have c5b1 : decide (((l0.length : Int) : Int).toNat ≤ 70368744177664) = true := decide_eq_true c5
    clear c5
    obtain ⟨y101, hy101⟩ : ∃ y_ : List Int, y_ = (List.replicate ((l0.length : Int) : Int).toNat 0) := ⟨_, rfl⟩
    replace H : (zbp.l0 k l0 a1 y101 0 (wrap64 ((l0.length : Int) - 1))) = some (r1, r2, r3) := by first | (rw [hy101]; with_reducible exact H) | (have H2_ := (Option.bind_some _ _).symm.trans H; rw [hy101]; with_reducible exact H2_) | (have H2_ := (Option.bind_some _ _).symm.trans H; with_reducible exact H2_) | with_reducible exact H | (rw [hy101]; exact H) | exact H
    have Ny101 := zaa.mk hy101
    clear hy101
    have H' := zaa.mk H
    clear H
    go_enter Tryd.func66, Tryd.ntmps66
    go_wp2_with (first | ((with_reducible refine zba (N := 12) rfl ?_); refine Kd.zlv (Kd.int .u32) _ 101 rfl (N := 12) rfl 23 _ _ rfl (l0.length : Int) rfl rfl Tryd.underlying23 (.int .u32 0) 4 zea rfl (by decide) (by omega) 0 (ok := fun _ => True) (okp := fun _ => True) rfl (fun _ hk => hk) trivial (of_decide_eq_true (by first | (with_reducible assumption) | assumption)) (Nat.le_trans (Nat.mul_le_mul_right _ (of_decide_eq_true (by first | (with_reducible assumption) | assumption) : (l0.length : Int).toNat ≤ 70368744177664)) (by omega)) (Below.refl _ _) (Nat.le_refl _) ?_; intro v102 w6 ho7 hb hg_ hnew_; clear hg_ hnew_; (first | rw [← Ny101.out] at ho7 | (simp only [Int.reduceToNat] at ho7; rw [← Ny101.out] at ho7)); have n0_ := zaa.mk (Kd.zcA ho7 (zas (by repeat (first | (with_reducible first | exact HB.out | apply zac | apply zab | apply zad) | exact HB.out)))); have n1_ := zaa.mk (zat (by repeat (first | (with_reducible first | exact HB.out | apply zac | apply zab | apply zad) | exact HB.out)) hb); clear HB; have HO103 := n0_; have HB := n1_; clear n0_ n1_; clear hb ho7))
    go_loopg [5, 7] k (fun kq v5 v7 w' => ∃ (x4_1 : List Int) (x5_1 : Int) (x7_1 : Int), v5 = .int .u32 x5_1 ∧ v7 = .int .i64 x7_1 ∧ zaa (zbp.l0 kq l0 a1 x4_1 x5_1 x7_1 = some (r1, r2, r3)) ∧ zaa (kq ≤ k) ∧ zaa (Kd.R (Kd.int .u32) 101 w' w.heap.size (fun _ => True) v102 x4_1) ∧ zaa (Below w.heap.size w w'))
    case atStart => exact ⟨(y101), (0), (wrap64 ((l0.length : Int) - 1)), (by first | rfl | (simp; done) | (simp [*]; done)), (by first | rfl | (simp; done) | (simp [*]; done)), H', ⟨Nat.le_refl _⟩, ⟨by (with_reducible repeat (first | apply Kd.zbo | apply Kd.zbl | apply Kd.zbz)); exact HO103.out⟩, ⟨by repeat (first | (with_reducible first | exact HB.out | apply zac | apply zab | apply zad) | exact HB.out)⟩⟩
    case round =>
     clear H'
     try clear p2
     try clear c3
     try clear c3b0
     try clear c3b1
     try clear c4
     try clear c4b0
     try clear c4b1
     try clear c5
     try clear c5b0
     try clear c5b1
     try clear c6
     try clear p6
     obtain ⟨x4_1, x5_1, x7_1, rfl, rfl, HA, HK1, HO_4, HB⟩ := hrel
     cases gk with
     | zero => exact absurd HA.out (by simp [zbp.l0])
     | succ k1 =>
      have H := HA.out
      clear HA
      simp only [zbp.l0] at H
      by_cases c8 : x7_1 ≥ 0
      ·rw [if_pos c8] at H
       have c8b0 : decide (0 ≤ x7_1) = true := decide_eq_true c8
       clear c8
       by_cases c9 : 0 ≤ x7_1
       ·rw [if_pos c9] at H
        have c9b0 : decide (0 ≤ x7_1) = true := decide_eq_true c9
        clear c9
        by_cases c10 : x7_1 < (l0.length : Int)
        ·rw [if_pos c10] at H
         have c10b0 : decide (x7_1 < (l0.length : Int)) = true := decide_eq_true c10
         clear c10
         replace H := Option.bind_eq_some_iff.mp H
         obtain ⟨⟨t105, t106, t107⟩, A110, H⟩ := H
         replace H : (if x7_1 < (x4_1.length : Int) then (zbp.l0 k1 l0 a1 (x4_1.set (x7_1 : Int).toNat t105) t106 (wrap64 (x7_1 - 1))) else (none)) = some (r1, r2, r3) := H
         have A11 := zaa.mk A110
         clear A110
         by_cases c12 : x7_1 < (x4_1.length : Int)
         ·rw [if_pos c12] at H
          have c12b0 : decide (x7_1 < (x4_1.length : Int)) = true := decide_eq_true c12
          clear c12
          obtain ⟨y108, hy108⟩ : ∃ y_ : List Int, y_ = (x4_1.set (x7_1 : Int).toNat t105) := ⟨_, rfl⟩
          replace H : (zbp.l0 k1 l0 a1 y108 t106 (wrap64 (x7_1 - 1))) = some (r1, r2, r3) := by first | (rw [hy108]; with_reducible exact H) | (have H2_ := (Option.bind_some _ _).symm.trans H; rw [hy108]; with_reducible exact H2_) | (have H2_ := (Option.bind_some _ _).symm.trans H; with_reducible exact H2_) | with_reducible exact H | (rw [hy108]; exact H) | exact H
          have Ny108 := zaa.mk hy108
          clear hy108
          have H' := zaa.mk H
          clear H
          have p104 : 0 ≤ (x7_1 : Int) := of_decide_eq_true (by first | (with_reducible assumption) | assumption)
          have q104 : x7_1 < (l0.length : Int) := of_decide_eq_true (by first | (with_reducible assumption) | assumption)
          obtain ⟨ad104, e104, hx104_0⟩ := Kd.zdi HR0.out x7_1 p104 q104
          cases e104
          replace hx104_0 := (HB.out.cell (World.block_lt_of_cell? w _ hx104_0)).trans hx104_0
          replace p104 := eq_true p104
          replace q104 := eq_true q104
          go_wp2_with (first | ((with_reducible refine zaI (f := 110) rfl ?_); refine za5 (some 29) rfl rfl Tryd.func110 (by kernel_rfl) rfl #[.int .u32 x5_1, .int .u32 (rd l0 x7_1), .int .u32 a1] rfl (by (try simp only [List.map_toArray, List.map_cons, List.map_nil]); first | done | rfl | (simp only [List.length_drop, List.length_take]; rfl)) ?_; (with_reducible refine (zdJ.calls x5_1 (rd l0 x7_1) a1 t105 t106 t107 _ A11.out).mono ?_); rintro e w' ⟨rfl, ⟨nd, rfl⟩⟩; refine ⟨_, rfl, ?_⟩; (try (rw [ziP wr]; generalize hq_ : World.drewN wr _ = wr; have n0_ : zaa (Kd.R (Kd.int .u32) 101 wr w.heap.size (fun _ => True) v102 x4_1) := ⟨by rw [← hq_]; exact (by (with_reducible repeat (first | apply Kd.zbo | apply Kd.zbl | apply Kd.zbz)); exact HO_4.out)⟩; have n1_ : zaa (Below w.heap.size w wr) := ⟨by rw [← hq_]; exact (by repeat (first | (with_reducible first | exact HB.out | apply zac | apply zab | apply zad) | exact HB.out))⟩; clear HO_4 HB hq_; have HO_4 := n0_; have HB := n1_; clear n0_ n1_)); have p13 : 0 ≤ (x7_1 : Int) := of_decide_eq_true (by first | (with_reducible assumption) | assumption); have q13 : (x7_1 : Int) < ((x4_1.length : Int) : Int) := of_decide_eq_true (by first | (with_reducible assumption) | assumption); obtain ⟨go13, co13, eo13, gb13, gl13, cl13, HG13⟩ := Kd.zjv HO_4.out (by omega); (first | cases eo13 | (injection eo13 with ea_ en_ ec_; (first | subst ea_ | (injection ea_ with ea_; subst ea_)); subst ec_; clear en_)); have GB13 := zaa.mk gb13; have GG13 := zaa.mk HG13; clear gb13 gl13 HG13; obtain ⟨hx13_0, hf13_0⟩ := Kd.zgC 0 HO_4.out (x7_1 : Int) p13 q13; replace p13 := eq_true p13; replace q13 := eq_true q13; obtain ⟨hy14_, hz14_⟩ := Kd.zgC 0 HO_4.out (x7_1 : Int) (of_decide_eq_true (by first | (with_reducible assumption) | assumption)) (of_decide_eq_true (by first | (with_reducible assumption) | assumption)); have HP14 := Kd.zi4 HO_4.out (x7_1 : Int) t105) | ((with_reducible refine zge (t := 101) (p := 33) rfl ?_); refine zfT (t := 101) (p := 33) (v := ?vo_w15) (w1 := (wr.setCell ⟨go13, (x7_1 : Int).toNat, none⟩ (.int .u32 t105))) ?hg ?ho ?hn ?hr ?_; (case ho => rfl); (case hg => rfl); (case hn => rfl); (case hr => first | (go_simp; done) | (go_simp; rfl)); intro w15 hw; have hg : wr.grownBy w15 (some go13) := (by rw [hw]; exact HP14.2); have hp_ : Kd.R (Kd.int .u32) 101 w15 w.heap.size (fun _ => True) (.slice (some ⟨go13, 0, none⟩) x4_1.length co13) y108 := (by rw [hw, Ny108.out]; exact HP14.1); clear HP14; have n0_ := zaa.mk (hp_); have n1_ := zaa.mk ((by rw [hw]; exact zah (HB.out) GB13.out : Below w.heap.size w w15)); clear HO_4; clear HB; have HO_4 := n0_; have HB := n1_; clear n0_ n1_; clear hg hw hp_))
          go_roundg k1
          case measure => have := HK1.out; omega
          case rel => exact ⟨(y108), (t106), (wrap64 (x7_1 - 1)), (by first | rfl | (simp; done) | (simp [*]; done)), (by first | rfl | (simp; done) | (simp [*]; done)), H', ⟨by have := HK1.out; omega⟩, ⟨by (with_reducible repeat (first | apply Kd.zbo | apply Kd.zbl | apply Kd.zbz)); exact HO_4.out⟩, ⟨by repeat (first | (with_reducible first | exact HB.out | apply zac | apply zab | apply zad) | exact HB.out)⟩⟩
         ·rw [if_neg c12] at H
          exact absurd H (by simp)
        ·rw [if_neg c10] at H
         exact absurd H (by simp)
       ·rw [if_neg c9] at H
        exact absurd H (by simp)
      ·rw [if_neg c8] at H
       have c8b0 : decide (0 ≤ x7_1) = false := decide_eq_false c8
       clear c8
       replace H := Option.bind_eq_some_iff.mp H
       obtain ⟨t109, A160, H⟩ := H
       replace H : (some (t109, x5_1, true)) = some (r1, r2, r3) := H
       have A16 := zaa.mk A160
       clear A160
       simp only [Option.some.injEq, Prod.mk.injEq] at H
       obtain ⟨rfl, rfl, rfl⟩ := H
       obtain ⟨Ao17, co17, eo17⟩ := Kd.zbO HO_4.out
       subst eo17
       go_wp2_with (first | ((with_reducible refine zaI (f := 108) rfl ?_); refine za5 (some 35) rfl rfl Tryd.func108 (by kernel_rfl) rfl #[.slice Ao17 x4_1.length co17] rfl (by (try simp only [List.map_toArray, List.map_cons, List.map_nil]); first | done | rfl | (simp only [List.length_drop, List.length_take]; rfl)) ?_; (with_reducible refine (zcL.calls _ _ x4_1 t109 _ ?side1 ?side2 A16.out).mono ?_); (case side1 => repeat (first | exact (Kd.zbD HO_4.out).2.2 | (with_reducible refine Kd.zaU ?_ _) | (with_reducible refine Kd.zaY ?_ _) | (with_reducible refine Kd.za3 ?_))); (case side2 => exact (Kd.zbD HO_4.out).2.1); rintro e w18 ⟨v110, rfl, ho0, hb⟩; refine ⟨_, rfl, ?_⟩; have n0_ := zaa.mk (Kd.zeN (by (with_reducible repeat (first | apply Kd.zbo | apply Kd.zbl | apply Kd.zbz)); exact HO_4.out) (Kd.zgu ho0) hb); have n1_ := zaa.mk (Kd.zcA (Kd.ziV ho0 (Kd.R_lt (by (with_reducible repeat (first | apply Kd.zbo | apply Kd.zbl | apply Kd.zbz)); exact HO_4.out))) (zas (by repeat (first | (with_reducible first | exact HB.out | apply zac | apply zab | apply zad) | exact HB.out)))); have n2_ := zaa.mk (zat (by repeat (first | (with_reducible first | exact HB.out | apply zac | apply zab | apply zad) | exact HB.out)) hb); clear HO_4; clear HB; have HO_4 := n0_; have HO111 := n1_; have HB := n2_; clear n0_ n1_ n2_; (try clear hb); (try clear hb2); (try clear hk); (try clear hi); (try clear ho0)))
       go_ret3
       exact ⟨_, by first | rfl | (simp [zam, zan] <;> rfl) | (simp [*, zam, zan] <;> rfl), by (with_reducible repeat (first | apply Kd.zbo | apply Kd.zbl | apply Kd.zbz)); exact Kd.zb0 HO111.out (fun _ hk => trivial), by repeat (first | (with_reducible first | exact HB.out | apply zac | apply zab | apply zad) | exact HB.out)⟩
   ·rw [if_neg c5] at H
    exact absurd H (by simp)
  ·rw [if_neg c4] at H
   exact absurd H (by simp)
def strings_trimLeftByte.l0 : Nat → ByteArray → Int → Option (ByteArray)
 | 0, _, _ => none
 | k + 1, x0, x1 => if (x0.size : Int) > 0 then (if 0 < (x0.size : Int) then (if (bt x0 0) = x1 then (if 1 ≤ (x0.size : Int) then (strings_trimLeftByte.l0 k (x0.extract 1 x0.size) x1) else (none)) else (some x0)) else (none)) else (some x0)
def strings_trimLeftByte.f (k : Nat) (a0 : ByteArray) (a1 : Int) : Option (ByteArray) := strings_trimLeftByte.l0 k a0 a1
theorem strings_trimLeftByte.zaV : ∀ k, (∀ y0 y1, LeO (strings_trimLeftByte.l0 k y0 y1) (strings_trimLeftByte.l0 (k + 1) y0 y1))
 | 0 => fun _ _ r h => by simp [strings_trimLeftByte.l0] at h
 | k + 1 => by
  have ih0 := strings_trimLeftByte.zaV k
  ·intro y0 y1
   unfold strings_trimLeftByte.l0
   repeat' first
   | (with_reducible exact ih0 _ _)
   | (with_reducible exact LeO.refl _)
   | (with_reducible exact LeO.none _)
   | (with_reducible refine LeO.ite ?_ ?_)
   | (with_reducible refine LeO.bind ?_ (fun _ => ?_))
   | exact ih0 _ _
   | exact LeO.none _
   | refine LeO.ite ?_ ?_
   | refine LeO.bind ?_ (fun _ => ?_)
theorem strings_trimLeftByte.mono : ∀ a0 a1 k, LeO (strings_trimLeftByte.f k a0 a1) (strings_trimLeftByte.f (k + 1) a0 a1) := by
 intro a0 a1 k
 have ih0 := strings_trimLeftByte.zaV k
 unfold strings_trimLeftByte.f
 repeat' first
   | (with_reducible exact ih0 _ _)
   | (with_reducible exact LeO.refl _)
   | (with_reducible exact LeO.none _)
   | (with_reducible refine LeO.ite ?_ ?_)
   | (with_reducible refine LeO.bind ?_ (fun _ => ?_))
   | exact ih0 _ _
   | exact LeO.none _
   | refine LeO.ite ?_ ?_
   | refine LeO.bind ?_ (fun _ => ?_)
set_option maxHeartbeats 8000000 in
set_option maxRecDepth 100000 in
theorem strings_trimLeftByte.calls (k : Nat) (a0 : ByteArray) (a1 : Int) (r : ByteArray) (w : World) (h : strings_trimLeftByte.f k a0 a1 = some r) :
  Calls Tryd.prog 112 #[.string a0, .int .u8 a1] w fun e w' => e = .returned (.string r) ∧ zar w w' := by
 have H : (strings_trimLeftByte.l0 k a0 a1) = some r := h
 clear h
 have H' := zaa.mk H
 clear H
 go_enter Tryd.func112, Tryd.ntmps112
 go_wp2
 go_loopg [0] k (fun kq v0 w' => ∃ (x0_1 : ByteArray), v0 = .string x0_1 ∧ zaa (strings_trimLeftByte.l0 kq x0_1 a1 = some r) ∧ zaa (kq ≤ k) ∧ zar w w')
 case atStart => exact ⟨(a0), (by first | rfl | (simp; done) | (simp [*]; done)), H', ⟨Nat.le_refl _⟩, by repeat (first | exact zar.refl _ | apply zar.step)⟩
 case round =>
  clear H'
  try clear c1
  try clear p2
  obtain ⟨x0_1, rfl, HA, HK1, ⟨m1, rfl⟩⟩ := hrel
  cases gk with
  | zero => exact absurd HA.out (by simp [strings_trimLeftByte.l0])
  | succ k1 =>
   have H := HA.out
   clear HA
   simp only [strings_trimLeftByte.l0] at H
   by_cases c3 : (x0_1.size : Int) > 0
   ·rw [if_pos c3] at H
    have c3b0 : decide (0 < (x0_1.size : Int)) = true := decide_eq_true c3
    have c3b1 : decide (0 < x0_1.size) = true := decide_eq_true (by omega)
    clear c3
    by_cases c4 : 0 < (x0_1.size : Int)
    ·rw [if_pos c4] at H
     have c4b0 : decide (0 < (x0_1.size : Int)) = true := decide_eq_true c4
     have c4b1 : decide (0 < x0_1.size) = true := decide_eq_true (by omega)
     clear c4
     by_cases c6 : (bt x0_1 0) = a1
     ·rw [if_pos c6] at H
      have c6b0 : ((bt x0_1 0) == a1) = true := beq_iff_eq.mpr c6
      have c6b1 : ((bt x0_1 0) != a1) = false := bne_eq_false_iff_eq.mpr c6
      clear c6
      by_cases c7 : 1 ≤ (x0_1.size : Int)
      ·rw [if_pos c7] at H
       have c7b0 := eq_true c7
       have c7b1 : decide (1 ≤ (x0_1.size : Int)) = true := decide_eq_true c7
       clear c7
       have H' := zaa.mk H
       clear H
       have p5 : 0 ≤ (0 : Int) := (by omega)
       have q5 : 0 < x0_1.size := (by have : (0 : Int) < (x0_1.size : Int) := of_decide_eq_true (by first | (with_reducible assumption) | assumption); omega)
       have hx5 : ∀ h : 0 < x0_1.size, ((x0_1[0]'h).toNat : Int) = bt x0_1 0 := zfK x0_1 0
       clear p5
       have qi5 : (0 < (x0_1.size : Int)) = True := eq_true (of_decide_eq_true (by first | (with_reducible assumption) | assumption))
       replace q5 := eq_true q5
       go_wp2
       go_roundg k1
       case measure => have := HK1.out; omega
       case rel => exact ⟨(x0_1.extract 1 x0_1.size), (by first | rfl | (simp; done) | (simp [*]; done)), H', ⟨by have := HK1.out; omega⟩, by repeat (first | exact zar.refl _ | apply zar.step)⟩
      ·rw [if_neg c7] at H
       exact absurd H (by simp)
     ·rw [if_neg c6] at H
      have c6b0 : ((bt x0_1 0) == a1) = false := beq_eq_false_iff_ne.mpr c6
      have c6b1 : ((bt x0_1 0) != a1) = true := bne_iff_ne.mpr c6
      obtain rfl := Option.some.inj H
      have p5 : 0 ≤ (0 : Int) := (by omega)
      have q5 : 0 < x0_1.size := (by have : (0 : Int) < (x0_1.size : Int) := of_decide_eq_true (by first | (with_reducible assumption) | assumption); omega)
      have hx5 : ∀ h : 0 < x0_1.size, ((x0_1[0]'h).toNat : Int) = bt x0_1 0 := zfK x0_1 0
      clear p5
      have qi5 : (0 < (x0_1.size : Int)) = True := eq_true (of_decide_eq_true (by first | (with_reducible assumption) | assumption))
      replace q5 := eq_true q5
      go_wp2
      go_ret
      exact ⟨by first | rfl | (simp; done) | (simp [*]; done), by repeat (first | exact zar.refl _ | apply zar.step)⟩
    ·rw [if_neg c4] at H
     exact absurd H (by simp)
   ·rw [if_neg c3] at H
    have c3b0 : decide (0 < (x0_1.size : Int)) = false := decide_eq_false c3
    have c3b1 : decide (0 < x0_1.size) = false := decide_eq_false (by omega)
    clear c3
    obtain rfl := Option.some.inj H
    go_wp2
    go_ret
    exact ⟨by first | rfl | (simp; done) | (simp [*]; done), by repeat (first | exact zar.refl _ | apply zar.step)⟩
def za9.f (a0 : Int) : Option (Bool) := if a0 ≥ 48 then (some (decide (a0 ≤ 57))) else (some false)
set_option maxHeartbeats 8000000 in
set_option maxRecDepth 100000 in
theorem za9.calls (a0 : Int) (r : Bool) (w : World) (h : za9.f a0 = some r) :
  Calls Tryd.prog 160 #[.int .u8 a0] w fun e w' => e = .returned (.bool r) ∧ zar w w' := by
 have H : (if a0 ≥ 48 then (some (decide (a0 ≤ 57))) else (some false)) = some r := h
 clear h
 by_cases c2 : a0 ≥ 48
 ·rw [if_pos c2] at H
  have c2b0 : decide (48 ≤ a0) = true := decide_eq_true c2
  clear c2
  obtain rfl := Option.some.inj H
  go_enter Tryd.func160, Tryd.ntmps160
  go_wp2
  go_ret
  exact ⟨by first | rfl | (simp; done) | (simp [*]; done), by repeat (first | exact zar.refl _ | apply zar.step)⟩
 ·rw [if_neg c2] at H
  have c2b0 : decide (48 ≤ a0) = false := decide_eq_false c2
  clear c2
  obtain rfl := Option.some.inj H
  go_enter Tryd.func160, Tryd.ntmps160
  go_wp2
  go_ret
  exact ⟨by first | rfl | (simp; done) | (simp [*]; done), by repeat (first | exact zar.refl _ | apply zar.step)⟩
def za0.f (a0 : Int) : Option (Bool) := if a0 ≥ 97 then (if a0 ≤ 122 then (some true) else (if a0 ≥ 65 then (if a0 ≤ 90 then (some true) else (some (a0 == 95))) else (some (a0 == 95)))) else (if a0 ≥ 65 then (if a0 ≤ 90 then (some true) else (some (a0 == 95))) else (some (a0 == 95)))
set_option maxHeartbeats 8000000 in
set_option maxRecDepth 100000 in
theorem za0.calls (a0 : Int) (r : Bool) (w : World) (h : za0.f a0 = some r) :
  Calls Tryd.prog 161 #[.int .u8 a0] w fun e w' => e = .returned (.bool r) ∧ zar w w' := by
 have H : (if a0 ≥ 97 then (if a0 ≤ 122 then (some true) else (if a0 ≥ 65 then (if a0 ≤ 90 then (some true) else (some (a0 == 95))) else (some (a0 == 95)))) else (if a0 ≥ 65 then (if a0 ≤ 90 then (some true) else (some (a0 == 95))) else (some (a0 == 95)))) = some r := h
 clear h
 by_cases c2 : a0 ≥ 97
 ·rw [if_pos c2] at H
  have c2b0 : decide (97 ≤ a0) = true := decide_eq_true c2
  clear c2
  by_cases c3 : a0 ≤ 122
  ·rw [if_pos c3] at H
   have c3b0 : decide (a0 ≤ 122) = true := decide_eq_true c3
   clear c3
   obtain rfl := Option.some.inj H
   go_enter Tryd.func161, Tryd.ntmps161
   go_wp2
   go_ret
   exact ⟨by first | rfl | (simp; done) | (simp [*]; done), by repeat (first | exact zar.refl _ | apply zar.step)⟩
  ·rw [if_neg c3] at H
   have c3b0 : decide (a0 ≤ 122) = false := decide_eq_false c3
   clear c3
   by_cases c4 : a0 ≥ 65
   ·rw [if_pos c4] at H
    have c4b0 : decide (65 ≤ a0) = true := decide_eq_true c4
    clear c4
    by_cases c5 : a0 ≤ 90
    ·rw [if_pos c5] at H
     have c5b0 : decide (a0 ≤ 90) = true := decide_eq_true c5
     clear c5
     obtain rfl := Option.some.inj H
     go_enter Tryd.func161, Tryd.ntmps161
     go_wp2
     go_ret
     exact ⟨by first | rfl | (simp; done) | (simp [*]; done), by repeat (first | exact zar.refl _ | apply zar.step)⟩
    ·rw [if_neg c5] at H
     have c5b0 : decide (a0 ≤ 90) = false := decide_eq_false c5
     clear c5
     obtain rfl := Option.some.inj H
     go_enter Tryd.func161, Tryd.ntmps161
     go_wp2
     go_ret
     exact ⟨by first | rfl | (simp; done) | (simp [*]; done), by repeat (first | exact zar.refl _ | apply zar.step)⟩
   ·rw [if_neg c4] at H
    have c4b0 : decide (65 ≤ a0) = false := decide_eq_false c4
    clear c4
    obtain rfl := Option.some.inj H
    go_enter Tryd.func161, Tryd.ntmps161
    go_wp2
    go_ret
    exact ⟨by first | rfl | (simp; done) | (simp [*]; done), by repeat (first | exact zar.refl _ | apply zar.step)⟩
 ·rw [if_neg c2] at H
  have c2b0 : decide (97 ≤ a0) = false := decide_eq_false c2
  clear c2
  by_cases c6 : a0 ≥ 65
  ·rw [if_pos c6] at H
   have c6b0 : decide (65 ≤ a0) = true := decide_eq_true c6
   clear c6
   by_cases c7 : a0 ≤ 90
   ·rw [if_pos c7] at H
    have c7b0 : decide (a0 ≤ 90) = true := decide_eq_true c7
    clear c7
    obtain rfl := Option.some.inj H
    go_enter Tryd.func161, Tryd.ntmps161
    go_wp2
    go_ret
    exact ⟨by first | rfl | (simp; done) | (simp [*]; done), by repeat (first | exact zar.refl _ | apply zar.step)⟩
   ·rw [if_neg c7] at H
    have c7b0 : decide (a0 ≤ 90) = false := decide_eq_false c7
    clear c7
    obtain rfl := Option.some.inj H
    go_enter Tryd.func161, Tryd.ntmps161
    go_wp2
    go_ret
    exact ⟨by first | rfl | (simp; done) | (simp [*]; done), by repeat (first | exact zar.refl _ | apply zar.step)⟩
  ·rw [if_neg c6] at H
   have c6b0 : decide (65 ≤ a0) = false := decide_eq_false c6
   clear c6
   obtain rfl := Option.some.inj H
   go_enter Tryd.func161, Tryd.ntmps161
   go_wp2
   go_ret
   exact ⟨by first | rfl | (simp; done) | (simp [*]; done), by repeat (first | exact zar.refl _ | apply zar.step)⟩
def zaO.l0 : Nat → Int → ByteArray → Int → Option (Int)
 | 0, _, _, _ => none
 | k + 1, x0, x3, x4 => if x4 < (x3.size : Int) then (if 0 ≤ x4 then (if (bt x3 x4) = x0 then (some 3) else (zaO.l0 k x0 x3 (wrap64 (x4 + 1)))) else (none)) else (some 0)
def zaO.f (k : Nat) (a0 : Int) : Option (Int) := (za9.f a0).bind fun t112 => (if t112 = true then (some 1) else ((za0.f a0).bind fun t113 => (if t113 = true then (some 2) else (zaO.l0 k a0 (⟨#[43, 45, 42, 47, 94, 40, 41, 91, 93, 44, 59, 61]⟩ : ByteArray) 0))))
theorem zaO.zaV : ∀ k, (∀ y0 y1 y2, LeO (zaO.l0 k y0 y1 y2) (zaO.l0 (k + 1) y0 y1 y2))
 | 0 => fun _ _ _ r h => by simp [zaO.l0] at h
 | k + 1 => by
  have ih0 := zaO.zaV k
  ·intro y0 y1 y2
   unfold zaO.l0
   repeat' first
   | (with_reducible exact ih0 _ _ _)
   | (with_reducible exact LeO.refl _)
   | (with_reducible exact LeO.none _)
   | (with_reducible refine LeO.ite ?_ ?_)
   | (with_reducible refine LeO.bind ?_ (fun _ => ?_))
   | exact ih0 _ _ _
   | exact LeO.none _
   | refine LeO.ite ?_ ?_
   | refine LeO.bind ?_ (fun _ => ?_)
theorem zaO.mono : ∀ a0 k, LeO (zaO.f k a0) (zaO.f (k + 1) a0) := by
 intro a0 k
 have ih0 := zaO.zaV k
 unfold zaO.f
 repeat' first
   | (with_reducible exact ih0 _ _ _)
   | (with_reducible exact LeO.refl _)
   | (with_reducible exact LeO.none _)
   | (with_reducible refine LeO.ite ?_ ?_)
   | (with_reducible refine LeO.bind ?_ (fun _ => ?_))
   | exact ih0 _ _ _
   | exact LeO.none _
   | refine LeO.ite ?_ ?_
   | refine LeO.bind ?_ (fun _ => ?_)
set_option maxHeartbeats 8000000 in
set_option maxRecDepth 100000 in
theorem zaO.calls (k : Nat) (a0 : Int) (r : Int) (w : World) (h : zaO.f k a0 = some r) :
  Calls Tryd.prog 144 #[.int .u8 a0] w fun e w' => e = .returned (.int .i64 r) ∧ zar w w' := by
 have H : ((za9.f a0).bind fun t112 => (if t112 = true then (some 1) else ((za0.f a0).bind fun t113 => (if t113 = true then (some 2) else (zaO.l0 k a0 (⟨#[43, 45, 42, 47, 94, 40, 41, 91, 93, 44, 59, 61]⟩ : ByteArray) 0))))) = some r := h
 clear h
 replace H := Option.bind_eq_some_iff.mp H
 obtain ⟨t112, A20, H⟩ := H
 replace H : (if t112 = true then (some 1) else ((za0.f a0).bind fun t113 => (if t113 = true then (some 2) else (zaO.l0 k a0 (⟨#[43, 45, 42, 47, 94, 40, 41, 91, 93, 44, 59, 61]⟩ : ByteArray) 0)))) = some r := H
 have A2 := zaa.mk A20
 clear A20
 by_cases c3 : t112 = true
 ·subst c3
  have H1 : (some 1) = some r := by rw [if_pos rfl] at H; exact H
  clear H
  have H := H1
  clear H1
  obtain rfl := Option.some.inj H
  go_enter Tryd.func144, Tryd.ntmps144
  go_wp2_with (first | ((with_reducible refine zaI (f := 160) rfl ?_); refine za5 (some 6) rfl rfl Tryd.func160 (by kernel_rfl) rfl #[.int .u8 a0] rfl (by (try simp only [List.map_toArray, List.map_cons, List.map_nil]); first | done | rfl | (simp only [List.length_drop, List.length_take]; rfl)) ?_; (with_reducible refine (za9.calls a0 true _ A2.out).mono ?_); rintro e w' ⟨rfl, ⟨nd, rfl⟩⟩; refine ⟨_, rfl, ?_⟩))
  go_ret
  exact ⟨by first | rfl | (simp; done) | (simp [*]; done), by repeat (first | exact zar.refl _ | apply zar.step)⟩
 ·replace c3 := Bool.eq_false_iff.mpr c3
  subst c3
  have H1 : ((za0.f a0).bind fun t113 => (if t113 = true then (some 2) else (zaO.l0 k a0 (⟨#[43, 45, 42, 47, 94, 40, 41, 91, 93, 44, 59, 61]⟩ : ByteArray) 0))) = some r := by rw [if_neg (show ¬ (false = true) by decide)] at H; exact H
  clear H
  have H := H1
  clear H1
  replace H := Option.bind_eq_some_iff.mp H
  obtain ⟨t113, A40, H⟩ := H
  replace H : (if t113 = true then (some 2) else (zaO.l0 k a0 (⟨#[43, 45, 42, 47, 94, 40, 41, 91, 93, 44, 59, 61]⟩ : ByteArray) 0)) = some r := H
  have A4 := zaa.mk A40
  clear A40
  by_cases c5 : t113 = true
  ·subst c5
   have H1 : (some 2) = some r := by rw [if_pos rfl] at H; exact H
   clear H
   have H := H1
   clear H1
   obtain rfl := Option.some.inj H
   go_enter Tryd.func144, Tryd.ntmps144
   go_wp2_with (first | ((with_reducible refine zaI (f := 160) rfl ?_); refine za5 (some 6) rfl rfl Tryd.func160 (by kernel_rfl) rfl #[.int .u8 a0] rfl (by (try simp only [List.map_toArray, List.map_cons, List.map_nil]); first | done | rfl | (simp only [List.length_drop, List.length_take]; rfl)) ?_; (with_reducible refine (za9.calls a0 false _ A2.out).mono ?_); rintro e w' ⟨rfl, ⟨nd, rfl⟩⟩; refine ⟨_, rfl, ?_⟩) | ((with_reducible refine zaI (f := 161) rfl ?_); refine za5 (some 8) rfl rfl Tryd.func161 (by kernel_rfl) rfl #[.int .u8 a0] rfl (by (try simp only [List.map_toArray, List.map_cons, List.map_nil]); first | done | rfl | (simp only [List.length_drop, List.length_take]; rfl)) ?_; (with_reducible refine (za0.calls a0 true _ A4.out).mono ?_); rintro e w' ⟨rfl, ⟨nd, rfl⟩⟩; refine ⟨_, rfl, ?_⟩))
   go_ret
   exact ⟨by first | rfl | (simp; done) | (simp [*]; done), by repeat (first | exact zar.refl _ | apply zar.step)⟩
  ·replace c5 := Bool.eq_false_iff.mpr c5
   subst c5
   have H1 : (zaO.l0 k a0 (⟨#[43, 45, 42, 47, 94, 40, 41, 91, 93, 44, 59, 61]⟩ : ByteArray) 0) = some r := by rw [if_neg (show ¬ (false = true) by decide)] at H; exact H
   clear H
   have H := H1
   clear H1
   have H' := zaa.mk H
   clear H
   go_enter Tryd.func144, Tryd.ntmps144
   go_wp2_with (first | ((with_reducible refine zaI (f := 160) rfl ?_); refine za5 (some 6) rfl rfl Tryd.func160 (by kernel_rfl) rfl #[.int .u8 a0] rfl (by (try simp only [List.map_toArray, List.map_cons, List.map_nil]); first | done | rfl | (simp only [List.length_drop, List.length_take]; rfl)) ?_; (with_reducible refine (za9.calls a0 false _ A2.out).mono ?_); rintro e w' ⟨rfl, ⟨nd, rfl⟩⟩; refine ⟨_, rfl, ?_⟩) | ((with_reducible refine zaI (f := 161) rfl ?_); refine za5 (some 8) rfl rfl Tryd.func161 (by kernel_rfl) rfl #[.int .u8 a0] rfl (by (try simp only [List.map_toArray, List.map_cons, List.map_nil]); first | done | rfl | (simp only [List.length_drop, List.length_take]; rfl)) ?_; (with_reducible refine (za0.calls a0 false _ A4.out).mono ?_); rintro e w' ⟨rfl, ⟨nd, rfl⟩⟩; refine ⟨_, rfl, ?_⟩))
   go_loopg [4] k (fun kq v4 w' => ∃ (x4_1 : Int), v4 = .int .i64 x4_1 ∧ zaa (zaO.l0 kq a0 (⟨#[43, 45, 42, 47, 94, 40, 41, 91, 93, 44, 59, 61]⟩ : ByteArray) x4_1 = some r) ∧ zaa (kq ≤ k) ∧ zar w w')
   case atStart => exact ⟨(0), (by first | rfl | (simp; done) | (simp [*]; done)), H', ⟨Nat.le_refl _⟩, by repeat (first | exact zar.refl _ | apply zar.step)⟩
   case round =>
    clear H'
    try clear c1
    try clear p2
    try clear c3
    try clear c5
    obtain ⟨x4_1, rfl, HA, HK1, ⟨m1, rfl⟩⟩ := hrel
    cases gk with
    | zero => exact absurd HA.out (by simp [zaO.l0])
    | succ k1 =>
     have H := HA.out
     clear HA
     simp only [zaO.l0] at H
     by_cases c6 : x4_1 < ((⟨#[43, 45, 42, 47, 94, 40, 41, 91, 93, 44, 59, 61]⟩ : ByteArray).size : Int)
     ·rw [if_pos c6] at H
      have c6b0 : decide (x4_1 < ((⟨#[43, 45, 42, 47, 94, 40, 41, 91, 93, 44, 59, 61]⟩ : ByteArray).size : Int)) = true := decide_eq_true c6
      have c6b0z : decide (x4_1 < 12) = true := c6b0
      clear c6
      by_cases c7 : 0 ≤ x4_1
      ·rw [if_pos c7] at H
       have c7b0 : decide (0 ≤ x4_1) = true := decide_eq_true c7
       clear c7
       by_cases c9 : (bt (⟨#[43, 45, 42, 47, 94, 40, 41, 91, 93, 44, 59, 61]⟩ : ByteArray) x4_1) = a0
       ·rw [if_pos c9] at H
        have c9b0 : ((bt (⟨#[43, 45, 42, 47, 94, 40, 41, 91, 93, 44, 59, 61]⟩ : ByteArray) x4_1) == a0) = true := beq_iff_eq.mpr c9
        have c9b1 : ((bt (⟨#[43, 45, 42, 47, 94, 40, 41, 91, 93, 44, 59, 61]⟩ : ByteArray) x4_1) != a0) = false := bne_eq_false_iff_eq.mpr c9
        clear c9
        obtain rfl := Option.some.inj H
        have p8 : 0 ≤ (x4_1 : Int) := of_decide_eq_true (by first | (with_reducible assumption) | assumption)
        have q8 : x4_1 < (12 : Int) := of_decide_eq_true (by first | (with_reducible assumption) | assumption)
        have hx8 := zfK (⟨#[43, 45, 42, 47, 94, 40, 41, 91, 93, 44, 59, 61]⟩ : ByteArray) x4_1
        replace p8 := eq_true p8
        replace q8 := eq_true q8
        go_wp2
        go_ret
        exact ⟨by first | rfl | (simp; done) | (simp [*]; done), by repeat (first | exact zar.refl _ | apply zar.step)⟩
       ·rw [if_neg c9] at H
        have c9b0 : ((bt (⟨#[43, 45, 42, 47, 94, 40, 41, 91, 93, 44, 59, 61]⟩ : ByteArray) x4_1) == a0) = false := beq_eq_false_iff_ne.mpr c9
        have c9b1 : ((bt (⟨#[43, 45, 42, 47, 94, 40, 41, 91, 93, 44, 59, 61]⟩ : ByteArray) x4_1) != a0) = true := bne_iff_ne.mpr c9
        have H' := zaa.mk H
        clear H
        have p8 : 0 ≤ (x4_1 : Int) := of_decide_eq_true (by first | (with_reducible assumption) | assumption)
        have q8 : x4_1 < (12 : Int) := of_decide_eq_true (by first | (with_reducible assumption) | assumption)
        have hx8 := zfK (⟨#[43, 45, 42, 47, 94, 40, 41, 91, 93, 44, 59, 61]⟩ : ByteArray) x4_1
        replace p8 := eq_true p8
        replace q8 := eq_true q8
        go_wp2
        go_roundg k1
        case measure => have := HK1.out; omega
        case rel => exact ⟨(wrap64 (x4_1 + 1)), (by first | rfl | (simp; done) | (simp [*]; done)), H', ⟨by have := HK1.out; omega⟩, by repeat (first | exact zar.refl _ | apply zar.step)⟩
      ·rw [if_neg c7] at H
       exact absurd H (by simp)
     ·rw [if_neg c6] at H
      have c6b0 : decide (x4_1 < ((⟨#[43, 45, 42, 47, 94, 40, 41, 91, 93, 44, 59, 61]⟩ : ByteArray).size : Int)) = false := decide_eq_false c6
      have c6b0z : decide (x4_1 < 12) = false := c6b0
      clear c6
      obtain rfl := Option.some.inj H
      go_wp2
      go_ret
      exact ⟨by first | rfl | (simp; done) | (simp [*]; done), by repeat (first | exact zar.refl _ | apply zar.step)⟩
def zbE.f (a0 : Int) (a1 : Int) : Option (Bool) := if a0 = 1 then ((za9.f a1).bind fun t114 => (if t114 = true then (some true) else (if a0 = 2 then ((za0.f a1).bind fun t115 => (some t115)) else (some false)))) else (if a0 = 2 then ((za9.f a1).bind fun t116 => (if t116 = true then (some true) else ((za0.f a1).bind fun t117 => (some t117)))) else (some false))
set_option maxHeartbeats 8000000 in
set_option maxRecDepth 100000 in
theorem zbE.calls (a0 : Int) (a1 : Int) (r : Bool) (w : World) (h : zbE.f a0 a1 = some r) :
  Calls Tryd.prog 143 #[.int .i64 a0, .int .u8 a1] w fun e w' => e = .returned (.bool r) ∧ zar w w' := by
 have H : (if a0 = 1 then ((za9.f a1).bind fun t114 => (if t114 = true then (some true) else (if a0 = 2 then ((za0.f a1).bind fun t115 => (some t115)) else (some false)))) else (if a0 = 2 then ((za9.f a1).bind fun t116 => (if t116 = true then (some true) else ((za0.f a1).bind fun t117 => (some t117)))) else (some false))) = some r := h
 clear h
 by_cases c3 : a0 = 1
 ·rw [if_pos c3] at H
  have c3b0 : (a0 == 1) = true := beq_iff_eq.mpr c3
  have c3b1 : (a0 != 1) = false := bne_eq_false_iff_eq.mpr c3
  clear c3
  replace H := Option.bind_eq_some_iff.mp H
  obtain ⟨t114, A40, H⟩ := H
  replace H : (if t114 = true then (some true) else (if a0 = 2 then ((za0.f a1).bind fun t115 => (some t115)) else (some false))) = some r := H
  have A4 := zaa.mk A40
  clear A40
  by_cases c5 : t114 = true
  ·subst c5
   have H1 : (some true) = some r := by rw [if_pos rfl] at H; exact H
   clear H
   have H := H1
   clear H1
   obtain rfl := Option.some.inj H
   go_enter Tryd.func143, Tryd.ntmps143
   go_wp2_with (first | (go_at_call 160; (with_reducible refine (za9.calls a1 true _ A4.out).mono ?_); rintro e w' ⟨rfl, ⟨nd, rfl⟩⟩))
   go_ret
   exact ⟨by first | rfl | (simp; done) | (simp [*]; done), by repeat (first | exact zar.refl _ | apply zar.step)⟩
  ·replace c5 := Bool.eq_false_iff.mpr c5
   subst c5
   have H1 : (if a0 = 2 then ((za0.f a1).bind fun t115 => (some t115)) else (some false)) = some r := by rw [if_neg (show ¬ (false = true) by decide)] at H; exact H
   clear H
   have H := H1
   clear H1
   by_cases c6 : a0 = 2
   ·rw [if_pos c6] at H
    have c6b0 : (a0 == 2) = true := beq_iff_eq.mpr c6
    have c6b1 : (a0 != 2) = false := bne_eq_false_iff_eq.mpr c6
    clear c6
    replace H := Option.bind_eq_some_iff.mp H
    obtain ⟨t115, A70, H⟩ := H
    replace H : (some t115) = some r := H
    have A7 := zaa.mk A70
    clear A70
    obtain rfl := Option.some.inj H
    go_enter Tryd.func143, Tryd.ntmps143
    go_wp2_with (first | (go_at_call 160; (with_reducible refine (za9.calls a1 false _ A4.out).mono ?_); rintro e w' ⟨rfl, ⟨nd, rfl⟩⟩) | (go_at_call 161; (with_reducible refine (za0.calls a1 t115 _ A7.out).mono ?_); rintro e w' ⟨rfl, ⟨nd, rfl⟩⟩))
    go_ret
    exact ⟨by first | rfl | (simp; done) | (simp [*]; done), by repeat (first | exact zar.refl _ | apply zar.step)⟩
   ·rw [if_neg c6] at H
    have c6b0 : (a0 == 2) = false := beq_eq_false_iff_ne.mpr c6
    have c6b1 : (a0 != 2) = true := bne_iff_ne.mpr c6
    obtain rfl := Option.some.inj H
    go_enter Tryd.func143, Tryd.ntmps143
    go_wp2_with (first | (go_at_call 160; (with_reducible refine (za9.calls a1 false _ A4.out).mono ?_); rintro e w' ⟨rfl, ⟨nd, rfl⟩⟩))
    go_ret
    exact ⟨by first | rfl | (simp; done) | (simp [*]; done), by repeat (first | exact zar.refl _ | apply zar.step)⟩
 ·rw [if_neg c3] at H
  have c3b0 : (a0 == 1) = false := beq_eq_false_iff_ne.mpr c3
  have c3b1 : (a0 != 1) = true := bne_iff_ne.mpr c3
  by_cases c8 : a0 = 2
  ·rw [if_pos c8] at H
   have c8b0 : (a0 == 2) = true := beq_iff_eq.mpr c8
   have c8b1 : (a0 != 2) = false := bne_eq_false_iff_eq.mpr c8
   clear c8
   replace H := Option.bind_eq_some_iff.mp H
   obtain ⟨t116, A90, H⟩ := H
   replace H : (if t116 = true then (some true) else ((za0.f a1).bind fun t117 => (some t117))) = some r := H
   have A9 := zaa.mk A90
   clear A90
   by_cases c10 : t116 = true
   ·subst c10
    have H1 : (some true) = some r := by rw [if_pos rfl] at H; exact H
    clear H
    have H := H1
    clear H1
    obtain rfl := Option.some.inj H
    go_enter Tryd.func143, Tryd.ntmps143
    go_wp2_with (first | (go_at_call 160; (with_reducible refine (za9.calls a1 true _ A9.out).mono ?_); rintro e w' ⟨rfl, ⟨nd, rfl⟩⟩))
    go_ret
    exact ⟨by first | rfl | (simp; done) | (simp [*]; done), by repeat (first | exact zar.refl _ | apply zar.step)⟩
   ·replace c10 := Bool.eq_false_iff.mpr c10
    subst c10
    have H1 : ((za0.f a1).bind fun t117 => (some t117)) = some r := by rw [if_neg (show ¬ (false = true) by decide)] at H; exact H
    clear H
    have H := H1
    clear H1
    replace H := Option.bind_eq_some_iff.mp H
    obtain ⟨t117, A110, H⟩ := H
    replace H : (some t117) = some r := H
    have A11 := zaa.mk A110
    clear A110
    obtain rfl := Option.some.inj H
    go_enter Tryd.func143, Tryd.ntmps143
    go_wp2_with (first | (go_at_call 160; (with_reducible refine (za9.calls a1 false _ A9.out).mono ?_); rintro e w' ⟨rfl, ⟨nd, rfl⟩⟩) | (go_at_call 161; (with_reducible refine (za0.calls a1 t117 _ A11.out).mono ?_); rintro e w' ⟨rfl, ⟨nd, rfl⟩⟩))
    go_ret
    exact ⟨by first | rfl | (simp; done) | (simp [*]; done), by repeat (first | exact zar.refl _ | apply zar.step)⟩
  ·rw [if_neg c8] at H
   have c8b0 : (a0 == 2) = false := beq_eq_false_iff_ne.mpr c8
   have c8b1 : (a0 != 2) = true := bne_iff_ne.mpr c8
   obtain rfl := Option.some.inj H
   go_enter Tryd.func143, Tryd.ntmps143
   go_wp2
   go_ret
   exact ⟨by first | rfl | (simp; done) | (simp [*]; done), by repeat (first | exact zar.refl _ | apply zar.step)⟩
def zbE.Pure : Prop := ∀ (a0 : Int) (a1 : Int), (Lit.int .i64 a0).wf = true → (Lit.int .u8 a1).wf = true → zbE.f a0 a1 = some true
theorem zbE.walk (P : zbE.Pure) (a0 : Int) (a1 : Int) (w : World) (w0 : (Lit.int .i64 a0).wf = true) (w1 : (Lit.int .u8 a1).wf = true) :
  Calls Tryd.prog 143 #[.int .i64 a0, .int .u8 a1] w fun e w' => e = .returned (.bool true) ∧ Below w.heap.size w w' := by
 have h := P a0 a1 w0 w1
 refine (zbE.calls a0 a1 true w h).mono ?_
 rintro e w' ⟨rfl, hd⟩
 exact ⟨rfl, hd.below⟩
def zcg.f (a0 : Int) : Option (Int) := if a0 = 1 then (some 60) else (if a0 = 2 then (some 12) else (some 1))
set_option maxHeartbeats 8000000 in
set_option maxRecDepth 100000 in
theorem zcg.calls (a0 : Int) (r : Int) (w : World) (h : zcg.f a0 = some r) :
  Calls Tryd.prog 145 #[.int .i64 a0] w fun e w' => e = .returned (.int .i64 r) ∧ zar w w' := by
 have H : (if a0 = 1 then (some 60) else (if a0 = 2 then (some 12) else (some 1))) = some r := h
 clear h
 by_cases c2 : a0 = 1
 ·rw [if_pos c2] at H
  have c2b0 : (a0 == 1) = true := beq_iff_eq.mpr c2
  have c2b1 : (a0 != 1) = false := bne_eq_false_iff_eq.mpr c2
  clear c2
  obtain rfl := Option.some.inj H
  go_enter Tryd.func145, Tryd.ntmps145
  go_wp2
  go_ret
  exact ⟨by first | rfl | (simp; done) | (simp [*]; done), by repeat (first | exact zar.refl _ | apply zar.step)⟩
 ·rw [if_neg c2] at H
  have c2b0 : (a0 == 1) = false := beq_eq_false_iff_ne.mpr c2
  have c2b1 : (a0 != 1) = true := bne_iff_ne.mpr c2
  by_cases c3 : a0 = 2
  ·rw [if_pos c3] at H
   have c3b0 : (a0 == 2) = true := beq_iff_eq.mpr c3
   have c3b1 : (a0 != 2) = false := bne_eq_false_iff_eq.mpr c3
   clear c3
   obtain rfl := Option.some.inj H
   go_enter Tryd.func145, Tryd.ntmps145
   go_wp2
   go_ret
   exact ⟨by first | rfl | (simp; done) | (simp [*]; done), by repeat (first | exact zar.refl _ | apply zar.step)⟩
  ·rw [if_neg c3] at H
   have c3b0 : (a0 == 2) = false := beq_eq_false_iff_ne.mpr c3
   have c3b1 : (a0 != 2) = true := bne_iff_ne.mpr c3
   obtain rfl := Option.some.inj H
   go_enter Tryd.func145, Tryd.ntmps145
   go_wp2
   go_ret
   exact ⟨by first | rfl | (simp; done) | (simp [*]; done), by repeat (first | exact zar.refl _ | apply zar.step)⟩
def zbL.f (a0 : Int) : Option (Bool) := if a0 ≥ 48 then (some (decide (a0 ≤ 57))) else (some false)
set_option maxHeartbeats 8000000 in
set_option maxRecDepth 100000 in
theorem zbL.calls (a0 : Int) (r : Bool) (w : World) (h : zbL.f a0 = some r) :
  Calls Tryd.prog 124 #[.int .u8 a0] w fun e w' => e = .returned (.bool r) ∧ zar w w' := by
 have H : (if a0 ≥ 48 then (some (decide (a0 ≤ 57))) else (some false)) = some r := h
 clear h
 by_cases c2 : a0 ≥ 48
 ·rw [if_pos c2] at H
  have c2b0 : decide (48 ≤ a0) = true := decide_eq_true c2
  clear c2
  obtain rfl := Option.some.inj H
  go_enter Tryd.func124, Tryd.ntmps124
  go_wp2
  go_ret
  exact ⟨by first | rfl | (simp; done) | (simp [*]; done), by repeat (first | exact zar.refl _ | apply zar.step)⟩
 ·rw [if_neg c2] at H
  have c2b0 : decide (48 ≤ a0) = false := decide_eq_false c2
  clear c2
  obtain rfl := Option.some.inj H
  go_enter Tryd.func124, Tryd.ntmps124
  go_wp2
  go_ret
  exact ⟨by first | rfl | (simp; done) | (simp [*]; done), by repeat (first | exact zar.refl _ | apply zar.step)⟩
def zbF.f (a0 : Int) : Option (Bool) := if a0 ≥ 97 then (if a0 ≤ 122 then (some true) else (if a0 ≥ 65 then (if a0 ≤ 90 then (some true) else (some (a0 == 95))) else (some (a0 == 95)))) else (if a0 ≥ 65 then (if a0 ≤ 90 then (some true) else (some (a0 == 95))) else (some (a0 == 95)))
set_option maxHeartbeats 8000000 in
set_option maxRecDepth 100000 in
theorem zbF.calls (a0 : Int) (r : Bool) (w : World) (h : zbF.f a0 = some r) :
  Calls Tryd.prog 125 #[.int .u8 a0] w fun e w' => e = .returned (.bool r) ∧ zar w w' := by
 have H : (if a0 ≥ 97 then (if a0 ≤ 122 then (some true) else (if a0 ≥ 65 then (if a0 ≤ 90 then (some true) else (some (a0 == 95))) else (some (a0 == 95)))) else (if a0 ≥ 65 then (if a0 ≤ 90 then (some true) else (some (a0 == 95))) else (some (a0 == 95)))) = some r := h
 clear h
 by_cases c2 : a0 ≥ 97
 ·rw [if_pos c2] at H
  have c2b0 : decide (97 ≤ a0) = true := decide_eq_true c2
  clear c2
  by_cases c3 : a0 ≤ 122
  ·rw [if_pos c3] at H
   have c3b0 : decide (a0 ≤ 122) = true := decide_eq_true c3
   clear c3
   obtain rfl := Option.some.inj H
   go_enter Tryd.func125, Tryd.ntmps125
   go_wp2
   go_ret
   exact ⟨by first | rfl | (simp; done) | (simp [*]; done), by repeat (first | exact zar.refl _ | apply zar.step)⟩
  ·rw [if_neg c3] at H
   have c3b0 : decide (a0 ≤ 122) = false := decide_eq_false c3
   clear c3
   by_cases c4 : a0 ≥ 65
   ·rw [if_pos c4] at H
    have c4b0 : decide (65 ≤ a0) = true := decide_eq_true c4
    clear c4
    by_cases c5 : a0 ≤ 90
    ·rw [if_pos c5] at H
     have c5b0 : decide (a0 ≤ 90) = true := decide_eq_true c5
     clear c5
     obtain rfl := Option.some.inj H
     go_enter Tryd.func125, Tryd.ntmps125
     go_wp2
     go_ret
     exact ⟨by first | rfl | (simp; done) | (simp [*]; done), by repeat (first | exact zar.refl _ | apply zar.step)⟩
    ·rw [if_neg c5] at H
     have c5b0 : decide (a0 ≤ 90) = false := decide_eq_false c5
     clear c5
     obtain rfl := Option.some.inj H
     go_enter Tryd.func125, Tryd.ntmps125
     go_wp2
     go_ret
     exact ⟨by first | rfl | (simp; done) | (simp [*]; done), by repeat (first | exact zar.refl _ | apply zar.step)⟩
   ·rw [if_neg c4] at H
    have c4b0 : decide (65 ≤ a0) = false := decide_eq_false c4
    clear c4
    obtain rfl := Option.some.inj H
    go_enter Tryd.func125, Tryd.ntmps125
    go_wp2
    go_ret
    exact ⟨by first | rfl | (simp; done) | (simp [*]; done), by repeat (first | exact zar.refl _ | apply zar.step)⟩
 ·rw [if_neg c2] at H
  have c2b0 : decide (97 ≤ a0) = false := decide_eq_false c2
  clear c2
  by_cases c6 : a0 ≥ 65
  ·rw [if_pos c6] at H
   have c6b0 : decide (65 ≤ a0) = true := decide_eq_true c6
   clear c6
   by_cases c7 : a0 ≤ 90
   ·rw [if_pos c7] at H
    have c7b0 : decide (a0 ≤ 90) = true := decide_eq_true c7
    clear c7
    obtain rfl := Option.some.inj H
    go_enter Tryd.func125, Tryd.ntmps125
    go_wp2
    go_ret
    exact ⟨by first | rfl | (simp; done) | (simp [*]; done), by repeat (first | exact zar.refl _ | apply zar.step)⟩
   ·rw [if_neg c7] at H
    have c7b0 : decide (a0 ≤ 90) = false := decide_eq_false c7
    clear c7
    obtain rfl := Option.some.inj H
    go_enter Tryd.func125, Tryd.ntmps125
    go_wp2
    go_ret
    exact ⟨by first | rfl | (simp; done) | (simp [*]; done), by repeat (first | exact zar.refl _ | apply zar.step)⟩
  ·rw [if_neg c6] at H
   have c6b0 : decide (65 ≤ a0) = false := decide_eq_false c6
   clear c6
   obtain rfl := Option.some.inj H
   go_enter Tryd.func125, Tryd.ntmps125
   go_wp2
   go_ret
   exact ⟨by first | rfl | (simp; done) | (simp [*]; done), by repeat (first | exact zar.refl _ | apply zar.step)⟩
end Go.Proofs.YtbicjgaadknmfaaDoor.P
end
section
namespace Go.Proofs.YtbicjgaadknmfaaDoor.M
open Go.RowKit Go.Proofs.YtbicjgaadknmfaaDoorW.PrintWords Go.Proofs.YtbicjgaadknmfaaDoor.P
set_option linter.unusedVariables false
set_option linter.unusedSimpArgs false
theorem zgR (c : UInt8) : za9.f (c.toNat : Int) = some (isDigit c) := by
  unfold za9.f isDigit
  by_cases h : 48 ≤ c.toNat
  · rw [if_pos (by omega)]
    congr 1
    apply decide_eq_decide.2
    omega
  · rw [if_neg (by omega)]
    congr 1
    symm
    apply decide_eq_false
    omega
theorem zgh (c : UInt8) : za0.f (c.toNat : Int) = some (zcM c) := by
  unfold za0.f zcM
  repeat' split
  all_goals
    congr 1
    symm
    first
    | (apply decide_eq_true; omega)
    | (rw [Bool.eq_iff_iff, decide_eq_true_iff, beq_iff_eq]; omega)
theorem zjL (k : Nat) (c : UInt8) : zbE.f (k : Int) (c.toNat : Int) = some (zbn k c) := by
  unfold zbE.f zbn
  simp only [zgR, zgh, Option.bind_some]
  by_cases h1 : k = 1
  · subst h1
    rcases Bool.eq_false_or_eq_true (isDigit c) with h | h <;> simp [h]
  · by_cases h2 : k = 2
    · subst h2
      rcases Bool.eq_false_or_eq_true (isDigit c) with h | h <;> rcases Bool.eq_false_or_eq_true (zcM c) with h' | h' <;> simp [h, h']
    · have e1 : ¬ (k : Int) = 1 := by omega
      have e2 : ¬ (k : Int) = 2 := by omega
      simp [h1, h2, e1, e2]
theorem zjY (k : Nat) : zcg.f (k : Int) = some (zce k : Int) := by
  unfold zcg.f zce
  by_cases h1 : k = 1
  · subst h1; rfl
  · by_cases h2 : k = 2
    · subst h2; rfl
    · have e1 : ¬ (k : Int) = 1 := by omega
      have e2 : ¬ (k : Int) = 2 := by omega
      simp [h1, h2, e1, e2]
theorem ziR (c : UInt8) (s : ByteArray) (hs : s.size ≤ 1000) : ∀ (r : List UInt8) (i : Nat), (toL s).drop i = r → i ≤ s.size →
    Ev (fun n => zaO.l0 n (c.toNat : Int) s (i : Int)) (if r.contains c then 3 else 0) := by
  intro r
  induction r with
  | nil =>
    intro i hd hi
    have := drop_nil hd
    rw [zcD] at this
    refine Ev.step (f := fun _ => some 0) (fun n => ?_) (Ev.now _)
    simp only [zaO.l0]
    rw [if_neg (by omega)]
  | cons b r ih =>
    intro i hd hi
    have hlt := zia hd
    rw [zcD] at hlt
    have hb := zgE s i b r hd
    by_cases hg : b = c
    · subst hg
      refine Ev.step (f := fun _ => some 3) (fun n => ?_) ?_
      · simp only [zaO.l0]
        rw [if_pos (by omega), if_pos (by omega), hb, if_pos rfl]
      · simp only [List.contains_cons, beq_self_eq_true, Bool.true_or, if_true]
        exact Ev.now _
    · have hne : ¬ (b.toNat : Int) = (c.toNat : Int) := fun h => hg (UInt8.toNat_inj.1 (by omega))
      refine Ev.step (f := fun n => zaO.l0 n (c.toNat : Int) s ((i + 1 : Nat) : Int)) (fun n => ?_) ?_
      · simp only [zaO.l0]
        rw [if_pos (by omega), if_pos (by omega), hb, if_neg hne, zbh (by omega) (by omega)]
        rfl
      · have e : (b :: r).contains c = r.contains c := by
          rw [List.contains_cons, beq_eq_false_iff_ne.2 (fun h => hg h.symm), Bool.false_or]
        rw [e]
        exact ih (i + 1) (zg1 hd) (by omega)
theorem zj3 (c : UInt8) : Ev (fun n => zaO.f n (c.toNat : Int)) (zbd c : Int) := by
  unfold zaO.f zbd
  simp only [zgR, zgh, Option.bind_some]
  by_cases h1 : isDigit c = true
  · simp only [h1, if_true]; exact Ev.now _
  · simp only [h1, if_false]
    by_cases h2 : zcM c = true
    · simp only [h2, if_true]; exact Ev.now _
    · simp only [h2, if_false]
      have := ziR c ⟨#[43, 45, 42, 47, 94, 40, 41, 91, 93, 44, 59, 61]⟩ (by decide) zen 0 rfl (by decide)
      unfold zfu
      split at this <;> rename_i h
      · rw [if_pos h]; exact this
      · rw [if_neg h]; exact this
def mkR (w : Wd) : S136 := ⟨w.kd, ofL w.tx, w.pl⟩
def resR : Except Nat (List Wd) → List S136 × Int
  | .ok ws => (ws.map mkR, -1)
  | .error q => ([], (q : Int))
end Go.Proofs.YtbicjgaadknmfaaDoor.M
end
section
namespace Go.Proofs.YtbicjgaadknmfaaDoor.P
open Go.RowKit Go.Proofs.YtbicjgaadknmfaaDoorW.PrintWords Go.Proofs.YtbicjgaadknmfaaDoor.M
set_option linter.unusedVariables false
set_option linter.unusedSimpArgs false
def zc6.f (a0 : ByteArray) : Option (List S136 × Int) := some (resR (zdQ (toL a0)))
def zdP (acc : List Wd) (i : Nat) (c : UInt8) : Bool := match acc.getLast? with
  | some w => decide (w.pl + w.tx.length = i) && zbn w.kd c
  | none => false
def zco (acc : List Wd) (i : Nat) (c : UInt8) : List Wd × Wd := match acc.getLast? with
  | some w => if zdP acc i c = true then (acc.dropLast, ⟨w.kd, w.tx ++ [c], w.pl⟩) else (acc, ⟨zbd c, [c], i⟩)
  | none => (acc, ⟨zbd c, [c], i⟩)
theorem zh4 (acc : List Wd) (i : Nat) (c : UInt8) : zdC acc i c = if (zco acc i c).2.kd = 0 ∨ zce (zco acc i c).2.kd < (zco acc i c).2.tx.length then none else some ((zco acc i c).1 ++ [(zco acc i c).2]) := by
  unfold zdC zco zdP
  have hm := zhQ (zbd c)
  cases h : acc.getLast? with
  | none =>
    simp only [zeK, List.length_singleton]
    by_cases h0 : zbd c = 0
    · rw [if_pos h0, if_pos (.inl h0)]
    · rw [if_neg h0, if_neg (by omega)]
  | some w =>
    by_cases h1 : w.pl + w.tx.length = i ∧ zbn w.kd c = true
    · have hk : ¬ w.kd = 0 := fun h0 => by have := h1.2; rw [h0] at this; cases this
      have e : (decide (w.pl + w.tx.length = i) && zbn w.kd c) = true := by rw [h1.2, decide_eq_true h1.1]; rfl
      simp only [if_pos h1, e, if_true, List.length_append, List.length_singleton]
      by_cases h2 : zce w.kd < w.tx.length + 1
      · rw [if_pos h2, if_pos (.inr h2)]
      · rw [if_neg h2, if_neg (by omega)]
    · have e : (decide (w.pl + w.tx.length = i) && zbn w.kd c) = false := by
        rw [Bool.eq_false_iff]; intro h; rw [Bool.and_eq_true, decide_eq_true_eq] at h; exact h1 h
      simp only [if_neg h1, e, if_false, Bool.false_eq_true, zeK, List.length_singleton]
      by_cases h0 : zbd c = 0
      · rw [if_pos h0, if_pos (.inl h0)]
      · rw [if_neg h0, if_neg (by omega)]
theorem zkP {acc : List Wd} {i : Nat} {c : UInt8} (h : acc.length ≤ i) : (zco acc i c).1.length ≤ i := by
  unfold zco
  cases acc.getLast? with
  | none => exact h
  | some w => simp only; split <;> simp <;> omega
theorem zed {acc : List Wd} {i : Nat} (h : zaa (∀ x ∈ acc, x.pl + x.tx.length ≤ i)) : zaa (∀ x ∈ acc, x.pl + x.tx.length ≤ i + 1) := ⟨fun x hx => by have := h.out x hx; omega⟩
theorem zjG {acc : List Wd} {i : Nat} {c : UInt8} (h : ∀ x ∈ acc, x.pl + x.tx.length ≤ i) : ∀ x ∈ (zco acc i c).1 ++ [(zco acc i c).2], x.pl + x.tx.length ≤ i + 1 := by
  intro x hx
  unfold zco at hx
  cases h1 : acc.getLast? with
  | none =>
    rw [h1] at hx
    rcases List.mem_append.1 hx with hx | hx
    · have := h x hx; omega
    · rw [List.mem_singleton.1 hx]; simp
  | some w =>
    rw [h1] at hx
    have hw := h w (by obtain ⟨l, rfl⟩ := List.getLast?_eq_some_iff.1 h1; simp)
    simp only at hx
    split at hx
    · rcases List.mem_append.1 hx with hx | hx
      · have := h x (List.dropLast_subset _ hx); omega
      · rw [List.mem_singleton.1 hx]; simp; omega
    · rcases List.mem_append.1 hx with hx | hx
      · have := h x hx; omega
      · rw [List.mem_singleton.1 hx]; simp
theorem zkt {c : UInt8} {r : List UInt8} {i : Nat} {acc : List Wd} {R : Except Nat (List Wd)} (h : zaa (zbU (c :: r) i false acc = R)) (hn : zca c false = false) (hb : zcQ c = false) :
    zaa ((match zdC acc i c with | none => .error i | some acc' => zbU r (i + 1) false acc') = R) := by
  refine ⟨?_⟩
  have := h.out
  simp only [zbU, hn, hb, Bool.or_self, Bool.false_eq_true, if_false] at this
  exact this
theorem zgk {w : World} {base : Nat} {A : Option Addr} {c : Nat} {xs : List S136} {x : S136} (h : Kd.R k136 136 w base (fun _ => True) (.slice A (xs.length + 1) c) (xs ++ [x])) :
    ∃ g, A = some ⟨g, 0, none⟩ ∧ base ≤ g ∧ w.cell? ⟨g, xs.length * 3, none⟩ = some (.int .i64 x.f0) ∧ w.cell? ⟨g, xs.length * 3 + 1, none⟩ = some (.string x.f1) ∧ w.cell? ⟨g, xs.length * 3 + 2, none⟩ = some (.int .i64 x.f2) ∧ ∀ o, w.frozen? ⟨g, o, none⟩ = false := by
  obtain ⟨inner, ho⟩ := Kd.zfN h
  obtain ⟨hl, h1 | ⟨g, cap, cur, e, hb, hh, _⟩⟩ := ho
  · have := h1.1; simp at this
  · injection e with e1 _ _
    subst e1
    obtain ⟨ad, e2, c0, c1, c2⟩ := zkI (Kd.zbD (n := xs.length + 1) h).2.2 (xs.length : Int) (by omega) (by simp; omega)
    injection e2 with e2
    subst e2
    have hr : zeI (xs ++ [x]) (xs.length : Int) = x := by
      unfold zeI
      simp [List.getD_eq_getElem?_getD]
    rw [hr] at c0 c1 c2
    simp only [add_plain, Int.toNat_natCast] at c0 c1 c2
    exact ⟨g, rfl, hb, c0, c1, c2, fun o => zak hh o⟩
theorem zkQ {w : World} {base : Nat} {g : Nat} {c : Nat} {xs : List S136} {x : S136} (t : ByteArray) (h : Kd.R k136 136 w base (fun _ => True) (.slice (some ⟨g, 0, none⟩) (xs.length + 1) c) (xs ++ [x])) :
    Kd.R k136 136 (w.setCell ⟨g, xs.length * 3 + 1, none⟩ (.string t)) base (fun _ => True) (.slice (some ⟨g, 0, none⟩) (xs.length + 1) c) (xs ++ [⟨x.f0, t, x.f2⟩]) := by
  obtain ⟨cc, hcl, hM, hcc, _⟩ := Kd.zhq h z136 (xs.length : Int) (by omega) (by omega)
  have hr : (xs ++ [x]).getD (xs.length : Int).toNat z136 = x := by simp [List.getD_eq_getElem?_getD]
  rw [hr] at hM
  obtain rfl := ziz hM
  have := (Kd.zlA h (xs.length : Int) (by omega) (by omega) hcl hcc (j := 1) (seg := [.string t]) (Nat.le_of_ble_eq_true rfl) (x' := ⟨x.f0, t, x.f2⟩) (okp := fun _ => False) (zhr _ _ _ _) (fun _ h => h.elim)).1
  rw [show (xs ++ [x]).set (xs.length : Int).toNat ⟨x.f0, t, x.f2⟩ = xs ++ [⟨x.f0, t, x.f2⟩] by simp] at this
  exact this
theorem zk7 : (Tryd.prog.info? 136).map (fun i => (i.zero, i.size, i.bytes)) = some (some (.agg #[.int .i64 0, .string ⟨#[]⟩, .int .i64 0]), 3, 32) := by kernel_rfl
theorem zgJ {α : Type} {d : Kd α} {e : Nat} {W : World} {base g : Nat} (hg : W.heap.size = g) (hb : base ≤ W.heap.size) : d.R e (W.alloc (.cells #[] e)) base (fun _ => True) (.slice (some ⟨g, 0, none⟩) 0 0) [] := by
  subst hg
  exact ⟨fun _ _ => trivial, zb5.lit W base (inner := []) (Reps.none _ _) hb (by simp)⟩
theorem bqT {n : Nat} {k : Int} (h : (n : Int) = k) : ((n : Int) == k) = true := by simpa using h
theorem bqF {n : Nat} {k : Int} (h : ¬ (n : Int) = k) : ((n : Int) == k) = false := by simpa using h
theorem zfG {c : UInt8} {r : List UInt8} {i : Nat} {note n' : Bool} {acc : List Wd} {R : Except Nat (List Wd)} (h : zaa (zbU (c :: r) i note acc = R)) (hn : zca c note = n') (hb : (n' || zcQ c) = true) : zaa (zbU r (i + 1) n' acc = R) := by
  refine ⟨?_⟩
  have := h.out
  simp only [zbU, hn, hb, if_true] at this
  exact this
set_option maxHeartbeats 16000000 in
set_option maxRecDepth 100000 in
theorem zhZ (s : ByteArray) (hs : s.size ≤ 4000) (R : Except Nat (List Wd)) (hR : zbU (toL s) 0 false [] = R) (w : World) :
    Calls Tryd.prog 118 #[.string s] w fun e w' => ∃ v0_ : Value, e = .returned (.tuple #[v0_, .int .i64 (resR R).2]) ∧ Kd.R k136 136 w' w.heap.size (fun _ => True) v0_ (resR R).1 ∧ Below w.heap.size w w' := by
  have hl : ¬ (4000 : Int) < s.size := by omega
  have HR := zaa.mk hR
  clear hR
  go_enter Tryd.func118, Tryd.ntmps118
  go_wp2
  go_loopw [4, 5, 6] (fun v4 v5 v6 w' => ∃ (i : Nat) (acc : List Wd) (note : Bool), v5 = .bool note ∧ v6 = .int .i64 i ∧ i ≤ s.size ∧ acc.length ≤ i ∧ zaa (∀ x ∈ acc, x.pl + x.tx.length ≤ i) ∧ zaa (Kd.R k136 136 w' w.heap.size (fun _ => True) v4 (acc.map mkR)) ∧ zaa (zbU ((toL s).drop i) i note acc = R) ∧ zaa (Below w.heap.size w w')) (fun _ _ v6 _ => s.size - (intOf v6).toNat)
  case atStart => exact ⟨0, [], false, rfl, rfl, by omega, by simp, ⟨by simp⟩, ⟨Kd.zdg _ _ _ _ _⟩, HR, ⟨Below.refl _ _⟩⟩
  case round =>
    obtain ⟨i, acc, note, rfl, rfl, hi, ha, HP, HV, HR2, HB⟩ := hrel
    clear HR
    by_cases hlt : i < s.size
    · have hd : (toL s).drop i = s[i] :: (toL s).drop (i + 1) := List.drop_eq_getElem_cons (by simpa using hlt)
      have HR3 := zaa.mk (show zbU (s[i] :: (toL s).drop (i + 1)) i note acc = R by rw [← hd]; exact HR2.out)
      clear hd HR2
      obtain ⟨A, cp, rfl⟩ := Kd.zbO HV.out
      rw [List.length_map] at *
      by_cases h10 : s[i].toNat = 10
      · have a1 : ((s[i].toNat : Int) == 10) = true := bqT (by omega)
        have a2 : ((s[i].toNat : Int) == 35) = false := bqF (by omega)
        have a3 : ¬ (s[i].toNat : Int) = 32 := by omega
        have a4 : ¬ (s[i].toNat : Int) = 9 := by omega
        have HN := zfG HR3 (n' := false) (by simp [zca, h10]) (by simp [zcQ, h10])
        clear h10 HR3
        go_wp2
        go_roundw
        case rel => exact ⟨i + 1, acc, false, rfl, by simp, by omega, by omega, zed HP, HV, HN, HB⟩
        case measure => simp [intOf]; omega
      have a1 : ((s[i].toNat : Int) == 10) = false := bqF (by omega)
      by_cases h35 : s[i].toNat = 35
      · have a2 : ((s[i].toNat : Int) == 35) = true := bqT (by omega)
        have HN := zfG HR3 (n' := true) (by simp [zca, h35]) rfl
        clear h10 h35 HR3
        go_wp2
        go_roundw
        case rel => exact ⟨i + 1, acc, true, rfl, by simp, by omega, by omega, zed HP, HV, HN, HB⟩
        case measure => simp [intOf]; omega
      have a2 : ((s[i].toNat : Int) == 35) = false := bqF (by omega)
      have hnote : zca s[i] note = note := by simp [zca, h10, h35]
      cases note with
      | true =>
        have HN := zfG HR3 (n' := true) hnote rfl
        clear h10 h35 HR3 hnote
        go_wp2
        go_roundw
        case rel => exact ⟨i + 1, acc, true, rfl, by simp, by omega, by omega, zed HP, HV, HN, HB⟩
        case measure => simp [intOf]; omega
      | false =>
      by_cases hbl : zcQ s[i] = true
      · have HN := zfG HR3 (n' := false) hnote (by simp [hbl])
        have h3 := of_decide_eq_true hbl
        clear h35 HR3 hnote hbl
        by_cases h32 : s[i].toNat = 32
        · have a3 : (s[i].toNat : Int) = 32 := by omega
          clear h10 h3 h32
          go_wp2
          go_roundw
          case rel => exact ⟨i + 1, acc, false, rfl, by simp, by omega, by omega, zed HP, HV, HN, HB⟩
          case measure => simp [intOf]; omega
        have a3 : ¬ (s[i].toNat : Int) = 32 := by omega
        by_cases h9 : s[i].toNat = 9
        · have a4 : (s[i].toNat : Int) = 9 := by omega
          clear h10 h3 h32 h9
          go_wp2
          go_roundw
          case rel => exact ⟨i + 1, acc, false, rfl, by simp, by omega, by omega, zed HP, HV, HN, HB⟩
          case measure => simp [intOf]; omega
        have a4 : ¬ (s[i].toNat : Int) = 9 := by omega
        have a5 : ((s[i].toNat : Int) == 13) = true := bqT (by omega)
        clear h10 h3 h32 h9
        go_wp2
        go_roundw
        case rel => exact ⟨i + 1, acc, false, rfl, by simp, by omega, by omega, zed HP, HV, HN, HB⟩
        case measure => simp [intOf]; omega
      · have h3 : ¬ (s[i].toNat = 32 ∨ s[i].toNat = 9 ∨ s[i].toNat = 10 ∨ s[i].toNat = 13) := fun h => hbl (decide_eq_true h)
        have a3 : ¬ (s[i].toNat : Int) = 32 := by omega
        have a4 : ¬ (s[i].toNat : Int) = 9 := by omega
        have a5 : ((s[i].toNat : Int) == 13) = false := bqF (by omega)
        have a6 : ((s[i].toNat : Int) == 32) = false := bqF (by omega)
        have a7 : ((s[i].toNat : Int) == 9) = false := bqF (by omega)
        have HW := zkt HR3 hnote (eq_false_of_ne_true hbl)
        clear h10 h3 h35 hnote hbl HR3
        obtain ⟨L, hL⟩ : ∃ L, acc.length = L := ⟨_, rfl⟩
        have hv1 := HV.out
        rw [hL] at ha hv1 ⊢
        clear HV
        have HV := zaa.mk hv1
        clear hv1
        have HLn := zaa.mk hL
        clear hL
        go_upto_if 75 with (fail)
        go_cut [75] (fun v75 wc => v75 = .bool (zdP acc i s[i]) ∧ ∃ n, wc = wr.drewN n)
        case first =>
          cases hacc : acc.getLast? with
          | none =>
            have h0 : acc = [] := List.getLast?_eq_none_iff.1 hacc
            subst h0
            obtain rfl : L = 0 := HLn.out.symm
            clear hacc HW HLn
            go_wp2
            go_quiet (fail)
            go_wp2
            go_meet
            case rel => exact ⟨rfl, _, rfl⟩
          | some w0 =>
            obtain ⟨pre, rfl⟩ := List.getLast?_eq_some_iff.1 hacc
            have hp0 := HP.out w0 (by simp)
            have HL := zaa.mk (show zdP (pre ++ [w0]) i s[i] = (decide (w0.pl + w0.tx.length = i) && zbn w0.kd s[i]) by unfold zdP; rw [hacc])
            have HV2 := HV.out
            rw [List.map_append, List.map_singleton] at HV2
            obtain rfl : L = (pre.map mkR).length + 1 := by rw [← HLn.out]; simp
            obtain ⟨g, rfl, hg, c0, c1, c2, hz⟩ := zgk HV2
            have hsz : (mkR w0).f1.size = w0.tx.length := by simp [mkR]
            have hf2 : (mkR w0).f2 = (w0.pl : Int) := rfl
            have hf0 : (mkR w0).f0 = (w0.kd : Int) := rfl
            rw [hf0] at c0
            rw [hf2] at c2
            generalize (mkR w0).f1 = tx0 at *
            have hml : (pre.map mkR).length ≤ 4000 := by omega
            generalize (pre.map mkR).length = m at *
            clear hacc HW HV HV2 hf2 hf0 hz HLn
            have HC0 := zaa.mk c0
            have HC1 := zaa.mk c1
            have HC2 := zaa.mk c2
            clear c0 c1 c2
            have hi1 : (i : Int) ≤ 4000 := by omega
            have hm1 : (m : Int) ≤ 4000 := by omega
            have hw0 : (w0.pl : Int) + (tx0.size : Int) ≤ 4000 := by omega
            have s1 : IntKind.i64.wrap ((m : Int) + 1 - 1) = (m : Int) := by rw [show (m : Int) + 1 - 1 = m by omega]; exact IntWalk.i64_in _ (by omega)
            have s2 : IntKind.i64.wrap (m : Int) = (m : Int) := IntWalk.i64_in _ (by omega)
            have s3 : IntKind.i64.wrap ((w0.pl : Int) + (tx0.size : Int)) = (w0.pl : Int) + (tx0.size : Int) := IntWalk.i64_in _ (by omega)
            have s4 : (0 : Int) ≤ (m : Int) := by omega
            have s5 : (m : Int) < (m : Int) + 1 := by omega
            have HSZ := zaa.mk hsz
            clear hsz
            by_cases hop : w0.pl + w0.tx.length = i
            · have t2 : ((w0.pl : Int) + (tx0.size : Int) == (i : Int)) = true := by have := HSZ.out; simp; omega
              have HL2 := zaa.mk (show zdP (pre ++ [w0]) i s[i] = zbn w0.kd s[i] by rw [HL.out, decide_eq_true hop, Bool.true_and])
              have c0 := HC0.out
              have c1 := HC1.out
              have c2 := HC2.out
              have HM := zaa.mk (fun w => zbE.calls _ _ _ w (zjL w0.kd s[i]))
              clear hop
              go_wp2
              go_quiet ((go_at_call 143; exact Calls.quiet_of ((HM.out _).mono fun e w' ⟨he, ⟨nd, hd⟩⟩ => ⟨he, nd, hd⟩)))
              go_wp2
              go_meet
              case rel => exact ⟨by rw [HL2.out], _, rfl⟩
            · have t2 : ((w0.pl : Int) + (tx0.size : Int) == (i : Int)) = false := by have := HSZ.out; simp; omega
              have HL2 := zaa.mk (show zdP (pre ++ [w0]) i s[i] = false by rw [HL.out, decide_eq_false hop, Bool.false_and])
              have c0 := HC0.out
              have c1 := HC1.out
              have c2 := HC2.out
              clear hop
              go_wp2
              go_quiet (fail)
              go_wp2
              go_meet
              case rel => exact ⟨by rw [HL2.out], _, rfl⟩
        case rest =>
          obtain ⟨rfl, n, rfl⟩ := hcut
          have b1 : IntKind.i64.wrap ((i : Int) + 1) = (i : Int) + 1 := IntWalk.i64_in _ (by omega)
          have b2 : (0 : Int) ≤ (i : Int) := by omega
          have b3 : (i : Int) ≤ (i : Int) + 1 := by omega
          have b4 : (i : Int) + 1 ≤ (s.size : Int) := by omega
          have b5 : ((i : Int) + 1).toNat = i + 1 := by omega
          have HX := zaa.mk (show s.extract i (i + 1) = ofL [s[i]] by
            apply zgK
            rw [zfS, List.drop_eq_getElem_cons (by simpa using hlt), zc3, show i + 1 - i = 1 by omega]
            rfl)
          go_upto_if 75 with (fail)
          go_cut [4] (fun v4 wc => ∃ v, v4 = v ∧ zaa (Kd.R k136 136 wc w.heap.size (fun _ => True) v ((zco acc i s[i]).1.map mkR ++ [mkR (zco acc i s[i]).2])) ∧ zaa (Below w.heap.size w wc))
          case first =>
            obtain ⟨kk, hkk⟩ := (zj3 s[i]).rounds
            have HK := zaa.mk (fun w => zaO.calls kk _ _ w hkk)
            clear hkk HW
            by_cases hop : zdP acc i s[i] = true
            · obtain ⟨pre, w0, hacc, h1, h2⟩ : ∃ pre w0, acc = pre ++ [w0] ∧ w0.pl + w0.tx.length = i ∧ zbn w0.kd s[i] = true := by
                cases h : acc.getLast? with
                | none => unfold zdP at hop; rw [h] at hop; cases hop
                | some w0 =>
                  obtain ⟨pre, e⟩ := List.getLast?_eq_some_iff.1 h
                  unfold zdP at hop
                  rw [h] at hop
                  simp only [Bool.and_eq_true, decide_eq_true_eq] at hop
                  exact ⟨pre, w0, e, hop.1, hop.2⟩
              have HO := zaa.mk (show zco acc i s[i] = (pre, ⟨w0.kd, w0.tx ++ [s[i]], w0.pl⟩) by
                unfold zco
                rw [show acc.getLast? = some w0 by rw [hacc, List.getLast?_concat]]
                simp only
                rw [if_pos hop, hacc, List.dropLast_concat])
              rw [hop]
              subst hacc
              obtain rfl : L = (pre.map mkR).length + 1 := by rw [← HLn.out]; simp
              have hv2 := Kd.zbl HV.out n
              rw [List.map_append, List.map_singleton] at hv2
              obtain ⟨g, rfl, hg, c0, c1, c2, hz⟩ := zgk hv2
              have z1 := hz ((pre.map mkR).length * 3 + 1)
              have HVn := zaa.mk hv2
              have HBn := zaa.mk (zab HB.out n)
              have HSZ := zaa.mk (show (mkR w0).f1.size ≤ 4000 by simp [mkR]; omega)
              have hml : (pre.map mkR).length ≤ 4000 := by omega
              clear hop hv2 hz HV HB h1 h2 HLn
              generalize wr.drewN n = w1 at *
              generalize htx : (mkR w0).f1 = tx0 at *
              have HTX := zaa.mk htx
              have HC0 := zaa.mk c0
              have HC2 := zaa.mk c2
              have HEX := zaa.mk (show (s.extract i (i + 1)).size = 1 by rw [HX.out]; rfl)
              clear htx c0 c2
              generalize hm : (pre.map mkR).length = m at *
              have HM := zaa.mk hm
              clear hm
              have hm1 : (m : Int) ≤ 4000 := by omega
              have s1 : IntKind.i64.wrap ((m : Int) + 1 - 1) = (m : Int) := by rw [show (m : Int) + 1 - 1 = m by omega]; exact IntWalk.i64_in _ (by omega)
              have s2 : IntKind.i64.wrap (m : Int) = (m : Int) := IntWalk.i64_in _ (by omega)
              have s4 : (0 : Int) ≤ (m : Int) := by omega
              have s5 : (m : Int) < (m : Int) + 1 := by omega
              have s6 : ¬ 9223372036854775807 < tx0.size + (min (i + 1) s.size - i) := by have := HSZ.out; omega
              go_wp2
              go_region
              go_wp2
              go_meet
              case rel =>
                have hv := HVn.out
                rw [← HM.out] at hv
                have hR := zkQ (tx0 ++ s.extract i (i + 1)) hv
                rw [HM.out] at hR
                refine ⟨_, rfl, ⟨?_⟩, ⟨zcE (HBn.out.setCell (p := ⟨g, m * 3 + 1, none⟩) hg _)⟩⟩
                rw [HO.out]
                have e : mkR ⟨w0.kd, w0.tx ++ [s[i]], w0.pl⟩ = ⟨(mkR w0).f0, tx0 ++ s.extract i (i + 1), (mkR w0).f2⟩ := by
                  rw [HX.out, ← HTX.out]
                  unfold mkR
                  congr 1
                rw [e]
                exact hR
            · have HO := zaa.mk (show zco acc i s[i] = (acc, ⟨zbd s[i], [s[i]], i⟩) by
                unfold zco
                cases acc.getLast? with
                | none => rfl
                | some w => simp only; rw [if_neg hop])
              rw [eq_false_of_ne_true hop]
              clear hop
              have HVn := zaa.mk (Kd.zbl HV.out n)
              have HBn := zaa.mk (zab HB.out n)
              generalize wr.drewN n = w1 at *
              have hlm : L ≤ 4000 := by omega
              go_wp2
              go_region_law (first | (go_simp; go_at_call 144; refine (HK.out _).mono ?_; rintro e w' ⟨rfl, ⟨nd, rfl⟩⟩) | (refine Kd.zd1 k136 (w0 := w) w.heap.size (by rfl) (.tmp 90) (.tmp 100) 183 136 (.agg #[.int .i64 0, .string ⟨#[]⟩, .int .i64 0]) 32 rfl Tryd.underlying183 zk7 rfl (by decide) (by decide) (.slice A L cp) (acc.map mkR) (⟨zbd s[i], s.extract i (i + 1), i⟩ : S136) [.int .i64 (zbd s[i]), .string (s.extract i (i + 1)), .int .i64 i] (fun _ => True) (fun _ => False) rfl rfl (zhr _ _ _ _) (fun _ h => h.elim) (fun _ _ => trivial) (Kd.zbl HVn.out _) (zab HBn.out _) (by have := HBn.out.size; exact this) (by rw [List.length_map, HLn.out]; omega) ?_; intro v1 w2 ho hb _ _))
              go_wp2
              go_meet
              case rel => exact ⟨_, rfl, ⟨by rw [HO.out]; rw [HX.out] at ho; exact ho⟩, ⟨hb⟩⟩
          case rest =>
            obtain ⟨v, rfl, HV', HB'⟩ := hcut
            have hst := HW.out
            rw [zh4] at hst
            have hll := zkP (c := s[i]) (show acc.length ≤ i by rw [HLn.out]; exact ha)
            have HE := zaa.mk (zjG (acc := acc) (i := i) (c := s[i]) HP.out)
            generalize zco acc i s[i] = q at *
            obtain ⟨Aq, cq, rfl⟩ := Kd.zbO HV'.out
            have hv := HV'.out
            rw [List.length_append, List.length_singleton] at hv
            rw [List.length_append, List.length_singleton]
            obtain ⟨g, rfl, hg, c0, c1, c2, hz⟩ := zgk hv
            have HX2 := zaa.mk (show (mkR q.2).f1.size = q.2.tx.length by simp [mkR])
            have hf0 : (mkR q.2).f0 = (q.2.kd : Int) := rfl
            rw [hf0] at c0
            generalize (mkR q.2).f1 = tx at *
            generalize (mkR q.2).f2 = pl at *
            have HST := zaa.mk hst
            have HV2 := zaa.mk hv
            have hmm : (q.1.map mkR).length ≤ i := by rw [List.length_map]; exact hll
            generalize hm : (q.1.map mkR).length = m at *
            have HM := zaa.mk hm
            clear hm hst hv hz hf0 HV' HV HW hll
            have hm1 : (m : Int) ≤ 4000 := by omega
            have s1 : IntKind.i64.wrap ((m : Int) + 1 - 1) = (m : Int) := by rw [show (m : Int) + 1 - 1 = m by omega]; exact IntWalk.i64_in _ (by omega)
            have s2 : IntKind.i64.wrap (m : Int) = (m : Int) := IntWalk.i64_in _ (by omega)
            have s4 : (0 : Int) ≤ (m : Int) := by omega
            have s5 : (m : Int) < (m : Int) + 1 := by omega
            by_cases hk0 : q.2.kd = 0
            · have t1 : ((q.2.kd : Int) == 0) = true := by simp [hk0]
              have HF := zaa.mk (show R = .error i by rw [← HST.out, if_pos (.inl hk0)])
              clear hk0
              go_wp2
              go_quiet (fail)
              go_wp2
              go_ret2
              rw [HF.out]
              refine ⟨_, rfl, ?_, ?_⟩
              · exact zgJ (by simp) (zac HB'.out _).size
              · exact zac (zab (zac HB'.out _) _) _
            · have t1 : ((q.2.kd : Int) == 0) = false := by simpa using hk0
              have HM2 := zaa.mk (fun w => zcg.calls _ _ w (zjY q.2.kd))
              have hst2 := HST.out
              generalize zce q.2.kd = mo at *
              by_cases hlen : mo < q.2.tx.length
              · have HF := zaa.mk (show R = .error i by rw [← hst2, if_pos (.inr hlen)])
                have t2 : (mo : Int) < (tx.size : Int) := by have := HX2.out; omega
                clear hst2 hlen hk0
                go_wp2
                go_quiet ((go_at_call 145; exact Calls.quiet_of ((HM2.out _).mono fun e w' ⟨he, ⟨nd, hd⟩⟩ => ⟨he, nd, hd⟩)))
                go_wp2
                go_ret2
                rw [HF.out]
                refine ⟨_, rfl, ?_, ?_⟩
                · exact zgJ (by simp) (zac HB'.out _).size
                · exact zac (zab (zac HB'.out _) _) _
              · rw [if_neg (by omega)] at hst2
                have t2 : ¬ (mo : Int) < (tx.size : Int) := by have := HX2.out; omega
                have t3 : decide ((mo : Int) < (tx.size : Int)) = false := decide_eq_false t2
                have HN := zaa.mk hst2
                clear hst2 hlen hk0
                go_wp2
                go_quiet ((go_at_call 145; exact Calls.quiet_of ((HM2.out _).mono fun e w' ⟨he, ⟨nd, hd⟩⟩ => ⟨he, nd, hd⟩)))
                go_wp2
                go_roundw
                case rel =>
                  refine ⟨i + 1, q.1 ++ [q.2], false, rfl, by simp, by omega, ?_, HE, ⟨?_⟩, HN, ⟨?_⟩⟩
                  · have := HM.out; simp at this ⊢; omega
                  · rw [List.map_append, List.map_singleton]; exact Kd.zbl (Kd.zbo HV2.out _) _
                  · exact zab (zac HB'.out _) _
                case measure => simp [intOf]; omega
    · obtain rfl : i = s.size := by omega
      have hr := HR2.out
      rw [List.drop_of_length_le (by simp)] at hr
      have HF := zaa.mk (show R = .ok acc from hr.symm)
      clear hr HR2
      go_wp2
      go_ret2
      rw [HF.out]
      exact ⟨_, rfl, HV.out, HB.out⟩
set_option maxHeartbeats 400000 in
theorem zc6.calls (a0 : ByteArray) (r1 : List S136) (r2 : Int) (w : World) (h : zc6.f a0 = some (r1, r2)) :
    Calls Tryd.prog 118 #[.string a0] w fun e w' => ∃ v0_ : Value, e = .returned (.tuple #[v0_, .int .i64 r2]) ∧ Kd.R k136 136 w' w.heap.size (fun _ => True) v0_ r1 ∧ Below w.heap.size w w' := by
  have h' := Option.some.inj h
  by_cases hs : a0.size ≤ 4000
  · rw [← zjn _ (by rw [zcD]; exact hs)] at h'
    have := zhZ a0 hs _ rfl w
    rw [h'] at this
    exact this
  · have e : zdQ (toL a0) = .error 4000 := by unfold zdQ; rw [if_pos (by rw [zcD]; omega)]
    rw [e] at h'
    simp only [resR, Prod.mk.injEq] at h'
    obtain ⟨rfl, rfl⟩ := h'
    have hl : (4000 : Int) < a0.size := by omega
    clear h e hs
    go_enter Tryd.func118, Tryd.ntmps118
    go_wp2
    go_ret2
    refine ⟨_, rfl, ?_, ?_⟩
    · exact zgJ rfl (Nat.le_refl _)
    · exact zac (Below.refl _ _) _
end Go.Proofs.YtbicjgaadknmfaaDoor.P
end
section
namespace Go.Proofs
open Go.Shelf
def Tryd.zfU : Go.Shelf.Ren := ⟨fun | 169 => 70 | n => n, fun | 70 => 110 | 9 => 9 | 0 => 0 | 72 => 113 | 37 => 111 | 127 => 180 | 3 => 3 | 5 => 5 | n => n, fun | n => n⟩
theorem Tryd.zk0 : Go.Proofs.Lays.n169 Tryd.prog Tryd.zfU := {
  mixed := by kernel_rfl
  f169 := Tryd.func70.trans (congrArg some (by kernel_rfl))
  t0 := Tryd.underlying0
  a0 := Tryd.isAgg0
  z0 := Tryd.sizeOf0
  v0 := Tryd.zeroValue0
  t3 := Tryd.underlying3
  a3 := Tryd.isAgg3
  z3 := Tryd.sizeOf3
  v3 := Tryd.zeroValue3
  t9 := Tryd.underlying9
  a9 := Tryd.isAgg9
  z9 := Tryd.sizeOf9
  v9 := Tryd.zeroValue9
  t37 := Tryd.underlying111
  a37 := Tryd.isAgg111
  z37 := Tryd.sizeOf111
  v37 := Tryd.zeroValue111
  t70 := Tryd.underlying110
  a70 := Tryd.isAgg110
  z70 := Tryd.sizeOf110
  v70 := Tryd.zeroValue110
  t72 := Tryd.underlying113
  a72 := Tryd.isAgg113
  z72 := Tryd.sizeOf113
  v72 := Tryd.zeroValue113
  t127 := Tryd.underlying180
  a127 := Tryd.isAgg180
  z127 := Tryd.sizeOf180
  v127 := Tryd.zeroValue180 }
theorem Tryd.zfO : Builder.Extra Tryd.prog Tryd.zfU := {
  sizeBuilder := by kernel_rfl
  liesBuilder := by kernel_rfl
  t5 := Tryd.underlying5
  a5 := Tryd.isAgg5
  z5 := Tryd.sizeOf5
  v5 := Tryd.zeroValue5
  infoByte := by kernel_rfl
  cellsByte := by kernel_rfl
  sizeByte := by kernel_rfl
  neB5 := by decide }
open Go.RowKit in
theorem Tryd.Builder_String_any (B b : Nat) (l : List UInt8) (w : World) (h : Lib.IsBuilder 113 5 B b (Lib.byteCells l) w) (hBw : B ≤ w.heap.size) :
    Calls Tryd.prog 70 #[.pointer (some ⟨b, 0, none⟩)] w fun e w' => e = .returned (.string ⟨l.toArray⟩) ∧ Below B w w' := Any.Builder_String_any Tryd.zk0 Tryd.zfO B b l w h hBw
def Tryd.zf1 : Go.Shelf.Ren := ⟨fun | 156 => 101 | 165 => 132 | 166 => 68 | 169 => 70 | 240 => 111 | 241 => 151 | 276 => 139 | 277 => 167 | n => n, fun | 31 => 106 | 9 => 9 | 3 => 3 | 4 => 4 | 0 => 0 | 20 => 20 | 72 => 113 | 76 => 116 | 70 => 110 | 37 => 111 | 75 => 115 | 127 => 180 | 164 => 200 | 5 => 5 | 80 => 119 | n => n, fun | n => n⟩
theorem Tryd.zgB : Go.Proofs.Lays.n156 Tryd.prog Tryd.zf1 := {
  mixed := by kernel_rfl
  f156 := Tryd.func101.trans (congrArg some (by kernel_rfl))
  f165 := Tryd.func132.trans (congrArg some (by kernel_rfl))
  f166 := Tryd.func68.trans (congrArg some (by kernel_rfl))
  f169 := Tryd.func70.trans (congrArg some (by kernel_rfl))
  f240 := Tryd.func111.trans (congrArg some (by kernel_rfl))
  f241 := Tryd.func151.trans (congrArg some (by kernel_rfl))
  f276 := Tryd.func139.trans (congrArg some (by kernel_rfl))
  f277 := Tryd.func167.trans (congrArg some (by kernel_rfl))
  t0 := Tryd.underlying0
  a0 := Tryd.isAgg0
  z0 := Tryd.sizeOf0
  v0 := Tryd.zeroValue0
  t3 := Tryd.underlying3
  a3 := Tryd.isAgg3
  z3 := Tryd.sizeOf3
  v3 := Tryd.zeroValue3
  t4 := Tryd.underlying4
  a4 := Tryd.isAgg4
  z4 := Tryd.sizeOf4
  v4 := Tryd.zeroValue4
  t9 := Tryd.underlying9
  a9 := Tryd.isAgg9
  z9 := Tryd.sizeOf9
  v9 := Tryd.zeroValue9
  t20 := Tryd.underlying20
  a20 := Tryd.isAgg20
  z20 := Tryd.sizeOf20
  v20 := Tryd.zeroValue20
  t31 := Tryd.underlying106
  a31 := Tryd.isAgg106
  z31 := Tryd.sizeOf106
  v31 := Tryd.zeroValue106
  t37 := Tryd.underlying111
  a37 := Tryd.isAgg111
  z37 := Tryd.sizeOf111
  v37 := Tryd.zeroValue111
  t70 := Tryd.underlying110
  a70 := Tryd.isAgg110
  z70 := Tryd.sizeOf110
  v70 := Tryd.zeroValue110
  t72 := Tryd.underlying113
  a72 := Tryd.isAgg113
  z72 := Tryd.sizeOf113
  v72 := Tryd.zeroValue113
  t75 := Tryd.underlying115
  a75 := Tryd.isAgg115
  z75 := Tryd.sizeOf115
  v75 := Tryd.zeroValue115
  t76 := Tryd.underlying116
  a76 := Tryd.isAgg116
  z76 := Tryd.sizeOf116
  v76 := Tryd.zeroValue116
  t127 := Tryd.underlying180
  a127 := Tryd.isAgg180
  z127 := Tryd.sizeOf180
  v127 := Tryd.zeroValue180
  t164 := Tryd.underlying200
  a164 := Tryd.isAgg200
  z164 := Tryd.sizeOf200
  v164 := Tryd.zeroValue200 }
theorem Tryd.zdp : Builder.Extra Tryd.prog Tryd.zf1 := {
  sizeBuilder := by kernel_rfl
  liesBuilder := by kernel_rfl
  t5 := Tryd.underlying5
  a5 := Tryd.isAgg5
  z5 := Tryd.sizeOf5
  v5 := Tryd.zeroValue5
  infoByte := by kernel_rfl
  cellsByte := by kernel_rfl
  sizeByte := by kernel_rfl
  neB5 := by decide }
open Go.RowKit in
theorem Tryd.strings_Join_none (a : Option Addr) (c : Nat) (sep : ByteArray) (w : World) :
    Calls Tryd.prog 101 #[.slice a 0 c, .string sep] w fun e w' => e = .returned (.string ⟨#[]⟩) ∧ w' = w := Any.strings_Join_none Tryd.zgB Tryd.zdp a c sep w
open Go.RowKit in
theorem Tryd.strings_Join (bk o c : Nat) (xs : List ByteArray) (sep : ByteArray) (w : World) (hcells : ∀ (j : Nat) x, xs[j]? = some x → w.cell? ⟨bk, o + j, none⟩ = some (.string x)) (hbk : bk < w.heap.size) (hN : xs.length ≤ 140737488355328) (hcap : xs.length ≤ c) (hlen : (Lib.join (xs.map (·.data.toList)) sep.data.toList).length ≤ 140737488355328) :
    Calls Tryd.prog 101 #[.slice (some ⟨bk, o, none⟩) xs.length c, .string sep] w fun e w' => e = .returned (.string ⟨(Lib.join (xs.map (·.data.toList)) sep.data.toList).toArray⟩) ∧ Below w.heap.size w w' := Any.strings_Join Tryd.zgB Tryd.zdp bk o c xs sep w hcells hbk hN hcap hlen
def Tryd.zhV : Go.Shelf.Ren := ⟨fun | 219 => 162 | 217 => 181 | 225 => 180 | 224 => 179 | 267 => 182 | 266 => 193 | 314 => 194 | n => n, fun | 9 => 9 | 3 => 3 | 4 => 4 | 5 => 5 | 46 => 167 | 146 => 197 | 51 => 101 | n => n, fun | 1 => 2 | n => n⟩
theorem Tryd.zks : Go.Proofs.Lays.n219 Tryd.prog Tryd.zhV := {
  mixed := by kernel_rfl
  f217 := Tryd.func181.trans (congrArg some (by kernel_rfl))
  f219 := Tryd.func162.trans (congrArg some (by kernel_rfl))
  f224 := Tryd.func179.trans (congrArg some (by kernel_rfl))
  f225 := Tryd.func180.trans (congrArg some (by kernel_rfl))
  f266 := Tryd.func193.trans (congrArg some (by kernel_rfl))
  f267 := Tryd.func182.trans (congrArg some (by kernel_rfl))
  f314 := Tryd.func194.trans (congrArg some (by kernel_rfl))
  t3 := Tryd.underlying3
  a3 := Tryd.isAgg3
  z3 := Tryd.sizeOf3
  v3 := Tryd.zeroValue3
  t4 := Tryd.underlying4
  a4 := Tryd.isAgg4
  z4 := Tryd.sizeOf4
  v4 := Tryd.zeroValue4
  t5 := Tryd.underlying5
  a5 := Tryd.isAgg5
  z5 := Tryd.sizeOf5
  v5 := Tryd.zeroValue5
  t9 := Tryd.underlying9
  a9 := Tryd.isAgg9
  z9 := Tryd.sizeOf9
  v9 := Tryd.zeroValue9
  t46 := Tryd.underlying167
  a46 := Tryd.isAgg167
  z46 := Tryd.sizeOf167
  v46 := Tryd.zeroValue167
  t51 := Tryd.underlying101
  a51 := Tryd.isAgg101
  z51 := Tryd.sizeOf101
  v51 := Tryd.zeroValue101
  t146 := Tryd.underlying197
  a146 := Tryd.isAgg197
  z146 := Tryd.sizeOf197
  v146 := Tryd.zeroValue197
  g1 := by kernel_rfl }
open Go.RowKit Go.Lib in
theorem Tryd.stringslite_Index_one (s : ByteArray) (c : UInt8) (w : World) :
    Calls Tryd.prog 162 #[.string s, .string ⟨#[c]⟩] w fun e w' => e = .returned (.int .i64 (Lib.indexByte s.data.toList c)) ∧ w' = w := Any.stringslite_Index_one Tryd.zks s c w
end Go.Proofs
end
section
namespace Go.Proofs.YtbicjgaadknmfaaDoor.P
open Go.RowKit Go.Proofs.YtbicjgaadknmfaaDoorW.PrintWords
set_option linter.unusedVariables false
set_option linter.unusedSimpArgs false
def zcC : ByteArray := ⟨#[43, 45, 42, 47, 94, 40, 41, 91, 93, 44, 59, 61]⟩
def zfE (c : Int) : Bool := zcC.data.toList.any fun b => decide ((b.toNat : Int) = c)
def zcK (c : Int) (n : Nat) : Bool := (zcC.data.toList.take n).any fun b => decide ((b.toNat : Int) = c)
def zcs.f (a0 : Int) : Option Bool := if 0 ≤ a0 then if a0 < 256 then some (zfE a0) else none else none
theorem zk4 (c : Int) : zcK c 0 = false := rfl
theorem zha (c : Int) (n : Nat) (h : n < zcC.size) : zcK c (n + 1) = (zcK c n || decide (((zcC[n]'h).toNat : Int) = c)) := by
  unfold zcK
  rw [List.take_succ_eq_append_getElem (by simpa using h), List.any_append]
  simp only [List.any_cons, List.any_nil, Bool.or_false]
  rfl
theorem zfz (c : Int) : zcK c zcC.size = zfE c := by
  unfold zcK zfE
  rw [List.take_of_length_le (by simp)]
theorem zj6 (n : Nat) (h : n < zcC.size) : (zcC[n]'h).toNat < 128 := by
  have : ∀ m : Fin 12, (zcC.data[m.1]'(by have := m.2; exact this)).toNat < 128 := by decide
  exact this ⟨n, h⟩
set_option maxHeartbeats 1000000 in
set_option maxRecDepth 100000 in
theorem zcs.calls (a0 : Int) (r : Bool) (w : World) (h : zcs.f a0 = some r) :
    Calls Tryd.prog 126 #[.int .u8 a0] w fun e w' => e = .returned (.bool r) ∧ Below w.heap.size w w' := by
  unfold zcs.f at h
  split at h
  case isFalse => cases h
  case isTrue h0 =>
  split at h
  case isFalse => cases h
  case isTrue h1 =>
  injection h with h
  have hs : zcC.size = 12 := rfl
  go_enter Tryd.func126, Tryd.ntmps126
  go_wp2
  go_loopw [4] (fun v w' => ∃ (pos : Nat), w' = w.iter zcC pos ∧ pos ≤ 12 ∧ zcK a0 pos = false) (fun _ w' => 12 - w'.iterPos w.heap.size)
  case atStart => exact ⟨0, rfl, by omega, rfl⟩
  case round =>
    obtain ⟨pos, rfl, hp, hu⟩ := hrel
    by_cases hlt : pos < zcC.size
    · have ha := zj6 pos hlt
      have hnx : ∀ ty, (Instr.next (.pointer (some ⟨w.heap.size, 0, none⟩)) true ty).run Tryd.prog (w.iter zcC pos) = _ := fun ty => run_next_ascii w zcC pos ty hlt ha
      have hsu := zaa.mk (zha a0 pos hlt)
      have hu' := zaa.mk hu
      clear hu
      generalize (zcC[pos]'hlt).toNat = b at *
      by_cases hb : (b : Int) = a0
      · have hR : zfE a0 = true := by
          have e1 := hsu.out
          rw [hu'.out, decide_eq_true hb] at e1
          have : ∀ n, n ≤ 12 → zcK a0 n = true → zcK a0 12 = true := by
            intro n hn hh
            unfold zcK at *
            rw [List.any_eq_true] at *
            obtain ⟨x, hx, hx2⟩ := hh
            exact ⟨x, (List.take_sublist_take_left hn).subset hx, hx2⟩
          rw [← zfz, hs]
          exact this (pos + 1) (by omega) (by simpa using e1)
        rw [hR] at h
        subst h
        clear hR hsu hu'
        go_wp2
        go_ret
        exact ⟨rfl, (Below.refl _ _).alloc (Nat.le_refl _) _⟩
      · have hb' : decide ((b : Int) = a0) = false := decide_eq_false hb
        have hu2 : zaa (zcK a0 (pos + 1) = false) := ⟨by rw [hsu.out, hu'.out, hb']; rfl⟩
        have hb2 : ((b : Int) == a0) = false := by simpa using hb
        have hb3 : (b : Int) < 128 := by omega
        clear hsu hu'
        go_wp2
        go_roundw
        case rel => exact ⟨pos + 1, rfl, by omega, hu2.out⟩
        case measure => simp; omega
    · have hp2 : pos = 12 := by omega
      have hR : zfE a0 = false := by rw [← zfz, hs, ← hp2]; exact hu
      rw [hR] at h
      subst h
      have hnx : ∀ ty, (Instr.next (.pointer (some ⟨w.heap.size, 0, none⟩)) true ty).run Tryd.prog (w.iter zcC pos) = _ := fun ty => run_next_end w zcC pos ty hlt
      clear hR hu hp2
      go_wp2
      go_ret
      exact ⟨rfl, (Below.refl _ _).alloc (Nat.le_refl _) _⟩
def cutAt (s : ByteArray) (c : UInt8) : Int := Lib.indexByte s.data.toList c
theorem zeX {n : Nat} {q : Prop} (h : n = 1 ∧ q) : 0 < n := by omega
def strings_Cut.f (a0 a1 : ByteArray) : Option (ByteArray × ByteArray × Bool) :=
  if h : a1.size = 1 ∧ a0.size ≤ 140737488351232 then
    if (0 : Int) ≤ cutAt a0 (a1[0]'(zeX h)) then some (a0.extract 0 (cutAt a0 (a1[0]'(zeX h))).toNat, a0.extract ((cutAt a0 (a1[0]'(zeX h))).toNat + 1) a0.size, true)
    else some (a0, (⟨#[]⟩ : ByteArray), false)
  else none
theorem one_byte (s : ByteArray) (h : s.size = 1) : s = ⟨#[s[0]'(by omega)]⟩ := by
  obtain ⟨⟨l⟩⟩ := s
  match l, h with
  | [x], _ => rfl
theorem zhS (l : List UInt8) (c : UInt8) : Lib.indexByte l c < l.length ∨ (Lib.indexByte l c = -1) := by
  induction l with
  | nil => right; rfl
  | cons b l ih =>
    unfold Lib.indexByte
    have := Lib.indexByte_ge l c
    split
    · left; simp
    · split
      · right; rfl
      · rename_i h2
        have h2' : Lib.indexByte l c ≠ -1 := by simpa using h2
        left
        rcases ih with ih | ih
        · simp; omega
        · exact absurd ih h2'
set_option maxHeartbeats 1000000 in
theorem zjm (s : ByteArray) (c : UInt8) (w : World) (hs : s.size ≤ 140737488351232) (r1 r2 : ByteArray) (r3 : Bool) (h : strings_Cut.f s ⟨#[c]⟩ = some (r1, r2, r3)) :
    Calls Tryd.prog 146 #[.string s, .string ⟨#[c]⟩] w fun e w' => e = .returned (.tuple #[.string r1, .string r2, .bool r3]) ∧ zar w w' := by
  have hsz : (⟨#[c]⟩ : ByteArray).size = 1 := rfl
  have hlt := zhS s.data.toList c
  have hge := Lib.indexByte_ge s.data.toList c
  have hl : s.data.toList.length = s.size := by simp
  rw [hl] at hlt
  clear hl
  unfold strings_Cut.f at h
  rw [dif_pos ⟨hsz, hs⟩] at h
  rw [show ((⟨#[c]⟩ : ByteArray)[0]'(by rw [hsz]; omega)) = c from rfl] at h
  unfold cutAt at h
  have HI := zaa.mk (Tryd.stringslite_Index_one s c)
  generalize Lib.indexByte s.data.toList c = i at *
  clear hsz
  by_cases h0 : 0 ≤ i
  · rw [if_pos h0] at h
    simp only [Option.some.injEq, Prod.mk.injEq] at h
    obtain ⟨rfl, rfl, rfl⟩ := h
    obtain ⟨n, rfl⟩ := Int.eq_ofNat_of_zero_le h0
    have c1 : (0 : Int) ≤ ↑n := h0
    have c2 : (↑n : Int) ≤ ↑s.size := by omega
    have c3 : (0 : Int) ≤ ↑n + 1 := by omega
    have c4 : (↑n + 1 : Int) ≤ ↑s.size := by omega
    clear hlt hge h0
    go_enter Tryd.func146, Tryd.ntmps146
    go_wp2_with (go_at_call 162; refine (HI.out _).mono ?_; rintro e w' ⟨rfl, rfl⟩)
    go_region
    go_wp2
    go_ret3
    exact ⟨by simp, ⟨⟨1, rfl⟩⟩⟩
  · rw [if_neg h0] at h
    simp only [Option.some.injEq, Prod.mk.injEq] at h
    obtain ⟨rfl, rfl, rfl⟩ := h
    have c0 : ¬ (0 : Int) ≤ i := h0
    clear hlt hge
    go_enter Tryd.func146, Tryd.ntmps146
    go_wp2_with (go_at_call 162; refine (HI.out _).mono ?_; rintro e w' ⟨rfl, rfl⟩)
    go_ret3
    exact ⟨rfl, zar.refl _⟩
set_option maxHeartbeats 1000000 in
theorem strings_Cut.calls (a0 a1 : ByteArray) (r1 r2 : ByteArray) (r3 : Bool) (w : World) (h : strings_Cut.f a0 a1 = some (r1, r2, r3)) :
    Calls Tryd.prog 119 #[.string a0, .string a1] w fun e w' => e = .returned (.tuple #[.string r1, .string r2, .bool r3]) ∧ zar w w' := by
  have h1 : a1.size = 1 ∧ a0.size ≤ 140737488351232 := by
    unfold strings_Cut.f at h
    split at h
    · assumption
    · cases h
  have HE := zaa.mk (one_byte a1 h1.1)
  have hs := h1.2
  generalize a1[0]'(by omega) = c at HE
  obtain rfl := HE.out
  have HC := zaa.mk (fun w => zjm a0 c w hs r1 r2 r3 h)
  clear h h1 HE
  go_enter Tryd.func119, Tryd.ntmps119
  go_wp2_with (go_at_call 146; refine (HC.out _).mono ?_; rintro e w' ⟨rfl, ⟨nq, rfl⟩⟩)
  go_ret3
  exact ⟨rfl, ⟨⟨nq, rfl⟩⟩⟩
end Go.Proofs.YtbicjgaadknmfaaDoor.P
end
section
namespace Go.Proofs.YtbicjgaadknmfaaDoor.P
open Go.RowKit Go.Proofs.YtbicjgaadknmfaaDoorW.PrintWords Go.Proofs.YtbicjgaadknmfaaDoorW.PrintLast Go.Proofs.YtbicjgaadknmfaaDoorW.PrintMore
attribute [local go_sem] zcu zcp zcl zck zbZ zbX zb9 zb7
set_option linter.unusedVariables false
set_option linter.unusedSimpArgs false
def zej.f (a0 : Int) : Option (Int) := (zbL.f a0).bind fun t118 => (if t118 = true then (some 1) else ((zbF.f a0).bind fun t119 => (if t119 = true then (some 2) else ((zcs.f a0).bind fun t120 => (if t120 = true then (some 3) else (some 0))))))
set_option maxHeartbeats 8000000 in
set_option maxRecDepth 100000 in
theorem zej.calls (a0 : Int) (r : Int) (w : World) (h : zej.f a0 = some r) :
  Calls Tryd.prog 93 #[.int .u8 a0] w fun e w' => e = .returned (.int .i64 r) ∧ Below w.heap.size w w' := by
 have HB := zaa.mk (Below.refl w.heap.size w)
 have H : ((zbL.f a0).bind fun t118 => (if t118 = true then (some 1) else ((zbF.f a0).bind fun t119 => (if t119 = true then (some 2) else ((zcs.f a0).bind fun t120 => (if t120 = true then (some 3) else (some 0))))))) = some r := h
 clear h
 replace H := Option.bind_eq_some_iff.mp H
 obtain ⟨t118, A20, H⟩ := H
 replace H : (if t118 = true then (some 1) else ((zbF.f a0).bind fun t119 => (if t119 = true then (some 2) else ((zcs.f a0).bind fun t120 => (if t120 = true then (some 3) else (some 0)))))) = some r := H
 have A2 := zaa.mk A20
 clear A20
 by_cases c3 : t118 = true
 ·subst c3
  have H1 : (some 1) = some r := by rw [if_pos rfl] at H; exact H
  clear H
  have H := H1
  clear H1
  obtain rfl := Option.some.inj H
  go_enter Tryd.func93, Tryd.ntmps93
  go_wp2_with (first | ((with_reducible refine zaI (f := 124) rfl ?_); refine za5 (some 5) rfl rfl Tryd.func124 (by kernel_rfl) rfl #[.int .u8 a0] rfl (by (try simp only [List.map_toArray, List.map_cons, List.map_nil]); first | done | rfl | (simp only [List.length_drop, List.length_take]; rfl)) ?_; (with_reducible refine (zbL.calls a0 true _ A2.out).mono ?_); rintro e w' ⟨rfl, ⟨nd, rfl⟩⟩; refine ⟨_, rfl, ?_⟩))
  go_ret
  exact ⟨by first | rfl | (simp [zam, zan] <;> rfl) | (simp [*, zam, zan] <;> rfl), by repeat (first | (with_reducible first | exact HB.out | apply zac | apply zab | apply zad) | exact HB.out)⟩
 ·replace c3 := Bool.eq_false_iff.mpr c3
  subst c3
  have H1 : ((zbF.f a0).bind fun t119 => (if t119 = true then (some 2) else ((zcs.f a0).bind fun t120 => (if t120 = true then (some 3) else (some 0))))) = some r := by rw [if_neg (show ¬ (false = true) by decide)] at H; exact H
  clear H
  have H := H1
  clear H1
  replace H := Option.bind_eq_some_iff.mp H
  obtain ⟨t119, A40, H⟩ := H
  replace H : (if t119 = true then (some 2) else ((zcs.f a0).bind fun t120 => (if t120 = true then (some 3) else (some 0)))) = some r := H
  have A4 := zaa.mk A40
  clear A40
  by_cases c5 : t119 = true
  ·subst c5
   have H1 : (some 2) = some r := by rw [if_pos rfl] at H; exact H
   clear H
   have H := H1
   clear H1
   obtain rfl := Option.some.inj H
   go_enter Tryd.func93, Tryd.ntmps93
   go_wp2_with (first | ((with_reducible refine zaI (f := 124) rfl ?_); refine za5 (some 5) rfl rfl Tryd.func124 (by kernel_rfl) rfl #[.int .u8 a0] rfl (by (try simp only [List.map_toArray, List.map_cons, List.map_nil]); first | done | rfl | (simp only [List.length_drop, List.length_take]; rfl)) ?_; (with_reducible refine (zbL.calls a0 false _ A2.out).mono ?_); rintro e w' ⟨rfl, ⟨nd, rfl⟩⟩; refine ⟨_, rfl, ?_⟩) | ((with_reducible refine zaI (f := 125) rfl ?_); refine za5 (some 8) rfl rfl Tryd.func125 (by kernel_rfl) rfl #[.int .u8 a0] rfl (by (try simp only [List.map_toArray, List.map_cons, List.map_nil]); first | done | rfl | (simp only [List.length_drop, List.length_take]; rfl)) ?_; (with_reducible refine (zbF.calls a0 true _ A4.out).mono ?_); rintro e w' ⟨rfl, ⟨nd, rfl⟩⟩; refine ⟨_, rfl, ?_⟩))
   go_ret
   exact ⟨by first | rfl | (simp [zam, zan] <;> rfl) | (simp [*, zam, zan] <;> rfl), by repeat (first | (with_reducible first | exact HB.out | apply zac | apply zab | apply zad) | exact HB.out)⟩
  ·replace c5 := Bool.eq_false_iff.mpr c5
   subst c5
   have H1 : ((zcs.f a0).bind fun t120 => (if t120 = true then (some 3) else (some 0))) = some r := by rw [if_neg (show ¬ (false = true) by decide)] at H; exact H
   clear H
   have H := H1
   clear H1
   replace H := Option.bind_eq_some_iff.mp H
   obtain ⟨t120, A60, H⟩ := H
   replace H : (if t120 = true then (some 3) else (some 0)) = some r := H
   have A6 := zaa.mk A60
   clear A60
   by_cases c7 : t120 = true
   ·subst c7
    have H1 : (some 3) = some r := by rw [if_pos rfl] at H; exact H
    clear H
    have H := H1
    clear H1
    obtain rfl := Option.some.inj H
    go_enter Tryd.func93, Tryd.ntmps93
    go_wp2_with (first | ((with_reducible refine zaI (f := 124) rfl ?_); refine za5 (some 5) rfl rfl Tryd.func124 (by kernel_rfl) rfl #[.int .u8 a0] rfl (by (try simp only [List.map_toArray, List.map_cons, List.map_nil]); first | done | rfl | (simp only [List.length_drop, List.length_take]; rfl)) ?_; (with_reducible refine (zbL.calls a0 false _ A2.out).mono ?_); rintro e w' ⟨rfl, ⟨nd, rfl⟩⟩; refine ⟨_, rfl, ?_⟩) | ((with_reducible refine zaI (f := 125) rfl ?_); refine za5 (some 8) rfl rfl Tryd.func125 (by kernel_rfl) rfl #[.int .u8 a0] rfl (by (try simp only [List.map_toArray, List.map_cons, List.map_nil]); first | done | rfl | (simp only [List.length_drop, List.length_take]; rfl)) ?_; (with_reducible refine (zbF.calls a0 false _ A4.out).mono ?_); rintro e w' ⟨rfl, ⟨nd, rfl⟩⟩; refine ⟨_, rfl, ?_⟩) | ((with_reducible refine zaI (f := 126) rfl ?_); refine za5 (some 11) rfl rfl Tryd.func126 (by kernel_rfl) rfl #[.int .u8 a0] rfl (by (try simp only [List.map_toArray, List.map_cons, List.map_nil]); first | done | rfl | (simp only [List.length_drop, List.length_take]; rfl)) ?_; (with_reducible refine (zcs.calls a0 true _ A6.out).mono ?_); rintro e w8 ⟨rfl, hb⟩; refine ⟨_, rfl, ?_⟩; have n0_ := zaa.mk (zat (by repeat (first | (with_reducible first | exact HB.out | apply zac | apply zab | apply zad) | exact HB.out)) hb); clear HB; have HB := n0_; clear n0_; (try clear hb); (try clear hb2); (try clear hk); (try clear hi)))
    go_ret
    exact ⟨by first | rfl | (simp [zam, zan] <;> rfl) | (simp [*, zam, zan] <;> rfl), by repeat (first | (with_reducible first | exact HB.out | apply zac | apply zab | apply zad) | exact HB.out)⟩
   ·replace c7 := Bool.eq_false_iff.mpr c7
    subst c7
    have H1 : (some 0) = some r := by rw [if_neg (show ¬ (false = true) by decide)] at H; exact H
    clear H
    have H := H1
    clear H1
    obtain rfl := Option.some.inj H
    go_enter Tryd.func93, Tryd.ntmps93
    go_wp2_with (first | ((with_reducible refine zaI (f := 124) rfl ?_); refine za5 (some 5) rfl rfl Tryd.func124 (by kernel_rfl) rfl #[.int .u8 a0] rfl (by (try simp only [List.map_toArray, List.map_cons, List.map_nil]); first | done | rfl | (simp only [List.length_drop, List.length_take]; rfl)) ?_; (with_reducible refine (zbL.calls a0 false _ A2.out).mono ?_); rintro e w' ⟨rfl, ⟨nd, rfl⟩⟩; refine ⟨_, rfl, ?_⟩) | ((with_reducible refine zaI (f := 125) rfl ?_); refine za5 (some 8) rfl rfl Tryd.func125 (by kernel_rfl) rfl #[.int .u8 a0] rfl (by (try simp only [List.map_toArray, List.map_cons, List.map_nil]); first | done | rfl | (simp only [List.length_drop, List.length_take]; rfl)) ?_; (with_reducible refine (zbF.calls a0 false _ A4.out).mono ?_); rintro e w' ⟨rfl, ⟨nd, rfl⟩⟩; refine ⟨_, rfl, ?_⟩) | ((with_reducible refine zaI (f := 126) rfl ?_); refine za5 (some 11) rfl rfl Tryd.func126 (by kernel_rfl) rfl #[.int .u8 a0] rfl (by (try simp only [List.map_toArray, List.map_cons, List.map_nil]); first | done | rfl | (simp only [List.length_drop, List.length_take]; rfl)) ?_; (with_reducible refine (zcs.calls a0 false _ A6.out).mono ?_); rintro e w9 ⟨rfl, hb⟩; refine ⟨_, rfl, ?_⟩; have n0_ := zaa.mk (zat (by repeat (first | (with_reducible first | exact HB.out | apply zac | apply zab | apply zad) | exact HB.out)) hb); clear HB; have HB := n0_; clear n0_; (try clear hb); (try clear hb2); (try clear hk); (try clear hi)))
    go_ret
    exact ⟨by first | rfl | (simp [zam, zan] <;> rfl) | (simp [*, zam, zan] <;> rfl), by repeat (first | (with_reducible first | exact HB.out | apply zac | apply zab | apply zad) | exact HB.out)⟩
def zdu.f (a0 : Int) (a1 : Int) : Option (Bool) := if a0 = 1 then ((zbL.f a1).bind fun t121 => (if t121 = true then (some true) else (if a0 = 2 then ((zbF.f a1).bind fun t122 => (if t122 = true then (some true) else (some t121))) else (some false)))) else (if a0 = 2 then ((zbF.f a1).bind fun t123 => (if t123 = true then (some true) else ((zbL.f a1).bind fun t124 => (some t124)))) else (some false))
set_option maxHeartbeats 8000000 in
set_option maxRecDepth 100000 in
theorem zdu.calls (a0 : Int) (a1 : Int) (r : Bool) (w : World) (h : zdu.f a0 a1 = some r) :
  Calls Tryd.prog 127 #[.int .i64 a0, .int .u8 a1] w fun e w' => e = .returned (.bool r) ∧ zar w w' := by
 have H : (if a0 = 1 then ((zbL.f a1).bind fun t121 => (if t121 = true then (some true) else (if a0 = 2 then ((zbF.f a1).bind fun t122 => (if t122 = true then (some true) else (some t121))) else (some false)))) else (if a0 = 2 then ((zbF.f a1).bind fun t123 => (if t123 = true then (some true) else ((zbL.f a1).bind fun t124 => (some t124)))) else (some false))) = some r := h
 clear h
 by_cases c3 : a0 = 1
 ·rw [if_pos c3] at H
  have c3b0 : (a0 == 1) = true := beq_iff_eq.mpr c3
  have c3b1 : (a0 != 1) = false := bne_eq_false_iff_eq.mpr c3
  clear c3
  replace H := Option.bind_eq_some_iff.mp H
  obtain ⟨t121, A40, H⟩ := H
  replace H : (if t121 = true then (some true) else (if a0 = 2 then ((zbF.f a1).bind fun t122 => (if t122 = true then (some true) else (some t121))) else (some false))) = some r := H
  have A4 := zaa.mk A40
  clear A40
  by_cases c5 : t121 = true
  ·subst c5
   have H1 : (some true) = some r := by rw [if_pos rfl] at H; exact H
   clear H
   have H := H1
   clear H1
   obtain rfl := Option.some.inj H
   go_enter Tryd.func127, Tryd.ntmps127
   go_wp2_with (first | (go_at_call 124; (with_reducible refine (zbL.calls a1 true _ A4.out).mono ?_); rintro e w' ⟨rfl, ⟨nd, rfl⟩⟩))
   go_ret
   exact ⟨by first | rfl | (simp; done) | (simp [*]; done), by repeat (first | exact zar.refl _ | apply zar.step)⟩
  ·replace c5 := Bool.eq_false_iff.mpr c5
   subst c5
   have H1 : (if a0 = 2 then ((zbF.f a1).bind fun t122 => (if t122 = true then (some true) else (some false))) else (some false)) = some r := by rw [if_neg (show ¬ (false = true) by decide)] at H; exact H
   clear H
   have H := H1
   clear H1
   by_cases c6 : a0 = 2
   ·rw [if_pos c6] at H
    have c6b0 : (a0 == 2) = true := beq_iff_eq.mpr c6
    have c6b1 : (a0 != 2) = false := bne_eq_false_iff_eq.mpr c6
    clear c6
    replace H := Option.bind_eq_some_iff.mp H
    obtain ⟨t122, A70, H⟩ := H
    replace H : (if t122 = true then (some true) else (some false)) = some r := H
    have A7 := zaa.mk A70
    clear A70
    by_cases c8 : t122 = true
    ·subst c8
     have H1 : (some true) = some r := by rw [if_pos rfl] at H; exact H
     clear H
     have H := H1
     clear H1
     obtain rfl := Option.some.inj H
     go_enter Tryd.func127, Tryd.ntmps127
     go_wp2_with (first | (go_at_call 124; (with_reducible refine (zbL.calls a1 false _ A4.out).mono ?_); rintro e w' ⟨rfl, ⟨nd, rfl⟩⟩) | (go_at_call 125; (with_reducible refine (zbF.calls a1 true _ A7.out).mono ?_); rintro e w' ⟨rfl, ⟨nd, rfl⟩⟩))
     go_ret
     exact ⟨by first | rfl | (simp; done) | (simp [*]; done), by repeat (first | exact zar.refl _ | apply zar.step)⟩
    ·replace c8 := Bool.eq_false_iff.mpr c8
     subst c8
     have H1 : (some false) = some r := by rw [if_neg (show ¬ (false = true) by decide)] at H; exact H
     clear H
     have H := H1
     clear H1
     obtain rfl := Option.some.inj H
     go_enter Tryd.func127, Tryd.ntmps127
     go_wp2_with (first | (go_at_call 124; (with_reducible refine (zbL.calls a1 false _ A4.out).mono ?_); rintro e w' ⟨rfl, ⟨nd, rfl⟩⟩) | (go_at_call 125; (with_reducible refine (zbF.calls a1 false _ A7.out).mono ?_); rintro e w' ⟨rfl, ⟨nd, rfl⟩⟩))
     go_ret
     exact ⟨by first | rfl | (simp; done) | (simp [*]; done), by repeat (first | exact zar.refl _ | apply zar.step)⟩
   ·rw [if_neg c6] at H
    have c6b0 : (a0 == 2) = false := beq_eq_false_iff_ne.mpr c6
    have c6b1 : (a0 != 2) = true := bne_iff_ne.mpr c6
    obtain rfl := Option.some.inj H
    go_enter Tryd.func127, Tryd.ntmps127
    go_wp2_with (first | (go_at_call 124; (with_reducible refine (zbL.calls a1 false _ A4.out).mono ?_); rintro e w' ⟨rfl, ⟨nd, rfl⟩⟩))
    go_ret
    exact ⟨by first | rfl | (simp; done) | (simp [*]; done), by repeat (first | exact zar.refl _ | apply zar.step)⟩
 ·rw [if_neg c3] at H
  have c3b0 : (a0 == 1) = false := beq_eq_false_iff_ne.mpr c3
  have c3b1 : (a0 != 1) = true := bne_iff_ne.mpr c3
  by_cases c9 : a0 = 2
  ·rw [if_pos c9] at H
   have c9b0 : (a0 == 2) = true := beq_iff_eq.mpr c9
   have c9b1 : (a0 != 2) = false := bne_eq_false_iff_eq.mpr c9
   clear c9
   replace H := Option.bind_eq_some_iff.mp H
   obtain ⟨t123, A100, H⟩ := H
   replace H : (if t123 = true then (some true) else ((zbL.f a1).bind fun t124 => (some t124))) = some r := H
   have A10 := zaa.mk A100
   clear A100
   by_cases c11 : t123 = true
   ·subst c11
    have H1 : (some true) = some r := by rw [if_pos rfl] at H; exact H
    clear H
    have H := H1
    clear H1
    obtain rfl := Option.some.inj H
    go_enter Tryd.func127, Tryd.ntmps127
    go_wp2_with (first | (go_at_call 125; (with_reducible refine (zbF.calls a1 true _ A10.out).mono ?_); rintro e w' ⟨rfl, ⟨nd, rfl⟩⟩))
    go_ret
    exact ⟨by first | rfl | (simp; done) | (simp [*]; done), by repeat (first | exact zar.refl _ | apply zar.step)⟩
   ·replace c11 := Bool.eq_false_iff.mpr c11
    subst c11
    have H1 : ((zbL.f a1).bind fun t124 => (some t124)) = some r := by rw [if_neg (show ¬ (false = true) by decide)] at H; exact H
    clear H
    have H := H1
    clear H1
    replace H := Option.bind_eq_some_iff.mp H
    obtain ⟨t124, A120, H⟩ := H
    replace H : (some t124) = some r := H
    have A12 := zaa.mk A120
    clear A120
    obtain rfl := Option.some.inj H
    go_enter Tryd.func127, Tryd.ntmps127
    go_wp2_with (first | (go_at_call 125; (with_reducible refine (zbF.calls a1 false _ A10.out).mono ?_); rintro e w' ⟨rfl, ⟨nd, rfl⟩⟩) | (go_at_call 124; (with_reducible refine (zbL.calls a1 t124 _ A12.out).mono ?_); rintro e w' ⟨rfl, ⟨nd, rfl⟩⟩))
    go_ret
    exact ⟨by first | rfl | (simp; done) | (simp [*]; done), by repeat (first | exact zar.refl _ | apply zar.step)⟩
  ·rw [if_neg c9] at H
   have c9b0 : (a0 == 2) = false := beq_eq_false_iff_ne.mpr c9
   have c9b1 : (a0 != 2) = true := bne_iff_ne.mpr c9
   obtain rfl := Option.some.inj H
   go_enter Tryd.func127, Tryd.ntmps127
   go_wp2
   go_ret
   exact ⟨by first | rfl | (simp; done) | (simp [*]; done), by repeat (first | exact zar.refl _ | apply zar.step)⟩
def zbx.l0 : Nat → ByteArray → Int → Int → Option (Int)
 | 0, _, _, _ => none
 | k + 1, x0, x1, x5 => if x5 < (x0.size : Int) then (if 0 ≤ x5 then ((zdu.f x1 (bt x0 x5)).bind fun t125 => (if t125 = true then (zbx.l0 k x0 x1 (wrap64 (x5 + 1))) else (some x5))) else (none)) else (some x5)
def zbx.f (k : Nat) (a0 : ByteArray) (a1 : Int) : Option (Int) := zbx.l0 k a0 a1 1
theorem zbx.zaV : ∀ k, (∀ y0 y1 y2, LeO (zbx.l0 k y0 y1 y2) (zbx.l0 (k + 1) y0 y1 y2))
 | 0 => fun _ _ _ r h => by simp [zbx.l0] at h
 | k + 1 => by
  have ih0 := zbx.zaV k
  ·intro y0 y1 y2
   unfold zbx.l0
   repeat' first
   | (with_reducible exact ih0 _ _ _)
   | (with_reducible exact LeO.refl _)
   | (with_reducible exact LeO.none _)
   | (with_reducible refine LeO.ite ?_ ?_)
   | (with_reducible refine LeO.bind ?_ (fun _ => ?_))
   | exact ih0 _ _ _
   | exact LeO.none _
   | refine LeO.ite ?_ ?_
   | refine LeO.bind ?_ (fun _ => ?_)
theorem zbx.mono : ∀ a0 a1 k, LeO (zbx.f k a0 a1) (zbx.f (k + 1) a0 a1) := by
 intro a0 a1 k
 have ih0 := zbx.zaV k
 unfold zbx.f
 repeat' first
   | (with_reducible exact ih0 _ _ _)
   | (with_reducible exact LeO.refl _)
   | (with_reducible exact LeO.none _)
   | (with_reducible refine LeO.ite ?_ ?_)
   | (with_reducible refine LeO.bind ?_ (fun _ => ?_))
   | exact ih0 _ _ _
   | exact LeO.none _
   | refine LeO.ite ?_ ?_
   | refine LeO.bind ?_ (fun _ => ?_)
set_option maxHeartbeats 8000000 in
set_option maxRecDepth 100000 in
theorem zbx.calls (k : Nat) (a0 : ByteArray) (a1 : Int) (r : Int) (w : World) (h : zbx.f k a0 a1 = some r) :
  Calls Tryd.prog 94 #[.string a0, .int .i64 a1] w fun e w' => e = .returned (.int .i64 r) ∧ zar w w' := by
 have H : (zbx.l0 k a0 a1 1) = some r := h
 clear h
 have H' := zaa.mk H
 clear H
 go_enter Tryd.func94, Tryd.ntmps94
 go_wp2
 go_loopg [5] k (fun kq v5 w' => ∃ (x5_1 : Int), v5 = .int .i64 x5_1 ∧ zaa (zbx.l0 kq a0 a1 x5_1 = some r) ∧ zaa (kq ≤ k) ∧ zar w w')
 case atStart => exact ⟨(1), (by first | rfl | (simp; done) | (simp [*]; done)), H', ⟨Nat.le_refl _⟩, by repeat (first | exact zar.refl _ | apply zar.step)⟩
 case round =>
  clear H'
  try clear p2
  obtain ⟨x5_1, rfl, HA, HK1, ⟨m1, rfl⟩⟩ := hrel
  cases gk with
  | zero => exact absurd HA.out (by simp [zbx.l0])
  | succ k1 =>
   have H := HA.out
   clear HA
   simp only [zbx.l0] at H
   by_cases c3 : x5_1 < (a0.size : Int)
   ·rw [if_pos c3] at H
    have c3b0 : decide (x5_1 < (a0.size : Int)) = true := decide_eq_true c3
    clear c3
    by_cases c4 : 0 ≤ x5_1
    ·rw [if_pos c4] at H
     have c4b0 : decide (0 ≤ x5_1) = true := decide_eq_true c4
     clear c4
     replace H := Option.bind_eq_some_iff.mp H
     obtain ⟨t125, A60, H⟩ := H
     replace H : (if t125 = true then (zbx.l0 k1 a0 a1 (wrap64 (x5_1 + 1))) else (some x5_1)) = some r := H
     have A6 := zaa.mk A60
     clear A60
     by_cases c7 : t125 = true
     ·subst c7
      have H1 : (zbx.l0 k1 a0 a1 (wrap64 (x5_1 + 1))) = some r := by rw [if_pos rfl] at H; exact H
      clear H
      have H := H1
      clear H1
      have H' := zaa.mk H
      clear H
      have p5 : 0 ≤ (x5_1 : Int) := of_decide_eq_true (by first | (with_reducible assumption) | assumption)
      have q5 : x5_1 < (a0.size : Int) := of_decide_eq_true (by first | (with_reducible assumption) | assumption)
      have hx5 := zfK a0 x5_1
      replace p5 := eq_true p5
      replace q5 := eq_true q5
      go_wp2_with (first | (go_at_call 127; (with_reducible refine (zdu.calls a1 (bt a0 x5_1) true _ A6.out).mono ?_); rintro e w' ⟨rfl, ⟨nd, rfl⟩⟩))
      go_roundg k1
      case measure => have := HK1.out; omega
      case rel => exact ⟨(wrap64 (x5_1 + 1)), (by first | rfl | (simp; done) | (simp [*]; done)), H', ⟨by have := HK1.out; omega⟩, by repeat (first | exact zar.refl _ | apply zar.step)⟩
     ·replace c7 := Bool.eq_false_iff.mpr c7
      subst c7
      have H1 : (some x5_1) = some r := by rw [if_neg (show ¬ (false = true) by decide)] at H; exact H
      clear H
      have H := H1
      clear H1
      obtain rfl := Option.some.inj H
      have p5 : 0 ≤ (x5_1 : Int) := of_decide_eq_true (by first | (with_reducible assumption) | assumption)
      have q5 : x5_1 < (a0.size : Int) := of_decide_eq_true (by first | (with_reducible assumption) | assumption)
      have hx5 := zfK a0 x5_1
      replace p5 := eq_true p5
      replace q5 := eq_true q5
      go_wp2_with (first | (go_at_call 127; (with_reducible refine (zdu.calls a1 (bt a0 x5_1) false _ A6.out).mono ?_); rintro e w' ⟨rfl, ⟨nd, rfl⟩⟩))
      go_ret
      exact ⟨by first | rfl | (simp; done) | (simp [*]; done), by repeat (first | exact zar.refl _ | apply zar.step)⟩
    ·rw [if_neg c4] at H
     exact absurd H (by simp)
   ·rw [if_neg c3] at H
    have c3b0 : decide (x5_1 < (a0.size : Int)) = false := decide_eq_false c3
    clear c3
    obtain rfl := Option.some.inj H
    go_wp2
    go_ret
    exact ⟨by first | rfl | (simp; done) | (simp [*]; done), by repeat (first | exact zar.refl _ | apply zar.step)⟩
def zep.f (a0 : Int) : Option (Int) := if a0 = 1 then (some 60) else (if a0 = 2 then (some 12) else (some 1))
set_option maxHeartbeats 8000000 in
set_option maxRecDepth 100000 in
theorem zep.calls (a0 : Int) (r : Int) (w : World) (h : zep.f a0 = some r) :
  Calls Tryd.prog 95 #[.int .i64 a0] w fun e w' => e = .returned (.int .i64 r) ∧ zar w w' := by
 have H : (if a0 = 1 then (some 60) else (if a0 = 2 then (some 12) else (some 1))) = some r := h
 clear h
 by_cases c2 : a0 = 1
 ·rw [if_pos c2] at H
  have c2b0 : (a0 == 1) = true := beq_iff_eq.mpr c2
  have c2b1 : (a0 != 1) = false := bne_eq_false_iff_eq.mpr c2
  clear c2
  obtain rfl := Option.some.inj H
  go_enter Tryd.func95, Tryd.ntmps95
  go_wp2
  go_ret
  exact ⟨by first | rfl | (simp; done) | (simp [*]; done), by repeat (first | exact zar.refl _ | apply zar.step)⟩
 ·rw [if_neg c2] at H
  have c2b0 : (a0 == 1) = false := beq_eq_false_iff_ne.mpr c2
  have c2b1 : (a0 != 1) = true := bne_iff_ne.mpr c2
  by_cases c3 : a0 = 2
  ·rw [if_pos c3] at H
   have c3b0 : (a0 == 2) = true := beq_iff_eq.mpr c3
   have c3b1 : (a0 != 2) = false := bne_eq_false_iff_eq.mpr c3
   clear c3
   obtain rfl := Option.some.inj H
   go_enter Tryd.func95, Tryd.ntmps95
   go_wp2
   go_ret
   exact ⟨by first | rfl | (simp; done) | (simp [*]; done), by repeat (first | exact zar.refl _ | apply zar.step)⟩
  ·rw [if_neg c3] at H
   have c3b0 : (a0 == 2) = false := beq_eq_false_iff_ne.mpr c3
   have c3b1 : (a0 != 2) = true := bne_iff_ne.mpr c3
   obtain rfl := Option.some.inj H
   go_enter Tryd.func95, Tryd.ntmps95
   go_wp2
   go_ret
   exact ⟨by first | rfl | (simp; done) | (simp [*]; done), by repeat (first | exact zar.refl _ | apply zar.step)⟩
mutual
def zaw.l0 : Nat → List (S62) → Int → Int → Int → Option (Bool)
 | 0, _, _, _, _ => none
 | k + 1, x0, x1, x2, x7 => if x7 < (x0.length : Int) then (zaw.j1 k x0 x1 x2 x7 (decide (x7 < x1))) else (zaw.j1 k x0 x1 x2 x7 false)
def zaw.j1 : Nat → List (S62) → Int → Int → Int → Bool → Option (Bool)
 | 0, _, _, _, _, _ => none
 | k + 1, x0, x1, x2, x7, x16 => if x16 = true then (if 0 ≤ x7 then (if x7 < (x0.length : Int) then (if (((zbe x0 x7).f2).length : Int) > x2 then (some true) else (zaw.l0 k x0 x1 x2 (wrap64 (x7 + 1)))) else (none)) else (none)) else (some (decide ((x0.length : Int) > x1)))
end
def zaw.f (k : Nat) (l0 : List (S62)) (a1 : Int) (a2 : Int) : Option (Bool) := zaw.l0 k l0 a1 a2 0
theorem zaw.zaV : ∀ k, (∀ y0 y1 y2 y3, LeO (zaw.l0 k y0 y1 y2 y3) (zaw.l0 (k + 1) y0 y1 y2 y3)) ∧ (∀ y0 y1 y2 y3 y4, LeO (zaw.j1 k y0 y1 y2 y3 y4) (zaw.j1 (k + 1) y0 y1 y2 y3 y4))
 | 0 => ⟨fun _ _ _ _ r h => by simp [zaw.l0] at h, fun _ _ _ _ _ r h => by simp [zaw.j1] at h⟩
 | k + 1 => by
  obtain ⟨ih0, ih1⟩ := zaw.zaV k
  refine ⟨?_, ?_⟩
  ·intro y0 y1 y2 y3
   unfold zaw.l0
   repeat' first
   | (with_reducible exact ih0 _ _ _ _)
   | (with_reducible exact ih1 _ _ _ _ _)
   | (with_reducible exact LeO.refl _)
   | (with_reducible exact LeO.none _)
   | (with_reducible refine LeO.ite ?_ ?_)
   | (with_reducible refine LeO.bind ?_ (fun _ => ?_))
   | exact ih0 _ _ _ _
   | exact ih1 _ _ _ _ _
   | exact LeO.none _
   | refine LeO.ite ?_ ?_
   | refine LeO.bind ?_ (fun _ => ?_)
  ·intro y0 y1 y2 y3 y4
   unfold zaw.j1
   repeat' first
   | (with_reducible exact ih0 _ _ _ _)
   | (with_reducible exact ih1 _ _ _ _ _)
   | (with_reducible exact LeO.refl _)
   | (with_reducible exact LeO.none _)
   | (with_reducible refine LeO.ite ?_ ?_)
   | (with_reducible refine LeO.bind ?_ (fun _ => ?_))
   | exact ih0 _ _ _ _
   | exact ih1 _ _ _ _ _
   | exact LeO.none _
   | refine LeO.ite ?_ ?_
   | refine LeO.bind ?_ (fun _ => ?_)
theorem zaw.mono : ∀ a0 a1 a2 k, LeO (zaw.f k a0 a1 a2) (zaw.f (k + 1) a0 a1 a2) := by
 intro a0 a1 a2 k
 obtain ⟨ih0, ih1⟩ := zaw.zaV k
 unfold zaw.f
 repeat' first
   | (with_reducible exact ih0 _ _ _ _)
   | (with_reducible exact ih1 _ _ _ _ _)
   | (with_reducible exact LeO.refl _)
   | (with_reducible exact LeO.none _)
   | (with_reducible refine LeO.ite ?_ ?_)
   | (with_reducible refine LeO.bind ?_ (fun _ => ?_))
   | exact ih0 _ _ _ _
   | exact ih1 _ _ _ _ _
   | exact LeO.none _
   | refine LeO.ite ?_ ?_
   | refine LeO.bind ?_ (fun _ => ?_)
set_option maxHeartbeats 8000000 in
set_option maxRecDepth 100000 in
theorem zaw.calls (k : Nat) (A0 : Option Addr) (c0 : Nat) (l0 : List (S62)) (a1 : Int) (a2 : Int) (r : Bool) (w : World) (hr0 : Kd.C k62 w A0 l0.length l0) (hc0 : l0.length ≤ c0) (h : zaw.f k l0 a1 a2 = some r) :
  Calls Tryd.prog 29 #[.slice A0 l0.length c0, .int .i64 a1, .int .i64 a2] w fun e w' => e = .returned (.bool r) ∧ zar w w' := by
 have HR0 := zaa.mk hr0
 have HC0 := zaa.mk hc0
 clear hr0 hc0
 have H : (zaw.l0 k l0 a1 a2 0) = some r := h
 clear h
 have H' := zaa.mk H
 clear H
 go_enter Tryd.func29, Tryd.ntmps29
 go_wp2
 go_loopg [7] k (fun kq v7 w' => ∃ (x7_1 : Int), v7 = .int .i64 x7_1 ∧ zaa (zaw.l0 kq l0 a1 a2 x7_1 = some r) ∧ zaa (kq ≤ k) ∧ zar w w')
 case atStart => exact ⟨(0), (by first | rfl | (simp; done) | (simp [*]; done)), H', ⟨Nat.le_refl _⟩, by repeat (first | exact zar.refl _ | apply zar.step)⟩
 case round =>
  clear H'
  try clear c2
  try clear p2
  obtain ⟨x7_1, rfl, HA, HK1, ⟨m1, rfl⟩⟩ := hrel
  cases gk with
  | zero => exact absurd HA.out (by simp [zaw.l0])
  | succ k1 =>
   have H := HA.out
   clear HA
   simp only [zaw.l0] at H
   have HC4 := zaa.mk H
   clear H
   go_upto_region 2 with (fail)
   go_cut [16] (fun v16 wc => ∃ (kq : Nat) (x16_3 : Bool), v16 = .bool x16_3 ∧ zaa (zaw.j1 kq l0 a1 a2 x7_1 x16_3 = some r) ∧ zaa (kq ≤ k1) ∧ zar w wc)
   case first =>
    have H := HC4.out
    clear HC4
    by_cases c5 : x7_1 < (l0.length : Int)
    ·rw [if_pos c5] at H
     have c5b0 : decide (x7_1 < (l0.length : Int)) = true := decide_eq_true c5
     clear c5
     (first | rw [c5b0] | (simp only [zaC, zaD]; rw [c5b0]) | skip)
     have H' := zaa.mk H
     clear H
     go_wp2
     go_meet
     case rel => exact ⟨_, (decide (x7_1 < a1)), (by first | rfl | (simp; done) | (simp [*]; done)), H', ⟨by have := HK1.out; first | omega | exact Nat.le_refl _⟩, by repeat (first | exact zar.refl _ | apply zar.step)⟩
    ·rw [if_neg c5] at H
     have c5b0 : decide (x7_1 < (l0.length : Int)) = false := decide_eq_false c5
     clear c5
     (first | rw [c5b0] | (simp only [zaC, zaD]; rw [c5b0]) | skip)
     have H' := zaa.mk H
     clear H
     go_wp2
     go_meet
     case rel => exact ⟨_, (false), (by first | rfl | (simp; done) | (simp [*]; done)), H', ⟨by have := HK1.out; first | omega | exact Nat.le_refl _⟩, by repeat (first | exact zar.refl _ | apply zar.step)⟩
   case rest =>
    clear HC4
    try clear c2
    try clear p2
    try clear c5
    try clear c5b0
    try clear p2
    obtain ⟨kq, x16_3, rfl, HA, HJ3, ⟨mc3, rfl⟩⟩ := hcut
    cases kq with
    | zero => exact absurd HA.out (by simp [zaw.j1])
    | succ kj3 =>
     have H := HA.out
     clear HA
     simp only [zaw.j1] at H
     by_cases c6 : x16_3 = true
     ·subst c6
      have H1 : (if 0 ≤ x7_1 then (if x7_1 < (l0.length : Int) then (if (((zbe l0 x7_1).f2).length : Int) > a2 then (some true) else (zaw.l0 kj3 l0 a1 a2 (wrap64 (x7_1 + 1)))) else (none)) else (none)) = some r := by rw [if_pos rfl] at H; exact H
      clear H
      have H := H1
      clear H1
      by_cases c7 : 0 ≤ x7_1
      ·rw [if_pos c7] at H
       have c7b0 : decide (0 ≤ x7_1) = true := decide_eq_true c7
       clear c7
       by_cases c8 : x7_1 < (l0.length : Int)
       ·rw [if_pos c8] at H
        have c8b0 : decide (x7_1 < (l0.length : Int)) = true := decide_eq_true c8
        clear c8
        by_cases c9 : (((zbe l0 x7_1).f2).length : Int) > a2
        ·rw [if_pos c9] at H
         have c9b0 : decide (a2 < (((zbe l0 x7_1).f2).length : Int)) = true := decide_eq_true c9
         clear c9
         obtain rfl := Option.some.inj H
         have p126 : 0 ≤ (x7_1 : Int) := of_decide_eq_true (by first | (with_reducible assumption) | assumption)
         have q126 : x7_1 < (l0.length : Int) := of_decide_eq_true (by first | (with_reducible assumption) | assumption)
         obtain ⟨ad126, A126_2, c126_2, e126, hx126_0, hx126_1, hx126_2, hl126_2, hi126_2⟩ := zdk HR0.out x7_1 p126 q126
         cases e126
         have HR126_2 := zaa.mk hi126_2
         have HC126_2 := zaa.mk hl126_2
         clear hi126_2 hl126_2
         replace p126 := eq_true p126
         replace q126 := eq_true q126
         go_wp2
         go_ret
         exact ⟨by first | rfl | (simp; done) | (simp [*]; done), by repeat (first | exact zar.refl _ | apply zar.step)⟩
        ·rw [if_neg c9] at H
         have c9b0 : decide (a2 < (((zbe l0 x7_1).f2).length : Int)) = false := decide_eq_false c9
         clear c9
         have H' := zaa.mk H
         clear H
         have p126 : 0 ≤ (x7_1 : Int) := of_decide_eq_true (by first | (with_reducible assumption) | assumption)
         have q126 : x7_1 < (l0.length : Int) := of_decide_eq_true (by first | (with_reducible assumption) | assumption)
         obtain ⟨ad126, A126_2, c126_2, e126, hx126_0, hx126_1, hx126_2, hl126_2, hi126_2⟩ := zdk HR0.out x7_1 p126 q126
         cases e126
         have HR126_2 := zaa.mk hi126_2
         have HC126_2 := zaa.mk hl126_2
         clear hi126_2 hl126_2
         replace p126 := eq_true p126
         replace q126 := eq_true q126
         go_wp2
         go_roundg kj3
         case measure => have := HK1.out; have := HJ3.out; omega
         case rel => exact ⟨(wrap64 (x7_1 + 1)), (by first | rfl | (simp; done) | (simp [*]; done)), H', ⟨by have := HK1.out; have := HJ3.out; omega⟩, by repeat (first | exact zar.refl _ | apply zar.step)⟩
       ·rw [if_neg c8] at H
        exact absurd H (by simp)
      ·rw [if_neg c7] at H
       exact absurd H (by simp)
     ·replace c6 := Bool.eq_false_iff.mpr c6
      subst c6
      have H1 : (some (decide ((l0.length : Int) > a1))) = some r := by rw [if_neg (show ¬ (false = true) by decide)] at H; exact H
      clear H
      have H := H1
      clear H1
      obtain rfl := Option.some.inj H
      go_wp2
      go_ret
      exact ⟨by first | rfl | (simp; done) | (simp [*]; done), by repeat (first | exact zar.refl _ | apply zar.step)⟩
end Go.Proofs.YtbicjgaadknmfaaDoor.P
end
section
namespace Go.Proofs.YtbicjgaadknmfaaDoor.M
open Go.RowKit Go.Proofs.YtbicjgaadknmfaaDoorW.PrintWords Go.Proofs.YtbicjgaadknmfaaDoor.P
set_option linter.unusedVariables false
set_option linter.unusedSimpArgs false
theorem digit_eq (c : UInt8) : zbL.f (c.toNat : Int) = some (isDigit c) := by
  unfold zbL.f isDigit
  by_cases h : 48 ≤ c.toNat
  · rw [if_pos (by omega)]
    congr 1
    apply decide_eq_decide.2
    omega
  · rw [if_neg (by omega)]
    congr 1
    symm
    apply decide_eq_false
    omega
theorem letter_eq (c : UInt8) : zbF.f (c.toNat : Int) = some (zcM c) := by
  unfold zbF.f zcM
  repeat' split
  all_goals
    congr 1
    symm
    first
    | (apply decide_eq_true; omega)
    | (rw [Bool.eq_iff_iff, decide_eq_true_iff, beq_iff_eq]; omega)
theorem sign_eq (c : UInt8) : zcs.f (c.toNat : Int) = some (zfu c) := by
  unfold zcs.f
  rw [if_pos (by omega), if_pos (by have := c.toNat_lt; omega)]
  congr 1
  unfold zfE zfu
  show (zen.any fun b => decide ((b.toNat : Int) = (c.toNat : Int))) = zen.contains c
  rw [List.contains_eq_any_beq]
  congr 1
  funext b
  rw [Bool.eq_iff_iff, decide_eq_true_iff, beq_iff_eq]
  constructor
  · intro h; exact (UInt8.toNat_inj.1 (by omega)).symm
  · intro h; rw [h]
theorem zkB (c : UInt8) : zej.f (c.toNat : Int) = some (zbd c : Int) := by
  unfold zej.f zbd
  rw [digit_eq, letter_eq, sign_eq]
  simp only [Option.bind_some]
  repeat' split
  all_goals rfl
theorem zic (k : Nat) (c : UInt8) : zdu.f (k : Int) (c.toNat : Int) = some (zbn k c) := by
  unfold zdu.f zbn
  simp only [digit_eq, letter_eq, Option.bind_some]
  by_cases h1 : k = 1
  · subst h1
    rcases Bool.eq_false_or_eq_true (isDigit c) with h | h <;> simp [h]
  · by_cases h2 : k = 2
    · subst h2
      rcases Bool.eq_false_or_eq_true (isDigit c) with h | h <;> rcases Bool.eq_false_or_eq_true (zcM c) with h' | h' <;> simp [h, h']
    · have e1 : ¬ (k : Int) = 1 := by omega
      have e2 : ¬ (k : Int) = 2 := by omega
      simp [h1, h2, e1, e2]
theorem zkW (k : Nat) : zep.f (k : Int) = some (zce k : Int) := by
  unfold zep.f zce
  by_cases h1 : k = 1
  · subst h1; rfl
  · by_cases h2 : k = 2
    · subst h2; rfl
    · have e1 : ¬ (k : Int) = 1 := by omega
      have e2 : ¬ (k : Int) = 2 := by omega
      simp [h1, h2, e1, e2]
theorem zjS (s : ByteArray) (hs : s.size ≤ 140737488351232) (k : Nat) : ∀ (r : List UInt8) (i : Nat), (toL s).drop i = r → i ≤ s.size →
    Ev (fun n => zbx.l0 n s (k : Int) (i : Int)) ((i + (r.takeWhile (zbn k)).length : Nat) : Int) := by
  intro r
  induction r with
  | nil =>
    intro i hd hi
    have := drop_nil hd
    rw [zcD] at this
    refine Ev.step (f := fun _ => some (i : Int)) (fun n => ?_) (Ev.now _)
    simp only [zbx.l0]
    rw [if_neg (by omega)]
  | cons c r ih =>
    intro i hd hi
    have hlt := zia hd
    rw [zcD] at hlt
    have hb := zgE s i c r hd
    by_cases hg : zbn k c = true
    · refine Ev.step (f := fun n => zbx.l0 n s (k : Int) ((i + 1 : Nat) : Int)) (fun n => ?_) ?_
      · simp only [zbx.l0]
        rw [if_pos (by omega), if_pos (by omega), hb, zic, hg]
        simp only [Option.bind_some, if_true]
        rw [zbh (by omega) (by omega)]
        rfl
      · have := ih (i + 1) (zg1 hd) (by omega)
        rw [List.takeWhile_cons_of_pos hg, List.length_cons]
        rw [show i + ((r.takeWhile (zbn k)).length + 1) = i + 1 + (r.takeWhile (zbn k)).length from by omega]
        exact this
    · refine Ev.step (f := fun _ => some (i : Int)) (fun n => ?_) ?_
      · simp only [zbx.l0]
        rw [if_pos (by omega), if_pos (by omega), hb, zic, eq_false_of_ne_true hg]
        simp
      · rw [List.takeWhile_cons_of_neg hg]
        exact Ev.now _
def zcB (kd : Int) : List UInt8 → Bool
  | [] => false
  | c :: r => decide (¬ zbd c = 0 ∧ (zbd c : Int) = kd ∧ (r.takeWhile (zbn (zbd c))).length = r.length ∧ r.length + 1 ≤ zce (zbd c))
theorem zkG : ∀ (n : Nat) (l : List UInt8) (p : Nat) (w : Wd) (ws : List Wd), l.length ≤ n → zcv l p = .ok (w :: ws) → w.tx.length ≤ l.length := by
  intro n
  induction n with
  | zero =>
    intro l p w ws h e
    obtain rfl := List.length_eq_zero_iff.1 (Nat.le_zero.1 h)
    rw [zcv] at e
    cases e
  | succ n ih =>
    intro l p w ws h e
    cases l with
    | nil => rw [zcv] at e; cases e
    | cons c r =>
      simp only [List.length_cons] at h ⊢
      rw [zcv] at e
      split at e
      · have := ih r _ w ws (by omega) e; omega
      · split at e
        · have h2 := zcZ zcP r
          have := ih _ _ w ws (by omega) e; omega
        · split at e
          · cases e
          · split at e
            · cases e
            · cases h3 : zcv (r.dropWhile (zbn (zbd c))) (p + ((r.takeWhile (zbn (zbd c))).length + 1)) with
              | error q => rw [h3] at e; cases e
              | ok vs =>
                rw [h3] at e
                cases e
                have hle : (r.takeWhile (zbn (zbd c))).length ≤ r.length := (List.takeWhile_prefix _).length_le
                simp; omega
def lone (kd : Int) (l : List UInt8) : Except Nat (List Wd) → Bool
  | .ok [w] => decide ((w.kd : Int) = kd) && decide (w.tx = l)
  | _ => false
theorem ziD (kd : Int) (l : List UInt8) (h : l.length ≤ 4000) : lone kd l (zdQ l) = zcB kd l := by
  unfold zdQ
  rw [if_neg (by omega)]
  cases l with
  | nil => rw [zcv]; rfl
  | cons c r =>
    have small : ∀ (l' : List UInt8) (p : Nat), l'.length ≤ r.length → lone kd (c :: r) (zcv l' p) = false := by
      intro l' p hl
      cases e : zcv l' p with
      | error q => rfl
      | ok ws =>
        match ws, e with
        | [], _ => rfl
        | [w], e =>
          have := zkG l'.length l' p w [] (Nat.le_refl _) e
          unfold lone
          have hne : ¬ w.tx = c :: r := fun h => by rw [h, List.length_cons] at this; omega
          simp [hne]
        | _ :: _ :: _, _ => rfl
    rw [zcv]
    by_cases h1 : zcQ c = true
    · rw [if_pos h1, small r _ (Nat.le_refl _)]
      have : zbd c = 0 := by
        unfold zcQ at h1
        have h1 := of_decide_eq_true h1
        unfold zbd isDigit zcM zfu
        rw [if_neg (by simp; omega), if_neg (by simp; omega)]
        have hc : c = 32 ∨ c = 9 ∨ c = 10 ∨ c = 13 := by
          rcases h1 with h | h | h | h
          · exact .inl (UInt8.toNat_inj.1 h)
          · exact .inr (.inl (UInt8.toNat_inj.1 h))
          · exact .inr (.inr (.inl (UInt8.toNat_inj.1 h)))
          · exact .inr (.inr (.inr (UInt8.toNat_inj.1 h)))
        have hn : zen.contains c = false := by rcases hc with rfl | rfl | rfl | rfl <;> decide
        rw [hn]
        rfl
      unfold zcB
      symm
      apply decide_eq_false
      omega
    · rw [if_neg h1]
      by_cases h2 : c.toNat = 35
      · rw [if_pos h2, small _ _ (zcZ zcP r)]
        have : zbd c = 0 := by
          have e : c = 35 := UInt8.toNat_inj.1 h2
          subst e
          decide
        unfold zcB
        symm
        apply decide_eq_false
        omega
      · rw [if_neg h2]
        by_cases h3 : zbd c = 0
        · rw [if_pos h3]
          unfold zcB lone
          symm
          apply decide_eq_false
          omega
        · rw [if_neg h3]
          have hle : (r.takeWhile (zbn (zbd c))).length ≤ r.length := (List.takeWhile_prefix _).length_le
          by_cases h4 : zce (zbd c) < (r.takeWhile (zbn (zbd c))).length + 1
          · rw [if_pos h4]
            unfold zcB lone
            symm
            apply decide_eq_false
            omega
          · rw [if_neg h4]
            by_cases h5 : (r.takeWhile (zbn (zbd c))).length = r.length
            · have e1 : r.takeWhile (zbn (zbd c)) = r := (List.takeWhile_prefix _).eq_of_length h5
              have e2 : r.dropWhile (zbn (zbd c)) = [] := by
                have := zhd (zbn (zbd c)) r
                exact List.length_eq_zero_iff.1 (by omega)
              rw [e1, e2, zcv]
              show (decide ((zbd c : Int) = kd) && decide (c :: r = c :: r)) = decide (¬ zbd c = 0 ∧ (zbd c : Int) = kd ∧ (r.takeWhile (zbn (zbd c))).length = r.length ∧ r.length + 1 ≤ zce (zbd c))
              rw [e1]
              simp only [decide_true, Bool.and_true]
              rw [decide_eq_decide]
              constructor
              · intro h; exact ⟨h3, h, trivial, by rw [e1] at h4; omega⟩
              · intro h; exact h.2.1
            · have er : zcB kd (c :: r) = false := by unfold zcB; apply decide_eq_false; omega
              rw [er]
              cases zcv (r.dropWhile (zbn (zbd c))) (0 + ((r.takeWhile (zbn (zbd c))).length + 1)) with
              | error q => rfl
              | ok ws =>
                cases ws with
                | nil =>
                  unfold ziB lone
                  have hne : ¬ c :: r.takeWhile (zbn (zbd c)) = c :: r := fun h => h5 (by rw [List.cons.inj h |>.2])
                  simp [hne]
                | cons _ _ => rfl
end Go.Proofs.YtbicjgaadknmfaaDoor.M
end
