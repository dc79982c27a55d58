import Derived.Test.YtbicjgaadknmfaaDoorQ1
import Derived.Test.YtbicjgaadknmfaaDoorQ5
section
namespace Go.Proofs.YtbicjgaadknmfaaDoor.P
open Go.RowKit Go.Proofs.YtbicjgaadknmfaaDoorW.PrintWords Go.Proofs.YtbicjgaadknmfaaDoorW.PrintLast Go.Proofs.YtbicjgaadknmfaaDoorW.PrintMore
attribute [local go_sem] zck zcl zca zcc zbQ zbP zb0 zb1
set_option linter.unusedVariables false
set_option linter.unusedSimpArgs false
def za4.l0 : Nat → List (S60) → Int → List (S60) → Int → Int → Option (Int)
 | 0, _, _, _, _, _ => none
 | k + 1, x0, x3, x7, x8, x9 => if x9 < x8 then (if 0 ≤ x9 then (if x9 < (x7.length : Int) then ((zaJ.f k ((zaF x7 x9).f0)).bind fun t254 => (if t254 < 0 then (some x9) else (if t254 > x3 then (some x9) else (za4.l0 k x0 (wrap64 (x3 + (wrap64 (1 - t254)))) x7 x8 (wrap64 (x9 + 1)))))) else (none)) else (none)) else (if x3 = 1 then (some (-1)) else (some (x0.length : Int)))
def za4.f (k : Nat) (l0 : List (S60)) : Option (Int) := za4.l0 k l0 0 l0 (l0.length : Int) 0
theorem za4.zaR : ∀ k, (∀ y0 y1 y2 y3 y4, LeO (za4.l0 k y0 y1 y2 y3 y4) (za4.l0 (k + 1) y0 y1 y2 y3 y4))
 | 0 => fun _ _ _ _ _ r h => by simp [za4.l0] at h
 | k + 1 => by
  have ih0 := za4.zaR k
  ·intro y0 y1 y2 y3 y4
   unfold za4.l0
   repeat' first
   | (with_reducible exact ih0 _ _ _ _ _)
   | (with_reducible exact zaJ.mono _ _)
   | (with_reducible exact LeO.refl _)
   | (with_reducible exact LeO.none _)
   | (with_reducible refine LeO.ite ?_ ?_)
   | (with_reducible refine LeO.bind ?_ (fun _ => ?_))
   | exact ih0 _ _ _ _ _
   | exact zaJ.mono _ _
   | exact LeO.none _
   | refine LeO.ite ?_ ?_
   | refine LeO.bind ?_ (fun _ => ?_)
theorem za4.mono : ∀ a0 k, LeO (za4.f k a0) (za4.f (k + 1) a0) := by
 intro a0 k
 have ih0 := za4.zaR k
 unfold za4.f
 repeat' first
   | (with_reducible exact ih0 _ _ _ _ _)
   | (with_reducible exact zaJ.mono _ _)
   | (with_reducible exact LeO.refl _)
   | (with_reducible exact LeO.none _)
   | (with_reducible refine LeO.ite ?_ ?_)
   | (with_reducible refine LeO.bind ?_ (fun _ => ?_))
   | exact ih0 _ _ _ _ _
   | exact zaJ.mono _ _
   | exact LeO.none _
   | refine LeO.ite ?_ ?_
   | refine LeO.bind ?_ (fun _ => ?_)
set_option maxHeartbeats 8000000 in
set_option maxRecDepth 100000 in
theorem za4.calls (k : Nat) (A0 : Option Addr) (c0 : Nat) (l0 : List (S60)) (r : Int) (w : World) (hr0 : Kd.C k60 w A0 l0.length l0) (hc0 : l0.length ≤ c0) (h : za4.f k l0 = some r) :
  Calls Tryd.prog 81 #[.slice A0 l0.length c0] w fun e w' => e = .returned (.int .i64 r) ∧ Below w.heap.size w w' := by
 have hu60 := Tryd.underlying60
 have HR0 := zaa.mk hr0
 have HC0 := zaa.mk hc0
 clear hr0 hc0
 have HB := zaa.mk (Below.refl w.heap.size w)
 have H : (za4.l0 k l0 0 l0 (l0.length : Int) 0) = some r := h
 clear h
 have H' := zaa.mk H
 clear H
 go_enter Tryd.func81, Tryd.ntmps81
 go_wp2
 go_loopg [3, 9] k (fun kq v3 v9 w' => ∃ (x3_1 : Int) (x9_1 : Int), v3 = .int .i64 x3_1 ∧ v9 = .int .i64 x9_1 ∧ zaa (za4.l0 kq l0 x3_1 l0 (l0.length : Int) x9_1 = some r) ∧ zaa (kq ≤ k) ∧ zaa (Below w.heap.size w w'))
 case atStart => exact ⟨(0), (0), (by first | rfl | (simp; done) | (simp [*]; done)), (by first | rfl | (simp; done) | (simp [*]; done)), H', ⟨Nat.le_refl _⟩, ⟨by repeat (first | (with_reducible first | exact HB.out | apply zac | apply zab | apply zad) | exact HB.out)⟩⟩
 case round =>
  clear H'
  obtain ⟨x3_1, x9_1, rfl, rfl, HA, HK1, HB⟩ := hrel
  cases gk with
  | zero => exact absurd HA.out (by simp [za4.l0])
  | succ k1 =>
   have H := HA.out
   clear HA
   simp only [za4.l0] at H
   by_cases c2 : x9_1 < (l0.length : Int)
   ·rw [if_pos c2] at H
    have c2b0 : decide (x9_1 < (l0.length : Int)) = true := decide_eq_true c2
    clear c2
    by_cases c3 : 0 ≤ x9_1
    ·rw [if_pos c3] at H
     have c3b0 : decide (0 ≤ x9_1) = true := decide_eq_true c3
     clear c3
     by_cases c4 : x9_1 < (l0.length : Int)
     ·rw [if_pos c4] at H
      have c4b0 : decide (x9_1 < (l0.length : Int)) = true := decide_eq_true c4
      clear c4
      replace H := Option.bind_eq_some_iff.mp H
      obtain ⟨t254, A50, H⟩ := H
      replace H : (if t254 < 0 then (some x9_1) else (if t254 > x3_1 then (some x9_1) else (za4.l0 k1 l0 (wrap64 (x3_1 + (wrap64 (1 - t254)))) l0 (l0.length : Int) (wrap64 (x9_1 + 1))))) = some r := H
      have A5 := zaa.mk A50
      clear A50
      by_cases c6 : t254 < 0
      ·rw [if_pos c6] at H
       have c6b0 : decide (t254 < 0) = true := decide_eq_true c6
       clear c6
       obtain rfl := Option.some.inj H
       have p252 : 0 ≤ (x9_1 : Int) := of_decide_eq_true (by first | (with_reducible assumption) | assumption)
       have q252 : x9_1 < (l0.length : Int) := of_decide_eq_true (by first | (with_reducible assumption) | assumption)
       obtain ⟨ad252, A252_2, c252_2, e252, hx252_0, hx252_1, hx252_2, hl252_2, hi252_2⟩ := zcY HR0.out x9_1 p252 q252
       cases e252
       replace hx252_0 := (HB.out.cell (World.block_lt_of_cell? w _ hx252_0)).trans hx252_0
       replace hx252_1 := (HB.out.cell (World.block_lt_of_cell? w _ hx252_1)).trans hx252_1
       replace hx252_2 := (HB.out.cell (World.block_lt_of_cell? w _ hx252_2)).trans hx252_2
       have HR252_2 := zaa.mk hi252_2
       have HC252_2 := zaa.mk hl252_2
       clear hi252_2 hl252_2
       replace p252 := eq_true p252
       replace q252 := eq_true q252
       go_wp2_with (first | ((with_reducible refine zbc (N := 5) rfl ?_); refine zbb ?hg (N := 5) ?hd (cs := #[.int .i64 0, .int .i64 0, .slice none 0 0]) (t := 60) ?hr ?_; (case hd => rfl); (case hg => rfl); (case hr => first | (go_simp; done) | (go_simp; rfl)); intro gb253 hg w7 hbox hb; have n0_ := zaa.mk (zax (by repeat (first | (with_reducible first | exact HB.out | apply zac | apply zab | apply zad) | exact HB.out)) hb); have n1_ := zaa.mk (hbox); have n2_ := zaa.mk ((by rw [hg]; exact (zay (by repeat (first | (with_reducible first | exact HB.out | apply zac | apply zab | apply zad) | exact HB.out))) : w.heap.size ≤ gb253)); have n3_ := zaa.mk ((by rw [hg]; exact (zay (by repeat (first | (with_reducible first | exact HB.out | apply zac | apply zab | apply zad) | exact HB.out))) : w.heap.size ≤ gb253)); clear HB; have HB := n0_; have BK253 := n1_; have GW253 := n2_; have GE253 := n3_; clear n0_ n1_ n2_ n3_; clear hb hbox hg; have hcz8_0 : w7.cell? ⟨gb253, 0, none⟩ = some (.int .i64 0) := (zae BK253.out 0).trans rfl; have hcz8_1 : w7.cell? ⟨gb253, 1, none⟩ = some (.int .i64 0) := (zae BK253.out 1).trans rfl; have hcz8_2 : w7.cell? ⟨gb253, 2, none⟩ = some (.slice none 0 0) := (zae BK253.out 2).trans rfl; have hfz8_0 := zaj BK253.out 0; have hfz8_1 := zaj BK253.out 1; have hfz8_2 := zaj BK253.out 2) | ((with_reducible refine zaG (f := 80) rfl ?_); refine za2 (some 16) rfl rfl Tryd.func80 (by kernel_rfl) rfl #[.int .i64 ((zaF l0 x9_1).f0)] rfl (by (try simp only [List.map_toArray, List.map_cons, List.map_nil]); first | done | rfl | (simp only [List.length_drop, List.length_take]; rfl)) ?_; (with_reducible refine (zaJ.calls k1 ((zaF l0 x9_1).f0) t254 _ A5.out).mono ?_); rintro e w' ⟨rfl, ⟨nd, rfl⟩⟩; refine ⟨_, rfl, ?_⟩))
       go_ret
       exact ⟨by first | rfl | (simp [zan, zam] <;> rfl) | (simp [*, zan, zam] <;> rfl), by repeat (first | (with_reducible first | exact HB.out | apply zac | apply zab | apply zad | refine zai ?_ GE253.out) | exact HB.out)⟩
      ·rw [if_neg c6] at H
       have c6b0 : decide (t254 < 0) = false := decide_eq_false c6
       clear c6
       by_cases c9 : t254 > x3_1
       ·rw [if_pos c9] at H
        have c9b0 : decide (x3_1 < t254) = true := decide_eq_true c9
        clear c9
        obtain rfl := Option.some.inj H
        have p252 : 0 ≤ (x9_1 : Int) := of_decide_eq_true (by first | (with_reducible assumption) | assumption)
        have q252 : x9_1 < (l0.length : Int) := of_decide_eq_true (by first | (with_reducible assumption) | assumption)
        obtain ⟨ad252, A252_2, c252_2, e252, hx252_0, hx252_1, hx252_2, hl252_2, hi252_2⟩ := zcY HR0.out x9_1 p252 q252
        cases e252
        replace hx252_0 := (HB.out.cell (World.block_lt_of_cell? w _ hx252_0)).trans hx252_0
        replace hx252_1 := (HB.out.cell (World.block_lt_of_cell? w _ hx252_1)).trans hx252_1
        replace hx252_2 := (HB.out.cell (World.block_lt_of_cell? w _ hx252_2)).trans hx252_2
        have HR252_2 := zaa.mk hi252_2
        have HC252_2 := zaa.mk hl252_2
        clear hi252_2 hl252_2
        replace p252 := eq_true p252
        replace q252 := eq_true q252
        go_wp2_with (first | ((with_reducible refine zbc (N := 5) rfl ?_); refine zbb ?hg (N := 5) ?hd (cs := #[.int .i64 0, .int .i64 0, .slice none 0 0]) (t := 60) ?hr ?_; (case hd => rfl); (case hg => rfl); (case hr => first | (go_simp; done) | (go_simp; rfl)); intro gb253 hg w10 hbox hb; have n0_ := zaa.mk (zax (by repeat (first | (with_reducible first | exact HB.out | apply zac | apply zab | apply zad) | exact HB.out)) hb); have n1_ := zaa.mk (hbox); have n2_ := zaa.mk ((by rw [hg]; exact (zay (by repeat (first | (with_reducible first | exact HB.out | apply zac | apply zab | apply zad) | exact HB.out))) : w.heap.size ≤ gb253)); have n3_ := zaa.mk ((by rw [hg]; exact (zay (by repeat (first | (with_reducible first | exact HB.out | apply zac | apply zab | apply zad) | exact HB.out))) : w.heap.size ≤ gb253)); clear HB; have HB := n0_; have BK253 := n1_; have GW253 := n2_; have GE253 := n3_; clear n0_ n1_ n2_ n3_; clear hb hbox hg; have hcz11_0 : w10.cell? ⟨gb253, 0, none⟩ = some (.int .i64 0) := (zae BK253.out 0).trans rfl; have hcz11_1 : w10.cell? ⟨gb253, 1, none⟩ = some (.int .i64 0) := (zae BK253.out 1).trans rfl; have hcz11_2 : w10.cell? ⟨gb253, 2, none⟩ = some (.slice none 0 0) := (zae BK253.out 2).trans rfl; have hfz11_0 := zaj BK253.out 0; have hfz11_1 := zaj BK253.out 1; have hfz11_2 := zaj BK253.out 2) | ((with_reducible refine zaG (f := 80) rfl ?_); refine za2 (some 16) rfl rfl Tryd.func80 (by kernel_rfl) rfl #[.int .i64 ((zaF l0 x9_1).f0)] rfl (by (try simp only [List.map_toArray, List.map_cons, List.map_nil]); first | done | rfl | (simp only [List.length_drop, List.length_take]; rfl)) ?_; (with_reducible refine (zaJ.calls k1 ((zaF l0 x9_1).f0) t254 _ A5.out).mono ?_); rintro e w' ⟨rfl, ⟨nd, rfl⟩⟩; refine ⟨_, rfl, ?_⟩))
        go_ret
        exact ⟨by first | rfl | (simp [zan, zam] <;> rfl) | (simp [*, zan, zam] <;> rfl), by repeat (first | (with_reducible first | exact HB.out | apply zac | apply zab | apply zad | refine zai ?_ GE253.out) | exact HB.out)⟩
       ·rw [if_neg c9] at H
        have c9b0 : decide (x3_1 < t254) = false := decide_eq_false c9
        clear c9
        have H' := zaa.mk H
        clear H
        have p252 : 0 ≤ (x9_1 : Int) := of_decide_eq_true (by first | (with_reducible assumption) | assumption)
        have q252 : x9_1 < (l0.length : Int) := of_decide_eq_true (by first | (with_reducible assumption) | assumption)
        obtain ⟨ad252, A252_2, c252_2, e252, hx252_0, hx252_1, hx252_2, hl252_2, hi252_2⟩ := zcY HR0.out x9_1 p252 q252
        cases e252
        replace hx252_0 := (HB.out.cell (World.block_lt_of_cell? w _ hx252_0)).trans hx252_0
        replace hx252_1 := (HB.out.cell (World.block_lt_of_cell? w _ hx252_1)).trans hx252_1
        replace hx252_2 := (HB.out.cell (World.block_lt_of_cell? w _ hx252_2)).trans hx252_2
        have HR252_2 := zaa.mk hi252_2
        have HC252_2 := zaa.mk hl252_2
        clear hi252_2 hl252_2
        replace p252 := eq_true p252
        replace q252 := eq_true q252
        go_wp2_with (first | ((with_reducible refine zbc (N := 5) rfl ?_); refine zbb ?hg (N := 5) ?hd (cs := #[.int .i64 0, .int .i64 0, .slice none 0 0]) (t := 60) ?hr ?_; (case hd => rfl); (case hg => rfl); (case hr => first | (go_simp; done) | (go_simp; rfl)); intro gb253 hg w12 hbox hb; have n0_ := zaa.mk (zax (by repeat (first | (with_reducible first | exact HB.out | apply zac | apply zab | apply zad) | exact HB.out)) hb); have n1_ := zaa.mk (hbox); have n2_ := zaa.mk ((by rw [hg]; exact (zay (by repeat (first | (with_reducible first | exact HB.out | apply zac | apply zab | apply zad) | exact HB.out))) : w.heap.size ≤ gb253)); have n3_ := zaa.mk ((by rw [hg]; exact (zay (by repeat (first | (with_reducible first | exact HB.out | apply zac | apply zab | apply zad) | exact HB.out))) : w.heap.size ≤ gb253)); clear HB; have HB := n0_; have BK253 := n1_; have GW253 := n2_; have GE253 := n3_; clear n0_ n1_ n2_ n3_; clear hb hbox hg; have hcz13_0 : w12.cell? ⟨gb253, 0, none⟩ = some (.int .i64 0) := (zae BK253.out 0).trans rfl; have hcz13_1 : w12.cell? ⟨gb253, 1, none⟩ = some (.int .i64 0) := (zae BK253.out 1).trans rfl; have hcz13_2 : w12.cell? ⟨gb253, 2, none⟩ = some (.slice none 0 0) := (zae BK253.out 2).trans rfl; have hfz13_0 := zaj BK253.out 0; have hfz13_1 := zaj BK253.out 1; have hfz13_2 := zaj BK253.out 2) | ((with_reducible refine zaG (f := 80) rfl ?_); refine za2 (some 16) rfl rfl Tryd.func80 (by kernel_rfl) rfl #[.int .i64 ((zaF l0 x9_1).f0)] rfl (by (try simp only [List.map_toArray, List.map_cons, List.map_nil]); first | done | rfl | (simp only [List.length_drop, List.length_take]; rfl)) ?_; (with_reducible refine (zaJ.calls k1 ((zaF l0 x9_1).f0) t254 _ A5.out).mono ?_); rintro e w' ⟨rfl, ⟨nd, rfl⟩⟩; refine ⟨_, rfl, ?_⟩))
        go_roundg k1
        case measure => have := HK1.out; omega
        case rel => exact ⟨(wrap64 (x3_1 + (wrap64 (1 - t254)))), (wrap64 (x9_1 + 1)), (by first | rfl | (simp; done) | (simp [*]; done)), (by first | rfl | (simp; done) | (simp [*]; done)), H', ⟨by have := HK1.out; omega⟩, ⟨by repeat (first | (with_reducible first | exact HB.out | apply zac | apply zab | apply zad | refine zai ?_ GE253.out) | exact HB.out)⟩⟩
     ·rw [if_neg c4] at H
      exact absurd H (by simp)
    ·rw [if_neg c3] at H
     exact absurd H (by simp)
   ·rw [if_neg c2] at H
    have c2b0 : decide (x9_1 < (l0.length : Int)) = false := decide_eq_false c2
    clear c2
    by_cases c14 : x3_1 = 1
    ·rw [if_pos c14] at H
     have c14b0 : (x3_1 == 1) = true := beq_iff_eq.mpr c14
     have c14b1 : (x3_1 != 1) = false := bne_eq_false_iff_eq.mpr c14
     clear c14
     obtain rfl := Option.some.inj H
     go_wp2
     go_ret
     exact ⟨by first | rfl | (simp [zan, zam] <;> rfl) | (simp [*, zan, zam] <;> rfl), by repeat (first | (with_reducible first | exact HB.out | apply zac | apply zab | apply zad) | exact HB.out)⟩
    ·rw [if_neg c14] at H
     have c14b0 : (x3_1 == 1) = false := beq_eq_false_iff_ne.mpr c14
     have c14b1 : (x3_1 != 1) = true := bne_iff_ne.mpr c14
     obtain rfl := Option.some.inj H
     go_wp2
     go_ret
     exact ⟨by first | rfl | (simp [zan, zam] <;> rfl) | (simp [*, zan, zam] <;> rfl), by repeat (first | (with_reducible first | exact HB.out | apply zac | apply zab | apply zad) | exact HB.out)⟩
def zaS.l0 : Nat → Int → Int → Int → Int → List (S60) → Int → Int → Option (Int)
 | 0, _, _, _, _, _, _, _ => none
 | k + 1, x1, x2, x3, x9, x14, x15, x16 => if x16 < x15 then (if 0 ≤ x16 then (if x16 < (x14.length : Int) then (if x16 = x9 then (some x16) else ((zaY.f k ((zaF x14 x16).f0) ((zaF x14 x16).f1) ((zaF x14 x16).f2) x1 x2 x3).bind fun t258 => (if t258 = true then (zaS.l0 k x1 x2 x3 x9 x14 x15 (wrap64 (x16 + 1))) else (some x16)))) else (none)) else (none)) else (some x9)
def zaS.f (k : Nat) (l0 : List (S60)) (a1 : Int) (a2 : Int) (a3 : Int) : Option (Int) := (za4.f k l0).bind fun t255 => (zaS.l0 k a1 a2 a3 t255 l0 (l0.length : Int) 0)
theorem zaS.zaR : ∀ k, (∀ y0 y1 y2 y3 y4 y5 y6, LeO (zaS.l0 k y0 y1 y2 y3 y4 y5 y6) (zaS.l0 (k + 1) y0 y1 y2 y3 y4 y5 y6))
 | 0 => fun _ _ _ _ _ _ _ r h => by simp [zaS.l0] at h
 | k + 1 => by
  have ih0 := zaS.zaR k
  ·intro y0 y1 y2 y3 y4 y5 y6
   unfold zaS.l0
   repeat' first
   | (with_reducible exact ih0 _ _ _ _ _ _ _)
   | (with_reducible exact zaY.mono _ _ _ _ _ _ _)
   | (with_reducible exact za4.mono _ _)
   | (with_reducible exact LeO.refl _)
   | (with_reducible exact LeO.none _)
   | (with_reducible refine LeO.ite ?_ ?_)
   | (with_reducible refine LeO.bind ?_ (fun _ => ?_))
   | exact ih0 _ _ _ _ _ _ _
   | exact zaY.mono _ _ _ _ _ _ _
   | exact za4.mono _ _
   | exact LeO.none _
   | refine LeO.ite ?_ ?_
   | refine LeO.bind ?_ (fun _ => ?_)
theorem zaS.mono : ∀ a0 a1 a2 a3 k, LeO (zaS.f k a0 a1 a2 a3) (zaS.f (k + 1) a0 a1 a2 a3) := by
 intro a0 a1 a2 a3 k
 have ih0 := zaS.zaR k
 unfold zaS.f
 repeat' first
   | (with_reducible exact ih0 _ _ _ _ _ _ _)
   | (with_reducible exact zaY.mono _ _ _ _ _ _ _)
   | (with_reducible exact za4.mono _ _)
   | (with_reducible exact LeO.refl _)
   | (with_reducible exact LeO.none _)
   | (with_reducible refine LeO.ite ?_ ?_)
   | (with_reducible refine LeO.bind ?_ (fun _ => ?_))
   | exact ih0 _ _ _ _ _ _ _
   | exact zaY.mono _ _ _ _ _ _ _
   | exact za4.mono _ _
   | exact LeO.none _
   | refine LeO.ite ?_ ?_
   | refine LeO.bind ?_ (fun _ => ?_)
set_option maxHeartbeats 8000000 in
set_option maxRecDepth 100000 in
theorem zaS.calls (k : Nat) (A0 : Option Addr) (c0 : Nat) (l0 : List (S60)) (a1 : Int) (a2 : Int) (a3 : Int) (r : Int) (w : World) (hr0 : Kd.C k60 w A0 l0.length l0) (hc0 : l0.length ≤ c0) (h : zaS.f k l0 a1 a2 a3 = some r) :
  Calls Tryd.prog 33 #[.slice A0 l0.length c0, .int .i64 a1, .int .i64 a2, .int .i64 a3] w fun e w' => e = .returned (.int .i64 r) ∧ Below w.heap.size w w' := by
 have hu60 := Tryd.underlying60
 have HR0 := zaa.mk hr0
 have HC0 := zaa.mk hc0
 clear hr0 hc0
 have HB := zaa.mk (Below.refl w.heap.size w)
 have H : ((za4.f k l0).bind fun t255 => (zaS.l0 k a1 a2 a3 t255 l0 (l0.length : Int) 0)) = some r := h
 clear h
 replace H := Option.bind_eq_some_iff.mp H
 obtain ⟨t255, A50, H⟩ := H
 replace H : (zaS.l0 k a1 a2 a3 t255 l0 (l0.length : Int) 0) = some r := H
 have A5 := zaa.mk A50
 clear A50
 have H' := zaa.mk H
 clear H
 go_enter Tryd.func33, Tryd.ntmps33
 go_wp2_with (first | ((with_reducible refine zaG (f := 81) rfl ?_); refine za2 (some 13) rfl rfl Tryd.func81 (by kernel_rfl) rfl #[.slice A0 l0.length c0] rfl (by (try simp only [List.map_toArray, List.map_cons, List.map_nil]); first | done | rfl | (simp only [List.length_drop, List.length_take]; rfl)) ?_; (with_reducible refine (za4.calls k _ _ l0 t255 _ ?side1 ?side2 A5.out).mono ?_); (case side1 => repeat (first | exact HR0.out | (with_reducible refine Kd.zaT ?_ _) | (with_reducible refine Kd.zaU ?_ _) | (with_reducible refine Kd.za0 ?_))); (case side2 => exact HC0.out); rintro e w6 ⟨rfl, hb⟩; refine ⟨_, rfl, ?_⟩; have n0_ := zaa.mk (zax (by repeat (first | (with_reducible first | exact HB.out | apply zac | apply zab | apply zad) | exact HB.out)) hb); clear HB; have HB := n0_; clear n0_; (try clear hb); (try clear hb2); (try clear hk); (try clear hi)))
 go_loopg [16] k (fun kq v16 w' => ∃ (x16_1 : Int), v16 = .int .i64 x16_1 ∧ zaa (zaS.l0 kq a1 a2 a3 t255 l0 (l0.length : Int) x16_1 = some r) ∧ zaa (kq ≤ k) ∧ zaa (Below w.heap.size w w'))
 case atStart => exact ⟨(0), (by first | rfl | (simp; done) | (simp [*]; done)), H', ⟨Nat.le_refl _⟩, ⟨by repeat (first | (with_reducible first | exact HB.out | apply zac | apply zab | apply zad) | exact HB.out)⟩⟩
 case round =>
  clear H'
  try clear p2
  try clear c3
  obtain ⟨x16_1, rfl, HA, HK1, HB⟩ := hrel
  cases gk with
  | zero => exact absurd HA.out (by simp [zaS.l0])
  | succ k1 =>
   have H := HA.out
   clear HA
   simp only [zaS.l0] at H
   by_cases c7 : x16_1 < (l0.length : Int)
   ·rw [if_pos c7] at H
    have c7b0 : decide (x16_1 < (l0.length : Int)) = true := decide_eq_true c7
    clear c7
    by_cases c8 : 0 ≤ x16_1
    ·rw [if_pos c8] at H
     have c8b0 : decide (0 ≤ x16_1) = true := decide_eq_true c8
     clear c8
     by_cases c9 : x16_1 < (l0.length : Int)
     ·rw [if_pos c9] at H
      have c9b0 : decide (x16_1 < (l0.length : Int)) = true := decide_eq_true c9
      clear c9
      by_cases c10 : x16_1 = t255
      ·rw [if_pos c10] at H
       have c10b0 : (x16_1 == t255) = true := beq_iff_eq.mpr c10
       have c10b1 : (x16_1 != t255) = false := bne_eq_false_iff_eq.mpr c10
       clear c10
       obtain rfl := Option.some.inj H
       have p256 : 0 ≤ (x16_1 : Int) := of_decide_eq_true (by first | (with_reducible assumption) | assumption)
       have q256 : x16_1 < (l0.length : Int) := of_decide_eq_true (by first | (with_reducible assumption) | assumption)
       obtain ⟨ad256, A256_2, c256_2, e256, hx256_0, hx256_1, hx256_2, hl256_2, hi256_2⟩ := zcY HR0.out x16_1 p256 q256
       cases e256
       replace hx256_0 := (HB.out.cell (World.block_lt_of_cell? w _ hx256_0)).trans hx256_0
       replace hx256_1 := (HB.out.cell (World.block_lt_of_cell? w _ hx256_1)).trans hx256_1
       replace hx256_2 := (HB.out.cell (World.block_lt_of_cell? w _ hx256_2)).trans hx256_2
       have HR256_2 := zaa.mk hi256_2
       have HC256_2 := zaa.mk hl256_2
       clear hi256_2 hl256_2
       replace p256 := eq_true p256
       replace q256 := eq_true q256
       go_wp2_with (first | ((with_reducible refine zbc (N := 11) rfl ?_); refine zbb ?hg (N := 11) ?hd (cs := #[.int .i64 0, .int .i64 0, .slice none 0 0]) (t := 60) ?hr ?_; (case hd => rfl); (case hg => rfl); (case hr => first | (go_simp; done) | (go_simp; rfl)); intro gb257 hg w11 hbox hb; have n0_ := zaa.mk (zax (by repeat (first | (with_reducible first | exact HB.out | apply zac | apply zab | apply zad) | exact HB.out)) hb); have n1_ := zaa.mk (hbox); have n2_ := zaa.mk ((by rw [hg]; exact (zay (by repeat (first | (with_reducible first | exact HB.out | apply zac | apply zab | apply zad) | exact HB.out))) : w.heap.size ≤ gb257)); have n3_ := zaa.mk ((by rw [hg]; exact (zay (by repeat (first | (with_reducible first | exact HB.out | apply zac | apply zab | apply zad) | exact HB.out))) : w.heap.size ≤ gb257)); clear HB; have HB := n0_; have BK257 := n1_; have GW257 := n2_; have GE257 := n3_; clear n0_ n1_ n2_ n3_; clear hb hbox hg; have hcz12_0 : w11.cell? ⟨gb257, 0, none⟩ = some (.int .i64 0) := (zae BK257.out 0).trans rfl; have hcz12_1 : w11.cell? ⟨gb257, 1, none⟩ = some (.int .i64 0) := (zae BK257.out 1).trans rfl; have hcz12_2 : w11.cell? ⟨gb257, 2, none⟩ = some (.slice none 0 0) := (zae BK257.out 2).trans rfl; have hfz12_0 := zaj BK257.out 0; have hfz12_1 := zaj BK257.out 1; have hfz12_2 := zaj BK257.out 2))
       go_ret
       exact ⟨by first | rfl | (simp [zan, zam] <;> rfl) | (simp [*, zan, zam] <;> rfl), by repeat (first | (with_reducible first | exact HB.out | apply zac | apply zab | apply zad | refine zai ?_ GE257.out) | exact HB.out)⟩
      ·rw [if_neg c10] at H
       have c10b0 : (x16_1 == t255) = false := beq_eq_false_iff_ne.mpr c10
       have c10b1 : (x16_1 != t255) = true := bne_iff_ne.mpr c10
       replace H := Option.bind_eq_some_iff.mp H
       obtain ⟨t258, A130, H⟩ := H
       replace H : (if t258 = true then (zaS.l0 k1 a1 a2 a3 t255 l0 (l0.length : Int) (wrap64 (x16_1 + 1))) else (some x16_1)) = some r := H
       have A13 := zaa.mk A130
       clear A130
       by_cases c14 : t258 = true
       ·subst c14
        have H1 : (zaS.l0 k1 a1 a2 a3 t255 l0 (l0.length : Int) (wrap64 (x16_1 + 1))) = some r := by rw [if_pos rfl] at H; exact H
        clear H
        have H := H1
        clear H1
        have H' := zaa.mk H
        clear H
        have p256 : 0 ≤ (x16_1 : Int) := of_decide_eq_true (by first | (with_reducible assumption) | assumption)
        have q256 : x16_1 < (l0.length : Int) := of_decide_eq_true (by first | (with_reducible assumption) | assumption)
        obtain ⟨ad256, A256_2, c256_2, e256, hx256_0, hx256_1, hx256_2, hl256_2, hi256_2⟩ := zcY HR0.out x16_1 p256 q256
        cases e256
        replace hx256_0 := (HB.out.cell (World.block_lt_of_cell? w _ hx256_0)).trans hx256_0
        replace hx256_1 := (HB.out.cell (World.block_lt_of_cell? w _ hx256_1)).trans hx256_1
        replace hx256_2 := (HB.out.cell (World.block_lt_of_cell? w _ hx256_2)).trans hx256_2
        have HR256_2 := zaa.mk hi256_2
        have HC256_2 := zaa.mk hl256_2
        clear hi256_2 hl256_2
        replace p256 := eq_true p256
        replace q256 := eq_true q256
        go_wp2_with (first | ((with_reducible refine zbc (N := 11) rfl ?_); refine zbb ?hg (N := 11) ?hd (cs := #[.int .i64 0, .int .i64 0, .slice none 0 0]) (t := 60) ?hr ?_; (case hd => rfl); (case hg => rfl); (case hr => first | (go_simp; done) | (go_simp; rfl)); intro gb257 hg w15 hbox hb; have n0_ := zaa.mk (zax (by repeat (first | (with_reducible first | exact HB.out | apply zac | apply zab | apply zad) | exact HB.out)) hb); have n1_ := zaa.mk (hbox); have n2_ := zaa.mk ((by rw [hg]; exact (zay (by repeat (first | (with_reducible first | exact HB.out | apply zac | apply zab | apply zad) | exact HB.out))) : w.heap.size ≤ gb257)); have n3_ := zaa.mk ((by rw [hg]; exact (zay (by repeat (first | (with_reducible first | exact HB.out | apply zac | apply zab | apply zad) | exact HB.out))) : w.heap.size ≤ gb257)); clear HB; have HB := n0_; have BK257 := n1_; have GW257 := n2_; have GE257 := n3_; clear n0_ n1_ n2_ n3_; clear hb hbox hg; have hcz16_0 : w15.cell? ⟨gb257, 0, none⟩ = some (.int .i64 0) := (zae BK257.out 0).trans rfl; have hcz16_1 : w15.cell? ⟨gb257, 1, none⟩ = some (.int .i64 0) := (zae BK257.out 1).trans rfl; have hcz16_2 : w15.cell? ⟨gb257, 2, none⟩ = some (.slice none 0 0) := (zae BK257.out 2).trans rfl; have hfz16_0 := zaj BK257.out 0; have hfz16_1 := zaj BK257.out 1; have hfz16_2 := zaj BK257.out 2) | (go_at_call 31; (with_reducible refine (zaY.calls k1 ((zaF l0 x16_1).f0) ((zaF l0 x16_1).f1) _ _ ((zaF l0 x16_1).f2) a1 a2 a3 true _ ?side1 ?side2 A13.out).mono ?_); (case side1 => exact Kd.za7 HR256_2.out (by repeat (first | (with_reducible first | exact HB.out | apply zac | apply zab | apply zad | refine zai ?_ GE257.out) | exact HB.out))); (case side2 => exact HC256_2.out); rintro e w17 ⟨rfl, hb⟩; have n0_ := zaa.mk (zaP (g := gb257) (o := .cells #[.int .i64 ((zaF l0 x16_1).f0), .int .i64 ((zaF l0 x16_1).f1), .slice A256_2 ((zaF l0 x16_1).f2).length c256_2] 60 (0, 0)) (by (with_reducible repeat (first | refine zah ?_ _ | refine zak ?_ | refine zaf ?_ _)); refine za8 (cs := #[.int .i64 ((zaF l0 x16_1).f0), .int .i64 ((zaF l0 x16_1).f1), .slice none 0 0]) ?_ 2 _ rfl; (with_reducible repeat (first | refine zah ?_ _ | refine zak ?_ | refine zaf ?_ _)); refine za8 (cs := #[.int .i64 ((zaF l0 x16_1).f0), .int .i64 0, .slice none 0 0]) ?_ 1 _ rfl; (with_reducible repeat (first | refine zah ?_ _ | refine zak ?_ | refine zaf ?_ _)); refine za8 (cs := #[.int .i64 0, .int .i64 0, .slice none 0 0]) ?_ 0 _ rfl; (with_reducible repeat (first | refine zah ?_ _ | refine zak ?_ | refine zaf ?_ _)); exact BK257.out) hb); have n1_ := zaa.mk (zax (by repeat (first | (with_reducible first | exact HB.out | apply zac | apply zab | apply zad | refine zai ?_ GE257.out) | exact HB.out)) hb); clear BK257; clear HB; have BK257 := n0_; have HB := n1_; clear n0_ n1_; (try clear hb); (try clear hb2); (try clear hk); (try clear hi)))
        go_roundg k1
        case measure => have := HK1.out; omega
        case rel => exact ⟨(wrap64 (x16_1 + 1)), (by first | rfl | (simp; done) | (simp [*]; done)), H', ⟨by have := HK1.out; omega⟩, ⟨by repeat (first | (with_reducible first | exact HB.out | apply zac | apply zab | apply zad | refine zai ?_ GE257.out) | exact HB.out)⟩⟩
       ·replace c14 := Bool.eq_false_iff.mpr c14
        subst c14
        have H1 : (some x16_1) = some r := by rw [if_neg (show ¬ (false = true) by decide)] at H; exact H
        clear H
        have H := H1
        clear H1
        obtain rfl := Option.some.inj H
        have p256 : 0 ≤ (x16_1 : Int) := of_decide_eq_true (by first | (with_reducible assumption) | assumption)
        have q256 : x16_1 < (l0.length : Int) := of_decide_eq_true (by first | (with_reducible assumption) | assumption)
        obtain ⟨ad256, A256_2, c256_2, e256, hx256_0, hx256_1, hx256_2, hl256_2, hi256_2⟩ := zcY HR0.out x16_1 p256 q256
        cases e256
        replace hx256_0 := (HB.out.cell (World.block_lt_of_cell? w _ hx256_0)).trans hx256_0
        replace hx256_1 := (HB.out.cell (World.block_lt_of_cell? w _ hx256_1)).trans hx256_1
        replace hx256_2 := (HB.out.cell (World.block_lt_of_cell? w _ hx256_2)).trans hx256_2
        have HR256_2 := zaa.mk hi256_2
        have HC256_2 := zaa.mk hl256_2
        clear hi256_2 hl256_2
        replace p256 := eq_true p256
        replace q256 := eq_true q256
        go_wp2_with (first | ((with_reducible refine zbc (N := 11) rfl ?_); refine zbb ?hg (N := 11) ?hd (cs := #[.int .i64 0, .int .i64 0, .slice none 0 0]) (t := 60) ?hr ?_; (case hd => rfl); (case hg => rfl); (case hr => first | (go_simp; done) | (go_simp; rfl)); intro gb257 hg w18 hbox hb; have n0_ := zaa.mk (zax (by repeat (first | (with_reducible first | exact HB.out | apply zac | apply zab | apply zad) | exact HB.out)) hb); have n1_ := zaa.mk (hbox); have n2_ := zaa.mk ((by rw [hg]; exact (zay (by repeat (first | (with_reducible first | exact HB.out | apply zac | apply zab | apply zad) | exact HB.out))) : w.heap.size ≤ gb257)); have n3_ := zaa.mk ((by rw [hg]; exact (zay (by repeat (first | (with_reducible first | exact HB.out | apply zac | apply zab | apply zad) | exact HB.out))) : w.heap.size ≤ gb257)); clear HB; have HB := n0_; have BK257 := n1_; have GW257 := n2_; have GE257 := n3_; clear n0_ n1_ n2_ n3_; clear hb hbox hg; have hcz19_0 : w18.cell? ⟨gb257, 0, none⟩ = some (.int .i64 0) := (zae BK257.out 0).trans rfl; have hcz19_1 : w18.cell? ⟨gb257, 1, none⟩ = some (.int .i64 0) := (zae BK257.out 1).trans rfl; have hcz19_2 : w18.cell? ⟨gb257, 2, none⟩ = some (.slice none 0 0) := (zae BK257.out 2).trans rfl; have hfz19_0 := zaj BK257.out 0; have hfz19_1 := zaj BK257.out 1; have hfz19_2 := zaj BK257.out 2) | (go_at_call 31; (with_reducible refine (zaY.calls k1 ((zaF l0 x16_1).f0) ((zaF l0 x16_1).f1) _ _ ((zaF l0 x16_1).f2) a1 a2 a3 false _ ?side1 ?side2 A13.out).mono ?_); (case side1 => exact Kd.za7 HR256_2.out (by repeat (first | (with_reducible first | exact HB.out | apply zac | apply zab | apply zad | refine zai ?_ GE257.out) | exact HB.out))); (case side2 => exact HC256_2.out); rintro e w20 ⟨rfl, hb⟩; have n0_ := zaa.mk (zaP (g := gb257) (o := .cells #[.int .i64 ((zaF l0 x16_1).f0), .int .i64 ((zaF l0 x16_1).f1), .slice A256_2 ((zaF l0 x16_1).f2).length c256_2] 60 (0, 0)) (by (with_reducible repeat (first | refine zah ?_ _ | refine zak ?_ | refine zaf ?_ _)); refine za8 (cs := #[.int .i64 ((zaF l0 x16_1).f0), .int .i64 ((zaF l0 x16_1).f1), .slice none 0 0]) ?_ 2 _ rfl; (with_reducible repeat (first | refine zah ?_ _ | refine zak ?_ | refine zaf ?_ _)); refine za8 (cs := #[.int .i64 ((zaF l0 x16_1).f0), .int .i64 0, .slice none 0 0]) ?_ 1 _ rfl; (with_reducible repeat (first | refine zah ?_ _ | refine zak ?_ | refine zaf ?_ _)); refine za8 (cs := #[.int .i64 0, .int .i64 0, .slice none 0 0]) ?_ 0 _ rfl; (with_reducible repeat (first | refine zah ?_ _ | refine zak ?_ | refine zaf ?_ _)); exact BK257.out) hb); have n1_ := zaa.mk (zax (by repeat (first | (with_reducible first | exact HB.out | apply zac | apply zab | apply zad | refine zai ?_ GE257.out) | exact HB.out)) hb); clear BK257; clear HB; have BK257 := n0_; have HB := n1_; clear n0_ n1_; (try clear hb); (try clear hb2); (try clear hk); (try clear hi)))
        go_ret
        exact ⟨by first | rfl | (simp [zan, zam] <;> rfl) | (simp [*, zan, zam] <;> rfl), by repeat (first | (with_reducible first | exact HB.out | apply zac | apply zab | apply zad | refine zai ?_ GE257.out) | exact HB.out)⟩
     ·rw [if_neg c9] at H
      exact absurd H (by simp)
    ·rw [if_neg c8] at H
     exact absurd H (by simp)
   ·rw [if_neg c7] at H
    have c7b0 : decide (x16_1 < (l0.length : Int)) = false := decide_eq_false c7
    clear c7
    obtain rfl := Option.some.inj H
    go_wp2
    go_ret
    exact ⟨by first | rfl | (simp [zan, zam] <;> rfl) | (simp [*, zan, zam] <;> rfl), by repeat (first | (with_reducible first | exact HB.out | apply zac | apply zab | apply zad) | exact HB.out)⟩
def zbC.f (k : Nat) (l0 : List (S60)) : Option (Bool) := (za4.f k l0).bind fun t259 => (some (decide (t259 < 0)))
theorem zbC.mono : ∀ a0 k, LeO (zbC.f k a0) (zbC.f (k + 1) a0) := by
 intro a0 k
 unfold zbC.f
 repeat' first
   | (with_reducible exact za4.mono _ _)
   | (with_reducible exact LeO.refl _)
   | (with_reducible exact LeO.none _)
   | (with_reducible refine LeO.ite ?_ ?_)
   | (with_reducible refine LeO.bind ?_ (fun _ => ?_))
   | exact za4.mono _ _
   | exact LeO.none _
   | refine LeO.ite ?_ ?_
   | refine LeO.bind ?_ (fun _ => ?_)
set_option maxHeartbeats 8000000 in
set_option maxRecDepth 100000 in
theorem zbC.calls (k : Nat) (A0 : Option Addr) (c0 : Nat) (l0 : List (S60)) (r : Bool) (w : World) (hr0 : Kd.C k60 w A0 l0.length l0) (hc0 : l0.length ≤ c0) (h : zbC.f k l0 = some r) :
  Calls Tryd.prog 38 #[.slice A0 l0.length c0] w fun e w' => e = .returned (.bool r) ∧ Below w.heap.size w w' := by
 have HR0 := zaa.mk hr0
 have HC0 := zaa.mk hc0
 clear hr0 hc0
 have HB := zaa.mk (Below.refl w.heap.size w)
 have H : ((za4.f k l0).bind fun t259 => (some (decide (t259 < 0)))) = some r := h
 clear h
 replace H := Option.bind_eq_some_iff.mp H
 obtain ⟨t259, A20, H⟩ := H
 replace H : (some (decide (t259 < 0))) = some r := H
 have A2 := zaa.mk A20
 clear A20
 obtain rfl := Option.some.inj H
 go_enter Tryd.func38, Tryd.ntmps38
 go_wp2_with (first | ((with_reducible refine zaG (f := 81) rfl ?_); refine za2 (some 4) rfl rfl Tryd.func81 (by kernel_rfl) rfl #[.slice A0 l0.length c0] rfl (by (try simp only [List.map_toArray, List.map_cons, List.map_nil]); first | done | rfl | (simp only [List.length_drop, List.length_take]; rfl)) ?_; (with_reducible refine (za4.calls k _ _ l0 t259 _ ?side1 ?side2 A2.out).mono ?_); (case side1 => repeat (first | exact HR0.out | (with_reducible refine Kd.zaT ?_ _) | (with_reducible refine Kd.zaU ?_ _) | (with_reducible refine Kd.za0 ?_))); (case side2 => exact HC0.out); rintro e w3 ⟨rfl, hb⟩; refine ⟨_, rfl, ?_⟩; have n0_ := zaa.mk (zax (by repeat (first | (with_reducible first | exact HB.out | apply zac | apply zab | apply zad) | exact HB.out)) hb); clear HB; have HB := n0_; clear n0_; (try clear hb); (try clear hb2); (try clear hk); (try clear hi)))
 go_ret
 exact ⟨by first | rfl | (simp [zan, zam] <;> rfl) | (simp [*, zan, zam] <;> rfl), by repeat (first | (with_reducible first | exact HB.out | apply zac | apply zab | apply zad) | exact HB.out)⟩
mutual
def zaM.l0 : Nat → List Int → List (S60) → Int → Int → Option (Int)
 | 0, _, _, _, _ => none
 | k + 1, x3, x10, x11, x12 => if x12 < x11 then (if 0 ≤ x12 then (if x12 < (x10.length : Int) then ((zaJ.f k ((zaF x10 x12).f0)).bind fun t264 => (zaM.l1 k x3 0 x10 x11 x12 t264 0)) else (none)) else (none)) else (if 0 < (x3.length : Int) then (some (rd x3 0)) else (none))
def zaM.l1 : Nat → List Int → Int → List (S60) → Int → Int → Int → Int → Option (Int)
 | 0, _, _, _, _, _, _, _ => none
 | k + 1, x3, x6, x10, x11, x12, x18, x19 => if x19 < x18 then (if 0 ≤ (wrap64 ((x3.length : Int) - 1)) then (if (wrap64 ((x3.length : Int) - 1)) < (x3.length : Int) then (if (wrap64 ((x3.length : Int) - 1)) ≤ (x3.length : Int) then (zaM.l1 k (x3.take ((wrap64 ((x3.length : Int) - 1)) : Int).toNat) (mx x6 (rd x3 (wrap64 ((x3.length : Int) - 1)))) x10 x11 x12 x18 (wrap64 (x19 + 1))) else (none)) else (none)) else (none)) else (if x3.length < 17592186044416 then (zaM.l0 k (x3 ++ [wrap64 (x6 + 1)]) x10 x11 (wrap64 (x12 + 1))) else (none))
end
def zaM.f (k : Nat) (l0 : List (S60)) : Option (Int) := (zbC.f k l0).bind fun t260 => (if t260 = true then (zaM.l0 k ([] : List Int) l0 (l0.length : Int) 0) else (some 0))
theorem zaM.zaR : ∀ k, (∀ y0 y1 y2 y3, LeO (zaM.l0 k y0 y1 y2 y3) (zaM.l0 (k + 1) y0 y1 y2 y3)) ∧ (∀ y0 y1 y2 y3 y4 y5 y6, LeO (zaM.l1 k y0 y1 y2 y3 y4 y5 y6) (zaM.l1 (k + 1) y0 y1 y2 y3 y4 y5 y6))
 | 0 => ⟨fun _ _ _ _ r h => by simp [zaM.l0] at h, fun _ _ _ _ _ _ _ r h => by simp [zaM.l1] at h⟩
 | k + 1 => by
  obtain ⟨ih0, ih1⟩ := zaM.zaR k
  refine ⟨?_, ?_⟩
  ·intro y0 y1 y2 y3
   unfold zaM.l0
   repeat' first
   | (with_reducible exact ih0 _ _ _ _)
   | (with_reducible exact ih1 _ _ _ _ _ _ _)
   | (with_reducible exact zaJ.mono _ _)
   | (with_reducible exact zbC.mono _ _)
   | (with_reducible exact LeO.refl _)
   | (with_reducible exact LeO.none _)
   | (with_reducible refine LeO.ite ?_ ?_)
   | (with_reducible refine LeO.bind ?_ (fun _ => ?_))
   | exact ih0 _ _ _ _
   | exact ih1 _ _ _ _ _ _ _
   | exact zaJ.mono _ _
   | exact zbC.mono _ _
   | exact LeO.none _
   | refine LeO.ite ?_ ?_
   | refine LeO.bind ?_ (fun _ => ?_)
  ·intro y0 y1 y2 y3 y4 y5 y6
   unfold zaM.l1
   repeat' first
   | (with_reducible exact ih0 _ _ _ _)
   | (with_reducible exact ih1 _ _ _ _ _ _ _)
   | (with_reducible exact zaJ.mono _ _)
   | (with_reducible exact zbC.mono _ _)
   | (with_reducible exact LeO.refl _)
   | (with_reducible exact LeO.none _)
   | (with_reducible refine LeO.ite ?_ ?_)
   | (with_reducible refine LeO.bind ?_ (fun _ => ?_))
   | exact ih0 _ _ _ _
   | exact ih1 _ _ _ _ _ _ _
   | exact zaJ.mono _ _
   | exact zbC.mono _ _
   | exact LeO.none _
   | refine LeO.ite ?_ ?_
   | refine LeO.bind ?_ (fun _ => ?_)
theorem zaM.mono : ∀ a0 k, LeO (zaM.f k a0) (zaM.f (k + 1) a0) := by
 intro a0 k
 obtain ⟨ih0, ih1⟩ := zaM.zaR k
 unfold zaM.f
 repeat' first
   | (with_reducible exact ih0 _ _ _ _)
   | (with_reducible exact ih1 _ _ _ _ _ _ _)
   | (with_reducible exact zaJ.mono _ _)
   | (with_reducible exact zbC.mono _ _)
   | (with_reducible exact LeO.refl _)
   | (with_reducible exact LeO.none _)
   | (with_reducible refine LeO.ite ?_ ?_)
   | (with_reducible refine LeO.bind ?_ (fun _ => ?_))
   | exact ih0 _ _ _ _
   | exact ih1 _ _ _ _ _ _ _
   | exact zaJ.mono _ _
   | exact zbC.mono _ _
   | exact LeO.none _
   | refine LeO.ite ?_ ?_
   | refine LeO.bind ?_ (fun _ => ?_)
set_option maxHeartbeats 8000000 in
set_option maxRecDepth 100000 in
theorem zaM.calls (k : Nat) (A0 : Option Addr) (c0 : Nat) (l0 : List (S60)) (r : Int) (w : World) (hr0 : Kd.C k60 w A0 l0.length l0) (hc0 : l0.length ≤ c0) (h : zaM.f k l0 = some r) :
  Calls Tryd.prog 39 #[.slice A0 l0.length c0] w fun e w' => e = .returned (.int .i64 r) ∧ Below w.heap.size w w' := by
 have hu60 := Tryd.underlying60
 have HR0 := zaa.mk hr0
 have HC0 := zaa.mk hc0
 clear hr0 hc0
 have HB := zaa.mk (Below.refl w.heap.size w)
 have H : ((zbC.f k l0).bind fun t260 => (if t260 = true then (zaM.l0 k ([] : List Int) l0 (l0.length : Int) 0) else (some 0))) = some r := h
 clear h
 replace H := Option.bind_eq_some_iff.mp H
 obtain ⟨t260, A20, H⟩ := H
 replace H : (if t260 = true then (zaM.l0 k ([] : List Int) l0 (l0.length : Int) 0) else (some 0)) = some r := H
 have A2 := zaa.mk A20
 clear A20
 by_cases c3 : t260 = true
 ·subst c3
  have H1 : (zaM.l0 k ([] : List Int) l0 (l0.length : Int) 0) = some r := by rw [if_pos rfl] at H; exact H
  clear H
  have H := H1
  clear H1
  have H' := zaa.mk H
  clear H
  go_enter Tryd.func39, Tryd.ntmps39
  go_wp2_with (first | ((with_reducible refine zaG (f := 38) rfl ?_); refine za2 (some 8) rfl rfl Tryd.func38 (by kernel_rfl) rfl #[.slice A0 l0.length c0] rfl (by (try simp only [List.map_toArray, List.map_cons, List.map_nil]); first | done | rfl | (simp only [List.length_drop, List.length_take]; rfl)) ?_; (with_reducible refine (zbC.calls k _ _ l0 true _ ?side1 ?side2 A2.out).mono ?_); (case side1 => repeat (first | exact HR0.out | (with_reducible refine Kd.zaT ?_ _) | (with_reducible refine Kd.zaU ?_ _) | (with_reducible refine Kd.za0 ?_))); (case side2 => exact HC0.out); rintro e w4 ⟨rfl, hb⟩; refine ⟨_, rfl, ?_⟩; have n0_ := zaa.mk (zax (by repeat (first | (with_reducible first | exact HB.out | apply zac | apply zab | apply zad) | exact HB.out)) hb); clear HB; have HB := n0_; clear n0_; (try clear hb); (try clear hb2); (try clear hk); (try clear hi)))
  go_loopg [3, 12] k (fun kq v3 v12 w' => ∃ (x3_1 : List Int) (x12_1 : Int), v12 = .int .i64 x12_1 ∧ zaa (zaM.l0 kq x3_1 l0 (l0.length : Int) x12_1 = some r) ∧ zaa (kq ≤ k) ∧ zaa (Kd.R (Kd.int .i64) 3 w' w.heap.size (fun _ => True) v3 x3_1) ∧ zaa (Below w.heap.size w w'))
  case atStart => exact ⟨(([] : List Int)), (0), (by first | rfl | (simp; done) | (simp [*]; done)), H', ⟨Nat.le_refl _⟩, ⟨by first | exact Kd.zc3 _ _ _ _ _ | exact Kd.zew _ _ _ _ _ | exact Kd.zeA _ _ _ _ _ | exact Kd.zex _ _ _ _ _ | exact Kd.zeE _ _ _ _ _⟩, ⟨by repeat (first | (with_reducible first | exact HB.out | apply zac | apply zab | apply zad) | exact HB.out)⟩⟩
  case round =>
   clear H'
   try clear p2
   try clear c3
   obtain ⟨x3_1, x12_1, rfl, HA, HK1, HO_3, HB⟩ := hrel
   cases gk with
   | zero => exact absurd HA.out (by simp [zaM.l0])
   | succ k1 =>
    have H := HA.out
    clear HA
    simp only [zaM.l0] at H
    by_cases c5 : x12_1 < (l0.length : Int)
    ·rw [if_pos c5] at H
     have c5b0 : decide (x12_1 < (l0.length : Int)) = true := decide_eq_true c5
     clear c5
     by_cases c6 : 0 ≤ x12_1
     ·rw [if_pos c6] at H
      have c6b0 : decide (0 ≤ x12_1) = true := decide_eq_true c6
      clear c6
      by_cases c7 : x12_1 < (l0.length : Int)
      ·rw [if_pos c7] at H
       have c7b0 : decide (x12_1 < (l0.length : Int)) = true := decide_eq_true c7
       clear c7
       replace H := Option.bind_eq_some_iff.mp H
       obtain ⟨t264, A80, H⟩ := H
       replace H : (zaM.l1 k1 x3_1 0 l0 (l0.length : Int) x12_1 t264 0) = some r := H
       have A8 := zaa.mk A80
       clear A80
       have H' := zaa.mk H
       clear H
       have p262 : 0 ≤ (x12_1 : Int) := of_decide_eq_true (by first | (with_reducible assumption) | assumption)
       have q262 : x12_1 < (l0.length : Int) := of_decide_eq_true (by first | (with_reducible assumption) | assumption)
       obtain ⟨ad262, A262_2, c262_2, e262, hx262_0, hx262_1, hx262_2, hl262_2, hi262_2⟩ := zcY HR0.out x12_1 p262 q262
       cases e262
       replace hx262_0 := (HB.out.cell (World.block_lt_of_cell? w _ hx262_0)).trans hx262_0
       replace hx262_1 := (HB.out.cell (World.block_lt_of_cell? w _ hx262_1)).trans hx262_1
       replace hx262_2 := (HB.out.cell (World.block_lt_of_cell? w _ hx262_2)).trans hx262_2
       have HR262_2 := zaa.mk hi262_2
       have HC262_2 := zaa.mk hl262_2
       clear hi262_2 hl262_2
       replace p262 := eq_true p262
       replace q262 := eq_true q262
       go_wp2_with (first | ((with_reducible refine zbc (N := 5) rfl ?_); refine zbb ?hg (N := 5) ?hd (cs := #[.int .i64 0, .int .i64 0, .slice none 0 0]) (t := 60) ?hr ?_; (case hd => rfl); (case hg => rfl); (case hr => first | (go_simp; done) | (go_simp; rfl)); intro gb263 hg w9 hbox hb; have n0_ := zaa.mk (Kd.zcy (by (with_reducible repeat (first | apply Kd.zbf | apply Kd.zbd | apply Kd.zbp)); exact HO_3.out) hb); have n1_ := zaa.mk (zax (by repeat (first | (with_reducible first | exact HB.out | apply zac | apply zab | apply zad) | exact HB.out)) hb); have n2_ := zaa.mk (hbox); have n3_ := zaa.mk ((by rw [hg]; exact (zay (by repeat (first | (with_reducible first | exact HB.out | apply zac | apply zab | apply zad) | exact HB.out))) : w.heap.size ≤ gb263)); have n4_ := zaa.mk ((by rw [hg]; exact (zay (by repeat (first | (with_reducible first | exact HB.out | apply zac | apply zab | apply zad) | exact HB.out))) : w.heap.size ≤ gb263)); clear HO_3; clear HB; have HO_3 := n0_; have HB := n1_; have BK263 := n2_; have GW263 := n3_; have GE263 := n4_; clear n0_ n1_ n2_ n3_ n4_; clear hb hbox hg; have hcz10_0 : w9.cell? ⟨gb263, 0, none⟩ = some (.int .i64 0) := (zae BK263.out 0).trans rfl; have hcz10_1 : w9.cell? ⟨gb263, 1, none⟩ = some (.int .i64 0) := (zae BK263.out 1).trans rfl; have hcz10_2 : w9.cell? ⟨gb263, 2, none⟩ = some (.slice none 0 0) := (zae BK263.out 2).trans rfl; have hfz10_0 := zaj BK263.out 0; have hfz10_1 := zaj BK263.out 1; have hfz10_2 := zaj BK263.out 2) | ((with_reducible refine zaG (f := 80) rfl ?_); refine za2 (some 18) rfl rfl Tryd.func80 (by kernel_rfl) rfl #[.int .i64 ((zaF l0 x12_1).f0)] rfl (by (try simp only [List.map_toArray, List.map_cons, List.map_nil]); first | done | rfl | (simp only [List.length_drop, List.length_take]; rfl)) ?_; (with_reducible refine (zaJ.calls k1 ((zaF l0 x12_1).f0) t264 _ A8.out).mono ?_); rintro e w' ⟨rfl, ⟨nd, rfl⟩⟩; refine ⟨_, rfl, ?_⟩))
       go_loopg [3, 6, 19] k1 (fun kq v3 v6 v19 w' => ∃ (x3_2 : List Int) (x6_2 : Int) (x19_2 : Int), v6 = .int .i64 x6_2 ∧ v19 = .int .i64 x19_2 ∧ zaa (zaM.l1 kq x3_2 x6_2 l0 (l0.length : Int) x12_1 t264 x19_2 = some r) ∧ zaa (kq ≤ k1) ∧ zaa (Kd.R (Kd.int .i64) 3 w' w.heap.size (fun _ => True) v3 x3_2) ∧ zaa (w'.heap[gb263]? = some (.cells #[.int .i64 ((zaF l0 x12_1).f0), .int .i64 ((zaF l0 x12_1).f1), (.slice A262_2 ((zaF l0 x12_1).f2).length c262_2)] 60 (0, 0))) ∧ zaa (Below w.heap.size w w'))
       case atStart => exact ⟨(x3_1), (0), (0), (by first | rfl | (simp; done) | (simp [*]; done)), (by first | rfl | (simp; done) | (simp [*]; done)), H', ⟨Nat.le_refl _⟩, ⟨by (with_reducible repeat (first | apply Kd.zbf | apply Kd.zbd | apply Kd.zbp)); exact Kd.zbO (Kd.ze4 (p := ⟨gb263, 2, none⟩) (Kd.ze4 (p := ⟨gb263, 1, none⟩) (Kd.ze4 (p := ⟨gb263, 0, none⟩) (Kd.zez HO_3.out BK263.out (by decide)) (fun _ hk => hk.2) (.int .i64 ((zaF l0 x12_1).f0))) (fun _ hk => hk.2) (.int .i64 ((zaF l0 x12_1).f1))) (fun _ hk => hk.2) (.slice A262_2 ((zaF l0 x12_1).f2).length c262_2)) (fun _ hk => trivial)⟩, ⟨by (with_reducible repeat (first | refine zah ?_ _ | refine zak ?_ | refine zaf ?_ _)); refine za8 (cs := #[.int .i64 ((zaF l0 x12_1).f0), .int .i64 ((zaF l0 x12_1).f1), .slice none 0 0]) ?_ 2 _ rfl; (with_reducible repeat (first | refine zah ?_ _ | refine zak ?_ | refine zaf ?_ _)); refine za8 (cs := #[.int .i64 ((zaF l0 x12_1).f0), .int .i64 0, .slice none 0 0]) ?_ 1 _ rfl; (with_reducible repeat (first | refine zah ?_ _ | refine zak ?_ | refine zaf ?_ _)); refine za8 (cs := #[.int .i64 0, .int .i64 0, .slice none 0 0]) ?_ 0 _ rfl; (with_reducible repeat (first | refine zah ?_ _ | refine zak ?_ | refine zaf ?_ _)); exact BK263.out⟩, ⟨by repeat (first | (with_reducible first | exact HB.out | apply zac | apply zab | apply zad | refine zai ?_ GE263.out) | exact HB.out)⟩⟩
       case round =>
        clear H'
        try clear c2
        try clear p2
        try clear q2
        try clear hx2
        try clear c3
        try clear c5
        try clear c5b0
        try clear c6
        try clear c6b0
        try clear c7
        try clear c7b0
        try clear c8
        try clear hcz10_0
        try clear hcz10_1
        try clear hcz10_2
        try clear hfz10_0
        try clear hfz10_1
        try clear hfz10_2
        try clear hx262_0
        try clear hx262_1
        try clear hx262_2
        try clear p2
        try clear p262
        try clear q262
        obtain ⟨x3_2, x6_2, x19_2, rfl, rfl, HA, HK2, HO_3, BK263, HB⟩ := hrel
        cases gk with
        | zero => exact absurd HA.out (by simp [zaM.l1])
        | succ k2 =>
         have H := HA.out
         clear HA
         simp only [zaM.l1] at H
         by_cases c11 : x19_2 < t264
         ·rw [if_pos c11] at H
          have c11b0 : decide (x19_2 < t264) = true := decide_eq_true c11
          clear c11
          obtain ⟨ji12, hji12⟩ : ∃ j_ : Int, (wrap64 ((x3_2.length : Int) - 1)) = j_ := ⟨_, rfl⟩
          replace H : (if 0 ≤ (ji12) then (if (ji12) < (x3_2.length : Int) then (if (ji12) ≤ (x3_2.length : Int) then (zaM.l1 k2 (x3_2.take ((ji12) : Int).toNat) (mx x6_2 (rd x3_2 (ji12))) l0 (l0.length : Int) x12_1 t264 (wrap64 (x19_2 + 1))) else (none)) else (none)) else (none)) = some r := by first | (rw [hji12] at H; exact H) | (simp only [hji12] at H ⊢; exact H)
          have hji12w : (IntKind.i64.wrap ((x3_2.length : Int) - 1)) = ji12 := (zas _).trans hji12
          by_cases c13 : 0 ≤ (ji12)
          ·rw [if_pos c13] at H
           have c13b0 : decide (0 ≤ (ji12)) = true := decide_eq_true c13
           clear c13
           by_cases c14 : (ji12) < (x3_2.length : Int)
           ·rw [if_pos c14] at H
            have c14b0 : decide ((ji12) < (x3_2.length : Int)) = true := decide_eq_true c14
            clear c14
            obtain ⟨ji15, hji15⟩ : ∃ j_ : Int, (mx x6_2 (rd x3_2 (ji12))) = j_ := ⟨_, rfl⟩
            replace H : (if (ji12) ≤ (x3_2.length : Int) then (zaM.l1 k2 (x3_2.take ((ji12) : Int).toNat) ji15 l0 (l0.length : Int) x12_1 t264 (wrap64 (x19_2 + 1))) else (none)) = some r := by first | (rw [hji15] at H; exact H) | (simp only [hji15] at H ⊢; exact H)
            by_cases c16 : (ji12) ≤ (x3_2.length : Int)
            ·rw [if_pos c16] at H
             have c16b0 := eq_true c16
             have c16b1 : decide ((ji12) ≤ (x3_2.length : Int)) = true := decide_eq_true c16
             clear c16
             obtain ⟨y266, hy266⟩ : ∃ y_ : List Int, y_ = (x3_2.take ((ji12) : Int).toNat) := ⟨_, rfl⟩
             replace H : (zaM.l1 k2 y266 ji15 l0 (l0.length : Int) x12_1 t264 (wrap64 (x19_2 + 1))) = some r := by first | (rw [hy266]; with_reducible exact H) | (have H2_ := (Option.bind_some _ _).symm.trans H; rw [hy266]; with_reducible exact H2_) | (have H2_ := (Option.bind_some _ _).symm.trans H; with_reducible exact H2_) | with_reducible exact H | (rw [hy266]; exact H) | exact H
             have Ny266 := zaa.mk hy266
             clear hy266
             have H' := zaa.mk H
             clear H
             obtain ⟨Ao17, co17, eo17⟩ := Kd.zbE HO_3.out
             subst eo17
             have p265 : 0 ≤ ((ji12) : Int) := of_decide_eq_true (by first | (with_reducible assumption) | assumption)
             have q265 : (ji12) < (x3_2.length : Int) := of_decide_eq_true (by first | (with_reducible assumption) | assumption)
             obtain ⟨ad265, e265, hx265_0⟩ := Kd.zcS (Kd.zbs HO_3.out).2.2 (ji12) p265 q265
             cases e265
             replace p265 := eq_true p265
             replace q265 := eq_true q265
             have q18 : ((ji12) : Int) ≤ ((x3_2.length : Int) : Int) := of_decide_eq_true (by first | (with_reducible assumption) | assumption)
             obtain ⟨i018, hi018, _, hsz18, _⟩ := info_parts info3
             have hcut18 := zhr (P := Tryd.prog) 138 3 .i64 Tryd.underlying138 hi018 (some ad265) x3_2.length co17 (ji12) (of_decide_eq_true (by first | (with_reducible assumption) | assumption)) q18 (Kd.zbs HO_3.out).2.1
             have hr18 := Kd.zjQ (m := ((ji12) : Int).toNat) HO_3.out (by omega)
             have hy18 : y266.length = ((ji12) : Int).toNat := (by rw [Ny266.out, List.length_take]; omega)
             rw [← Ny266.out] at hr18
             rw [← hy18] at hr18 hcut18
             clear hy18 hi018 hsz18 HO_3
             have HO268 := zaa.mk hr18
             clear hr18
             replace q18 := eq_true q18
             go_wp2
             go_roundg k2
             case measure => have := HK1.out; have := HK2.out; omega
             case rel => exact ⟨(y266), (ji15), (wrap64 (x19_2 + 1)), (by first | rfl | (simp; done) | (simp only [← hji15] <;> (first | rfl | simp)) | (simp [*]; done)), (by first | rfl | (simp; done) | (simp [*]; done)), H', ⟨by have := HK1.out; have := HK2.out; omega⟩, ⟨by (with_reducible repeat (first | apply Kd.zbf | apply Kd.zbd | apply Kd.zbp)); exact HO268.out⟩, ⟨by (with_reducible repeat (first | refine zah ?_ _ | refine zak ?_ | refine zaf ?_ _)); exact BK263.out⟩, ⟨by repeat (first | (with_reducible first | exact HB.out | apply zac | apply zab | apply zad | refine zai ?_ GE263.out) | exact HB.out)⟩⟩
            ·rw [if_neg c16] at H
             exact absurd H (by simp)
           ·rw [if_neg c14] at H
            exact absurd H (by simp)
          ·rw [if_neg c13] at H
           exact absurd H (by simp)
         ·rw [if_neg c11] at H
          have c11b0 : decide (x19_2 < t264) = false := decide_eq_false c11
          clear c11
          by_cases c19 : x3_2.length < 17592186044416
          ·rw [if_pos c19] at H
           have LMc19 := zaa.mk c19
           clear c19
           obtain ⟨y269, hy269⟩ : ∃ y_ : List Int, y_ = (x3_2 ++ [wrap64 (x6_2 + 1)]) := ⟨_, rfl⟩
           replace H : (zaM.l0 k2 y269 l0 (l0.length : Int) (wrap64 (x12_1 + 1))) = some r := by first | (rw [hy269]; with_reducible exact H) | (have H2_ := (Option.bind_some _ _).symm.trans H; rw [hy269]; with_reducible exact H2_) | (have H2_ := (Option.bind_some _ _).symm.trans H; with_reducible exact H2_) | with_reducible exact H | (rw [hy269]; exact H) | exact H
           have Ny269 := zaa.mk hy269
           clear hy269
           have H' := zaa.mk H
           clear H
           go_wp2_with (first | ((with_reducible refine zcf (b := .append) (xs := #[.tmp 35, .tmp 38]) rfl ?_); at_builtin; refine Kd.zdN (Kd.int .i64) (w0 := w) w.heap.size rfl (.tmp 35) (.tmp 38) 138 3 (.int .i64 0) 8 rfl Tryd.underlying138 info3 rfl (by decide) (by omega) u3 x3_2 (wrap64 (x6_2 + 1)) [.int .i64 (wrap64 (x6_2 + 1))] (fun _ => True) (fun _ => False) rfl rfl ?aP (fun _ hk => hk.elim) ?aF ?aO ?aB ?aS ?aL ?_; (case aP => exact rfl); (case aB => exact (by repeat (first | (with_reducible first | exact HB.out | apply zac | apply zab | apply zad | refine zai ?_ GE263.out) | exact HB.out))); (case aF => exact (fun _ _ => trivial)); (case aO => exact (by (with_reducible repeat (first | apply Kd.zbf | apply Kd.zbd | apply Kd.zbp)); exact HO_3.out)); (case aS => exact (zay (by repeat (first | (with_reducible first | exact HB.out | apply zac | apply zab | apply zad | refine zai ?_ GE263.out) | exact HB.out)))); (case aL => have := LMc19.out; omega); intro v270 w20 ho hb hg hat; rw [← Ny269.out] at ho; have n0_ := zaa.mk (zcJ (g := gb263) (o := .cells #[.int .i64 ((zaF l0 x12_1).f0), .int .i64 ((zaF l0 x12_1).f1), .slice A262_2 ((zaF l0 x12_1).f2).length c262_2] 60 (0, 0)) (by (with_reducible repeat (first | refine zah ?_ _ | refine zak ?_ | refine zaf ?_ _)); exact BK263.out) hg (Kd.R_ne HO_3.out BK263.out (by decide))); have n1_ := zaa.mk (hb); have n2_ := zaa.mk (ho); clear BK263; clear HB; clear HO_3; have BK263 := n0_; have HB := n1_; have HO271 := n2_; clear n0_ n1_ n2_; clear ho hb hg hat))
           go_roundg k2
           case measure => have := HK1.out; have := HK2.out; omega
           case rel => exact ⟨(y269), (wrap64 (x12_1 + 1)), (by first | rfl | (simp; done) | (simp [*]; done)), H', ⟨by have := HK1.out; have := HK2.out; omega⟩, ⟨by (with_reducible repeat (first | apply Kd.zbf | apply Kd.zbd | apply Kd.zbp)); exact HO271.out⟩, ⟨by repeat (first | (with_reducible first | exact HB.out | apply zac | apply zab | apply zad | refine zai ?_ GE263.out) | exact HB.out)⟩⟩
          ·rw [if_neg c19] at H
           exact absurd H (by simp)
      ·rw [if_neg c7] at H
       exact absurd H (by simp)
     ·rw [if_neg c6] at H
      exact absurd H (by simp)
    ·rw [if_neg c5] at H
     have c5b0 : decide (x12_1 < (l0.length : Int)) = false := decide_eq_false c5
     clear c5
     by_cases c21 : 0 < (x3_1.length : Int)
     ·rw [if_pos c21] at H
      have c21b0 : decide (0 < (x3_1.length : Int)) = true := decide_eq_true c21
      have c21b1 : decide (0 < x3_1.length) = true := decide_eq_true (by omega)
      clear c21
      obtain rfl := Option.some.inj H
      obtain ⟨Ao22, co22, eo22⟩ := Kd.zbE HO_3.out
      subst eo22
      have p261 : 0 ≤ (0 : Int) := (by omega)
      have q261 : 0 < (x3_1.length : Int) := of_decide_eq_true (by first | (with_reducible assumption) | assumption)
      obtain ⟨ad261, e261, hx261_0⟩ := Kd.zcS (Kd.zbs HO_3.out).2.2 0 p261 q261
      cases e261
      have qi261 : (0 < x3_1.length) = True := eq_true (by omega)
      (try rw [show ((0 : Int)).toNat = 0 from rfl] at hx261_0)
      (try rw [Addr.add_zero'] at hx261_0)
      replace p261 := eq_true p261
      replace q261 := eq_true q261
      go_wp2
      go_ret
      exact ⟨by first | rfl | (simp [zan, zam] <;> rfl) | (simp [*, zan, zam] <;> rfl), by repeat (first | (with_reducible first | exact HB.out | apply zac | apply zab | apply zad) | exact HB.out)⟩
     ·rw [if_neg c21] at H
      exact absurd H (by simp)
 ·replace c3 := Bool.eq_false_iff.mpr c3
  subst c3
  have H1 : (some 0) = some r := by rw [if_neg (show ¬ (false = true) by decide)] at H; exact H
  clear H
  have H := H1
  clear H1
  obtain rfl := Option.some.inj H
  go_enter Tryd.func39, Tryd.ntmps39
  go_wp2_with (first | ((with_reducible refine zaG (f := 38) rfl ?_); refine za2 (some 8) rfl rfl Tryd.func38 (by kernel_rfl) rfl #[.slice A0 l0.length c0] rfl (by (try simp only [List.map_toArray, List.map_cons, List.map_nil]); first | done | rfl | (simp only [List.length_drop, List.length_take]; rfl)) ?_; (with_reducible refine (zbC.calls k _ _ l0 false _ ?side1 ?side2 A2.out).mono ?_); (case side1 => repeat (first | exact HR0.out | (with_reducible refine Kd.zaT ?_ _) | (with_reducible refine Kd.zaU ?_ _) | (with_reducible refine Kd.za0 ?_))); (case side2 => exact HC0.out); rintro e w23 ⟨rfl, hb⟩; refine ⟨_, rfl, ?_⟩; have n0_ := zaa.mk (zax (by repeat (first | (with_reducible first | exact HB.out | apply zac | apply zab | apply zad) | exact HB.out)) hb); clear HB; have HB := n0_; clear n0_; (try clear hb); (try clear hb2); (try clear hk); (try clear hi)))
  go_ret
  exact ⟨by first | rfl | (simp [zan, zam] <;> rfl) | (simp [*, zan, zam] <;> rfl), by repeat (first | (with_reducible first | exact HB.out | apply zac | apply zab | apply zad) | exact HB.out)⟩
def za3.j0 : Nat → List (S60) → Int → Int → Bool → Option (Int × Int × Int × Int)
 | 0, _, _, _, _ => none
 | k + 1, x0, x1, x11, x23 => if x23 = true then (if (x0.length : Int) < 0 then (some (0, 0, 0, 0)) else (some (2, x1, 0, (x0.length : Int)))) else (if x11 < 0 then (some (0, 0, 0, 0)) else (some (2, x1, 0, x11)))
def za3.f (k : Nat) (l0 : List (S60)) (a1 : Int) (a2 : Int) (a3 : Int) (a4 : Int) : Option (Int × Int × Int × Int) := (zaS.f k l0 a2 a3 a4).bind fun t273 => (if t273 < 0 then ((zaM.f k l0).bind fun t274 => (za3.j0 k l0 a1 t273 (decide (t274 > 40)))) else (za3.j0 k l0 a1 t273 false))
theorem za3.zaR : ∀ k, (∀ y0 y1 y2 y3, LeO (za3.j0 k y0 y1 y2 y3) (za3.j0 (k + 1) y0 y1 y2 y3))
 | 0 => fun _ _ _ _ r h => by simp [za3.j0] at h
 | k + 1 => by
  have ih0 := za3.zaR k
  ·intro y0 y1 y2 y3
   unfold za3.j0
   repeat' first
   | (with_reducible exact ih0 _ _ _ _)
   | (with_reducible exact zaS.mono _ _ _ _ _)
   | (with_reducible exact zaM.mono _ _)
   | (with_reducible exact LeO.refl _)
   | (with_reducible exact LeO.none _)
   | (with_reducible refine LeO.ite ?_ ?_)
   | (with_reducible refine LeO.bind ?_ (fun _ => ?_))
   | exact ih0 _ _ _ _
   | exact zaS.mono _ _ _ _ _
   | exact zaM.mono _ _
   | exact LeO.none _
   | refine LeO.ite ?_ ?_
   | refine LeO.bind ?_ (fun _ => ?_)
theorem za3.mono : ∀ a0 a1 a2 a3 a4 k, LeO (za3.f k a0 a1 a2 a3 a4) (za3.f (k + 1) a0 a1 a2 a3 a4) := by
 intro a0 a1 a2 a3 a4 k
 have ih0 := za3.zaR k
 unfold za3.f
 repeat' first
   | (with_reducible exact ih0 _ _ _ _)
   | (with_reducible exact zaS.mono _ _ _ _ _)
   | (with_reducible exact zaM.mono _ _)
   | (with_reducible exact LeO.refl _)
   | (with_reducible exact LeO.none _)
   | (with_reducible refine LeO.ite ?_ ?_)
   | (with_reducible refine LeO.bind ?_ (fun _ => ?_))
   | exact ih0 _ _ _ _
   | exact zaS.mono _ _ _ _ _
   | exact zaM.mono _ _
   | exact LeO.none _
   | refine LeO.ite ?_ ?_
   | refine LeO.bind ?_ (fun _ => ?_)
set_option maxHeartbeats 8000000 in
set_option maxRecDepth 100000 in
theorem za3.calls (k : Nat) (A0 : Option Addr) (c0 : Nat) (l0 : List (S60)) (a1 : Int) (a2 : Int) (a3 : Int) (a4 : Int) (r1 : Int) (r2 : Int) (r3 : Int) (r4 : Int) (w : World) (hr0 : Kd.C k60 w A0 l0.length l0) (hc0 : l0.length ≤ c0) (h : za3.f k l0 a1 a2 a3 a4 = some (r1, r2, r3, r4)) :
  Calls Tryd.prog 77 #[.slice A0 l0.length c0, .int .i64 a1, .int .i64 a2, .int .i64 a3, .int .i64 a4] w fun e w' => e = .returned (.agg #[.int .i64 r1, .int .i64 r2, .int .i64 r3, .int .i64 r4]) ∧ Below w.heap.size w w' := by
 have hu25 := Tryd.underlying25
 have HR0 := zaa.mk hr0
 have HC0 := zaa.mk hc0
 clear hr0 hc0
 have HB := zaa.mk (Below.refl w.heap.size w)
 have H : ((zaS.f k l0 a2 a3 a4).bind fun t273 => (if t273 < 0 then ((zaM.f k l0).bind fun t274 => (za3.j0 k l0 a1 t273 (decide (t274 > 40)))) else (za3.j0 k l0 a1 t273 false))) = some (r1, r2, r3, r4) := h
 clear h
 replace H := Option.bind_eq_some_iff.mp H
 obtain ⟨t273, A60, H⟩ := H
 replace H : (if t273 < 0 then ((zaM.f k l0).bind fun t274 => (za3.j0 k l0 a1 t273 (decide (t274 > 40)))) else (za3.j0 k l0 a1 t273 false)) = some (r1, r2, r3, r4) := H
 have A6 := zaa.mk A60
 clear A60
 have HC7 := zaa.mk H
 clear H
 go_enter Tryd.func77, Tryd.ntmps77
 go_upto_region 2 with (first | ((with_reducible refine zbc (N := 10) rfl ?_); refine zbb ?hg (N := 10) ?hd (cs := #[.int .i64 0, .int .i64 0, .int .i64 0, .int .i64 0]) (t := 25) ?hr ?_; (case hd => rfl); (case hg => rfl); (case hr => first | (go_simp; done) | (go_simp; rfl)); intro gb272 hg w8 hbox hb; have n0_ := zaa.mk (zax (by repeat (first | (with_reducible first | exact HB.out | apply zac | apply zab | apply zad) | exact HB.out)) hb); have n1_ := zaa.mk (hbox); have n2_ := zaa.mk ((by rw [hg]; exact (zay (by repeat (first | (with_reducible first | exact HB.out | apply zac | apply zab | apply zad) | exact HB.out))) : w.heap.size ≤ gb272)); have n3_ := zaa.mk ((by rw [hg]; exact (zay (by repeat (first | (with_reducible first | exact HB.out | apply zac | apply zab | apply zad) | exact HB.out))) : w.heap.size ≤ gb272)); clear HB; have HB := n0_; have BK272 := n1_; have GW272 := n2_; have GE272 := n3_; clear n0_ n1_ n2_ n3_; clear hb hbox hg) | ((with_reducible refine zaG (f := 33) rfl ?_); refine za2 (some 16) rfl rfl Tryd.func33 (by kernel_rfl) rfl #[.slice A0 l0.length c0, .int .i64 a2, .int .i64 a3, .int .i64 a4] rfl (by (try simp only [List.map_toArray, List.map_cons, List.map_nil]); first | done | rfl | (simp only [List.length_drop, List.length_take]; rfl)) ?_; (with_reducible refine (zaS.calls k _ _ l0 a2 a3 a4 t273 _ ?side1 ?side2 A6.out).mono ?_); (case side1 => repeat (first | exact (Kd.za7 HR0.out HB.out) | (with_reducible refine Kd.zaT ?_ _) | (with_reducible refine Kd.zaU ?_ _) | (with_reducible refine Kd.za0 ?_))); (case side2 => exact HC0.out); rintro e w9 ⟨rfl, hb⟩; refine ⟨_, rfl, ?_⟩; have n0_ := zaa.mk (zaP (g := gb272) (o := .cells #[.int .i64 0, .int .i64 0, .int .i64 0, .int .i64 0] 25 (0, 0)) (by (with_reducible repeat (first | refine zah ?_ _ | refine zak ?_ | refine zaf ?_ _)); exact BK272.out) hb); have n1_ := zaa.mk (zax (by repeat (first | (with_reducible first | exact HB.out | apply zac | apply zab | apply zad | refine zai ?_ GE272.out) | exact HB.out)) hb); clear BK272; clear HB; have BK272 := n0_; have HB := n1_; clear n0_ n1_; (try clear hb); (try clear hb2); (try clear hk); (try clear hi)))
 (try simp only [Act.put, List.setIfInBounds_toArray, List.set_cons_zero, List.set_cons_succ])
 go_cut [23] (fun v23 wc => ∃ (kq : Nat) (x23_6 : Bool), v23 = .bool x23_6 ∧ zaa (za3.j0 kq l0 a1 t273 x23_6 = some (r1, r2, r3, r4)) ∧ zaa (kq ≤ k) ∧ zaa (wc.heap[gb272]? = some (.cells #[.int .i64 0, .int .i64 0, .int .i64 0, .int .i64 0] 25 (0, 0))) ∧ zaa (Below w.heap.size w wc))
 case first =>
  have H := HC7.out
  clear HC7
  by_cases c10 : t273 < 0
  ·rw [if_pos c10] at H
   have c10b0 : decide (t273 < 0) = true := decide_eq_true c10
   clear c10
   (first | rw [c10b0] | (simp only [zas, zat]; rw [c10b0]) | skip)
   replace H := Option.bind_eq_some_iff.mp H
   obtain ⟨t274, A110, H⟩ := H
   replace H : (za3.j0 k l0 a1 t273 (decide (t274 > 40))) = some (r1, r2, r3, r4) := H
   have A11 := zaa.mk A110
   clear A110
   have H' := zaa.mk H
   clear H
   go_wp2_with (first | (go_at_call 39; (with_reducible refine (zaM.calls k _ _ l0 t274 _ ?side1 ?side2 A11.out).mono ?_); (case side1 => repeat (first | exact (Kd.za7 HR0.out HB.out) | (with_reducible refine Kd.zaT ?_ _) | (with_reducible refine Kd.zaU ?_ _) | (with_reducible refine Kd.za0 ?_))); (case side2 => exact HC0.out); rintro e w12 ⟨rfl, hb⟩; have n0_ := zaa.mk (zaP (g := gb272) (o := .cells #[.int .i64 0, .int .i64 0, .int .i64 0, .int .i64 0] 25 (0, 0)) (by (with_reducible repeat (first | refine zah ?_ _ | refine zak ?_ | refine zaf ?_ _)); exact BK272.out) hb); have n1_ := zaa.mk (zax (by repeat (first | (with_reducible first | exact HB.out | apply zac | apply zab | apply zad | refine zai ?_ GE272.out) | exact HB.out)) hb); clear BK272; clear HB; have BK272 := n0_; have HB := n1_; clear n0_ n1_; (try clear hb); (try clear hb2); (try clear hk); (try clear hi)))
   go_meet
   case rel => exact ⟨_, (decide (t274 > 40)), (by first | rfl | (simp; done) | (simp [*]; done)), H', ⟨by first | omega | exact Nat.le_refl _⟩, ⟨by (with_reducible repeat (first | refine zah ?_ _ | refine zak ?_ | refine zaf ?_ _)); exact BK272.out⟩, ⟨by repeat (first | (with_reducible first | exact HB.out | apply zac | apply zab | apply zad | refine zai ?_ GE272.out) | exact HB.out)⟩⟩
  ·rw [if_neg c10] at H
   have c10b0 : decide (t273 < 0) = false := decide_eq_false c10
   clear c10
   (first | rw [c10b0] | (simp only [zas, zat]; rw [c10b0]) | skip)
   have H' := zaa.mk H
   clear H
   go_wp2
   go_meet
   case rel => exact ⟨_, (false), (by first | rfl | (simp; done) | (simp [*]; done)), H', ⟨by first | omega | exact Nat.le_refl _⟩, ⟨by (with_reducible repeat (first | refine zah ?_ _ | refine zak ?_ | refine zaf ?_ _)); exact BK272.out⟩, ⟨by repeat (first | (with_reducible first | exact HB.out | apply zac | apply zab | apply zad | refine zai ?_ GE272.out) | exact HB.out)⟩⟩
 case rest =>
  clear HC7
  try clear c1
  try clear p2
  try clear c3
  try clear c7
  try clear c10
  try clear c10b0
  obtain ⟨kq, x23_6, rfl, HA, HJ6, BK272, HB⟩ := hcut
  cases kq with
  | zero => exact absurd HA.out (by simp [za3.j0])
  | succ kj6 =>
   have H := HA.out
   clear HA
   simp only [za3.j0] at H
   by_cases c13 : x23_6 = true
   ·subst c13
    have H1 : (if (l0.length : Int) < 0 then (some (0, 0, 0, 0)) else (some (2, a1, 0, (l0.length : Int)))) = some (r1, r2, r3, r4) := by rw [if_pos rfl] at H; exact H
    clear H
    have H := H1
    clear H1
    by_cases c14 : (l0.length : Int) < 0
    ·rw [if_pos c14] at H
     have c14b0 : decide ((l0.length : Int) < 0) = true := decide_eq_true c14
     have c14b1 : decide (l0.length < 0) = true := decide_eq_true (by omega)
     clear c14
     simp only [Option.some.injEq, Prod.mk.injEq] at H
     obtain ⟨rfl, rfl, rfl, rfl⟩ := H
     have hcz15_0 : wc.cell? ⟨gb272, 0, none⟩ = some (.int .i64 0) := (zae BK272.out 0).trans rfl
     have hcz15_1 : wc.cell? ⟨gb272, 1, none⟩ = some (.int .i64 0) := (zae BK272.out 1).trans rfl
     have hcz15_2 : wc.cell? ⟨gb272, 2, none⟩ = some (.int .i64 0) := (zae BK272.out 2).trans rfl
     have hcz15_3 : wc.cell? ⟨gb272, 3, none⟩ = some (.int .i64 0) := (zae BK272.out 3).trans rfl
     have hfz15_0 := zaj BK272.out 0
     have hfz15_1 := zaj BK272.out 1
     have hfz15_2 := zaj BK272.out 2
     have hfz15_3 := zaj BK272.out 3
     go_wp2
     refine bodyPost_ret (results_cell_row rfl _ _ gb272 25 #[.int .i64 0, .int .i64 0, .int .i64 0, .int .i64 0] (0, 0) _ rfl (by (with_reducible repeat (first | refine zah ?_ _ | refine zak ?_ | refine zaf ?_ _)); refine za8 (cs := #[.int .i64 0, .int .i64 0, .int .i64 0, .int .i64 0]) ?_ 3 _ rfl; (with_reducible repeat (first | refine zah ?_ _ | refine zak ?_ | refine zaf ?_ _)); refine za8 (cs := #[.int .i64 0, .int .i64 0, .int .i64 0, .int .i64 0]) ?_ 2 _ rfl; (with_reducible repeat (first | refine zah ?_ _ | refine zak ?_ | refine zaf ?_ _)); refine za8 (cs := #[.int .i64 0, .int .i64 0, .int .i64 0, .int .i64 0]) ?_ 1 _ rfl; (with_reducible repeat (first | refine zah ?_ _ | refine zak ?_ | refine zaf ?_ _)); refine za8 (cs := #[.int .i64 0, .int .i64 0, .int .i64 0, .int .i64 0]) ?_ 0 _ rfl; (with_reducible repeat (first | refine zah ?_ _ | refine zak ?_ | refine zaf ?_ _)); exact BK272.out) Tryd.underlying25 rfl (by kernel_rfl)) rfl ?_
     exact ⟨by first | rfl | (simp [zan, zam] <;> rfl) | (simp [*, zan, zam] <;> rfl), by repeat (first | (with_reducible first | exact HB.out | apply zac | apply zab | apply zad | refine zai ?_ GE272.out) | exact HB.out)⟩
    ·rw [if_neg c14] at H
     have c14b0 : decide ((l0.length : Int) < 0) = false := decide_eq_false c14
     have c14b1 : decide (l0.length < 0) = false := decide_eq_false (by omega)
     clear c14
     simp only [Option.some.injEq, Prod.mk.injEq] at H
     obtain ⟨rfl, rfl, rfl, rfl⟩ := H
     have hcz16_0 : wc.cell? ⟨gb272, 0, none⟩ = some (.int .i64 0) := (zae BK272.out 0).trans rfl
     have hcz16_1 : wc.cell? ⟨gb272, 1, none⟩ = some (.int .i64 0) := (zae BK272.out 1).trans rfl
     have hcz16_2 : wc.cell? ⟨gb272, 2, none⟩ = some (.int .i64 0) := (zae BK272.out 2).trans rfl
     have hcz16_3 : wc.cell? ⟨gb272, 3, none⟩ = some (.int .i64 0) := (zae BK272.out 3).trans rfl
     have hfz16_0 := zaj BK272.out 0
     have hfz16_1 := zaj BK272.out 1
     have hfz16_2 := zaj BK272.out 2
     have hfz16_3 := zaj BK272.out 3
     go_wp2
     refine bodyPost_ret (results_cell_row rfl _ _ gb272 25 #[.int .i64 2, .int .i64 a1, .int .i64 0, .int .i64 (l0.length : Int)] (0, 0) _ rfl (by (with_reducible repeat (first | refine zah ?_ _ | refine zak ?_ | refine zaf ?_ _)); refine za8 (cs := #[.int .i64 2, .int .i64 a1, .int .i64 0, .int .i64 0]) ?_ 3 _ rfl; (with_reducible repeat (first | refine zah ?_ _ | refine zak ?_ | refine zaf ?_ _)); refine za8 (cs := #[.int .i64 2, .int .i64 a1, .int .i64 0, .int .i64 0]) ?_ 2 _ rfl; (with_reducible repeat (first | refine zah ?_ _ | refine zak ?_ | refine zaf ?_ _)); refine za8 (cs := #[.int .i64 2, .int .i64 0, .int .i64 0, .int .i64 0]) ?_ 1 _ rfl; (with_reducible repeat (first | refine zah ?_ _ | refine zak ?_ | refine zaf ?_ _)); refine za8 (cs := #[.int .i64 0, .int .i64 0, .int .i64 0, .int .i64 0]) ?_ 0 _ rfl; (with_reducible repeat (first | refine zah ?_ _ | refine zak ?_ | refine zaf ?_ _)); exact BK272.out) Tryd.underlying25 rfl (by kernel_rfl)) rfl ?_
     exact ⟨by first | rfl | (simp [zan, zam] <;> rfl) | (simp [*, zan, zam] <;> rfl), by repeat (first | (with_reducible first | exact HB.out | apply zac | apply zab | apply zad | refine zai ?_ GE272.out) | exact HB.out)⟩
   ·replace c13 := Bool.eq_false_iff.mpr c13
    subst c13
    have H1 : (if t273 < 0 then (some (0, 0, 0, 0)) else (some (2, a1, 0, t273))) = some (r1, r2, r3, r4) := by rw [if_neg (show ¬ (false = true) by decide)] at H; exact H
    clear H
    have H := H1
    clear H1
    by_cases c17 : t273 < 0
    ·rw [if_pos c17] at H
     have c17b0 : decide (t273 < 0) = true := decide_eq_true c17
     clear c17
     simp only [Option.some.injEq, Prod.mk.injEq] at H
     obtain ⟨rfl, rfl, rfl, rfl⟩ := H
     have hcz18_0 : wc.cell? ⟨gb272, 0, none⟩ = some (.int .i64 0) := (zae BK272.out 0).trans rfl
     have hcz18_1 : wc.cell? ⟨gb272, 1, none⟩ = some (.int .i64 0) := (zae BK272.out 1).trans rfl
     have hcz18_2 : wc.cell? ⟨gb272, 2, none⟩ = some (.int .i64 0) := (zae BK272.out 2).trans rfl
     have hcz18_3 : wc.cell? ⟨gb272, 3, none⟩ = some (.int .i64 0) := (zae BK272.out 3).trans rfl
     have hfz18_0 := zaj BK272.out 0
     have hfz18_1 := zaj BK272.out 1
     have hfz18_2 := zaj BK272.out 2
     have hfz18_3 := zaj BK272.out 3
     go_wp2
     refine bodyPost_ret (results_cell_row rfl _ _ gb272 25 #[.int .i64 0, .int .i64 0, .int .i64 0, .int .i64 0] (0, 0) _ rfl (by (with_reducible repeat (first | refine zah ?_ _ | refine zak ?_ | refine zaf ?_ _)); refine za8 (cs := #[.int .i64 0, .int .i64 0, .int .i64 0, .int .i64 0]) ?_ 3 _ rfl; (with_reducible repeat (first | refine zah ?_ _ | refine zak ?_ | refine zaf ?_ _)); refine za8 (cs := #[.int .i64 0, .int .i64 0, .int .i64 0, .int .i64 0]) ?_ 2 _ rfl; (with_reducible repeat (first | refine zah ?_ _ | refine zak ?_ | refine zaf ?_ _)); refine za8 (cs := #[.int .i64 0, .int .i64 0, .int .i64 0, .int .i64 0]) ?_ 1 _ rfl; (with_reducible repeat (first | refine zah ?_ _ | refine zak ?_ | refine zaf ?_ _)); refine za8 (cs := #[.int .i64 0, .int .i64 0, .int .i64 0, .int .i64 0]) ?_ 0 _ rfl; (with_reducible repeat (first | refine zah ?_ _ | refine zak ?_ | refine zaf ?_ _)); exact BK272.out) Tryd.underlying25 rfl (by kernel_rfl)) rfl ?_
     exact ⟨by first | rfl | (simp [zan, zam] <;> rfl) | (simp [*, zan, zam] <;> rfl), by repeat (first | (with_reducible first | exact HB.out | apply zac | apply zab | apply zad | refine zai ?_ GE272.out) | exact HB.out)⟩
    ·rw [if_neg c17] at H
     have c17b0 : decide (t273 < 0) = false := decide_eq_false c17
     clear c17
     simp only [Option.some.injEq, Prod.mk.injEq] at H
     obtain ⟨rfl, rfl, rfl, rfl⟩ := H
     have hcz19_0 : wc.cell? ⟨gb272, 0, none⟩ = some (.int .i64 0) := (zae BK272.out 0).trans rfl
     have hcz19_1 : wc.cell? ⟨gb272, 1, none⟩ = some (.int .i64 0) := (zae BK272.out 1).trans rfl
     have hcz19_2 : wc.cell? ⟨gb272, 2, none⟩ = some (.int .i64 0) := (zae BK272.out 2).trans rfl
     have hcz19_3 : wc.cell? ⟨gb272, 3, none⟩ = some (.int .i64 0) := (zae BK272.out 3).trans rfl
     have hfz19_0 := zaj BK272.out 0
     have hfz19_1 := zaj BK272.out 1
     have hfz19_2 := zaj BK272.out 2
     have hfz19_3 := zaj BK272.out 3
     go_wp2
     refine bodyPost_ret (results_cell_row rfl _ _ gb272 25 #[.int .i64 2, .int .i64 a1, .int .i64 0, .int .i64 t273] (0, 0) _ rfl (by (with_reducible repeat (first | refine zah ?_ _ | refine zak ?_ | refine zaf ?_ _)); refine za8 (cs := #[.int .i64 2, .int .i64 a1, .int .i64 0, .int .i64 0]) ?_ 3 _ rfl; (with_reducible repeat (first | refine zah ?_ _ | refine zak ?_ | refine zaf ?_ _)); refine za8 (cs := #[.int .i64 2, .int .i64 a1, .int .i64 0, .int .i64 0]) ?_ 2 _ rfl; (with_reducible repeat (first | refine zah ?_ _ | refine zak ?_ | refine zaf ?_ _)); refine za8 (cs := #[.int .i64 2, .int .i64 0, .int .i64 0, .int .i64 0]) ?_ 1 _ rfl; (with_reducible repeat (first | refine zah ?_ _ | refine zak ?_ | refine zaf ?_ _)); refine za8 (cs := #[.int .i64 0, .int .i64 0, .int .i64 0, .int .i64 0]) ?_ 0 _ rfl; (with_reducible repeat (first | refine zah ?_ _ | refine zak ?_ | refine zaf ?_ _)); exact BK272.out) Tryd.underlying25 rfl (by kernel_rfl)) rfl ?_
     exact ⟨by first | rfl | (simp [zan, zam] <;> rfl) | (simp [*, zan, zam] <;> rfl), by repeat (first | (with_reducible first | exact HB.out | apply zac | apply zab | apply zad | refine zai ?_ GE272.out) | exact HB.out)⟩
end Go.Proofs.YtbicjgaadknmfaaDoor.P
end
section
namespace Go.Proofs.YtbicjgaadknmfaaDoor.P
open Go.RowKit Go.Proofs.YtbicjgaadknmfaaDoorW.PrintWords Go.Proofs.YtbicjgaadknmfaaDoorW.PrintLast Go.Proofs.YtbicjgaadknmfaaDoorW.PrintMore
attribute [local go_sem] zck zcl zca zcc zbQ zbP zb0 zb1
set_option linter.unusedVariables false
set_option linter.unusedSimpArgs false
def zaE.l0 : Nat → List (S62) → List (S60) → Int → Option ((List (S60)))
 | 0, _, _, _ => none
 | k + 1, x0, x3, x4 => if x4 < (x0.length : Int) then (if 0 ≤ x4 then (if x3.length < 3518437208883 then (zaE.l0 k x0 (x3 ++ [(⟨(zaV x0 x4).f0, (zaV x0 x4).f1, (zaV x0 x4).f2⟩ : S60)]) (wrap64 (x4 + 1))) else (none)) else (none)) else (some x3)
def zaE.f (k : Nat) (l0 : List (S62)) : Option ((List (S60))) := zaE.l0 k l0 ([] : List (S60)) 0
theorem zaE.zaR : ∀ k, (∀ y0 y1 y2, LeO (zaE.l0 k y0 y1 y2) (zaE.l0 (k + 1) y0 y1 y2))
 | 0 => fun _ _ _ r h => by simp [zaE.l0] at h
 | k + 1 => by
  have ih0 := zaE.zaR k
  ·intro y0 y1 y2
   unfold zaE.l0
   repeat' first
   | (with_reducible exact ih0 _ _ _)
   | (with_reducible exact LeO.refl _)
   | (with_reducible exact LeO.none _)
   | (with_reducible refine LeO.ite ?_ ?_)
   | (with_reducible refine LeO.bind ?_ (fun _ => ?_))
   | exact ih0 _ _ _
   | exact LeO.none _
   | refine LeO.ite ?_ ?_
   | refine LeO.bind ?_ (fun _ => ?_)
theorem zaE.mono : ∀ a0 k, LeO (zaE.f k a0) (zaE.f (k + 1) a0) := by
 intro a0 k
 have ih0 := zaE.zaR k
 unfold zaE.f
 repeat' first
   | (with_reducible exact ih0 _ _ _)
   | (with_reducible exact LeO.refl _)
   | (with_reducible exact LeO.none _)
   | (with_reducible refine LeO.ite ?_ ?_)
   | (with_reducible refine LeO.bind ?_ (fun _ => ?_))
   | exact ih0 _ _ _
   | exact LeO.none _
   | refine LeO.ite ?_ ?_
   | refine LeO.bind ?_ (fun _ => ?_)
def zaE.T5 : Bool × List (List Nat × List Nat) := (true, [([], []), ([], []), ([], []), ([1, 2], [1, 2]), ([3], [3]), ([4], [4]), ([], []), ([], []), ([6, 7], [6, 7]), ([8], [8]), ([9], [9]), ([], []), ([], []), ([11, 12], [11, 12]), ([13], [13]), ([14], [14]), ([5, 10, 15], [5, 10, 15]), ([16], [16]), ([0, 17], [0, 17]), ([18, 18, 0, 1, 2, 3, 4, 5, 6, 7, 8, 9, 10, 11, 12, 13, 14, 15, 16, 17, 18], [0, 18])])
def zaE.B5 : List Nat := [0, 0, 0, 6, 14, 30, 0, 0, 192, 448, 960, 0, 0, 6144, 14336, 30720, 65534, 131070, 262143, 524287]
theorem zaE.tab5 : rtab .any (opsOf Tryd.f30 5) = zaE.T5 := by kernel_rfl
theorem zaE.zg2 : zcU zaE.T5.2 zaE.B5 = true := by kernel_rfl
set_option maxHeartbeats 8000000 in
set_option maxRecDepth 100000 in
theorem zaE.calls (k : Nat) (P0_ : Nat → Prop) (A0 : Option Addr) (c0 : Nat) (l0 : List (S62)) (r : List (S60)) (w : World) (hs0 : Kd.V k62 62 w w.heap.size (fun k_ => P0_ k_) (.slice A0 l0.length c0) l0) (h : zaE.f k l0 = some r) :
  Calls Tryd.prog 30 #[.slice A0 l0.length c0] w fun e w' => ∃ v0_ : Value, e = .returned (v0_) ∧ Kd.N k60 60 w' w.heap.size (fun k_ => (P0_ k_ ∨ w.heap.size ≤ k_)) v0_ r ∧ Below w.heap.size w w' := by
 have hu60 := Tryd.underlying60
 have HO0 := zaa.mk (show Kd.V k62 62 w w.heap.size (fun k_ => (P0_ k_ ∨ w.heap.size ≤ k_)) (.slice A0 l0.length c0) l0 from Kd.zb9 hs0 (fun k_ hk => .inl hk))
 have HB := zaa.mk (Below.refl w.heap.size w)
 have H : (zaE.l0 k l0 ([] : List (S60)) 0) = some r := h
 clear h
 have H' := zaa.mk H
 clear H
 go_enter Tryd.func30, Tryd.ntmps30
 go_wp2
 go_loopg [3, 4] k (fun kq v3 v4 w' => ∃ (x3_1 : List (S60)) (x4_1 : Int), v4 = .int .i64 x4_1 ∧ zaa (zaE.l0 kq l0 x3_1 x4_1 = some r) ∧ zaa (kq ≤ k) ∧ zaa (Kd.V k62 62 w' w.heap.size (fun k_ => (P0_ k_ ∨ w.heap.size ≤ k_) ∧ some k_ ≠ (v3 : Value).ownBlock) (.slice A0 l0.length c0) l0) ∧ zaa (Kd.N k60 60 w' w.heap.size (fun k_ => (P0_ k_ ∨ w.heap.size ≤ k_)) v3 x3_1) ∧ zaa (Below w.heap.size w w'))
 case atStart => exact ⟨(([] : List (S60))), (0), (by first | rfl | (simp; done) | (simp [*]; done)), H', ⟨Nat.le_refl _⟩, ⟨by (with_reducible repeat (first | apply Kd.zbK | apply Kd.zbL | apply Kd.zbU)); exact Kd.zb9 HO0.out (fun _ hk => ⟨hk, (by simp [Value.ownBlock])⟩)⟩, ⟨by first | exact Kd.zeE _ _ _ _ _ | exact Kd.zew _ _ _ _ _ | exact Kd.zeA _ _ _ _ _ | exact Kd.zex _ _ _ _ _ | exact Kd.zc3 _ _ _ _ _⟩, ⟨by repeat (first | (with_reducible first | exact HB.out | apply zac | apply zab | apply zad) | exact HB.out)⟩⟩
 case round =>
  clear H'
  obtain ⟨x3_1, x4_1, rfl, HA, HK1, HO_0, HO_3, HB⟩ := hrel
  cases gk with
  | zero => exact absurd HA.out (by simp [zaE.l0])
  | succ k1 =>
   have H := HA.out
   clear HA
   simp only [zaE.l0] at H
   by_cases c2 : x4_1 < (l0.length : Int)
   ·rw [if_pos c2] at H
    have c2b0 : decide (x4_1 < (l0.length : Int)) = true := decide_eq_true c2
    clear c2
    by_cases c3 : 0 ≤ x4_1
    ·rw [if_pos c3] at H
     have c3b0 : decide (0 ≤ x4_1) = true := decide_eq_true c3
     clear c3
     by_cases c4 : x3_1.length < 3518437208883
     ·rw [if_pos c4] at H
      have LMc4 := zaa.mk c4
      clear c4
      obtain ⟨y296, hy296⟩ : ∃ y_ : List (S60), y_ = (x3_1 ++ [(⟨(zaV l0 x4_1).f0, (zaV l0 x4_1).f1, (zaV l0 x4_1).f2⟩ : S60)]) := ⟨_, rfl⟩
      replace H : (zaE.l0 k1 l0 y296 (wrap64 (x4_1 + 1))) = some r := by first | (rw [hy296]; with_reducible exact H) | (have H2_ := (Option.bind_some _ _).symm.trans H; rw [hy296]; with_reducible exact H2_) | (have H2_ := (Option.bind_some _ _).symm.trans H; with_reducible exact H2_) | with_reducible exact H | (rw [hy296]; exact H) | exact H
      have Ny296 := zaa.mk hy296
      clear hy296
      have H' := zaa.mk H
      clear H
      try go_wp2
      have n0_ := zaa.mk (Kd.zbU HO_0.out)
      have n1_ := zaa.mk (Kd.zby HO_3.out)
      have n2_ := zaa.mk (zad HB.out)
      clear HO_0
      clear HO_3
      clear HB
      have HO_0 := n0_
      have HO_3 := n1_
      have HB := n2_
      clear n0_ n1_ n2_
      have p293 : 0 ≤ (x4_1 : Int) := of_decide_eq_true (by first | (with_reducible assumption) | assumption)
      have q293 : x4_1 < (l0.length : Int) := of_decide_eq_true (by first | (with_reducible assumption) | assumption)
      obtain ⟨ad293, A293_2, c293_2, e293, hx293_0, hx293_1, hx293_2, hl293_2, hi293_2⟩ := zcH (Kd.zcE HO_0.out).2.2 x4_1 p293 q293
      cases e293
      obtain ⟨ce293, hce293, hMe293, hcc293⟩ := Kd.zf1 HO_0.out z62 x4_1 p293 (by first | exact q293 | exact of_decide_eq_true (by first | (with_reducible assumption) | assumption) | (have e_ := (Kd.zcE HO_0.out).1; omega))
      obtain ⟨ua293_2, uc293_2, rfl, ul293_2, ge293_2⟩ := zej hMe293
      have hv293_2 := hcc293 2 _ rfl
      rw [zbM _ _ 2 (by omega)] at hv293_2
      replace hv293_2 := Option.some.inj (hv293_2.symm.trans hx293_2)
      injection hv293_2 with hva_ hvn_ hvc_
      rw [hva_] at ge293_2
      rw [hvc_] at ul293_2
      have HL293_2 := zaa.mk (show Kd.V (Kd.int .u32) 101 _ w.heap.size _ _ ((zaV l0 x4_1).f2) from Kd.V_mk ul293_2 ge293_2)
      clear hva_ hvn_ hvc_ ge293_2 ul293_2
      clear hcc293 hce293
      have HR293_2 := zaa.mk hi293_2
      have HC293_2 := zaa.mk hl293_2
      clear hi293_2 hl293_2
      replace p293 := eq_true p293
      replace q293 := eq_true q293
      have p294 : 0 ≤ (x4_1 : Int) := of_decide_eq_true (by first | (with_reducible assumption) | assumption)
      have q294 : x4_1 < (l0.length : Int) := of_decide_eq_true (by first | (with_reducible assumption) | assumption)
      obtain ⟨ad294, A294_2, c294_2, e294, hx294_0, hx294_1, hx294_2, hl294_2, hi294_2⟩ := zcH (Kd.zcE HO_0.out).2.2 x4_1 p294 q294
      obtain rfl : ad293 = ad294 := (by injection e294)
      obtain ⟨ce294, hce294, hMe294, hcc294⟩ := Kd.zf1 HO_0.out z62 x4_1 p294 (by first | exact q294 | exact of_decide_eq_true (by first | (with_reducible assumption) | assumption) | (have e_ := (Kd.zcE HO_0.out).1; omega))
      obtain ⟨ua294_2, uc294_2, rfl, ul294_2, ge294_2⟩ := zej hMe294
      have hv294_2 := hcc294 2 _ rfl
      rw [zbM _ _ 2 (by omega)] at hv294_2
      replace hv294_2 := Option.some.inj (hv294_2.symm.trans hx294_2)
      injection hv294_2 with hva_ hvn_ hvc_
      rw [hva_] at ge294_2
      rw [hvc_] at ul294_2
      have HL294_2 := zaa.mk (show Kd.V (Kd.int .u32) 101 _ w.heap.size _ _ ((zaV l0 x4_1).f2) from Kd.V_mk ul294_2 ge294_2)
      clear hva_ hvn_ hvc_ ge294_2 ul294_2
      clear hcc294 hce294
      have HR294_2 := zaa.mk hi294_2
      have HC294_2 := zaa.mk hl294_2
      clear hi294_2 hl294_2
      replace p294 := eq_true p294
      replace q294 := eq_true q294
      have ea_ := Option.some.inj (hx293_2.symm.trans hx294_2)
      injection ea_ with ea_ en_ ec_
      subst ea_
      subst ec_
      clear en_
      have p295 : 0 ≤ (x4_1 : Int) := of_decide_eq_true (by first | (with_reducible assumption) | assumption)
      have q295 : x4_1 < (l0.length : Int) := of_decide_eq_true (by first | (with_reducible assumption) | assumption)
      obtain ⟨ad295, A295_2, c295_2, e295, hx295_0, hx295_1, hx295_2, hl295_2, hi295_2⟩ := zcH (Kd.zcE HO_0.out).2.2 x4_1 p295 q295
      obtain rfl : ad293 = ad295 := (by injection e295)
      obtain ⟨ce295, hce295, hMe295, hcc295⟩ := Kd.zf1 HO_0.out z62 x4_1 p295 (by first | exact q295 | exact of_decide_eq_true (by first | (with_reducible assumption) | assumption) | (have e_ := (Kd.zcE HO_0.out).1; omega))
      obtain ⟨ua295_2, uc295_2, rfl, ul295_2, ge295_2⟩ := zej hMe295
      have hv295_2 := hcc295 2 _ rfl
      rw [zbM _ _ 2 (by omega)] at hv295_2
      replace hv295_2 := Option.some.inj (hv295_2.symm.trans hx295_2)
      injection hv295_2 with hva_ hvn_ hvc_
      rw [hva_] at ge295_2
      rw [hvc_] at ul295_2
      have HL295_2 := zaa.mk (show Kd.V (Kd.int .u32) 101 _ w.heap.size _ _ ((zaV l0 x4_1).f2) from Kd.V_mk ul295_2 ge295_2)
      clear hva_ hvn_ hvc_ ge295_2 ul295_2
      clear hcc295 hce295
      have HR295_2 := zaa.mk hi295_2
      have HC295_2 := zaa.mk hl295_2
      clear hi295_2 hl295_2
      replace p295 := eq_true p295
      replace q295 := eq_true q295
      have ea_ := Option.some.inj (hx293_2.symm.trans hx295_2)
      injection ea_ with ea_ en_ ec_
      subst ea_
      subst ec_
      clear en_
      refine zcZ (n := 20) (S := fun w' => w'.cell? (ad293.add ((x4_1).toNat * 3)) = some (.int .i64 ((zaV l0 x4_1).f0)) ∧ w'.cell? ⟨(ad293.add ((x4_1).toNat * 3)).block, (ad293.add ((x4_1).toNat * 3)).off + 1, none⟩ = some (.int .i64 ((zaV l0 x4_1).f1)) ∧ w'.cell? ⟨(ad293.add ((x4_1).toNat * 3)).block, (ad293.add ((x4_1).toNat * 3)).off + 2, none⟩ = some (.slice A293_2 ((zaV l0 x4_1).f2).length c293_2) ∧ w'.cell? (ad293.add ((x4_1).toNat * 3)) = some (.int .i64 ((zaV l0 x4_1).f0)) ∧ w'.cell? ⟨(ad293.add ((x4_1).toNat * 3)).block, (ad293.add ((x4_1).toNat * 3)).off + 1, none⟩ = some (.int .i64 ((zaV l0 x4_1).f1)) ∧ w'.cell? ⟨(ad293.add ((x4_1).toNat * 3)).block, (ad293.add ((x4_1).toNat * 3)).off + 2, none⟩ = some (.slice A293_2 ((zaV l0 x4_1).f2).length c293_2) ∧ w'.cell? (ad293.add ((x4_1).toNat * 3)) = some (.int .i64 ((zaV l0 x4_1).f0)) ∧ w'.cell? ⟨(ad293.add ((x4_1).toNat * 3)).block, (ad293.add ((x4_1).toNat * 3)).off + 1, none⟩ = some (.int .i64 ((zaV l0 x4_1).f1)) ∧ w'.cell? ⟨(ad293.add ((x4_1).toNat * 3)).block, (ad293.add ((x4_1).toNat * 3)).off + 2, none⟩ = some (.slice A293_2 ((zaV l0 x4_1).f2).length c293_2)) (ds := [17, 18]) #[false, false, false, false, false, false, false, false, false, false, false, false, false, false, false, false, false, false, false, false] (by kernel_rfl) rfl rfl ⟨hx293_0, hx293_1, hx293_2, hx294_0, hx294_1, hx294_2, hx295_0, hx295_1, hx295_2⟩ (fun hHeld => ?_); refine zcr zaE.tab5 zaE.zg2 (fun HT_ HW_ => ?_)
      generalize wr.drew = w5 at HO_0 HO_3 HB HL293_2 HL294_2 HL295_2 HR293_2 HR294_2 HR295_2 hx293_0 hx293_1 hx293_2 hx294_0 hx294_1 hx294_2 hx295_0 hx295_1 hx295_2 hHeld ⊢
      refine zaI (i := 0) (N := some 11) (v := ?_) (a' := ?_) #[true, false, false, false, false, false, false, false, false, false, false, false, false, false, false, false, false, false, false, false] rfl rfl (zaC HT_.out (by kernel_rfl)) (fun _ _ _ h => h) (Or.inl ⟨by rfl, ?_⟩) ?_ ?_
      rotate_left
      ·intro w'
       go_simp
       with_reducible rfl
      rotate_left
      ·simp only [Act.put, List.setIfInBounds_toArray, List.set_cons_zero, List.set_cons_succ, zas, zat]
       rfl
      refine zaI (i := 1) (N := some 12) (v := ?_) (a' := ?_) #[true, true, false, false, false, false, false, false, false, false, false, false, false, false, false, false, false, false, false, false] rfl rfl (zaC HT_.out (by kernel_rfl)) (fun _ _ _ h => h) (Or.inl ⟨by rfl, ?_⟩) ?_ ?_
      rotate_left
      ·intro w'
       go_simp
       with_reducible rfl
      rotate_left
      ·simp only [Act.put, List.setIfInBounds_toArray, List.set_cons_zero, List.set_cons_succ, zas, zat]
       rfl
      refine zaI (i := 2) (N := some 13) (v := ?_) (a' := ?_) #[true, true, true, false, false, false, false, false, false, false, false, false, false, false, false, false, false, false, false, false] rfl rfl (zaC HT_.out (by kernel_rfl)) (fun _ _ _ h => h) (Or.inl ⟨by rfl, ?_⟩) ?_ ?_
      rotate_left
      ·intro w'
       go_simp
       with_reducible rfl
      rotate_left
      ·simp only [Act.put, List.setIfInBounds_toArray, List.set_cons_zero, List.set_cons_succ, zas, zat]
       rfl
      refine zaI (i := 3) (N := some 14) (v := ?_) (a' := ?_) #[true, true, true, true, false, false, false, false, false, false, false, false, false, false, false, false, false, false, false, false] rfl rfl (zaC HT_.out (by kernel_rfl)) (fun _ _ _ h => h) (Or.inl ⟨by rfl, ?_⟩) ?_ ?_
      rotate_left
      ·intro w'
       go_simp
       with_reducible rfl
      rotate_left
      ·simp only [Act.put, List.setIfInBounds_toArray, List.set_cons_zero, List.set_cons_succ, zas, zat]
       rfl
      refine zaI (i := 4) (N := some 15) (v := ?_) (a' := ?_) #[true, true, true, true, true, false, false, false, false, false, false, false, false, false, false, false, false, false, false, false] rfl rfl (zaC HT_.out (by kernel_rfl)) (fun _ _ _ h => h) (Or.inl ⟨by rfl, ?_⟩) ?_ ?_
      rotate_left
      ·intro w'
       go_simp
       with_reducible rfl
      rotate_left
      ·simp only [Act.put, List.setIfInBounds_toArray, List.set_cons_zero, List.set_cons_succ, zas, zat]
       rfl
      refine zaI (i := 6) (N := some 17) (v := ?_) (a' := ?_) #[true, true, true, true, true, false, true, false, false, false, false, false, false, false, false, false, false, false, false, false] rfl rfl (zaC HT_.out (by kernel_rfl)) (fun _ _ _ h => h) (Or.inl ⟨by rfl, ?_⟩) ?_ ?_
      rotate_left
      ·intro w'
       go_simp
       with_reducible rfl
      rotate_left
      ·simp only [Act.put, List.setIfInBounds_toArray, List.set_cons_zero, List.set_cons_succ, zas, zat]
       rfl
      refine zaI (i := 7) (N := some 18) (v := ?_) (a' := ?_) #[true, true, true, true, true, false, true, true, false, false, false, false, false, false, false, false, false, false, false, false] rfl rfl (zaC HT_.out (by kernel_rfl)) (fun _ _ _ h => h) (Or.inl ⟨by rfl, ?_⟩) ?_ ?_
      rotate_left
      ·intro w'
       go_simp
       with_reducible rfl
      rotate_left
      ·simp only [Act.put, List.setIfInBounds_toArray, List.set_cons_zero, List.set_cons_succ, zas, zat]
       rfl
      refine zaI (i := 8) (N := some 19) (v := ?_) (a' := ?_) #[true, true, true, true, true, false, true, true, true, false, false, false, false, false, false, false, false, false, false, false] rfl rfl (zaC HT_.out (by kernel_rfl)) (fun _ _ _ h => h) (Or.inl ⟨by rfl, ?_⟩) ?_ ?_
      rotate_left
      ·intro w'
       go_simp
       with_reducible rfl
      rotate_left
      ·simp only [Act.put, List.setIfInBounds_toArray, List.set_cons_zero, List.set_cons_succ, zas, zat]
       rfl
      refine zaI (i := 9) (N := some 20) (v := ?_) (a' := ?_) #[true, true, true, true, true, false, true, true, true, true, false, false, false, false, false, false, false, false, false, false] rfl rfl (zaC HT_.out (by kernel_rfl)) (fun _ _ _ h => h) (Or.inl ⟨by rfl, ?_⟩) ?_ ?_
      rotate_left
      ·intro w'
       go_simp
       with_reducible rfl
      rotate_left
      ·simp only [Act.put, List.setIfInBounds_toArray, List.set_cons_zero, List.set_cons_succ, zas, zat]
       rfl
      refine zaI (i := 11) (N := some 22) (v := ?_) (a' := ?_) #[true, true, true, true, true, false, true, true, true, true, false, true, false, false, false, false, false, false, false, false] rfl rfl (zaC HT_.out (by kernel_rfl)) (fun _ _ _ h => h) (Or.inl ⟨by rfl, ?_⟩) ?_ ?_
      rotate_left
      ·intro w'
       go_simp
       with_reducible rfl
      rotate_left
      ·simp only [Act.put, List.setIfInBounds_toArray, List.set_cons_zero, List.set_cons_succ, zas, zat]
       rfl
      refine zaI (i := 12) (N := some 23) (v := ?_) (a' := ?_) #[true, true, true, true, true, false, true, true, true, true, false, true, true, false, false, false, false, false, false, false] rfl rfl (zaC HT_.out (by kernel_rfl)) (fun _ _ _ h => h) (Or.inl ⟨by rfl, ?_⟩) ?_ ?_
      rotate_left
      ·intro w'
       go_simp
       with_reducible rfl
      rotate_left
      ·simp only [Act.put, List.setIfInBounds_toArray, List.set_cons_zero, List.set_cons_succ, zas, zat]
       rfl
      refine zaI (i := 13) (N := some 24) (v := ?_) (a' := ?_) #[true, true, true, true, true, false, true, true, true, true, false, true, true, true, false, false, false, false, false, false] rfl rfl (zaC HT_.out (by kernel_rfl)) (fun _ _ _ h => h) (Or.inl ⟨by rfl, ?_⟩) ?_ ?_
      rotate_left
      ·intro w'
       go_simp
       with_reducible rfl
      rotate_left
      ·simp only [Act.put, List.setIfInBounds_toArray, List.set_cons_zero, List.set_cons_succ, zas, zat]
       rfl
      refine zaI (i := 14) (N := some 25) (v := ?_) (a' := ?_) #[true, true, true, true, true, false, true, true, true, true, false, true, true, true, true, false, false, false, false, false] rfl rfl (zaC HT_.out (by kernel_rfl)) (fun _ _ _ h => h) (Or.inl ⟨by rfl, ?_⟩) ?_ ?_
      rotate_left
      ·intro w'
       go_simp
       with_reducible rfl
      rotate_left
      ·simp only [Act.put, List.setIfInBounds_toArray, List.set_cons_zero, List.set_cons_succ, zas, zat]
       rfl
      refine zbl (i := 5) (N := some 16) (v := ?_) (a' := ?_) #[true, true, true, true, true, true, true, true, true, true, false, true, true, true, true, false, false, false, false, false] rfl rfl (za6 HT_.out HW_.out (by kernel_rfl)) (fun _ _ _ h => h) (Or.inl ⟨by rfl, ?_⟩) hHeld ?_ ?_
      rotate_left
      ·rintro w' ⟨s0, s1, s2, s3, s4, s5, s6, s7, s8⟩
       go_simp
       with_reducible rfl
      rotate_left
      ·simp only [Act.put, List.setIfInBounds_toArray, List.set_cons_zero, List.set_cons_succ, zas, zat]
       rfl
      refine zbl (i := 10) (N := some 21) (v := ?_) (a' := ?_) #[true, true, true, true, true, true, true, true, true, true, true, true, true, true, true, false, false, false, false, false] rfl rfl (za6 HT_.out HW_.out (by kernel_rfl)) (fun _ _ _ h => h) (Or.inl ⟨by rfl, ?_⟩) hHeld ?_ ?_
      rotate_left
      ·rintro w' ⟨s0, s1, s2, s3, s4, s5, s6, s7, s8⟩
       go_simp
       with_reducible rfl
      rotate_left
      ·simp only [Act.put, List.setIfInBounds_toArray, List.set_cons_zero, List.set_cons_succ, zas, zat]
       rfl
      refine zbl (i := 15) (N := some 26) (v := ?_) (a' := ?_) #[true, true, true, true, true, true, true, true, true, true, true, true, true, true, true, true, false, false, false, false] rfl rfl (za6 HT_.out HW_.out (by kernel_rfl)) (fun _ _ _ h => h) (Or.inl ⟨by rfl, ?_⟩) hHeld ?_ ?_
      rotate_left
      ·rintro w' ⟨s0, s1, s2, s3, s4, s5, s6, s7, s8⟩
       go_simp
       with_reducible rfl
      rotate_left
      ·simp only [Act.put, List.setIfInBounds_toArray, List.set_cons_zero, List.set_cons_succ, zas, zat]
       rfl
      refine zaI (i := 16) (N := some 27) (v := ?_) (a' := ?_) #[true, true, true, true, true, true, true, true, true, true, true, true, true, true, true, true, true, false, false, false] rfl rfl (zaC HT_.out (by kernel_rfl)) (fun _ _ _ h => h) (Or.inl ⟨by rfl, ?_⟩) ?_ ?_
      rotate_left
      ·intro w'
       go_simp
       with_reducible rfl
      rotate_left
      ·simp only [Act.put, List.setIfInBounds_toArray, List.set_cons_zero, List.set_cons_succ, zas, zat]
       rfl
      refine ziF (i := 17) (N := some 28) #[true, true, true, true, true, true, true, true, true, true, true, true, true, true, true, true, true, true, false, false] rfl rfl (zbJ HT_.out (by kernel_rfl)) (by decide) (fun K hK => ?_)
      refine zhz (w1 := ?_) (v := ?_) (by rfl) rfl ?_ ?_
      rotate_left 2
      ·go_simp
       constructor
       ·rfl
       ·rfl
      refine hK.out _ _ ?_
      clear hK K
      refine zbZ (a' := ?_) ?_ ?_
      rotate_left
      ·show Act.put _ (some 28) _ = _
       simp only [Act.put, List.setIfInBounds_toArray, List.set_cons_zero, List.set_cons_succ, zas, zat]
       rfl
      refine ziF (i := 18) (N := some 29) #[true, true, true, true, true, true, true, true, true, true, true, true, true, true, true, true, true, true, true, false] rfl rfl (zbJ HT_.out (by kernel_rfl)) (by decide) (fun K hK => ?_)
      refine Kd.zfO k60 (w0 := w) w.heap.size (by rfl) (.tmp 11) (.tmp 28) 56 60 (.agg #[(.int .i64 0), (.int .i64 0), (.slice none 0 0)]) 40 rfl Tryd.underlying56 zhR rfl (by decide) (by omega) u3 x3_1 (⟨(zaV l0 x4_1).f0, (zaV l0 x4_1).f1, (zaV l0 x4_1).f2⟩ : S60) [.int .i64 ((zaV l0 x4_1).f0), .int .i64 ((zaV l0 x4_1).f1), .slice A293_2 ((zaV l0 x4_1).f2).length c293_2] (fun k_ => (P0_ k_ ∨ w.heap.size ≤ k_)) (fun k_ => ((fun k_ => (P0_ k_ ∨ w.heap.size ≤ k_))) k_ ∧ some k_ ≠ (u3 : Value).ownBlock) rfl rfl ?aP (fun _ hk => hk) ?aF ?aO ?aB ?aS ?aL ?_
      (case aP => exact (ziM _ _ (⟨(zaV l0 x4_1).f0, (zaV l0 x4_1).f1, (zaV l0 x4_1).f2⟩ : S60) (Kd.zcE (Kd.zb9 (ok' := (fun k_ => ((fun k_ => (P0_ k_ ∨ w.heap.size ≤ k_))) k_ ∧ some k_ ≠ (u3 : Value).ownBlock)) (HL295_2.out) (fun k_ hk => ⟨hk.1, hk.2⟩))).2.1 (Kd.V_F (Kd.zb9 (ok' := (fun k_ => ((fun k_ => (P0_ k_ ∨ w.heap.size ≤ k_))) k_ ∧ some k_ ≠ (u3 : Value).ownBlock)) (HL295_2.out) (fun k_ hk => ⟨hk.1, hk.2⟩)))))
      (case aB => exact (by repeat (first | (with_reducible first | exact HB.out | apply zac | apply zab | apply zad) | exact HB.out)))
      (case aF => exact (fun k_ hk => (.inr (Nat.le_trans (zay (by repeat (first | (with_reducible first | exact HB.out | apply zac | apply zab | apply zad) | exact HB.out))) hk))))
      (case aO => exact (by (with_reducible repeat (first | apply Kd.zbA | apply Kd.zbz | apply Kd.zby)); exact HO_3.out))
      (case aS => exact (zay (by repeat (first | (with_reducible first | exact HB.out | apply zac | apply zab | apply zad) | exact HB.out))))
      (case aL => have := LMc4.out; omega)
      intro v297 w6 ho hb hg hat
      rw [← Ny296.out] at ho
      have n0_ := zaa.mk (Kd.zcL (ok := (fun k_ => (P0_ k_ ∨ w.heap.size ≤ k_))) (by (with_reducible repeat (first | apply Kd.zbK | apply Kd.zbL | apply Kd.zbU)); exact HO_0.out) hg hat)
      have n1_ := zaa.mk (Kd.zcL (ok := (fun k_ => (P0_ k_ ∨ w.heap.size ≤ k_))) (by (with_reducible repeat (first | apply Kd.zbK | apply Kd.zbL | apply Kd.zbU)); exact HL293_2.out) hg hat)
      have n2_ := zaa.mk (Kd.zcL (ok := (fun k_ => (P0_ k_ ∨ w.heap.size ≤ k_))) (by (with_reducible repeat (first | apply Kd.zbK | apply Kd.zbL | apply Kd.zbU)); exact HL294_2.out) hg hat)
      have n3_ := zaa.mk (Kd.zcL (ok := (fun k_ => (P0_ k_ ∨ w.heap.size ≤ k_))) (by (with_reducible repeat (first | apply Kd.zbK | apply Kd.zbL | apply Kd.zbU)); exact HL295_2.out) hg hat)
      have n4_ := zaa.mk (hb)
      have n5_ := zaa.mk (ho)
      clear HO_0
      clear HL293_2
      clear HL294_2
      clear HL295_2
      clear HB
      clear HO_3
      have HO_0 := n0_
      have HL293_2 := n1_
      have HL294_2 := n2_
      have HL295_2 := n3_
      have HB := n4_
      have HO298 := n5_
      clear n0_ n1_ n2_ n3_ n4_ n5_
      clear ho hb hg hat
      refine hK.out _ _ ?_
      clear hK K
      refine zbZ (a' := ?_) ?_ ?_
      rotate_left
      ·show Act.put _ (some 29) _ = _
       simp only [Act.put, List.setIfInBounds_toArray, List.set_cons_zero, List.set_cons_succ, zas, zat]
       rfl
      refine zaI (i := 19) (N := some 3) (v := ?_) (a' := ?_) #[true, true, true, true, true, true, true, true, true, true, true, true, true, true, true, true, true, true, true, true] rfl rfl (zaC HT_.out (by kernel_rfl)) (fun _ _ _ h => h) (Or.inl ⟨by rfl, ?_⟩) ?_ ?_
      rotate_left
      ·intro w'
       go_simp
       with_reducible rfl
      rotate_left
      ·simp only [Act.put, List.setIfInBounds_toArray, List.set_cons_zero, List.set_cons_succ, zas, zat]
       rfl
      refine zdj (zcQ HT_.out (by kernel_rfl)) ?_
      try go_wp2
      go_roundg k1
      case measure => have := HK1.out; omega
      case rel => exact ⟨(y296), (wrap64 (x4_1 + 1)), (by first | rfl | (simp; done) | (simp [*]; done)), H', ⟨by have := HK1.out; omega⟩, ⟨by (with_reducible repeat (first | apply Kd.zbK | apply Kd.zbL | apply Kd.zbU)); exact HO_0.out⟩, ⟨by (with_reducible repeat (first | apply Kd.zbA | apply Kd.zbz | apply Kd.zby)); exact HO298.out⟩, ⟨by repeat (first | (with_reducible first | exact HB.out | apply zac | apply zab | apply zad) | exact HB.out)⟩⟩
     ·rw [if_neg c4] at H
      exact absurd H (by simp)
    ·rw [if_neg c3] at H
     exact absurd H (by simp)
   ·rw [if_neg c2] at H
    have c2b0 : decide (x4_1 < (l0.length : Int)) = false := decide_eq_false c2
    clear c2
    obtain rfl := Option.some.inj H
    go_wp2
    go_ret
    exact ⟨_, by first | rfl | (simp [zan, zam] <;> rfl) | (simp [*, zan, zam] <;> rfl), by (with_reducible repeat (first | apply Kd.zbA | apply Kd.zbz | apply Kd.zby)); exact HO_3.out, by repeat (first | (with_reducible first | exact HB.out | apply zac | apply zab | apply zad) | exact HB.out)⟩
end Go.Proofs.YtbicjgaadknmfaaDoor.P
end
section
namespace Go.Proofs.YtbicjgaadknmfaaDoor.P
open Go.RowKit Go.Proofs.YtbicjgaadknmfaaDoorW.PrintWords Go.Proofs.YtbicjgaadknmfaaDoorW.PrintLast Go.Proofs.YtbicjgaadknmfaaDoorW.PrintMore
attribute [local go_sem] zck zcl zca zcc zbQ zbP zb0 zb1
set_option linter.unusedVariables false
set_option linter.unusedSimpArgs false
theorem zj1 (d : Nat) (w : World) (x0 y0 : Int) (x1 y1 : Int) (x2 y2 : Int) (x3 y3 : Int) :
    (Op.equalIn (d + 2) 25 (.agg #[.int .i64 x0, .int .i64 x1, .int .i64 x2, .int .i64 x3]) (.agg #[.int .i64 y0, .int .i64 y1, .int .i64 y2, .int .i64 y3])).run Tryd.prog w = .ok (x0 == y0 && (x1 == y1 && (x2 == y2 && (x3 == y3)))) w := by
  refine zjK Tryd.underlying25 (by kernel_rfl) ?_
  refine ze1 (by rfl) (by go_simp; rfl) (by go_simp; rfl) (by go_simp) ?_
  refine ze1 (by rfl) (by go_simp; rfl) (by go_simp; rfl) (by go_simp) ?_
  refine ze1 (by rfl) (by go_simp; rfl) (by go_simp; rfl) (by go_simp) ?_
  exact zh8 (by rfl) (by go_simp; rfl) (by go_simp; rfl) (by go_simp)
end Go.Proofs.YtbicjgaadknmfaaDoor.P
end
