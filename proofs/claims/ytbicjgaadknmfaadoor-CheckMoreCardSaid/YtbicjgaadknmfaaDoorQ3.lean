import Derived.Test.YtbicjgaadknmfaaDoorQ2
import Derived.Deep.RegionWith
import Derived.Test.YtbicjgaadknmfaaDoorQ1
import Derived.Laws.BitsLemmas
import Derived.Test.YtbicjgaadknmfaaDoorProg
import Derived.Test.YtbicjgaadknmfaaDoorQ0
import Derived.Handy
section
namespace Go.Proofs.YtbicjgaadknmfaaDoor.P
open Go.RowKit Go.Proofs.YtbicjgaadknmfaaDoorW.PrintWords Go.Proofs.YtbicjgaadknmfaaDoor.M
set_option linter.unusedVariables false
set_option linter.unusedSimpArgs false
def zbt.f (a0_0 : Int) (a0_1 : ByteArray) (a0_2 : Int) : Option Bool := if a0_1.size ≤ 4000 then some (zcB a0_0 (toL a0_1)) else none
def zc5.f (a0_0 : Int) (a0_1 : ByteArray) (a0_2 : Int) : Option Bool := if a0_1.size ≤ 4000 then some (zcB a0_0 (toL a0_1)) else none
set_option maxHeartbeats 2000000 in
set_option maxRecDepth 100000 in
theorem zbt.calls (a0_0 : Int) (a0_1 : ByteArray) (a0_2 : Int) (r : Bool) (w : World) (h : zbt.f a0_0 a0_1 a0_2 = some r) :
    Calls Tryd.prog 84 #[.agg #[.int .i64 a0_0, .string a0_1, .int .i64 a0_2]] w fun e w' => e = .returned (.bool r) ∧ Below w.heap.size w w' := by
  unfold zbt.f at h
  split at h
  case isFalse => cases h
  case isTrue hs =>
  have HR := zaa.mk (Option.some.inj h)
  have HL := zaa.mk (ziD a0_0 (toL a0_1) (by rw [zcD]; omega))
  have HS := zaa.mk (fun W => zc6.calls a0_1 (resR (zdQ (toL a0_1))).1 (resR (zdQ (toL a0_1))).2 W rfl)
  clear h
  generalize zdQ (toL a0_1) = q at *
  have kept : ∀ {w1 : World}, Below (w.alloc (.cells #[.int .i64 a0_0, .string a0_1, .int .i64 a0_2] 136)).heap.size (w.alloc (.cells #[.int .i64 a0_0, .string a0_1, .int .i64 a0_2] 136)) w1 → w1.cell? ⟨w.heap.size, 0, none⟩ = some (.int .i64 a0_0) ∧ w1.cell? ⟨w.heap.size, 1, none⟩ = some (.string a0_1) := fun hb => ⟨zbA hb (by go_simp), zbA hb (by go_simp)⟩
  have HK := zaa.mk @kept
  clear kept
  cases q with
  | error p =>
    have HS2 := zaa.mk (show ∀ W, Calls Tryd.prog 118 #[.string a0_1] W fun e w' => ∃ v0_ : Value, e = .returned (.tuple #[v0_, .int .i64 (p : Int)]) ∧ Kd.R k136 136 w' W.heap.size (fun _ => True) v0_ [] ∧ Below W.heap.size W w' from HS.out)
    have HF := zaa.mk (show r = false by rw [← HR.out, ← HL.out]; rfl)
    clear HR HL HS
    have n1 : ¬ (p : Int) < 0 := by omega
    have n2 : decide ((p : Int) < 0) = false := decide_eq_false n1
    go_enter Tryd.func84, Tryd.ntmps84
    go_wp2_with (go_at_call 118; refine (HS2.out _).mono ?_; rintro e w1 ⟨v, rfl, hv, hb⟩; have HB := zaa.mk (zat (zac (Below.refl _ _) _) hb); obtain ⟨k0, k1⟩ := HK.out hb; clear hb hv)
    go_quiet (fail)
    go_wp2_with fail
    go_ret
    exact ⟨by rw [HF.out]; rfl, zab HB.out _⟩
  | ok ws =>
    have HS2 := zaa.mk (show ∀ W, Calls Tryd.prog 118 #[.string a0_1] W fun e w' => ∃ v0_ : Value, e = .returned (.tuple #[v0_, .int .i64 (-1)]) ∧ Kd.R k136 136 w' W.heap.size (fun _ => True) v0_ (ws.map mkR) ∧ Below W.heap.size W w' from HS.out)
    by_cases hw : ws.length = 1
    · match ws, hw with
      | [x], _ =>
        have HF := zaa.mk (show r = (decide ((x.kd : Int) = a0_0) && decide (x.tx = toL a0_1)) by rw [← HR.out, ← HL.out]; rfl)
        clear HR HL HS
        have HX := zaa.mk (show mkR x = ⟨x.kd, ofL x.tx, x.pl⟩ from rfl)
        by_cases hk : (x.kd : Int) = a0_0
        · have t1 : ((x.kd : Int) == a0_0) = true := by simpa using hk
          have HF2 := zaa.mk (show r = ((ofL x.tx).toList == a0_1.toList) by rw [HF.out, decide_eq_true hk, Bool.true_and, toList_eq, toList_eq, zc3, Bool.eq_iff_iff]; simp)
          clear hk HF
          generalize ofL x.tx = tx at *
          go_enter Tryd.func84, Tryd.ntmps84
          go_wp2_with (go_at_call 118; refine (HS2.out _).mono ?_; rintro e w1 ⟨v, rfl, hv, hb⟩; have HB := zaa.mk (zat (zac (Below.refl _ _) _) hb); obtain ⟨k0, k1⟩ := HK.out hb; obtain ⟨A, cp, rfl⟩ := Kd.zbO hv; obtain ⟨g, rfl, hg, c0, c1, c2, hz⟩ := zgk (xs := []) hv; simp only [List.length_nil, Nat.zero_mul, Nat.zero_add] at c0 c1; rw [HX.out] at c0 c1; clear hb hv hz hg c2)
          go_quiet (fail)
          go_wp2_with fail
          go_ret
          exact ⟨by rw [HF2.out]; rfl, zab HB.out _⟩
        · have t1 : ((x.kd : Int) == a0_0) = false := by simpa using hk
          have HF2 := zaa.mk (show r = false by rw [HF.out, decide_eq_false hk, Bool.false_and])
          clear hk HF
          generalize ofL x.tx = tx at *
          go_enter Tryd.func84, Tryd.ntmps84
          go_wp2_with (go_at_call 118; refine (HS2.out _).mono ?_; rintro e w1 ⟨v, rfl, hv, hb⟩; have HB := zaa.mk (zat (zac (Below.refl _ _) _) hb); obtain ⟨k0, k1⟩ := HK.out hb; obtain ⟨A, cp, rfl⟩ := Kd.zbO hv; obtain ⟨g, rfl, hg, c0, c1, c2, hz⟩ := zgk (xs := []) hv; simp only [List.length_nil, Nat.zero_mul, Nat.zero_add] at c0 c1; rw [HX.out] at c0 c1; clear hb hv hz hg c2)
          go_quiet (fail)
          go_wp2_with fail
          go_ret
          exact ⟨by rw [HF2.out]; rfl, zab HB.out _⟩
    · have HF := zaa.mk (show r = false by
        rw [← HR.out, ← HL.out]
        match ws, hw with
        | [], _ => rfl
        | [x], hw => exact absurd rfl hw
        | _ :: _ :: _, _ => rfl)
      have t1 : ((ws.length : Int) == 1) = false := by simp; omega
      have t2 : (ws.length == 1) = false := by simpa using hw
      clear HR HL HS hw
      go_enter Tryd.func84, Tryd.ntmps84
      go_wp2_with (go_at_call 118; refine (HS2.out _).mono ?_; rintro e w1 ⟨v, rfl, hv, hb⟩; have HB := zaa.mk (zat (zac (Below.refl _ _) _) hb); obtain ⟨A, cp, rfl⟩ := Kd.zbO hv; rw [List.length_map]; clear hb hv)
      go_quiet (fail)
      go_wp2_with fail
      go_ret
      exact ⟨by rw [HF.out]; rfl, zab HB.out _⟩
set_option maxHeartbeats 2000000 in
set_option maxRecDepth 100000 in
theorem zc5.calls (a0_0 : Int) (a0_1 : ByteArray) (a0_2 : Int) (r : Bool) (w : World) (h : zc5.f a0_0 a0_1 a0_2 = some r) :
    Calls Tryd.prog 83 #[.agg #[.int .i64 a0_0, .string a0_1, .int .i64 a0_2]] w fun e w' => e = .returned (.bool r) ∧ Below w.heap.size w w' := by
  unfold zc5.f at h
  split at h
  case isFalse => cases h
  case isTrue hs =>
  have hr := Option.some.inj h
  clear h
  cases hl : toL a0_1 with
  | nil =>
    have t1 : (a0_1.toList == ([] : List UInt8)) = true := by rw [toList_eq, hl]; rfl
    have t2 : a0_1.toList = [] := by rw [toList_eq, hl]
    have HF := zaa.mk (show r = false by rw [← hr, hl]; rfl)
    clear hr hl hs
    go_enter Tryd.func83, Tryd.ntmps83
    go_wp2_with fail
    go_quiet (fail)
    go_wp2_with fail
    go_ret
    exact ⟨by rw [HF.out]; rfl, zab (zac (Below.refl _ _) _) _⟩
  | cons c q =>
    have t1 : (a0_1.toList == ([] : List UInt8)) = false := by rw [toList_eq, hl]; rfl
    by_cases hk0 : a0_0 = 0
    · have t2 : (a0_0 == 0) = true := by simpa using hk0
      have HF := zaa.mk (show r = false by rw [← hr, hl, hk0]; unfold zcB; apply decide_eq_false; omega)
      clear hr hl hs hk0
      go_enter Tryd.func83, Tryd.ntmps83
      go_wp2_with fail
      go_quiet (fail)
      go_wp2_with fail
      go_ret
      exact ⟨by rw [HF.out]; rfl, zab (zac (Below.refl _ _) _) _⟩
    · have t2 : (a0_0 == 0) = false := by simpa using hk0
      have hsz : a0_1.size = q.length + 1 := by rw [← zcD, hl, List.length_cons]
      have hb0 : ∀ h : 0 < a0_1.size, (a0_1[0]'h).toNat = c.toNat := by
        intro h
        have h1 := zgE a0_1 0 c q (by rw [hl]; rfl)
        unfold bt at h1
        rw [dif_pos (by simpa using h)] at h1
        have h2 : ((a0_1[0]'h).toNat : Int) = (c.toNat : Int) := by simpa using h1
        omega
      have hp : 0 < a0_1.size := by omega
      have hb1 := hb0 hp
      have HK := zaa.mk (fun W => zej.calls _ _ W (zkB c))
      have p0 : (0 : Int) < (a0_1.size : Int) := by omega
      have HR := zaa.mk hr
      rw [hl] at hr
      by_cases hkk : (zbd c : Int) = a0_0
      · have t3 : ((zbd c : Int) != a0_0) = false := by simpa using hkk
        have hle : (q.takeWhile (zbn (zbd c))).length ≤ q.length := (List.takeWhile_prefix _).length_le
        obtain ⟨kf, hkf⟩ := Ev.rounds (zjS a0_1 (by omega) (zbd c) q 1 (by rw [hl]; rfl) (by omega))
        rw [hkk] at hkf
        have HFi := zaa.mk (fun W => zbx.calls kf a0_1 a0_0 _ W hkf)
        have hmo := zkW (zbd c)
        rw [hkk] at hmo
        have HMo := zaa.mk (fun W => zep.calls a0_0 _ W hmo)
        have HF := zaa.mk (show r = (decide ((q.takeWhile (zbn (zbd c))).length = q.length) && decide (q.length + 1 ≤ zce (zbd c))) by
          rw [← hr]
          unfold zcB
          rw [Bool.eq_iff_iff, Bool.and_eq_true, decide_eq_true_iff, decide_eq_true_iff, decide_eq_true_iff]
          constructor
          · intro h; exact ⟨h.2.2.1, h.2.2.2⟩
          · intro h; exact ⟨by omega, hkk, h.1, h.2⟩)
        have HS := zaa.mk hsz
        clear HR hr hl hs hk0 hkk hsz hb0 hkf hmo
        generalize (q.takeWhile (zbn (zbd c))).length = m at *
        generalize zce (zbd c) = mo at *
        generalize zbd c = kk at *
        have hq : (1 + m : Nat) ≤ a0_1.size := by have := HS.out; omega
        have HQ := zaa.mk hq
        clear hq hle
        go_enter Tryd.func83, Tryd.ntmps83
        go_wp2_with fail
        go_cut [19] (fun v19 wc => v19 = .bool false ∧ wc.cell? ⟨w.heap.size, 0, none⟩ = some (.int .i64 a0_0) ∧ wc.cell? ⟨w.heap.size, 1, none⟩ = some (.string a0_1) ∧ zaa (Below w.heap.size w wc))
        case first =>
          go_region_with (go_at_call 93; refine (HK.out _).mono ?_; rintro e w1 ⟨rfl, hb⟩; have k0 := zbA hb (a := ⟨w.heap.size, 0, none⟩) (v := .int .i64 a0_0) (by go_simp); have k1 := zbA hb (a := ⟨w.heap.size, 1, none⟩) (v := .string a0_1) (by go_simp); have HB := zaa.mk hb; clear hb)
          all_goals
            go_wp2_with fail
            go_meet
            case rel => exact ⟨rfl, k0, k1, ⟨zat (zcE (zac (Below.refl _ _) _)) HB.out⟩⟩
        case rest =>
          obtain ⟨rfl, k0, k1, HB⟩ := hcut
          by_cases hm : m = q.length
          · have t4 : ((1 + (m : Int)) == (a0_1.size : Int)) = true := by have := HS.out; simp; omega
            have HF2 := zaa.mk (show r = decide (a0_1.size ≤ mo) by
              rw [HF.out, decide_eq_true hm, Bool.true_and]
              have := HS.out
              exact decide_eq_decide.2 (by omega))
            clear HF hm
            go_wp2_with fail
            go_quiet (first | (go_at_call 94; exact Calls.quiet_of ((HFi.out _).mono fun e w' ⟨he, ⟨nd, hd⟩⟩ => ⟨he, nd, hd⟩)) | (go_at_call 95; exact Calls.quiet_of ((HMo.out _).mono fun e w' ⟨he, ⟨nd, hd⟩⟩ => ⟨he, nd, hd⟩)))
            go_wp2_with fail
            go_ret
            exact ⟨by rw [HF2.out]; rfl, zab HB.out _⟩
          · have t4 : ((1 + (m : Int)) == (a0_1.size : Int)) = false := by have := HS.out; simp; omega
            have HF2 := zaa.mk (show r = false by rw [HF.out, decide_eq_false hm, Bool.false_and])
            clear HF hm
            go_wp2_with fail
            go_quiet (first | (go_at_call 94; exact Calls.quiet_of ((HFi.out _).mono fun e w' ⟨he, ⟨nd, hd⟩⟩ => ⟨he, nd, hd⟩)) | (go_at_call 95; exact Calls.quiet_of ((HMo.out _).mono fun e w' ⟨he, ⟨nd, hd⟩⟩ => ⟨he, nd, hd⟩)))
            go_wp2_with fail
            go_ret
            exact ⟨by rw [HF2.out]; rfl, zab HB.out _⟩
      · have t3 : ((zbd c : Int) != a0_0) = true := by simpa using hkk
        have HF := zaa.mk (show r = false by rw [← hr]; unfold zcB; apply decide_eq_false; omega)
        clear HR hr hl hs hk0 hkk hsz hb0
        generalize zbd c = kk at *
        go_enter Tryd.func83, Tryd.ntmps83
        go_wp2_with fail
        go_region_with (go_at_call 93; refine (HK.out _).mono ?_; rintro e w1 ⟨rfl, hb⟩; have k0 := zbA hb (a := ⟨w.heap.size, 0, none⟩) (v := .int .i64 a0_0) (by go_simp); have k1 := zbA hb (a := ⟨w.heap.size, 1, none⟩) (v := .string a0_1) (by go_simp); have HB := zaa.mk hb; clear hb)
        all_goals
          go_wp2_with fail
          go_ret
          exact ⟨by rw [HF.out]; rfl, zat (zcE (zac (Below.refl _ _) _)) HB.out⟩
theorem right_eq (kd : Int) (s : ByteArray) (x : Int) (hs : s.size ≤ 4000) : zc5.f kd s x = some (zcB kd (toL s)) := by unfold zc5.f; rw [if_pos hs]
theorem zi2 (kd : Int) (s : ByteArray) (x : Int) (hs : s.size ≤ 4000) : zbt.f kd s x = some (zcB kd (toL s)) := by unfold zbt.f; rw [if_pos hs]
end Go.Proofs.YtbicjgaadknmfaaDoor.P
end
section
namespace Go.Proofs.YtbicjgaadknmfaaDoor.P
open Go.RowKit Go.Proofs.YtbicjgaadknmfaaDoorW.PrintWords Go.Proofs.YtbicjgaadknmfaaDoorW.PrintLast Go.Proofs.YtbicjgaadknmfaaDoorW.PrintMore
attribute [local go_sem] zcu zcp zcl zck zbZ zbX zb9 zb7
set_option linter.unusedVariables false
set_option linter.unusedSimpArgs false
def zcf.f (a0 : ByteArray) : Option (Bool) := if a0.toList = ([116] : List UInt8) then (some false) else (if a0.toList = ([121] : List UInt8) then (some false) else (if a0.toList = ([112] : List UInt8) then (some false) else (if a0.toList = ([108, 101, 116] : List UInt8) then (some false) else ((zc5.f 2 a0 0).bind fun t207 => (some t207)))))
set_option maxHeartbeats 8000000 in
set_option maxRecDepth 100000 in
theorem zcf.calls (a0 : ByteArray) (r : Bool) (w : World) (h : zcf.f a0 = some r) :
  Calls Tryd.prog 35 #[.string a0] w fun e w' => e = .returned (.bool r) ∧ Below w.heap.size w w' := by
 have hu134 := Tryd.underlying134
 have HB := zaa.mk (Below.refl w.heap.size w)
 have H : (if a0.toList = ([116] : List UInt8) then (some false) else (if a0.toList = ([121] : List UInt8) then (some false) else (if a0.toList = ([112] : List UInt8) then (some false) else (if a0.toList = ([108, 101, 116] : List UInt8) then (some false) else ((zc5.f 2 a0 0).bind fun t207 => (some t207)))))) = some r := h
 clear h
 by_cases c2 : a0.toList = ([116] : List UInt8)
 ·rw [if_pos c2] at H
  have c2b0 : (a0.toList == ([116] : List UInt8)) = true := beq_iff_eq.mpr c2
  have c2b1 : (a0.toList != ([116] : List UInt8)) = false := bne_eq_false_iff_eq.mpr c2
  clear c2
  obtain rfl := Option.some.inj H
  go_enter Tryd.func35, Tryd.ntmps35
  go_wp2
  go_ret
  exact ⟨by first | rfl | (simp [zam, zan] <;> rfl) | (simp [*, zam, zan] <;> rfl), by repeat (first | (with_reducible first | exact HB.out | apply zac | apply zab | apply zad) | exact HB.out)⟩
 ·rw [if_neg c2] at H
  have c2b0 : (a0.toList == ([116] : List UInt8)) = false := beq_eq_false_iff_ne.mpr c2
  have c2b1 : (a0.toList != ([116] : List UInt8)) = true := bne_iff_ne.mpr c2
  by_cases c3 : a0.toList = ([121] : List UInt8)
  ·rw [if_pos c3] at H
   have c3b0 : (a0.toList == ([121] : List UInt8)) = true := beq_iff_eq.mpr c3
   have c3b1 : (a0.toList != ([121] : List UInt8)) = false := bne_eq_false_iff_eq.mpr c3
   clear c3
   obtain rfl := Option.some.inj H
   go_enter Tryd.func35, Tryd.ntmps35
   go_wp2
   go_ret
   exact ⟨by first | rfl | (simp [zam, zan] <;> rfl) | (simp [*, zam, zan] <;> rfl), by repeat (first | (with_reducible first | exact HB.out | apply zac | apply zab | apply zad) | exact HB.out)⟩
  ·rw [if_neg c3] at H
   have c3b0 : (a0.toList == ([121] : List UInt8)) = false := beq_eq_false_iff_ne.mpr c3
   have c3b1 : (a0.toList != ([121] : List UInt8)) = true := bne_iff_ne.mpr c3
   by_cases c4 : a0.toList = ([112] : List UInt8)
   ·rw [if_pos c4] at H
    have c4b0 : (a0.toList == ([112] : List UInt8)) = true := beq_iff_eq.mpr c4
    have c4b1 : (a0.toList != ([112] : List UInt8)) = false := bne_eq_false_iff_eq.mpr c4
    clear c4
    obtain rfl := Option.some.inj H
    go_enter Tryd.func35, Tryd.ntmps35
    go_wp2
    go_ret
    exact ⟨by first | rfl | (simp [zam, zan] <;> rfl) | (simp [*, zam, zan] <;> rfl), by repeat (first | (with_reducible first | exact HB.out | apply zac | apply zab | apply zad) | exact HB.out)⟩
   ·rw [if_neg c4] at H
    have c4b0 : (a0.toList == ([112] : List UInt8)) = false := beq_eq_false_iff_ne.mpr c4
    have c4b1 : (a0.toList != ([112] : List UInt8)) = true := bne_iff_ne.mpr c4
    by_cases c5 : a0.toList = ([108, 101, 116] : List UInt8)
    ·rw [if_pos c5] at H
     have c5b0 : (a0.toList == ([108, 101, 116] : List UInt8)) = true := beq_iff_eq.mpr c5
     have c5b1 : (a0.toList != ([108, 101, 116] : List UInt8)) = false := bne_eq_false_iff_eq.mpr c5
     clear c5
     obtain rfl := Option.some.inj H
     go_enter Tryd.func35, Tryd.ntmps35
     go_wp2
     go_ret
     exact ⟨by first | rfl | (simp [zam, zan] <;> rfl) | (simp [*, zam, zan] <;> rfl), by repeat (first | (with_reducible first | exact HB.out | apply zac | apply zab | apply zad) | exact HB.out)⟩
    ·rw [if_neg c5] at H
     have c5b0 : (a0.toList == ([108, 101, 116] : List UInt8)) = false := beq_eq_false_iff_ne.mpr c5
     have c5b1 : (a0.toList != ([108, 101, 116] : List UInt8)) = true := bne_iff_ne.mpr c5
     replace H := Option.bind_eq_some_iff.mp H
     obtain ⟨t207, A60, H⟩ := H
     replace H : (some t207) = some r := H
     have A6 := zaa.mk A60
     clear A60
     obtain rfl := Option.some.inj H
     go_enter Tryd.func35, Tryd.ntmps35
     go_wp2_with (first | ((with_reducible refine zaI (f := 83) rfl ?_); refine za5 (some 11) rfl rfl Tryd.func83 (by kernel_rfl) rfl #[.agg #[.int .i64 2, .string a0, .int .i64 0]] rfl (by (try simp only [List.map_toArray, List.map_cons, List.map_nil]); first | done | rfl | (simp only [List.length_drop, List.length_take]; rfl)) ?_; (with_reducible refine (zc5.calls 2 a0 0 t207 _ A6.out).mono ?_); rintro e w7 ⟨rfl, hb⟩; refine ⟨_, rfl, ?_⟩; have n0_ := zaa.mk (zat (by repeat (first | (with_reducible first | exact HB.out | apply zac | apply zab | apply zad) | exact HB.out)) hb); clear HB; have HB := n0_; clear n0_; (try clear hb); (try clear hb2); (try clear hk); (try clear hi)))
     go_ret
     exact ⟨by first | rfl | (simp [zam, zan] <;> rfl) | (simp [*, zam, zan] <;> rfl), by repeat (first | (with_reducible first | exact HB.out | apply zac | apply zab | apply zad) | exact HB.out)⟩
def zaW.l0 : Nat → List (S60) → List (S60) → Int → Int → Option ((List (S60)))
 | 0, _, _, _, _ => none
 | k + 1, x3, x6, x7, x8 => if x8 < x7 then (if 0 ≤ x8 then (if x8 < (x6.length : Int) then (if ([] : List Int).length + ((zaQ x6 x8).f2).length < 35184372088832 then (if x3.length < 3518437208883 then (zaW.l0 k (x3 ++ [(⟨(zaQ x6 x8).f0, (zaQ x6 x8).f1, (([] : List Int) ++ ((zaQ x6 x8).f2))⟩ : S60)]) x6 x7 (wrap64 (x8 + 1))) else (none)) else (none)) else (none)) else (none)) else (some x3)
def zaW.f (k : Nat) (l0 : List (S60)) : Option ((List (S60))) := zaW.l0 k ([] : List (S60)) l0 (l0.length : Int) 0
theorem zaW.zaV : ∀ k, (∀ y0 y1 y2 y3, LeO (zaW.l0 k y0 y1 y2 y3) (zaW.l0 (k + 1) y0 y1 y2 y3))
 | 0 => fun _ _ _ _ r h => by simp [zaW.l0] at h
 | k + 1 => by
  have ih0 := zaW.zaV k
  ·intro y0 y1 y2 y3
   unfold zaW.l0
   repeat' first
   | (with_reducible exact ih0 _ _ _ _)
   | (with_reducible exact LeO.refl _)
   | (with_reducible exact LeO.none _)
   | (with_reducible refine LeO.ite ?_ ?_)
   | (with_reducible refine LeO.bind ?_ (fun _ => ?_))
   | exact ih0 _ _ _ _
   | exact LeO.none _
   | refine LeO.ite ?_ ?_
   | refine LeO.bind ?_ (fun _ => ?_)
theorem zaW.mono : ∀ a0 k, LeO (zaW.f k a0) (zaW.f (k + 1) a0) := by
 intro a0 k
 have ih0 := zaW.zaV k
 unfold zaW.f
 repeat' first
   | (with_reducible exact ih0 _ _ _ _)
   | (with_reducible exact LeO.refl _)
   | (with_reducible exact LeO.none _)
   | (with_reducible refine LeO.ite ?_ ?_)
   | (with_reducible refine LeO.bind ?_ (fun _ => ?_))
   | exact ih0 _ _ _ _
   | exact LeO.none _
   | refine LeO.ite ?_ ?_
   | refine LeO.bind ?_ (fun _ => ?_)
def zaW.T5 : Bool × List (List Nat × List Nat) := (true, [([], []), ([], []), ([1], [1]), ([], []), ([3], [3]), ([], []), ([5], [5]), ([6], [6]), ([2, 4, 7], [2, 4, 7]), ([8], [8]), ([0, 9, 7], [0, 9]), ([10, 10, 0, 1, 2, 3, 4, 5, 6, 7, 8, 9, 10], [0, 10])])
def zaW.B5 : List Nat := [0, 0, 2, 0, 8, 0, 32, 96, 254, 510, 1023, 2047]
theorem zaW.tab5 : rtab .any (opsOf Tryd.f85 5) = zaW.T5 := by kernel_rfl
theorem zaW.zgo : zc2 zaW.T5.2 zaW.B5 = true := by kernel_rfl
set_option maxHeartbeats 8000000 in
set_option maxRecDepth 100000 in
theorem zaW.calls (k : Nat) (A0 : Option Addr) (c0 : Nat) (l0 : List (S60)) (r : List (S60)) (w : World) (hr0 : Kd.C k60 w A0 l0.length l0) (hc0 : l0.length ≤ c0) (h : zaW.f k l0 = some r) :
  Calls Tryd.prog 85 #[.slice A0 l0.length c0] w fun e w' => ∃ v0_ : Value, e = .returned (v0_) ∧ Kd.S k60 60 w' w.heap.size (fun _ => True) v0_ r ∧ Below w.heap.size w w' := by
 have hu60 := Tryd.underlying60
 have HR0 := zaa.mk hr0
 have HC0 := zaa.mk hc0
 clear hr0 hc0
 have HB := zaa.mk (Below.refl w.heap.size w)
 have H : (zaW.l0 k ([] : List (S60)) l0 (l0.length : Int) 0) = some r := h
 clear h
 have H' := zaa.mk H
 clear H
 go_enter Tryd.func85, Tryd.ntmps85
 go_wp2
 go_loopg [3, 8] k (fun kq v3 v8 w' => ∃ (x3_1 : List (S60)) (x8_1 : Int), v8 = .int .i64 x8_1 ∧ zaa (zaW.l0 kq x3_1 l0 (l0.length : Int) x8_1 = some r) ∧ zaa (kq ≤ k) ∧ zaa (Kd.S k60 60 w' w.heap.size (fun _ => True) v3 x3_1) ∧ zaa (Below w.heap.size w w'))
 case atStart => exact ⟨(([] : List (S60))), (0), (by first | rfl | (simp; done) | (simp [*]; done)), H', ⟨Nat.le_refl _⟩, ⟨by first | exact Kd.zeu _ _ _ _ _ | exact Kd.zet _ _ _ _ _ | exact Kd.zer _ _ _ _ _ | exact Kd.zew _ _ _ _ _ | exact Kd.zdg _ _ _ _ _⟩, ⟨by repeat (first | (with_reducible first | exact HB.out | apply zac | apply zab | apply zad) | exact HB.out)⟩⟩
 case round =>
  clear H'
  obtain ⟨x3_1, x8_1, rfl, HA, HK1, HO_3, HB⟩ := hrel
  cases gk with
  | zero => exact absurd HA.out (by simp [zaW.l0])
  | succ k1 =>
   have H := HA.out
   clear HA
   simp only [zaW.l0] at H
   by_cases c2 : x8_1 < (l0.length : Int)
   ·rw [if_pos c2] at H
    have c2b0 : decide (x8_1 < (l0.length : Int)) = true := decide_eq_true c2
    clear c2
    by_cases c3 : 0 ≤ x8_1
    ·rw [if_pos c3] at H
     have c3b0 : decide (0 ≤ x8_1) = true := decide_eq_true c3
     clear c3
     by_cases c4 : x8_1 < (l0.length : Int)
     ·rw [if_pos c4] at H
      have c4b0 : decide (x8_1 < (l0.length : Int)) = true := decide_eq_true c4
      clear c4
      by_cases c5 : ([] : List Int).length + ((zaQ l0 x8_1).f2).length < 35184372088832
      ·rw [if_pos c5] at H
       have LMc5 := zaa.mk c5
       clear c5
       obtain ⟨y210, hy210⟩ : ∃ y_ : List Int, y_ = (([] : List Int) ++ ((zaQ l0 x8_1).f2)) := ⟨_, rfl⟩
       replace H : (if x3_1.length < 3518437208883 then (zaW.l0 k1 (x3_1 ++ [(⟨(zaQ l0 x8_1).f0, (zaQ l0 x8_1).f1, y210⟩ : S60)]) l0 (l0.length : Int) (wrap64 (x8_1 + 1))) else (none)) = some r := by first | (rw [hy210]; with_reducible exact H) | (have H2_ := (Option.bind_some _ _).symm.trans H; rw [hy210]; with_reducible exact H2_) | (have H2_ := (Option.bind_some _ _).symm.trans H; with_reducible exact H2_) | with_reducible exact H | (rw [hy210]; exact H) | exact H
       have Ny210 := zaa.mk hy210
       clear hy210
       by_cases c6 : x3_1.length < 3518437208883
       ·rw [if_pos c6] at H
        have LMc6 := zaa.mk c6
        clear c6
        obtain ⟨y213, hy213⟩ : ∃ y_ : List (S60), y_ = (x3_1 ++ [(⟨(zaQ l0 x8_1).f0, (zaQ l0 x8_1).f1, y210⟩ : S60)]) := ⟨_, rfl⟩
        replace H : (zaW.l0 k1 y213 l0 (l0.length : Int) (wrap64 (x8_1 + 1))) = some r := by first | (rw [hy213]; with_reducible exact H) | (have H2_ := (Option.bind_some _ _).symm.trans H; rw [hy213]; with_reducible exact H2_) | (have H2_ := (Option.bind_some _ _).symm.trans H; with_reducible exact H2_) | with_reducible exact H | (rw [hy213]; exact H) | exact H
        have Ny213 := zaa.mk hy213
        clear hy213
        have H' := zaa.mk H
        clear H
        have p208 : 0 ≤ (x8_1 : Int) := of_decide_eq_true (by first | (with_reducible assumption) | assumption)
        have q208 : x8_1 < (l0.length : Int) := of_decide_eq_true (by first | (with_reducible assumption) | assumption)
        obtain ⟨ad208, A208_2, c208_2, e208, hx208_0, hx208_1, hx208_2, hl208_2, hi208_2⟩ := zdV HR0.out x8_1 p208 q208
        cases e208
        replace hx208_0 := (HB.out.cell (World.block_lt_of_cell? w _ hx208_0)).trans hx208_0
        replace hx208_1 := (HB.out.cell (World.block_lt_of_cell? w _ hx208_1)).trans hx208_1
        replace hx208_2 := (HB.out.cell (World.block_lt_of_cell? w _ hx208_2)).trans hx208_2
        have HR208_2 := zaa.mk hi208_2
        have HC208_2 := zaa.mk hl208_2
        clear hi208_2 hl208_2
        replace p208 := eq_true p208
        replace q208 := eq_true q208
        try go_wp2_with (first | ((with_reducible refine zba (N := 5) rfl ?_); refine za6 ?hg (N := 5) ?hd (cs := #[.int .i64 0, .int .i64 0, .slice none 0 0]) (t := 60) ?hr ?_; (case hd => rfl); (case hg => rfl); (case hr => first | (go_simp; done) | (go_simp; rfl)); intro gb209 hg w7 hbox hb; have n0_ := zaa.mk (Kd.zfL (Kd.zjK (by (with_reducible repeat (first | apply Kd.zd9 | apply Kd.zeb | apply Kd.zeg)); exact HO_3.out) gb209 (Nat.le_of_eq hg.symm)) hb); have n1_ := zaa.mk (zat (by repeat (first | (with_reducible first | exact HB.out | apply zac | apply zab | apply zad) | exact HB.out)) hb); have n2_ := zaa.mk (hbox); have n3_ := zaa.mk ((by rw [hg]; exact (zas (by repeat (first | (with_reducible first | exact HB.out | apply zac | apply zab | apply zad) | exact HB.out))) : w.heap.size ≤ gb209)); have n4_ := zaa.mk ((by rw [hg]; exact (zas (by repeat (first | (with_reducible first | exact HB.out | apply zac | apply zab | apply zad) | exact HB.out))) : w.heap.size ≤ gb209)); clear HO_3; clear HB; have HO_3 := n0_; have HB := n1_; have BK209 := n2_; have GW209 := n3_; have GE209 := n4_; clear n0_ n1_ n2_ n3_ n4_; clear hb hbox hg; have hcz8_0 : w7.cell? ⟨gb209, 0, none⟩ = some (.int .i64 0) := (zaj BK209.out 0).trans rfl; have hcz8_1 : w7.cell? ⟨gb209, 1, none⟩ = some (.int .i64 0) := (zaj BK209.out 1).trans rfl; have hcz8_2 : w7.cell? ⟨gb209, 2, none⟩ = some (.slice none 0 0) := (zaj BK209.out 2).trans rfl; have hfz8_0 := zak BK209.out 0; have hfz8_1 := zak BK209.out 1; have hfz8_2 := zak BK209.out 2))
        have n0_ : zaa (Kd.S k60 60 (((w7.setCell ⟨gb209, 0, none⟩ (.int .i64 ((zaQ l0 x8_1).f0))).setCell ⟨gb209, 1, none⟩ (.int .i64 ((zaQ l0 x8_1).f1))).setCell ⟨gb209, 2, none⟩ (.slice A208_2 ((zaQ l0 x8_1).f2).length c208_2)) w.heap.size (fun k_ => k_ ≠ gb209) u3 x3_1) := ⟨by (with_reducible repeat (first | apply Kd.zd9 | apply Kd.zeb | apply Kd.zeg)); exact Kd.zeo (Kd.ziU (p := ⟨gb209, 2, none⟩) (Kd.ziU (p := ⟨gb209, 1, none⟩) (Kd.ziU (p := ⟨gb209, 0, none⟩) (Kd.zeo HO_3.out (fun k_ hk => (⟨hk, hk.2⟩ : _ ∧ k_ ≠ gb209))) (fun _ hk => hk.2) (.int .i64 ((zaQ l0 x8_1).f0))) (fun _ hk => hk.2) (.int .i64 ((zaQ l0 x8_1).f1))) (fun _ hk => hk.2) (.slice A208_2 ((zaQ l0 x8_1).f2).length c208_2)) (fun _ hk => hk.1.2)⟩
        have n1_ : zaa ((((w7.setCell ⟨gb209, 0, none⟩ (.int .i64 ((zaQ l0 x8_1).f0))).setCell ⟨gb209, 1, none⟩ (.int .i64 ((zaQ l0 x8_1).f1))).setCell ⟨gb209, 2, none⟩ (.slice A208_2 ((zaQ l0 x8_1).f2).length c208_2)).heap[gb209]? = some (.cells #[.int .i64 ((zaQ l0 x8_1).f0), .int .i64 ((zaQ l0 x8_1).f1), .slice A208_2 ((zaQ l0 x8_1).f2).length c208_2] 60 (0, 0))) := ⟨by (with_reducible repeat (first | refine zaf ?_ _ | refine zai ?_ | refine zae ?_ _)); refine zaT (cs := #[.int .i64 ((zaQ l0 x8_1).f0), .int .i64 ((zaQ l0 x8_1).f1), .slice none 0 0]) ?_ 2 _ rfl; (with_reducible repeat (first | refine zaf ?_ _ | refine zai ?_ | refine zae ?_ _)); refine zaT (cs := #[.int .i64 ((zaQ l0 x8_1).f0), .int .i64 0, .slice none 0 0]) ?_ 1 _ rfl; (with_reducible repeat (first | refine zaf ?_ _ | refine zai ?_ | refine zae ?_ _)); refine zaT (cs := #[.int .i64 0, .int .i64 0, .slice none 0 0]) ?_ 0 _ rfl; (with_reducible repeat (first | refine zaf ?_ _ | refine zai ?_ | refine zae ?_ _)); exact BK209.out⟩
        have n2_ : zaa (Below w.heap.size w (((w7.setCell ⟨gb209, 0, none⟩ (.int .i64 ((zaQ l0 x8_1).f0))).setCell ⟨gb209, 1, none⟩ (.int .i64 ((zaQ l0 x8_1).f1))).setCell ⟨gb209, 2, none⟩ (.slice A208_2 ((zaQ l0 x8_1).f2).length c208_2))) := ⟨by repeat (first | (with_reducible first | exact HB.out | apply zac | apply zab | apply zad | refine zah ?_ GE209.out) | exact HB.out)⟩
        (try clear HO_3)
        (try clear BK209)
        (try clear HB)
        generalize (((w7.setCell ⟨gb209, 0, none⟩ (.int .i64 ((zaQ l0 x8_1).f0))).setCell ⟨gb209, 1, none⟩ (.int .i64 ((zaQ l0 x8_1).f1))).setCell ⟨gb209, 2, none⟩ (.slice A208_2 ((zaQ l0 x8_1).f2).length c208_2)) = w9 at n0_ n1_ n2_ ⊢
        have HO_3 := n0_
        have BK209 := n1_
        have HB := n2_
        clear n0_ n1_ n2_
        have n0_ := zaa.mk (Kd.zeg HO_3.out)
        have n1_ := zaa.mk (zai BK209.out)
        have n2_ := zaa.mk (zad HB.out)
        clear HO_3
        clear BK209
        clear HB
        have HO_3 := n0_
        have BK209 := n1_
        have HB := n2_
        clear n0_ n1_ n2_
        refine zdq (n := 12) (S := fun w' => w'.cell? ⟨gb209, 0, none⟩ = some (.int .i64 ((zaQ l0 x8_1).f0)) ∧ w'.cell? ⟨gb209, 1, none⟩ = some (.int .i64 ((zaQ l0 x8_1).f1)) ∧ w'.cell? ⟨gb209, 2, none⟩ = some (.slice A208_2 ((zaQ l0 x8_1).f2).length c208_2)) (ds := []) #[false, false, false, false, false, false, false, false, false, false, false, false] (by kernel_rfl) rfl rfl ⟨(zaj BK209.out 0).trans rfl, (zaj BK209.out 1).trans rfl, (zaj BK209.out 2).trans rfl⟩ (fun hHeld => ?_); refine zcF zaW.tab5 zaW.zgo (fun HT_ HW_ => ?_)
        generalize w9.drew = w10 at HO_3 BK209 HB hHeld ⊢
        refine zaR (i := 0) (N := some 12) (v := ?_) (a' := ?_) #[true, false, false, false, false, false, false, false, false, false, false, false] rfl rfl (zaL HT_.out (by kernel_rfl)) (fun _ _ _ h => h) (Or.inl ⟨by rfl, ?_⟩) ?_ ?_
        rotate_left
        ·intro w'
         go_simp
         with_reducible rfl
        rotate_left
        ·simp only [Act.put, List.setIfInBounds_toArray, List.set_cons_zero, List.set_cons_succ, zaC, zaD]
         rfl
        refine zaR (i := 1) (N := some 13) (v := ?_) (a' := ?_) #[true, true, false, false, false, false, false, false, false, false, false, false] rfl rfl (zaL HT_.out (by kernel_rfl)) (fun _ _ _ h => h) (Or.inl ⟨by rfl, ?_⟩) ?_ ?_
        rotate_left
        ·intro w'
         go_simp
         with_reducible rfl
        rotate_left
        ·simp only [Act.put, List.setIfInBounds_toArray, List.set_cons_zero, List.set_cons_succ, zaC, zaD]
         rfl
        refine zaR (i := 3) (N := some 15) (v := ?_) (a' := ?_) #[true, true, false, true, false, false, false, false, false, false, false, false] rfl rfl (zaL HT_.out (by kernel_rfl)) (fun _ _ _ h => h) (Or.inl ⟨by rfl, ?_⟩) ?_ ?_
        rotate_left
        ·intro w'
         go_simp
         with_reducible rfl
        rotate_left
        ·simp only [Act.put, List.setIfInBounds_toArray, List.set_cons_zero, List.set_cons_succ, zaC, zaD]
         rfl
        refine zaR (i := 5) (N := some 17) (v := ?_) (a' := ?_) #[true, true, false, true, false, true, false, false, false, false, false, false] rfl rfl (zaL HT_.out (by kernel_rfl)) (fun _ _ _ h => h) (Or.inl ⟨by rfl, ?_⟩) ?_ ?_
        rotate_left
        ·intro w'
         go_simp
         with_reducible rfl
        rotate_left
        ·simp only [Act.put, List.setIfInBounds_toArray, List.set_cons_zero, List.set_cons_succ, zaC, zaD]
         rfl
        refine zbW (i := 2) (N := some 14) (v := ?_) (a' := ?_) #[true, true, true, true, false, true, false, false, false, false, false, false] rfl rfl (zbC HT_.out HW_.out (by kernel_rfl)) (fun _ _ _ h => h) (Or.inl ⟨by rfl, ?_⟩) hHeld ?_ ?_
        rotate_left
        ·rintro w' ⟨s0, s1, s2⟩
         go_simp
         with_reducible rfl
        rotate_left
        ·simp only [Act.put, List.setIfInBounds_toArray, List.set_cons_zero, List.set_cons_succ, zaC, zaD]
         rfl
        refine zbW (i := 4) (N := some 16) (v := ?_) (a' := ?_) #[true, true, true, true, true, true, false, false, false, false, false, false] rfl rfl (zbC HT_.out HW_.out (by kernel_rfl)) (fun _ _ _ h => h) (Or.inl ⟨by rfl, ?_⟩) hHeld ?_ ?_
        rotate_left
        ·rintro w' ⟨s0, s1, s2⟩
         go_simp
         with_reducible rfl
        rotate_left
        ·simp only [Act.put, List.setIfInBounds_toArray, List.set_cons_zero, List.set_cons_succ, zaC, zaD]
         rfl
        refine zbW (i := 6) (N := some 18) (v := ?_) (a' := ?_) #[true, true, true, true, true, true, true, false, false, false, false, false] rfl rfl (zbC HT_.out HW_.out (by kernel_rfl)) (fun _ _ _ h => h) (Or.inl ⟨by rfl, ?_⟩) hHeld ?_ ?_
        rotate_left
        ·rintro w' ⟨s0, s1, s2⟩
         go_simp
         with_reducible rfl
        rotate_left
        ·simp only [Act.put, List.setIfInBounds_toArray, List.set_cons_zero, List.set_cons_succ, zaC, zaD]
         rfl
        refine one_ (i := 7) (N := some 19) #[true, true, true, true, true, true, true, true, false, false, false, false] rfl rfl (zcd HT_.out (by kernel_rfl)) (by decide) (fun K hK => ?_)
        refine Kd.zdU (Kd.int .u32) (w0 := w) w.heap.size (by rfl) (.const (.slice none 0 0)) (.tmp 18) 23 101 (.int .u32 0) 4 rfl Tryd.underlying23 zea rfl (by decide) (by omega) (.slice none 0 0) ([] : List Int) ((zaQ l0 x8_1).f2) _ _ _ (fun _ => True) (fun _ => False) rfl rfl ?aO ?aR (fun _ _ h => h) (fun _ h => h.elim) ?aF ?aB ?aS ?aL ?_
        (case aR => repeat (first | exact (Kd.za1 HR208_2.out HB.out) | (with_reducible refine Kd.zaU ?_ _) | (with_reducible refine Kd.zaY ?_ _) | (with_reducible refine Kd.za3 ?_)))
        (case aB => exact (by repeat (first | (with_reducible first | exact HB.out | apply zac | apply zab | apply zad | refine zah ?_ GE209.out) | exact HB.out)))
        (case aF => exact (fun _ _ => trivial))
        (case aO => exact ((Kd.zdg _ _ _ _ (fun _ => True))))
        (case aS => exact (zas (by repeat (first | (with_reducible first | exact HB.out | apply zac | apply zab | apply zad | refine zah ?_ GE209.out) | exact HB.out))))
        (case aL => have := LMc5.out; omega)
        intro v211 w11 ho hb hg hat
        rw [← Ny210.out] at ho
        have n0_ := zaa.mk (Kd.zkE (Kd.zh3 (by (with_reducible repeat (first | apply Kd.zd9 | apply Kd.zeb | apply Kd.zeg)); exact HO_3.out)) hg hat)
        have n1_ := zaa.mk (zbm (g := gb209) (o := .cells #[.int .i64 ((zaQ l0 x8_1).f0), .int .i64 ((zaQ l0 x8_1).f1), .slice A208_2 ((zaQ l0 x8_1).f2).length c208_2] 60 (0, 0)) (by (with_reducible repeat (first | refine zaf ?_ _ | refine zai ?_ | refine zae ?_ _)); exact BK209.out) hg (by simp [Value.ownBlock]))
        have n2_ := zaa.mk (hb)
        have n3_ := zaa.mk (ho)
        clear HO_3
        clear BK209
        clear HB
        have HO_3 := n0_
        have BK209 := n1_
        have HB := n2_
        have HO212 := n3_
        clear n0_ n1_ n2_ n3_
        clear ho hb hg hat
        obtain ⟨Ao12, co12, eo12⟩ := Kd.zbO HO212.out
        (first | subst eo12 | (injection eo12 with f1_ f2_ f3_; have f4_ := f1_.symm; have f5_ := f3_.symm; clear f1_ f2_ f3_; subst f4_; subst f5_))
        refine hK.out _ _ ⟨(zaj BK209.out 0).trans rfl, (zaj BK209.out 1).trans rfl, (zaj BK209.out 2).trans rfl⟩ (fun hHeld => ?_)
        clear hK K
        refine zcY (a' := ?_) ?_ ?_
        rotate_left
        ·show Act.put _ (some 19) _ = _
         simp only [Act.put, List.setIfInBounds_toArray, List.set_cons_zero, List.set_cons_succ, zaC, zaD]
         rfl
        refine zaR (i := 8) (N := some 20) (v := ?_) (a' := ?_) #[true, true, true, true, true, true, true, true, true, false, false, false] rfl rfl (zaL HT_.out (by kernel_rfl)) (fun _ _ _ h => h) (Or.inl ⟨by rfl, ?_⟩) ?_ ?_
        rotate_left
        ·intro w'
         go_simp
         with_reducible rfl
        rotate_left
        ·simp only [Act.put, List.setIfInBounds_toArray, List.set_cons_zero, List.set_cons_succ, zaC, zaD]
         rfl
        refine one_ (i := 9) (N := some 21) #[true, true, true, true, true, true, true, true, true, true, false, false] rfl rfl (zcd HT_.out (by kernel_rfl)) (by decide) (fun K hK => ?_)
        refine zgv (w1 := ?_) (v := ?_) (by rfl) rfl ?_ ?_
        rotate_left 2
        ·go_simp
         constructor
         ·rfl
         ·rfl
        refine hK.out _ _ ⟨(zaj (zae BK209.out _) 0).trans rfl, (zaj (zae BK209.out _) 1).trans rfl, (zaj (zae BK209.out _) 2).trans rfl⟩ (fun hHeld => ?_)
        clear hK K
        refine zcY (a' := ?_) ?_ ?_
        rotate_left
        ·show Act.put _ (some 21) _ = _
         simp only [Act.put, List.setIfInBounds_toArray, List.set_cons_zero, List.set_cons_succ, zaC, zaD]
         rfl
        refine one_ (i := 10) (N := some 22) #[true, true, true, true, true, true, true, true, true, true, true, false] rfl rfl (zcd HT_.out (by kernel_rfl)) (by decide) (fun K hK => ?_)
        refine Kd.zg9 k60 (w0 := w) w.heap.size (by rfl) (.tmp 12) (.tmp 21) 56 60 (.agg #[(.int .i64 0), (.int .i64 0), (.slice none 0 0)]) 40 rfl Tryd.underlying56 zju rfl (by decide) (by omega) u3 x3_1 (⟨(zaQ l0 x8_1).f0, (zaQ l0 x8_1).f1, y210⟩ : S60) [.int .i64 ((zaQ l0 x8_1).f0), .int .i64 ((zaQ l0 x8_1).f1), .slice Ao12 y210.length co12] (fun k_ => k_ ≠ gb209) (fun k_ => some k_ = (.slice Ao12 y210.length co12 : Value).ownBlock) rfl rfl ?aP (fun k_ hk_ => ((Kd.zb0 (ok' := fun k_ => ((fun k_ => k_ ≠ gb209)) k_ ∧ some k_ ≠ (u3 : Value).ownBlock) (Kd.zfC (Kd.ze2 (HO212.out) (Kd.zh7 HO_3.out) (by decide)) BK209.out (by decide)) (fun k_ hk => ⟨hk.2, hk.1.2⟩))).1 k_ hk_.symm) ?aF ?aO ?aB ?aS ?aL ?_
        (case aP => exact zk2 _ _ _ (⟨(zaQ l0 x8_1).f0, (zaQ l0 x8_1).f1, y210⟩ : S60) (Kd.zb0 (Kd.zfJ rfl (Kd.zb0 (ok' := fun k_ => ((fun k_ => k_ ≠ gb209)) k_ ∧ some k_ ≠ (u3 : Value).ownBlock) (Kd.zfC (Kd.ze2 (HO212.out) (Kd.zh7 HO_3.out) (by decide)) BK209.out (by decide)) (fun k_ hk => ⟨hk.2, hk.1.2⟩))) (fun _ h_ => h_)))
        (case aB => exact (by repeat (first | (with_reducible first | exact HB.out | apply zac | apply zab | apply zad | refine zah ?_ GE209.out) | exact HB.out)))
        (case aF => exact (fun k_ hk => Kd.zcn (g := gb209) (o := .cells #[.int .i64 ((zaQ l0 x8_1).f0), .int .i64 ((zaQ l0 x8_1).f1), .slice A208_2 ((zaQ l0 x8_1).f2).length c208_2] 60 (0, 0)) (by (with_reducible repeat (first | refine zaf ?_ _ | refine zai ?_ | refine zae ?_ _)); exact BK209.out) k_ hk))
        (case aO => exact (by (with_reducible repeat (first | apply Kd.zd9 | apply Kd.zeb | apply Kd.zeg)); exact Kd.zeo HO_3.out (fun k_ hk => ⟨hk.1, fun e_ => hk.2 e_⟩)))
        (case aS => exact (zas (by repeat (first | (with_reducible first | exact HB.out | apply zac | apply zab | apply zad | refine zah ?_ GE209.out) | exact HB.out))))
        (case aL => have := LMc6.out; omega)
        intro v214 w13 ho hb hg hat
        rw [← Ny213.out] at ho
        have n0_ := zaa.mk (zbm (g := gb209) (o := .cells #[.int .i64 ((zaQ l0 x8_1).f0), .int .i64 ((zaQ l0 x8_1).f1), .slice A208_2 ((zaQ l0 x8_1).f2).length c208_2] 60 (0, 0)) (by (with_reducible repeat (first | refine zaf ?_ _ | refine zai ?_ | refine zae ?_ _)); exact BK209.out) hg (Kd.zk9 HO_3.out (fun _ hk => hk.1)))
        have n1_ := zaa.mk (hb)
        have n2_ := zaa.mk (ho)
        clear BK209
        clear HB
        clear HO_3
        clear HO212
        have BK209 := n0_
        have HB := n1_
        have HO215 := n2_
        clear n0_ n1_ n2_
        clear ho hb hg hat
        refine hK.out _ _ ⟨(zaj BK209.out 0).trans rfl, (zaj BK209.out 1).trans rfl, (zaj BK209.out 2).trans rfl⟩ (fun hHeld => ?_)
        clear hK K
        refine zcY (a' := ?_) ?_ ?_
        rotate_left
        ·show Act.put _ (some 22) _ = _
         simp only [Act.put, List.setIfInBounds_toArray, List.set_cons_zero, List.set_cons_succ, zaC, zaD]
         rfl
        refine zaR (i := 11) (N := some 3) (v := ?_) (a' := ?_) #[true, true, true, true, true, true, true, true, true, true, true, true] rfl rfl (zaL HT_.out (by kernel_rfl)) (fun _ _ _ h => h) (Or.inl ⟨by rfl, ?_⟩) ?_ ?_
        rotate_left
        ·intro w'
         go_simp
         with_reducible rfl
        rotate_left
        ·simp only [Act.put, List.setIfInBounds_toArray, List.set_cons_zero, List.set_cons_succ, zaC, zaD]
         rfl
        refine zdM (zde HT_.out (by kernel_rfl)) ?_
        try go_wp2
        go_roundg k1
        case measure => have := HK1.out; omega
        case rel => exact ⟨(y213), (wrap64 (x8_1 + 1)), (by first | rfl | (simp; done) | (simp [*]; done)), H', ⟨by have := HK1.out; omega⟩, ⟨by (with_reducible repeat (first | apply Kd.zd9 | apply Kd.zeb | apply Kd.zeg)); exact Kd.zeo HO215.out (fun _ hk => trivial)⟩, ⟨by repeat (first | (with_reducible first | exact HB.out | apply zac | apply zab | apply zad | refine zah ?_ GE209.out) | exact HB.out)⟩⟩
       ·rw [if_neg c6] at H
        exact absurd H (by simp)
      ·rw [if_neg c5] at H
       exact absurd H (by simp)
     ·rw [if_neg c4] at H
      exact absurd H (by simp)
    ·rw [if_neg c3] at H
     exact absurd H (by simp)
   ·rw [if_neg c2] at H
    have c2b0 : decide (x8_1 < (l0.length : Int)) = false := decide_eq_false c2
    clear c2
    obtain rfl := Option.some.inj H
    go_wp2
    go_ret
    exact ⟨_, by first | rfl | (simp [zam, zan] <;> rfl) | (simp [*, zam, zan] <;> rfl), by (with_reducible repeat (first | apply Kd.zd9 | apply Kd.zeb | apply Kd.zeg)); exact HO_3.out, by repeat (first | (with_reducible first | exact HB.out | apply zac | apply zab | apply zad) | exact HB.out)⟩
mutual
def zaX.l0 : Nat → List (List (S60)) → List (S127) → Int → Int → List (S127) → List (List (S60)) → Option ((List (List (S60))))
 | 0, _, _, _, _, _, _ => none
 | k + 1, x3, x9, x10, x11, x217000, x217001 => if x11 < x10 then (if 0 ≤ x11 then (if x11 < (x9.length : Int) then ((zaW.f k ((zaS x9 x11).f1)).bind fun t219 => (if x3.length < 5864062014805 then (zaX.l0 k (x3 ++ [t219]) x9 x10 (wrap64 (x11 + 1)) x217000 x217001) else (none))) else (none)) else (none)) else (zaX.l1 k x3 x217001 (x217001.length : Int) 0)
def zaX.l1 : Nat → List (List (S60)) → List (List (S60)) → Int → Int → Option ((List (List (S60))))
 | 0, _, _, _, _ => none
 | k + 1, x3, x23, x24, x25 => if x25 < x24 then (if 0 ≤ x25 then (if x25 < (x23.length : Int) then ((zaW.f k (zcO x23 x25)).bind fun t226 => (if x3.length < 5864062014805 then (zaX.l1 k (x3 ++ [t226]) x23 x24 (wrap64 (x25 + 1))) else (none))) else (none)) else (none)) else (some x3)
end
def zaX.f (k : Nat) (l0_0 : List (S127)) (l0_1 : List (List (S60))) : Option ((List (List (S60)))) := zaX.l0 k ([] : List (List (S60))) l0_0 (l0_0.length : Int) 0 l0_0 l0_1
theorem zaX.zaV : ∀ k, (∀ y0 y1 y2 y3 y4 y5, LeO (zaX.l0 k y0 y1 y2 y3 y4 y5) (zaX.l0 (k + 1) y0 y1 y2 y3 y4 y5)) ∧ (∀ y0 y1 y2 y3, LeO (zaX.l1 k y0 y1 y2 y3) (zaX.l1 (k + 1) y0 y1 y2 y3))
 | 0 => ⟨fun _ _ _ _ _ _ r h => by simp [zaX.l0] at h, fun _ _ _ _ r h => by simp [zaX.l1] at h⟩
 | k + 1 => by
  obtain ⟨ih0, ih1⟩ := zaX.zaV k
  refine ⟨?_, ?_⟩
  ·intro y0 y1 y2 y3 y4 y5
   unfold zaX.l0
   repeat' first
   | (with_reducible exact ih0 _ _ _ _ _ _)
   | (with_reducible exact ih1 _ _ _ _)
   | (with_reducible exact zaW.mono _ _)
   | (with_reducible exact LeO.refl _)
   | (with_reducible exact LeO.none _)
   | (with_reducible refine LeO.ite ?_ ?_)
   | (with_reducible refine LeO.bind ?_ (fun _ => ?_))
   | exact ih0 _ _ _ _ _ _
   | exact ih1 _ _ _ _
   | exact zaW.mono _ _
   | exact LeO.none _
   | refine LeO.ite ?_ ?_
   | refine LeO.bind ?_ (fun _ => ?_)
  ·intro y0 y1 y2 y3
   unfold zaX.l1
   repeat' first
   | (with_reducible exact ih0 _ _ _ _ _ _)
   | (with_reducible exact ih1 _ _ _ _)
   | (with_reducible exact zaW.mono _ _)
   | (with_reducible exact LeO.refl _)
   | (with_reducible exact LeO.none _)
   | (with_reducible refine LeO.ite ?_ ?_)
   | (with_reducible refine LeO.bind ?_ (fun _ => ?_))
   | exact ih0 _ _ _ _ _ _
   | exact ih1 _ _ _ _
   | exact zaW.mono _ _
   | exact LeO.none _
   | refine LeO.ite ?_ ?_
   | refine LeO.bind ?_ (fun _ => ?_)
theorem zaX.mono : ∀ a0 a1 k, LeO (zaX.f k a0 a1) (zaX.f (k + 1) a0 a1) := by
 intro a0 a1 k
 obtain ⟨ih0, ih1⟩ := zaX.zaV k
 unfold zaX.f
 repeat' first
   | (with_reducible exact ih0 _ _ _ _ _ _)
   | (with_reducible exact ih1 _ _ _ _)
   | (with_reducible exact zaW.mono _ _)
   | (with_reducible exact LeO.refl _)
   | (with_reducible exact LeO.none _)
   | (with_reducible refine LeO.ite ?_ ?_)
   | (with_reducible refine LeO.bind ?_ (fun _ => ?_))
   | exact ih0 _ _ _ _ _ _
   | exact ih1 _ _ _ _
   | exact zaW.mono _ _
   | exact LeO.none _
   | refine LeO.ite ?_ ?_
   | refine LeO.bind ?_ (fun _ => ?_)
set_option maxHeartbeats 8000000 in
set_option maxRecDepth 100000 in
theorem zaX.calls (k : Nat) (A0_0 : Option Addr) (c0_0 : Nat) (l0_0 : List (S127)) (A0_1 : Option Addr) (c0_1 : Nat) (l0_1 : List (List (S60))) (r : List (List (S60))) (w : World) (hr0_0 : Kd.C k127 w A0_0 l0_0.length l0_0) (hc0_0 : l0_0.length ≤ c0_0) (hr0_1 : Kd.C (Kd.slice 60 k60) w A0_1 l0_1.length l0_1) (hc0_1 : l0_1.length ≤ c0_1) (h : zaX.f k l0_0 l0_1 = some r) :
  Calls Tryd.prog 37 #[.agg #[.slice A0_0 l0_0.length c0_0, .slice A0_1 l0_1.length c0_1]] w fun e w' => ∃ v0_ : Value, e = .returned (v0_) ∧ Kd.R (Kd.slice 60 k60) 56 w' w.heap.size (fun _ => True) v0_ r ∧ Below w.heap.size w w' := by
 have hu50 := Tryd.underlying50
 have hu127 := Tryd.underlying127
 have HR0_0 := zaa.mk hr0_0
 have HC0_0 := zaa.mk hc0_0
 clear hr0_0 hc0_0
 have HR0_1 := zaa.mk hr0_1
 have HC0_1 := zaa.mk hc0_1
 clear hr0_1 hc0_1
 have HB := zaa.mk (Below.refl w.heap.size w)
 have H : (zaX.l0 k ([] : List (List (S60))) l0_0 (l0_0.length : Int) 0 l0_0 l0_1) = some r := h
 clear h
 have H' := zaa.mk H
 clear H
 go_enter Tryd.func37, Tryd.ntmps37
 go_wp2_with (first | ((with_reducible refine zba (N := 1) rfl ?_); refine za6 ?hg (N := 1) ?hd (cs := #[.slice A0_0 l0_0.length c0_0, .slice A0_1 l0_1.length c0_1]) (t := 50) ?hr ?_; (case hd => rfl); (case hg => rfl); (case hr => first | (go_simp; done) | (go_simp; rfl)); intro gb216 hg w2 hbox hb; have n0_ := zaa.mk (zat (by repeat (first | (with_reducible first | exact HB.out | apply zac | apply zab | apply zad) | exact HB.out)) hb); have n1_ := zaa.mk (hbox); have n2_ := zaa.mk ((by rw [hg]; exact (zas (by repeat (first | (with_reducible first | exact HB.out | apply zac | apply zab | apply zad) | exact HB.out))) : w.heap.size ≤ gb216)); have n3_ := zaa.mk ((by rw [hg]; exact (zas (by repeat (first | (with_reducible first | exact HB.out | apply zac | apply zab | apply zad) | exact HB.out))) : w.heap.size ≤ gb216)); clear HB; have HB := n0_; have BK216 := n1_; have GW216 := n2_; have GE216 := n3_; clear n0_ n1_ n2_ n3_; clear hb hbox hg; have hcz3_0 : w2.cell? ⟨gb216, 0, none⟩ = some (.slice A0_0 l0_0.length c0_0) := (zaj BK216.out 0).trans rfl; have hcz3_1 : w2.cell? ⟨gb216, 1, none⟩ = some (.slice A0_1 l0_1.length c0_1) := (zaj BK216.out 1).trans rfl; have hfz3_0 := zak BK216.out 0; have hfz3_1 := zak BK216.out 1))
 go_loopg [3, 11] k (fun kq v3 v11 w' => ∃ (x3_1 : List (List (S60))) (x11_1 : Int), v11 = .int .i64 x11_1 ∧ zaa (zaX.l0 kq x3_1 l0_0 (l0_0.length : Int) x11_1 l0_0 l0_1 = some r) ∧ zaa (kq ≤ k) ∧ zaa (Kd.R (Kd.slice 60 k60) 56 w' w.heap.size (fun _ => True) v3 x3_1) ∧ zaa (w'.heap[gb216]? = some (.cells #[(.slice A0_0 l0_0.length c0_0), (.slice A0_1 l0_1.length c0_1)] 50 (0, 0))) ∧ zaa (Below w.heap.size w w'))
 case atStart => exact ⟨(([] : List (List (S60)))), (0), (by first | rfl | (simp; done) | (simp [*]; done)), H', ⟨Nat.le_refl _⟩, ⟨by first | exact Kd.zdg _ _ _ _ _ | exact Kd.zet _ _ _ _ _ | exact Kd.zer _ _ _ _ _ | exact Kd.zew _ _ _ _ _ | exact Kd.zeu _ _ _ _ _⟩, ⟨by (with_reducible repeat (first | refine zaf ?_ _ | refine zai ?_ | refine zae ?_ _)); exact BK216.out⟩, ⟨by repeat (first | (with_reducible first | exact HB.out | apply zac | apply zab | apply zad | refine zah ?_ GE216.out) | exact HB.out)⟩⟩
 case round =>
  clear H'
  try clear p2
  try clear c3
  try clear hcz3_0
  try clear hcz3_1
  try clear hfz3_0
  try clear hfz3_1
  obtain ⟨x3_1, x11_1, rfl, HA, HK1, HO_3, BK216, HB⟩ := hrel
  cases gk with
  | zero => exact absurd HA.out (by simp [zaX.l0])
  | succ k1 =>
   have H := HA.out
   clear HA
   simp only [zaX.l0] at H
   by_cases c4 : x11_1 < (l0_0.length : Int)
   ·rw [if_pos c4] at H
    have c4b0 : decide (x11_1 < (l0_0.length : Int)) = true := decide_eq_true c4
    clear c4
    by_cases c5 : 0 ≤ x11_1
    ·rw [if_pos c5] at H
     have c5b0 : decide (0 ≤ x11_1) = true := decide_eq_true c5
     clear c5
     by_cases c6 : x11_1 < (l0_0.length : Int)
     ·rw [if_pos c6] at H
      have c6b0 : decide (x11_1 < (l0_0.length : Int)) = true := decide_eq_true c6
      clear c6
      replace H := Option.bind_eq_some_iff.mp H
      obtain ⟨t219, A70, H⟩ := H
      replace H : (if x3_1.length < 5864062014805 then (zaX.l0 k1 (x3_1 ++ [t219]) l0_0 (l0_0.length : Int) (wrap64 (x11_1 + 1)) l0_0 l0_1) else (none)) = some r := H
      have A7 := zaa.mk A70
      clear A70
      by_cases c8 : x3_1.length < 5864062014805
      ·rw [if_pos c8] at H
       have LMc8 := zaa.mk c8
       clear c8
       obtain ⟨y222, hy222⟩ : ∃ y_ : List (List (S60)), y_ = (x3_1 ++ [t219]) := ⟨_, rfl⟩
       replace H : (zaX.l0 k1 y222 l0_0 (l0_0.length : Int) (wrap64 (x11_1 + 1)) l0_0 l0_1) = some r := by first | (rw [hy222]; with_reducible exact H) | (have H2_ := (Option.bind_some _ _).symm.trans H; rw [hy222]; with_reducible exact H2_) | (have H2_ := (Option.bind_some _ _).symm.trans H; with_reducible exact H2_) | with_reducible exact H | (rw [hy222]; exact H) | exact H
       have Ny222 := zaa.mk hy222
       clear hy222
       have H' := zaa.mk H
       clear H
       have p217 : 0 ≤ (x11_1 : Int) := of_decide_eq_true (by first | (with_reducible assumption) | assumption)
       have q217 : x11_1 < (l0_0.length : Int) := of_decide_eq_true (by first | (with_reducible assumption) | assumption)
       obtain ⟨ad217, A217_1, c217_1, e217, hx217_0, hx217_1, hl217_1, hi217_1⟩ := zef HR0_0.out x11_1 p217 q217
       cases e217
       replace hx217_0 := (HB.out.cell (World.block_lt_of_cell? w _ hx217_0)).trans hx217_0
       replace hx217_1 := (HB.out.cell (World.block_lt_of_cell? w _ hx217_1)).trans hx217_1
       have HR217_1 := zaa.mk hi217_1
       have HC217_1 := zaa.mk hl217_1
       clear hi217_1 hl217_1
       replace p217 := eq_true p217
       replace q217 := eq_true q217
       go_wp2_with (first | ((with_reducible refine zba (N := 5) rfl ?_); refine za6 ?hg (N := 5) ?hd (cs := #[.string (⟨#[]⟩ : ByteArray), .slice none 0 0]) (t := 127) ?hr ?_; (case hd => rfl); (case hg => rfl); (case hr => first | (go_simp; done) | (go_simp; rfl)); intro gb218 hg w9 hbox hb; have n0_ := zaa.mk (Kd.zcR (by (with_reducible repeat (first | apply Kd.zbo | apply Kd.zbl | apply Kd.zbz)); exact HO_3.out) hb); have n1_ := zaa.mk (zaM (g := gb216) (o := .cells #[.slice (some ad217) l0_0.length c0_0, .slice A0_1 l0_1.length c0_1] 50 (0, 0)) (by (with_reducible repeat (first | refine zaf ?_ _ | refine zai ?_ | refine zae ?_ _)); exact BK216.out) hb); have n2_ := zaa.mk (zat (by repeat (first | (with_reducible first | exact HB.out | apply zac | apply zab | apply zad | refine zah ?_ GE216.out) | exact HB.out)) hb); have n3_ := zaa.mk (hbox); have n4_ := zaa.mk ((by rw [hg]; exact (zas (by repeat (first | (with_reducible first | exact HB.out | apply zac | apply zab | apply zad | refine zah ?_ GE216.out) | exact HB.out))) : w.heap.size ≤ gb218)); have n5_ := zaa.mk ((by rw [hg]; exact (zas (by repeat (first | (with_reducible first | exact HB.out | apply zac | apply zab | apply zad | refine zah ?_ GE216.out) | exact HB.out))) : w.heap.size ≤ gb218)); have n6_ := zaa.mk ((by rw [hg]; exact Nat.ne_of_lt (zbk (g := gb216) (o := .cells #[.slice (some ad217) l0_0.length c0_0, .slice A0_1 l0_1.length c0_1] 50 (0, 0)) (by (with_reducible repeat (first | refine zaf ?_ _ | refine zai ?_ | refine zae ?_ _)); exact BK216.out)) : gb216 ≠ gb218)); have n7_ := zaa.mk ((by rw [hg]; exact Nat.ne_of_gt (zbk (g := gb216) (o := .cells #[.slice (some ad217) l0_0.length c0_0, .slice A0_1 l0_1.length c0_1] 50 (0, 0)) (by (with_reducible repeat (first | refine zaf ?_ _ | refine zai ?_ | refine zae ?_ _)); exact BK216.out)) : gb218 ≠ gb216)); clear HO_3; clear BK216; clear HB; have HO_3 := n0_; have BK216 := n1_; have HB := n2_; have BK218 := n3_; have GW218 := n4_; have GE218 := n5_; have NB216_218 := n6_; have NB218_216 := n7_; clear n0_ n1_ n2_ n3_ n4_ n5_ n6_ n7_; clear hb hbox hg; have hnb10 := NB218_216.out; have hnc10 := NB216_218.out; have hcz11_0 : w9.cell? ⟨gb218, 0, none⟩ = some (.string (⟨#[]⟩ : ByteArray)) := (zaj BK218.out 0).trans rfl; have hcz11_1 : w9.cell? ⟨gb218, 1, none⟩ = some (.slice none 0 0) := (zaj BK218.out 1).trans rfl; have hfz11_0 := zak BK218.out 0; have hfz11_1 := zak BK218.out 1) | ((with_reducible refine zaI (f := 85) rfl ?_); refine za5 (some 18) rfl rfl Tryd.func85 (by kernel_rfl) rfl #[.slice A217_1 ((zaS l0_0 x11_1).f1).length c217_1] rfl (by (try simp only [List.map_toArray, List.map_cons, List.map_nil]); first | done | rfl | (simp only [List.length_drop, List.length_take]; rfl)) ?_; (with_reducible refine (zaW.calls k1 _ _ ((zaS l0_0 x11_1).f1) t219 _ ?side1 ?side2 A7.out).mono ?_); (case side1 => exact Kd.za1 HR217_1.out (by repeat (first | (with_reducible first | exact HB.out | apply zac | apply zab | apply zad | refine zah ?_ GE216.out | refine zah ?_ GE218.out) | exact HB.out))); (case side2 => exact HC217_1.out); rintro e w12 ⟨v220, rfl, ho0, hb⟩; refine ⟨_, rfl, ?_⟩; have n0_ := zaa.mk (Kd.zeN (by (with_reducible repeat (first | apply Kd.zbo | apply Kd.zbl | apply Kd.zbz)); exact (Kd.zb0 (Kd.zgm (p := ⟨gb218, 1, none⟩) (Kd.zgm (p := ⟨gb218, 0, none⟩) (Kd.zfC HO_3.out BK218.out (by decide)) (fun _ hk => hk.2) (.string ((zaS l0_0 x11_1).f0))) (fun _ hk => hk.2) (.slice A217_1 ((zaS l0_0 x11_1).f1).length c217_1)) (fun _ h_ => h_.1))) (Kd.zjx ho0) hb); have n1_ := zaa.mk (Kd.zim ho0 (zas (by repeat (first | (with_reducible first | exact HB.out | apply zac | apply zab | apply zad | refine zah ?_ GE216.out | refine zah ?_ GE218.out) | exact HB.out)))); have n2_ := zaa.mk (zaM (g := gb216) (o := .cells #[.slice (some ad217) l0_0.length c0_0, .slice A0_1 l0_1.length c0_1] 50 (0, 0)) (by (with_reducible repeat (first | refine zaf ?_ _ | refine zai ?_ | refine zae ?_ _)); refine zbv ?_ NB216_218.out _; (with_reducible repeat (first | refine zaf ?_ _ | refine zai ?_ | refine zae ?_ _)); refine zbv ?_ NB216_218.out _; (with_reducible repeat (first | refine zaf ?_ _ | refine zai ?_ | refine zae ?_ _)); exact BK216.out) hb); have n3_ := zaa.mk (zaM (g := gb218) (o := .cells #[.string ((zaS l0_0 x11_1).f0), .slice A217_1 ((zaS l0_0 x11_1).f1).length c217_1] 127 (0, 0)) (by (with_reducible repeat (first | refine zaf ?_ _ | refine zai ?_ | refine zae ?_ _)); refine zaT (cs := #[.string ((zaS l0_0 x11_1).f0), .slice none 0 0]) ?_ 1 _ rfl; (with_reducible repeat (first | refine zaf ?_ _ | refine zai ?_ | refine zae ?_ _)); refine zaT (cs := #[.string (⟨#[]⟩ : ByteArray), .slice none 0 0]) ?_ 0 _ rfl; (with_reducible repeat (first | refine zaf ?_ _ | refine zai ?_ | refine zae ?_ _)); exact BK218.out) hb); have n4_ := zaa.mk (zat (by repeat (first | (with_reducible first | exact HB.out | apply zac | apply zab | apply zad | refine zah ?_ GE216.out | refine zah ?_ GE218.out) | exact HB.out)) hb); clear HO_3; clear BK216; clear BK218; clear HB; have HO_3 := n0_; have HO221 := n1_; have BK216 := n2_; have BK218 := n3_; have HB := n4_; clear n0_ n1_ n2_ n3_ n4_; (try clear hb); (try clear hb2); (try clear hk); (try clear hi); (try clear ho0); obtain ⟨Ao14, co14, eo14⟩ := Kd.zh6 HO221.out; subst eo14) | ((with_reducible refine zcw (b := .append) (xs := #[.tmp 15, .tmp 19]) rfl ?_); at_builtin; refine Kd.zem (Kd.slice 60 k60) (w0 := w) w.heap.size rfl (.tmp 15) (.tmp 19) 48 56 (.slice none 0 0) 24 rfl Tryd.underlying48 zfk rfl (by decide) (by omega) u3 x3_1 t219 [.slice Ao14 t219.length co14] (fun _ => True) (fun k_ => ((fun _ => True)) k_ ∧ some k_ ≠ (u3 : Value).ownBlock) rfl rfl ?aP (fun _ hk => hk) ?aF ?aO ?aB ?aS ?aL ?_; (case aP => exact Kd.zkm (Kd.zb0 (Kd.ze2 ((Kd.S_R HO221.out)) (Kd.zgM HO_3.out) (by decide)) (fun k_ hk => ⟨trivial, hk.2⟩))); (case aB => exact (by repeat (first | (with_reducible first | exact HB.out | apply zac | apply zab | apply zad | refine zah ?_ GE216.out | refine zah ?_ GE218.out) | exact HB.out))); (case aF => exact (fun _ _ => trivial)); (case aO => exact (by (with_reducible repeat (first | apply Kd.zbo | apply Kd.zbl | apply Kd.zbz)); exact Kd.zb0 HO_3.out (fun _ hk => trivial))); (case aS => exact (zas (by repeat (first | (with_reducible first | exact HB.out | apply zac | apply zab | apply zad | refine zah ?_ GE216.out | refine zah ?_ GE218.out) | exact HB.out)))); (case aL => have := LMc8.out; omega); intro v223 w13 ho hb hg hat; rw [← Ny222.out] at ho; have n0_ := zaa.mk (zbm (g := gb216) (o := .cells #[.slice (some ad217) l0_0.length c0_0, .slice A0_1 l0_1.length c0_1] 50 (0, 0)) (by (with_reducible repeat (first | refine zaf ?_ _ | refine zai ?_ | refine zae ?_ _)); exact BK216.out) hg (Kd.R_ne HO_3.out BK216.out (by decide))); have n1_ := zaa.mk (zbm (g := gb218) (o := .cells #[.string ((zaS l0_0 x11_1).f0), .slice A217_1 ((zaS l0_0 x11_1).f1).length c217_1] 127 (0, 0)) (by (with_reducible repeat (first | refine zaf ?_ _ | refine zai ?_ | refine zae ?_ _)); exact BK218.out) hg (Kd.R_ne HO_3.out BK218.out (by decide))); have n2_ := zaa.mk (hb); have n3_ := zaa.mk (ho); clear BK216; clear BK218; clear HB; clear HO_3; clear HO221; have BK216 := n0_; have BK218 := n1_; have HB := n2_; have HO224 := n3_; clear n0_ n1_ n2_ n3_; clear ho hb hg hat))
       go_roundg k1
       case measure => have := HK1.out; omega
       case rel => exact ⟨(y222), (wrap64 (x11_1 + 1)), (by first | rfl | (simp; done) | (simp [*]; done)), H', ⟨by have := HK1.out; omega⟩, ⟨by (with_reducible repeat (first | apply Kd.zbo | apply Kd.zbl | apply Kd.zbz)); exact HO224.out⟩, ⟨by (with_reducible repeat (first | refine zaf ?_ _ | refine zai ?_ | refine zae ?_ _)); exact BK216.out⟩, ⟨by repeat (first | (with_reducible first | exact HB.out | apply zac | apply zab | apply zad | refine zah ?_ GE216.out | refine zah ?_ GE218.out) | exact HB.out)⟩⟩
      ·rw [if_neg c8] at H
       exact absurd H (by simp)
     ·rw [if_neg c6] at H
      exact absurd H (by simp)
    ·rw [if_neg c5] at H
     exact absurd H (by simp)
   ·rw [if_neg c4] at H
    have c4b0 : decide (x11_1 < (l0_0.length : Int)) = false := decide_eq_false c4
    clear c4
    have H' := zaa.mk H
    clear H
    have hcz15_0 : wr.cell? ⟨gb216, 0, none⟩ = some (.slice A0_0 l0_0.length c0_0) := (zaj BK216.out 0).trans rfl
    have hcz15_1 : wr.cell? ⟨gb216, 1, none⟩ = some (.slice A0_1 l0_1.length c0_1) := (zaj BK216.out 1).trans rfl
    have hfz15_0 := zak BK216.out 0
    have hfz15_1 := zak BK216.out 1
    go_wp2
    go_loopg [3, 25] k1 (fun kq v3 v25 w' => ∃ (x3_2 : List (List (S60))) (x25_2 : Int), v25 = .int .i64 x25_2 ∧ zaa (zaX.l1 kq x3_2 l0_1 (l0_1.length : Int) x25_2 = some r) ∧ zaa (kq ≤ k1) ∧ zaa (Kd.R (Kd.slice 60 k60) 56 w' w.heap.size (fun _ => True) v3 x3_2) ∧ zaa (w'.heap[gb216]? = some (.cells #[(.slice A0_0 l0_0.length c0_0), (.slice A0_1 l0_1.length c0_1)] 50 (0, 0))) ∧ zaa (Below w.heap.size w w'))
    case atStart => exact ⟨(x3_1), (0), (by first | rfl | (simp; done) | (simp [*]; done)), H', ⟨Nat.le_refl _⟩, ⟨by (with_reducible repeat (first | apply Kd.zbo | apply Kd.zbl | apply Kd.zbz)); exact HO_3.out⟩, ⟨by (with_reducible repeat (first | refine zaf ?_ _ | refine zai ?_ | refine zae ?_ _)); exact BK216.out⟩, ⟨by repeat (first | (with_reducible first | exact HB.out | apply zac | apply zab | apply zad | refine zah ?_ GE216.out) | exact HB.out)⟩⟩
    case round =>
     clear H'
     try clear c1
     try clear c2
     try clear p2
     try clear q2
     try clear hx2
     try clear c3
     try clear c4
     try clear c4b0
     try clear c5
     try clear c5b0
     try clear c6
     try clear c6b0
     try clear p6
     try clear c8
     try clear c10
     try clear hcz11_0
     try clear hcz11_1
     try clear hcz15_0
     try clear hcz15_1
     try clear hcz3_0
     try clear hcz3_1
     try clear hfz11_0
     try clear hfz11_1
     try clear hfz15_0
     try clear hfz15_1
     try clear hfz3_0
     try clear hfz3_1
     try clear hx217_0
     try clear hx217_1
     try clear p2
     try clear p217
     try clear q217
     obtain ⟨x3_2, x25_2, rfl, HA, HK2, HO_3, BK216, HB⟩ := hrel
     cases gk with
     | zero => exact absurd HA.out (by simp [zaX.l1])
     | succ k2 =>
      have H := HA.out
      clear HA
      simp only [zaX.l1] at H
      by_cases c16 : x25_2 < (l0_1.length : Int)
      ·rw [if_pos c16] at H
       have c16b0 : decide (x25_2 < (l0_1.length : Int)) = true := decide_eq_true c16
       clear c16
       by_cases c17 : 0 ≤ x25_2
       ·rw [if_pos c17] at H
        have c17b0 : decide (0 ≤ x25_2) = true := decide_eq_true c17
        clear c17
        by_cases c18 : x25_2 < (l0_1.length : Int)
        ·rw [if_pos c18] at H
         have c18b0 : decide (x25_2 < (l0_1.length : Int)) = true := decide_eq_true c18
         clear c18
         replace H := Option.bind_eq_some_iff.mp H
         obtain ⟨t226, A190, H⟩ := H
         replace H : (if x3_2.length < 5864062014805 then (zaX.l1 k2 (x3_2 ++ [t226]) l0_1 (l0_1.length : Int) (wrap64 (x25_2 + 1))) else (none)) = some r := H
         have A19 := zaa.mk A190
         clear A190
         by_cases c20 : x3_2.length < 5864062014805
         ·rw [if_pos c20] at H
          have LMc20 := zaa.mk c20
          clear c20
          obtain ⟨y229, hy229⟩ : ∃ y_ : List (List (S60)), y_ = (x3_2 ++ [t226]) := ⟨_, rfl⟩
          replace H : (zaX.l1 k2 y229 l0_1 (l0_1.length : Int) (wrap64 (x25_2 + 1))) = some r := by first | (rw [hy229]; with_reducible exact H) | (have H2_ := (Option.bind_some _ _).symm.trans H; rw [hy229]; with_reducible exact H2_) | (have H2_ := (Option.bind_some _ _).symm.trans H; with_reducible exact H2_) | with_reducible exact H | (rw [hy229]; exact H) | exact H
          have Ny229 := zaa.mk hy229
          clear hy229
          have H' := zaa.mk H
          clear H
          have p225 : 0 ≤ (x25_2 : Int) := of_decide_eq_true (by first | (with_reducible assumption) | assumption)
          have q225 : x25_2 < (l0_1.length : Int) := of_decide_eq_true (by first | (with_reducible assumption) | assumption)
          obtain ⟨ad225, A225_0, c225_0, e225, hx225_0, hl225_0, hi225_0⟩ := zgn HR0_1.out x25_2 p225 q225
          cases e225
          replace hx225_0 := (HB.out.cell (World.block_lt_of_cell? w _ hx225_0)).trans hx225_0
          have HR225_0 := zaa.mk hi225_0
          have HC225_0 := zaa.mk hl225_0
          clear hi225_0 hl225_0
          replace p225 := eq_true p225
          replace q225 := eq_true q225
          go_wp2_with (first | ((with_reducible refine zaI (f := 85) rfl ?_); refine za5 (some 31) rfl rfl Tryd.func85 (by kernel_rfl) rfl #[.slice A225_0 (zcO l0_1 x25_2).length c225_0] rfl (by (try simp only [List.map_toArray, List.map_cons, List.map_nil]); first | done | rfl | (simp only [List.length_drop, List.length_take]; rfl)) ?_; (with_reducible refine (zaW.calls k2 _ _ (zcO l0_1 x25_2) t226 _ ?side1 ?side2 A19.out).mono ?_); (case side1 => repeat (first | exact (Kd.za1 HR225_0.out HB.out) | (with_reducible refine Kd.zaU ?_ _) | (with_reducible refine Kd.zaY ?_ _) | (with_reducible refine Kd.za3 ?_))); (case side2 => exact HC225_0.out); rintro e w21 ⟨v227, rfl, ho0, hb⟩; refine ⟨_, rfl, ?_⟩; have n0_ := zaa.mk (Kd.zeN (by (with_reducible repeat (first | apply Kd.zbo | apply Kd.zbl | apply Kd.zbz)); exact HO_3.out) (Kd.zjx ho0) hb); have n1_ := zaa.mk (Kd.zim ho0 (zas (by repeat (first | (with_reducible first | exact HB.out | apply zac | apply zab | apply zad | refine zah ?_ GE216.out) | exact HB.out)))); have n2_ := zaa.mk (zaM (g := gb216) (o := .cells #[.slice A0_0 l0_0.length c0_0, .slice (some ad225) l0_1.length c0_1] 50 (0, 0)) (by (with_reducible repeat (first | refine zaf ?_ _ | refine zai ?_ | refine zae ?_ _)); exact BK216.out) hb); have n3_ := zaa.mk (zat (by repeat (first | (with_reducible first | exact HB.out | apply zac | apply zab | apply zad | refine zah ?_ GE216.out) | exact HB.out)) hb); clear HO_3; clear BK216; clear HB; have HO_3 := n0_; have HO228 := n1_; have BK216 := n2_; have HB := n3_; clear n0_ n1_ n2_ n3_; (try clear hb); (try clear hb2); (try clear hk); (try clear hi); (try clear ho0); obtain ⟨Ao23, co23, eo23⟩ := Kd.zh6 HO228.out; subst eo23) | ((with_reducible refine zcw (b := .append) (xs := #[.tmp 29, .tmp 32]) rfl ?_); at_builtin; refine Kd.zem (Kd.slice 60 k60) (w0 := w) w.heap.size rfl (.tmp 29) (.tmp 32) 48 56 (.slice none 0 0) 24 rfl Tryd.underlying48 zfk rfl (by decide) (by omega) u3 x3_2 t226 [.slice Ao23 t226.length co23] (fun _ => True) (fun k_ => ((fun _ => True)) k_ ∧ some k_ ≠ (u3 : Value).ownBlock) rfl rfl ?aP (fun _ hk => hk) ?aF ?aO ?aB ?aS ?aL ?_; (case aP => exact Kd.zkm (Kd.zb0 (Kd.ze2 ((Kd.S_R HO228.out)) (Kd.zgM HO_3.out) (by decide)) (fun k_ hk => ⟨trivial, hk.2⟩))); (case aB => exact (by repeat (first | (with_reducible first | exact HB.out | apply zac | apply zab | apply zad | refine zah ?_ GE216.out) | exact HB.out))); (case aF => exact (fun _ _ => trivial)); (case aO => exact (by (with_reducible repeat (first | apply Kd.zbo | apply Kd.zbl | apply Kd.zbz)); exact Kd.zb0 HO_3.out (fun _ hk => trivial))); (case aS => exact (zas (by repeat (first | (with_reducible first | exact HB.out | apply zac | apply zab | apply zad | refine zah ?_ GE216.out) | exact HB.out)))); (case aL => have := LMc20.out; omega); intro v230 w22 ho hb hg hat; rw [← Ny229.out] at ho; have n0_ := zaa.mk (zbm (g := gb216) (o := .cells #[.slice A0_0 l0_0.length c0_0, .slice (some ad225) l0_1.length c0_1] 50 (0, 0)) (by (with_reducible repeat (first | refine zaf ?_ _ | refine zai ?_ | refine zae ?_ _)); exact BK216.out) hg (Kd.R_ne HO_3.out BK216.out (by decide))); have n1_ := zaa.mk (hb); have n2_ := zaa.mk (ho); clear BK216; clear HB; clear HO_3; clear HO228; have BK216 := n0_; have HB := n1_; have HO231 := n2_; clear n0_ n1_ n2_; clear ho hb hg hat))
          go_roundg k2
          case measure => have := HK1.out; have := HK2.out; omega
          case rel => exact ⟨(y229), (wrap64 (x25_2 + 1)), (by first | rfl | (simp; done) | (simp [*]; done)), H', ⟨by have := HK1.out; have := HK2.out; omega⟩, ⟨by (with_reducible repeat (first | apply Kd.zbo | apply Kd.zbl | apply Kd.zbz)); exact HO231.out⟩, ⟨by (with_reducible repeat (first | refine zaf ?_ _ | refine zai ?_ | refine zae ?_ _)); exact BK216.out⟩, ⟨by repeat (first | (with_reducible first | exact HB.out | apply zac | apply zab | apply zad | refine zah ?_ GE216.out) | exact HB.out)⟩⟩
         ·rw [if_neg c20] at H
          exact absurd H (by simp)
        ·rw [if_neg c18] at H
         exact absurd H (by simp)
       ·rw [if_neg c17] at H
        exact absurd H (by simp)
      ·rw [if_neg c16] at H
       have c16b0 : decide (x25_2 < (l0_1.length : Int)) = false := decide_eq_false c16
       clear c16
       obtain rfl := Option.some.inj H
       go_wp2
       go_ret
       exact ⟨_, by first | rfl | (simp [zam, zan] <;> rfl) | (simp [*, zam, zan] <;> rfl), by (with_reducible repeat (first | apply Kd.zbo | apply Kd.zbl | apply Kd.zbz)); exact HO_3.out, by repeat (first | (with_reducible first | exact HB.out | apply zac | apply zab | apply zad | refine zah ?_ GE216.out) | exact HB.out)⟩
def zbj.l0 : Nat → Int → List (List (S60)) → Int → Int → Option (Int)
 | 0, _, _, _, _ => none
 | k + 1, x3, x7, x8, x9 => if x9 < x8 then (if 0 ≤ x9 then (if x9 < (x7.length : Int) then (zbj.l0 k (wrap64 (x3 + ((zcO x7 x9).length : Int))) x7 x8 (wrap64 (x9 + 1))) else (none)) else (none)) else (some x3)
def zbj.f (k : Nat) (l0_0 : List (S127)) (l0_1 : List (List (S60))) : Option (Int) := (zaX.f k l0_0 l0_1).bind fun t233 => (zbj.l0 k 0 t233 (t233.length : Int) 0)
theorem zbj.zaV : ∀ k, (∀ y0 y1 y2 y3, LeO (zbj.l0 k y0 y1 y2 y3) (zbj.l0 (k + 1) y0 y1 y2 y3))
 | 0 => fun _ _ _ _ r h => by simp [zbj.l0] at h
 | k + 1 => by
  have ih0 := zbj.zaV k
  ·intro y0 y1 y2 y3
   unfold zbj.l0
   repeat' first
   | (with_reducible exact ih0 _ _ _ _)
   | (with_reducible exact zaX.mono _ _ _)
   | (with_reducible exact LeO.refl _)
   | (with_reducible exact LeO.none _)
   | (with_reducible refine LeO.ite ?_ ?_)
   | (with_reducible refine LeO.bind ?_ (fun _ => ?_))
   | exact ih0 _ _ _ _
   | exact zaX.mono _ _ _
   | exact LeO.none _
   | refine LeO.ite ?_ ?_
   | refine LeO.bind ?_ (fun _ => ?_)
theorem zbj.mono : ∀ a0 a1 k, LeO (zbj.f k a0 a1) (zbj.f (k + 1) a0 a1) := by
 intro a0 a1 k
 have ih0 := zbj.zaV k
 unfold zbj.f
 repeat' first
   | (with_reducible exact ih0 _ _ _ _)
   | (with_reducible exact zaX.mono _ _ _)
   | (with_reducible exact LeO.refl _)
   | (with_reducible exact LeO.none _)
   | (with_reducible refine LeO.ite ?_ ?_)
   | (with_reducible refine LeO.bind ?_ (fun _ => ?_))
   | exact ih0 _ _ _ _
   | exact zaX.mono _ _ _
   | exact LeO.none _
   | refine LeO.ite ?_ ?_
   | refine LeO.bind ?_ (fun _ => ?_)
set_option maxHeartbeats 8000000 in
set_option maxRecDepth 100000 in
theorem zbj.calls (k : Nat) (A0_0 : Option Addr) (c0_0 : Nat) (l0_0 : List (S127)) (A0_1 : Option Addr) (c0_1 : Nat) (l0_1 : List (List (S60))) (r : Int) (w : World) (hr0_0 : Kd.C k127 w A0_0 l0_0.length l0_0) (hc0_0 : l0_0.length ≤ c0_0) (hr0_1 : Kd.C (Kd.slice 60 k60) w A0_1 l0_1.length l0_1) (hc0_1 : l0_1.length ≤ c0_1) (h : zbj.f k l0_0 l0_1 = some r) :
  Calls Tryd.prog 40 #[.agg #[.slice A0_0 l0_0.length c0_0, .slice A0_1 l0_1.length c0_1]] w fun e w' => e = .returned (.int .i64 r) ∧ Below w.heap.size w w' := by
 have hu50 := Tryd.underlying50
 have HR0_0 := zaa.mk hr0_0
 have HC0_0 := zaa.mk hc0_0
 clear hr0_0 hc0_0
 have HR0_1 := zaa.mk hr0_1
 have HC0_1 := zaa.mk hc0_1
 clear hr0_1 hc0_1
 have HB := zaa.mk (Below.refl w.heap.size w)
 have H : ((zaX.f k l0_0 l0_1).bind fun t233 => (zbj.l0 k 0 t233 (t233.length : Int) 0)) = some r := h
 clear h
 replace H := Option.bind_eq_some_iff.mp H
 obtain ⟨t233, A20, H⟩ := H
 replace H : (zbj.l0 k 0 t233 (t233.length : Int) 0) = some r := H
 have A2 := zaa.mk A20
 clear A20
 have H' := zaa.mk H
 clear H
 go_enter Tryd.func40, Tryd.ntmps40
 go_wp2_with (first | ((with_reducible refine zba (N := 1) rfl ?_); refine za6 ?hg (N := 1) ?hd (cs := #[.slice A0_0 l0_0.length c0_0, .slice A0_1 l0_1.length c0_1]) (t := 50) ?hr ?_; (case hd => rfl); (case hg => rfl); (case hr => first | (go_simp; done) | (go_simp; rfl)); intro gb232 hg w3 hbox hb; have n0_ := zaa.mk (zat (by repeat (first | (with_reducible first | exact HB.out | apply zac | apply zab | apply zad) | exact HB.out)) hb); have n1_ := zaa.mk (hbox); have n2_ := zaa.mk ((by rw [hg]; exact (zas (by repeat (first | (with_reducible first | exact HB.out | apply zac | apply zab | apply zad) | exact HB.out))) : w.heap.size ≤ gb232)); have n3_ := zaa.mk ((by rw [hg]; exact (zas (by repeat (first | (with_reducible first | exact HB.out | apply zac | apply zab | apply zad) | exact HB.out))) : w.heap.size ≤ gb232)); clear HB; have HB := n0_; have BK232 := n1_; have GW232 := n2_; have GE232 := n3_; clear n0_ n1_ n2_ n3_; clear hb hbox hg; have hcz4_0 : w3.cell? ⟨gb232, 0, none⟩ = some (.slice A0_0 l0_0.length c0_0) := (zaj BK232.out 0).trans rfl; have hcz4_1 : w3.cell? ⟨gb232, 1, none⟩ = some (.slice A0_1 l0_1.length c0_1) := (zaj BK232.out 1).trans rfl; have hfz4_0 := zak BK232.out 0; have hfz4_1 := zak BK232.out 1) | ((with_reducible refine zaI (f := 37) rfl ?_); refine za5 (some 7) rfl rfl Tryd.func37 (by kernel_rfl) rfl #[.agg #[.slice A0_0 l0_0.length c0_0, .slice A0_1 l0_1.length c0_1]] rfl (by (try simp only [List.map_toArray, List.map_cons, List.map_nil]); first | done | rfl | (simp only [List.length_drop, List.length_take]; rfl)) ?_; (with_reducible refine (zaX.calls k _ _ l0_0 _ _ l0_1 t233 _ ?side1 ?side2 ?side3 ?side4 A2.out).mono ?_); (case side1 => repeat (first | exact (Kd.za1 HR0_0.out HB.out) | (with_reducible refine Kd.zaU ?_ _) | (with_reducible refine Kd.zaY ?_ _) | (with_reducible refine Kd.za3 ?_))); (case side2 => exact HC0_0.out); (case side3 => repeat (first | exact (Kd.za1 HR0_1.out HB.out) | (with_reducible refine Kd.zaU ?_ _) | (with_reducible refine Kd.zaY ?_ _) | (with_reducible refine Kd.za3 ?_))); (case side4 => exact HC0_1.out); rintro e w5 ⟨v234, rfl, ho0, hb⟩; refine ⟨_, rfl, ?_⟩; have n0_ := zaa.mk (Kd.zcA ho0 (zas (by repeat (first | (with_reducible first | exact HB.out | apply zac | apply zab | apply zad | refine zah ?_ GE232.out) | exact HB.out)))); have n1_ := zaa.mk (zaM (g := gb232) (o := .cells #[.slice A0_0 l0_0.length c0_0, .slice A0_1 l0_1.length c0_1] 50 (0, 0)) (by (with_reducible repeat (first | refine zaf ?_ _ | refine zai ?_ | refine zae ?_ _)); exact BK232.out) hb); have n2_ := zaa.mk (zat (by repeat (first | (with_reducible first | exact HB.out | apply zac | apply zab | apply zad | refine zah ?_ GE232.out) | exact HB.out)) hb); clear BK232; clear HB; have HO235 := n0_; have BK232 := n1_; have HB := n2_; clear n0_ n1_ n2_; (try clear hb); (try clear hb2); (try clear hk); (try clear hi); (try clear ho0); obtain ⟨Ao6, co6, eo6⟩ := Kd.zbO HO235.out; subst eo6))
 go_loopg [3, 9] k (fun kq v3 v9 w' => ∃ (x3_1 : Int) (x9_1 : Int), v3 = .int .i64 x3_1 ∧ v9 = .int .i64 x9_1 ∧ zaa (zbj.l0 kq x3_1 t233 (t233.length : Int) x9_1 = some r) ∧ zaa (kq ≤ k) ∧ zaa (Kd.R (Kd.slice 60 k60) 56 w' w.heap.size (fun _ => True) (.slice Ao6 t233.length co6) t233) ∧ zaa (w'.heap[gb232]? = some (.cells #[(.slice A0_0 l0_0.length c0_0), (.slice A0_1 l0_1.length c0_1)] 50 (0, 0))) ∧ zaa (Below w.heap.size w w'))
 case atStart => exact ⟨(0), (0), (by first | rfl | (simp; done) | (simp [*]; done)), (by first | rfl | (simp; done) | (simp [*]; done)), H', ⟨Nat.le_refl _⟩, ⟨by (with_reducible repeat (first | apply Kd.zbo | apply Kd.zbl | apply Kd.zbz)); exact HO235.out⟩, ⟨by (with_reducible repeat (first | refine zaf ?_ _ | refine zai ?_ | refine zae ?_ _)); exact BK232.out⟩, ⟨by repeat (first | (with_reducible first | exact HB.out | apply zac | apply zab | apply zad | refine zah ?_ GE232.out) | exact HB.out)⟩⟩
 case round =>
  clear H'
  try clear p2
  try clear c3
  try clear c4
  try clear hcz4_0
  try clear hcz4_1
  try clear hfz4_0
  try clear hfz4_1
  obtain ⟨x3_1, x9_1, rfl, rfl, HA, HK1, HO_7, BK232, HB⟩ := hrel
  cases gk with
  | zero => exact absurd HA.out (by simp [zbj.l0])
  | succ k1 =>
   have H := HA.out
   clear HA
   simp only [zbj.l0] at H
   by_cases c7 : x9_1 < (t233.length : Int)
   ·rw [if_pos c7] at H
    have c7b0 : decide (x9_1 < (t233.length : Int)) = true := decide_eq_true c7
    clear c7
    by_cases c8 : 0 ≤ x9_1
    ·rw [if_pos c8] at H
     have c8b0 : decide (0 ≤ x9_1) = true := decide_eq_true c8
     clear c8
     by_cases c9 : x9_1 < (t233.length : Int)
     ·rw [if_pos c9] at H
      have c9b0 : decide (x9_1 < (t233.length : Int)) = true := decide_eq_true c9
      clear c9
      have H' := zaa.mk H
      clear H
      have p236 : 0 ≤ (x9_1 : Int) := of_decide_eq_true (by first | (with_reducible assumption) | assumption)
      have q236 : x9_1 < (t233.length : Int) := of_decide_eq_true (by first | (with_reducible assumption) | assumption)
      obtain ⟨ad236, A236_0, c236_0, e236, hx236_0, hl236_0, hi236_0⟩ := zgn (Kd.zbD HO_7.out).2.2 x9_1 p236 q236
      cases e236
      obtain ⟨ce236, hce236, hMe236, hcc236⟩ := Kd.zlE HO_7.out [] x9_1 p236 (by first | exact q236 | exact of_decide_eq_true (by first | (with_reducible assumption) | assumption) | (have e_ := (Kd.zbD HO_7.out).1; omega))
      obtain ⟨ve236_0, rfl, ge236_0⟩ := hMe236
      have hv236_0 := hcc236 0 _ rfl
      rw [Nat.add_zero, show ((Kd.slice 60 k60)).sz = 1 from rfl, Nat.mul_one] at hv236_0
      replace hv236_0 := Option.some.inj (hv236_0.symm.trans hx236_0)
      rw [hv236_0] at ge236_0
      have HL236_0 := zaa.mk (show Kd.R k60 60 _ _ _ _ (zcO t233 x9_1) from ge236_0)
      clear hv236_0 ge236_0
      clear hcc236 hce236
      have HR236_0 := zaa.mk hi236_0
      have HC236_0 := zaa.mk hl236_0
      clear hi236_0 hl236_0
      replace p236 := eq_true p236
      replace q236 := eq_true q236
      go_wp2
      go_roundg k1
      case measure => have := HK1.out; omega
      case rel => exact ⟨(wrap64 (x3_1 + ((zcO t233 x9_1).length : Int))), (wrap64 (x9_1 + 1)), (by first | rfl | (simp; done) | (simp [*]; done)), (by first | rfl | (simp; done) | (simp [*]; done)), H', ⟨by have := HK1.out; omega⟩, ⟨by (with_reducible repeat (first | apply Kd.zbo | apply Kd.zbl | apply Kd.zbz)); exact HO_7.out⟩, ⟨by (with_reducible repeat (first | refine zaf ?_ _ | refine zai ?_ | refine zae ?_ _)); exact BK232.out⟩, ⟨by repeat (first | (with_reducible first | exact HB.out | apply zac | apply zab | apply zad | refine zah ?_ GE232.out) | exact HB.out)⟩⟩
     ·rw [if_neg c9] at H
      exact absurd H (by simp)
    ·rw [if_neg c8] at H
     exact absurd H (by simp)
   ·rw [if_neg c7] at H
    have c7b0 : decide (x9_1 < (t233.length : Int)) = false := decide_eq_false c7
    clear c7
    obtain rfl := Option.some.inj H
    go_wp2
    go_ret
    exact ⟨by first | rfl | (simp [zam, zan] <;> rfl) | (simp [*, zam, zan] <;> rfl), by repeat (first | (with_reducible first | exact HB.out | apply zac | apply zab | apply zad | refine zah ?_ GE232.out) | exact HB.out)⟩
def zbB.f (k : Nat) (l0_0 : List (S127)) (l0_1 : List (List (S60))) (a1 : Int) (a2 : Int) : Option (Bool) := if a1 ≥ 1 then (if a1 ≤ 6 then (if a2 ≥ 0 then (if a2 ≤ 6 then (if (l0_1.length : Int) = a1 then (if (l0_0.length : Int) ≤ 10 then ((zbj.f k l0_0 l0_1).bind fun t238 => (some (decide (t238 ≤ 300)))) else (some false)) else (some false)) else (some false)) else (some false)) else (some false)) else (some false)
theorem zbB.mono : ∀ a0 a1 a2 a3 k, LeO (zbB.f k a0 a1 a2 a3) (zbB.f (k + 1) a0 a1 a2 a3) := by
 intro a0 a1 a2 a3 k
 unfold zbB.f
 repeat' first
   | (with_reducible exact zbj.mono _ _ _)
   | (with_reducible exact LeO.refl _)
   | (with_reducible exact LeO.none _)
   | (with_reducible refine LeO.ite ?_ ?_)
   | (with_reducible refine LeO.bind ?_ (fun _ => ?_))
   | exact zbj.mono _ _ _
   | exact LeO.none _
   | refine LeO.ite ?_ ?_
   | refine LeO.bind ?_ (fun _ => ?_)
set_option maxHeartbeats 8000000 in
set_option maxRecDepth 100000 in
theorem zbB.calls (k : Nat) (A0_0 : Option Addr) (c0_0 : Nat) (l0_0 : List (S127)) (A0_1 : Option Addr) (c0_1 : Nat) (l0_1 : List (List (S60))) (a1 : Int) (a2 : Int) (r : Bool) (w : World) (hr0_0 : Kd.C k127 w A0_0 l0_0.length l0_0) (hc0_0 : l0_0.length ≤ c0_0) (hr0_1 : Kd.C (Kd.slice 60 k60) w A0_1 l0_1.length l0_1) (hc0_1 : l0_1.length ≤ c0_1) (h : zbB.f k l0_0 l0_1 a1 a2 = some r) :
  Calls Tryd.prog 75 #[.agg #[.slice A0_0 l0_0.length c0_0, .slice A0_1 l0_1.length c0_1], .int .i64 a1, .int .i64 a2] w fun e w' => e = .returned (.bool r) ∧ Below w.heap.size w w' := by
 have hu50 := Tryd.underlying50
 have HR0_0 := zaa.mk hr0_0
 have HC0_0 := zaa.mk hc0_0
 clear hr0_0 hc0_0
 have HR0_1 := zaa.mk hr0_1
 have HC0_1 := zaa.mk hc0_1
 clear hr0_1 hc0_1
 have HB := zaa.mk (Below.refl w.heap.size w)
 have H : (if a1 ≥ 1 then (if a1 ≤ 6 then (if a2 ≥ 0 then (if a2 ≤ 6 then (if (l0_1.length : Int) = a1 then (if (l0_0.length : Int) ≤ 10 then ((zbj.f k l0_0 l0_1).bind fun t238 => (some (decide (t238 ≤ 300)))) else (some false)) else (some false)) else (some false)) else (some false)) else (some false)) else (some false)) = some r := h
 clear h
 by_cases c4 : a1 ≥ 1
 ·rw [if_pos c4] at H
  have c4b0 : decide (1 ≤ a1) = true := decide_eq_true c4
  clear c4
  by_cases c5 : a1 ≤ 6
  ·rw [if_pos c5] at H
   have c5b0 : decide (a1 ≤ 6) = true := decide_eq_true c5
   clear c5
   by_cases c6 : a2 ≥ 0
   ·rw [if_pos c6] at H
    have c6b0 : decide (0 ≤ a2) = true := decide_eq_true c6
    clear c6
    by_cases c7 : a2 ≤ 6
    ·rw [if_pos c7] at H
     have c7b0 : decide (a2 ≤ 6) = true := decide_eq_true c7
     clear c7
     by_cases c8 : (l0_1.length : Int) = a1
     ·rw [if_pos c8] at H
      have c8b0 : ((l0_1.length : Int) == a1) = true := beq_iff_eq.mpr c8
      have c8b1 : ((l0_1.length : Int) != a1) = false := bne_eq_false_iff_eq.mpr c8
      clear c8
      by_cases c9 : (l0_0.length : Int) ≤ 10
      ·rw [if_pos c9] at H
       have c9b0 : decide ((l0_0.length : Int) ≤ 10) = true := decide_eq_true c9
       have c9b1 : decide (l0_0.length ≤ 10) = true := decide_eq_true (by omega)
       clear c9
       replace H := Option.bind_eq_some_iff.mp H
       obtain ⟨t238, A100, H⟩ := H
       replace H : (some (decide (t238 ≤ 300))) = some r := H
       have A10 := zaa.mk A100
       clear A100
       obtain rfl := Option.some.inj H
       go_enter Tryd.func75, Tryd.ntmps75
       go_wp2_with (first | ((with_reducible refine zba (N := 3) rfl ?_); (try (refine zbS (by rfl) ?_; dsimp only)); refine za6 ?hg (N := 3) ?hd (cs := #[.slice A0_0 l0_0.length c0_0, .slice A0_1 l0_1.length c0_1]) (t := 50) ?hr ?_; (case hd => rfl); (case hg => rfl); (case hr => first | (go_simp; done) | (go_simp; rfl)); intro gb237 hg w11 hbox hb; have n0_ := zaa.mk (zat (by repeat (first | (with_reducible first | exact HB.out | apply zac | apply zab | apply zad) | exact HB.out)) hb); have n1_ := zaa.mk (hbox); have n2_ := zaa.mk ((by rw [hg]; exact (zas (by repeat (first | (with_reducible first | exact HB.out | apply zac | apply zab | apply zad) | exact HB.out))) : w.heap.size ≤ gb237)); have n3_ := zaa.mk ((by rw [hg]; exact (zas (by repeat (first | (with_reducible first | exact HB.out | apply zac | apply zab | apply zad) | exact HB.out))) : w.heap.size ≤ gb237)); clear HB; have HB := n0_; have BK237 := n1_; have GW237 := n2_; have GE237 := n3_; clear n0_ n1_ n2_ n3_; clear hb hbox hg; have hcz12_0 : w11.cell? ⟨gb237, 0, none⟩ = some (.slice A0_0 l0_0.length c0_0) := (zaj BK237.out 0).trans rfl; have hcz12_1 : w11.cell? ⟨gb237, 1, none⟩ = some (.slice A0_1 l0_1.length c0_1) := (zaj BK237.out 1).trans rfl; have hfz12_0 := zak BK237.out 0; have hfz12_1 := zak BK237.out 1) | (go_at_call 40; (with_reducible refine (zbj.calls k _ _ l0_0 _ _ l0_1 t238 _ ?side1 ?side2 ?side3 ?side4 A10.out).mono ?_); (case side1 => repeat (first | exact (Kd.za1 HR0_0.out HB.out) | (with_reducible refine Kd.zaU ?_ _) | (with_reducible refine Kd.zaY ?_ _) | (with_reducible refine Kd.za3 ?_))); (case side2 => exact HC0_0.out); (case side3 => repeat (first | exact (Kd.za1 HR0_1.out HB.out) | (with_reducible refine Kd.zaU ?_ _) | (with_reducible refine Kd.zaY ?_ _) | (with_reducible refine Kd.za3 ?_))); (case side4 => exact HC0_1.out); rintro e w13 ⟨rfl, hb⟩; have n0_ := zaa.mk (zaM (g := gb237) (o := .cells #[.slice A0_0 l0_0.length c0_0, .slice A0_1 l0_1.length c0_1] 50 (0, 0)) (by (with_reducible repeat (first | refine zaf ?_ _ | refine zai ?_ | refine zae ?_ _)); exact BK237.out) hb); have n1_ := zaa.mk (zat (by repeat (first | (with_reducible first | exact HB.out | apply zac | apply zab | apply zad | refine zah ?_ GE237.out) | exact HB.out)) hb); clear BK237; clear HB; have BK237 := n0_; have HB := n1_; clear n0_ n1_; (try clear hb); (try clear hb2); (try clear hk); (try clear hi)))
       go_ret
       exact ⟨by first | rfl | (simp [zam, zan] <;> rfl) | (simp [*, zam, zan] <;> rfl), by repeat (first | (with_reducible first | exact HB.out | apply zac | apply zab | apply zad | refine zah ?_ GE237.out) | exact HB.out)⟩
      ·rw [if_neg c9] at H
       have c9b0 : decide ((l0_0.length : Int) ≤ 10) = false := decide_eq_false c9
       have c9b1 : decide (l0_0.length ≤ 10) = false := decide_eq_false (by omega)
       clear c9
       obtain rfl := Option.some.inj H
       go_enter Tryd.func75, Tryd.ntmps75
       go_wp2_with (first | ((with_reducible refine zba (N := 3) rfl ?_); (try (refine zbS (by rfl) ?_; dsimp only)); refine za6 ?hg (N := 3) ?hd (cs := #[.slice A0_0 l0_0.length c0_0, .slice A0_1 l0_1.length c0_1]) (t := 50) ?hr ?_; (case hd => rfl); (case hg => rfl); (case hr => first | (go_simp; done) | (go_simp; rfl)); intro gb237 hg w14 hbox hb; have n0_ := zaa.mk (zat (by repeat (first | (with_reducible first | exact HB.out | apply zac | apply zab | apply zad) | exact HB.out)) hb); have n1_ := zaa.mk (hbox); have n2_ := zaa.mk ((by rw [hg]; exact (zas (by repeat (first | (with_reducible first | exact HB.out | apply zac | apply zab | apply zad) | exact HB.out))) : w.heap.size ≤ gb237)); have n3_ := zaa.mk ((by rw [hg]; exact (zas (by repeat (first | (with_reducible first | exact HB.out | apply zac | apply zab | apply zad) | exact HB.out))) : w.heap.size ≤ gb237)); clear HB; have HB := n0_; have BK237 := n1_; have GW237 := n2_; have GE237 := n3_; clear n0_ n1_ n2_ n3_; clear hb hbox hg; have hcz15_0 : w14.cell? ⟨gb237, 0, none⟩ = some (.slice A0_0 l0_0.length c0_0) := (zaj BK237.out 0).trans rfl; have hcz15_1 : w14.cell? ⟨gb237, 1, none⟩ = some (.slice A0_1 l0_1.length c0_1) := (zaj BK237.out 1).trans rfl; have hfz15_0 := zak BK237.out 0; have hfz15_1 := zak BK237.out 1))
       go_ret
       exact ⟨by first | rfl | (simp [zam, zan] <;> rfl) | (simp [*, zam, zan] <;> rfl), by repeat (first | (with_reducible first | exact HB.out | apply zac | apply zab | apply zad | refine zah ?_ GE237.out) | exact HB.out)⟩
     ·rw [if_neg c8] at H
      have c8b0 : ((l0_1.length : Int) == a1) = false := beq_eq_false_iff_ne.mpr c8
      have c8b1 : ((l0_1.length : Int) != a1) = true := bne_iff_ne.mpr c8
      obtain rfl := Option.some.inj H
      go_enter Tryd.func75, Tryd.ntmps75
      go_wp2_with (first | ((with_reducible refine zba (N := 3) rfl ?_); (try (refine zbS (by rfl) ?_; dsimp only)); refine za6 ?hg (N := 3) ?hd (cs := #[.slice A0_0 l0_0.length c0_0, .slice A0_1 l0_1.length c0_1]) (t := 50) ?hr ?_; (case hd => rfl); (case hg => rfl); (case hr => first | (go_simp; done) | (go_simp; rfl)); intro gb237 hg w16 hbox hb; have n0_ := zaa.mk (zat (by repeat (first | (with_reducible first | exact HB.out | apply zac | apply zab | apply zad) | exact HB.out)) hb); have n1_ := zaa.mk (hbox); have n2_ := zaa.mk ((by rw [hg]; exact (zas (by repeat (first | (with_reducible first | exact HB.out | apply zac | apply zab | apply zad) | exact HB.out))) : w.heap.size ≤ gb237)); have n3_ := zaa.mk ((by rw [hg]; exact (zas (by repeat (first | (with_reducible first | exact HB.out | apply zac | apply zab | apply zad) | exact HB.out))) : w.heap.size ≤ gb237)); clear HB; have HB := n0_; have BK237 := n1_; have GW237 := n2_; have GE237 := n3_; clear n0_ n1_ n2_ n3_; clear hb hbox hg; have hcz17_0 : w16.cell? ⟨gb237, 0, none⟩ = some (.slice A0_0 l0_0.length c0_0) := (zaj BK237.out 0).trans rfl; have hcz17_1 : w16.cell? ⟨gb237, 1, none⟩ = some (.slice A0_1 l0_1.length c0_1) := (zaj BK237.out 1).trans rfl; have hfz17_0 := zak BK237.out 0; have hfz17_1 := zak BK237.out 1))
      go_ret
      exact ⟨by first | rfl | (simp [zam, zan] <;> rfl) | (simp [*, zam, zan] <;> rfl), by repeat (first | (with_reducible first | exact HB.out | apply zac | apply zab | apply zad | refine zah ?_ GE237.out) | exact HB.out)⟩
    ·rw [if_neg c7] at H
     have c7b0 : decide (a2 ≤ 6) = false := decide_eq_false c7
     clear c7
     obtain rfl := Option.some.inj H
     go_enter Tryd.func75, Tryd.ntmps75
     go_wp2_with (first | ((with_reducible refine zba (N := 3) rfl ?_); (try (refine zbS (by rfl) ?_; dsimp only)); refine za6 ?hg (N := 3) ?hd (cs := #[.slice A0_0 l0_0.length c0_0, .slice A0_1 l0_1.length c0_1]) (t := 50) ?hr ?_; (case hd => rfl); (case hg => rfl); (case hr => first | (go_simp; done) | (go_simp; rfl)); intro gb237 hg w18 hbox hb; have n0_ := zaa.mk (zat (by repeat (first | (with_reducible first | exact HB.out | apply zac | apply zab | apply zad) | exact HB.out)) hb); have n1_ := zaa.mk (hbox); have n2_ := zaa.mk ((by rw [hg]; exact (zas (by repeat (first | (with_reducible first | exact HB.out | apply zac | apply zab | apply zad) | exact HB.out))) : w.heap.size ≤ gb237)); have n3_ := zaa.mk ((by rw [hg]; exact (zas (by repeat (first | (with_reducible first | exact HB.out | apply zac | apply zab | apply zad) | exact HB.out))) : w.heap.size ≤ gb237)); clear HB; have HB := n0_; have BK237 := n1_; have GW237 := n2_; have GE237 := n3_; clear n0_ n1_ n2_ n3_; clear hb hbox hg))
     go_ret
     exact ⟨by first | rfl | (simp [zam, zan] <;> rfl) | (simp [*, zam, zan] <;> rfl), by repeat (first | (with_reducible first | exact HB.out | apply zac | apply zab | apply zad | refine zah ?_ GE237.out) | exact HB.out)⟩
   ·rw [if_neg c6] at H
    have c6b0 : decide (0 ≤ a2) = false := decide_eq_false c6
    clear c6
    obtain rfl := Option.some.inj H
    go_enter Tryd.func75, Tryd.ntmps75
    go_wp2_with (first | ((with_reducible refine zba (N := 3) rfl ?_); (try (refine zbS (by rfl) ?_; dsimp only)); refine za6 ?hg (N := 3) ?hd (cs := #[.slice A0_0 l0_0.length c0_0, .slice A0_1 l0_1.length c0_1]) (t := 50) ?hr ?_; (case hd => rfl); (case hg => rfl); (case hr => first | (go_simp; done) | (go_simp; rfl)); intro gb237 hg w19 hbox hb; have n0_ := zaa.mk (zat (by repeat (first | (with_reducible first | exact HB.out | apply zac | apply zab | apply zad) | exact HB.out)) hb); have n1_ := zaa.mk (hbox); have n2_ := zaa.mk ((by rw [hg]; exact (zas (by repeat (first | (with_reducible first | exact HB.out | apply zac | apply zab | apply zad) | exact HB.out))) : w.heap.size ≤ gb237)); have n3_ := zaa.mk ((by rw [hg]; exact (zas (by repeat (first | (with_reducible first | exact HB.out | apply zac | apply zab | apply zad) | exact HB.out))) : w.heap.size ≤ gb237)); clear HB; have HB := n0_; have BK237 := n1_; have GW237 := n2_; have GE237 := n3_; clear n0_ n1_ n2_ n3_; clear hb hbox hg))
    go_ret
    exact ⟨by first | rfl | (simp [zam, zan] <;> rfl) | (simp [*, zam, zan] <;> rfl), by repeat (first | (with_reducible first | exact HB.out | apply zac | apply zab | apply zad | refine zah ?_ GE237.out) | exact HB.out)⟩
  ·rw [if_neg c5] at H
   have c5b0 : decide (a1 ≤ 6) = false := decide_eq_false c5
   clear c5
   obtain rfl := Option.some.inj H
   go_enter Tryd.func75, Tryd.ntmps75
   go_wp2_with (first | ((with_reducible refine zba (N := 3) rfl ?_); (try (refine zbS (by rfl) ?_; dsimp only)); refine za6 ?hg (N := 3) ?hd (cs := #[.slice A0_0 l0_0.length c0_0, .slice A0_1 l0_1.length c0_1]) (t := 50) ?hr ?_; (case hd => rfl); (case hg => rfl); (case hr => first | (go_simp; done) | (go_simp; rfl)); intro gb237 hg w20 hbox hb; have n0_ := zaa.mk (zat (by repeat (first | (with_reducible first | exact HB.out | apply zac | apply zab | apply zad) | exact HB.out)) hb); have n1_ := zaa.mk (hbox); have n2_ := zaa.mk ((by rw [hg]; exact (zas (by repeat (first | (with_reducible first | exact HB.out | apply zac | apply zab | apply zad) | exact HB.out))) : w.heap.size ≤ gb237)); have n3_ := zaa.mk ((by rw [hg]; exact (zas (by repeat (first | (with_reducible first | exact HB.out | apply zac | apply zab | apply zad) | exact HB.out))) : w.heap.size ≤ gb237)); clear HB; have HB := n0_; have BK237 := n1_; have GW237 := n2_; have GE237 := n3_; clear n0_ n1_ n2_ n3_; clear hb hbox hg))
   go_ret
   exact ⟨by first | rfl | (simp [zam, zan] <;> rfl) | (simp [*, zam, zan] <;> rfl), by repeat (first | (with_reducible first | exact HB.out | apply zac | apply zab | apply zad | refine zah ?_ GE237.out) | exact HB.out)⟩
 ·rw [if_neg c4] at H
  have c4b0 : decide (1 ≤ a1) = false := decide_eq_false c4
  clear c4
  obtain rfl := Option.some.inj H
  go_enter Tryd.func75, Tryd.ntmps75
  go_wp2_with (first | ((with_reducible refine zba (N := 3) rfl ?_); (try (refine zbS (by rfl) ?_; dsimp only)); refine za6 ?hg (N := 3) ?hd (cs := #[.slice A0_0 l0_0.length c0_0, .slice A0_1 l0_1.length c0_1]) (t := 50) ?hr ?_; (case hd => rfl); (case hg => rfl); (case hr => first | (go_simp; done) | (go_simp; rfl)); intro gb237 hg w21 hbox hb; have n0_ := zaa.mk (zat (by repeat (first | (with_reducible first | exact HB.out | apply zac | apply zab | apply zad) | exact HB.out)) hb); have n1_ := zaa.mk (hbox); have n2_ := zaa.mk ((by rw [hg]; exact (zas (by repeat (first | (with_reducible first | exact HB.out | apply zac | apply zab | apply zad) | exact HB.out))) : w.heap.size ≤ gb237)); have n3_ := zaa.mk ((by rw [hg]; exact (zas (by repeat (first | (with_reducible first | exact HB.out | apply zac | apply zab | apply zad) | exact HB.out))) : w.heap.size ≤ gb237)); clear HB; have HB := n0_; have BK237 := n1_; have GW237 := n2_; have GE237 := n3_; clear n0_ n1_ n2_ n3_; clear hb hbox hg))
  go_ret
  exact ⟨by first | rfl | (simp [zam, zan] <;> rfl) | (simp [*, zam, zan] <;> rfl), by repeat (first | (with_reducible first | exact HB.out | apply zac | apply zab | apply zad | refine zah ?_ GE237.out) | exact HB.out)⟩
end Go.Proofs.YtbicjgaadknmfaaDoor.P
end
section
namespace Go.Proofs.YtbicjgaadknmfaaDoor.M
open Go.RowKit Go.Proofs.YtbicjgaadknmfaaDoorW.PrintWords Go.Proofs.YtbicjgaadknmfaaDoor.P
set_option linter.unusedVariables false
set_option linter.unusedSimpArgs false
def val : List Int → Int
  | [] => 0
  | x :: l => x + 4294967296 * val l
def Wl (l : List Int) : Prop := ∀ x ∈ l, 0 ≤ x ∧ x < 4294967296
theorem Wl.nil : Wl [] := by intro x h; simp at h
theorem Wl.cons {x : Int} {l : List Int} (h0 : 0 ≤ x) (h1 : x < 4294967296) (h : Wl l) : Wl (x :: l) := by
  intro y hy
  rcases List.mem_cons.1 hy with rfl | hy
  · exact ⟨h0, h1⟩
  · exact h y hy
theorem Wl.tail {x : Int} {l : List Int} (h : Wl (x :: l)) : Wl l := fun y hy => h y (List.mem_cons_of_mem _ hy)
theorem Wl.head {x : Int} {l : List Int} (h : Wl (x :: l)) : 0 ≤ x ∧ x < 4294967296 := h x List.mem_cons_self
theorem Wl.append {l m : List Int} (h : Wl l) (k : Wl m) : Wl (l ++ m) := by
  intro y hy
  rcases List.mem_append.1 hy with hy | hy
  · exact h y hy
  · exact k y hy
theorem Wl.zeros (n : Nat) : Wl (List.replicate n 0) := by
  intro y hy
  have := (List.mem_replicate.1 hy).2
  omega
theorem Wl.take {l : List Int} (h : Wl l) (n : Nat) : Wl (l.take n) := fun y hy => h y (List.mem_of_mem_take hy)
theorem Wl.drop {l : List Int} (h : Wl l) (n : Nat) : Wl (l.drop n) := fun y hy => h y (List.mem_of_mem_drop hy)
theorem Wl.get {l : List Int} (h : Wl l) (i : Nat) (hi : i < l.length) : 0 ≤ l[i] ∧ l[i] < 4294967296 := h _ (List.getElem_mem hi)
theorem zd8 {l : List Int} (h : Wl l) : 0 ≤ val l := by
  induction l with
  | nil => simp [val]
  | cons x l ih =>
    have := ih h.tail
    have := h.head
    simp only [val]
    omega
theorem val_append (l m : List Int) : val (l ++ m) = val l + 4294967296 ^ l.length * val m := by
  induction l with
  | nil => simp [val]
  | cons x l ih =>
    simp only [List.cons_append, val, ih, List.length_cons, Int.pow_succ]
    grind
theorem zlO (n : Nat) : val (List.replicate n 0) = 0 := by
  induction n with
  | zero => rfl
  | succ n ih => simp only [List.replicate_succ, val, ih]; omega
theorem zk5 {l : List Int} (h : Wl l) : val l < 4294967296 ^ l.length := by
  induction l with
  | nil => simp [val]
  | cons x l ih =>
    have h1 := ih h.tail
    have h2 := h.head
    simp only [val, List.length_cons, Int.pow_succ]
    generalize (4294967296 : Int) ^ l.length = p at *
    omega
theorem ziS (x : Int) (l : List Int) : strip (x :: l) = if strip l = [] ∧ x = 0 then [] else x :: strip l := by
  unfold strip
  rw [List.reverse_cons, List.dropWhile_append]
  cases hl : List.dropWhile (fun x : Int => x == 0) l.reverse with
  | nil => by_cases hx : x = 0 <;> simp [hx]
  | cons y t => simp
def words (n : Nat) : List Int :=
  if h : n = 0 then [] else ((n % 4294967296 : Nat) : Int) :: words (n / 4294967296)
termination_by n
decreasing_by omega
theorem zcb : words 0 = [] := by unfold words; rfl
theorem zdB {n : Nat} (h : n ≠ 0) : words n = ((n % 4294967296 : Nat) : Int) :: words (n / 4294967296) := by rw [words]; simp [h]
theorem zeU (n : Nat) : Wl (words n) := by
  induction n using Nat.strongRecOn with
  | ind n ih =>
    by_cases h : n = 0
    · subst h; rw [zcb]; exact Wl.nil
    · rw [zdB h]; exact Wl.cons (by omega) (by omega) (ih _ (by omega))
theorem zdy (n : Nat) : val (words n) = (n : Int) := by
  induction n using Nat.strongRecOn with
  | ind n ih =>
    by_cases h : n = 0
    · subst h; rw [zcb]; rfl
    · rw [zdB h]; simp only [val]; rw [ih _ (by omega)]; omega
theorem zd0 (n : Nat) : words n = [] ↔ n = 0 := by
  constructor
  · intro h
    by_cases hn : n = 0
    · exact hn
    · rw [zdB hn] at h; cases h
  · rintro rfl; exact zcb
theorem zds {l : List Int} (h : Wl l) : strip l = words (val l).toNat := by
  induction l with
  | nil => simp [strip_nil, val, zcb]
  | cons x l ih =>
    have h1 := ih h.tail
    have h2 := h.head
    have h3 := zd8 h.tail
    rw [ziS, h1]
    simp only [val, zd0]
    by_cases hz : (val l).toNat = 0 ∧ x = 0
    · rw [if_pos hz, show (x + 4294967296 * val l).toNat = 0 by omega, zcb]
    · have hne : (x + 4294967296 * val l).toNat ≠ 0 := by omega
      have e1 : (((x + 4294967296 * val l).toNat % 4294967296 : Nat) : Int) = x := by omega
      have e2 : (x + 4294967296 * val l).toNat / 4294967296 = (val l).toNat := by omega
      rw [if_neg hz, zdB hne, e1, e2]
theorem zkT (n : Nat) : strip (words n) = words n := by rw [zds (zeU n), zdy]; rfl
theorem zlP {m n : Nat} (h : words m = words n) : m = n := by
  have := congrArg val h
  rw [zdy, zdy] at this
  omega
theorem zlS (n : Nat) : (words n).length ≤ n := by
  induction n using Nat.strongRecOn with
  | ind n ih =>
    by_cases h : n = 0
    · subst h; rw [zcb]; simp
    · rw [zdB h]
      have := ih (n / 4294967296) (by omega)
      simp only [List.length_cons]
      omega
def dec (n : Nat) : List UInt8 := if n < 10 then [UInt8.ofNat (48 + n)] else dec (n / 10) ++ [UInt8.ofNat (48 + n % 10)]
termination_by n
decreasing_by omega
theorem zlc (n : Nat) : dec n ≠ [] := by rw [dec]; split <;> simp
theorem zf5 (n : Nat) (h : 10 ≤ n) : dec n = dec (n / 10) ++ [UInt8.ofNat (48 + n % 10)] := by rw [dec.eq_1 n, if_neg (by omega)]
theorem zdT (n : Nat) (h : n < 10) : dec n = [UInt8.ofNat (48 + n)] := by rw [dec, if_pos h]
def fixd : Nat → Nat → List UInt8
  | 0, _ => []
  | w + 1, n => fixd w (n / 10) ++ [UInt8.ofNat (48 + n % 10)]
theorem zhy (w n : Nat) : (fixd w n).length = w := by
  induction w generalizing n with
  | zero => rfl
  | succ w ih => simp [fixd, ih]
theorem zkc (a b n : Nat) : fixd (a + b) n = fixd a (n / 10 ^ b) ++ fixd b n := by
  induction b generalizing n with
  | zero => simp [fixd]
  | succ b ih =>
    rw [← Nat.add_assoc, fixd, ih, fixd, List.append_assoc, Nat.div_div_eq_div_mul, show 10 * 10 ^ b = 10 ^ (b + 1) by rw [Nat.pow_succ, Nat.mul_comm]]
theorem zjJ (b n : Nat) : fixd b (n % 10 ^ b) = fixd b n := by
  induction b generalizing n with
  | zero => rfl
  | succ b ih =>
    simp only [fixd]
    have h1 : n % 10 ^ (b + 1) / 10 = n / 10 % 10 ^ b := by
      rw [Nat.pow_succ, Nat.mul_comm, Nat.mod_mul_right_div_self]
    have h2 : n % 10 ^ (b + 1) % 10 = n % 10 := by
      rw [Nat.pow_succ, Nat.mul_comm, Nat.mod_mul_right_mod]
    rw [h1, h2, ih]
theorem zlg (d : Nat) (h : d < 10) (h0 : d ≠ 0) : (UInt8.ofNat (48 + d) == 48) = false := by
  have : d = 1 ∨ d = 2 ∨ d = 3 ∨ d = 4 ∨ d = 5 ∨ d = 6 ∨ d = 7 ∨ d = 8 ∨ d = 9 := by omega
  rcases this with rfl | rfl | rfl | rfl | rfl | rfl | rfl | rfl | rfl <;> rfl
theorem zjq (w n : Nat) (h : n < 10 ^ w) : (fixd w n).dropWhile (· == 48) = if n = 0 then [] else dec n := by
  induction w generalizing n with
  | zero =>
    have : n = 0 := by simpa using h
    simp [this, fixd]
  | succ w ih =>
    rw [fixd, List.dropWhile_append, ih (n / 10) (by rw [Nat.pow_succ] at h; omega)]
    by_cases h0 : n / 10 = 0
    · rw [if_pos h0]
      by_cases hn : n = 0
      · subst hn; simp
      · have hm : n % 10 = n := by omega
        have hlt : n < 10 := by omega
        have hd := zlg n hlt hn
        rw [if_neg hn, zdT n hlt, hm]
        simp only [List.isEmpty_nil, if_true, List.dropWhile_cons, hd, Bool.false_eq_true, if_false]
    · have h10 : 10 ≤ n := by omega
      have hn : ¬ n = 0 := by omega
      have hne : (dec (n / 10)).isEmpty = false := by
        have := zlc (n / 10)
        cases h : dec (n / 10) with
        | nil => exact absurd h this
        | cons _ _ => rfl
      rw [if_neg h0, if_neg hn, zf5 n h10, hne]; rfl
end Go.Proofs.YtbicjgaadknmfaaDoor.M
end
section
namespace Go.Proofs.YtbicjgaadknmfaaDoor.M
open Go.RowKit Go.Proofs.YtbicjgaadknmfaaDoorW.PrintWords Go.Proofs.YtbicjgaadknmfaaDoor.P
set_option linter.unusedVariables false
set_option linter.unusedSimpArgs false
theorem u64w (n : Int) : IntKind.u64.wrap n = n % 18446744073709551616 := by simp [IntKind.wrap, IntKind.bits, IntKind.signed]
theorem zdG {n : Int} (h0 : 0 ≤ n) (h : n < 18446744073709551616) : IntKind.u64.wrap n = n := by rw [u64w]; omega
theorem or32 {x y : Int} (h0 : 0 ≤ x) (h1 : x < 4294967296) (h2 : 0 ≤ y) (h3 : y < 4294967296) : Go.bits .or .u64 (x * 4294967296) y = x * 4294967296 + y :=
  bits_join .u64 64 (by decide) (fun n h0 h1 => zdG h0 (by omega)) 32 _ _ (by omega) (by omega) (by omega) h2 (by omega) (by omega)
theorem zkK {a b y : Int} (h0 : 0 ≤ a) (h1 : a < y) (hy : y < 4294967296) (h2 : 0 ≤ b) (h3 : b < 4294967296) : zdJ.f a b y = some ((a * 4294967296 + b) / y, (a * 4294967296 + b) % y, true) := by
  have hq0 : 0 ≤ (a * 4294967296 + b) / y := Int.ediv_nonneg (by omega) (by omega)
  have hq1 : (a * 4294967296 + b) / y < 4294967296 := by
    apply Int.ediv_lt_of_lt_mul (by omega)
    have : (a + 1) * 4294967296 ≤ y * 4294967296 := by omega
    grind
  have hr0 : 0 ≤ (a * 4294967296 + b) % y := Int.emod_nonneg _ (by omega)
  have hr1 : (a * 4294967296 + b) % y < y := Int.emod_lt_of_pos _ (by omega)
  unfold zdJ.f
  rw [if_neg (by omega), zdG (n := y) (by omega) (by omega), if_neg (by omega), zdG (n := a) (by omega) (by omega), zdG (n := b) (by omega) (by omega), zdG (n := a * 4294967296) (by omega) (by omega),
    or32 (by omega) (by omega) (by omega) (by omega), Int.tdiv_eq_ediv_of_nonneg (by omega), Int.tmod_eq_emod_of_nonneg (by omega), zdG hq0 (by omega), Int.emod_eq_of_lt hq0 hq1, Int.emod_eq_of_lt hr0 (by omega)]
theorem zdY {l : List Int} {i : Nat} (h : i < l.length) : rd l (i : Int) = l[i] := by
  unfold rd
  simp [List.getD_eq_getElem?_getD, h]
theorem zgg {q r a x : Int} (h : q * x + r = a) (h0 : 0 ≤ r) (h1 : r < x) : a / x = q ∧ a % x = r := by
  have hx : 0 < x := by omega
  subst h
  constructor
  · rw [Int.mul_comm, Int.add_comm, Int.add_mul_ediv_left _ _ (by omega), Int.ediv_eq_zero_of_lt h0 h1]; omega
  · rw [Int.mul_comm, Int.add_comm, Int.add_mul_emod_self_left, Int.emod_eq_of_lt h0 h1]
theorem zjt (j : Nat) (q : Int) (qs : List Int) : (List.replicate (j + 1) 0 ++ qs).set j q = List.replicate j 0 ++ (q :: qs) := by
  rw [List.replicate_succ', List.append_assoc, List.set_append_right _ _ (by simp)]
  simp
theorem zjT {l : List Int} {x : Int} (hl : Wl l) (hx0 : 0 < x) (hx : x < 4294967296) (hn : l.length ≤ 35184372088832) (j : Nat) :
    ∀ (qs : List Int) (r : Int), j ≤ l.length → qs.length = l.length - j → Wl qs → val qs * x + r = val (l.drop j) → 0 ≤ r → r < x →
      Ev (fun k => zbp.l0 k l x (List.replicate j 0 ++ qs) r ((j : Int) - 1)) (words (val l / x).toNat, val l % x, true) := by
  induction j with
  | zero =>
    intro qs r _ hq hw hv h0 h1
    refine Ev.step (f := fun _ => some (words (val l / x).toNat, val l % x, true)) (fun k => ?_) (Ev.now _)
    simp only [zbp.l0, List.replicate_zero, List.nil_append]
    rw [if_neg (by omega)]
    unfold zcL.f
    obtain ⟨e1, e2⟩ := zgg hv h0 h1
    rw [if_pos (by omega), Option.bind_some, zds hw, show val l = val (l.drop 0) from rfl, e1, e2]
  | succ j ih =>
    intro qs r hj hq hw hv h0 h1
    have hi : j < l.length := by omega
    have hg := hl.get j hi
    have hd := zkK h0 h1 hx hg.1 hg.2
    have hq0 : 0 ≤ (r * 4294967296 + l[j]) / x := Int.ediv_nonneg (by omega) (by omega)
    have hq1 : (r * 4294967296 + l[j]) / x < 4294967296 := by
      apply Int.ediv_lt_of_lt_mul (by omega)
      have : (r + 1) * 4294967296 ≤ x * 4294967296 := by omega
      grind
    have hr0 : 0 ≤ (r * 4294967296 + l[j]) % x := Int.emod_nonneg _ (by omega)
    have hr1 : (r * 4294967296 + l[j]) % x < x := Int.emod_lt_of_pos _ (by omega)
    have hdm := Int.mul_ediv_add_emod (r * 4294967296 + l[j]) x
    have hv' : val ((r * 4294967296 + l[j]) / x :: qs) * x + (r * 4294967296 + l[j]) % x = val (l.drop j) := by
      rw [List.drop_eq_getElem_cons hi]
      simp only [val]
      rw [← hv]
      grind
    have hk := ih ((r * 4294967296 + l[j]) / x :: qs) _ (by omega) (by simp; omega) (Wl.cons hq0 hq1 hw) hv' hr0 hr1
    refine Ev.step (fun k => ?_) hk
    simp only [zbp.l0]
    have e1 : ((j + 1 : Nat) : Int) - 1 = (j : Int) := by omega
    rw [e1, if_pos (by omega), if_pos (by omega), if_pos (by omega), zdY hi, hd, Option.bind_some, if_pos (by simp; omega), show ((j : Int)).toNat = j from by omega, zjt, zbh (by omega) (by omega)]
theorem zj9 {l : List Int} {x : Int} (hl : Wl l) (hx0 : 0 < x) (hx : x < 4294967296) (hn : l.length ≤ 35184372088832) :
    Ev (fun k => zbp.f k l x) (words (val l / x).toNat, val l % x, true) := by
  refine Ev.congr (fun k => ?_) (zjT hl hx0 hx hn l.length [] 0 (Nat.le_refl _) (by simp) Wl.nil (by simp [val]) (by omega) hx0)
  unfold zbp.f
  rw [if_neg (by omega), if_pos (by omega), if_pos (by omega), zbh (by omega) (by omega), List.append_nil, Int.toNat_natCast]
end Go.Proofs.YtbicjgaadknmfaaDoor.M
end
section
namespace Go.Proofs.YtbicjgaadknmfaaDoor.P
open Go.RowKit Go.Proofs.YtbicjgaadknmfaaDoorW.PrintWords
set_option linter.unusedVariables false
set_option linter.unusedSimpArgs false
def zgb (x : Int) : List Int := [48 + x / 10 / 10 / 10 / 10 / 10 / 10 / 10 / 10 % 10, 48 + x / 10 / 10 / 10 / 10 / 10 / 10 / 10 % 10, 48 + x / 10 / 10 / 10 / 10 / 10 / 10 % 10, 48 + x / 10 / 10 / 10 / 10 / 10 % 10, 48 + x / 10 / 10 / 10 / 10 % 10, 48 + x / 10 / 10 / 10 % 10, 48 + x / 10 / 10 % 10, 48 + x / 10 % 10, 48 + x % 10]
def zdd.f (a0 : Int) : Option ByteArray := if 0 ≤ a0 then if a0 < 1000000000 then some (strOfNums (zgb a0)) else none else none
set_option maxHeartbeats 4000000 in
set_option maxRecDepth 100000 in
theorem zdd.calls (a0 : Int) (r : ByteArray) (w : World) (h : zdd.f a0 = some r) :
    Calls Tryd.prog 67 #[.int .u32 a0] w fun e w' => e = .returned (.string r) ∧ Below w.heap.size w w' := by
  unfold zdd.f at h
  split at h
  case isFalse => cases h
  case isTrue h0 =>
  split at h
  case isFalse => cases h
  case isTrue h1 =>
  have hr := zaa.mk (Option.some.inj h).symm
  clear h
  generalize a0 = x at *
  have hcv : (convert 111 9 (.slice (some ⟨w.heap.size, 0, none⟩) 9 9)).run Tryd.prog (w.alloc (.cells #[Value.int IntKind.u8 (48 + x / 10 / 10 / 10 / 10 / 10 / 10 / 10 / 10 % 10), Value.int IntKind.u8 (48 + x / 10 / 10 / 10 / 10 / 10 / 10 / 10 % 10), Value.int IntKind.u8 (48 + x / 10 / 10 / 10 / 10 / 10 / 10 % 10), Value.int IntKind.u8 (48 + x / 10 / 10 / 10 / 10 / 10 % 10), Value.int IntKind.u8 (48 + x / 10 / 10 / 10 / 10 % 10), Value.int IntKind.u8 (48 + x / 10 / 10 / 10 % 10), Value.int IntKind.u8 (48 + x / 10 / 10 % 10), Value.int IntKind.u8 (48 + x / 10 % 10), Value.int IntKind.u8 (48 + x % 10)] 172)) = .ok (.string (strOfNums (zgb x))) (w.alloc (.cells #[Value.int IntKind.u8 (48 + x / 10 / 10 / 10 / 10 / 10 / 10 / 10 / 10 % 10), Value.int IntKind.u8 (48 + x / 10 / 10 / 10 / 10 / 10 / 10 / 10 % 10), Value.int IntKind.u8 (48 + x / 10 / 10 / 10 / 10 / 10 / 10 % 10), Value.int IntKind.u8 (48 + x / 10 / 10 / 10 / 10 / 10 % 10), Value.int IntKind.u8 (48 + x / 10 / 10 / 10 / 10 % 10), Value.int IntKind.u8 (48 + x / 10 / 10 / 10 % 10), Value.int IntKind.u8 (48 + x / 10 / 10 % 10), Value.int IntKind.u8 (48 + x / 10 % 10), Value.int IntKind.u8 (48 + x % 10)] 172)) :=
    run_convert_bytes_arg _ 111 5 Tryd.underlying111 Tryd.underlying5 w.heap.size 0 9 9 (zgb x) rfl (fun i hi => by
      rw [World.cell?, heap_alloc_new]
      have : i = 0 ∨ i = 1 ∨ i = 2 ∨ i = 3 ∨ i = 4 ∨ i = 5 ∨ i = 6 ∨ i = 7 ∨ i = 8 := by omega
      rcases this with rfl | rfl | rfl | rfl | rfl | rfl | rfl | rfl | rfl <;> rfl) 9 Tryd.underlying9
  go_enter Tryd.func67, Tryd.ntmps67
  go_wp2
  go_rounds 10
  go_ret
  rw [hr.out]
  exact ⟨rfl, (Below.refl _ _).alloc (Nat.le_refl _) _⟩
end Go.Proofs.YtbicjgaadknmfaaDoor.P
end
section
namespace Go.Proofs.YtbicjgaadknmfaaDoor.M
open Go.RowKit Go.Proofs.YtbicjgaadknmfaaDoorW.PrintWords Go.Proofs.YtbicjgaadknmfaaDoor.P
set_option linter.unusedVariables false
set_option linter.unusedSimpArgs false
theorem zf8 {n k : Nat} (h : n < 4294967296 ^ k) : (words n).length ≤ k := by
  induction k generalizing n with
  | zero =>
    have : n = 0 := by simpa using h
    subst this; rw [zcb]; simp
  | succ k ih =>
    by_cases hn : n = 0
    · subst hn; rw [zcb]; simp
    · rw [zdB hn]
      have := ih (n := n / 4294967296) (by rw [Nat.pow_succ] at h; omega)
      simp only [List.length_cons]; omega
theorem zeH {l : List Int} (h : Wl l) : (val l).toNat < 4294967296 ^ l.length := by
  have h1 := zk5 h
  have h2 := zd8 h
  have h3 : ((4294967296 ^ l.length : Nat) : Int) = (4294967296 : Int) ^ l.length := by simp
  omega
def chunk (n : Nat) (i : Nat) : ByteArray := ofL (fixd 9 (n / 10 ^ (9 * i)))
def chunks (n m : Nat) : List ByteArray := (List.range m).map (chunk n)
theorem zh2 (n m : Nat) : chunks n (m + 1) = chunks n m ++ [chunk n m] := by simp [chunks, List.range_succ]
theorem zeV (n m : Nat) : (chunks n m).length = m := by simp [chunks]
theorem zc7 (n m i : Nat) (h : i < m) : (chunks n m)[i]? = some (chunk n i) := by simp [chunks, h]
theorem zkO {r : Int} (h0 : 0 ≤ r) : strOfNums (zgb r) = ofL (fixd 9 r.toNat) := by
  obtain ⟨n, rfl⟩ := Int.eq_ofNat_of_zero_le h0
  unfold strOfNums ofL zgb
  congr 1
def zcU (n m j : Nat) : List UInt8 := fixd (9 * (m - j)) (n / 10 ^ (9 * j))
theorem zho (n m : Nat) : zcU n m m = [] := by simp [zcU, fixd]
theorem zhb (n m j : Nat) (h : j < m) : zcU n m j = zcU n m (j + 1) ++ fixd 9 (n / 10 ^ (9 * j)) := by
  unfold zcU
  rw [show 9 * (m - j) = 9 * (m - (j + 1)) + 9 by omega, zkc, Nat.div_div_eq_div_mul, ← Nat.pow_add, show 9 * j + 9 = 9 * (j + 1) by omega]
theorem zfB (n m j : Nat) : (zcU n m j).length = 9 * (m - j) := zhy _ _
theorem zhj {n m : Nat} (h : n / 10 ^ (9 * m) = 0) (hn : n ≠ 0) : (zcU n m 0).dropWhile (· == 48) = dec n := by
  unfold zcU
  simp only [Nat.sub_zero, Nat.mul_zero, Nat.pow_zero, Nat.div_one]
  have hp : 0 < 10 ^ (9 * m) := Nat.pow_pos (by decide)
  rw [zjq _ _ (by rcases Nat.lt_or_ge n (10 ^ (9 * m)) with h' | h'; exact h'; have := Nat.div_pos h' hp; omega), if_neg hn]
theorem zh0 {n m L : Nat} (hn : n < 4294967296 ^ L) (h : n / 10 ^ (9 * m) ≠ 0) : m ≤ 32 * L := by
  have h1 : 10 ^ (9 * m) ≤ n := by
    rcases Nat.lt_or_ge n (10 ^ (9 * m)) with h' | h'
    · exact absurd (Nat.div_eq_of_lt h') h
    · exact h'
  have h2 : 2 ^ m ≤ 10 ^ (9 * m) := by
    rw [Nat.pow_mul]
    exact Nat.pow_le_pow_left (by decide) m
  have h3 : 2 ^ m < 2 ^ (32 * L) := by
    rw [Nat.pow_mul]
    exact Nat.lt_of_le_of_lt (Nat.le_trans h2 h1) hn
  exact Nat.le_of_lt ((Nat.pow_lt_pow_iff_right (by decide)).1 h3)
theorem zj2 (l : List UInt8) (c : UInt8) (hl : l.length ≤ 140737488351232) : Ev (fun k => strings_trimLeftByte.f k (ofL l) (c.toNat : Int)) (ofL (l.dropWhile (· == c))) := by
  unfold strings_trimLeftByte.f
  induction l with
  | nil =>
    refine Ev.step (f := fun _ => some (ofL [])) (fun k => ?_) (Ev.now _)
    simp only [strings_trimLeftByte.l0]
    rw [if_neg (by simp)]
  | cons x l ih =>
    have hb : bt (ofL (x :: l)) 0 = (x.toNat : Int) := by rw [zjc]; simp
    by_cases hx : x = c
    · subst hx
      have he : (ofL (x :: l)).extract 1 (ofL (x :: l)).size = ofL l := by
        apply zgK
        rw [zfS]
        simp
      rw [List.dropWhile_cons, if_pos (by simp)]
      refine Ev.step (fun k => ?_) (ih (by simp at hl; omega))
      simp only [strings_trimLeftByte.l0]
      rw [if_pos (by simp), if_pos (by simp), hb, if_pos rfl, if_pos (by simp; omega), he]
    · rw [List.dropWhile_cons, if_neg (by simpa using hx)]
      refine Ev.step (f := fun _ => some (ofL (x :: l))) (fun k => ?_) (Ev.now _)
      simp only [strings_trimLeftByte.l0]
      rw [if_pos (by simp), if_pos (by simp), hb, if_neg (fun h => hx (UInt8.toNat_inj.1 (by omega)))]
end Go.Proofs.YtbicjgaadknmfaaDoor.M
end
section
namespace Go.Proofs.YtbicjgaadknmfaaDoor.P
open Go.RowKit Go.Proofs.YtbicjgaadknmfaaDoorW.PrintWords Go.Proofs.YtbicjgaadknmfaaDoor.M
set_option linter.unusedVariables false
set_option linter.unusedSimpArgs false
theorem zkx : (Tryd.prog.info? 9).map (fun i => (i.zero, i.size, i.bytes)) = some (some (.string ⟨#[]⟩), 1, 16) := by kernel_rfl
theorem zhg (B b : Nat) (l : List UInt8) (s : ByteArray) (w : World) (h : Lib.IsBuilder 113 5 B b (Lib.byteCells l) w) (hlen : l.length + s.size ≤ 140737488355328) (hBw : B ≤ w.heap.size) :
    Calls Tryd.prog 68 #[.pointer (some ⟨b, 0, none⟩), .string s] w fun e w' => e = .returned (.tuple #[.int .i64 s.size, .nilIface]) ∧ Lib.IsBuilder 113 5 B b (Lib.byteCells (l ++ toL s)) w' ∧ Below B w w' := by
  refine (Any.Builder_WriteString { Tryd.zgB with } Tryd.zdp B b _ s w h (by rw [Lib.byteCells_length]; exact hlen) hBw).mono ?_
  rintro e w' ⟨rfl, h1, h2⟩
  refine ⟨rfl, .inr ?_, h2⟩
  rw [show Lib.byteCells (l ++ toL s) = Lib.byteCells l ++ Lib.strCells s by simp [Lib.byteCells, Lib.strCells, toL]]
  exact h1
set_option maxHeartbeats 2000000 in
set_option maxRecDepth 100000 in
theorem zh1 (l : List UInt8) (hl : l.length ≤ 140737488351232) (w : World) :
    Calls Tryd.prog 69 #[.string (ofL l), .string ⟨#[48]⟩] w fun e w' => e = .returned (.string (ofL (l.dropWhile (· == 48)))) ∧ zar w w' := by
  obtain ⟨k, hk⟩ := (zj2 l 48 hl).rounds
  have HT := zaa.mk (fun w => strings_trimLeftByte.calls k (ofL l) 48 _ w hk)
  clear hk
  by_cases h0 : l = []
  · subst h0
    have e0 : ofL [] = (⟨#[]⟩ : ByteArray) := rfl
    rw [e0]
    go_enter Tryd.func69, Tryd.ntmps69
    go_wp2
    go_ret
    exact ⟨rfl, zar.refl _⟩
  · have hne : ((ofL l).toList == ([] : List UInt8)) = false := by rw [toList_eq, zc3]; simpa using h0
    have hb : bt (⟨#[48]⟩ : ByteArray) 0 = 48 := rfl
    generalize ofL l = s at *
    go_enter Tryd.func69, Tryd.ntmps69
    go_wp2_with (first | (go_at_call 112; refine (HT.out _).mono ?_; rintro e w' ⟨rfl, ⟨nd, rfl⟩⟩))
    go_ret
    exact ⟨rfl, ⟨⟨_, rfl⟩⟩⟩
def zhF (l : List Int) : Bool := l.all fun x => decide (0 ≤ x) && decide (x < 4294967296)
theorem zgr {l : List Int} : zhF l = true ↔ Wl l := by simp [zhF, Wl]
def zcW.f (l0 : List Int) : Option ByteArray := if zhF l0 = true then if l0.length ≤ 1000000 then some (ofL (dec (val l0).toNat)) else none else none
def zdm (n m L : Nat) (x : List Int) : Prop := Wl x ∧ val x = ((n / 10 ^ (9 * m) : Nat) : Int) ∧ x.length ≤ L
theorem zdm.step {n m L : Nat} {x : List Int} (h : zdm n m L x) : zdm n (m + 1) L (words (val x / 1000000000).toNat) := by
  obtain ⟨h1, h2, h3⟩ := h
  have e : (val x / 1000000000).toNat = n / 10 ^ (9 * (m + 1)) := by
    rw [h2, show 9 * (m + 1) = 9 * m + 9 by omega, Nat.pow_add, ← Nat.div_div_eq_div_mul]
    generalize n / 10 ^ (9 * m) = q
    omega
  refine ⟨zeU _, by rw [zdy, e], Nat.le_trans (zf8 ?_) h3⟩
  have h4 := zeH h1
  have h5 := zd8 h1
  have h6 : (val x / 1000000000).toNat ≤ (val x).toNat := by omega
  exact Nat.lt_of_le_of_lt h6 h4
theorem zdm.zero {n m L : Nat} {x : List Int} (h : zdm n m L x) : ((strip x).length = 0) ↔ n / 10 ^ (9 * m) = 0 := by
  rw [zds h.1, List.length_eq_zero_iff, zd0, h.2.1]
  generalize n / 10 ^ (9 * m) = q
  omega
theorem zdm.nine {n m L : Nat} {x : List Int} (h : zdm n m L x) : zdd.f (val x % 1000000000) = some (chunk n m) := by
  have h0 : 0 ≤ val x % 1000000000 := by omega
  unfold zdd.f
  rw [if_pos h0, if_pos (by omega), zkO h0]
  unfold chunk
  congr 2
  rw [show (val x % 1000000000).toNat = n / 10 ^ (9 * m) % 10 ^ 9 by rw [h.2.1]; generalize n / 10 ^ (9 * m) = q; omega, zjJ]
def sLen : Value → Nat
  | .slice _ n _ => n
  | _ => 0
set_option maxHeartbeats 4000000 in
set_option maxRecDepth 100000 in
theorem zcW.calls (A0 : Option Addr) (c0 : Nat) (l0 : List Int) (r : ByteArray) (w : World) (hr0 : Kd.C (Kd.int .u32) w A0 l0.length l0) (hc0 : l0.length ≤ c0) (h : zcW.f l0 = some r) :
    Calls Tryd.prog 19 #[.slice A0 l0.length c0] w fun e w' => e = .returned (.string r) ∧ Below w.heap.size w w' := by
  unfold zcW.f at h
  split at h
  case isFalse => cases h
  case isTrue h1 =>
  split at h
  case isFalse => cases h
  case isTrue h2 =>
  obtain rfl := Option.some.inj h
  clear h
  have hW := zgr.1 h1
  clear h1
  have hN : (val l0).toNat < 4294967296 ^ l0.length := zeH hW
  have hA0 : zdm (val l0).toNat 0 l0.length l0 := ⟨hW, by have := zd8 hW; rw [Nat.mul_zero, Nat.pow_zero, Nat.div_one]; omega, by omega⟩
  generalize (val l0).toNat = n at *
  generalize hL : l0.length = L at *
  have HN := zaa.mk hN
  have HA := zaa.mk hA0
  clear hN hA0 hW
  have HC := zaa.mk hr0
  have HB := zaa.mk (Below.refl w.heap.size w)
  clear hr0
  by_cases hz : n = 0
  · have hzz : zci.f l0 = some true := by
      unfold zci.f
      rw [decide_eq_true (HA.out.zero.2 (by simp [hz]))]
    have HZ := zaa.mk (fun w (hr0 : Kd.C (Kd.int .u32) w A0 L l0) => zci.calls A0 c0 l0 true w (by rw [hL]; exact hr0) (by omega) hzz)
    rw [hL] at HZ
    clear hzz
    rw [hz]
    go_enter Tryd.func19, Tryd.ntmps19
    go_wp2_with (first | (go_at_call 65; refine (HZ.out _ HC.out).mono ?_; rintro e w' ⟨rfl, ⟨nd, rfl⟩⟩))
    go_ret
    refine ⟨?_, zab (Below.refl _ _) nd⟩
    rw [zdT 0 (by decide)]
    rfl
  · have hzz : zci.f l0 = some false := by
      unfold zci.f
      rw [decide_eq_false (fun h => hz (by have := HA.out.zero.1 h; simpa using this))]
    have HZ := zaa.mk (fun w (hr0 : Kd.C (Kd.int .u32) w A0 L l0) => zci.calls A0 c0 l0 false w (by rw [hL]; exact hr0) (by omega) hzz)
    rw [hL] at HZ
    clear hzz
    go_enter Tryd.func19, Tryd.ntmps19
    go_wp2_with (first | (go_at_call 65; refine (HZ.out _ HC.out).mono ?_; rintro e w' ⟨rfl, ⟨nd, rfl⟩⟩))
    go_loopw [0, 3] (fun v0 v3 w' => ∃ (m : Nat) (x : List Int) (A : Option Addr) (c : Nat), v0 = .slice A x.length c ∧ x.length ≤ c ∧ zaa (Kd.C (Kd.int .u32) w' A x.length x) ∧ zaa (Kd.R Kd.string 9 w' w.heap.size (fun _ => True) v3 (chunks n m)) ∧ zaa (zdm n m L x) ∧ m ≤ 32 * L + 1 ∧ zaa (Below w.heap.size w w')) (fun v0 v3 w' => 32 * L + 1 - sLen v3)
    case atStart =>
      refine ⟨0, l0, A0, c0, by rw [hL], by omega, ⟨by rw [hL]; exact Kd.zaY HC.out _⟩, ⟨?_⟩, HA, by omega, ⟨zab HB.out _⟩⟩
      exact Kd.zdg _ _ _ _ _
    case round =>
      obtain ⟨m, x, A, c, rfl, hc, hx, hd, ha, hmb, hb⟩ := hrel
      clear HZ
      have HX := hx
      have HD := hd
      have HB2 := hb
      clear hx hd hb
      by_cases hq : n / 10 ^ (9 * m) = 0
      · have hzz : zci.f x = some true := by
          unfold zci.f
          rw [decide_eq_true (ha.out.zero.2 hq)]
        have HZ := zaa.mk (fun w (hr0 : Kd.C (Kd.int .u32) w A x.length x) => zci.calls A c x true w hr0 hc hzz)
        clear hzz
        obtain ⟨Bd, cB, rfl⟩ := Kd.zbO HD.out
        have HDC := zaa.mk (Kd.zbD HD.out).2.2
        have HQ0 := zaa.mk hq
        rw [zeV] at *
        clear HD hq
        go_wp2_with (first | (go_at_call 65; refine (HZ.out _ HX.out).mono ?_; rintro e w' ⟨rfl, ⟨nd, rfl⟩⟩))
        obtain ⟨w1, rfl⟩ : ∃ x, x = wr := ⟨wr, rfl⟩
        have hBld := zaa.mk (Lib.fresh_isBuilder 113 5 (w1.drewN nd))
        go_loopw [8] (fun v8 w' => ∃ j : Nat, j ≤ m ∧ v8 = .int .i64 ((j : Int) - 1) ∧ zaa (Lib.IsBuilder 113 5 w1.heap.size w1.heap.size (Lib.byteCells (zcU n m j)) w') ∧ zaa (Below w1.heap.size w1 w')) (fun v8 _ => (intOf v8 + 1).toNat)
        case atStart =>
          refine ⟨m, Nat.le_refl _, rfl, ⟨by rw [zho]; exact hBld.out⟩, ⟨zac (zab (Below.refl _ _) _) _⟩⟩
        case round =>
          obtain ⟨j, hj, rfl, hbl, hbb⟩ := hrel
          have HBL := hbl
          have HBB := hbb
          clear hbl hbb hBld
          cases j with
          | zero =>
            have HS := zaa.mk (Tryd.Builder_String_any _ _ _ _ HBL.out HBB.out.size)
            have HTR := zaa.mk (fun w => zh1 (zcU n m 0) (by rw [zfB]; omega) w)
            rw [zhj HQ0.out hz] at HTR
            clear HBL
            go_wp2_with (first | (go_at_call 70; refine HS.out.mono ?_; rintro e w' ⟨rfl, hb3⟩; have HB3 := zaa.mk hb3; clear hb3) | (go_at_call 69; refine (HTR.out _).mono ?_; rintro e w'' ⟨rfl, ⟨nd, rfl⟩⟩))
            go_ret
            exact ⟨rfl, zab (zat HB2.out (HBB.out.trans HB3.out)) nd⟩
          | succ j =>
            obtain ⟨ad, rfl, hcell⟩ := Kd.zjD HDC.out (j : Int) (by omega) (by omega)
            have hcl := (HBB.out.cell (World.block_lt_of_cell? _ _ hcell)).trans hcell
            clear hcell
            rw [Int.toNat_natCast] at hcl
            rw [show rdOf ByteArray.empty (chunks n m) (j : Int) = chunk n j by simp [rdOf, List.getD_eq_getElem?_getD, zc7 n m j (by omega)]] at hcl
            have hjm : (j : Int) < (m : Int) := by omega
            have HWR := zaa.mk (zhg _ _ _ (chunk n j) _ HBL.out (by rw [zfB]; unfold chunk; simp [zhy]; omega) HBB.out.size)
            clear HBL
            go_wp2_with (first | (go_at_call 68; refine HWR.out.mono ?_; rintro e w' ⟨rfl, hb3, hb4⟩; have HB3 := zaa.mk hb3; have HB4 := zaa.mk hb4; clear hb3 hb4))
            refine ⟨⟨j, by omega, rfl, ⟨?_⟩, ⟨HBB.out.trans HB4.out⟩⟩, by simp [intOf]⟩
            have := HB3.out
            rw [zhb _ _ _ (by omega)]
            unfold chunk at this
            rw [zc3] at this
            exact this
      · have hm := zaa.mk (zh0 HN.out hq)
        have hzz : zci.f x = some false := by
          unfold zci.f
          rw [decide_eq_false (fun h => hq (ha.out.zero.1 h))]
        have HZ := zaa.mk (fun w (hr0 : Kd.C (Kd.int .u32) w A x.length x) => zci.calls A c x false w hr0 hc hzz)
        clear hzz hq
        obtain ⟨k, hk⟩ := (zj9 ha.out.1 (by decide) (by decide) (by have := ha.out.2.2; omega) : Ev (fun k => zbp.f k x 1000000000) _).rounds
        have HQ := zaa.mk (fun w (hr0 : Kd.C (Kd.int .u32) w A x.length x) => zbp.calls k A c x 1000000000 _ _ _ w hr0 hc hk)
        clear hk
        have HK := zaa.mk (fun w => zdd.calls _ _ w ha.out.nine)
        have HA2 := zaa.mk ha.out.step
        generalize val x / 1000000000 = q1 at *
        generalize val x % 1000000000 = q2 at *
        go_wp2_with (first | (go_at_call 65; refine (HZ.out _ HX.out).mono ?_; rintro e w' ⟨rfl, ⟨nd, rfl⟩⟩) | (go_at_call 66; refine (HQ.out _ (Kd.zaY HX.out _)).mono ?_; rintro e w' ⟨vq, rfl, hq1, hb1⟩; have HQ1 := zaa.mk hq1; have HB3 := zaa.mk hb1; clear hq1 hb1) | (go_at_call 67; refine (HK.out _).mono ?_; rintro e w'' ⟨rfl, hb2⟩; have HB4 := zaa.mk hb2; clear hb2; have HBW := zaa.mk (zat (zat (zab HB2.out nd) HB3.out) HB4.out)) | ((with_reducible refine zcw (b := .append) (xs := #[.tmp 20, .tmp 23]) rfl ?_); at_builtin; refine Kd.zem Kd.string (w0 := w) w.heap.size rfl (.tmp 20) (.tmp 23) 106 9 (.string ⟨#[]⟩) 16 rfl Tryd.underlying106 zkx rfl (by decide) (by omega) _ (chunks n m) (chunk n m) [.string (chunk n m)] (fun _ => True) (fun _ => False) rfl rfl ?aP (fun _ hk => hk.elim) ?aF ?aO ?aB ?aS ?aL ?_; (case aP => exact rfl); (case aF => exact (fun _ _ => trivial)); (case aB => exact HBW.out); (case aO => exact Kd.zcR (Kd.zcR (Kd.zbl HD.out _) HB3.out) HB4.out); (case aS => exact zas HBW.out); (case aL => rw [zeV]; have := hm.out; omega); intro v1 w3 ho hb hg hat; have HO := zaa.mk ho; have HBN := zaa.mk hb; have HG := zaa.mk hg; clear ho hb hg hat))
        have hq3 := Kd.zlu (Kd.zcR HQ1.out HB4.out) (Kd.zcR (Kd.zcR (Kd.zbl HD.out _) HB3.out) HB4.out) (by intro q hq; simp [Kd.int, Kd.scalar] at hq; subst hq; decide) HG.out
        obtain ⟨Aq, cq, rfl⟩ := Kd.zbO hq3
        obtain ⟨Av, cv, rfl⟩ := Kd.zbO HO.out
        obtain ⟨Au, cu, rfl⟩ := Kd.zbO HD.out
        obtain ⟨_, hle, hcc⟩ := Kd.zbD hq3
        have hm' := hm.out
        have hO := HO.out
        rw [← zh2] at *
        refine ⟨⟨m + 1, _, Aq, cq, rfl, hle, ⟨hcc⟩, ⟨hO⟩, HA2, by omega, HBN⟩, ?_⟩
        simp only [sLen, zeV]
        omega
end Go.Proofs.YtbicjgaadknmfaaDoor.P
end
