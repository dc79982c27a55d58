/- Contract by hand: digits.Text, what it says of the number; strings.TrimLeft of noughts. -/
import Derived.Test.YtbicjgaadknmfaaDoorNc
import Derived.Test.YtbicjgaadknmfaaDoorShelf
namespace Go.Proofs.YtbicjgaadknmfaaDoor.P
open Go.RowKit Go.Proofs.YtbicjgaadknmfaaDoorW.PrintWords Go.Proofs.YtbicjgaadknmfaaDoor.M
set_option linter.unusedVariables false
set_option linter.unusedSimpArgs false

theorem infoStr : (Tryd.prog.info? 9).map (fun i => (i.zero, i.size, i.bytes)) = some (some (.string ⟨#[]⟩), 1, 16) := by kernel_rfl
theorem builderWrites (B b : Nat) (l : List UInt8) (s : ByteArray) (w : World) (h : Lib.IsBuilder 113 5 B b (Lib.byteCells l) w) (hlen : l.length + s.size ≤ 140737488355328) (hBw : B ≤ w.heap.size) :
    Calls Tryd.prog 68 #[.pointer (some ⟨b, 0, none⟩), .string s] w fun e w' => e = .returned (.tuple #[.int .i64 s.size, .nilIface]) ∧ Lib.IsBuilder 113 5 B b (Lib.byteCells (l ++ toL s)) w' ∧ Below B w w' := by
  refine (Any.Builder_WriteString { Tryd.lays156 with } Tryd.Builder_Extra_156 B b _ s w h (by rw [Lib.byteCells_length]; exact hlen) hBw).mono ?_
  rintro e w' ⟨rfl, h1, h2⟩
  refine ⟨rfl, .inr ?_, h2⟩
  rw [show Lib.byteCells (l ++ toL s) = Lib.byteCells l ++ Lib.strCells s by simp [Lib.byteCells, Lib.strCells, toL]]
  exact h1
set_option maxHeartbeats 2000000 in
set_option maxRecDepth 100000 in
theorem trimNoughts (l : List UInt8) (hl : l.length ≤ 140737488351232) (w : World) :
    Calls Tryd.prog 69 #[.string (ofL l), .string ⟨#[48]⟩] w fun e w' => e = .returned (.string (ofL (l.dropWhile (· == 48)))) ∧ Drawn0 w w' := by
  obtain ⟨k, hk⟩ := (trimByte l 48 hl).rounds
  have HT := Aside0.mk (fun w => strings_trimLeftByte.calls k (ofL l) 48 _ w hk)
  clear hk
  by_cases h0 : l = []
  · subst h0
    have e0 : ofL [] = (⟨#[]⟩ : ByteArray) := rfl
    rw [e0]
    go_enter Tryd.func69, Tryd.ntmps69
    go_wp2
    go_ret
    exact ⟨rfl, Drawn0.refl _⟩
  · have hne : ((ofL l).toList == ([] : List UInt8)) = false := by rw [toList_eq, toL_ofL]; simpa using h0
    have hb : bt (⟨#[48]⟩ : ByteArray) 0 = 48 := rfl
    generalize ofL l = s at *
    go_enter Tryd.func69, Tryd.ntmps69
    go_wp2_with (first | (go_at_call 112; refine (HT.out _).mono ?_; rintro e w' ⟨rfl, ⟨nd, rfl⟩⟩))
    go_ret
    exact ⟨rfl, ⟨⟨_, rfl⟩⟩⟩

/-- numbers of 32 bits, as a test. -/
def wordsB (l : List Int) : Bool := l.all fun x => decide (0 ≤ x) && decide (x < 4294967296)
theorem wordsB_iff {l : List Int} : wordsB l = true ↔ Wl l := by simp [wordsB, Wl]
def digits_Text.f (l0 : List Int) : Option ByteArray := if wordsB l0 = true then if l0.length ≤ 1000000 then some (ofL (dec (val l0).toNat)) else none else none

/-- what a list that is divided on is: a number's words, after so many chunks. -/
def AtChunk (n m L : Nat) (x : List Int) : Prop := Wl x ∧ val x = ((n / 10 ^ (9 * m) : Nat) : Int) ∧ x.length ≤ L
theorem AtChunk.step {n m L : Nat} {x : List Int} (h : AtChunk n m L x) : AtChunk n (m + 1) L (words (val x / 1000000000).toNat) := by
  obtain ⟨h1, h2, h3⟩ := h
  have e : (val x / 1000000000).toNat = n / 10 ^ (9 * (m + 1)) := by
    rw [h2, show 9 * (m + 1) = 9 * m + 9 by omega, Nat.pow_add, ← Nat.div_div_eq_div_mul]
    generalize n / 10 ^ (9 * m) = q
    omega
  refine ⟨Wl_words _, by rw [val_words, e], Nat.le_trans (words_le ?_) h3⟩
  have h4 := val_ltN h1
  have h5 := val_nonneg h1
  have h6 : (val x / 1000000000).toNat ≤ (val x).toNat := by omega
  exact Nat.lt_of_le_of_lt h6 h4
theorem AtChunk.zero {n m L : Nat} {x : List Int} (h : AtChunk n m L x) : ((strip x).length = 0) ↔ n / 10 ^ (9 * m) = 0 := by
  rw [strip_words h.1, List.length_eq_zero_iff, words_nil_iff, h.2.1]
  generalize n / 10 ^ (9 * m) = q
  omega
theorem AtChunk.nine {n m L : Nat} {x : List Int} (h : AtChunk n m L x) : digits_nine.f (val x % 1000000000) = some (chunk n m) := by
  have h0 : 0 ≤ val x % 1000000000 := by omega
  unfold digits_nine.f
  rw [if_pos h0, if_pos (by omega), nine_eq h0]
  unfold chunk
  congr 2
  rw [show (val x % 1000000000).toNat = n / 10 ^ (9 * m) % 10 ^ 9 by rw [h.2.1]; generalize n / 10 ^ (9 * m) = q; omega, fixd_mod]

def sLen : Value → Nat
  | .slice _ n _ => n
  | _ => 0
set_option maxHeartbeats 4000000 in
set_option maxRecDepth 100000 in
theorem digits_Text.calls (A0 : Option Addr) (c0 : Nat) (l0 : List Int) (r : ByteArray) (w : World) (hr0 : Kd.C (Kd.int .u32) w A0 l0.length l0) (hc0 : l0.length ≤ c0) (h : digits_Text.f l0 = some r) :
    Calls Tryd.prog 19 #[.slice A0 l0.length c0] w fun e w' => e = .returned (.string r) ∧ Below w.heap.size w w' := by
  unfold digits_Text.f at h
  split at h
  case isFalse => cases h
  case isTrue h1 =>
  split at h
  case isFalse => cases h
  case isTrue h2 =>
  obtain rfl := Option.some.inj h
  clear h
  have hW := wordsB_iff.1 h1
  clear h1
  have hN : (val l0).toNat < 4294967296 ^ l0.length := val_ltN hW
  have hA0 : AtChunk (val l0).toNat 0 l0.length l0 := ⟨hW, by have := val_nonneg hW; rw [Nat.mul_zero, Nat.pow_zero, Nat.div_one]; omega, by omega⟩
  generalize (val l0).toNat = n at *
  generalize hL : l0.length = L at *
  have HN := Aside0.mk hN
  have HA := Aside0.mk hA0
  clear hN hA0 hW
  have HC := Aside0.mk hr0
  have HB := Aside0.mk (Below.refl w.heap.size w)
  clear hr0
  by_cases hz : n = 0
  · have hzz : nat_Zero.f l0 = some true := by
      unfold nat_Zero.f
      rw [decide_eq_true (HA.out.zero.2 (by simp [hz]))]
    have HZ := Aside0.mk (fun w (hr0 : Kd.C (Kd.int .u32) w A0 L l0) => nat_Zero.calls A0 c0 l0 true w (by rw [hL]; exact hr0) (by omega) hzz)
    rw [hL] at HZ
    clear hzz
    rw [hz]
    go_enter Tryd.func19, Tryd.ntmps19
    go_wp2_with (first | (go_at_call 65; refine (HZ.out _ HC.out).mono ?_; rintro e w' ⟨rfl, ⟨nd, rfl⟩⟩))
    go_ret
    refine ⟨?_, pw_below_drewN (Below.refl _ _) nd⟩
    rw [dec_small 0 (by decide)]
    rfl
  · have hzz : nat_Zero.f l0 = some false := by
      unfold nat_Zero.f
      rw [decide_eq_false (fun h => hz (by have := HA.out.zero.1 h; simpa using this))]
    have HZ := Aside0.mk (fun w (hr0 : Kd.C (Kd.int .u32) w A0 L l0) => nat_Zero.calls A0 c0 l0 false w (by rw [hL]; exact hr0) (by omega) hzz)
    rw [hL] at HZ
    clear hzz
    go_enter Tryd.func19, Tryd.ntmps19
    go_wp2_with (first | (go_at_call 65; refine (HZ.out _ HC.out).mono ?_; rintro e w' ⟨rfl, ⟨nd, rfl⟩⟩))
    go_loopw [0, 3] (fun v0 v3 w' => ∃ (m : Nat) (x : List Int) (A : Option Addr) (c : Nat), v0 = .slice A x.length c ∧ x.length ≤ c ∧ Aside0 (Kd.C (Kd.int .u32) w' A x.length x) ∧ Aside0 (Kd.R Kd.string 9 w' w.heap.size (fun _ => True) v3 (chunks n m)) ∧ Aside0 (AtChunk n m L x) ∧ m ≤ 32 * L + 1 ∧ Aside0 (Below w.heap.size w w')) (fun v0 v3 w' => 32 * L + 1 - sLen v3)
    case atStart =>
      refine ⟨0, l0, A0, c0, by rw [hL], by omega, ⟨by rw [hL]; exact Kd.C_drewN HC.out _⟩, ⟨?_⟩, HA, by omega, ⟨pw_below_drewN HB.out _⟩⟩
      exact Kd.R_nil _ _ _ _ _
    case round =>
      obtain ⟨m, x, A, c, rfl, hc, hx, hd, ha, hmb, hb⟩ := hrel
      clear HZ
      have HX := hx
      have HD := hd
      have HB2 := hb
      clear hx hd hb
      by_cases hq : n / 10 ^ (9 * m) = 0
      · have hzz : nat_Zero.f x = some true := by
          unfold nat_Zero.f
          rw [decide_eq_true (ha.out.zero.2 hq)]
        have HZ := Aside0.mk (fun w (hr0 : Kd.C (Kd.int .u32) w A x.length x) => nat_Zero.calls A c x true w hr0 hc hzz)
        clear hzz
        obtain ⟨Bd, cB, rfl⟩ := Kd.R_slice HD.out
        have HDC := Aside0.mk (Kd.R_reads' HD.out).2.2
        have HQ0 := Aside0.mk hq
        rw [chunks_len] at *
        clear HD hq
        go_wp2_with (first | (go_at_call 65; refine (HZ.out _ HX.out).mono ?_; rintro e w' ⟨rfl, ⟨nd, rfl⟩⟩))
        obtain ⟨w1, rfl⟩ : ∃ x, x = wr := ⟨wr, rfl⟩
        have hBld := Aside0.mk (Lib.fresh_isBuilder 113 5 (w1.drewN nd))
        go_loopw [8] (fun v8 w' => ∃ j : Nat, j ≤ m ∧ v8 = .int .i64 ((j : Int) - 1) ∧ Aside0 (Lib.IsBuilder 113 5 w1.heap.size w1.heap.size (Lib.byteCells (joinFrom n m j)) w') ∧ Aside0 (Below w1.heap.size w1 w')) (fun v8 _ => (intOf v8 + 1).toNat)
        case atStart =>
          refine ⟨m, Nat.le_refl _, rfl, ⟨by rw [joinFrom_top]; exact hBld.out⟩, ⟨below_alloc (pw_below_drewN (Below.refl _ _) _) _⟩⟩
        case round =>
          obtain ⟨j, hj, rfl, hbl, hbb⟩ := hrel
          have HBL := hbl
          have HBB := hbb
          clear hbl hbb hBld
          cases j with
          | zero =>
            have HS := Aside0.mk (Tryd.Builder_String_any _ _ _ _ HBL.out HBB.out.size)
            have HTR := Aside0.mk (fun w => trimNoughts (joinFrom n m 0) (by rw [joinFrom_len]; omega) w)
            rw [joinFrom_zero HQ0.out hz] at HTR
            clear HBL
            go_wp2_with (first | (go_at_call 70; refine HS.out.mono ?_; rintro e w' ⟨rfl, hb3⟩; have HB3 := Aside0.mk hb3; clear hb3) | (go_at_call 69; refine (HTR.out _).mono ?_; rintro e w'' ⟨rfl, ⟨nd, rfl⟩⟩))
            go_ret
            exact ⟨rfl, pw_below_drewN (below_step HB2.out (HBB.out.trans HB3.out)) nd⟩
          | succ j =>
            obtain ⟨ad, rfl, hcell⟩ := Kd.at_string HDC.out (j : Int) (by omega) (by omega)
            have hcl := (HBB.out.cell (World.block_lt_of_cell? _ _ hcell)).trans hcell
            clear hcell
            rw [Int.toNat_natCast] at hcl
            rw [show rdOf ByteArray.empty (chunks n m) (j : Int) = chunk n j by simp [rdOf, List.getD_eq_getElem?_getD, chunks_get n m j (by omega)]] at hcl
            have hjm : (j : Int) < (m : Int) := by omega
            have HWR := Aside0.mk (builderWrites _ _ _ (chunk n j) _ HBL.out (by rw [joinFrom_len]; unfold chunk; simp [fixd_len]; omega) HBB.out.size)
            clear HBL
            go_wp2_with (first | (go_at_call 68; refine HWR.out.mono ?_; rintro e w' ⟨rfl, hb3, hb4⟩; have HB3 := Aside0.mk hb3; have HB4 := Aside0.mk hb4; clear hb3 hb4))
            refine ⟨⟨j, by omega, rfl, ⟨?_⟩, ⟨HBB.out.trans HB4.out⟩⟩, by simp [intOf]⟩
            have := HB3.out
            rw [joinFrom_step _ _ _ (by omega)]
            unfold chunk at this
            rw [toL_ofL] at this
            exact this
      · have hm := Aside0.mk (chunk_bound HN.out hq)
        have hzz : nat_Zero.f x = some false := by
          unfold nat_Zero.f
          rw [decide_eq_false (fun h => hq (ha.out.zero.1 h))]
        have HZ := Aside0.mk (fun w (hr0 : Kd.C (Kd.int .u32) w A x.length x) => nat_Zero.calls A c x false w hr0 hc hzz)
        clear hzz hq
        obtain ⟨k, hk⟩ := (quotWord ha.out.1 (by decide) (by decide) (by have := ha.out.2.2; omega) : Ev (fun k => quot_Word.f k x 1000000000) _).rounds
        have HQ := Aside0.mk (fun w (hr0 : Kd.C (Kd.int .u32) w A x.length x) => quot_Word.calls k A c x 1000000000 _ _ _ w hr0 hc hk)
        clear hk
        have HK := Aside0.mk (fun w => digits_nine.calls _ _ w ha.out.nine)
        have HA2 := Aside0.mk ha.out.step
        generalize val x / 1000000000 = q1 at *
        generalize val x % 1000000000 = q2 at *
        go_wp2_with (first | (go_at_call 65; refine (HZ.out _ HX.out).mono ?_; rintro e w' ⟨rfl, ⟨nd, rfl⟩⟩) | (go_at_call 66; refine (HQ.out _ (Kd.C_drewN HX.out _)).mono ?_; rintro e w' ⟨vq, rfl, hq1, hb1⟩; have HQ1 := Aside0.mk hq1; have HB3 := Aside0.mk hb1; clear hq1 hb1) | (go_at_call 67; refine (HK.out _).mono ?_; rintro e w'' ⟨rfl, hb2⟩; have HB4 := Aside0.mk hb2; clear hb2; have HBW := Aside0.mk (below_step (below_step (pw_below_drewN HB2.out nd) HB3.out) HB4.out)) | ((with_reducible refine gate_builtin (b := .append) (xs := #[.tmp 20, .tmp 23]) rfl ?_); at_builtin; refine Kd.R_append Kd.string (w0 := w) w.heap.size rfl (.tmp 20) (.tmp 23) 106 9 (.string ⟨#[]⟩) 16 rfl Tryd.underlying106 infoStr rfl (by decide) (by omega) _ (chunks n m) (chunk n m) [.string (chunk n m)] (fun _ => True) (fun _ => False) rfl rfl ?aP (fun _ hk => hk.elim) ?aF ?aO ?aB ?aS ?aL ?_; (case aP => exact rfl); (case aF => exact (fun _ _ => trivial)); (case aB => exact HBW.out); (case aO => exact Kd.R_below (Kd.R_below (Kd.R_drewN HD.out _) HB3.out) HB4.out); (case aS => exact below_size HBW.out); (case aL => rw [chunks_len]; have := hm.out; omega); intro v1 w3 ho hb hg hat; have HO := Aside0.mk ho; have HBN := Aside0.mk hb; have HG := Aside0.mk hg; clear ho hb hg hat))
        have hq3 := Kd.R_over (Kd.R_below HQ1.out HB4.out) (Kd.R_below (Kd.R_below (Kd.R_drewN HD.out _) HB3.out) HB4.out) (by intro q hq; simp [Kd.int, Kd.scalar] at hq; subst hq; decide) HG.out
        obtain ⟨Aq, cq, rfl⟩ := Kd.R_slice hq3
        obtain ⟨Av, cv, rfl⟩ := Kd.R_slice HO.out
        obtain ⟨Au, cu, rfl⟩ := Kd.R_slice HD.out
        obtain ⟨_, hle, hcc⟩ := Kd.R_reads' hq3
        have hm' := hm.out
        have hO := HO.out
        rw [← chunks_succ] at *
        refine ⟨⟨m + 1, _, Aq, cq, rfl, hle, ⟨hcc⟩, ⟨hO⟩, HA2, by omega, HBN⟩, ?_⟩
        simp only [sLen, chunks_len]
        omega
end Go.Proofs.YtbicjgaadknmfaaDoor.P
