/- Contracts by hand: nat.trim, nat.Norm, nat.Zero, over whatever list came in. -/
import Derived.Test.YtbicjgaadknmfaaDoorProg
import Derived.Test.YtbicjgaadknmfaaDoorWWords
import Derived.Test.YtbicjgaadknmfaaDoorHc
namespace Go.Proofs.YtbicjgaadknmfaaDoor.P
open Go.RowKit Go.Proofs.YtbicjgaadknmfaaDoorW.PrintWords
set_option linter.unusedVariables false
set_option linter.unusedSimpArgs false

/-- a list without the noughts at its end. -/
def strip (l : List Int) : List Int := (l.reverse.dropWhile (fun x => x == 0)).reverse
theorem strip_zero (l : List Int) : strip (l ++ [0]) = strip l := by simp [strip]
theorem strip_ne (l : List Int) (x : Int) (h : ¬ x = 0) : strip (l ++ [x]) = l ++ [x] := by simp [strip, h]
theorem strip_nil : strip [] = [] := rfl
theorem strip_len (l : List Int) : (strip l).length ≤ l.length := by
  unfold strip
  rw [List.length_reverse]
  have := (List.dropWhile_suffix (fun x : Int => x == 0) (l := l.reverse)).length_le
  simpa using this
theorem strip_take (l : List Int) : l.take (strip l).length = strip l := by
  unfold strip
  have h := List.dropWhile_suffix (fun x : Int => x == 0) (l := l.reverse)
  have h2 := List.reverse_prefix.2 h
  rw [List.reverse_reverse] at h2
  exact (List.prefix_iff_eq_take.1 h2).symm

theorem C_take_int {w : World} {k : IntKind} {A : Option Addr} {l : List Int} (m : Nat) (hm : m ≤ l.length) (h : Kd.C (Kd.int k) w A l.length l) : Kd.C (Kd.int k) w A (l.take m).length (l.take m) := by
  refine ⟨rfl, by have := h.2.1; simp; omega, fun hp => ?_⟩
  obtain ⟨ad, e, hc⟩ := h.2.2 (by simp at hp; omega)
  refine ⟨ad, e, fun j p hj => hc j p ?_⟩
  have : j < m := by
    have := (List.getElem?_eq_some_iff.1 hj).1
    simp at this; omega
  rw [List.getElem?_take_of_lt this] at hj
  exact hj

set_option maxHeartbeats 2000000 in
set_option maxRecDepth 100000 in
theorem trimC (A0 : Option Addr) (c0 : Nat) (l0 : List Int) (w : World) (hr0 : Kd.C (Kd.int .u32) w A0 l0.length l0) (hc0 : l0.length ≤ c0) :
    Calls Tryd.prog 71 #[.slice A0 l0.length c0] w fun e w' => e = .returned (.slice A0 (strip l0).length c0) ∧ Drawn0 w w' := by
  have HR := Aside0.mk hr0
  have hmax : (l0.length : Int) ≤ 9223372036854775807 := by have := hr0.2.1; omega
  clear hr0
  obtain ⟨i0, hi0, _, _, _⟩ := info_parts infoU32
  have HCUT := Aside0.mk (fun (k : Nat) (hk : k ≤ l0.length) => cut_to (P := Tryd.prog) 23 101 .i64 Tryd.underlying23 hi0 A0 l0.length c0 (k : Int) (by omega) (by omega) hc0)
  clear hi0
  go_enter Tryd.func71, Tryd.ntmps71
  go_wp2
  go_loopw [3] (fun v w' => ∃ k : Nat, k ≤ l0.length ∧ v = .int .i64 k ∧ Aside0 (strip (l0.take k) = strip l0) ∧ Drawn0 w w') (fun v _ => (intOf v).toNat)
  case atStart => exact ⟨l0.length, Nat.le_refl _, rfl, ⟨by rw [List.take_length]⟩, Drawn0.refl _⟩
  case round =>
    obtain ⟨k, hk, rfl, hs, ⟨nd, rfl⟩⟩ := hrel
    by_cases h0 : k = 0
    · subst h0
      have hlen : Aside0 ((strip l0).length = 0) := ⟨by rw [← hs.out]; rfl⟩
      have hcut := HCUT.out 0 (by omega)
      go_wp2
      go_ret
      exact ⟨by rw [hlen.out]; simp, ⟨⟨nd, rfl⟩⟩⟩
    · obtain ⟨j, rfl⟩ : ∃ j, k = j + 1 := ⟨k - 1, by omega⟩
      clear h0
      have hlt : j < l0.length := by omega
      have htk := Aside0.mk (List.take_succ_eq_append_getElem hlt)
      obtain ⟨ad, rfl, hx⟩ := Kd.at_int HR.out (j : Int) (by omega) (by omega)
      have hrd : rd l0 (j : Int) = l0[j] := by
        unfold rd
        simp [List.getD_eq_getElem?_getD, hlt]
      rw [hrd, show ((j : Int)).toNat = j from by omega] at hx
      have c0' : ((j + 1 : Nat) : Int) - 1 = (j : Int) := by omega
      generalize l0[j] = x at *
      have hlj : (j : Int) < (l0.length : Int) := by omega
      by_cases hz : x = 0
      · subst hz
        have hs2 : Aside0 (strip (l0.take j) = strip l0) := ⟨by rw [← hs.out, htk.out, strip_zero]⟩
        clear hs htk hrd HCUT
        go_wp2
        go_roundw
        case rel => exact ⟨j, by omega, by simp, hs2, ⟨⟨_, rfl⟩⟩⟩
        case measure => simp [intOf]
      · have hlen : Aside0 ((strip l0).length = j + 1) := ⟨by rw [← hs.out, htk.out, strip_ne _ _ hz, List.length_append, List.length_take]; simp; omega⟩
        have hx0 : (x == 0) = false := by simpa using hz
        have hcut := HCUT.out (j + 1) (by omega)
        clear hs htk hrd HCUT hz
        go_wp2
        go_ret
        exact ⟨by rw [hlen.out]; simp, ⟨⟨nd, rfl⟩⟩⟩
theorem C_strip {w : World} {A : Option Addr} {l : List Int} (h : Kd.C (Kd.int .u32) w A l.length l) : Kd.C (Kd.int .u32) w A (strip l).length (strip l) := by
  have := C_take_int (strip l).length (strip_len l) h
  rw [strip_take] at this
  exact this

def nat_Norm.f (l0 : List Int) : Option (List Int) := if l0.length ≤ 35184372088832 then some (strip l0) else none
set_option maxHeartbeats 2000000 in
theorem nat_Norm.calls (A0 : Option Addr) (c0 : Nat) (l0 : List Int) (r : List Int) (w : World) (hr0 : Kd.C (Kd.int .u32) w A0 l0.length l0) (hc0 : l0.length ≤ c0) (h : nat_Norm.f l0 = some r) :
    Calls Tryd.prog 108 #[.slice A0 l0.length c0] w fun e w' => ∃ v0_ : Value, e = .returned (v0_) ∧ Kd.R (Kd.int .u32) 101 w' w.heap.size (fun _ => True) v0_ r ∧ Below w.heap.size w w' := by
  unfold nat_Norm.f at h
  split at h
  case isFalse => cases h
  case isTrue h1 =>
  obtain rfl := Option.some.inj h
  clear h
  have hf : nat_fresh.f (strip l0) 0 = some (strip l0) := by
    unfold nat_fresh.f
    rw [if_pos (by omega), if_pos (by omega), if_pos (by have := strip_len l0; omega)]
    simp
  have HT := Aside0.mk (fun w (hr0 : Kd.C (Kd.int .u32) w A0 l0.length l0) => trimC A0 c0 l0 w hr0 hc0)
  have HF := Aside0.mk (fun w (hr0 : Kd.C (Kd.int .u32) w A0 (strip l0).length (strip l0)) => nat_fresh.calls A0 c0 (strip l0) 0 (strip l0) w hr0 (by have := strip_len l0; omega) hf)
  have HR := Aside0.mk hr0
  clear hr0 hf
  go_enter Tryd.func108, Tryd.ntmps108
  go_wp2_with (first | (go_at_call 71; refine (HT.out _ HR.out).mono ?_; rintro e w' ⟨rfl, ⟨nd, rfl⟩⟩) | (go_at_call 138; refine (HF.out _ (C_strip (Kd.C_drewN HR.out _))).mono ?_; rintro e w' ⟨v, rfl, hv, hb⟩; have HV := Aside0.mk hv; have HB := Aside0.mk hb; clear hv hb))
  go_ret
  exact ⟨_, rfl, HV.out, (pw_below_drewN (Below.refl _ _) nd).trans HB.out⟩

theorem cast_beq0 (n : Nat) : ((n : Int) == 0) = (n == 0) := by
  rw [Bool.eq_iff_iff]
  simp
def nat_Zero.f (l0 : List Int) : Option Bool := some (decide ((strip l0).length = 0))
set_option maxHeartbeats 2000000 in
theorem nat_Zero.calls (A0 : Option Addr) (c0 : Nat) (l0 : List Int) (r : Bool) (w : World) (hr0 : Kd.C (Kd.int .u32) w A0 l0.length l0) (hc0 : l0.length ≤ c0) (h : nat_Zero.f l0 = some r) :
    Calls Tryd.prog 65 #[.slice A0 l0.length c0] w fun e w' => e = .returned (.bool r) ∧ Drawn0 w w' := by
  obtain rfl := Option.some.inj h
  clear h
  have HT := Aside0.mk (trimC A0 c0 l0 w hr0 hc0)
  have hd : Aside0 (decide ((strip l0).length = 0) = ((strip l0).length == 0)) := ⟨by rw [Bool.eq_iff_iff]; simp⟩
  clear hr0
  rw [hd.out]
  go_enter Tryd.func65, Tryd.ntmps65
  go_wp2_with (first | (go_at_call 71; refine HT.out.mono ?_; rintro e w' ⟨rfl, ⟨nd, rfl⟩⟩))
  go_ret
  exact ⟨by simp [cast_beq0], ⟨⟨nd, rfl⟩⟩⟩

end Go.Proofs.YtbicjgaadknmfaaDoor.P
