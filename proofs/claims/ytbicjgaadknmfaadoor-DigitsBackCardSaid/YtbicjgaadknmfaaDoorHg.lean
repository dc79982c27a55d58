/- Contract by hand: nat.Cmp, over whatever lists came in. -/
import Derived.Test.YtbicjgaadknmfaaDoorNa
namespace Go.Proofs.YtbicjgaadknmfaaDoor.P
open Go.RowKit Go.Proofs.YtbicjgaadknmfaaDoorW.PrintWords Go.Proofs.YtbicjgaadknmfaaDoor.M
set_option linter.unusedVariables false
set_option linter.unusedSimpArgs false

theorem words_mono {m n : Nat} (h : m ≤ n) : (words m).length ≤ (words n).length := by
  induction n using Nat.strongRecOn generalizing m with
  | ind n ih =>
    by_cases hm : m = 0
    · subst hm; rw [words_zero]; simp
    · rw [words_pos hm, words_pos (by omega : n ≠ 0)]
      have := @ih (n / 4294967296) (by omega) (m / 4294967296) (by omega)
      simp only [List.length_cons]; omega
theorem cmp_lt {a b : List Int} {j : Nat} (ha : Wl a) (hb : Wl b) (hj : j < a.length) (hk : j < b.length) (hd : a.drop (j + 1) = b.drop (j + 1)) (h : a[j] < b[j]) : val a < val b := by
  have e1 : ∀ (l : List Int) (hl : j < l.length), val l = val (l.take j) + 4294967296 ^ j * (l[j] + 4294967296 * val (l.drop (j + 1))) := by
    intro l hl
    have h2 : (l.take j).length = j := by simp; omega
    have h1 := val_append (l.take j) (l.drop j)
    rw [List.take_append_drop, h2, List.drop_eq_getElem_cons hl] at h1
    simpa only [val] using h1
  have l1 := val_lt (ha.take j)
  rw [show (a.take j).length = j by simp; omega] at l1
  have l2 := val_nonneg (hb.take j)
  rw [e1 a hj, e1 b hk, hd]
  generalize val (b.drop (j + 1)) = V at *
  have hp : (0 : Int) < 4294967296 ^ j := Int.pow_pos (by decide)
  generalize (4294967296 : Int) ^ j = p at *
  generalize val (a.take j) = x at *
  generalize val (b.take j) = y at *
  generalize a[j] = s at *
  generalize b[j] = t at *
  have h3 : p * (s + 1) ≤ p * t := Int.mul_le_mul_of_nonneg_left (by omega) (by omega)
  grind
theorem val_strip {l : List Int} (h : Wl l) : val (strip l) = val l := by
  rw [strip_words h, val_words]
  have := val_nonneg h
  omega
theorem Wl_strip {l : List Int} (h : Wl l) : Wl (strip l) := by rw [strip_words h]; exact Wl_words _
theorem strip_short {l m : List Int} (h : Wl l) (k : Wl m) (hl : (strip l).length < (strip m).length) : val l < val m := by
  rw [strip_words h, strip_words k] at hl
  have h1 := val_nonneg h
  have h2 := val_nonneg k
  rcases Int.lt_or_le (val l) (val m) with h3 | h3
  · exact h3
  · have := words_mono (m := (val m).toNat) (n := (val l).toNat) (by omega)
    omega
def cmpI (a b : Int) : Int := if a < b then -1 else if b < a then 1 else 0
def nat_Cmp.f (l0 l1 : List Int) : Option Int := if l0.all (fun x => decide (0 ≤ x) && decide (x < 4294967296)) = true then if l1.all (fun x => decide (0 ≤ x) && decide (x < 4294967296)) = true then some (cmpI (val l0) (val l1)) else none else none

set_option maxHeartbeats 4000000 in
set_option maxRecDepth 100000 in
theorem nat_Cmp.calls (A0 : Option Addr) (c0 : Nat) (l0 : List Int) (A1 : Option Addr) (c1 : Nat) (l1 : List Int) (r : Int) (w : World) (hr0 : Kd.C (Kd.int .u32) w A0 l0.length l0) (hc0 : l0.length ≤ c0) (hr1 : Kd.C (Kd.int .u32) w A1 l1.length l1) (hc1 : l1.length ≤ c1) (h : nat_Cmp.f l0 l1 = some r) :
    Calls Tryd.prog 21 #[.slice A0 l0.length c0, .slice A1 l1.length c1] w fun e w' => e = .returned (.int .i64 r) ∧ Drawn0 w w' := by
  unfold nat_Cmp.f at h
  split at h
  case isFalse => cases h
  case isTrue h1 =>
  split at h
  case isFalse => cases h
  case isTrue h2 =>
  obtain rfl := Option.some.inj h
  clear h
  have ha : Wl l0 := by simpa [Wl] using h1
  have hb : Wl l1 := by simpa [Wl] using h2
  clear h1 h2
  have HT0 := Aside0.mk (fun w (hr0 : Kd.C (Kd.int .u32) w A0 l0.length l0) => trimC A0 c0 l0 w hr0 hc0)
  have HT1 := Aside0.mk (fun w (hr0 : Kd.C (Kd.int .u32) w A1 l1.length l1) => trimC A1 c1 l1 w hr0 hc1)
  have HC0 := Aside0.mk (C_strip hr0)
  have HC1 := Aside0.mk (C_strip hr1)
  have HR0 := Aside0.mk hr0
  have HR1 := Aside0.mk hr1
  have hm0 : (strip l0).length ≤ 9223372036854775807 := by have := hr0.2.1; have := strip_len l0; omega
  have hwa := Aside0.mk (Wl_strip ha)
  have hwb := Aside0.mk (Wl_strip hb)
  have HS : Aside0 ((strip l0).length < (strip l1).length → val (strip l0) < val (strip l1)) := ⟨fun h => by rw [val_strip ha, val_strip hb]; exact strip_short ha hb h⟩
  have HS2 : Aside0 ((strip l1).length < (strip l0).length → val (strip l1) < val (strip l0)) := ⟨fun h => by rw [val_strip ha, val_strip hb]; exact strip_short hb ha h⟩
  have HV : Aside0 (cmpI (val (strip l0)) (val (strip l1)) = cmpI (val l0) (val l1)) := ⟨by rw [val_strip ha, val_strip hb]⟩
  clear hr0 hr1
  have hcc0 : (strip l0).length ≤ c0 := by have := strip_len l0; omega
  have hcc1 : (strip l1).length ≤ c1 := by have := strip_len l1; omega
  clear ha hb
  generalize cmpI (val l0) (val l1) = r at *
  generalize strip l0 = a at *
  generalize strip l1 = b at *
  by_cases h1 : a.length < b.length
  · have hv : r = -1 := by rw [← HV.out]; unfold cmpI; rw [if_pos (HS.out h1)]
    subst hv
    go_enter Tryd.func21, Tryd.ntmps21
    go_wp2_with (first | (go_at_call 71; first | ((with_reducible refine (HT0.out _ ?h).mono ?_); (case h => first | with_reducible exact HR0.out | with_reducible exact Kd.C_drewN HR0.out _); rintro e w' ⟨rfl, ⟨nd, rfl⟩⟩) | ((with_reducible refine (HT1.out _ ?h).mono ?_); (case h => first | with_reducible exact HR1.out | with_reducible exact Kd.C_drewN HR1.out _); rintro e w' ⟨rfl, ⟨nd, rfl⟩⟩)))
    go_ret
    exact ⟨rfl, ⟨⟨_, rfl⟩⟩⟩
  by_cases h2 : b.length < a.length
  · have hv : r = 1 := by rw [← HV.out]; unfold cmpI; have := HS2.out h2; rw [if_neg (by omega), if_pos this]
    subst hv
    go_enter Tryd.func21, Tryd.ntmps21
    go_wp2_with (first | (go_at_call 71; first | ((with_reducible refine (HT0.out _ ?h).mono ?_); (case h => first | with_reducible exact HR0.out | with_reducible exact Kd.C_drewN HR0.out _); rintro e w' ⟨rfl, ⟨nd, rfl⟩⟩) | ((with_reducible refine (HT1.out _ ?h).mono ?_); (case h => first | with_reducible exact HR1.out | with_reducible exact Kd.C_drewN HR1.out _); rintro e w' ⟨rfl, ⟨nd, rfl⟩⟩)))
    go_ret
    exact ⟨rfl, ⟨⟨_, rfl⟩⟩⟩
  go_enter Tryd.func21, Tryd.ntmps21
  go_wp2_with (first | (go_at_call 71; first | ((with_reducible refine (HT0.out _ ?h).mono ?_); (case h => first | with_reducible exact HR0.out | with_reducible exact Kd.C_drewN HR0.out _); rintro e w' ⟨rfl, ⟨nd, rfl⟩⟩) | ((with_reducible refine (HT1.out _ ?h).mono ?_); (case h => first | with_reducible exact HR1.out | with_reducible exact Kd.C_drewN HR1.out _); rintro e w' ⟨rfl, ⟨nd, rfl⟩⟩)))
  clear HS HS2 HT0 HT1
  have hlen : Aside0 (a.length = b.length) := ⟨by omega⟩
  clear h1 h2
  go_loopw [5] (fun v w' => ∃ j : Nat, j ≤ a.length ∧ v = .int .i64 ((j : Int) - 1) ∧ Aside0 (a.drop j = b.drop j) ∧ Drawn0 w w') (fun v _ => (intOf v + 1).toNat)
  case atStart => exact ⟨a.length, Nat.le_refl _, rfl, ⟨by rw [List.drop_length, hlen.out, List.drop_length]⟩, ⟨⟨_, rfl⟩⟩⟩
  case round =>
    obtain ⟨j, hj, rfl, hs, ⟨nd, rfl⟩⟩ := hrel
    have HD := hs
    clear hs
    cases j with
    | zero =>
      have hab : a = b := by simpa using HD.out
      have hv : 0 = r := by rw [← HV.out, hab]; unfold cmpI; rw [if_neg (by omega), if_neg (by omega)]
      clear hab
      go_wp2
      go_ret
      exact ⟨by rw [← hv]; rfl, ⟨⟨nd, rfl⟩⟩⟩
    | succ j =>
      have hja : j < a.length := by omega
      have hjb : j < b.length := by have := hlen.out; omega
      obtain ⟨ad, rfl, hx⟩ := Kd.at_int HC0.out (j : Int) (by omega) (by omega)
      obtain ⟨bd, rfl, hy⟩ := Kd.at_int HC1.out (j : Int) (by omega) (by omega)
      have r0 : rd a (j : Int) = a[j] := by unfold rd; simp [List.getD_eq_getElem?_getD, hja]
      have r1 : rd b (j : Int) = b[j] := by unfold rd; simp [List.getD_eq_getElem?_getD, hjb]
      rw [r0, Int.toNat_natCast] at hx
      rw [r1, Int.toNat_natCast] at hy
      clear r0 r1
      have HL := Aside0.mk (cmp_lt hwa.out hwb.out hja hjb HD.out)
      have HG := Aside0.mk (cmp_lt hwb.out hwa.out hjb hja HD.out.symm)
      have HE : Aside0 (a[j] = b[j] → a.drop j = b.drop j) := ⟨fun h => by rw [List.drop_eq_getElem_cons hja, List.drop_eq_getElem_cons hjb, h, HD.out]⟩
      generalize a[j] = x at *
      generalize b[j] = y at *
      clear HD
      have hjl : (j : Int) < (a.length : Int) := by omega
      have hjl2 : (j : Int) < (b.length : Int) := by omega
      by_cases hlt : x < y
      · have hv : -1 = r := by rw [← HV.out]; unfold cmpI; rw [if_pos (HL.out hlt)]
        go_wp2
        repeat (go_quiet (fail); try go_wp2)
        go_ret
        refine ⟨by rw [← hv]; rfl, ?_⟩
        simp only [World.drewN_drewN]
        exact ⟨⟨_, rfl⟩⟩
      by_cases hgt : y < x
      · have hv : 1 = r := by rw [← HV.out]; unfold cmpI; have := HG.out hgt; rw [if_neg (by omega), if_pos this]
        go_wp2
        repeat (go_quiet (fail); try go_wp2)
        go_ret
        refine ⟨by rw [← hv]; rfl, ?_⟩
        simp only [World.drewN_drewN]
        exact ⟨⟨_, rfl⟩⟩
      go_wp2
      repeat (go_quiet (fail); try go_wp2)
      go_roundw
      case rel =>
        refine ⟨j, by omega, rfl, ⟨HE.out (by omega)⟩, ?_⟩
        try simp only [World.drewN_drewN]
        exact ⟨⟨_, rfl⟩⟩
      case measure => simp [intOf]
end Go.Proofs.YtbicjgaadknmfaaDoor.P
