/- Contracts by hand: lex.sign (a range over a constant string), strings.Cut at a separator of one byte. -/
import Derived.Test.YtbicjgaadknmfaaProg
import Derived.Test.YtbicjgaadknmfaaWWords
import Derived.Laws.RangeString
import Derived.Laws.RangeAny
import Derived.Test.YtbicjgaadknmfaaShelf
import Derived.Lib.Bytealg
import Derived.RegionTactic
import Derived.Laws.Strings3
namespace Go.Proofs.Ytbicjgaadknmfaa.P
open Go.RowKit Go.Proofs.YtbicjgaadknmfaaW.PrintWords
set_option linter.unusedVariables false
set_option linter.unusedSimpArgs false

/-- the signs, as bytes. -/
def signsB : ByteArray := ⟨#[43, 45, 42, 47, 94, 40, 41, 91, 93, 44, 59, 61]⟩
def signB (c : Int) : Bool := signsB.data.toList.any fun b => decide ((b.toNat : Int) = c)
def signUpto (c : Int) (n : Nat) : Bool := (signsB.data.toList.take n).any fun b => decide ((b.toNat : Int) = c)
def lex_sign.f (a0 : Int) : Option Bool := if 0 ≤ a0 then if a0 < 256 then some (signB a0) else none else none

theorem signUpto_zero (c : Int) : signUpto c 0 = false := rfl
theorem signUpto_succ (c : Int) (n : Nat) (h : n < signsB.size) : signUpto c (n + 1) = (signUpto c n || decide (((signsB[n]'h).toNat : Int) = c)) := by
  unfold signUpto
  rw [List.take_succ_eq_append_getElem (by simpa using h), List.any_append]
  simp only [List.any_cons, List.any_nil, Bool.or_false]
  rfl
theorem signUpto_all (c : Int) : signUpto c signsB.size = signB c := by
  unfold signUpto signB
  rw [List.take_of_length_le (by simp)]
theorem signs_lt (n : Nat) (h : n < signsB.size) : (signsB[n]'h).toNat < 128 := by
  have : ∀ m : Fin 12, (signsB.data[m.1]'(by have := m.2; exact this)).toNat < 128 := by decide
  exact this ⟨n, h⟩

set_option maxHeartbeats 1000000 in
set_option maxRecDepth 100000 in
theorem lex_sign.calls (a0 : Int) (r : Bool) (w : World) (h : lex_sign.f a0 = some r) :
    Calls Try.prog 26 #[.int .u8 a0] w fun e w' => e = .returned (.bool r) ∧ Below w.heap.size w w' := by
  unfold lex_sign.f at h
  split at h
  case isFalse => cases h
  case isTrue h0 =>
  split at h
  case isFalse => cases h
  case isTrue h1 =>
  injection h with h
  have hs : signsB.size = 12 := rfl
  go_enter Try.func26, Try.ntmps26
  go_wp2
  go_loopw [4] (fun v w' => ∃ (pos : Nat), w' = w.iter signsB pos ∧ pos ≤ 12 ∧ signUpto a0 pos = false) (fun _ w' => 12 - w'.iterPos w.heap.size)
  case atStart => exact ⟨0, rfl, by omega, rfl⟩
  case round =>
    obtain ⟨pos, rfl, hp, hu⟩ := hrel
    by_cases hlt : pos < signsB.size
    · have ha := signs_lt pos hlt
      have hnx : ∀ ty, (Instr.next (.pointer (some ⟨w.heap.size, 0, none⟩)) true ty).run Try.prog (w.iter signsB pos) = _ := fun ty => run_next_ascii w signsB pos ty hlt ha
      have hsu := Aside0.mk (signUpto_succ a0 pos hlt)
      have hu' := Aside0.mk hu
      clear hu
      generalize (signsB[pos]'hlt).toNat = b at *
      by_cases hb : (b : Int) = a0
      · have hR : signB a0 = true := by
          have e1 := hsu.out
          rw [hu'.out, decide_eq_true hb] at e1
          have : ∀ n, n ≤ 12 → signUpto a0 n = true → signUpto a0 12 = true := by
            intro n hn hh
            unfold signUpto at *
            rw [List.any_eq_true] at *
            obtain ⟨x, hx, hx2⟩ := hh
            exact ⟨x, (List.take_sublist_take_left hn).subset hx, hx2⟩
          rw [← signUpto_all, hs]
          exact this (pos + 1) (by omega) (by simpa using e1)
        rw [hR] at h
        subst h
        clear hR hsu hu'
        go_wp2
        go_ret
        exact ⟨rfl, (Below.refl _ _).alloc (Nat.le_refl _) _⟩
      · have hb' : decide ((b : Int) = a0) = false := decide_eq_false hb
        have hu2 : Aside0 (signUpto a0 (pos + 1) = false) := ⟨by rw [hsu.out, hu'.out, hb']; rfl⟩
        have hb2 : ((b : Int) == a0) = false := by simpa using hb
        have hb3 : (b : Int) < 128 := by omega
        clear hsu hu'
        go_wp2
        go_roundw
        case rel => exact ⟨pos + 1, rfl, by omega, hu2.out⟩
        case measure => simp; omega
    · have hp2 : pos = 12 := by omega
      have hR : signB a0 = false := by rw [← signUpto_all, hs, ← hp2]; exact hu
      rw [hR] at h
      subst h
      have hnx : ∀ ty, (Instr.next (.pointer (some ⟨w.heap.size, 0, none⟩)) true ty).run Try.prog (w.iter signsB pos) = _ := fun ty => run_next_end w signsB pos ty hlt
      clear hR hu hp2
      go_wp2
      go_ret
      exact ⟨rfl, (Below.refl _ _).alloc (Nat.le_refl _) _⟩

/-! strings.Cut at one byte -/
def cutAt (s : ByteArray) (c : UInt8) : Int := Lib.indexByte s.data.toList c
theorem zlt_of_one {n : Nat} {q : Prop} (h : n = 1 ∧ q) : 0 < n := by omega
def strings_Cut.f (a0 a1 : ByteArray) : Option (ByteArray × ByteArray × Bool) :=
  if h : a1.size = 1 ∧ a0.size ≤ 140737488351232 then
    if (0 : Int) ≤ cutAt a0 (a1[0]'(zlt_of_one h)) then some (a0.extract 0 (cutAt a0 (a1[0]'(zlt_of_one h))).toNat, a0.extract ((cutAt a0 (a1[0]'(zlt_of_one h))).toNat + 1) a0.size, true)
    else some (a0, (⟨#[]⟩ : ByteArray), false)
  else none
theorem one_byte (s : ByteArray) (h : s.size = 1) : s = ⟨#[s[0]'(by omega)]⟩ := by
  obtain ⟨⟨l⟩⟩ := s
  match l, h with
  | [x], _ => rfl
theorem indexByte_lt (l : List UInt8) (c : UInt8) : Lib.indexByte l c < l.length ∨ (Lib.indexByte l c = -1) := by
  induction l with
  | nil => right; rfl
  | cons b l ih =>
    unfold Lib.indexByte
    have := Lib.indexByte_ge l c
    split
    · left; simp
    · split
      · right; rfl
      · rename_i h2
        have h2' : Lib.indexByte l c ≠ -1 := by simpa using h2
        left
        rcases ih with ih | ih
        · simp; omega
        · exact absurd ih h2'
set_option maxHeartbeats 1000000 in
theorem cut_inner (s : ByteArray) (c : UInt8) (w : World) (hs : s.size ≤ 140737488351232) (r1 r2 : ByteArray) (r3 : Bool) (h : strings_Cut.f s ⟨#[c]⟩ = some (r1, r2, r3)) :
    Calls Try.prog 33 #[.string s, .string ⟨#[c]⟩] w fun e w' => e = .returned (.tuple #[.string r1, .string r2, .bool r3]) ∧ Drawn0 w w' := by
  have hsz : (⟨#[c]⟩ : ByteArray).size = 1 := rfl
  have hlt := indexByte_lt s.data.toList c
  have hge := Lib.indexByte_ge s.data.toList c
  have hl : s.data.toList.length = s.size := by simp
  rw [hl] at hlt
  clear hl
  unfold strings_Cut.f at h
  rw [dif_pos ⟨hsz, hs⟩] at h
  rw [show ((⟨#[c]⟩ : ByteArray)[0]'(by rw [hsz]; omega)) = c from rfl] at h
  unfold cutAt at h
  have HI := Aside0.mk (Try.stringslite_Index_one s c)
  generalize Lib.indexByte s.data.toList c = i at *
  clear hsz
  by_cases h0 : 0 ≤ i
  · rw [if_pos h0] at h
    simp only [Option.some.injEq, Prod.mk.injEq] at h
    obtain ⟨rfl, rfl, rfl⟩ := h
    obtain ⟨n, rfl⟩ := Int.eq_ofNat_of_zero_le h0
    have c1 : (0 : Int) ≤ ↑n := h0
    have c2 : (↑n : Int) ≤ ↑s.size := by omega
    have c3 : (0 : Int) ≤ ↑n + 1 := by omega
    have c4 : (↑n + 1 : Int) ≤ ↑s.size := by omega
    clear hlt hge h0
    go_enter Try.func33, Try.ntmps33
    go_wp2_with (go_at_call 36; refine (HI.out _).mono ?_; rintro e w' ⟨rfl, rfl⟩)
    go_region
    go_wp2
    go_ret3
    exact ⟨by simp, ⟨⟨1, rfl⟩⟩⟩
  · rw [if_neg h0] at h
    simp only [Option.some.injEq, Prod.mk.injEq] at h
    obtain ⟨rfl, rfl, rfl⟩ := h
    have c0 : ¬ (0 : Int) ≤ i := h0
    clear hlt hge
    go_enter Try.func33, Try.ntmps33
    go_wp2_with (go_at_call 36; refine (HI.out _).mono ?_; rintro e w' ⟨rfl, rfl⟩)
    go_ret3
    exact ⟨rfl, Drawn0.refl _⟩
set_option maxHeartbeats 1000000 in
theorem strings_Cut.calls (a0 a1 : ByteArray) (r1 r2 : ByteArray) (r3 : Bool) (w : World) (h : strings_Cut.f a0 a1 = some (r1, r2, r3)) :
    Calls Try.prog 23 #[.string a0, .string a1] w fun e w' => e = .returned (.tuple #[.string r1, .string r2, .bool r3]) ∧ Drawn0 w w' := by
  have h1 : a1.size = 1 ∧ a0.size ≤ 140737488351232 := by
    unfold strings_Cut.f at h
    split at h
    · assumption
    · cases h
  have HE := Aside0.mk (one_byte a1 h1.1)
  have hs := h1.2
  generalize a1[0]'(by omega) = c at HE
  obtain rfl := HE.out
  have HC := Aside0.mk (fun w => cut_inner a0 c w hs r1 r2 r3 h)
  clear h h1 HE
  go_enter Try.func23, Try.ntmps23
  go_wp2_with (go_at_call 33; refine (HC.out _).mono ?_; rintro e w' ⟨rfl, ⟨nq, rfl⟩⟩)
  go_ret3
  exact ⟨rfl, ⟨⟨nq, rfl⟩⟩⟩

end Go.Proofs.Ytbicjgaadknmfaa.P
