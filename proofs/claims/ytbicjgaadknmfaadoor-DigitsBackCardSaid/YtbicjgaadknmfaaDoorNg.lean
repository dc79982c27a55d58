/- Plain law: the examples of chapter 7. -/
import Derived.Test.YtbicjgaadknmfaaDoorNf
import Derived.Test.YtbicjgaadknmfaaDoorHf
import Derived.Test.YtbicjgaadknmfaaDoorDx3
import Derived.Test.YtbicjgaadknmfaaDoorDx3
namespace Go.Proofs.YtbicjgaadknmfaaDoor.M
open Go.RowKit Go.Proofs.YtbicjgaadknmfaaDoorW.PrintWords Go.Proofs.YtbicjgaadknmfaaDoor.P
set_option linter.unusedVariables false
set_option linter.unusedSimpArgs false

theorem words7 : words 7 = [7] := by rw [words_pos (by decide), show 7 / 4294967296 = 0 from rfl, words_zero]; rfl
theorem textProg {l : List Int} (h : Wl l) (hn : l.length ≤ 1000000) : digits_Text.f l = some (ofL (dec (val l).toNat)) := by
  unfold digits_Text.f
  rw [if_pos (wordsB_iff.2 h), if_pos hn]
theorem dec_big : dec 4294967296 = [52, 50, 57, 52, 57, 54, 55, 50, 57, 54] := by
  rw [dec_step _ (by decide), dec_step _ (by decide), dec_step _ (by decide), dec_step _ (by decide), dec_step _ (by decide), dec_step _ (by decide), dec_step _ (by decide), dec_step _ (by decide), dec_step _ (by decide), dec_small _ (by decide)]
  rfl
theorem trimLoop (l : List Int) (hn : l.length < 35184372088832) (j : Nat) (hj : j ≤ l.length) : Ev (fun k => nat_trim.l0 k l (j : Int)) (strip (l.take j)) := by
  induction j with
  | zero =>
    refine Ev.step (f := fun _ => some (strip (l.take 0))) (fun k => ?_) (Ev.now _)
    simp only [nat_trim.l0]
    rw [if_neg (by omega), if_pos (by omega), if_pos (by omega)]
    rfl
  | succ j ih =>
    have hlt : j < l.length := by omega
    have e : ((j + 1 : Nat) : Int) - 1 = (j : Int) := by omega
    rw [List.take_succ_eq_append_getElem hlt]
    by_cases h0 : l[j] = 0
    · rw [h0, strip_zero]
      refine Ev.step (fun k => ?_) (ih (by omega))
      simp only [nat_trim.l0]
      rw [if_pos (by omega), e, wrap_id (by omega) (by omega), if_pos (by omega), if_pos (by omega), rd_nat hlt, if_pos h0]
    · rw [strip_ne _ _ h0]
      refine Ev.step (f := fun _ => some (l.take j ++ [l[j]])) (fun k => ?_) (Ev.now _)
      simp only [nat_trim.l0]
      rw [if_pos (by omega), e, wrap_id (by omega) (by omega), if_pos (by omega), if_pos (by omega), rd_nat hlt, if_neg h0, if_pos (by omega), if_pos (by omega),
        show ((j + 1 : Nat) : Int).toNat = j + 1 by omega, List.take_succ_eq_append_getElem hlt]
theorem ofProg (n : Int) (h0 : 0 ≤ n) (h1 : n < 18446744073709551616) : Ev (fun k => nat_Of.f k n) (words n.toNat) := by
  have h := trimLoop [n % 4294967296, n / 4294967296 % 4294967296] (by simp) 2 (by simp)
  rw [List.take_of_length_le (by simp), strip_words (Wl.cons (by omega) (by omega) (Wl.cons (by omega) (by omega) Wl.nil)), show val [n % 4294967296, n / 4294967296 % 4294967296] = n by simp only [val]; omega] at h
  exact Ev.bind (f := fun _ t => some t) h (Ev.now _)
theorem words_big : words 4294967296 = [0, 1] := by
  rw [words_pos (by decide), show 4294967296 / 4294967296 = 1 from rfl, words_pos (by decide), show 1 / 4294967296 = 0 from rfl, words_zero]
  rfl
theorem works07 : Ev (fun k => retrospectlaw07_works.f k) true := by
  have h1 := readWhole ⟨#[48, 48, 55]⟩ (by decide)
  rw [if_neg (by decide), show num (toL ⟨#[48, 48, 55]⟩) = 7 from rfl, words7] at h1
  have h2 := readWhole ⟨#[49, 50, 120]⟩ (by decide)
  rw [if_pos (by decide)] at h2
  have e2 : wrongI (toL ⟨#[49, 50, 120]⟩) = 2 := by decide
  rw [e2] at h2
  have h3 := ofProg 4294967296 (by decide) (by decide)
  rw [show (4294967296 : Int).toNat = 4294967296 from rfl, words_big] at h3
  have h4 := sameRef [7] [7] (by simp)
  have h5 := textProg (l := [0, 1]) (Wl.cons (by decide) (by decide) (Wl.cons (by decide) (by decide) Wl.nil)) (by decide)
  rw [show (val [0, 1]).toNat = 4294967296 from rfl, dec_big] at h5
  obtain ⟨K1, k1⟩ := h1
  obtain ⟨K2, k2⟩ := h2
  obtain ⟨K3, k3⟩ := h3
  obtain ⟨K4, k4⟩ := h4
  dsimp only at k1 k2 k3 k4
  refine ⟨K1 + K2 + K3 + K4, fun k hk => ?_⟩
  dsimp only
  unfold retrospectlaw07_works.f
  rw [k1 k (by omega), Option.bind_some, k2 k (by omega), Option.bind_some, k3 k (by omega), Option.bind_some, h5, Option.bind_some, toList_eq, toL_ofL, if_pos rfl, k4 k (by omega), Option.bind_some]
  rfl
end Go.Proofs.YtbicjgaadknmfaaDoor.M
