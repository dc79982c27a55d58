import Derived.Test.YtbicjgaadknmfaaDoorNg
import Derived.Test.YtbicjgaadknmfaaDoorDx5
namespace Go.Proofs.YtbicjgaadknmfaaDoor.Pure
open Go.RowKit Go.Proofs.YtbicjgaadknmfaaDoor.P Go.Proofs.YtbicjgaadknmfaaDoor.M
theorem DigitsReads : retrospectlaw07_DigitsReads.Pure := by
  intro s hs
  obtain ⟨K0, k0⟩ := works07
  dsimp only at k0
  by_cases hl : (s.size : Int) > 500
  · refine ⟨K0, ?_⟩
    unfold retrospectlaw07_DigitsReads.f
    rw [if_pos hl, k0 K0 (by omega)]
    rfl
  · have h1 := readWhole s hs
    have h2 := wrongRef s hs
    by_cases hw : 0 ≤ wrongI (toL s)
    · rw [if_pos hw] at h1
      obtain ⟨K1, k1⟩ := h1
      obtain ⟨K2, k2⟩ := h2
      dsimp only at k1 k2
      refine ⟨K0 + K1 + K2, ?_⟩
      unfold retrospectlaw07_DigitsReads.f
      rw [if_neg hl, k1 _ (by omega), Option.bind_some, k2 _ (by omega), Option.bind_some, if_pos hw, if_pos (by simp), if_pos (by simp), k0 _ (by omega)]
      rfl
    · rw [if_neg hw] at h1
      have hn : wrongAt (toL s) 0 = none := by
        unfold wrongI at hw
        cases hh : wrongAt (toL s) 0 with
        | none => rfl
        | some j => rw [hh] at hw; exact absurd (by simp) hw
      obtain ⟨hd, hl2⟩ := wrongAt_none hn (by omega)
      have hsz : s.size ≤ 60 := by rw [length_toL] at hl2; omega
      have h3 := readRef s hd hsz
      have h4 := sameRef (words (num (toL s))) (words (num (toL s))) (by
        have := num_take_lt s hd hsz s.size
        rw [List.take_of_length_le (by rw [length_toL]; omega)] at this
        have := words_len60 (Nat.lt_trans this (by decide))
        omega)
      rw [decide_eq_true rfl] at h4
      obtain ⟨K1, k1⟩ := h1
      obtain ⟨K2, k2⟩ := h2
      obtain ⟨K3, k3⟩ := h3
      obtain ⟨K4, k4⟩ := h4
      dsimp only at k1 k2 k3 k4
      refine ⟨K0 + K1 + K2 + K3 + K4, ?_⟩
      unfold retrospectlaw07_DigitsReads.f
      rw [if_neg hl, k1 _ (by omega), Option.bind_some, k2 _ (by omega), Option.bind_some, if_neg hw, k3 _ (by omega), Option.bind_some, k4 _ (by omega), Option.bind_some, if_pos rfl, if_pos (by simp), k0 _ (by omega)]
      rfl
end Go.Proofs.YtbicjgaadknmfaaDoor.Pure
