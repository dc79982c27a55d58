/- Plain lemmas for the walk of digits.Text: chunks of nine digits, low ones first. -/
import Derived.Test.YtbicjgaadknmfaaDoorNb
import Derived.Test.YtbicjgaadknmfaaDoorHe
import Derived.Test.YtbicjgaadknmfaaDoorDx2
namespace Go.Proofs.YtbicjgaadknmfaaDoor.M
open Go.RowKit Go.Proofs.YtbicjgaadknmfaaDoorW.PrintWords Go.Proofs.YtbicjgaadknmfaaDoor.P
set_option linter.unusedVariables false
set_option linter.unusedSimpArgs false

theorem words_le {n k : Nat} (h : n < 4294967296 ^ k) : (words n).length ≤ k := by
  induction k generalizing n with
  | zero =>
    have : n = 0 := by simpa using h
    subst this; rw [words_zero]; simp
  | succ k ih =>
    by_cases hn : n = 0
    · subst hn; rw [words_zero]; simp
    · rw [words_pos hn]
      have := ih (n := n / 4294967296) (by rw [Nat.pow_succ] at h; omega)
      simp only [List.length_cons]; omega
theorem val_ltN {l : List Int} (h : Wl l) : (val l).toNat < 4294967296 ^ l.length := by
  have h1 := val_lt h
  have h2 := val_nonneg h
  have h3 : ((4294967296 ^ l.length : Nat) : Int) = (4294967296 : Int) ^ l.length := by simp
  omega
def chunk (n : Nat) (i : Nat) : ByteArray := ofL (fixd 9 (n / 10 ^ (9 * i)))
def chunks (n m : Nat) : List ByteArray := (List.range m).map (chunk n)
theorem chunks_succ (n m : Nat) : chunks n (m + 1) = chunks n m ++ [chunk n m] := by simp [chunks, List.range_succ]
theorem chunks_len (n m : Nat) : (chunks n m).length = m := by simp [chunks]
theorem chunks_get (n m i : Nat) (h : i < m) : (chunks n m)[i]? = some (chunk n i) := by simp [chunks, h]
theorem nine_eq {r : Int} (h0 : 0 ≤ r) : strOfNums (nineL r) = ofL (fixd 9 r.toNat) := by
  obtain ⟨n, rfl⟩ := Int.eq_ofNat_of_zero_le h0
  unfold strOfNums ofL nineL
  congr 1
/-- what is written from a place on, the high ones first. -/
def joinFrom (n m j : Nat) : List UInt8 := fixd (9 * (m - j)) (n / 10 ^ (9 * j))
theorem joinFrom_top (n m : Nat) : joinFrom n m m = [] := by simp [joinFrom, fixd]
theorem joinFrom_step (n m j : Nat) (h : j < m) : joinFrom n m j = joinFrom n m (j + 1) ++ fixd 9 (n / 10 ^ (9 * j)) := by
  unfold joinFrom
  rw [show 9 * (m - j) = 9 * (m - (j + 1)) + 9 by omega, fixd_add, Nat.div_div_eq_div_mul, ← Nat.pow_add, show 9 * j + 9 = 9 * (j + 1) by omega]
theorem joinFrom_len (n m j : Nat) : (joinFrom n m j).length = 9 * (m - j) := fixd_len _ _
theorem joinFrom_zero {n m : Nat} (h : n / 10 ^ (9 * m) = 0) (hn : n ≠ 0) : (joinFrom n m 0).dropWhile (· == 48) = dec n := by
  unfold joinFrom
  simp only [Nat.sub_zero, Nat.mul_zero, Nat.pow_zero, Nat.div_one]
  have hp : 0 < 10 ^ (9 * m) := Nat.pow_pos (by decide)
  rw [drop_fixd _ _ (by rcases Nat.lt_or_ge n (10 ^ (9 * m)) with h' | h'; exact h'; have := Nat.div_pos h' hp; omega), if_neg hn]
theorem chunk_bound {n m L : Nat} (hn : n < 4294967296 ^ L) (h : n / 10 ^ (9 * m) ≠ 0) : m ≤ 32 * L := by
  have h1 : 10 ^ (9 * m) ≤ n := by
    rcases Nat.lt_or_ge n (10 ^ (9 * m)) with h' | h'
    · exact absurd (Nat.div_eq_of_lt h') h
    · exact h'
  have h2 : 2 ^ m ≤ 10 ^ (9 * m) := by
    rw [Nat.pow_mul]
    exact Nat.pow_le_pow_left (by decide) m
  have h3 : 2 ^ m < 2 ^ (32 * L) := by
    rw [Nat.pow_mul]
    exact Nat.lt_of_le_of_lt (Nat.le_trans h2 h1) hn
  exact Nat.le_of_lt ((Nat.pow_lt_pow_iff_right (by decide)).1 h3)
theorem trimByte (l : List UInt8) (c : UInt8) (hl : l.length ≤ 140737488351232) : Ev (fun k => strings_trimLeftByte.f k (ofL l) (c.toNat : Int)) (ofL (l.dropWhile (· == c))) := by
  unfold strings_trimLeftByte.f
  induction l with
  | nil =>
    refine Ev.step (f := fun _ => some (ofL [])) (fun k => ?_) (Ev.now _)
    simp only [strings_trimLeftByte.l0]
    rw [if_neg (by simp)]
  | cons x l ih =>
    have hb : bt (ofL (x :: l)) 0 = (x.toNat : Int) := by rw [bt_toL]; simp
    by_cases hx : x = c
    · subst hx
      have he : (ofL (x :: l)).extract 1 (ofL (x :: l)).size = ofL l := by
        apply toL_inj
        rw [toL_extract]
        simp
      rw [List.dropWhile_cons, if_pos (by simp)]
      refine Ev.step (fun k => ?_) (ih (by simp at hl; omega))
      simp only [strings_trimLeftByte.l0]
      rw [if_pos (by simp), if_pos (by simp), hb, if_pos rfl, if_pos (by simp; omega), he]
    · rw [List.dropWhile_cons, if_neg (by simpa using hx)]
      refine Ev.step (f := fun _ => some (ofL (x :: l))) (fun k => ?_) (Ev.now _)
      simp only [strings_trimLeftByte.l0]
      rw [if_pos (by simp), if_pos (by simp), hb, if_neg (fun h => hx (UInt8.toNat_inj.1 (by omega)))]
end Go.Proofs.YtbicjgaadknmfaaDoor.M
