/- Plain lemmas: naturals as lists of words of 32 bits; numbers as decimal digits. -/
import Derived.Test.YtbicjgaadknmfaaDoorMa
import Derived.Test.YtbicjgaadknmfaaDoorHd
import Derived.Laws.BitsLemmas
namespace Go.Proofs.YtbicjgaadknmfaaDoor.M
open Go.RowKit Go.Proofs.YtbicjgaadknmfaaDoorW.PrintWords Go.Proofs.YtbicjgaadknmfaaDoor.P
set_option linter.unusedVariables false
set_option linter.unusedSimpArgs false

def val : List Int → Int
  | [] => 0
  | x :: l => x + 4294967296 * val l
def Wl (l : List Int) : Prop := ∀ x ∈ l, 0 ≤ x ∧ x < 4294967296
theorem Wl.nil : Wl [] := by intro x h; simp at h
theorem Wl.cons {x : Int} {l : List Int} (h0 : 0 ≤ x) (h1 : x < 4294967296) (h : Wl l) : Wl (x :: l) := by
  intro y hy
  rcases List.mem_cons.1 hy with rfl | hy
  · exact ⟨h0, h1⟩
  · exact h y hy
theorem Wl.tail {x : Int} {l : List Int} (h : Wl (x :: l)) : Wl l := fun y hy => h y (List.mem_cons_of_mem _ hy)
theorem Wl.head {x : Int} {l : List Int} (h : Wl (x :: l)) : 0 ≤ x ∧ x < 4294967296 := h x List.mem_cons_self
theorem Wl.append {l m : List Int} (h : Wl l) (k : Wl m) : Wl (l ++ m) := by
  intro y hy
  rcases List.mem_append.1 hy with hy | hy
  · exact h y hy
  · exact k y hy
theorem Wl.zeros (n : Nat) : Wl (List.replicate n 0) := by
  intro y hy
  have := (List.mem_replicate.1 hy).2
  omega
theorem Wl.take {l : List Int} (h : Wl l) (n : Nat) : Wl (l.take n) := fun y hy => h y (List.mem_of_mem_take hy)
theorem Wl.drop {l : List Int} (h : Wl l) (n : Nat) : Wl (l.drop n) := fun y hy => h y (List.mem_of_mem_drop hy)
theorem Wl.get {l : List Int} (h : Wl l) (i : Nat) (hi : i < l.length) : 0 ≤ l[i] ∧ l[i] < 4294967296 := h _ (List.getElem_mem hi)
theorem val_nonneg {l : List Int} (h : Wl l) : 0 ≤ val l := by
  induction l with
  | nil => simp [val]
  | cons x l ih =>
    have := ih h.tail
    have := h.head
    simp only [val]
    omega
theorem val_append (l m : List Int) : val (l ++ m) = val l + 4294967296 ^ l.length * val m := by
  induction l with
  | nil => simp [val]
  | cons x l ih =>
    simp only [List.cons_append, val, ih, List.length_cons, Int.pow_succ]
    grind
theorem val_zeros (n : Nat) : val (List.replicate n 0) = 0 := by
  induction n with
  | zero => rfl
  | succ n ih => simp only [List.replicate_succ, val, ih]; omega
theorem val_lt {l : List Int} (h : Wl l) : val l < 4294967296 ^ l.length := by
  induction l with
  | nil => simp [val]
  | cons x l ih =>
    have h1 := ih h.tail
    have h2 := h.head
    simp only [val, List.length_cons, Int.pow_succ]
    generalize (4294967296 : Int) ^ l.length = p at *
    omega
theorem strip_cons (x : Int) (l : List Int) : strip (x :: l) = if strip l = [] ∧ x = 0 then [] else x :: strip l := by
  unfold strip
  rw [List.reverse_cons, List.dropWhile_append]
  cases hl : List.dropWhile (fun x : Int => x == 0) l.reverse with
  | nil => by_cases hx : x = 0 <;> simp [hx]
  | cons y t => simp
/-- the list of a number. -/
def words (n : Nat) : List Int :=
  if h : n = 0 then [] else ((n % 4294967296 : Nat) : Int) :: words (n / 4294967296)
termination_by n
decreasing_by omega
theorem words_zero : words 0 = [] := by unfold words; rfl
theorem words_pos {n : Nat} (h : n ≠ 0) : words n = ((n % 4294967296 : Nat) : Int) :: words (n / 4294967296) := by rw [words]; simp [h]
theorem Wl_words (n : Nat) : Wl (words n) := by
  induction n using Nat.strongRecOn with
  | ind n ih =>
    by_cases h : n = 0
    · subst h; rw [words_zero]; exact Wl.nil
    · rw [words_pos h]; exact Wl.cons (by omega) (by omega) (ih _ (by omega))
theorem val_words (n : Nat) : val (words n) = (n : Int) := by
  induction n using Nat.strongRecOn with
  | ind n ih =>
    by_cases h : n = 0
    · subst h; rw [words_zero]; rfl
    · rw [words_pos h]; simp only [val]; rw [ih _ (by omega)]; omega
theorem words_nil_iff (n : Nat) : words n = [] ↔ n = 0 := by
  constructor
  · intro h
    by_cases hn : n = 0
    · exact hn
    · rw [words_pos hn] at h; cases h
  · rintro rfl; exact words_zero
theorem strip_words {l : List Int} (h : Wl l) : strip l = words (val l).toNat := by
  induction l with
  | nil => simp [strip_nil, val, words_zero]
  | cons x l ih =>
    have h1 := ih h.tail
    have h2 := h.head
    have h3 := val_nonneg h.tail
    rw [strip_cons, h1]
    simp only [val, words_nil_iff]
    by_cases hz : (val l).toNat = 0 ∧ x = 0
    · rw [if_pos hz, show (x + 4294967296 * val l).toNat = 0 by omega, words_zero]
    · have hne : (x + 4294967296 * val l).toNat ≠ 0 := by omega
      have e1 : (((x + 4294967296 * val l).toNat % 4294967296 : Nat) : Int) = x := by omega
      have e2 : (x + 4294967296 * val l).toNat / 4294967296 = (val l).toNat := by omega
      rw [if_neg hz, words_pos hne, e1, e2]
theorem strip_of_words (n : Nat) : strip (words n) = words n := by rw [strip_words (Wl_words n), val_words]; rfl
theorem words_inj {m n : Nat} (h : words m = words n) : m = n := by
  have := congrArg val h
  rw [val_words, val_words] at this
  omega
theorem words_len (n : Nat) : (words n).length ≤ n := by
  induction n using Nat.strongRecOn with
  | ind n ih =>
    by_cases h : n = 0
    · subst h; rw [words_zero]; simp
    · rw [words_pos h]
      have := ih (n / 4294967296) (by omega)
      simp only [List.length_cons]
      omega

/-! ### digits -/
def dec (n : Nat) : List UInt8 := if n < 10 then [UInt8.ofNat (48 + n)] else dec (n / 10) ++ [UInt8.ofNat (48 + n % 10)]
termination_by n
decreasing_by omega
theorem dec_ne (n : Nat) : dec n ≠ [] := by rw [dec]; split <;> simp
theorem dec_step (n : Nat) (h : 10 ≤ n) : dec n = dec (n / 10) ++ [UInt8.ofNat (48 + n % 10)] := by rw [dec.eq_1 n, if_neg (by omega)]
theorem dec_small (n : Nat) (h : n < 10) : dec n = [UInt8.ofNat (48 + n)] := by rw [dec, if_pos h]
/-- so many digits, with noughts ahead. -/
def fixd : Nat → Nat → List UInt8
  | 0, _ => []
  | w + 1, n => fixd w (n / 10) ++ [UInt8.ofNat (48 + n % 10)]
theorem fixd_len (w n : Nat) : (fixd w n).length = w := by
  induction w generalizing n with
  | zero => rfl
  | succ w ih => simp [fixd, ih]
theorem fixd_add (a b n : Nat) : fixd (a + b) n = fixd a (n / 10 ^ b) ++ fixd b n := by
  induction b generalizing n with
  | zero => simp [fixd]
  | succ b ih =>
    rw [← Nat.add_assoc, fixd, ih, fixd, List.append_assoc, Nat.div_div_eq_div_mul, show 10 * 10 ^ b = 10 ^ (b + 1) by rw [Nat.pow_succ, Nat.mul_comm]]
theorem fixd_mod (b n : Nat) : fixd b (n % 10 ^ b) = fixd b n := by
  induction b generalizing n with
  | zero => rfl
  | succ b ih =>
    simp only [fixd]
    have h1 : n % 10 ^ (b + 1) / 10 = n / 10 % 10 ^ b := by
      rw [Nat.pow_succ, Nat.mul_comm, Nat.mod_mul_right_div_self]
    have h2 : n % 10 ^ (b + 1) % 10 = n % 10 := by
      rw [Nat.pow_succ, Nat.mul_comm, Nat.mod_mul_right_mod]
    rw [h1, h2, ih]
theorem dig_ne (d : Nat) (h : d < 10) (h0 : d ≠ 0) : (UInt8.ofNat (48 + d) == 48) = false := by
  have : d = 1 ∨ d = 2 ∨ d = 3 ∨ d = 4 ∨ d = 5 ∨ d = 6 ∨ d = 7 ∨ d = 8 ∨ d = 9 := by omega
  rcases this with rfl | rfl | rfl | rfl | rfl | rfl | rfl | rfl | rfl <;> rfl
theorem drop_fixd (w n : Nat) (h : n < 10 ^ w) : (fixd w n).dropWhile (· == 48) = if n = 0 then [] else dec n := by
  induction w generalizing n with
  | zero =>
    have : n = 0 := by simpa using h
    simp [this, fixd]
  | succ w ih =>
    rw [fixd, List.dropWhile_append, ih (n / 10) (by rw [Nat.pow_succ] at h; omega)]
    by_cases h0 : n / 10 = 0
    · rw [if_pos h0]
      by_cases hn : n = 0
      · subst hn; simp
      · have hm : n % 10 = n := by omega
        have hlt : n < 10 := by omega
        have hd := dig_ne n hlt hn
        rw [if_neg hn, dec_small n hlt, hm]
        simp only [List.isEmpty_nil, if_true, List.dropWhile_cons, hd, Bool.false_eq_true, if_false]
    · have h10 : 10 ≤ n := by omega
      have hn : ¬ n = 0 := by omega
      have hne : (dec (n / 10)).isEmpty = false := by
        have := dec_ne (n / 10)
        cases h : dec (n / 10) with
        | nil => exact absurd h this
        | cons _ _ => rfl
      rw [if_neg h0, if_neg hn, dec_step n h10, hne]; rfl
end Go.Proofs.YtbicjgaadknmfaaDoor.M
