/- Plain laws: digits read, by the program and by the document. -/
import Derived.Test.YtbicjgaadknmfaaDoorNe
import Derived.Test.YtbicjgaadknmfaaDoorDx2
import Derived.Test.YtbicjgaadknmfaaDoorDx3
import Derived.Test.YtbicjgaadknmfaaDoorDx3
import Derived.Test.YtbicjgaadknmfaaDoorDx5
namespace Go.Proofs.YtbicjgaadknmfaaDoor.M
open Go.RowKit Go.Proofs.YtbicjgaadknmfaaDoorW.PrintWords Go.Proofs.YtbicjgaadknmfaaDoor.P
set_option linter.unusedVariables false
set_option linter.unusedSimpArgs false
set_option linter.unusedSectionVars false

theorem dec_len {n w : Nat} (h : n < 10 ^ w) (hw : 0 < w) : (dec n).length ≤ w := by
  induction w generalizing n with
  | zero => omega
  | succ w ih =>
    by_cases h1 : n < 10
    · rw [dec_small n h1]; simp
    · rw [dec_step n (by omega), List.length_append, List.length_singleton]
      have hw0 : 0 < w := by
        cases w with
        | zero => simp at h; omega
        | succ w => omega
      have := ih (n := n / 10) (by rw [Nat.pow_succ] at h; omega) hw0
      omega
theorem dec_len_words {l : List Int} (h : Wl l) : (dec (val l).toNat).length ≤ 10 * l.length + 1 := by
  refine dec_len ?_ (by omega)
  refine Nat.lt_of_lt_of_le (val_ltN h) ?_
  have h1 : 4294967296 ^ l.length ≤ 10 ^ (10 * l.length) := by
    rw [Nat.pow_mul]
    exact Nat.pow_le_pow_left (by decide) _
  exact Nat.le_trans h1 (Nat.pow_le_pow_right (by decide) (by omega))
theorem textRef {l : List Int} (h : Wl l) (hn : l.length ≤ 1000000) : Ev (fun k => retrospectref07_Text.f k l) (ofL (dec (val l).toNat)) := by
  have hl := dec_len_words h
  have := textLoop (val l).toNat [] (Nat.le_trans (words_le (val_ltN h)) hn) (by rw [if_neg (by simp), List.append_nil]; omega)
  rw [if_neg (by simp), List.append_nil] at this
  exact Ev.bind (f := fun n t => retrospectref07_Text.l0 n t ⟨#[]⟩) (normRef h (by omega)) this

def isDig (c : UInt8) : Bool := decide (48 ≤ c.toNat) && decide (c.toNat ≤ 57)
def wrongAt : List UInt8 → Nat → Option Nat
  | [], _ => none
  | c :: r, i => if isDig c = true ∧ i ≠ 60 then wrongAt r (i + 1) else some i
def wrongI (l : List UInt8) : Int := match wrongAt l 0 with
  | some j => (j : Int)
  | none => if l = [] then 0 else -1
theorem wrong_sim (s : ByteArray) (hs : s.size ≤ 140737488351232) (n : Nat) : ∀ (r : List UInt8) (i : Nat), r.length ≤ n → (toL s).drop i = r → i ≤ 60 →
    Ev (fun k => digits_wrong.l0 k s (s.size : Int) (i : Int)) (match wrongAt r i with | some j => (j : Int) | none => if toL s = [] then 0 else -1) := by
  induction n with
  | zero =>
    intro r i hr hd hi
    have h0 : r = [] := List.length_eq_zero_iff.1 (by omega)
    subst h0
    have := drop_nil hd
    rw [length_toL] at this
    by_cases he : toL s = []
    · refine Ev.step (f := fun _ => some 0) (fun k => ?_) (by simp only [wrongAt, he, if_true]; exact Ev.now _)
      simp only [digits_wrong.l0]
      rw [if_neg (by omega), toList_eq, if_pos he]
    · refine Ev.step (f := fun _ => some (-1)) (fun k => ?_) (by simp only [wrongAt, he, if_false]; exact Ev.now _)
      simp only [digits_wrong.l0]
      rw [if_neg (by omega), toList_eq, if_neg he]
  | succ n ih =>
    intro r i hr hd hi
    cases r with
    | nil => exact ih [] i (by simp) hd hi
    | cons c r =>
      have hlt := drop_lt hd
      rw [length_toL] at hlt
      have hb := bt_drop s i c r hd
      simp only [wrongAt]
      by_cases h : isDig c = true ∧ i ≠ 60
      · rw [if_pos h]
        have hdig := h.1
        simp only [isDig, Bool.and_eq_true, decide_eq_true_eq] at hdig
        refine Ev.step (fun k => ?_) (ih r (i + 1) (by simpa using hr) (drop_succ hd) (by omega))
        simp only [digits_wrong.l0]
        rw [if_pos (by omega), if_pos (by omega), if_pos (by omega), hb, if_neg (by omega), if_neg (by omega), if_neg (by omega), wrap_id (by omega) (by omega)]
        rfl
      · rw [if_neg h]
        refine Ev.step (f := fun _ => some (i : Int)) (fun k => ?_) (Ev.now _)
        simp only [digits_wrong.l0]
        rw [if_pos (by omega), if_pos (by omega), if_pos (by omega), hb]
        by_cases h1 : c.toNat < 48
        · rw [if_pos (by omega)]
        · rw [if_neg (by omega)]
          by_cases h2 : c.toNat > 57
          · rw [if_pos (by omega)]
          · have : i = 60 := by
              rcases Nat.eq_or_lt_of_le hi with h' | h'
              · exact h'
              · exfalso; exact h ⟨by simp [isDig]; omega, by omega⟩
            rw [if_neg (by omega), if_pos (by omega)]
theorem wrongProg (s : ByteArray) (hs : s.size ≤ 140737488351232) : Ev (fun k => digits_wrong.f k s) (wrongI (toL s)) :=
  wrong_sim s hs (toL s).length (toL s) 0 (Nat.le_refl _) rfl (by omega)
theorem wrong_ref_sim (s : ByteArray) (hs : s.size ≤ 140737488351232) (n : Nat) : ∀ (r : List UInt8) (i : Nat), r.length ≤ n → (toL s).drop i = r → i ≤ 60 →
    Ev (fun k => retrospectref07_Wrong.l0 k s (i : Int)) (match wrongAt r i with | some j => (j : Int) | none => -1) := by
  induction n with
  | zero =>
    intro r i hr hd hi
    have h0 : r = [] := List.length_eq_zero_iff.1 (by omega)
    subst h0
    have := drop_nil hd
    rw [length_toL] at this
    refine Ev.step (f := fun _ => some (-1)) (fun k => ?_) (Ev.now _)
    simp only [retrospectref07_Wrong.l0]
    rw [if_neg (by omega)]
  | succ n ih =>
    intro r i hr hd hi
    cases r with
    | nil => exact ih [] i (by simp) hd hi
    | cons c r =>
      have hlt := drop_lt hd
      rw [length_toL] at hlt
      have hb := bt_drop s i c r hd
      simp only [wrongAt]
      by_cases h : isDig c = true ∧ i ≠ 60
      · rw [if_pos h]
        have hdig := h.1
        simp only [isDig, Bool.and_eq_true, decide_eq_true_eq] at hdig
        refine Ev.step (fun k => ?_) (ih r (i + 1) (by simpa using hr) (drop_succ hd) (by omega))
        simp only [retrospectref07_Wrong.l0]
        rw [if_pos (by omega), if_pos (by omega), hb, if_neg (by omega), if_neg (by omega), if_neg (by omega), wrap_id (by omega) (by omega)]
        rfl
      · rw [if_neg h]
        refine Ev.step (f := fun _ => some (i : Int)) (fun k => ?_) (Ev.now _)
        simp only [retrospectref07_Wrong.l0]
        rw [if_pos (by omega), if_pos (by omega), hb]
        by_cases h1 : c.toNat < 48
        · rw [if_pos (by omega)]
        · rw [if_neg (by omega)]
          by_cases h2 : c.toNat > 57
          · rw [if_pos (by omega)]
          · have : i = 60 := by
              rcases Nat.eq_or_lt_of_le hi with h' | h'
              · exact h'
              · exfalso; exact h ⟨by simp [isDig]; omega, by omega⟩
            rw [if_neg (by omega), if_pos (by omega)]
theorem wrongRef (s : ByteArray) (hs : s.size ≤ 140737488351232) : Ev (fun k => retrospectref07_Wrong.f k s) (wrongI (toL s)) := by
  by_cases h : toL s = []
  · refine Ev.congr (f := fun _ => some 0) (fun k => ?_) (by rw [h]; exact Ev.now _)
    unfold retrospectref07_Wrong.f
    rw [toList_eq, if_pos h]
  · have h2 := wrong_ref_sim s hs (toL s).length (toL s) 0 (Nat.le_refl _) rfl (by omega)
    unfold wrongI
    rw [show (if toL s = [] then (0 : Int) else -1) = -1 from if_neg h]
    refine Ev.congr (fun k => ?_) h2
    unfold retrospectref07_Wrong.f
    rw [toList_eq, if_neg h]
    rfl

/-! ### numbers read -/
def num (l : List UInt8) : Nat := l.foldl (fun a c => a * 10 + (c.toNat - 48)) 0
theorem num_snoc (l : List UInt8) (c : UInt8) : num (l ++ [c]) = num l * 10 + (c.toNat - 48) := by simp [num, List.foldl_append]
theorem num_lt_from (l : List UInt8) (h : ∀ c ∈ l, isDig c = true) (a : Nat) : l.foldl (fun a c => a * 10 + (c.toNat - 48)) a < (a + 1) * 10 ^ l.length := by
  induction l generalizing a with
  | nil => simp
  | cons c l ih =>
    have h1 := ih (fun d hd => h d (List.mem_cons_of_mem _ hd)) (a * 10 + (c.toNat - 48))
    have h2 := h c List.mem_cons_self
    simp only [isDig, Bool.and_eq_true, decide_eq_true_eq] at h2
    rw [List.foldl_cons, List.length_cons, Nat.pow_succ]
    refine Nat.lt_of_lt_of_le h1 ?_
    have h3 : a * 10 + (c.toNat - 48) + 1 ≤ (a + 1) * 10 := by omega
    have := Nat.mul_le_mul_right (10 ^ l.length) h3
    grind
theorem num_lt (l : List UInt8) (h : ∀ c ∈ l, isDig c = true) : num l < 10 ^ l.length := by
  have := num_lt_from l h 0
  simpa [num] using this
theorem wrongAt_none {l : List UInt8} {i : Nat} (h : wrongAt l i = none) (hi : i ≤ 60) : (∀ c ∈ l, isDig c = true) ∧ i + l.length ≤ 60 := by
  induction l generalizing i with
  | nil => exact ⟨by simp, by simpa using hi⟩
  | cons c r ih =>
    simp only [wrongAt] at h
    split at h
    · rename_i hc
      obtain ⟨h1, h2⟩ := ih h (by omega)
      refine ⟨fun d hd => ?_, by simp; omega⟩
      rcases List.mem_cons.1 hd with rfl | hd
      · exact hc.1
      · exact h1 d hd
    · cases h
theorem wrongAt_some {l : List UInt8} {i j : Nat} (h : wrongAt l i = some j) : i ≤ j := by
  induction l generalizing i with
  | nil => cases h
  | cons c r ih =>
    simp only [wrongAt] at h
    split at h
    · have := ih h; omega
    · cases h; omega
theorem words_len60 {n : Nat} (h : n < 10 ^ 62) : (words n).length ≤ 7 := words_le (Nat.lt_of_lt_of_le h (by decide))
theorem pow_le60 {i : Nat} (h : i ≤ 61) : 10 ^ i ≤ 10 ^ 61 := Nat.pow_le_pow_right (by decide) h
theorem pow_le9 {i : Nat} (h : i ≤ 9) : 10 ^ i ≤ 10 ^ 9 := Nat.pow_le_pow_right (by decide) h

section
variable (s : ByteArray) (hd : ∀ c ∈ toL s, isDig c = true) (hs : s.size ≤ 60)
include hd hs
theorem chunk_end (v t x i : Nat) (ht : t < 4294967296) (hx : x < 4294967296) (hv : v < 10 ^ 61) (he : num ((toL s).take i) = v * t + x) (hi : i ≤ s.size) {R}
    (k : Ev (fun k => digits_Read.l0 k s (words (num ((toL s).take i))) (i : Int)) R) : Ev (fun k => (prod_Word.f k (words v) (t : Int) (x : Int)).bind fun t116 => digits_Read.l0 k s t116 (i : Int)) R := by
  have h := prodWord (l := words v) (x := (t : Int)) (c := (x : Int)) (Wl_words v) (by omega) (by omega) (by omega) (by omega) (by have := words_len60 (Nat.lt_trans hv (by decide)); omega)
  rw [val_words, show ((v : Int) * (t : Int) + (x : Int)).toNat = v * t + x by rw [← Int.natCast_mul, ← Int.natCast_add, Int.toNat_natCast], ← he] at h
  exact Ev.bind (f := fun k t116 => digits_Read.l0 k s t116 (i : Int)) h k
theorem num_take (i : Nat) (hi : i < s.size) : num ((toL s).take (i + 1)) = num ((toL s).take i) * 10 + ((bt s (i : Int)).toNat - 48) ∧ 48 ≤ bt s (i : Int) ∧ bt s (i : Int) ≤ 57 := by
  have hi' : i < (toL s).length := by rw [length_toL]; exact hi
  have hb : bt s (i : Int) = ((toL s)[i].toNat : Int) := by rw [bt_toL, Int.toNat_natCast, List.getD_eq_getElem?_getD, List.getElem?_eq_getElem hi']; rfl
  rw [List.take_succ_eq_append_getElem hi', num_snoc, hb]
  have h := hd _ (List.getElem_mem hi')
  simp only [isDig, Bool.and_eq_true, decide_eq_true_eq] at h
  omega
theorem num_take_lt (i : Nat) : num ((toL s).take i) < 10 ^ 61 := by
  have h1 := num_lt ((toL s).take i) (fun c hc => hd c (List.mem_of_mem_take hc))
  refine Nat.lt_of_lt_of_le h1 (pow_le60 ?_)
  simp; omega
theorem readSim (n : Nat) : ∀ (i cnt v x : Nat), s.size - i ≤ n → i ≤ s.size → cnt < 9 ∨ i = s.size → cnt ≤ 9 → v < 10 ^ 61 → x < 10 ^ cnt → num ((toL s).take i) = v * 10 ^ cnt + x →
    Ev (fun k => digits_Read.l1 k s (words v) (i : Int) (x : Int) ((10 ^ cnt : Nat) : Int) (cnt : Int)) (words (num (toL s)), 0, 0, 0, 0) := by
  have hend : ∀ i : Nat, i = s.size → Ev (fun k => digits_Read.l0 k s (words (num ((toL s).take i))) (i : Int)) (words (num (toL s)), 0, 0, 0, 0) := by
    intro i hi
    refine Ev.step (f := fun _ => some (words (num (toL s)), 0, 0, 0, 0)) (fun k => ?_) (Ev.now _)
    simp only [digits_Read.l0]
    rw [if_neg (by omega), List.take_of_length_le (by rw [length_toL]; omega)]
  have p9 : 10 ^ 9 = 1000000000 := rfl
  induction n with
  | zero =>
    intro i cnt v x hn hi hc hc9 hv hx he
    have hi' : i = s.size := by omega
    have hp := pow_le9 hc9
    refine Ev.step (fun k => ?_) (chunk_end s hd hs v (10 ^ cnt) x i (by omega) (by omega) hv he hi (hend i hi'))
    simp only [digits_Read.l1]
    by_cases h9 : cnt < 9
    · rw [if_pos (by omega), if_neg (by omega)]
    · rw [if_neg (by omega)]
  | succ n ih =>
    intro i cnt v x hn hi hc hc9 hv hx he
    by_cases hi' : i = s.size
    · exact ih i cnt v x (by omega) hi hc hc9 hv hx he
    · have hlt : i < s.size := by omega
      have hc' : cnt < 9 := by omega
      have hp := pow_le9 (show cnt + 1 ≤ 9 by omega)
      obtain ⟨h1, h2, h3⟩ := num_take s hd hs i hlt
      rw [he] at h1
      have hpw : 10 ^ (cnt + 1) = 10 ^ cnt * 10 := Nat.pow_succ ..
      have hx' : x * 10 + ((bt s (i : Int)).toNat - 48) < 10 ^ (cnt + 1) := by omega
      have he' : num ((toL s).take (i + 1)) = v * 10 ^ (cnt + 1) + (x * 10 + ((bt s (i : Int)).toNat - 48)) := by rw [h1, hpw]; grind
      have hround : ∀ k, digits_Read.l1 (k + 1) s (words v) (i : Int) (x : Int) ((10 ^ cnt : Nat) : Int) (cnt : Int) = digits_Read.l1 k s (words v) ((i + 1 : Nat) : Int) ((x * 10 + ((bt s (i : Int)).toNat - 48) : Nat) : Int) ((10 ^ (cnt + 1) : Nat) : Int) ((cnt + 1 : Nat) : Int) := by
        intro k
        simp only [digits_Read.l1]
        rw [if_pos (by omega), if_pos (by omega), if_pos (by omega), wrap_id (n := (i : Int) + 1) (by omega) (by omega), wrap_id (n := (cnt : Int) + 1) (by omega) (by omega)]
        have e1 : ((x : Int) * 10 % 4294967296 + (bt s (i : Int) - 48) % 256) % 4294967296 = ((x * 10 + ((bt s (i : Int)).toNat - 48) : Nat) : Int) := by omega
        have e2 : ((10 ^ cnt : Nat) : Int) * 10 % 4294967296 = ((10 ^ (cnt + 1) : Nat) : Int) := by rw [hpw]; omega
        rw [e1, e2]
        rfl
      refine Ev.step hround ?_
      by_cases h9 : cnt + 1 < 9 ∨ i + 1 = s.size
      · exact ih (i + 1) (cnt + 1) v _ (by omega) (by omega) h9 (by omega) hv hx' he'
      · have hcc : cnt + 1 = 9 := by omega
        have hk := ih (i + 1) 0 (num ((toL s).take (i + 1))) 0 (by omega) (by omega) (by omega) (by omega) (num_take_lt s hd hs _) (by decide) (by simp)
        refine Ev.step (fun k => ?_) (chunk_end s hd hs v (10 ^ (cnt + 1)) _ (i + 1) (by omega) (by omega) hv he' (by omega) (Ev.step (fun k => ?_) hk))
        · simp only [digits_Read.l1]
          rw [if_neg (by omega)]
        · simp only [digits_Read.l0]
          rw [if_pos (by omega)]
          rfl
theorem readProg : Ev (fun k => digits_Read.l0 k s [] 0) (words (num (toL s)), 0, 0, 0, 0) := by
  by_cases h0 : s.size = 0
  · refine Ev.step (f := fun _ => some (words (num (toL s)), 0, 0, 0, 0)) (fun k => ?_) (Ev.now _)
    simp only [digits_Read.l0]
    have : toL s = [] := List.length_eq_zero_iff.1 (by rw [length_toL]; exact h0)
    rw [if_neg (by omega), this]
    simp [num, words_zero]
  · have h := readSim s hd hs s.size 0 0 0 0 (by omega) (by omega) (by omega) (by omega) (by decide) (by decide) (by simp [num])
    rw [words_zero] at h
    refine Ev.step (fun k => ?_) h
    simp only [digits_Read.l0]
    rw [if_pos (by omega)]
    rfl
theorem readRefSim (n : Nat) : ∀ i : Nat, i + n = s.size → Ev (fun k => retrospectref07_Read.l0 k s (words (num ((toL s).take i))) (i : Int)) (words (num (toL s))) := by
  induction n with
  | zero =>
    intro i hi
    refine Ev.step (f := fun _ => some (words (num (toL s)))) (fun k => ?_) (Ev.now _)
    simp only [retrospectref07_Read.l0]
    rw [if_neg (by omega), List.take_of_length_le (by rw [length_toL]; omega)]
  | succ n ih =>
    intro i hi
    obtain ⟨h1, h2, h3⟩ := num_take s hd hs i (by omega)
    have hlt := num_take_lt s hd hs i
    have hlw := words_len60 (Nat.lt_trans hlt (by decide))
    have hm := mulRef (Wl_words (num ((toL s).take i))) (Wl.cons (x := 10) (by omega) (by omega) Wl.nil) (by simp; omega)
    rw [val_words, show (((num ((toL s).take i) : Nat) : Int) * val [10]).toNat = num ((toL s).take i) * 10 by simp only [val]; omega] at hm
    have hl2 : (words (num ((toL s).take i) * 10)).length ≤ 1000000 := by
      have := words_len60 (n := num ((toL s).take i) * 10) (by omega)
      omega
    have e1 : (bt s (i : Int) % 4294967296 - 48) % 4294967296 = bt s (i : Int) - 48 := by omega
    have ha := addRef (Wl_words (num ((toL s).take i) * 10)) (Wl.cons (x := bt s (i : Int) - 48) (by omega) (by omega) Wl.nil) hl2 (by simp)
    rw [val_words, show (((num ((toL s).take i) * 10 : Nat) : Int) + val [bt s (i : Int) - 48]).toNat = num ((toL s).take (i + 1)) by rw [h1]; simp only [val]; omega, ← e1] at ha
    have hk := ih (i + 1) (by omega)
    obtain ⟨K1, k1⟩ := hm
    obtain ⟨K2, k2⟩ := ha
    obtain ⟨K3, k3⟩ := hk
    dsimp only at k1 k2 k3
    refine ⟨K1 + K2 + K3 + 1, fun k hk => ?_⟩
    obtain ⟨k, rfl⟩ : ∃ j, k = j + 1 := ⟨k - 1, by omega⟩
    simp only [retrospectref07_Read.l0]
    rw [if_pos (by omega), k1 k (by omega), Option.bind_some, if_pos (by omega), k2 k (by omega), Option.bind_some, wrap_id (by omega) (by omega)]
    exact k3 k (by omega)
theorem readRef : Ev (fun k => retrospectref07_Read.f k s) (words (num (toL s))) := by
  have := readRefSim s hd hs s.size 0 (by omega)
  rw [List.take_zero, show num [] = 0 from rfl, words_zero] at this
  exact this
end
/-- digits.Read, whatever comes. -/
theorem readWhole (s : ByteArray) (hs : s.size ≤ 140737488351232) : Ev (fun k => digits_Read.f k s) (if 0 ≤ wrongI (toL s) then ([], 1, 0, 0, wrongI (toL s)) else (words (num (toL s)), 0, 0, 0, 0)) := by
  have hw := wrongProg s hs
  by_cases h : 0 ≤ wrongI (toL s)
  · rw [if_pos h]
    refine Ev.bind (f := fun k t115 => if t115 ≥ 0 then (some (([] : List Int), 1, 0, 0, t115)) else (digits_Read.l0 k s ([] : List Int) 0)) hw (Ev.congr (f := fun _ => some ([], 1, 0, 0, wrongI (toL s))) (fun k => if_pos h) (Ev.now _))
  · rw [if_neg h]
    have hn : wrongAt (toL s) 0 = none := by
      unfold wrongI at h
      cases hh : wrongAt (toL s) 0 with
      | none => rfl
      | some j => rw [hh] at h; exact absurd (by simp) h
    obtain ⟨h1, h2⟩ := wrongAt_none hn (by omega)
    exact Ev.bind (f := fun k t115 => if t115 ≥ 0 then (some (([] : List Int), 1, 0, 0, t115)) else (digits_Read.l0 k s ([] : List Int) 0)) hw (Ev.congr (fun k => if_neg h) (readProg s h1 (by rw [length_toL] at h2; omega)))
end Go.Proofs.YtbicjgaadknmfaaDoor.M
