/- What the printed lex functions come to: the program's Scan is scanT. -/
import Derived.Test.YtbicjgaadknmfaaAx5
import Derived.Test.YtbicjgaadknmfaaAx4
import Derived.Test.YtbicjgaadknmfaaAx4
import Derived.Test.YtbicjgaadknmfaaAx4
import Derived.Test.YtbicjgaadknmfaaMb
namespace Go.Proofs.Ytbicjgaadknmfaa.M
open Go.RowKit Go.Proofs.YtbicjgaadknmfaaW.PrintWords Go.Proofs.Ytbicjgaadknmfaa.P
set_option linter.unusedVariables false
set_option linter.unusedSimpArgs false

theorem digit_eq (c : UInt8) : lex_digit.f (c.toNat : Int) = some (isDigit c) := by
  unfold lex_digit.f isDigit
  by_cases h : 48 ≤ c.toNat
  · rw [if_pos (by omega)]
    congr 1
    apply decide_eq_decide.2
    omega
  · rw [if_neg (by omega)]
    congr 1
    symm
    apply decide_eq_false
    omega
theorem letter_eq (c : UInt8) : lex_letter.f (c.toNat : Int) = some (isLetter c) := by
  unfold lex_letter.f isLetter
  repeat' split
  all_goals
    congr 1
    symm
    first
    | (apply decide_eq_true; omega)
    | (rw [Bool.eq_iff_iff, decide_eq_true_iff, beq_iff_eq]; omega)
theorem sign_eq (c : UInt8) : lex_sign.f (c.toNat : Int) = some (isSign c) := by
  unfold lex_sign.f
  rw [if_pos (by omega), if_pos (by have := c.toNat_lt; omega)]
  congr 1
  unfold signB isSign
  show (signList.any fun b => decide ((b.toNat : Int) = (c.toNat : Int))) = signList.contains c
  rw [List.contains_eq_any_beq]
  congr 1
  funext b
  rw [Bool.eq_iff_iff, decide_eq_true_iff, beq_iff_eq]
  constructor
  · intro h; exact (UInt8.toNat_inj.1 (by omega)).symm
  · intro h; rw [h]
theorem kind_eq (c : UInt8) : lex_kind.f (c.toNat : Int) = some (kindN c : Int) := by
  unfold lex_kind.f kindN
  rw [digit_eq, letter_eq, sign_eq]
  simp only [Option.bind_some]
  repeat' split
  all_goals rfl
theorem goes_eq (k : Nat) (c : UInt8) : lex_goes.f (k : Int) (c.toNat : Int) = some (goesN k c) := by
  unfold lex_goes.f goesN
  simp only [digit_eq, letter_eq, Option.bind_some]
  by_cases h1 : k = 1
  · subst h1
    rcases Bool.eq_false_or_eq_true (isDigit c) with h | h <;> simp [h]
  · by_cases h2 : k = 2
    · subst h2
      rcases Bool.eq_false_or_eq_true (isDigit c) with h | h <;> rcases Bool.eq_false_or_eq_true (isLetter c) with h' | h' <;> simp [h, h']
    · have e1 : ¬ (k : Int) = 1 := by omega
      have e2 : ¬ (k : Int) = 2 := by omega
      simp [h1, h2, e1, e2]
theorem most_eq (k : Nat) : lex_most.f (k : Int) = some (mostN k : Int) := by
  unfold lex_most.f mostN
  by_cases h1 : k = 1
  · subst h1; rfl
  · by_cases h2 : k = 2
    · subst h2; rfl
    · have e1 : ¬ (k : Int) = 1 := by omega
      have e2 : ¬ (k : Int) = 2 := by omega
      simp [h1, h2, e1, e2]

/-- how far a word goes on. -/
theorem first_go (s : ByteArray) (hs : s.size ≤ 140737488351232) (k : Nat) : ∀ (r : List UInt8) (i : Nat), (toL s).drop i = r → i ≤ s.size →
    Ev (fun n => lex_first.l0 n s (k : Int) (i : Int)) ((i + (r.takeWhile (goesN k)).length : Nat) : Int) := by
  intro r
  induction r with
  | nil =>
    intro i hd hi
    have := drop_nil hd
    rw [length_toL] at this
    refine Ev.step (f := fun _ => some (i : Int)) (fun n => ?_) (Ev.now _)
    simp only [lex_first.l0]
    rw [if_neg (by omega)]
  | cons c r ih =>
    intro i hd hi
    have hlt := drop_lt hd
    rw [length_toL] at hlt
    have hb := bt_drop s i c r hd
    by_cases hg : goesN k c = true
    · refine Ev.step (f := fun n => lex_first.l0 n s (k : Int) ((i + 1 : Nat) : Int)) (fun n => ?_) ?_
      · simp only [lex_first.l0]
        rw [if_pos (by omega), if_pos (by omega), hb, goes_eq, hg]
        simp only [Option.bind_some, if_true]
        rw [wrap_id (by omega) (by omega)]
        rfl
      · have := ih (i + 1) (drop_succ hd) (by omega)
        rw [List.takeWhile_cons_of_pos hg, List.length_cons]
        rw [show i + ((r.takeWhile (goesN k)).length + 1) = i + 1 + (r.takeWhile (goesN k)).length from by omega]
        exact this
    · refine Ev.step (f := fun _ => some (i : Int)) (fun n => ?_) ?_
      · simp only [lex_first.l0]
        rw [if_pos (by omega), if_pos (by omega), hb, goes_eq, eq_false_of_ne_true hg]
        simp
      · rw [List.takeWhile_cons_of_neg hg]
        exact Ev.now _

theorem indexByte_takeWhile (l : List UInt8) (c : UInt8) : Lib.indexByte l c = if (l.takeWhile (fun b => !(b == c))).length = l.length then -1 else ((l.takeWhile (fun b => !(b == c))).length : Int) := by
  induction l with
  | nil => rfl
  | cons b l ih =>
    unfold Lib.indexByte
    by_cases h : (b == c) = true
    · simp [h]
    · have h' : (b == c) = false := by simpa using h
      rw [if_neg h, ih, List.takeWhile_cons_of_pos (by simp [h']), List.length_cons, List.length_cons]
      have hle : (l.takeWhile (fun b => !(b == c))).length ≤ l.length := (List.takeWhile_prefix _).length_le
      generalize (l.takeWhile (fun b => !(b == c))).length = n at *
      generalize l.length = m at *
      by_cases h2 : n = m
      · subst h2; simp
      · have h3 : ¬ n + 1 = m + 1 := by omega
        have h4 : ¬ (n : Int) = -1 := by omega
        simp [h2, h4]
/-- what stands ahead of the first c. -/
theorem cut_len (s : ByteArray) (hs : s.size ≤ 140737488351232) (c : UInt8) : ∃ r, strings_Cut.f s ⟨#[c]⟩ = some r ∧ r.1.size = ((toL s).takeWhile (fun b => !(b == c))).length := by
  unfold strings_Cut.f
  rw [dif_pos ⟨rfl, hs⟩]
  have hle : ((toL s).takeWhile (fun b => !(b == c))).length ≤ (toL s).length := (List.takeWhile_prefix _).length_le
  rw [length_toL] at hle
  have e : cutAt s ((⟨#[c]⟩ : ByteArray)[0]'(Nat.one_pos)) = if ((toL s).takeWhile (fun b => !(b == c))).length = s.size then -1 else (((toL s).takeWhile (fun b => !(b == c))).length : Int) := by
    show Lib.indexByte (toL s) c = _
    rw [indexByte_takeWhile, length_toL]
  rw [e]
  by_cases h : ((toL s).takeWhile (fun b => !(b == c))).length = s.size
  · rw [if_pos h, if_neg (by omega)]
    exact ⟨_, rfl, h.symm⟩
  · rw [if_neg h, if_pos (by omega)]
    refine ⟨_, rfl, ?_⟩
    show (s.extract 0 _).size = _
    rw [← length_toL, toL_extract, List.drop_zero, List.length_take, length_toL]
    omega
end Go.Proofs.Ytbicjgaadknmfaa.M
