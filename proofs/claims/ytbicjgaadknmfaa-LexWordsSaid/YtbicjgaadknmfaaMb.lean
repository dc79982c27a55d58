/- The words of a text, as a function on lists of bytes. -/
import Derived.Test.YtbicjgaadknmfaaMa
namespace Go.Proofs.Ytbicjgaadknmfaa.M
open Go.RowKit Go.Proofs.YtbicjgaadknmfaaW.PrintWords
set_option linter.unusedVariables false
set_option linter.unusedSimpArgs false

/-- a word: its kind, its text, its place. -/
structure Wd where
  kd : Nat
  tx : List UInt8
  pl : Nat

def isDigit (c : UInt8) : Bool := decide (48 ≤ c.toNat ∧ c.toNat ≤ 57)
def isLetter (c : UInt8) : Bool := decide ((97 ≤ c.toNat ∧ c.toNat ≤ 122) ∨ (65 ≤ c.toNat ∧ c.toNat ≤ 90) ∨ c.toNat = 95)
def signList : List UInt8 := [43, 45, 42, 47, 94, 40, 41, 91, 93, 44, 59, 61]
def isSign (c : UInt8) : Bool := signList.contains c
def kindN (c : UInt8) : Nat := if isDigit c then 1 else if isLetter c then 2 else if isSign c then 3 else 0
def goesN (k : Nat) (c : UInt8) : Bool := (k == 1 && isDigit c) || (k == 2 && (isLetter c || isDigit c))
def mostN (k : Nat) : Nat := if k = 1 then 60 else if k = 2 then 12 else 1
theorem most_pos (k : Nat) : 1 ≤ mostN k := by
  unfold mostN
  split
  · omega
  · split <;> omega
def isBlank (c : UInt8) : Bool := decide (c.toNat = 32 ∨ c.toNat = 9 ∨ c.toNat = 10 ∨ c.toNat = 13)
def noBreak (c : UInt8) : Bool := decide (c.toNat ≠ 10)

theorem dropWhile_le {α : Type} (p : α → Bool) (l : List α) : (l.dropWhile p).length ≤ l.length := (List.dropWhile_suffix p).length_le
theorem take_add_drop {α : Type} (p : α → Bool) (l : List α) : (l.takeWhile p).length + (l.dropWhile p).length = l.length := by
  rw [← List.length_append, List.takeWhile_append_dropWhile]
theorem drop_takeWhile {α : Type} (p : α → Bool) (l : List α) : l.drop (l.takeWhile p).length = l.dropWhile p := by
  induction l with
  | nil => rfl
  | cons a l ih => by_cases h : p a = true <;> simp [List.takeWhile_cons, List.dropWhile_cons, h, ih]

def consW (w : Wd) : Except Nat (List Wd) → Except Nat (List Wd)
  | .ok ws => .ok (w :: ws)
  | .error q => .error q
/-- the words from place p on, or the place at which there is none. -/
def scanL : List UInt8 → Nat → Except Nat (List Wd)
  | [], _ => .ok []
  | c :: r, p =>
    if isBlank c then scanL r (p + 1)
    else if c.toNat = 35 then scanL (r.dropWhile noBreak) (p + 1 + (r.takeWhile noBreak).length)
    else if kindN c = 0 then .error p
    else if mostN (kindN c) < (r.takeWhile (goesN (kindN c))).length + 1 then .error (p + mostN (kindN c))
    else consW ⟨kindN c, c :: r.takeWhile (goesN (kindN c)), p⟩ (scanL (r.dropWhile (goesN (kindN c))) (p + ((r.takeWhile (goesN (kindN c))).length + 1)))
  termination_by l => l.length
  decreasing_by
  · simp
  · have := dropWhile_le noBreak r; simp; omega
  · have := dropWhile_le (goesN (kindN c)) r; simp; omega

/-- the words of a text. -/
def scanT (l : List UInt8) : Except Nat (List Wd) := if 4000 < l.length then .error 4000 else scanL l 0
end Go.Proofs.Ytbicjgaadknmfaa.M
