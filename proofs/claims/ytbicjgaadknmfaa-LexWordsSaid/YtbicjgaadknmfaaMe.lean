/- The document's Scan is scanT, too. -/
import Derived.Test.YtbicjgaadknmfaaMb
import Derived.Test.YtbicjgaadknmfaaAx6
import Derived.Test.YtbicjgaadknmfaaAx5
import Derived.Test.YtbicjgaadknmfaaAx5
import Derived.Test.YtbicjgaadknmfaaAx5
import Derived.Test.YtbicjgaadknmfaaAx5
namespace Go.Proofs.Ytbicjgaadknmfaa.M
open Go.RowKit Go.Proofs.YtbicjgaadknmfaaW.PrintWords Go.Proofs.Ytbicjgaadknmfaa.P
set_option linter.unusedVariables false
set_option linter.unusedSimpArgs false

theorem rdigit_eq (c : UInt8) : retrospectref16_digit.f (c.toNat : Int) = some (isDigit c) := by
  unfold retrospectref16_digit.f isDigit
  by_cases h : 48 ≤ c.toNat
  · rw [if_pos (by omega)]
    congr 1
    apply decide_eq_decide.2
    omega
  · rw [if_neg (by omega)]
    congr 1
    symm
    apply decide_eq_false
    omega
theorem rletter_eq (c : UInt8) : retrospectref16_letter.f (c.toNat : Int) = some (isLetter c) := by
  unfold retrospectref16_letter.f isLetter
  repeat' split
  all_goals
    congr 1
    symm
    first
    | (apply decide_eq_true; omega)
    | (rw [Bool.eq_iff_iff, decide_eq_true_iff, beq_iff_eq]; omega)
theorem rmore_eq (k : Nat) (c : UInt8) : retrospectref16_more.f (k : Int) (c.toNat : Int) = some (goesN k c) := by
  unfold retrospectref16_more.f goesN
  simp only [rdigit_eq, rletter_eq, Option.bind_some]
  by_cases h1 : k = 1
  · subst h1
    rcases Bool.eq_false_or_eq_true (isDigit c) with h | h <;> simp [h]
  · by_cases h2 : k = 2
    · subst h2
      rcases Bool.eq_false_or_eq_true (isDigit c) with h | h <;> rcases Bool.eq_false_or_eq_true (isLetter c) with h' | h' <;> simp [h, h']
    · have e1 : ¬ (k : Int) = 1 := by omega
      have e2 : ¬ (k : Int) = 2 := by omega
      simp [h1, h2, e1, e2]
theorem rmost_eq (k : Nat) : retrospectref16_Most.f (k : Int) = some (mostN k : Int) := by
  unfold retrospectref16_Most.f mostN
  by_cases h1 : k = 1
  · subst h1; rfl
  · by_cases h2 : k = 2
    · subst h2; rfl
    · have e1 : ¬ (k : Int) = 1 := by omega
      have e2 : ¬ (k : Int) = 2 := by omega
      simp [h1, h2, e1, e2]
theorem rkind_loop (c : UInt8) (s : ByteArray) (hs : s.size ≤ 1000) : ∀ (r : List UInt8) (i : Nat), (toL s).drop i = r → i ≤ s.size →
    Ev (fun n => retrospectref16_Kind.l0 n (c.toNat : Int) s (i : Int)) (if r.contains c then 3 else 0) := by
  intro r
  induction r with
  | nil =>
    intro i hd hi
    have := drop_nil hd
    rw [length_toL] at this
    refine Ev.step (f := fun _ => some 0) (fun n => ?_) (Ev.now _)
    simp only [retrospectref16_Kind.l0]
    rw [if_neg (by omega)]
  | cons b r ih =>
    intro i hd hi
    have hlt := drop_lt hd
    rw [length_toL] at hlt
    have hb := bt_drop s i b r hd
    by_cases hg : b = c
    · subst hg
      refine Ev.step (f := fun _ => some 3) (fun n => ?_) ?_
      · simp only [retrospectref16_Kind.l0]
        rw [if_pos (by omega), if_pos (by omega), hb, if_pos rfl]
      · simp only [List.contains_cons, beq_self_eq_true, Bool.true_or, if_true]
        exact Ev.now _
    · have hne : ¬ (b.toNat : Int) = (c.toNat : Int) := fun h => hg (UInt8.toNat_inj.1 (by omega))
      refine Ev.step (f := fun n => retrospectref16_Kind.l0 n (c.toNat : Int) s ((i + 1 : Nat) : Int)) (fun n => ?_) ?_
      · simp only [retrospectref16_Kind.l0]
        rw [if_pos (by omega), if_pos (by omega), hb, if_neg hne, wrap_id (by omega) (by omega)]
        rfl
      · have e : (b :: r).contains c = r.contains c := by
          rw [List.contains_cons, beq_eq_false_iff_ne.2 (fun h => hg h.symm), Bool.false_or]
        rw [e]
        exact ih (i + 1) (drop_succ hd) (by omega)
theorem rkind_eq (c : UInt8) : Ev (fun n => retrospectref16_Kind.f n (c.toNat : Int)) (kindN c : Int) := by
  unfold retrospectref16_Kind.f kindN
  simp only [rdigit_eq, rletter_eq, Option.bind_some]
  by_cases h1 : isDigit c = true
  · simp only [h1, if_true]; exact Ev.now _
  · simp only [h1, if_false]
    by_cases h2 : isLetter c = true
    · simp only [h2, if_true]; exact Ev.now _
    · simp only [h2, if_false]
      have := rkind_loop c ⟨#[43, 45, 42, 47, 94, 40, 41, 91, 93, 44, 59, 61]⟩ (by decide) signList 0 rfl (by decide)
      unfold isSign
      split at this <;> rename_i h
      · rw [if_pos h]; exact this
      · rw [if_neg h]; exact this

theorem Ev.succ {α : Type} {g : Nat → Option α} {r : α} (h : Ev g r) : Ev (fun k => g (k + 1)) r := by
  obtain ⟨K, h⟩ := h
  exact ⟨K, fun k hk => h (k + 1) (by omega)⟩

def mkR (w : Wd) : S36 := ⟨w.kd, ofL w.tx, w.pl⟩
def resR (acc : List S36) : Except Nat (List Wd) → List S36 × Int
  | .ok ws => (acc ++ ws.map mkR, -1)
  | .error q => ([], (q : Int))
theorem rd_last (pre : List S36) (w : S36) (hl : pre.length ≤ 4000) :
    rd_T36 (pre ++ [w]) (wrap64 (((pre ++ [w]).length : Int) - 1)) = w := by
  unfold rd_T36
  have hL : (pre ++ [w]).length = pre.length + 1 := by simp
  rw [wrap_id (by omega) (by omega)]
  have : (((pre ++ [w]).length : Int) - 1).toNat = pre.length := by simp
  rw [this]
  simp [List.getD_eq_getElem?_getD]
theorem set_last (pre : List S36) (w v : S36) (hl : pre.length ≤ 4000) :
    (pre ++ [w]).set ((wrap64 (((pre ++ [w]).length : Int) - 1)) : Int).toNat v = pre ++ [v] := by
  have hL : (pre ++ [w]).length = pre.length + 1 := by simp
  rw [wrap_id (by omega) (by omega)]
  have : (((pre ++ [w]).length : Int) - 1).toNat = pre.length := by simp
  rw [this]
  simp
end Go.Proofs.Ytbicjgaadknmfaa.M
