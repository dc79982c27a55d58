/- Words copied, words compared, the chapter's examples. -/
import Derived.Test.YtbicjgaadknmfaaMd
import Derived.Test.YtbicjgaadknmfaaMg
import Derived.Test.YtbicjgaadknmfaaAx8
import Derived.Test.YtbicjgaadknmfaaAx8
import Derived.Test.YtbicjgaadknmfaaAx5
namespace Go.Proofs.Ytbicjgaadknmfaa.M
open Go.RowKit Go.Proofs.YtbicjgaadknmfaaW.PrintWords Go.Proofs.Ytbicjgaadknmfaa.P
set_option linter.unusedVariables false
set_option linter.unusedSimpArgs false

/-- scanL by a number of rounds: to reckon with. -/
def scanF : Nat → List UInt8 → Nat → Except Nat (List Wd)
  | 0, _, _ => .ok []
  | _ + 1, [], _ => .ok []
  | n + 1, c :: r, p =>
    if isBlank c then scanF n r (p + 1)
    else if c.toNat = 35 then scanF n (r.dropWhile noBreak) (p + 1 + (r.takeWhile noBreak).length)
    else if kindN c = 0 then .error p
    else if mostN (kindN c) < (r.takeWhile (goesN (kindN c))).length + 1 then .error (p + mostN (kindN c))
    else consW ⟨kindN c, c :: r.takeWhile (goesN (kindN c)), p⟩ (scanF n (r.dropWhile (goesN (kindN c))) (p + ((r.takeWhile (goesN (kindN c))).length + 1)))
theorem scanF_eq : ∀ (n : Nat) (l : List UInt8) (p : Nat), l.length ≤ n → scanF n l p = scanL l p := by
  intro n
  induction n with
  | zero =>
    intro l p h
    obtain rfl := List.length_eq_zero_iff.1 (Nat.le_zero.1 h)
    rw [scanL]; rfl
  | succ n ih =>
    intro l p h
    cases l with
    | nil => rw [scanL]; rfl
    | cons c r =>
      simp only [List.length_cons] at h
      rw [scanL, scanF, ih r _ (by omega), ih (r.dropWhile noBreak) _ (by have := dropWhile_le noBreak r; omega), ih (r.dropWhile (goesN (kindN c))) _ (by have := dropWhile_le (goesN (kindN c)) r; omega)]
theorem scanT_eq (l : List UInt8) (h : l.length ≤ 4000) : scanT l = scanF l.length l 0 := by
  unfold scanT
  rw [if_neg (by omega), scanF_eq _ _ _ (Nat.le_refl _)]

theorem of_go (ws : List Wd) (hl : ws.length ≤ 100000) : ∀ (n i : Nat) (acc : List RW), n = ws.length - i → i ≤ ws.length → acc = (ws.take i).map mkR →
    Ev (fun k => retrospectlaw16_Of.l0 k (ws.map mkS) acc (i : Int)) (ws.map mkR) := by
  intro n
  induction n with
  | zero =>
    intro i acc hn hi ha
    refine Ev.step (f := fun _ => some acc) (fun k => ?_) ?_
    · simp only [retrospectlaw16_Of.l0]
      rw [if_neg (by simp; omega)]
    · rw [ha, List.take_of_length_le (by omega)]; exact Ev.now _
  | succ n ih =>
    intro i acc hn hi ha
    have hlt : i < ws.length := by omega
    have hla : acc.length = i := by rw [ha]; simp; omega
    refine Ev.step (f := fun k => retrospectlaw16_Of.l0 k (ws.map mkS) (acc ++ [mkR ws[i]]) ((i + 1 : Nat) : Int)) (fun k => ?_) ?_
    · simp only [retrospectlaw16_Of.l0]
      rw [if_pos (by simp; omega), if_pos (by omega), if_pos (by omega), wrap_id (by omega) (by omega)]
      have : rd_T38 (ws.map mkS) (i : Int) = mkS ws[i] := by
        unfold rd_T38
        simp [List.getD_eq_getElem?_getD, hlt]
      rw [this]
      rfl
    · refine ih (i + 1) _ (by omega) (by omega) ?_
      rw [ha, List.take_succ_eq_append_getElem hlt, List.map_append]
      rfl
theorem of_eq (ws : List Wd) (hl : ws.length ≤ 100000) : Ev (fun k => retrospectlaw16_Of.f k (ws.map mkS)) (ws.map mkR) :=
  of_go ws hl ws.length 0 [] (by omega) (by omega) rfl

theorem same_go (l : List RW) (hl : l.length ≤ 100000) : ∀ (n i : Nat), n = l.length - i → i ≤ l.length → Ev (fun k => retrospectlaw16_same.l0 k l l (i : Int)) true := by
  intro n
  induction n with
  | zero =>
    intro i hn hi
    refine Ev.step (f := fun _ => some true) (fun k => ?_) (Ev.now _)
    simp only [retrospectlaw16_same.l0]
    rw [if_neg (by omega)]
  | succ n ih =>
    intro i hn hi
    refine Ev.step (f := fun k => retrospectlaw16_same.l0 k l l ((i + 1 : Nat) : Int)) (fun k => ?_) (ih (i + 1) (by omega) (by omega))
    simp only [retrospectlaw16_same.l0]
    rw [if_pos (by omega), if_pos (by omega), if_pos (by omega), wrap_id (by omega) (by omega)]
    simp
theorem same_eq (l : List RW) (hl : l.length ≤ 100000) : Ev (fun k => retrospectlaw16_same.f k l l) true := by
  unfold retrospectlaw16_same.f
  simp only [if_true]
  exact same_go l hl l.length 0 (by omega) (by omega)

theorem scan_len : ∀ (n : Nat) (l : List UInt8) (p : Nat) (ws : List Wd), l.length ≤ n → scanL l p = .ok ws → ws.length ≤ l.length := by
  intro n
  induction n with
  | zero =>
    intro l p ws h e
    obtain rfl := List.length_eq_zero_iff.1 (Nat.le_zero.1 h)
    rw [scanL] at e
    cases e
    simp
  | succ n ih =>
    intro l p ws h e
    cases l with
    | nil => rw [scanL] at e; cases e; simp
    | cons c r =>
      simp only [List.length_cons] at h ⊢
      rw [scanL] at e
      split at e
      · have := ih r _ ws (by omega) e; omega
      · split at e
        · have h2 := dropWhile_le noBreak r
          have := ih _ _ ws (by omega) e; omega
        · split at e
          · cases e
          · split at e
            · cases e
            · have h2 := dropWhile_le (goesN (kindN c)) r
              cases h3 : scanL (r.dropWhile (goesN (kindN c))) (p + ((r.takeWhile (goesN (kindN c))).length + 1)) with
              | error q => rw [h3] at e; cases e
              | ok vs =>
                rw [h3] at e
                cases e
                have := ih _ _ vs (by omega) h3
                simp; omega
theorem scanT_len (l : List UInt8) (ws : List Wd) (h : scanT l = .ok ws) : ws.length ≤ 4000 := by
  unfold scanT at h
  split at h
  · cases h
  · have := scan_len l.length l 0 ws (Nat.le_refl _) h; omega

theorem works16 : Ev (fun k => retrospectlaw16_works.f k) true := by
  unfold retrospectlaw16_works.f
  have a := prog_scan (⟨#[50, 42, 121, 91, 48, 93, 32, 35, 32, 120]⟩ : ByteArray)
  have b := prog_scan (⟨#[97, 36, 98]⟩ : ByteArray)
  have ea : scanT (toL (⟨#[50, 42, 121, 91, 48, 93, 32, 35, 32, 120]⟩ : ByteArray)) = .ok [⟨1, [50], 0⟩, ⟨3, [42], 1⟩, ⟨2, [121], 2⟩, ⟨3, [91], 3⟩, ⟨1, [48], 4⟩, ⟨3, [93], 5⟩] := by
    rw [scanT_eq _ (by decide)]; rfl
  have eb : scanT (toL (⟨#[97, 36, 98]⟩ : ByteArray)) = .error 1 := by
    rw [scanT_eq _ (by decide)]; rfl
  rw [ea] at a
  rw [eb] at b
  refine Ev.bind a (Ev.bind b (Ev.congr (f := fun _ => some true) (fun k => ?_) (Ev.now _)))
  simp [resP, rd_T38, mkS, toList_eq]
end Go.Proofs.Ytbicjgaadknmfaa.M
