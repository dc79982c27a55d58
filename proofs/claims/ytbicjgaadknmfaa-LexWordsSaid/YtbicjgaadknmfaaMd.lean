/- The program's Scan is scanT. -/
import Derived.Test.YtbicjgaadknmfaaMc
import Derived.Test.YtbicjgaadknmfaaAx5
namespace Go.Proofs.Ytbicjgaadknmfaa.M
open Go.RowKit Go.Proofs.YtbicjgaadknmfaaW.PrintWords Go.Proofs.Ytbicjgaadknmfaa.P
set_option linter.unusedVariables false
set_option linter.unusedSimpArgs false

def mkS (w : Wd) : S38 := ⟨w.kd, ofL w.tx, w.pl⟩
def resP (acc : List S38) : Except Nat (List Wd) → List S38 × Int × Int × Int × Int
  | .ok ws => (acc ++ ws.map mkS, 0, 0, 0, 0)
  | .error q => ([], 1, 0, 0, (q : Int))

theorem noBreak_eq : noBreak = fun b => !(b == 10) := by
  funext b
  unfold noBreak
  rw [Bool.eq_iff_iff]
  simp only [ne_eq, decide_eq_true_eq, Bool.not_eq_eq_eq_not, Bool.not_true, beq_eq_false_iff_ne]
  constructor
  · intro h e; exact h (by rw [e]; rfl)
  · intro h e; exact h (UInt8.toNat_inj.1 e)

theorem skip_round (s : ByteArray) (i : Nat) (c : UInt8) (hb : bt s (i : Int) = (c.toNat : Int)) (hi : i < s.size) (k : Nat) :
    lex_skip.l0 (k + 1) s (i : Int) = lex_skip.j1 k s (i : Int) (c.toNat : Int) (isBlank c) := by
  simp only [lex_skip.l0]
  rw [if_pos (by omega), if_pos (by omega), hb]
  unfold isBlank
  by_cases h1 : c.toNat = 32
  · rw [if_pos (by omega)]; simp [h1]
  · rw [if_neg (by omega)]
    by_cases h2 : c.toNat = 9
    · rw [if_pos (by omega)]; simp [h2]
    · rw [if_neg (by omega)]
      by_cases h3 : c.toNat = 10
      · rw [if_pos (by omega)]; simp [h3]
      · rw [if_neg (by omega)]
        congr 1
        rw [Bool.eq_iff_iff, decide_eq_true_iff, beq_iff_eq]
        omega
theorem skip_end (s : ByteArray) (i : Nat) (hi : ¬ i < s.size) : Ev (fun k => lex_skip.l0 k s (i : Int)) (i : Int) := by
  refine Ev.step (f := fun _ => some (i : Int)) (fun n => ?_) (Ev.now _)
  simp only [lex_skip.l0]
  rw [if_neg (by omega)]
theorem skip_blank (s : ByteArray) (hs : s.size ≤ 140737488351232) (i : Nat) (c : UInt8) (hb : bt s (i : Int) = (c.toNat : Int)) (hi : i < s.size) (h : isBlank c = true) {j : Int}
    (k : Ev (fun k => lex_skip.l0 k s ((i + 1 : Nat) : Int)) j) : Ev (fun k => lex_skip.l0 k s (i : Int)) j := by
  refine Ev.step (fun n => skip_round s i c hb hi n) ?_
  refine Ev.step (f := fun n => lex_skip.l0 n s ((i + 1 : Nat) : Int)) (fun n => ?_) k
  simp only [lex_skip.j1]
  rw [if_pos h, wrap_id (by omega) (by omega)]
  rfl
theorem skip_note (s : ByteArray) (hs : s.size ≤ 140737488351232) (i : Nat) (c : UInt8) (r : List UInt8) (hd : (toL s).drop i = c :: r) (hi : i < s.size) (h : isBlank c = false) (hc : c.toNat = 35) {j : Int}
    (k : Ev (fun k => lex_skip.l0 k s ((i + 1 + (r.takeWhile noBreak).length : Nat) : Int)) j) : Ev (fun k => lex_skip.l0 k s (i : Int)) j := by
  refine Ev.step (fun n => skip_round s i c (bt_drop s i c r hd) hi n) ?_
  have e : toL (s.extract i s.size) = c :: r := by
    rw [toL_extract, hd, List.take_of_length_le]
    have := congrArg List.length hd
    simp at this
    simp; omega
  obtain ⟨q, hq, hl⟩ := cut_len (s.extract ((i : Int)).toNat s.size) (by simp [ByteArray.size_extract]; omega) 10
  rw [show ((i : Int)).toNat = i from by omega, e, List.takeWhile_cons_of_pos (by rw [show c = 35 from UInt8.toNat_inj.1 hc]; rfl), ← noBreak_eq, List.length_cons] at hl
  have hle : (r.takeWhile noBreak).length ≤ r.length := (List.takeWhile_prefix _).length_le
  have hlen := congrArg List.length hd
  simp at hlen
  refine Ev.step (f := fun n => lex_skip.l0 n s ((i + 1 + (r.takeWhile noBreak).length : Nat) : Int)) (fun n => ?_) k
  simp only [lex_skip.j1]
  rw [if_neg (by rw [h]; decide), if_pos (by omega), if_pos (by omega), if_pos (by omega), hq]
  simp only [Option.bind_some]
  rw [hl, wrap_id (by omega) (by omega)]
  congr 1
  omega
theorem skip_word (s : ByteArray) (i : Nat) (c : UInt8) (hb : bt s (i : Int) = (c.toNat : Int)) (hi : i < s.size) (h : isBlank c = false) (hc : ¬ c.toNat = 35) :
    Ev (fun k => lex_skip.l0 k s (i : Int)) (i : Int) := by
  refine Ev.step (fun n => skip_round s i c hb hi n) ?_
  refine Ev.step (f := fun _ => some (i : Int)) (fun n => ?_) (Ev.now _)
  simp only [lex_skip.j1]
  rw [if_neg (by rw [h]; decide), if_neg (by omega)]

/-- what a round of Scan does behind the word's length. -/
def scanRest (s : ByteArray) (acc : List S38) (i kd mo : Nat) (k : Nat) (t : Int) : Option (List S38 × Int × Int × Int × Int) :=
  if t > (mo : Int) then some (([] : List S38), 1, 0, 0, wrap64 ((i : Int) + (mo : Int)))
  else if (i : Int) ≤ wrap64 ((i : Int) + t) then (if wrap64 ((i : Int) + t) ≤ (s.size : Int) then (if acc.length < 4398046511104 then (lex_skip.f k s (wrap64 ((i : Int) + t))).bind fun q => lex_Scan.l0 k s (acc ++ [(⟨(kd : Int), s.extract i (wrap64 ((i : Int) + t)).toNat, (i : Int)⟩ : S38)]) q else none) else none) else none
theorem scan_round (s : ByteArray) (acc : List S38) (i kd mo : Nat) (c : UInt8) (hb : bt s (i : Int) = (c.toNat : Int)) (hk : lex_kind.f (c.toNat : Int) = some (kd : Int)) (hm : lex_most.f (kd : Int) = some (mo : Int)) (h3 : ¬ kd = 0) (hlt : i < s.size) (k : Nat) :
    lex_Scan.l0 (k + 1) s acc (i : Int) = (lex_first.f k (s.extract i s.size) (kd : Int)).bind (scanRest s acc i kd mo k) := by
  simp only [lex_Scan.l0]
  rw [if_pos (by omega), if_pos (by omega), hb, hk]
  simp only [Option.bind_some]
  rw [if_neg (by omega), if_pos (by omega), show ((i : Int)).toNat = i from by omega, hm]
  simp only [Option.bind_some]
  rfl
theorem rest_bad (s : ByteArray) (acc : List S38) (i kd mo m k : Nat) (h : mo < m + 1) (h1 : i ≤ 4000) (h2 : m ≤ 4000) :
    scanRest s acc i kd mo k ((m + 1 : Nat) : Int) = some (resP acc (.error (i + mo))) := by
  unfold scanRest
  rw [if_pos (by omega), wrap_id (by omega) (by omega)]
  simp [resP]
theorem rest_next (s : ByteArray) (acc : List S38) (i kd mo m k : Nat) (h : ¬ mo < m + 1) (h1 : i + (m + 1) ≤ s.size) (h2 : s.size ≤ 4000) (h3 : acc.length ≤ i) (x : List UInt8) (hw : s.extract i (i + (m + 1)) = ofL x) :
    scanRest s acc i kd mo k ((m + 1 : Nat) : Int) = (lex_skip.l0 k s ((i + (m + 1) : Nat) : Int)).bind fun q => lex_Scan.l0 k s (acc ++ [mkS ⟨kd, x, i⟩]) q := by
  have hwr : wrap64 ((i : Int) + ((m + 1 : Nat) : Int)) = ((i + (m + 1) : Nat) : Int) := by rw [wrap_id (by omega) (by omega)]; omega
  unfold scanRest
  rw [if_neg (by omega), hwr, if_pos (by omega), if_pos (by omega), if_pos (by omega), show (((i + (m + 1) : Nat) : Int)).toNat = i + (m + 1) from by omega, hw]
  rfl

theorem prog_sim (s : ByteArray) (hs : s.size ≤ 4000) : ∀ (n : Nat) (l : List UInt8) (i : Nat) (acc : List S38), l.length ≤ n → (toL s).drop i = l → i ≤ s.size → acc.length ≤ i →
    ∃ j : Int, Ev (fun k => lex_skip.l0 k s (i : Int)) j ∧ Ev (fun k => lex_Scan.l0 k s acc j) (resP acc (scanL l i)) := by
  intro n
  induction n with
  | zero =>
    intro l i acc hn hd hi _
    obtain rfl := List.length_eq_zero_iff.1 (Nat.le_zero.1 hn)
    have h1 := drop_nil hd
    rw [length_toL] at h1
    refine ⟨i, skip_end s i (by omega), ?_⟩
    rw [scanL]
    refine Ev.step (f := fun _ => some (resP acc (.ok []))) (fun k => ?_) (Ev.now _)
    simp only [lex_Scan.l0]
    rw [if_neg (by omega)]
    simp [resP]
  | succ n ih =>
    intro l i acc hn hd hi ha
    cases l with
    | nil => exact ih [] i acc (by simp) hd hi ha
    | cons c r =>
      have hlt := drop_lt hd
      rw [length_toL] at hlt
      have hb := bt_drop s i c r hd
      have hlen := congrArg List.length hd
      simp at hlen
      simp only [List.length_cons] at hn
      rw [scanL]
      by_cases h1 : isBlank c = true
      · rw [if_pos h1]
        obtain ⟨j, e1, e2⟩ := ih r (i + 1) acc (by omega) (drop_succ hd) (by omega) (by omega)
        exact ⟨j, skip_blank s (by omega) i c hb hlt h1 e1, e2⟩
      · have h1' := eq_false_of_ne_true h1
        rw [if_neg h1]
        by_cases h2 : c.toNat = 35
        · rw [if_pos h2]
          have hle : (r.takeWhile noBreak).length ≤ r.length := (List.takeWhile_prefix _).length_le
          have hle2 := dropWhile_le noBreak r
          obtain ⟨j, e1, e2⟩ := ih (r.dropWhile noBreak) (i + 1 + (r.takeWhile noBreak).length) acc (by omega) (by rw [← List.drop_drop, drop_succ hd, drop_takeWhile]) (by omega) (by omega)
          exact ⟨j, skip_note s (by omega) i c r hd hlt h1' h2 e1, e2⟩
        · rw [if_neg h2]
          refine ⟨i, skip_word s i c hb hlt h1' h2, ?_⟩
          have hk := kind_eq c
          generalize kindN c = kd at *
          by_cases h3 : kd = 0
          · rw [if_pos h3]
            subst h3
            refine Ev.step (f := fun _ => some (resP acc (.error i))) (fun k => ?_) (Ev.now _)
            simp only [lex_Scan.l0]
            rw [if_pos (by omega), if_pos (by omega), hb, hk]
            simp [resP]
          · rw [if_neg h3]
            have hle : (r.takeWhile (goesN kd)).length ≤ r.length := (List.takeWhile_prefix _).length_le
            have hle2 := dropWhile_le (goesN kd) r
            have hsum := take_add_drop (goesN kd) r
            have he : toL (s.extract i s.size) = c :: r := by
              rw [toL_extract, hd, List.take_of_length_le]
              simp; omega
            have hsz : (s.extract i s.size).size = r.length + 1 := by rw [← length_toL, he, List.length_cons]
            have hf : Ev (fun k => lex_first.f k (s.extract i s.size) (kd : Int)) (((r.takeWhile (goesN kd)).length + 1 : Nat) : Int) := by
              have := first_go (s.extract i s.size) (by omega) kd r 1 (by rw [he]; rfl) (by omega)
              rw [Nat.add_comm] at this
              exact this
            have hsk := ih (r.dropWhile (goesN kd)) (i + ((r.takeWhile (goesN kd)).length + 1)) (acc ++ [mkS ⟨kd, c :: r.takeWhile (goesN kd), i⟩]) (by omega)
              (by rw [Nat.add_comm _ 1, ← Nat.add_assoc, ← List.drop_drop, drop_succ hd, drop_takeWhile]) (by omega) (by simp; omega)
            have hw : s.extract i (i + ((r.takeWhile (goesN kd)).length + 1)) = ofL (c :: r.takeWhile (goesN kd)) := by
              apply toL_inj
              rw [toL_extract, hd, toL_ofL, show i + ((r.takeWhile (goesN kd)).length + 1) - i = (r.takeWhile (goesN kd)).length + 1 from by omega, List.take_succ_cons]
              congr 1
              exact (List.prefix_iff_eq_take.1 (List.takeWhile_prefix _)).symm
            generalize (r.takeWhile (goesN kd)).length = m at *
            have hm := most_eq kd
            generalize mostN kd = mo at *
            obtain ⟨j, e1, e2⟩ := hsk
            refine Ev.step (fun k => scan_round s acc i kd mo c hb hk hm h3 hlt k) (Ev.bind hf ?_)
            by_cases h4 : mo < m + 1
            · rw [if_pos h4]
              exact Ev.congr (fun k => rest_bad s acc i kd mo m k h4 (by omega) (by omega)) (Ev.now _)
            · rw [if_neg h4]
              refine Ev.congr (fun k => rest_next s acc i kd mo m k h4 (by omega) hs ha _ hw) ?_
              have hres : resP acc (consW ⟨kd, c :: r.takeWhile (goesN kd), i⟩ (scanL (r.dropWhile (goesN kd)) (i + (m + 1)))) = resP (acc ++ [mkS ⟨kd, c :: r.takeWhile (goesN kd), i⟩]) (scanL (r.dropWhile (goesN kd)) (i + (m + 1))) := by
                cases scanL (r.dropWhile (goesN kd)) (i + (m + 1)) with
                | ok ws => simp [resP, consW]
                | error q => rfl
              rw [hres]
              exact Ev.bind e1 e2

theorem prog_scan (s : ByteArray) : Ev (fun k => lex_Scan.f k s) (resP [] (scanT (toL s))) := by
  unfold scanT
  rw [length_toL]
  by_cases h : 4000 < s.size
  · rw [if_pos h]
    refine Ev.congr (f := fun _ => some (resP [] (.error 4000))) (fun k => ?_) (Ev.now _)
    unfold lex_Scan.f
    rw [if_pos (by omega)]
    rfl
  · rw [if_neg h]
    obtain ⟨j, e1, e2⟩ := prog_sim s (by omega) (toL s).length (toL s) 0 [] (Nat.le_refl _) rfl (by omega) (by simp)
    refine Ev.congr (f := fun k => (lex_skip.l0 k s ((0 : Nat) : Int)).bind fun q => lex_Scan.l0 k s [] q) (fun k => ?_) (Ev.bind e1 e2)
    unfold lex_Scan.f lex_skip.f
    rw [if_neg (by omega)]
    rfl
end Go.Proofs.Ytbicjgaadknmfaa.M
