/- The document's Scan is scanT: the rounds. -/
import Derived.Test.YtbicjgaadknmfaaMe
namespace Go.Proofs.Ytbicjgaadknmfaa.M
open Go.RowKit Go.Proofs.YtbicjgaadknmfaaW.PrintWords Go.Proofs.Ytbicjgaadknmfaa.P
set_option linter.unusedVariables false
set_option linter.unusedSimpArgs false

abbrev RW := S36

def noteAt (c : UInt8) (note : Bool) : Bool := if c.toNat = 35 then true else if c.toNat = 10 then false else note

theorem ref_round (s : ByteArray) (acc : List RW) (note : Bool) (i : Nat) (c : UInt8) (hb : bt s (i : Int) = (c.toNat : Int)) (hi : i < s.size) (k : Nat) :
    retrospectref16_Scan.l0 (k + 3) s acc note (i : Int) = retrospectref16_Scan.j3 k s acc (noteAt c note) (i : Int) (c.toNat : Int) (noteAt c note || isBlank c) := by
  simp only [retrospectref16_Scan.l0]
  rw [if_pos (by omega), if_pos (by omega), hb]
  have j2 : ∀ nt k, retrospectref16_Scan.j2 (k + 1) s acc nt (i : Int) (c.toNat : Int) = retrospectref16_Scan.j3 k s acc nt (i : Int) (c.toNat : Int) (nt || isBlank c) := by
    intro nt k
    simp only [retrospectref16_Scan.j2]
    cases nt with
    | true => simp
    | false =>
      rw [if_neg (by decide), Bool.false_or]
      unfold isBlank
      by_cases h1 : c.toNat = 32
      · rw [if_pos (by omega)]; simp [h1]
      · rw [if_neg (by omega)]
        by_cases h2 : c.toNat = 9
        · rw [if_pos (by omega)]; simp [h2]
        · rw [if_neg (by omega)]
          by_cases h3 : c.toNat = 10
          · rw [if_pos (by omega)]; simp [h3]
          · rw [if_neg (by omega)]
            congr 1
            rw [Bool.eq_iff_iff, decide_eq_true_iff, beq_iff_eq]
            omega
  have j1 : ∀ nt k, retrospectref16_Scan.j1 (k + 1 + 1) s acc nt (i : Int) (c.toNat : Int) = retrospectref16_Scan.j3 k s acc (if c.toNat = 35 then true else nt) (i : Int) (c.toNat : Int) ((if c.toNat = 35 then true else nt) || isBlank c) := by
    intro nt k
    simp only [retrospectref16_Scan.j1]
    by_cases h : c.toNat = 35
    · rw [if_pos (by omega), j2, if_pos h]
    · rw [if_neg (by omega), j2, if_neg h]
  unfold noteAt
  by_cases h : c.toNat = 10
  · rw [if_pos (by omega), j1, if_pos h]
  · rw [if_neg (by omega), j1, if_neg h]

/-- a byte that is no word's. -/
theorem ref_skip (s : ByteArray) (hs : s.size ≤ 4000) (acc : List RW) (note : Bool) (i : Nat) (c : UInt8) (hb : bt s (i : Int) = (c.toNat : Int)) (hi : i < s.size) (h : (noteAt c note || isBlank c) = true) {r : List RW × Int}
    (k : Ev (fun k => retrospectref16_Scan.l0 k s acc (noteAt c note) ((i + 1 : Nat) : Int)) r) : Ev (fun k => retrospectref16_Scan.l0 k s acc note (i : Int)) r := by
  have e : ∀ k, retrospectref16_Scan.l0 (k + 1 + 3) s acc note (i : Int) = retrospectref16_Scan.l0 k s acc (noteAt c note) ((i + 1 : Nat) : Int) := by
    intro k
    rw [ref_round s acc note i c hb hi, h]
    simp only [retrospectref16_Scan.j3]
    rw [if_pos trivial, wrap_id (by omega) (by omega)]
    rfl
  exact Ev.step (fun _ => rfl) (Ev.step (fun _ => rfl) (Ev.step (fun _ => rfl) (Ev.step e k)))
theorem ref_end (s : ByteArray) (acc : List RW) (note : Bool) (i : Nat) (hi : ¬ i < s.size) : Ev (fun k => retrospectref16_Scan.l0 k s acc note (i : Int)) (acc, -1) := by
  refine Ev.step (f := fun _ => some (acc, -1)) (fun n => ?_) (Ev.now _)
  simp only [retrospectref16_Scan.l0]
  rw [if_neg (by omega)]
/-- a note ends with its line. -/
theorem ref_note (s : ByteArray) (hs : s.size ≤ 4000) (acc : List RW) : ∀ (r : List UInt8) (i : Nat), (toL s).drop i = r → i ≤ s.size → ∀ {q : List RW × Int},
    Ev (fun k => retrospectref16_Scan.l0 k s acc false ((i + (r.takeWhile noBreak).length : Nat) : Int)) q → Ev (fun k => retrospectref16_Scan.l0 k s acc true (i : Int)) q := by
  intro r
  induction r with
  | nil =>
    intro i hd hi q hq
    have := drop_nil hd
    rw [length_toL] at this
    have e := Ev.uniq hq (ref_end s acc false i (by omega))
    rw [e]
    exact ref_end s acc true i (by omega)
  | cons c r ih =>
    intro i hd hi q hq
    have hlt := drop_lt hd
    rw [length_toL] at hlt
    have hb := bt_drop s i c r hd
    by_cases h : c.toNat = 10
    · have hnb : noBreak c = false := by simp [noBreak, h]
      rw [List.takeWhile_cons_of_neg (by simp [hnb])] at hq
      have e : ∀ k, retrospectref16_Scan.l0 (k + 3) s acc true (i : Int) = retrospectref16_Scan.l0 (k + 3) s acc false (i : Int) := by
        intro k
        rw [ref_round s acc true i c hb hlt, ref_round s acc false i c hb hlt]
        have : noteAt c true = noteAt c false := by simp [noteAt, h]
        rw [this]
      have hq3 := Ev.succ (Ev.succ (Ev.succ hq))
      exact Ev.step (fun _ => rfl) (Ev.step (fun _ => rfl) (Ev.step e hq3))
    · have hnb : noBreak c = true := by simp [noBreak, h]
      rw [List.takeWhile_cons_of_pos hnb, List.length_cons, show i + ((r.takeWhile noBreak).length + 1) = i + 1 + (r.takeWhile noBreak).length from by omega] at hq
      have hn : noteAt c true = true := by simp [noteAt, h]
      refine ref_skip s hs acc true i c hb hlt (by rw [hn]; rfl) ?_
      rw [hn]
      exact ih (i + 1) (drop_succ hd) (by omega) hq

/-- is a word open at a place? -/
def Shut (acc : List RW) (i : Nat) (c : UInt8) : Prop := acc = [] ∨ ∃ pre w, acc = pre ++ [mkR w] ∧ (w.pl + w.tx.length < i ∨ w.pl + w.tx.length = i ∧ goesN w.kd c = false)

/-- a byte that begins a word. -/
theorem ref_begin (s : ByteArray) (hs : s.size ≤ 4000) (acc : List RW) (i : Nat) (c : UInt8) (r : List UInt8) (hd : (toL s).drop i = c :: r) (hi : i < s.size) (h1 : isBlank c = false) (h2 : ¬ c.toNat = 35) (hsh : Shut acc i c) (ha : acc.length ≤ i) {q : List RW × Int}
    (k : if kindN c = 0 then q = ([], (i : Int)) else Ev (fun k => retrospectref16_Scan.l0 k s (acc ++ [mkR ⟨kindN c, [c], i⟩]) false ((i + 1 : Nat) : Int)) q) :
    Ev (fun k => retrospectref16_Scan.l0 k s acc false (i : Int)) q := by
  have hb := bt_drop s i c r hd
  have hn : noteAt c false = false := by simp [noteAt, h2]
  have hw : s.extract i (i + 1) = ofL [c] := by
    apply toL_inj
    rw [toL_extract, hd, toL_ofL, show i + 1 - i = 1 from by omega]
    rfl
  have hwr : wrap64 ((i : Int) + 1) = ((i + 1 : Nat) : Int) := by rw [wrap_id (by omega) (by omega)]; rfl
  -- to j4
  have e3 : ∀ k, retrospectref16_Scan.j3 (k + 1) s acc false (i : Int) (c.toNat : Int) false = retrospectref16_Scan.j4 k s acc false (i : Int) (c.toNat : Int) (acc.length : Int) false := by
    intro k
    simp only [retrospectref16_Scan.j3]
    rw [if_neg (by decide)]
    rcases hsh with rfl | ⟨pre, w, rfl, hw⟩
    · rw [if_neg (by simp)]
    · have hL : (pre ++ [mkR w]).length = pre.length + 1 := by simp
      rw [if_pos (by omega), if_pos (by rw [wrap_id (by omega) (by omega)]; omega), if_pos (by rw [wrap_id (by omega) (by omega)]; omega), rd_last pre (mkR w) (by omega)]
      have hsz : (mkR w).f1.size = w.tx.length := by simp [mkR]
      have hf2 : (mkR w).f2 = (w.pl : Int) := rfl
      have hf0 : (mkR w).f0 = (w.kd : Int) := rfl
      rw [hsz, hf2, hf0]
      rcases hw with hw | ⟨hw, hg⟩
      · rw [if_neg (by rw [wrap_id (by omega) (by omega)]; omega)]
      · rw [if_pos (by rw [wrap_id (by omega) (by omega)]; omega), rmore_eq, hg]
        simp
  have e4 : ∀ k, retrospectref16_Scan.j4 (k + 1) s acc false (i : Int) (c.toNat : Int) (acc.length : Int) false = (retrospectref16_Kind.f k (c.toNat : Int)).bind fun t => if t = 0 then some ([], (i : Int)) else (retrospectref16_Most.f t).bind fun m => if (1 : Int) > m then some ([], (i : Int)) else retrospectref16_Scan.l0 k s (acc ++ [(⟨t, ofL [c], (i : Int)⟩ : RW)]) false ((i + 1 : Nat) : Int) := by
    intro k
    simp only [retrospectref16_Scan.j4]
    rw [if_neg (by decide)]
    congr 1
    funext t
    rw [if_pos (by omega), if_pos (by omega), if_pos (by omega), if_pos (by omega), show ((i : Int)).toNat = i from by omega, hwr, show (((i + 1 : Nat) : Int)).toNat = i + 1 from by omega, hw]
    simp only [Option.bind_some]
    have hL : (acc ++ [(⟨t, ofL [c], (i : Int)⟩ : RW)]).length = acc.length + 1 := by simp
    rw [if_pos (by rw [wrap_id (by omega) (by omega)]; omega), if_pos (by rw [wrap_id (by omega) (by omega)]; omega), rd_last acc _ (by omega)]
    simp
  have e5 : Ev (fun k => retrospectref16_Scan.j4 k s acc false (i : Int) (c.toNat : Int) (acc.length : Int) false) q := by
    refine Ev.step e4 (Ev.bind (rkind_eq c) ?_)
    by_cases h0 : kindN c = 0
    · rw [if_pos h0] at k
      subst k
      rw [h0]
      exact Ev.congr (fun _ => if_pos rfl) (Ev.now _)
    · rw [if_neg h0] at k
      refine Ev.congr (fun n => ?_) k
      rw [if_neg (by omega), rmost_eq]
      simp only [Option.bind_some]
      have := most_pos (kindN c)
      rw [if_neg (by omega)]
      rfl
  have e6 : ∀ k, retrospectref16_Scan.l0 (k + 1 + 3) s acc false (i : Int) = retrospectref16_Scan.j4 k s acc false (i : Int) (c.toNat : Int) (acc.length : Int) false := by
    intro k
    rw [ref_round s acc false i c hb hi, hn, h1, Bool.false_or, e3]
  exact Ev.step (fun _ => rfl) (Ev.step (fun _ => rfl) (Ev.step (fun _ => rfl) (Ev.step e6 e5)))
end Go.Proofs.Ytbicjgaadknmfaa.M
