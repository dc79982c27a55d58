/- The document's Scan is scanT: all together. -/
import Derived.Test.YtbicjgaadknmfaaMf
namespace Go.Proofs.Ytbicjgaadknmfaa.M
open Go.RowKit Go.Proofs.YtbicjgaadknmfaaW.PrintWords Go.Proofs.Ytbicjgaadknmfaa.P
set_option linter.unusedVariables false
set_option linter.unusedSimpArgs false

theorem goes_plain {k : Nat} {c : UInt8} (h : goesN k c = true) : isBlank c = false ∧ ¬ c.toNat = 35 ∧ ¬ c.toNat = 10 := by
  have hc : (48 ≤ c.toNat ∧ c.toNat ≤ 57) ∨ (97 ≤ c.toNat ∧ c.toNat ≤ 122) ∨ (65 ≤ c.toNat ∧ c.toNat ≤ 90) ∨ c.toNat = 95 := by
    unfold goesN isDigit isLetter at h
    simp only [Bool.or_eq_true, Bool.and_eq_true, decide_eq_true_eq] at h
    omega
  refine ⟨?_, by omega, by omega⟩
  unfold isBlank
  apply decide_eq_false
  omega

/-- a byte that goes on with the open word. -/
theorem ref_on (s : ByteArray) (hs : s.size ≤ 4000) (pre : List RW) (w : Wd) (i : Nat) (c : UInt8) (r : List UInt8) (hd : (toL s).drop i = c :: r) (hi : i < s.size) (hg : goesN w.kd c = true) (hw : w.pl + w.tx.length = i) (hk : ¬ w.kd = 0) (ha : pre.length ≤ i) {q : List RW × Int}
    (k : if mostN w.kd < w.tx.length + 1 then q = ([], (i : Int)) else Ev (fun k => retrospectref16_Scan.l0 k s (pre ++ [mkR ⟨w.kd, w.tx ++ [c], w.pl⟩]) false ((i + 1 : Nat) : Int)) q) :
    Ev (fun k => retrospectref16_Scan.l0 k s (pre ++ [mkR w]) false (i : Int)) q := by
  have hb := bt_drop s i c r hd
  obtain ⟨h1, h2, h10⟩ := goes_plain hg
  have hn : noteAt c false = false := by simp [noteAt, h2]
  have hx : s.extract i (i + 1) = ofL [c] := by
    apply toL_inj
    rw [toL_extract, hd, toL_ofL, show i + 1 - i = 1 from by omega]
    rfl
  have hwr : wrap64 ((i : Int) + 1) = ((i + 1 : Nat) : Int) := by rw [wrap_id (by omega) (by omega)]; rfl
  have hL : (pre ++ [mkR w]).length = pre.length + 1 := by simp
  have hsz : (mkR w).f1.size = w.tx.length := by simp [mkR]
  have hf2 : (mkR w).f2 = (w.pl : Int) := rfl
  have hf0 : (mkR w).f0 = (w.kd : Int) := rfl
  have hwl : wrap64 (((pre ++ [mkR w]).length : Int) - 1) = (pre.length : Int) := by rw [wrap_id (by omega) (by omega)]; omega
  have e3 : ∀ k, retrospectref16_Scan.j3 (k + 1) s (pre ++ [mkR w]) false (i : Int) (c.toNat : Int) false = retrospectref16_Scan.j4 k s (pre ++ [mkR w]) false (i : Int) (c.toNat : Int) ((pre ++ [mkR w]).length : Int) true := by
    intro k
    simp only [retrospectref16_Scan.j3]
    rw [if_neg (by decide), if_pos (by omega), if_pos (by omega), if_pos (by omega), rd_last pre (mkR w) (by omega), hsz, hf2, hf0, if_pos (by rw [wrap_id (by omega) (by omega)]; omega), rmore_eq, hg]
    simp only [Option.bind_some]
  have hy : (⟨(mkR w).f0, (mkR w).f1 ++ s.extract i (i + 1), (mkR w).f2⟩ : RW) = mkR ⟨w.kd, w.tx ++ [c], w.pl⟩ := by
    rw [hx]
    have e : (mkR w).f1 ++ ofL [c] = ofL (w.tx ++ [c]) := by apply toL_inj; rw [toL_append, toL_ofL, toL_ofL]; show toL (ofL w.tx) ++ _ = _; rw [toL_ofL]
    rw [e]
    rfl
  have e4 : ∀ k, retrospectref16_Scan.j4 (k + 1) s (pre ++ [mkR w]) false (i : Int) (c.toNat : Int) ((pre ++ [mkR w]).length : Int) true = (retrospectref16_Most.f (w.kd : Int)).bind fun m => if ((w.tx.length + 1 : Nat) : Int) > m then some ([], (i : Int)) else retrospectref16_Scan.l0 k s (pre ++ [mkR ⟨w.kd, w.tx ++ [c], w.pl⟩]) false ((i + 1 : Nat) : Int) := by
    intro k
    simp only [retrospectref16_Scan.j4]
    have hex : (s.extract i (i + 1)).size = 1 := by rw [hx]; rfl
    rw [if_pos trivial, if_pos (by omega), if_pos (by omega), if_pos (by omega), if_pos (by omega), if_pos (by omega), rd_last pre (mkR w) (by omega), show ((i : Int)).toNat = i from by omega, hwr, show (((i + 1 : Nat) : Int)).toNat = i + 1 from by omega, if_pos (by rw [hsz, hex]; omega), set_last pre (mkR w) _ (by omega), hy]
    simp only [Option.bind_some]
    have hL2 : (pre ++ [mkR w]).length = (pre ++ [mkR ⟨w.kd, w.tx ++ [c], w.pl⟩]).length := by simp
    rw [if_pos (by omega), if_pos (by omega), hL2, rd_last pre _ (by omega)]
    have hf0' : (mkR ⟨w.kd, w.tx ++ [c], w.pl⟩).f0 = (w.kd : Int) := rfl
    have hsz' : (mkR ⟨w.kd, w.tx ++ [c], w.pl⟩).f1.size = w.tx.length + 1 := by simp [mkR]
    rw [hf0', if_neg (by omega), hsz']
  have e5 : Ev (fun k => retrospectref16_Scan.j4 k s (pre ++ [mkR w]) false (i : Int) (c.toNat : Int) ((pre ++ [mkR w]).length : Int) true) q := by
    refine Ev.step e4 ?_
    rw [rmost_eq]
    simp only [Option.bind_some]
    by_cases h0 : mostN w.kd < w.tx.length + 1
    · rw [if_pos h0] at k
      subst k
      exact Ev.congr (fun _ => if_pos (by omega)) (Ev.now _)
    · rw [if_neg h0] at k
      exact Ev.congr (fun n => if_neg (by omega)) k
  have e6 : ∀ k, retrospectref16_Scan.l0 (k + 1 + 3) s (pre ++ [mkR w]) false (i : Int) = retrospectref16_Scan.j4 k s (pre ++ [mkR w]) false (i : Int) (c.toNat : Int) ((pre ++ [mkR w]).length : Int) true := by
    intro k
    rw [ref_round s _ false i c hb hi, hn, h1, Bool.false_or, e3]
  exact Ev.step (fun _ => rfl) (Ev.step (fun _ => rfl) (Ev.step (fun _ => rfl) (Ev.step e6 e5)))

/-- the rest of a word. -/
theorem ref_word (s : ByteArray) (hs : s.size ≤ 4000) (pre : List RW) (kd p : Nat) (hk : ¬ kd = 0) : ∀ (r : List UInt8) (i : Nat) (t : List UInt8), (toL s).drop i = r → i ≤ s.size → p + t.length = i → t.length ≤ mostN kd → pre.length ≤ i → ∀ {q : List RW × Int},
    (if mostN kd < t.length + (r.takeWhile (goesN kd)).length then q = ([], ((p + mostN kd : Nat) : Int)) else Ev (fun k => retrospectref16_Scan.l0 k s (pre ++ [mkR ⟨kd, t ++ r.takeWhile (goesN kd), p⟩]) false ((i + (r.takeWhile (goesN kd)).length : Nat) : Int)) q) →
    Ev (fun k => retrospectref16_Scan.l0 k s (pre ++ [mkR ⟨kd, t, p⟩]) false (i : Int)) q := by
  intro r
  induction r with
  | nil =>
    intro i t hd hi hp ht ha q hq
    rw [List.takeWhile_nil, List.length_nil, List.append_nil, if_neg (by omega)] at hq
    exact hq
  | cons c r ih =>
    intro i t hd hi hp ht ha q hq
    have hlt := drop_lt hd
    rw [length_toL] at hlt
    by_cases hg : goesN kd c = true
    · rw [List.takeWhile_cons_of_pos hg, List.length_cons] at hq
      refine ref_on s hs pre ⟨kd, t, p⟩ i c r hd hlt hg hp hk ha ?_
      show if mostN kd < t.length + 1 then _ else _
      by_cases h0 : mostN kd < t.length + 1
      · rw [if_pos h0]
        rw [if_pos (by omega)] at hq
        rw [hq]
        congr 2
        omega
      · rw [if_neg h0]
        refine ih (i + 1) (t ++ [c]) (drop_succ hd) (by omega) (by simp; omega) (by simp; omega) (by omega) ?_
        rw [List.length_append, List.length_singleton, List.append_assoc, List.singleton_append, show t.length + 1 + (r.takeWhile (goesN kd)).length = t.length + ((r.takeWhile (goesN kd)).length + 1) from by omega, show i + 1 + (r.takeWhile (goesN kd)).length = i + ((r.takeWhile (goesN kd)).length + 1) from by omega]
        exact hq
    · rw [List.takeWhile_cons_of_neg hg, List.length_nil, List.append_nil, if_neg (by omega)] at hq
      exact hq

theorem ref_sim (s : ByteArray) (hs : s.size ≤ 4000) : ∀ (n : Nat) (l : List UInt8) (i : Nat) (acc : List RW), l.length ≤ n → (toL s).drop i = l → i ≤ s.size → acc.length ≤ i → (∀ c r, l = c :: r → Shut acc i c) → (acc = [] ∨ ∃ pre w, acc = pre ++ [mkR w] ∧ w.pl + w.tx.length ≤ i) →
    Ev (fun k => retrospectref16_Scan.l0 k s acc false (i : Int)) (resR acc (scanL l i)) := by
  intro n
  induction n with
  | zero =>
    intro l i acc hn hd hi _ _ _
    obtain rfl := List.length_eq_zero_iff.1 (Nat.le_zero.1 hn)
    have h1 := drop_nil hd
    rw [length_toL] at h1
    rw [scanL]
    have e : resR acc (.ok []) = (acc, -1) := by simp [resR]
    rw [e]
    exact ref_end s acc false i (by omega)
  | succ n ih =>
    intro l i acc hn hd hi ha hsh hend
    cases l with
    | nil => exact ih [] i acc (by simp) hd hi ha (fun c r h => by cases h) hend
    | cons c r =>
      have hlt := drop_lt hd
      rw [length_toL] at hlt
      have hb := bt_drop s i c r hd
      have hlen := congrArg List.length hd
      simp at hlen
      simp only [List.length_cons] at hn
      have shut : ∀ j, i < j → ∀ c r, (toL s).drop j = c :: r → Shut acc j c := by
        intro j hj c r _
        rcases hend with h | ⟨pre, w, h, hw⟩
        · exact .inl h
        · exact .inr ⟨pre, w, h, .inl (by omega)⟩
      have endd : ∀ j, i ≤ j → (acc = [] ∨ ∃ pre w, acc = pre ++ [mkR w] ∧ w.pl + w.tx.length ≤ j) := by
        intro j hj
        rcases hend with h | ⟨pre, w, h, hw⟩
        · exact .inl h
        · exact .inr ⟨pre, w, h, by omega⟩
      rw [scanL]
      by_cases h1 : isBlank c = true
      · rw [if_pos h1]
        have hn0 : noteAt c false = false := by
          unfold noteAt
          split
          · rename_i h; exfalso; unfold isBlank at h1; have := of_decide_eq_true h1; omega
          · split <;> rfl
        refine ref_skip s hs acc false i c hb hlt (by rw [h1]; simp) ?_
        rw [hn0]
        exact ih r (i + 1) acc (by omega) (drop_succ hd) (by omega) (by omega) (fun c' r' h => shut _ (by omega) c' r' (by rw [drop_succ hd, h])) (endd _ (by omega))
      · have h1' := eq_false_of_ne_true h1
        rw [if_neg h1]
        by_cases h2 : c.toNat = 35
        · rw [if_pos h2]
          have hle : (r.takeWhile noBreak).length ≤ r.length := (List.takeWhile_prefix _).length_le
          have hle2 := dropWhile_le noBreak r
          have hn1 : noteAt c false = true := by simp [noteAt, h2]
          have hdj : (toL s).drop (i + 1 + (r.takeWhile noBreak).length) = r.dropWhile noBreak := by rw [← List.drop_drop, drop_succ hd, drop_takeWhile]
          refine ref_skip s hs acc false i c hb hlt (by rw [hn1]; rfl) ?_
          rw [hn1]
          refine ref_note s hs acc r (i + 1) (drop_succ hd) (by omega) ?_
          exact ih (r.dropWhile noBreak) (i + 1 + (r.takeWhile noBreak).length) acc (by omega) hdj (by omega) (by omega) (fun c' r' h => shut _ (by omega) c' r' (by rw [hdj, h])) (endd _ (by omega))
        · rw [if_neg h2]
          refine ref_begin s hs acc i c r hd hlt h1' h2 (hsh c r rfl) ha ?_
          by_cases h3 : kindN c = 0
          · rw [if_pos h3, if_pos h3]; rfl
          · rw [if_neg h3, if_neg h3]
            have hle : (r.takeWhile (goesN (kindN c))).length ≤ r.length := (List.takeWhile_prefix _).length_le
            have hle2 := dropWhile_le (goesN (kindN c)) r
            have hsum := take_add_drop (goesN (kindN c)) r
            generalize hkd : kindN c = kd at *
            refine ref_word s hs acc kd i h3 r (i + 1) [c] (drop_succ hd) (by omega) (by simp) (by have := most_pos kd; simpa using this) (by omega) ?_
            rw [List.length_singleton, List.singleton_append, Nat.add_comm 1]
            by_cases h4 : mostN kd < (r.takeWhile (goesN kd)).length + 1
            · rw [if_pos h4, if_pos h4]; rfl
            · rw [if_neg h4, if_neg h4]
              have hdj : (toL s).drop (i + ((r.takeWhile (goesN kd)).length + 1)) = r.dropWhile (goesN kd) := by rw [Nat.add_comm _ 1, ← Nat.add_assoc, ← List.drop_drop, drop_succ hd, drop_takeWhile]
              have hIH := ih (r.dropWhile (goesN kd)) (i + ((r.takeWhile (goesN kd)).length + 1)) (acc ++ [mkR ⟨kd, c :: r.takeWhile (goesN kd), i⟩]) (by omega) hdj (by omega) (by simp; omega)
                (fun c' r' h => .inr ⟨acc, _, rfl, .inr ⟨by simp, by
                  have := List.head?_dropWhile_not (goesN kd) r
                  rw [h] at this
                  simpa using this⟩⟩) (.inr ⟨acc, _, rfl, by simp⟩)
              rw [show i + 1 + (r.takeWhile (goesN kd)).length = i + ((r.takeWhile (goesN kd)).length + 1) from by omega]
              have hres : resR acc (consW ⟨kd, c :: r.takeWhile (goesN kd), i⟩ (scanL (r.dropWhile (goesN kd)) (i + ((r.takeWhile (goesN kd)).length + 1)))) = resR (acc ++ [mkR ⟨kd, c :: r.takeWhile (goesN kd), i⟩]) (scanL (r.dropWhile (goesN kd)) (i + ((r.takeWhile (goesN kd)).length + 1))) := by
                cases scanL (r.dropWhile (goesN kd)) (i + ((r.takeWhile (goesN kd)).length + 1)) with
                | ok ws => simp [resR, consW]
                | error q => rfl
              rw [hres]
              exact hIH

theorem ref_scan (s : ByteArray) : Ev (fun k => retrospectref16_Scan.f k s) (resR [] (scanT (toL s))) := by
  unfold scanT
  rw [length_toL]
  by_cases h : 4000 < s.size
  · rw [if_pos h]
    refine Ev.congr (f := fun _ => some (resR [] (.error 4000))) (fun k => ?_) (Ev.now _)
    unfold retrospectref16_Scan.f
    rw [if_pos (by omega)]
    rfl
  · rw [if_neg h]
    refine Ev.congr (fun k => ?_) (ref_sim s (by omega) (toL s).length (toL s) 0 [] (Nat.le_refl _) rfl (by omega) (by simp) (fun c r _ => .inl rfl) (.inl rfl))
    unfold retrospectref16_Scan.f
    rw [if_neg (by omega)]
    rfl
end Go.Proofs.Ytbicjgaadknmfaa.M
