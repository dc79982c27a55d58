/- Right words and texts of words: the program's and the document's are the same. -/
import Derived.Test.YtbicjgaadknmfaaMh
import Derived.Test.YtbicjgaadknmfaaAx10
import Derived.Test.YtbicjgaadknmfaaAx11
import Derived.Test.YtbicjgaadknmfaaAx11
import Derived.Test.YtbicjgaadknmfaaAx11
import Derived.Test.YtbicjgaadknmfaaAx9
namespace Go.Proofs.Ytbicjgaadknmfaa.M
open Go.RowKit Go.Proofs.YtbicjgaadknmfaaW.PrintWords Go.Proofs.Ytbicjgaadknmfaa.P
set_option linter.unusedVariables false
set_option linter.unusedSimpArgs false

abbrev SW := S38

/-- is it a word of a kind? -/
def rightW (kd : Int) : List UInt8 → Bool
  | [] => false
  | c :: r => decide (¬ kindN c = 0 ∧ (kindN c : Int) = kd ∧ (r.takeWhile (goesN (kindN c))).length = r.length ∧ r.length + 1 ≤ mostN (kindN c))

theorem right_eq (kd : Int) (s : ByteArray) (x : Int) (hs : s.size ≤ 4000) : Ev (fun k => lex_Right.f k kd s x) (rightW kd (toL s)) := by
  unfold lex_Right.f
  rw [toList_eq]
  cases hl : toL s with
  | nil =>
    refine Ev.congr (fun k => if_pos rfl) ?_
    refine Ev.step (f := fun _ => some false) (fun k => ?_) (Ev.now _)
    simp only [lex_Right.j0, if_true]
  | cons c r =>
    have hsz : s.size = r.length + 1 := by rw [← length_toL, hl, List.length_cons]
    have hb := bt_drop s 0 c r (by rw [hl]; rfl)
    refine Ev.congr (fun k => if_neg (by simp)) ?_
    by_cases h0 : kd = 0
    · refine Ev.congr (fun k => if_pos h0) ?_
      have e : rightW kd (c :: r) = false := by unfold rightW; apply decide_eq_false; omega
      rw [e]
      refine Ev.step (f := fun _ => some false) (fun k => ?_) (Ev.now _)
      simp only [lex_Right.j0, if_true]
    · refine Ev.congr (fun k => if_neg h0) (Ev.congr (fun k => if_pos (by omega)) ?_)
      have hb' : bt s 0 = (c.toNat : Int) := hb
      rw [hb', kind_eq]
      simp only [Option.bind_some]
      by_cases hk : (kindN c : Int) = kd
      · have e1 : ((kindN c : Int) != kd) = false := by simp [hk]
        rw [e1]
        refine Ev.step (f := fun k => (lex_first.f k s kd).bind fun t => if t = (s.size : Int) then (lex_most.f kd).bind fun m => some (decide ((s.size : Int) ≤ m)) else some false) (fun k => ?_) ?_
        · simp only [lex_Right.j0]; rfl
        · have hf : Ev (fun k => lex_first.f k s kd) (((r.takeWhile (goesN (kindN c))).length + 1 : Nat) : Int) := by
            have := first_go s (by omega) (kindN c) r 1 (by rw [hl]; rfl) (by omega)
            rw [Nat.add_comm, hk] at this
            exact this
          refine Ev.bind hf ?_
          have hle : (r.takeWhile (goesN (kindN c))).length ≤ r.length := (List.takeWhile_prefix _).length_le
          by_cases h2 : (r.takeWhile (goesN (kindN c))).length = r.length
          · refine Ev.congr (f := fun _ => some (rightW kd (c :: r))) (fun k => ?_) (Ev.now _)
            rw [if_pos (by omega), ← hk, most_eq]
            simp only [Option.bind_some]
            congr 1
            unfold rightW
            rw [decide_eq_decide]
            omega
          · refine Ev.congr (f := fun _ => some (rightW kd (c :: r))) (fun k => ?_) (Ev.now _)
            rw [if_neg (by omega)]
            congr 1
            unfold rightW
            symm
            apply decide_eq_false
            omega
      · have e1 : ((kindN c : Int) != kd) = true := by simp [hk]
        have e : rightW kd (c :: r) = false := by unfold rightW; apply decide_eq_false; omega
        rw [e1, e]
        refine Ev.step (f := fun _ => some false) (fun k => ?_) (Ev.now _)
        simp only [lex_Right.j0, if_true]

theorem scan_tx : ∀ (n : Nat) (l : List UInt8) (p : Nat) (w : Wd) (ws : List Wd), l.length ≤ n → scanL l p = .ok (w :: ws) → w.tx.length ≤ l.length := by
  intro n
  induction n with
  | zero =>
    intro l p w ws h e
    obtain rfl := List.length_eq_zero_iff.1 (Nat.le_zero.1 h)
    rw [scanL] at e
    cases e
  | succ n ih =>
    intro l p w ws h e
    cases l with
    | nil => rw [scanL] at e; cases e
    | cons c r =>
      simp only [List.length_cons] at h ⊢
      rw [scanL] at e
      split at e
      · have := ih r _ w ws (by omega) e; omega
      · split at e
        · have h2 := dropWhile_le noBreak r
          have := ih _ _ w ws (by omega) e; omega
        · split at e
          · cases e
          · split at e
            · cases e
            · cases h3 : scanL (r.dropWhile (goesN (kindN c))) (p + ((r.takeWhile (goesN (kindN c))).length + 1)) with
              | error q => rw [h3] at e; cases e
              | ok vs =>
                rw [h3] at e
                cases e
                have hle : (r.takeWhile (goesN (kindN c))).length ≤ r.length := (List.takeWhile_prefix _).length_le
                simp; omega

/-- one word that is the whole text. -/
def lone (kd : Int) (l : List UInt8) : Except Nat (List Wd) → Bool
  | .ok [w] => decide ((w.kd : Int) = kd) && decide (w.tx = l)
  | _ => false
theorem lone_right (kd : Int) (l : List UInt8) (h : l.length ≤ 4000) : lone kd l (scanT l) = rightW kd l := by
  unfold scanT
  rw [if_neg (by omega)]
  cases l with
  | nil => rw [scanL]; rfl
  | cons c r =>
    have small : ∀ (l' : List UInt8) (p : Nat), l'.length ≤ r.length → lone kd (c :: r) (scanL l' p) = false := by
      intro l' p hl
      cases e : scanL l' p with
      | error q => rfl
      | ok ws =>
        match ws, e with
        | [], _ => rfl
        | [w], e =>
          have := scan_tx l'.length l' p w [] (Nat.le_refl _) e
          unfold lone
          have hne : ¬ w.tx = c :: r := fun h => by rw [h, List.length_cons] at this; omega
          simp [hne]
        | _ :: _ :: _, _ => rfl
    rw [scanL]
    by_cases h1 : isBlank c = true
    · rw [if_pos h1, small r _ (Nat.le_refl _)]
      have : kindN c = 0 := by
        unfold isBlank at h1
        have h1 := of_decide_eq_true h1
        unfold kindN isDigit isLetter isSign
        rw [if_neg (by simp; omega), if_neg (by simp; omega)]
        have hc : c = 32 ∨ c = 9 ∨ c = 10 ∨ c = 13 := by
          rcases h1 with h | h | h | h
          · exact .inl (UInt8.toNat_inj.1 h)
          · exact .inr (.inl (UInt8.toNat_inj.1 h))
          · exact .inr (.inr (.inl (UInt8.toNat_inj.1 h)))
          · exact .inr (.inr (.inr (UInt8.toNat_inj.1 h)))
        have hn : signList.contains c = false := by rcases hc with rfl | rfl | rfl | rfl <;> decide
        rw [hn]
        rfl
      unfold rightW
      symm
      apply decide_eq_false
      omega
    · rw [if_neg h1]
      by_cases h2 : c.toNat = 35
      · rw [if_pos h2, small _ _ (dropWhile_le noBreak r)]
        have : kindN c = 0 := by
          have e : c = 35 := UInt8.toNat_inj.1 h2
          subst e
          decide
        unfold rightW
        symm
        apply decide_eq_false
        omega
      · rw [if_neg h2]
        by_cases h3 : kindN c = 0
        · rw [if_pos h3]
          unfold rightW lone
          symm
          apply decide_eq_false
          omega
        · rw [if_neg h3]
          have hle : (r.takeWhile (goesN (kindN c))).length ≤ r.length := (List.takeWhile_prefix _).length_le
          by_cases h4 : mostN (kindN c) < (r.takeWhile (goesN (kindN c))).length + 1
          · rw [if_pos h4]
            unfold rightW lone
            symm
            apply decide_eq_false
            omega
          · rw [if_neg h4]
            by_cases h5 : (r.takeWhile (goesN (kindN c))).length = r.length
            · have e1 : r.takeWhile (goesN (kindN c)) = r := (List.takeWhile_prefix _).eq_of_length h5
              have e2 : r.dropWhile (goesN (kindN c)) = [] := by
                have := take_add_drop (goesN (kindN c)) r
                exact List.length_eq_zero_iff.1 (by omega)
              rw [e1, e2, scanL]
              show (decide ((kindN c : Int) = kd) && decide (c :: r = c :: r)) = decide (¬ kindN c = 0 ∧ (kindN c : Int) = kd ∧ (r.takeWhile (goesN (kindN c))).length = r.length ∧ r.length + 1 ≤ mostN (kindN c))
              rw [e1]
              simp only [decide_true, Bool.and_true]
              rw [decide_eq_decide]
              constructor
              · intro h; exact ⟨h3, h, trivial, by rw [e1] at h4; omega⟩
              · intro h; exact h.2.1
            · have er : rightW kd (c :: r) = false := by unfold rightW; apply decide_eq_false; omega
              rw [er]
              cases scanL (r.dropWhile (goesN (kindN c))) (0 + ((r.takeWhile (goesN (kindN c))).length + 1)) with
              | error q => rfl
              | ok ws =>
                cases ws with
                | nil =>
                  unfold consW lone
                  have hne : ¬ c :: r.takeWhile (goesN (kindN c)) = c :: r := fun h => h5 (by rw [List.cons.inj h |>.2])
                  simp [hne]
                | cons _ _ => rfl

theorem rright_eq (kd : Int) (s : ByteArray) (x : Int) (hs : s.size ≤ 4000) : Ev (fun k => retrospectref16_Right.f k kd s x) (rightW kd (toL s)) := by
  unfold retrospectref16_Right.f
  rw [← lone_right kd (toL s) (by rw [length_toL]; omega)]
  refine Ev.bind (ref_scan s) ?_
  cases scanT (toL s) with
  | error q =>
    refine Ev.congr (f := fun _ => some false) (fun k => ?_) (Ev.now _)
    rw [if_neg (by simp [resR])]
  | ok ws =>
    refine Ev.congr (f := fun _ => some (lone kd (toL s) (.ok ws))) (fun k => ?_) (Ev.now _)
    rw [if_pos (by simp [resR])]
    match ws with
    | [] => rfl
    | [w] =>
      rw [if_pos (by simp [resR]), if_pos (by simp [resR])]
      have e0 : rd_T36 (resR [] (.ok [w])).1 0 = mkR w := rfl
      rw [e0]
      show (if (w.kd : Int) = kd then some ((ofL w.tx).toList == s.toList) else some false) = some (decide ((w.kd : Int) = kd) && decide (w.tx = toL s))
      rw [toList_eq, toList_eq, toL_ofL]
      by_cases h : (w.kd : Int) = kd
      · rw [if_pos h, decide_eq_true h, Bool.true_and]
        congr 1
        rw [Bool.eq_iff_iff, beq_iff_eq, decide_eq_true_iff]
      · rw [if_neg h, decide_eq_false h, Bool.false_and]
    | w :: v :: ws =>
      rw [if_neg (by simp [resR]; omega)]
      rfl

/-! texts -/
def toS (w : RW) : SW := ⟨w.f0, w.f1, w.f2⟩
theorem to_go (l : List RW) (hl : l.length ≤ 100000) : ∀ (n i : Nat) (acc : List SW), n = l.length - i → i ≤ l.length → acc = (l.take i).map toS →
    Ev (fun k => retrospectlaw16_To.l0 k l acc (i : Int)) (l.map toS) := by
  intro n
  induction n with
  | zero =>
    intro i acc hn hi ha
    refine Ev.step (f := fun _ => some acc) (fun k => ?_) ?_
    · simp only [retrospectlaw16_To.l0]
      rw [if_neg (by omega)]
    · rw [ha, List.take_of_length_le (by omega)]; exact Ev.now _
  | succ n ih =>
    intro i acc hn hi ha
    have hlt : i < l.length := by omega
    have hla : acc.length = i := by rw [ha]; simp; omega
    refine Ev.step (f := fun k => retrospectlaw16_To.l0 k l (acc ++ [toS l[i]]) ((i + 1 : Nat) : Int)) (fun k => ?_) ?_
    · simp only [retrospectlaw16_To.l0]
      rw [if_pos (by omega), if_pos (by omega), if_pos (by omega), wrap_id (by omega) (by omega)]
      have : rd_T36 l (i : Int) = l[i] := by
        unfold rd_T36
        simp [List.getD_eq_getElem?_getD, hlt]
      rw [this]
      rfl
    · refine ih (i + 1) _ (by omega) (by omega) ?_
      rw [ha, List.take_succ_eq_append_getElem hlt, List.map_append]
      rfl
theorem to_eq (l : List RW) (hl : l.length ≤ 100000) : Ev (fun k => retrospectlaw16_To.f k l) (l.map toS) :=
  to_go l hl l.length 0 [] (by omega) (by omega) rfl

theorem text_go (l : List SW) (hl : l.length ≤ 100000) (r : ByteArray) (hr : strings_Join.f (l.map (·.f1)) ⟨#[32]⟩ = some r) : ∀ (n i : Nat) (acc : List ByteArray), n = l.length - i → i ≤ l.length → acc = (l.take i).map (·.f1) →
    Ev (fun k => lex_Text.l0 k acc l (l.length : Int) (i : Int)) r := by
  intro n
  induction n with
  | zero =>
    intro i acc hn hi ha
    refine Ev.step (f := fun _ => some r) (fun k => ?_) (Ev.now _)
    simp only [lex_Text.l0]
    rw [if_neg (by omega), ha, List.take_of_length_le (by omega), hr]
    rfl
  | succ n ih =>
    intro i acc hn hi ha
    have hlt : i < l.length := by omega
    have hla : acc.length = i := by rw [ha]; simp; omega
    refine Ev.step (f := fun k => lex_Text.l0 k (acc ++ [l[i].f1]) l (l.length : Int) ((i + 1 : Nat) : Int)) (fun k => ?_) ?_
    · simp only [lex_Text.l0]
      rw [if_pos (by omega), if_pos (by omega), if_pos (by omega), if_pos (by omega), wrap_id (by omega) (by omega)]
      have : rd_T38 l (i : Int) = l[i] := by
        unfold rd_T38
        simp [List.getD_eq_getElem?_getD, hlt]
      rw [this]
      rfl
    · refine ih (i + 1) _ (by omega) (by omega) ?_
      rw [ha, List.take_succ_eq_append_getElem hlt, List.map_append]
      rfl
theorem text_eq (l : List SW) (hl : l.length ≤ 100000) (r : ByteArray) (hr : strings_Join.f (l.map (·.f1)) ⟨#[32]⟩ = some r) : Ev (fun k => lex_Text.f k l) r :=
  text_go l hl r hr l.length 0 [] (by omega) (by omega) rfl

theorem join_snoc (l : List (List UInt8)) (x sep : List UInt8) : Lib.join (l ++ [x]) sep = if l = [] then x else Lib.join l sep ++ sep ++ x := by
  cases l with
  | nil => exact Lib.join_one x sep
  | cons y l =>
    rw [if_neg (by simp), List.cons_append, Lib.join_cons, Lib.join_cons, Lib.joinTail, Lib.joinTail]
    simp
theorem rtext_go (l : List RW) (hl : l.length ≤ 100000) (hsz : ∀ w ∈ l, w.f1.size ≤ 4000) : ∀ (n i : Nat) (s : ByteArray), n = l.length - i → i ≤ l.length → toL s = Lib.join ((l.take i).map fun w => toL w.f1) [32] → s.size ≤ i * 4001 →
    ∃ r, Ev (fun k => retrospectref16_Text.l0 k l s (i : Int)) r ∧ toL r = Lib.join (l.map fun w => toL w.f1) [32] ∧ r.size ≤ l.length * 4001 := by
  intro n
  induction n with
  | zero =>
    intro i s hn hi hs hb
    have : i = l.length := by omega
    subst this
    refine ⟨s, Ev.step (f := fun _ => some s) (fun k => ?_) (Ev.now _), by rw [hs, List.take_length], hb⟩
    simp only [retrospectref16_Text.l0]
    rw [if_neg (by omega)]
  | succ n ih =>
    intro i s hn hi hs hb
    have hlt : i < l.length := by omega
    have hrd : rd_T36 l (i : Int) = l[i] := by
      unfold rd_T36
      simp [List.getD_eq_getElem?_getD, hlt]
    have hw := hsz l[i] (List.getElem_mem hlt)
    by_cases h0 : i = 0
    · subst h0
      have hs0 : toL s = [] := hs
      have hz : s.size = 0 := by rw [← length_toL, hs0]; rfl
      obtain ⟨r, e, h1, h2⟩ := ih 1 (s ++ l[0].f1) (by omega) (by omega) (by
        rw [toL_append, hs0, List.nil_append]
        have e1 : l.take 1 = [l[0]] := by
          rw [List.take_succ_eq_append_getElem hlt]; rfl
        rw [e1]
        exact (Lib.join_one _ _).symm) (by rw [ByteArray.size_append]; omega)
      refine ⟨r, Ev.step (fun k => ?_) e, h1, h2⟩
      simp only [retrospectref16_Text.l0]
      rw [if_pos (by omega), if_neg (by omega), if_pos (by omega), hrd, if_pos (by omega), wrap_id (by omega) (by omega)]
      rfl
    · obtain ⟨r, e, h1, h2⟩ := ih (i + 1) ((s ++ ⟨#[32]⟩) ++ l[i].f1) (by omega) (by omega) (by
        rw [toL_append, toL_append, hs, List.take_succ_eq_append_getElem hlt, List.map_append, List.map_singleton, join_snoc, if_neg (by
          intro h
          have := congrArg List.length h
          rw [List.length_map, List.length_take, List.length_nil] at this
          omega)]
        rfl) (by rw [ByteArray.size_append, ByteArray.size_append]; show s.size + 1 + _ ≤ _; omega)
      refine ⟨r, Ev.step (fun k => ?_) e, h1, h2⟩
      have hs1 : (s ++ (⟨#[32]⟩ : ByteArray)).size = s.size + 1 := by rw [ByteArray.size_append]; rfl
      simp only [retrospectref16_Text.l0]
      rw [if_pos (by omega), if_pos (by omega), if_pos (by omega), if_pos (by omega), hrd, if_pos (by omega), wrap_id (by omega) (by omega)]
      rfl
theorem rtext_eq (l : List RW) (hl : l.length ≤ 100000) (hsz : ∀ w ∈ l, w.f1.size ≤ 4000) : ∃ r, Ev (fun k => retrospectref16_Text.f k l) r ∧ toL r = Lib.join (l.map fun w => toL w.f1) [32] ∧ r.size ≤ l.length * 4001 :=
  rtext_go l hl hsz l.length 0 _ (by omega) (by omega) rfl (by decide)
end Go.Proofs.Ytbicjgaadknmfaa.M
