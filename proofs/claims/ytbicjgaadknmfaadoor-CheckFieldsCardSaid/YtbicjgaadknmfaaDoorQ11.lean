import Derived.Test.YtbicjgaadknmfaaDoorQ10
import Derived.Test.YtbicjgaadknmfaaDoorQ0
import Derived.ProofKit
import Derived.Deep.Slices
import Derived.Deep.Strs
section
namespace Go.Proofs.YtbicjgaadknmfaaDoor.M
open Go.RowKit Go.Proofs.YtbicjgaadknmfaaDoorW.PrintWords Go.Proofs.YtbicjgaadknmfaaDoor.P Go.Proofs.YtbicjgaadknmfaaDoorW.PrintMore
set_option linter.unusedVariables false
set_option linter.unusedSimpArgs false
abbrev Q4 := Int × Int × Int × Int
def z4 : Q4 := (0, 0, 0, 0)
theorem ne4 (q : Q4) : (!(q.1 == 0) || (!(q.2.1 == 0) || (!(q.2.2.1 == 0) || (!(q.2.2.2 == 0))))) = !decide (q = z4) := by
  obtain ⟨a, b, c, d⟩ := q
  unfold z4
  rw [Bool.eq_iff_iff]
  simp
theorem eta4 (q : Q4) : (q.1, q.2.1, q.2.2.1, q.2.2.2) = q := rfl
noncomputable def zc4 (c : List SN) (num d p l : Int) : Q4 := if zdU c d p l < 0 then (if 40 < zdg c then (2, num, 0, (c.length : Int)) else z4) else (2, num, 0, zdU c d p l)
def zc1 (L : List SL) (i : Nat) : Bool := (L.take i).any fun x => decide (toL x.f0 = toL (L.getD i z127).f0)
noncomputable def letQ (L : List SL) (d p : Int) (i : Nat) (x : SL) : Q4 := if zci x.f0 = true ∧ zc1 L i = false then zc4 x.f1 ((i : Int) + 1) d p (i : Int) else (2, (i : Int) + 1, 1, 0)
noncomputable def zdc (d p : Int) (nl : Nat) : List (List SN) → Nat → Q4
  | [], _ => z4
  | c :: r, i => if zc4 c ((nl : Int) + i + 1) d p nl = z4 then zdc d p nl r (i + 1) else zc4 c ((nl : Int) + i + 1) d p nl
noncomputable def zdA (L : List SL) (d p : Int) (z : Q4) : List SL → Nat → Q4
  | [], _ => z
  | x :: r, i => if letQ L d p i x = z4 then zdA L d p z r (i + 1) else letQ L d p i x
def zdQ (L : List SL) (O : List (List SN)) (d p : Int) : Bool := decide (1 ≤ d ∧ d ≤ 6 ∧ 0 ≤ p ∧ p ≤ 6 ∧ (O.length : Int) = d ∧ L.length ≤ 10 ∧ zcc (zcJ L O) ≤ 300)
noncomputable def zdB (L : List SL) (O : List (List SN)) (d p : Int) : Q4 := if zdQ L O d p = true then zdA L d p (zdc d p L.length O 0) L 0 else (2, 0, 0, 0)
theorem zgd (c : List SN) (hc : ∀ x ∈ c, Nw x) (hl : c.length ≤ 1000000) (num d p l : Int) : Ev (fun k => za5.f k c num d p l) (zc4 c num d p l) := by
  have round : ∀ a b k, za5.j0 (k + 1) c num a b = if b = true then (if (c.length : Int) < 0 then some (0, 0, 0, 0) else some (2, num, 0, (c.length : Int))) else if a < 0 then some (0, 0, 0, 0) else some (2, num, 0, a) := fun a b k => by simp only [za5.j0]
  unfold zc4
  refine Ev.bind (zhE c hc hl d p l) ?_
  generalize zdU c d p l = a
  by_cases h : a < 0
  · rw [if_pos h]
    refine Ev.congr (fun k => if_pos h) (Ev.bind (zhQ c hl) (Ev.step (fun k => round a _ k) ?_))
    by_cases h2 : 40 < zdg c
    · rw [if_pos h2]
      exact Ev.congr (fun k => by rw [if_pos (decide_eq_true (show zdg c > 40 from h2)), if_neg (by omega)]) (Ev.now _)
    · rw [if_neg h2]
      exact Ev.congr (fun k => by rw [if_neg (by rw [decide_eq_false (show ¬ zdg c > 40 from h2)]; decide), if_pos h]; rfl) (Ev.now _)
  · rw [if_neg h]
    exact Ev.congr (fun k => if_neg h) (Ev.step (fun k => round a false k) (Ev.congr (fun k => by rw [if_neg (by decide), if_neg h]) (Ev.now _)))
theorem zhN (L : List SL) (hL : L.length ≤ 100) (i : Nat) (hi : i < L.length) : Ev (fun k => za7.f k L (i : Int)) (zc1 L i) := by
  have go : ∀ (n j : Nat), i - j = n → j ≤ i → Ev (fun k => za7.l0 k L (i : Int) (i : Int) (j : Int)) (((L.take i).drop j).any fun x => decide (toL x.f0 = toL (L.getD i z127).f0)) := by
    intro n
    induction n with
    | zero =>
      intro j hn hj
      obtain rfl : j = i := by omega
      rw [List.drop_of_length_le (by simp; omega)]
      refine Ev.step (f := fun _ => some false) (fun k => ?_) (Ev.now _)
      simp only [za7.l0]
      rw [if_neg (by omega)]
    | succ n ih =>
      intro j hn hj
      have hji : j < L.length := by omega
      have hd : (L.take i).drop j = L[j] :: (L.take i).drop (j + 1) := by
        rw [List.drop_eq_getElem_cons (by simp; omega), List.getElem_take]
      rw [hd, List.any_cons]
      have hx : (L.getD i z127) = L[i] := by simp [List.getD_eq_getElem?_getD, hi]
      rw [hx]
      by_cases h : toL L[j].f0 = toL L[i].f0
      · rw [decide_eq_true h, Bool.true_or]
        refine Ev.step (f := fun _ => some true) (fun k => ?_) (Ev.now _)
        simp only [za7.l0]
        rw [if_pos (by omega), if_pos (by omega), if_pos (by omega), if_pos (by omega), if_pos (by omega), rdL hji, rdL hi, toList_eq, toList_eq, if_pos h]
      · rw [decide_eq_false h, Bool.false_or]
        have := ih (j + 1) (by omega) (by omega)
        rw [hx] at this
        refine Ev.step (f := fun k => za7.l0 k L (i : Int) (i : Int) ((j + 1 : Nat) : Int)) (fun k => ?_) this
        simp only [za7.l0]
        rw [if_pos (by omega), if_pos (by omega), if_pos (by omega), if_pos (by omega), if_pos (by omega), rdL hji, rdL hi, toList_eq, toList_eq, if_neg h, zbl (by omega) (by omega)]
        rfl
  exact go i 0 (by omega) (by omega)
theorem zhY {L : List SL} {O : List (List SN)} {m : Nat} (h : Fit L O m) (hm : m ≤ 1000000) (d p : Int) : Ev (fun k => zbD.f k L O d p) (zdQ L O d p) := by
  unfold zbD.f zdQ
  have no : ∀ {q : Prop} [Decidable q], ¬ q → Ev (fun _ : Nat => some false) (decide q) := fun hq => by rw [decide_eq_false hq]; exact Ev.now _
  by_cases c1 : 1 ≤ d
  case neg => exact Ev.congr (fun k => if_neg c1) (no (fun h => c1 h.1))
  refine Ev.congr (fun k => if_pos c1) ?_
  by_cases c2 : d ≤ 6
  case neg => exact Ev.congr (fun k => if_neg c2) (no (fun h => c2 h.2.1))
  refine Ev.congr (fun k => if_pos c2) ?_
  by_cases c3 : 0 ≤ p
  case neg => exact Ev.congr (fun k => if_neg c3) (no (fun h => c3 h.2.2.1))
  refine Ev.congr (fun k => if_pos c3) ?_
  by_cases c4 : p ≤ 6
  case neg => exact Ev.congr (fun k => if_neg c4) (no (fun h => c4 h.2.2.2.1))
  refine Ev.congr (fun k => if_pos c4) ?_
  by_cases c5 : (O.length : Int) = d
  case neg => exact Ev.congr (fun k => if_neg c5) (no (fun h => c5 h.2.2.2.2.1))
  refine Ev.congr (fun k => if_pos c5) ?_
  by_cases c6 : L.length ≤ 10
  case neg => exact Ev.congr (fun k => if_neg (by omega)) (no (fun h => c6 h.2.2.2.2.2.1))
  refine Ev.congr (fun k => if_pos (by omega)) (Ev.bind (ziQ h hm) ?_)
  have e : decide (1 ≤ d ∧ d ≤ 6 ∧ 0 ≤ p ∧ p ≤ 6 ∧ (O.length : Int) = d ∧ L.length ≤ 10 ∧ zcc (zcJ L O) ≤ 300) = decide (((zcc (zcJ L O) : Nat) : Int) ≤ 300) := by
    rw [decide_eq_decide]; omega
  rw [e]
  exact Ev.now _
theorem zhG {L : List SL} {O : List (List SN)} {m : Nat} (h : Fit L O m) (hm : m ≤ 1000000) (d p : Int) : Ev (fun k => zaG.f k L O d p) (zdB L O d p) := by
  refine Ev.bind (zhY h hm d p) ?_
  unfold zdB
  cases zdQ L O d p with
  | false => exact Ev.congr (fun k => if_neg (by decide)) (Ev.now _)
  | true =>
  rw [if_pos rfl]
  refine Ev.congr (fun k => if_pos rfl) ?_
  have hl := h.lets
  have ho := h.outs
  have outs : ∀ (r : List (List SN)) (i : Nat), O.drop i = r → Ev (fun k => zaG.l1 k d p O (O.length : Int) (i : Int) L O) (zdc d p L.length r i) := by
    intro r
    induction r with
    | nil =>
      intro i hd
      have : O.length ≤ i := by simpa using hd
      refine Ev.step (f := fun _ => some z4) (fun k => ?_) (Ev.now _)
      simp only [zaG.l1]
      rw [if_neg (by omega)]
      rfl
    | cons a r ih =>
      intro i hd
      obtain ⟨hlt, h1, hr⟩ := zby hd
      have hn := h.out a (by rw [← h1]; exact List.getElem_mem _)
      refine Ev.step (f := fun k => (za5.f k a ((L.length : Int) + i + 1) d p (L.length : Int)).bind fun q => if (!decide (q = z4)) = true then some q else zaG.l1 k d p O (O.length : Int) ((i + 1 : Nat) : Int) L O) (fun k => ?_) (Ev.bind (zgd a hn.2 (by omega) _ d p _) ?_)
      · simp only [zaG.l1, ne4, eta4]
        rw [if_pos (by omega), if_pos (by omega), if_pos (by omega), zbl (n := (L.length : Int) + (i : Int)) (by omega) (by omega), zbl (by omega) (by omega), zbl (by omega) (by omega)]
        show (za5.f k (O.getD (i : Int).toNat []) _ d p _).bind _ = _
        rw [Int.toNat_natCast, rdC hlt, h1]
        rfl
      · unfold zdc
        generalize zc4 a ((L.length : Int) + i + 1) d p L.length = q
        by_cases hq : q = z4
        · rw [if_pos hq]
          exact Ev.congr (fun k => if_neg (by rw [decide_eq_true hq]; decide)) (ih (i + 1) hr)
        · rw [if_neg hq]
          exact Ev.congr (fun k => if_pos (by rw [decide_eq_false hq]; rfl)) (Ev.now _)
  have lets : ∀ (r : List SL) (i : Nat), L.drop i = r → Ev (fun k => zaG.l0 k d p L (L.length : Int) (i : Int) L O) (zdA L d p (zdc d p L.length O 0) r i) := by
    intro r
    induction r with
    | nil =>
      intro i hd
      have : L.length ≤ i := by simpa using hd
      refine Ev.step (f := fun k => zaG.l1 k d p O (O.length : Int) 0 L O) (fun k => ?_) (outs O 0 rfl)
      simp only [zaG.l0]
      rw [if_neg (by omega)]
    | cons a r ih =>
      intro i hd
      obtain ⟨hlt, h1, hr⟩ := zby hd
      have ha : a ∈ L := by rw [← h1]; exact List.getElem_mem _
      have hn := h.code a ha
      have j1 : ∀ b : Bool, b = (!(zci a.f0 && !zc1 L i)) → Ev (fun k => zaG.j1 k d p (i : Int) L (L.length : Int) (i : Int) b L O a.f0 a.f1) (zdA L d p (zdc d p L.length O 0) (a :: r) i) := by
        intro b hb
        unfold zdA letQ
        cases b with
        | true =>
          have : ¬ (zci a.f0 = true ∧ zc1 L i = false) := by
            rintro ⟨h1, h2⟩; rw [h1, h2] at hb; cases hb
          rw [if_neg this, if_neg (by unfold z4; simp)]
          refine Ev.step (f := fun _ => some ((2, (i : Int) + 1, 1, 0) : Q4)) (fun k => ?_) (Ev.now _)
          simp only [zaG.j1]
          rw [if_pos trivial, zbl (by omega) (by omega)]
        | false =>
          have : zci a.f0 = true ∧ zc1 L i = false := by
            cases h1 : zci a.f0 <;> cases h2 : zc1 L i <;> rw [h1, h2] at hb <;> simp at hb ⊢
          rw [if_pos this]
          refine Ev.step (f := fun k => (za5.f k a.f1 ((i : Int) + 1) d p (i : Int)).bind fun q => if (!decide (q = z4)) = true then some q else zaG.l0 k d p L (L.length : Int) ((i + 1 : Nat) : Int) L O) (fun k => ?_) (Ev.bind (zgd a.f1 hn.2 (by omega) _ d p _) ?_)
          · simp only [zaG.j1, ne4, eta4]
            rw [if_neg (by decide), zbl (by omega) (by omega)]
            rfl
          · generalize zc4 a.f1 ((i : Int) + 1) d p (i : Int) = q
            by_cases hq : q = z4
            · rw [if_pos hq]
              exact Ev.congr (fun k => if_neg (by rw [decide_eq_true hq]; decide)) (ih (i + 1) hr)
            · rw [if_neg hq]
              exact Ev.congr (fun k => if_pos (by rw [decide_eq_false hq]; rfl)) (Ev.now _)
      refine Ev.step (f := fun k => if zci a.f0 = true then (za7.f k L (i : Int)).bind fun t2 => zaG.j1 k d p (i : Int) L (L.length : Int) (i : Int) t2 L O a.f0 a.f1 else zaG.j1 k d p (i : Int) L (L.length : Int) (i : Int) true L O a.f0 a.f1) (fun k => ?_) ?_
      · simp only [zaG.l0]
        rw [if_pos (by omega), if_pos (by omega), if_pos (by omega), rdL hlt, h1, ziL a.f0 (h.name a ha)]
        rfl
      · cases hn2 : zci a.f0 with
        | true =>
          refine Ev.congr (fun k => if_pos rfl) (Ev.bind (zhN L hl i hlt) (j1 _ ?_))
          rw [hn2]; simp
        | false => exact Ev.congr (fun k => if_neg (by decide)) (j1 true (by rw [hn2]; rfl))
  exact lets L 0 rfl
def refQ (q : Q4) : Bool × Int × Int × Int := if q = z4 then (false, 0, 0, 0) else (true, q.2)
theorem zih {L : List RL} {O : List (List RN)} {m : Nat} (h : Fit (L.map zbL) (O.map (List.map toN)) m) (hm : m ≤ 1000000) (d p : Int) :
    Ev (fun k => zal.f k L O d p) (refQ (zdB (L.map zbL) (O.map (List.map toN)) d p)) := by
  have hl := h.lets
  have ho := h.outs
  rw [List.length_map] at hl ho
  have bad : Ev (fun k => zal.j0 k d p true L O) (true, 0, 0, 0) := by
    refine Ev.step (f := fun _ => some (true, 0, 0, 0)) (fun k => ?_) (Ev.now _)
    simp only [zal.j0]
    rw [if_pos trivial]
  have no : ¬ zdQ (L.map zbL) (O.map (List.map toN)) d p = true → refQ (zdB (L.map zbL) (O.map (List.map toN)) d p) = (true, 0, 0, 0) := fun hw => by
    unfold zdB refQ
    rw [if_neg hw, if_neg (by unfold z4; simp)]
  unfold zdQ at no
  rw [decide_eq_true_eq, List.length_map, List.length_map] at no
  unfold zal.f
  by_cases c1 : d < 1
  · rw [no (by omega)]; exact Ev.congr (fun k => if_pos c1) bad
  refine Ev.congr (fun k => if_neg c1) ?_
  by_cases c2 : 6 < d
  · rw [no (by omega)]; exact Ev.congr (fun k => if_pos c2) bad
  refine Ev.congr (fun k => if_neg c2) ?_
  by_cases c3 : p < 0
  · rw [no (by omega)]; exact Ev.congr (fun k => if_pos c3) bad
  refine Ev.congr (fun k => if_neg c3) ?_
  by_cases c4 : 6 < p
  · rw [no (by omega)]; exact Ev.congr (fun k => if_pos c4) bad
  refine Ev.congr (fun k => if_neg c4) ?_
  by_cases c5 : (O.length : Int) = d
  case neg => rw [no (by omega)]; exact Ev.congr (fun k => if_neg c5) bad
  refine Ev.congr (fun k => if_pos c5) ?_
  by_cases c6 : 10 < L.length
  · rw [no (by omega)]; exact Ev.congr (fun k => if_pos (by omega)) bad
  refine Ev.congr (fun k => if_neg (by omega)) (Ev.bind (zjm h hm) ?_)
  by_cases c7 : 300 < zcc (zcJ (L.map zbL) (O.map (List.map toN)))
  · rw [no (by omega), decide_eq_true (by omega)]; exact bad
  rw [decide_eq_false (by omega)]
  have hw : zdQ (L.map zbL) (O.map (List.map toN)) d p = true := by
    unfold zdQ
    rw [decide_eq_true_eq, List.length_map, List.length_map]
    omega
  unfold zdB
  rw [if_pos hw]
  clear no c1 c2 c3 c4 c6 c7 hw
  refine Ev.step (f := fun k => (zaz.f k L O).bind fun t => zal.l0 k d p t 0 L O) (fun k => ?_) (Ev.bind (zgk hl ho) ?_)
  · simp only [zal.j0]
    rw [if_neg (by decide)]
  have hC : ∀ i, (hi : i < (L.map (·.f1) ++ O).length) → ∀ c, (L.map (·.f1) ++ O)[i] = c → (c.map toN).length ≤ m ∧ ∀ n ∈ c.map toN, Nw n := by
    intro i hi c hc
    have hmem : c ∈ L.map (·.f1) ++ O := by rw [← hc]; exact List.getElem_mem _
    rcases List.mem_append.1 hmem with hc | hc
    · obtain ⟨x, hx, rfl⟩ := List.mem_map.1 hc
      exact h.code (zbL x) (List.mem_map.2 ⟨x, hx, rfl⟩)
    · exact h.out _ (List.mem_map.2 ⟨c, hc, rfl⟩)
  have j3 : ∀ (i : Nat) (c : List RN) (hi : i < (L.map (·.f1) ++ O).length), (L.map (·.f1) ++ O)[i] = c → i < 1000 → ∀ (l : Int) (R : Q4), Ev (fun k => zal.l0 k d p (L.map (·.f1) ++ O) ((i + 1 : Nat) : Int) L O) (refQ R) →
      Ev (fun k => zal.j3 k d p (L.map (·.f1) ++ O) (i : Int) l L O) (refQ (if zc4 (c.map toN) ((i : Int) + 1) d p l = z4 then R else zc4 (c.map toN) ((i : Int) + 1) d p l)) := by
    intro i c hi hc hi2 l R hk
    obtain ⟨f1, f2⟩ := hC i hi c hc
    rw [List.length_map] at f1
    have f3 : ∀ x ∈ c, Nw (toN x) := fun x hx => f2 _ (List.mem_map.2 ⟨x, hx, rfl⟩)
    generalize hD : L.map (·.f1) ++ O = D at *
    refine Ev.step (f := fun k => (zaC.f k c d p l).bind fun t => if t ≥ 0 then some (true, (i : Int) + 1, 0, t) else (za1.f k c).bind fun t2 => if t2 > 40 then some (true, (i : Int) + 1, 0, (c.length : Int)) else zal.l0 k d p D ((i + 1 : Nat) : Int) L O) (fun k => ?_) (Ev.bind (ziB c f3 (by omega) d p l) ?_)
    · simp only [zal.j3]
      have e : D.getD (i : Int).toNat [] = c := by rw [Int.toNat_natCast, rdRC hi, hc]
      rw [if_pos (by omega), if_pos (by omega), zbl (n := (i : Int) + 1) (by omega) (by omega)]
      show (zaC.f k (D.getD (i : Int).toNat []) d p l).bind (fun t => if t ≥ 0 then some (true, (i : Int) + 1, 0, t) else (za1.f k (D.getD (i : Int).toNat [])).bind fun t2 => if t2 > 40 then some (true, (i : Int) + 1, 0, ((D.getD (i : Int).toNat []).length : Int)) else zal.l0 k d p D ((i : Int) + 1) L O) = _
      rw [e]
      rfl
    · unfold zc4
      generalize zdU (c.map toN) d p l = a
      by_cases ha : a < 0
      · refine Ev.congr (fun k => if_neg (by omega)) (Ev.bind (zim c (by omega)) ?_)
        rw [if_pos ha]
        by_cases h40 : 40 < zdg (c.map toN)
        · have ne : ¬ ((2, (i : Int) + 1, 0, ((c.map toN).length : Int)) : Q4) = z4 := by unfold z4; simp
          rw [if_pos h40, if_neg ne]
          unfold refQ
          rw [if_neg ne, List.length_map]
          exact Ev.congr (fun k => if_pos h40) (Ev.now _)
        · rw [if_neg h40, if_pos rfl]
          exact Ev.congr (fun k => if_neg h40) hk
      · have ne : ¬ ((2, (i : Int) + 1, 0, a) : Q4) = z4 := by unfold z4; simp
        rw [if_neg ha, if_neg ne]
        unfold refQ
        rw [if_neg ne]
        exact Ev.congr (fun k => if_pos (by omega)) (Ev.now _)
  have mnL : ∀ i : Nat, mn (i : Int) (L.length : Int) = if L.length < i then (L.length : Int) else (i : Int) := fun i => by unfold mn; split <;> split <;> omega
  have outs : ∀ (r : List (List RN)) (i : Nat), O.drop i = r → i ≤ O.length → Ev (fun k => zal.l0 k d p (L.map (·.f1) ++ O) ((L.length + i : Nat) : Int) L O) (refQ (zdc d p L.length (r.map (List.map toN)) i)) := by
    intro r
    induction r with
    | nil =>
      intro i hd hi
      have : O.length ≤ i := by simpa using hd
      refine Ev.step (f := fun _ => some (false, 0, 0, 0)) (fun k => ?_) (Ev.now _)
      simp only [zal.l0]
      rw [if_neg (by simp; omega)]
    | cons a r ih =>
      intro i hd hi
      obtain ⟨hlt, h1, hr⟩ := zby hd
      have hg : L.length + i < (L.map (·.f1) ++ O).length := by simp; omega
      have hgc : (L.map (·.f1) ++ O)[L.length + i] = a := by
        rw [List.getElem_append_right (by simp)]
        simp [h1]
      have := j3 (L.length + i) a hg hgc (by omega) (L.length : Int) (zdc d p L.length (r.map (List.map toN)) (i + 1)) (ih (i + 1) hr (by omega))
      refine Ev.step (f := fun k => zal.j3 k d p (L.map (·.f1) ++ O) ((L.length + i : Nat) : Int) (L.length : Int) L O) (fun k => ?_) ?_
      · simp only [zal.l0]
        rw [if_pos (by omega), if_neg (by omega), mnL]
        congr 1
        split <;> omega
      · rw [List.map_cons]
        unfold zdc
        have e : ((L.length + i : Nat) : Int) + 1 = (L.length : Int) + i + 1 := by omega
        rw [e] at this
        exact this
  have lets : ∀ (r : List RL) (i : Nat), L.drop i = r → i ≤ L.length → Ev (fun k => zal.l0 k d p (L.map (·.f1) ++ O) (i : Int) L O) (refQ (zdA (L.map zbL) d p (zdc d p L.length (O.map (List.map toN)) 0) (r.map zbL) i)) := by
    intro r
    induction r with
    | nil =>
      intro i hd hi
      have : L.length ≤ i := by simpa using hd
      obtain rfl : i = L.length := by omega
      exact outs O 0 rfl (by omega)
    | cons a r ih =>
      intro i hd hi
      obtain ⟨hlt, h1, hr⟩ := zby hd
      have ha : a ∈ L := by rw [← h1]; exact List.getElem_mem _
      have hg : i < (L.map (·.f1) ++ O).length := by simp; omega
      have hgc : (L.map (·.f1) ++ O)[i] = a.f1 := by
        rw [List.getElem_append_left (by simpa using hlt)]
        simp [h1]
      have hx : ((L.map zbL).getD i z127).f0 = a.f0 := by simp [List.getD_eq_getElem?_getD, hlt, h1, zbL]
      have hj := j3 i a.f1 hg hgc (by omega) (i : Int) _ (ih (i + 1) hr (by omega))
      have tw : ∀ (n j : Nat) (right : Bool), i - j = n → j ≤ i → right = (zci a.f0 && !(((L.map zbL).take j).any fun x => decide (toL x.f0 = toL a.f0))) →
          Ev (fun k => zal.l1 k d p (L.map (·.f1) ++ O) (i : Int) (i : Int) right (j : Int) L O) (refQ (zdA (L.map zbL) d p (zdc d p L.length (O.map (List.map toN)) 0) ((a :: r).map zbL) i)) := by
        intro n
        induction n with
        | zero =>
          intro j right hn hj2 hright
          obtain rfl : j = i := by omega
          have htw : zc1 (L.map zbL) j = ((L.map zbL).take j).any fun x => decide (toL x.f0 = toL a.f0) := by unfold zc1; rw [hx]
          rw [← htw] at hright
          rw [List.map_cons]
          unfold zdA letQ
          show Ev _ (refQ (if (if zci a.f0 = true ∧ zc1 (L.map zbL) j = false then zc4 (a.f1.map toN) ((j : Int) + 1) d p (j : Int) else (2, (j : Int) + 1, 1, 0)) = z4 then _ else (if zci a.f0 = true ∧ zc1 (L.map zbL) j = false then zc4 (a.f1.map toN) ((j : Int) + 1) d p (j : Int) else (2, (j : Int) + 1, 1, 0))))
          cases right with
          | true =>
            have : zci a.f0 = true ∧ zc1 (L.map zbL) j = false := by
              cases h1 : zci a.f0 <;> cases h2 : zc1 (L.map zbL) j <;> rw [h1, h2] at hright <;> simp at hright ⊢
            rw [if_pos this]
            refine Ev.step (f := fun k => zal.j3 k d p (L.map (·.f1) ++ O) (j : Int) (j : Int) L O) (fun k => ?_) hj
            simp only [zal.l1]
            rw [if_neg (by omega), if_pos trivial]
          | false =>
            have : ¬ (zci a.f0 = true ∧ zc1 (L.map zbL) j = false) := by
              rintro ⟨h1, h2⟩; rw [h1, h2] at hright; cases hright
            have ne : ¬ ((2, (j : Int) + 1, 1, 0) : Q4) = z4 := by unfold z4; simp
            rw [if_neg this, if_neg ne]
            unfold refQ
            rw [if_neg ne]
            refine Ev.step (f := fun _ => some (true, (j : Int) + 1, 1, 0)) (fun k => ?_) (Ev.now _)
            simp only [zal.l1]
            rw [if_neg (by omega), if_neg (by decide), zbl (by omega) (by omega)]
        | succ n ihn =>
          intro j right hn hj2 hright
          have hjl : j < L.length := by omega
          have hsucc : (((L.map zbL).take (j + 1)).any fun x => decide (toL x.f0 = toL a.f0)) = ((((L.map zbL).take j).any fun x => decide (toL x.f0 = toL a.f0)) || decide (toL L[j].f0 = toL a.f0)) := by
            rw [List.take_succ_eq_append_getElem (by simpa using hjl), List.any_append]
            simp [zbL]
          refine Ev.step (f := fun k => zal.l1 k d p (L.map (·.f1) ++ O) (i : Int) (i : Int) (right && !decide (toL L[j].f0 = toL a.f0)) ((j + 1 : Nat) : Int) L O) (fun k => ?_) (ihn (j + 1) (right && !decide (toL L[j].f0 = toL a.f0)) (by omega) (by omega) (by rw [hsucc, hright]; cases zci a.f0 <;> simp))
          simp only [zal.l1]
          rw [if_pos (by omega), zbl (by omega) (by omega)]
          cases right with
          | true =>
            rw [if_pos rfl, if_pos (by omega), if_pos (by omega), if_pos (by omega), if_pos (by omega), rdRL hjl, rdRL hlt, h1, toList_eq, toList_eq, Bool.true_and, show (toL L[j].f0 != toL a.f0) = !decide (toL L[j].f0 = toL a.f0) by rw [Bool.eq_iff_iff]; simp]
            rfl
          | false => rw [if_neg (by decide)]; rfl
      refine Ev.step (f := fun k => zal.l1 k d p (L.map (·.f1) ++ O) (i : Int) (i : Int) (zci a.f0) 0 L O) (fun k => ?_) (tw i 0 _ (by omega) (by omega) (by simp))
      simp only [zal.l0]
      rw [if_pos (by omega), if_pos (by omega), if_pos (by omega), rdRL hlt, h1, ziU a.f0 (h.name (zbL a) (List.mem_map.2 ⟨a, ha, rfl⟩)), mnL, if_neg (by omega)]
      rfl
  rw [List.length_map]
  exact lets L 0 rfl (by omega)
end Go.Proofs.YtbicjgaadknmfaaDoor.M
end
section
namespace Go.Proofs.YtbicjgaadknmfaaDoor.M
open Go.RowKit Go.Proofs.YtbicjgaadknmfaaDoorW.PrintWords Go.Proofs.YtbicjgaadknmfaaDoor.P Go.Proofs.YtbicjgaadknmfaaDoorW.PrintMore
set_option linter.unusedVariables false
set_option linter.unusedSimpArgs false
theorem zgT (l : List RN) (m w : Nat) (hm : m ≤ 100000) : ∃ b, Ev (fun k => zaw.f k l (m : Int) (w : Int)) b ∧ (b = false → l.length ≤ m ∧ ∀ x ∈ l, x.f2.length ≤ w) := by
  have round : ∀ (i : Nat) k, zaw.l0 (k + 2) l (m : Int) (w : Int) (i : Int) = if i < l.length ∧ i < m then (if w < (l.getD i z62).f2.length then some true else zaw.l0 k l (m : Int) (w : Int) ((i + 1 : Nat) : Int)) else some (decide (m < l.length)) := by
    intro i k
    simp only [zaw.l0, zaw.j1]
    by_cases c : i < l.length
    · by_cases c2 : i < m
      · rw [if_pos (by omega), decide_eq_true (by omega), if_pos rfl, if_pos (by omega), if_pos (by omega), if_pos (show i < l.length ∧ i < m from ⟨c, c2⟩), rdR c, zbl (by omega) (by omega)]
        have e : (l.getD i z62) = l[i] := by simp [List.getD_eq_getElem?_getD, c]
        rw [e]
        by_cases c3 : w < l[i].f2.length
        · rw [if_pos (by omega), if_pos c3]
        · rw [if_neg (by omega), if_neg c3]; rfl
      · rw [if_pos (by omega), decide_eq_false (by omega), if_neg (by decide), if_neg (by omega)]
        congr 1
        exact decide_eq_decide.2 (by omega)
    · rw [if_neg (by omega), if_neg (by decide), if_neg (by omega)]
      congr 1
      exact decide_eq_decide.2 (by omega)
  have go : ∀ (n i : Nat), l.length - i = n → (∀ j, (h : j < l.length) → j < i → l[j].f2.length ≤ w) → ∃ b, Ev (fun k => zaw.l0 k l (m : Int) (w : Int) (i : Int)) b ∧ (b = false → l.length ≤ m ∧ ∀ x ∈ l, x.f2.length ≤ w) := by
    intro n
    induction n with
    | zero =>
      intro i hn hj
      refine ⟨decide (m < l.length), Ev.step (fun _ => rfl) (Ev.step (fun k => round i k) (Ev.congr (fun k => if_neg (by omega)) (Ev.now _))), fun hb => ⟨by have := of_decide_eq_false hb; omega, fun x hx => ?_⟩⟩
      obtain ⟨j, hjl, rfl⟩ := List.getElem_of_mem hx
      exact hj j hjl (by omega)
    | succ n ih =>
      intro i hn hj
      have hil : i < l.length := by omega
      by_cases c2 : i < m
      · have e : (l.getD i z62) = l[i] := by simp [List.getD_eq_getElem?_getD, hil]
        by_cases c3 : w < l[i].f2.length
        · exact ⟨true, Ev.step (fun _ => rfl) (Ev.step (fun k => round i k) (Ev.congr (fun k => by rw [if_pos (show i < l.length ∧ i < m from ⟨hil, c2⟩), e, if_pos c3]) (Ev.now _))), fun h => by cases h⟩
        · obtain ⟨b, hb, hb2⟩ := ih (i + 1) (by omega) (fun j h h2 => by
            by_cases hji : j = i
            · subst hji; omega
            · exact hj j h (by omega))
          exact ⟨b, Ev.step (fun _ => rfl) (Ev.step (fun k => round i k) (Ev.congr (fun k => by rw [if_pos (show i < l.length ∧ i < m from ⟨hil, c2⟩), e, if_neg c3]) hb)), hb2⟩
      · refine ⟨decide (m < l.length), Ev.step (fun _ => rfl) (Ev.step (fun k => round i k) (Ev.congr (fun k => if_neg (by omega)) (Ev.now _))), fun hb => ?_⟩
        have := of_decide_eq_false hb
        refine ⟨by omega, fun x hx => ?_⟩
        obtain ⟨j, hjl, rfl⟩ := List.getElem_of_mem hx
        exact hj j hjl (by omega)
  exact go _ 0 rfl (fun j _ h => by omega)
theorem zgA (L : List RL) (O : List (List RN)) (a m w : Nat) (ha : a ≤ 1000) (hm : m ≤ 100000) : ∃ b, Ev (fun k => zao.f k L O (a : Int) (m : Int) (w : Int)) b ∧
    (b = false → L.length ≤ a ∧ O.length ≤ a ∧ (∀ x ∈ L, x.f0.size ≤ 100 ∧ x.f1.length ≤ m ∧ ∀ n ∈ x.f1, n.f2.length ≤ w) ∧ ∀ c ∈ O, c.length ≤ m ∧ ∀ n ∈ c, n.f2.length ≤ w) := by
  have bad : Ev (fun k => zao.j0 k (m : Int) (w : Int) true L O) true := by
    refine Ev.step (f := fun _ => some true) (fun k => ?_) (Ev.now _)
    simp only [zao.j0]
    rw [if_pos trivial]
  unfold zao.f
  by_cases c1 : a < L.length
  · exact ⟨true, Ev.congr (fun k => if_pos (by omega)) bad, fun h => by cases h⟩
  by_cases c2 : a < O.length
  · exact ⟨true, Ev.congr (fun k => by rw [if_neg (by omega), decide_eq_true (show (O.length : Int) > (a : Int) by omega)]) bad, fun h => by cases h⟩
  have goO : ∀ (r : List (List RN)) (i : Nat), O.drop i = r → ∃ b, Ev (fun k => zao.l1 k (m : Int) (w : Int) (i : Int) L O) b ∧ (b = false → ∀ c ∈ r, c.length ≤ m ∧ ∀ n ∈ c, n.f2.length ≤ w) := by
    intro r
    induction r with
    | nil =>
      intro i hd
      have : O.length ≤ i := by simpa using hd
      refine ⟨false, Ev.step (f := fun _ => some false) (fun k => ?_) (Ev.now _), fun _ c hc => by cases hc⟩
      simp only [zao.l1]
      rw [if_neg (by omega)]
    | cons x r ih =>
      intro i hd
      obtain ⟨hlt, h1, hr⟩ := zby hd
      obtain ⟨b1, e1, q1⟩ := zgT x m w hm
      obtain ⟨b2, e2, q2⟩ := ih (i + 1) hr
      have st : ∀ k, zao.l1 (k + 1) (m : Int) (w : Int) (i : Int) L O = (zaw.f k x (m : Int) (w : Int)).bind fun t => if t = true then some true else zao.l1 k (m : Int) (w : Int) ((i + 1 : Nat) : Int) L O := by
        intro k
        simp only [zao.l1]
        rw [if_pos (by omega), if_pos (by omega), zbl (by omega) (by omega)]
        show (zaw.f k (O.getD (i : Int).toNat []) _ _).bind _ = _
        rw [Int.toNat_natCast, rdRC hlt, h1]
        rfl
      cases b1 with
      | true => exact ⟨true, Ev.step st (Ev.bind e1 (Ev.congr (fun k => if_pos rfl) (Ev.now _))), fun h => by cases h⟩
      | false =>
        refine ⟨b2, Ev.step st (Ev.bind e1 (Ev.congr (fun k => if_neg (by decide)) e2)), fun hb c hc => ?_⟩
        rcases List.mem_cons.1 hc with rfl | hc
        · exact q1 rfl
        · exact q2 hb c hc
  have goL : ∀ (r : List RL) (i : Nat), L.drop i = r → ∃ b, Ev (fun k => zao.l0 k (m : Int) (w : Int) (i : Int) L O) b ∧ (b = false → (∀ x ∈ r, x.f0.size ≤ 100 ∧ x.f1.length ≤ m ∧ ∀ n ∈ x.f1, n.f2.length ≤ w) ∧ ∀ c ∈ O, c.length ≤ m ∧ ∀ n ∈ c, n.f2.length ≤ w) := by
    intro r
    induction r with
    | nil =>
      intro i hd
      have : L.length ≤ i := by simpa using hd
      obtain ⟨b, e, q⟩ := goO O 0 rfl
      refine ⟨b, Ev.step (f := fun k => zao.l1 k (m : Int) (w : Int) 0 L O) (fun k => ?_) e, fun hb => ⟨(fun x hx => by cases hx), q hb⟩⟩
      simp only [zao.l0]
      rw [if_neg (by omega)]
    | cons x r ih =>
      intro i hd
      obtain ⟨hlt, h1, hr⟩ := zby hd
      have st : ∀ k, zao.l0 (k + 1) (m : Int) (w : Int) (i : Int) L O = if 100 < x.f0.size then some true else (zaw.f k x.f1 (m : Int) (w : Int)).bind fun t => if t = true then some true else zao.l0 k (m : Int) (w : Int) ((i + 1 : Nat) : Int) L O := by
        intro k
        simp only [zao.l0]
        rw [if_pos (by omega), if_pos (by omega), zbl (by omega) (by omega), rdRL hlt, h1]
        by_cases c : 100 < x.f0.size
        · rw [if_pos (by omega), if_pos c]
        · rw [if_neg (by omega), if_neg c]; rfl
      by_cases c : 100 < x.f0.size
      · exact ⟨true, Ev.step st (Ev.congr (fun k => if_pos c) (Ev.now _)), fun h => by cases h⟩
      obtain ⟨b1, e1, q1⟩ := zgT x.f1 m w hm
      obtain ⟨b2, e2, q2⟩ := ih (i + 1) hr
      cases b1 with
      | true => exact ⟨true, Ev.step st (Ev.congr (fun k => if_neg c) (Ev.bind e1 (Ev.congr (fun k => if_pos rfl) (Ev.now _)))), fun h => by cases h⟩
      | false =>
        refine ⟨b2, Ev.step st (Ev.congr (fun k => if_neg c) (Ev.bind e1 (Ev.congr (fun k => if_neg (by decide)) e2))), fun hb => ⟨fun y hy => ?_, (q2 hb).2⟩⟩
        rcases List.mem_cons.1 hy with rfl | hy
        · exact ⟨by omega, q1 rfl⟩
        · exact (q2 hb).1 y hy
  obtain ⟨b, e, q⟩ := goL L 0 rfl
  refine ⟨b, Ev.congr (fun k => by rw [if_neg (by omega), decide_eq_false (show ¬ (O.length : Int) > (a : Int) by omega)]) (Ev.step (f := fun k => zao.l0 k (m : Int) (w : Int) 0 L O) (fun k => ?_) e), fun hb => ⟨by omega, by omega, q hb⟩⟩
  simp only [zao.j0]
  rw [if_neg (by decide)]
theorem zhu (l : List RN) (hl : l.length ≤ 1000000) : Ev (fun k => zaF.f k l) (l.map toN) := by
  have go : ∀ (r : List RN) (i : Nat) (acc : List SN), l.drop i = r → i ≤ l.length → acc = (l.take i).map toN → Ev (fun k => zaF.l0 k l acc (i : Int)) (l.map toN) := by
    intro r
    induction r with
    | nil =>
      intro i acc hd hi ha
      have : l.length ≤ i := by simpa using hd
      refine Ev.step (f := fun _ => some acc) (fun k => ?_) ?_
      · simp only [zaF.l0]
        rw [if_neg (by omega)]
      · rw [ha, List.take_of_length_le this]; exact Ev.now _
    | cons a r ih =>
      intro i acc hd hi ha
      obtain ⟨hlt, h1, hr⟩ := zby hd
      have hal : acc.length = i := by rw [ha]; simp; omega
      refine Ev.step (f := fun k => zaF.l0 k l (acc ++ [toN a]) ((i + 1 : Nat) : Int)) (fun k => ?_) (ih (i + 1) _ hr (by omega) (by rw [ha, ← h1, List.take_succ_eq_append_getElem hlt, List.map_append]; rfl))
      simp only [zaF.l0]
      rw [if_pos (by omega), if_pos (by omega), if_pos (by omega), rdR hlt, h1, zbl (by omega) (by omega)]
      rfl
  exact go l 0 [] rfl (by omega) rfl
theorem zgS (L : List RL) (O : List (List RN)) (hl : L.length ≤ 1000) (ho : O.length ≤ 1000) (h1 : ∀ x ∈ L, x.f1.length ≤ 1000000) (h2 : ∀ c ∈ O, c.length ≤ 1000000) : Ev (fun k => zaq.f k L O) (L.map zbL, O.map (List.map toN)) := by
  have goO : ∀ (r : List (List RN)) (i : Nat) (acc : List (List SN)), O.drop i = r → i ≤ O.length → acc = (O.take i).map (List.map toN) → Ev (fun k => zaq.l1 k (i : Int) L O (L.map zbL) acc) (L.map zbL, O.map (List.map toN)) := by
    intro r
    induction r with
    | nil =>
      intro i acc hd hi ha
      have : O.length ≤ i := by simpa using hd
      refine Ev.step (f := fun _ => some (L.map zbL, acc)) (fun k => ?_) ?_
      · simp only [zaq.l1]
        rw [if_neg (by omega)]
      · rw [ha, List.take_of_length_le this]; exact Ev.now _
    | cons a r ih =>
      intro i acc hd hi ha
      obtain ⟨hlt, e1, hr⟩ := zby hd
      have hal : acc.length = i := by rw [ha]; simp; omega
      refine Ev.step (f := fun k => (zaF.f k a).bind fun t => if acc.length < 5864062014805 then zaq.l1 k ((i + 1 : Nat) : Int) L O (L.map zbL) (acc ++ [t]) else none) (fun k => ?_) (Ev.bind (zhu a (h2 a (by rw [← e1]; exact List.getElem_mem _))) (Ev.congr (fun k => if_pos (by omega)) (ih (i + 1) _ hr (by omega) (by rw [ha, ← e1, List.take_succ_eq_append_getElem hlt, List.map_append]; rfl))))
      simp only [zaq.l1]
      rw [if_pos (by omega), if_pos (by omega), zbl (by omega) (by omega)]
      show (zaF.f k (O.getD (i : Int).toNat [])).bind _ = _
      rw [Int.toNat_natCast, rdRC hlt, e1]
      rfl
  have goL : ∀ (r : List RL) (i : Nat) (acc : List SL), L.drop i = r → i ≤ L.length → acc = (L.take i).map zbL → Ev (fun k => zaq.l0 k (i : Int) L O acc) (L.map zbL, O.map (List.map toN)) := by
    intro r
    induction r with
    | nil =>
      intro i acc hd hi ha
      have : L.length ≤ i := by simpa using hd
      rw [List.take_of_length_le this] at ha
      subst ha
      refine Ev.step (f := fun k => zaq.l1 k 0 L O (L.map zbL) []) (fun k => ?_) (goO O 0 [] rfl (by omega) rfl)
      simp only [zaq.l0]
      rw [if_neg (by omega)]
    | cons a r ih =>
      intro i acc hd hi ha
      obtain ⟨hlt, e1, hr⟩ := zby hd
      have hal : acc.length = i := by rw [ha]; simp; omega
      refine Ev.step (f := fun k => (zaF.f k a.f1).bind fun t => if acc.length < 3518437208883 then zaq.l0 k ((i + 1 : Nat) : Int) L O (acc ++ [⟨a.f0, t⟩]) else none) (fun k => ?_) (Ev.bind (zhu a.f1 (h1 a (by rw [← e1]; exact List.getElem_mem _))) (Ev.congr (fun k => if_pos (by omega)) (ih (i + 1) _ hr (by omega) (by rw [ha, ← e1, List.take_succ_eq_append_getElem hlt, List.map_append]; rfl))))
      simp only [zaq.l0]
      rw [if_pos (by omega), if_pos (by omega), zbl (by omega) (by omega), rdRL hlt, e1]
      rfl
  exact goL L 0 [] rfl (by omega) rfl
def Wd32 (L : List RL) (O : List (List RN)) : Prop := (∀ x ∈ L, ∀ n ∈ x.f1, Wl n.f2) ∧ ∀ c ∈ O, ∀ n ∈ c, Wl n.f2
theorem zkq {L : List RL} {O : List (List RN)} {a m w : Nat} (ha : a ≤ 100) (hw : w ≤ 1000) (hW : Wd32 L O) (h : L.length ≤ a ∧ O.length ≤ a ∧ (∀ x ∈ L, x.f0.size ≤ 100 ∧ x.f1.length ≤ m ∧ ∀ n ∈ x.f1, n.f2.length ≤ w) ∧ ∀ c ∈ O, c.length ≤ m ∧ ∀ n ∈ c, n.f2.length ≤ w) : Fit (L.map zbL) (O.map (List.map toN)) m := by
  obtain ⟨h1, h2, h3, h4⟩ := h
  refine ⟨by rw [List.length_map]; omega, by rw [List.length_map]; omega, ?_, ?_, ?_⟩
  · intro x hx
    obtain ⟨y, hy, rfl⟩ := List.mem_map.1 hx
    have := (h3 y hy).1
    show y.f0.size ≤ 4000
    omega
  · intro x hx
    obtain ⟨y, hy, rfl⟩ := List.mem_map.1 hx
    refine ⟨by show (y.f1.map toN).length ≤ m; rw [List.length_map]; exact (h3 y hy).2.1, fun n hn => ?_⟩
    obtain ⟨q, hq, rfl⟩ := List.mem_map.1 hn
    exact ⟨hW.1 y hy q hq, Nat.le_trans ((h3 y hy).2.2 q hq) hw⟩
  · intro c hc
    obtain ⟨y, hy, rfl⟩ := List.mem_map.1 hc
    refine ⟨by rw [List.length_map]; exact (h4 y hy).1, fun n hn => ?_⟩
    obtain ⟨q, hq, rfl⟩ := List.mem_map.1 hn
    exact ⟨hW.2 y hy q hq, Nat.le_trans ((h4 y hy).2 q hq) hw⟩
end Go.Proofs.YtbicjgaadknmfaaDoor.M
end
section
namespace Go.Proofs.YtbicjgaadknmfaaDoor.Pure
open Go.RowKit Go.Proofs.YtbicjgaadknmfaaDoor.P Go.Proofs.YtbicjgaadknmfaaDoor.M Go.Proofs.YtbicjgaadknmfaaDoorW.PrintWords
set_option linter.unusedVariables false
set_option linter.unusedSimpArgs false
theorem zkF (q : Q4) (h : q = z4 ∨ q.1 = 2) : zbt.f (refQ q).1 (refQ q).2.1 (refQ q).2.2.1 (refQ q).2.2.2 = some q := by
  unfold zbt.f refQ
  rcases h with h | h
  · rw [if_pos h, h]; rfl
  · have ne : ¬ q = z4 := fun e => by rw [e] at h; cases h
    rw [if_neg ne, if_pos rfl]
    obtain ⟨a, b⟩ := q
    have : a = 2 := h
    subst this
    rfl
theorem zgp (c : List SN) (n d p l : Int) : zc4 c n d p l = z4 ∨ (zc4 c n d p l).1 = 2 := by
  unfold zc4
  split
  · split
    · exact .inr rfl
    · exact .inl rfl
  · exact .inr rfl
theorem zia (d p : Int) (nl : Nat) (r : List (List SN)) : ∀ i, zdc d p nl r i = z4 ∨ (zdc d p nl r i).1 = 2 := by
  induction r with
  | nil => exact fun i => .inl rfl
  | cons c r ih =>
    intro i
    unfold zdc
    split
    · exact ih _
    · exact zgp ..
theorem zh8 (L : List SL) (d p : Int) (z : Q4) (hz : z = z4 ∨ z.1 = 2) (r : List SL) : ∀ i, zdA L d p z r i = z4 ∨ (zdA L d p z r i).1 = 2 := by
  induction r with
  | nil => exact fun i => hz
  | cons c r ih =>
    intro i
    unfold zdA
    split
    · exact ih _
    · unfold letQ
      split
      · exact zgp ..
      · exact .inr rfl
theorem zhV (L : List SL) (O : List (List SN)) (d p : Int) : zdB L O d p = z4 ∨ (zdB L O d p).1 = 2 := by
  unfold zdB
  split
  · exact zh8 _ _ _ _ (zia ..) _ _
  · exact .inr rfl
theorem CheckFields (L : List RL) (O : List (List RN)) (d p : Int) (hW : Wd32 L O) : ∃ k, zaW.f k L O d p = some true := by
  obtain ⟨b, e, q⟩ := zgA L O 12 310 9 (by omega) (by omega)
  refine Ev.rounds (g := fun k => zaW.f k L O d p) (Ev.bind e ?_)
  cases b with
  | true => exact Ev.congr (fun k => if_pos rfl) (Ev.now _)
  | false =>
    have h := q rfl
    have hF := zkq (by omega) (by omega) hW h
    refine Ev.congr (fun k => if_neg (by decide)) (Ev.bind (zih hF (by omega) d p) (Ev.bind (zgS L O (by omega) (by omega) (fun x hx => by have := (h.2.2.1 x hx).2.1; omega) (fun c hc => by have := (h.2.2.2 c hc).1; omega)) (Ev.bind (zhG hF (by omega) d p) ?_)))
    refine Ev.congr (f := fun _ => some true) (fun k => ?_) (Ev.now _)
    rw [zkF _ (zhV ..), Option.bind_some, if_pos (by simp)]
    rfl
end Go.Proofs.YtbicjgaadknmfaaDoor.Pure
end
section
namespace Go.Proofs.YtbicjgaadknmfaaDoor.O
open Go.RowKit Go.Proofs.YtbicjgaadknmfaaDoorW.PrintWords
set_option linter.unusedVariables false
set_option linter.unusedSimpArgs false
def Opn (P : Program) (t : TypeId) {α : Type} (d : Kd α) (ok : α → Prop) : Prop :=
  ∀ (H : Type) (enc : TypeId × Value → H) (w : World) (sp : Nat → Bool) (fuel : Nat) (cs : List Value) (x : DataW H × List MemPlace),
    DataW.trod enc P w 0 sp true fuel t cs = some x → ∃ a, d.K w a cs ∧ ok a
variable {P : Program}
theorem zgb {t : TypeId} {k : IntKind} (ht : P.underlying t = some (.int k)) : Opn P t (Kd.int k) (fun n => (Lit.int k n).wf = true) := by
  intro H enc w sp fuel cs x h
  obtain ⟨n, rfl, _, hw⟩ := DataW.trod_int ht h
  exact ⟨n, rfl, hw⟩
theorem zlh {t : TypeId} (ht : P.underlying t = some .bool) : Opn P t Kd.bool (fun _ => True) := by
  intro H enc w sp fuel cs x h
  obtain ⟨n, rfl, _⟩ := DataW.trod_bool ht h
  exact ⟨n, rfl, trivial⟩
theorem zhR {t : TypeId} (ht : P.underlying t = some .string) : Opn P t Kd.string (fun s => s.size ≤ maxLen) := by
  intro H enc w sp fuel cs x h
  obtain ⟨n, rfl, _, hs⟩ := DataW.trod_string ht h
  exact ⟨n, rfl, hs⟩
theorem zho {α β : Type} {t : TypeId} {d : Kd α} {ok : α → Prop} (h : Opn P t d ok) (f : β → α) (g : α → β) (e : ∀ a, f (g a) = a) : Opn P t (Kd.iso d f) (fun b => ok (f b)) := by
  intro H enc w sp fuel cs x hx
  obtain ⟨a, hk, ha⟩ := h H enc w sp fuel cs x hx
  exact ⟨g a, by show d.K w (f (g a)) cs; rw [e]; exact hk, by show ok (f (g a)); rw [e]; exact ha⟩
theorem zhx {α : Type} {t : TypeId} {d : Kd α} {ok ok' : α → Prop} (h : Opn P t d ok) (i : ∀ a, ok a → ok' a) : Opn P t d ok' := by
  intro H enc w sp fuel cs x hx
  obtain ⟨a, hk, ha⟩ := h H enc w sp fuel cs x hx
  exact ⟨a, hk, i a ha⟩
theorem zfs {α β : Type} {t : TypeId} {f0 f1 : Field} {a : Kd α} {b : Kd β} {oa : α → Prop} {ob : β → Prop} (ht : P.underlying t = some (.struct #[f0, f1]))
    (c : P.cellsOf t = a.sz + b.sz) (o0 : f0.offset = 0) (o1 : f1.offset = a.sz) (c0 : P.cellsOf f0.type = a.sz) (c1 : P.cellsOf f1.type = b.sz) (A : Opn P f0.type a oa) (B : Opn P f1.type b ob) :
    Opn P t (Kd.pair a b) (fun x => oa x.1 ∧ ob x.2) := by
  intro H enc w sp fuel cs x h
  obtain ⟨y0, y1, n, _, hl, h0, h1⟩ := Go.ChangeShapes.trod_struct2 ht h
  rw [o0, c0, List.drop_zero] at h0
  rw [o1, c1] at h1
  obtain ⟨u, hu, ou⟩ := A H enc w sp n _ _ h0
  obtain ⟨v, hv, ov⟩ := B H enc w sp n _ _ h1
  refine ⟨(u, v), ⟨_, _, ?_, hu, hv⟩, ou, ov⟩
  rw [List.take_of_length_le (l := cs.drop a.sz) (by rw [List.length_drop, hl, c]; omega), List.take_append_drop]
theorem zhf {α β γ : Type} {t : TypeId} {f0 f1 f2 : Field} {a : Kd α} {b : Kd β} {g : Kd γ} {oa : α → Prop} {ob : β → Prop} {og : γ → Prop} (ht : P.underlying t = some (.struct #[f0, f1, f2]))
    (c : P.cellsOf t = a.sz + (b.sz + g.sz)) (o0 : f0.offset = 0) (o1 : f1.offset = a.sz) (o2 : f2.offset = a.sz + b.sz) (c0 : P.cellsOf f0.type = a.sz) (c1 : P.cellsOf f1.type = b.sz) (c2 : P.cellsOf f2.type = g.sz)
    (A : Opn P f0.type a oa) (B : Opn P f1.type b ob) (G : Opn P f2.type g og) :
    Opn P t (Kd.pair a (Kd.pair b g)) (fun x => oa x.1 ∧ ob x.2.1 ∧ og x.2.2) := by
  intro H enc w sp fuel cs x h
  obtain ⟨y0, y1, y2, n, _, hl, h0, h1, h2⟩ := Go.Deep.trod_struct3 ht h
  rw [o0, c0, List.drop_zero] at h0
  rw [o1, c1] at h1
  rw [o2, c2] at h2
  obtain ⟨u, hu, ou⟩ := A H enc w sp n _ _ h0
  obtain ⟨v, hv, ov⟩ := B H enc w sp n _ _ h1
  obtain ⟨z, hz, oz⟩ := G H enc w sp n _ _ h2
  refine ⟨(u, v, z), ⟨_, _, ?_, hu, ⟨_, _, rfl, hv, hz⟩⟩, ou, ov, oz⟩
  rw [List.take_of_length_le (l := cs.drop (a.sz + b.sz)) (by rw [List.length_drop, hl, c]; omega), ← List.drop_drop, List.take_append_drop, List.take_append_drop]
theorem zek {α : Type} {t e : TypeId} {d : Kd α} {ok : α → Prop} (ht : P.underlying t = some (.slice e)) (hc : P.cellsOf e = d.sz) (E : Opn P e d ok) :
    Opn P t (Kd.slice e d) (fun xs => ∀ x, x ∈ xs → ok x) := by
  intro H enc w sp fuel cs x h
  rcases Go.Deep.open_slice ht h with ⟨rfl, _⟩ | ⟨a, len, cap, m, n, D, Pl, rfl, _, hl, hm, hmm, _, hel⟩
  · exact ⟨[], ⟨none, 0, rfl, Nat.le_refl _, Kd.zgF d w⟩, fun x hx => by cases hx⟩
  · have hlm : len ≤ m := by rw [hmm]; split <;> omega
    have key : ∀ i, i < len → ∃ y : α, (∃ c : List Value, c.length = d.sz ∧ d.K w y c ∧ ∀ j u, c[j]? = some u → w.cell? (a.add (i * d.sz + j)) = some u) ∧ ok y := by
      intro i hi
      obtain ⟨cs', h1, h2⟩ := hel i (by omega)
      obtain ⟨y, hy, oy⟩ := E H enc w sp n cs' _ h2
      obtain ⟨_, hlen, hcell⟩ := World.cells?_some h1
      rw [hc] at hlen
      refine ⟨y, ⟨cs', hlen, hy, fun j u hu => ?_⟩, oy⟩
      have hj : j < d.sz := by
        rw [← hlen]
        exact (List.getElem?_eq_some_iff.1 hu).1
      have := hcell j (by rw [hc]; exact hj)
      rw [hc, Go.Deep.add_add] at this
      rw [this, hu]
    have all : ∀ k, k ≤ len → ∃ xs : List α, xs.length = k ∧ ∀ j p, xs[j]? = some p → (∃ c : List Value, c.length = d.sz ∧ d.K w p c ∧ ∀ i u, c[i]? = some u → w.cell? (a.add (j * d.sz + i)) = some u) ∧ ok p := by
      intro k
      induction k with
      | zero => exact fun _ => ⟨[], rfl, fun j p hj => by simp at hj⟩
      | succ k ih =>
        intro hk
        obtain ⟨xs, hx, hxs⟩ := ih (by omega)
        obtain ⟨y, hy⟩ := key k (by omega)
        refine ⟨xs ++ [y], by simp [hx], fun j p hj => ?_⟩
        rcases Nat.lt_or_ge j xs.length with h | h
        · rw [List.getElem?_append_left h] at hj
          exact hxs j p hj
        · rw [List.getElem?_append_right h] at hj
          have : j = k := by
            have := (List.getElem?_eq_some_iff.1 hj).1
            simp at this
            omega
          subst this
          rw [show j - xs.length = 0 by omega] at hj
          cases hj
          exact hy
    obtain ⟨xs, hx, hxs⟩ := all len (Nat.le_refl _)
    refine ⟨xs, ⟨some a, cap, by rw [hx], by omega, ⟨rfl, by unfold maxLen at hm; omega, fun _ => ⟨a, rfl, fun j p hj => (hxs j p hj).1⟩⟩⟩, fun x hx' => ?_⟩
    obtain ⟨j, hj⟩ := List.getElem?_of_mem hx'
    exact (hxs j x hj).2
theorem zln {α : Type} {H : Type} {enc : TypeId × Value → H} {w : World} {sp : Nat → Bool} {t e : TypeId} {d : Kd α} {ok : List α → Prop} {A : Option Addr} {len cap : Nat} {x : DataW H} {ps : List MemPlace}
    (E : Opn P t (Kd.slice e d) ok) (h : DataW.Trod enc P w 0 sp true t (.slice A len cap) x ps) : ∃ xs : List α, len = xs.length ∧ xs.length ≤ cap ∧ Kd.C d w A xs.length xs ∧ ok xs := by
  obtain ⟨fuel, hf⟩ := h
  obtain ⟨xs, ⟨A', c, e', hc, hC⟩, hok⟩ := E H enc w sp fuel _ _ hf
  simp [Value.cells] at e'
  obtain ⟨rfl, rfl, rfl⟩ := e'
  exact ⟨xs, rfl, hc, hC, hok⟩
end Go.Proofs.YtbicjgaadknmfaaDoor.O
end
