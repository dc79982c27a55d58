/- Plain laws of sums and products, the program's and the document's. -/
import Derived.Test.YtbicjgaadknmfaaDoorNb
import Derived.Test.YtbicjgaadknmfaaDoorDx2
import Derived.Test.YtbicjgaadknmfaaDoorDx2
import Derived.Test.YtbicjgaadknmfaaDoorDx2
import Derived.Test.YtbicjgaadknmfaaDoorDx4
import Derived.Test.YtbicjgaadknmfaaDoorDx3
import Derived.Test.YtbicjgaadknmfaaDoorDx4
import Derived.Test.YtbicjgaadknmfaaDoorDx4
import Derived.Test.YtbicjgaadknmfaaDoorDx4
namespace Go.Proofs.YtbicjgaadknmfaaDoor.M
open Go.RowKit Go.Proofs.YtbicjgaadknmfaaDoorW.PrintWords Go.Proofs.YtbicjgaadknmfaaDoor.P
set_option linter.unusedVariables false
set_option linter.unusedSimpArgs false

theorem Wl.set {l : List Int} (h : Wl l) (j : Nat) {v : Int} (h0 : 0 ≤ v) (h1 : v < 4294967296) : Wl (l.set j v) := by
  intro y hy
  rcases List.mem_or_eq_of_mem_set hy with hy | rfl
  · exact h y hy
  · exact ⟨h0, h1⟩
theorem val_set {l : List Int} {j : Nat} (hj : j < l.length) (v : Int) : val (l.set j v) = val l + (v - l[j]) * 4294967296 ^ j := by
  induction l generalizing j with
  | nil => simp at hj
  | cons x l ih =>
    cases j with
    | zero => simp [val]; omega
    | succ j =>
      simp only [List.set_cons_succ, val, List.getElem_cons_succ]
      rw [ih (by simpa using hj), Int.pow_succ]
      grind
theorem val_take_succ {l : List Int} {i : Nat} (hi : i < l.length) : val (l.take (i + 1)) = val (l.take i) + l[i] * 4294967296 ^ i := by
  rw [List.take_succ_eq_append_getElem hi, val_append]
  simp only [List.length_take, val]
  rw [show min i l.length = i by omega]
  grind
theorem normRefLoop (l : List Int) (hn : l.length < 35184372088832) (j : Nat) (hj : j ≤ l.length) : Ev (fun k => retrospectref02_Norm.l0 k l (j : Int)) (strip (l.take j)) := by
  induction j with
  | zero =>
    refine Ev.step (f := fun _ => some (strip (l.take 0))) (fun k => ?_) (Ev.now _)
    simp only [retrospectref02_Norm.l0]
    rw [if_neg (by omega), Option.bind_some, if_pos (by omega), if_pos (by omega), if_pos (by first | (simp; done) | (simp; omega))]
    rfl
  | succ j ih =>
    have hlt : j < l.length := by omega
    have e : ((j + 1 : Nat) : Int) - 1 = (j : Int) := by omega
    rw [List.take_succ_eq_append_getElem hlt]
    by_cases h0 : l[j] = 0
    · rw [h0, strip_zero]
      refine Ev.step (fun k => ?_) (ih (by omega))
      simp only [retrospectref02_Norm.l0]
      rw [if_pos (by omega), e, wrap_id (by omega) (by omega), if_pos (by omega), if_pos (by omega), rd_nat hlt, if_pos h0]
    · rw [strip_ne _ _ h0]
      refine Ev.step (f := fun _ => some (l.take j ++ [l[j]])) (fun k => ?_) (Ev.now _)
      simp only [retrospectref02_Norm.l0]
      rw [if_pos (by omega), e, wrap_id (by omega) (by omega), if_pos (by omega), if_pos (by omega), rd_nat hlt, if_neg h0, Option.bind_some, if_pos (by omega), if_pos (by omega), if_pos (by simp; omega), List.nil_append,
        show ((j + 1 : Nat) : Int).toNat = j + 1 by omega, List.take_succ_eq_append_getElem hlt]
theorem normRef {l : List Int} (h : Wl l) (hn : l.length < 35184372088832) : Ev (fun k => retrospectref02_Norm.f k l) (words (val l).toNat) := by
  have := normRefLoop l hn l.length (Nat.le_refl _)
  rw [List.take_length, strip_words h] at this
  exact this

theorem mul_bound {x y : Int} (h0 : 0 ≤ x) (h1 : x < 4294967296) (h2 : 0 ≤ y) (h3 : y < 4294967296) : 0 ≤ x * y ∧ x * y ≤ 18446744065119617025 := by
  refine ⟨Int.mul_nonneg h0 h2, ?_⟩
  have := Int.mul_le_mul (a := x) (c := 4294967295) (b := y) (d := 4294967295) (by omega) (by omega) h2 (by omega)
  omega
theorem limbMul {x y c d : Int} (h0 : 0 ≤ x) (h1 : x < 4294967296) (h2 : 0 ≤ y) (h3 : y < 4294967296) (h4 : 0 ≤ c) (h5 : c < 4294967296) (h6 : 0 ≤ d) (h7 : d < 4294967296) :
    limb_Mul.f x y c d = some ((x * y + c + d) / 4294967296, (x * y + c + d) % 4294967296) := by
  obtain ⟨b0, b1⟩ := mul_bound h0 h1 h2 h3
  unfold limb_Mul.f
  rw [u64id (n := x) h0 (by omega), u64id (n := y) h2 (by omega), u64id (n := c) h4 (by omega), u64id (n := d) h6 (by omega), u64id (n := x * y) b0 (by omega), u64id (n := x * y + c) (by omega) (by omega), u64id (n := x * y + c + d) (by omega) (by omega),
    Int.emod_eq_of_lt (b := 4294967296) (a := (x * y + c + d) / 4294967296) (by omega) (by omega)]
theorem rowLoop {a : List Int} {x : Int} (ha : Wl a) (hx0 : 0 ≤ x) (hx1 : x < 4294967296) (at_ : Nat) (m : Nat) (T : Int) (c0 : Int) (L : Nat) (hL : at_ + a.length < L) (hLm : L ≤ 1000000000) :
    ∀ (i : Nat) (o : List Int) (c : Int), i + m = a.length → o.length = L → Wl o → 0 ≤ c → c < 4294967296 → (∀ h : at_ + a.length < o.length, o[at_ + a.length] = 0) → val o + c * 4294967296 ^ (at_ + i) + x * val (a.drop i) * 4294967296 ^ (at_ + i) = T →
      ∃ o', Ev (fun k => prod_row.l0 k o (at_ : Int) a x c a (a.length : Int) (i : Int)) o' ∧ Wl o' ∧ o'.length = L ∧ val o' = T ∧ (∀ j (h : j < o'.length) (h' : j < o.length), at_ + a.length < j → o'[j] = o[j]) := by
  induction m with
  | zero =>
    intro i o c hi hl hw h0 h1 hz hT
    have hi' : i = a.length := by omega
    subst hi'
    refine ⟨o.set (at_ + a.length) c, ?_, hw.set _ h0 h1, by simp [hl], ?_, ?_⟩
    · refine Ev.step (f := fun _ => some (o.set (at_ + a.length) c)) (fun k => ?_) (Ev.now _)
      simp only [prod_row.l0]
      rw [if_neg (by omega), wrap_id (by omega) (by omega), if_pos (by omega), if_pos (by omega), show ((at_ : Int) + (a.length : Int)).toNat = at_ + a.length by omega]
    · rw [val_set (by omega), hz (by omega), ← hT, List.drop_length]
      simp only [val]
      grind
    · intro j h h' hj
      rw [List.getElem_set_ne (by omega)]
  | succ m ih =>
    intro i o c hi hl hw h0 h1 hz hT
    have hia : i < a.length := by omega
    have hio : at_ + i < o.length := by omega
    have g1 := ha.get i hia
    have g2 := hw.get (at_ + i) hio
    have hm := limbMul hx0 hx1 g1.1 g1.2 g2.1 g2.2 h0 h1
    obtain ⟨b0, b1⟩ := mul_bound hx0 hx1 g1.1 g1.2
    have hdm := Int.mul_ediv_add_emod (x * a[i] + o[at_ + i] + c) 4294967296
    have hq0 : 0 ≤ (x * a[i] + o[at_ + i] + c) / 4294967296 := by omega
    have hq1 : (x * a[i] + o[at_ + i] + c) / 4294967296 < 4294967296 := by omega
    have hr0 : 0 ≤ (x * a[i] + o[at_ + i] + c) % 4294967296 := by omega
    have hr1 : (x * a[i] + o[at_ + i] + c) % 4294967296 < 4294967296 := by omega
    obtain ⟨o', he, hw', hl', hv', hs'⟩ := ih (i + 1) (o.set (at_ + i) ((x * a[i] + o[at_ + i] + c) % 4294967296)) ((x * a[i] + o[at_ + i] + c) / 4294967296) (by omega) (by simp [hl]) (hw.set _ hr0 hr1) hq0 hq1
      (fun h => by rw [List.getElem_set_ne (by omega)]; exact hz (by omega)) (by
        rw [val_set hio, ← hT, List.drop_eq_getElem_cons hia]
        simp only [val]
        rw [show at_ + (i + 1) = (at_ + i) + 1 by omega, Int.pow_succ]
        generalize val (a.drop (i + 1)) = V at *
        generalize (4294967296 : Int) ^ (at_ + i) = p at *
        generalize (x * a[i] + o[at_ + i] + c) % 4294967296 = rr at *
        generalize (x * a[i] + o[at_ + i] + c) / 4294967296 = qq at *
        grind)
    refine ⟨o', ?_, hw', hl', hv', fun j h h' hj => by rw [hs' j h (by simp; omega) hj, List.getElem_set_ne (by omega)]⟩
    refine Ev.step (fun k => ?_) he
    simp only [prod_row.l0]
    have e1 : ((at_ : Int) + (i : Int)) = ((at_ + i : Nat) : Int) := by omega
    rw [if_pos (by omega), if_pos (by omega), if_pos (by omega), wrap_id (n := (at_ : Int) + (i : Int)) (by omega) (by omega), if_pos (by omega), if_pos (by omega), e1, rd_nat hia, rd_nat hio, hm, Option.bind_some, show ((at_ + i : Nat) : Int).toNat = at_ + i by omega, wrap_id (by omega) (by omega)]
    rfl
theorem prodWord {l : List Int} {x c : Int} (hl : Wl l) (hx0 : 0 ≤ x) (hx : x < 4294967296) (hc0 : 0 ≤ c) (hc : c < 4294967296) (hn : l.length ≤ 1000000) :
    Ev (fun k => prod_Word.f k l x c) (words (val l * x + c).toNat) := by
  obtain ⟨o', he, hw', hl', hv', _⟩ := rowLoop hl hx0 hx 0 l.length (val l * x + c) c (l.length + 1) (by omega) (by omega) 0 (List.replicate (l.length + 1) 0) c (by omega) (by simp) (Wl.zeros _) hc0 hc
    (fun h => by simp) (by rw [val_zeros]; simp; grind)
  refine Ev.congr (fun k => ?_) (Ev.bind (f := fun k t => (nat_Norm.f t).bind fun t111 => some t111) he (Ev.congr (f := fun _ => some (words (val l * x + c).toNat)) (fun k => ?_) (Ev.now _)))
  · unfold prod_Word.f prod_row.f
    rw [wrap_id (by omega) (by omega), if_pos (by omega), if_pos (by omega), show ((l.length : Int) + 1).toNat = l.length + 1 by omega]
    rfl
  · unfold nat_Norm.f
    rw [if_pos (by omega), Option.bind_some, strip_words hw', hv']

theorem at_eq (l : List Int) (i : Nat) : retrospectref02_At.f l (i : Int) = some (l.getD i 0) := by
  unfold retrospectref02_At.f
  by_cases h : i < l.length
  · rw [if_pos (by omega), if_pos (by omega), rd_nat h]; simp [List.getD_eq_getElem?_getD, h]
  · rw [if_neg (by omega)]; simp [List.getD_eq_getElem?_getD, List.getElem?_eq_none (Nat.le_of_not_lt h)]
theorem Wl.getD {l : List Int} (h : Wl l) (i : Nat) : 0 ≤ l.getD i 0 ∧ l.getD i 0 < 4294967296 := by
  by_cases hi : i < l.length
  · have := h.get i hi
    simpa [List.getD_eq_getElem?_getD, hi] using this
  · simp [List.getD_eq_getElem?_getD, List.getElem?_eq_none (Nat.le_of_not_lt hi)]
theorem val_take_getD (l : List Int) (i : Nat) : val (l.take (i + 1)) = val (l.take i) + l.getD i 0 * 4294967296 ^ i := by
  by_cases hi : i < l.length
  · rw [val_take_succ hi]; simp [List.getD_eq_getElem?_getD, hi]
  · rw [List.take_of_length_le (by omega), List.take_of_length_le (by omega)]; simp [List.getD_eq_getElem?_getD, List.getElem?_eq_none (Nat.le_of_not_lt hi)]
theorem addLoop {a b : List Int} (ha : Wl a) (hb : Wl b) (L : Nat) (hL : L ≤ 1000000000) (m : Nat) : ∀ (i : Nat) (o : List Int) (s : Int), i + m = L → o.length = L → Wl o → 0 ≤ s → s < 2 → (∀ j, i ≤ j → ∀ h : j < o.length, o[j] = 0) →
    val o + s * 4294967296 ^ i = val (a.take i) + val (b.take i) →
    ∃ o' s', Ev (fun k => retrospectref02_Add.l0 k a b (L : Int) o s (i : Int)) (words (val o').toNat) ∧ Wl o' ∧ 0 ≤ s' ∧ o'.length = L ∧ val o' + s' * 4294967296 ^ L = val (a.take L) + val (b.take L) := by
  induction m with
  | zero =>
    intro i o s hi hl hw h0 h1 hz hv
    have hi' : i = L := by omega
    subst hi'
    refine ⟨o, s, ?_, hw, h0, hl, hv⟩
    refine Ev.step (fun k => ?_) (Ev.bind (f := fun _ t => some t) (normRef hw (by omega)) (Ev.now _))
    simp only [retrospectref02_Add.l0]
    rw [if_neg (by omega)]
  | succ m ih =>
    intro i o s hi hl hw h0 h1 hz hv
    have hio : i < o.length := by omega
    have g1 := ha.getD i
    have g2 := hb.getD i
    have hdm := Int.mul_ediv_add_emod (s + (a.getD i 0 + b.getD i 0)) 4294967296
    have hq0 : 0 ≤ (s + (a.getD i 0 + b.getD i 0)) / 4294967296 := by omega
    have hq1 : (s + (a.getD i 0 + b.getD i 0)) / 4294967296 < 2 := by omega
    have hr0 : 0 ≤ (s + (a.getD i 0 + b.getD i 0)) % 4294967296 := by omega
    have hr1 : (s + (a.getD i 0 + b.getD i 0)) % 4294967296 < 4294967296 := by omega
    obtain ⟨o', s', he, hw', hs', hl', hv'⟩ := ih (i + 1) (o.set i ((s + (a.getD i 0 + b.getD i 0)) % 4294967296)) ((s + (a.getD i 0 + b.getD i 0)) / 4294967296) (by omega) (by simp [hl]) (hw.set _ hr0 hr1) hq0 hq1
      (fun j hj h => by rw [List.getElem_set_ne (by omega)]; exact hz j (by omega) (by simpa using h)) (by
        rw [val_set hio, hz i (Nat.le_refl _) hio, val_take_getD a i, val_take_getD b i, Int.pow_succ]
        generalize (s + (a.getD i 0 + b.getD i 0)) % 4294967296 = rr at *
        generalize (s + (a.getD i 0 + b.getD i 0)) / 4294967296 = qq at *
        generalize (4294967296 : Int) ^ i = p at *
        grind)
    refine ⟨o', s', ?_, hw', hs', hl', hv'⟩
    refine Ev.step (fun k => ?_) he
    simp only [retrospectref02_Add.l0]
    rw [if_pos (by omega), at_eq, Option.bind_some, at_eq, Option.bind_some, if_pos (by omega), if_pos (by omega), u64id (n := a.getD i 0) (by omega) (by omega), u64id (n := b.getD i 0) (by omega) (by omega), u64id (n := a.getD i 0 + b.getD i 0) (by omega) (by omega), u64id (n := s + (a.getD i 0 + b.getD i 0)) (by omega) (by omega),
      Int.tmod_eq_emod_of_nonneg (by omega), Int.tdiv_eq_ediv_of_nonneg (by omega), u64id hq0 (by omega), Int.emod_eq_of_lt (a := (s + (a.getD i 0 + b.getD i 0)) % 4294967296) hr0 hr1, show ((i : Int)).toNat = i by omega, wrap_id (by omega) (by omega)]
    rfl
theorem pow_mono {i j : Nat} (h : i ≤ j) : (4294967296 : Int) ^ i ≤ 4294967296 ^ j := by
  obtain ⟨d, rfl⟩ := Nat.exists_eq_add_of_le h
  rw [Int.pow_add]
  have h1 : (0 : Int) < 4294967296 ^ i := Int.pow_pos (by decide)
  have h2 : (0 : Int) < 4294967296 ^ d := Int.pow_pos (by decide)
  generalize (4294967296 : Int) ^ i = p at *
  generalize (4294967296 : Int) ^ d = q at *
  have := Int.mul_le_mul_of_nonneg_left (show (1 : Int) ≤ q by omega) (show 0 ≤ p by omega)
  omega
theorem addRef {a b : List Int} (ha : Wl a) (hb : Wl b) (hla : a.length ≤ 1000000) (hlb : b.length ≤ 1000000) : Ev (fun k => retrospectref02_Add.f k a b) (words (val a + val b).toNat) := by
  have hmx : mx (a.length : Int) (b.length : Int) = ((max a.length b.length : Nat) : Int) := by unfold mx; split <;> omega
  obtain ⟨o', s', he, hw', hs', hl', hv'⟩ := addLoop ha hb (max a.length b.length + 1) (by omega) (max a.length b.length + 1) 0 (List.replicate (max a.length b.length + 1) 0) 0 (by omega) (by simp) (Wl.zeros _) (by omega) (by omega) (fun j hj h => by simp) (by rw [val_zeros]; simp [val])
  have h1 := val_lt ha
  have h2 := val_lt hb
  have h3 := val_nonneg hw'
  have h4 := pow_mono (show a.length ≤ max a.length b.length by omega)
  have h5 := pow_mono (show b.length ≤ max a.length b.length by omega)
  rw [List.take_of_length_le (by omega), List.take_of_length_le (by omega), Int.pow_succ] at hv'
  have hp : (0 : Int) < 4294967296 ^ max a.length b.length := Int.pow_pos (by decide)
  generalize (4294967296 : Int) ^ max a.length b.length = p at *
  have hs0 : s' = 0 := by
    rcases Int.lt_or_le 0 s' with h | h
    · have : 1 * (p * 4294967296) ≤ s' * (p * 4294967296) := Int.mul_le_mul_of_nonneg_right (by omega) (by omega)
      omega
    · omega
  subst hs0
  rw [show val a + val b = val o' by omega]
  refine Ev.congr (fun k => ?_) he
  unfold retrospectref02_Add.f
  rw [hmx, wrap_id (by omega) (by omega), if_pos (by omega), if_pos (by omega), show (((max a.length b.length : Nat) : Int) + 1).toNat = max a.length b.length + 1 by omega]
  rfl
theorem sameLoop (a b : List Int) (hl : a.length = b.length) (hn : a.length ≤ 1000000000) (m : Nat) : ∀ i : Nat, i + m = a.length → Ev (fun k => retrospectref02_Same.l0 k a b (i : Int)) (decide (a.drop i = b.drop i)) := by
  induction m with
  | zero =>
    intro i hi
    refine Ev.step (f := fun _ => some (decide (a.drop i = b.drop i))) (fun k => ?_) (Ev.now _)
    simp only [retrospectref02_Same.l0]
    rw [if_neg (by omega), List.drop_of_length_le (by omega), List.drop_of_length_le (by omega)]
    rfl
  | succ m ih =>
    intro i hi
    have h1 : i < a.length := by omega
    have h2 : i < b.length := by omega
    rw [List.drop_eq_getElem_cons h1, List.drop_eq_getElem_cons h2]
    by_cases he : a[i] = b[i]
    · have e : decide (a[i] :: a.drop (i + 1) = b[i] :: b.drop (i + 1)) = decide (a.drop (i + 1) = b.drop (i + 1)) := decide_eq_decide.2 ⟨fun h => (List.cons.inj h).2, fun h => by rw [he, h]⟩
      rw [e]
      refine Ev.step (fun k => ?_) (ih (i + 1) (by omega))
      simp only [retrospectref02_Same.l0]
      rw [if_pos (by omega), if_pos (by omega), if_pos (by omega), rd_nat h1, rd_nat h2, if_pos he, wrap_id (by omega) (by omega)]
      rfl
    · have e : decide (a[i] :: a.drop (i + 1) = b[i] :: b.drop (i + 1)) = false := decide_eq_false (fun h => he (List.cons.inj h).1)
      rw [e]
      refine Ev.step (f := fun _ => some false) (fun k => ?_) (Ev.now _)
      simp only [retrospectref02_Same.l0]
      rw [if_pos (by omega), if_pos (by omega), if_pos (by omega), rd_nat h1, rd_nat h2, if_neg he]
theorem sameRef (a b : List Int) (hn : a.length ≤ 1000000000) : Ev (fun k => retrospectref02_Same.f k a b) (decide (a = b)) := by
  by_cases hl : a.length = b.length
  · refine Ev.congr (fun k => ?_) (sameLoop a b hl hn a.length 0 (by omega))
    unfold retrospectref02_Same.f
    rw [if_pos (by omega)]
    rfl
  · have e : decide (a = b) = false := by simp; intro h; exact hl (by rw [h])
    rw [e]
    refine Ev.congr (f := fun _ => some false) (fun k => ?_) (Ev.now _)
    unfold retrospectref02_Same.f
    rw [if_neg (by omega)]
end Go.Proofs.YtbicjgaadknmfaaDoor.M
