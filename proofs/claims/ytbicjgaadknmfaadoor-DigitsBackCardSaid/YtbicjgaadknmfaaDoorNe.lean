/- Plain laws: the document's product, and its digits. -/
import Derived.Test.YtbicjgaadknmfaaDoorNd
import Derived.Test.YtbicjgaadknmfaaDoorNc
import Derived.Test.YtbicjgaadknmfaaDoorDx5
import Derived.Test.YtbicjgaadknmfaaDoorDx6
namespace Go.Proofs.YtbicjgaadknmfaaDoor.M
open Go.RowKit Go.Proofs.YtbicjgaadknmfaaDoorW.PrintWords Go.Proofs.YtbicjgaadknmfaaDoor.P
set_option linter.unusedVariables false
set_option linter.unusedSimpArgs false

theorem mulInner {a b : List Int} (ha : Wl a) (hb : Wl b) (R : List Int) (i : Nat) (hi : i < a.length) (hL : a.length + b.length ≤ 1000000000) (V : Int)
    (hk : ∀ o, Wl o → o.length = a.length + b.length → val o = V → (∀ j, i + b.length + 1 ≤ j → ∀ h : j < o.length, o[j] = 0) → Ev (fun k => retrospectref04_Mul.l0 k a b o ((i : Int) + 1)) R) (m : Nat) :
    ∀ (q : Nat) (o : List Int) (s : Int), q + m = b.length → Wl o → o.length = a.length + b.length → 0 ≤ s → s < 4294967296 → (∀ j, i + b.length ≤ j → ∀ h : j < o.length, o[j] = 0) →
      val o + s * 4294967296 ^ (i + q) + a[i] * val (b.drop q) * 4294967296 ^ (i + q) = V → Ev (fun k => retrospectref04_Mul.l1 k a b o (i : Int) s (q : Int)) R := by
  induction m with
  | zero =>
    intro q o s hq hw hl h0 h1 hz hV
    have hq' : q = b.length := by omega
    subst hq'
    have hio : i + b.length < o.length := by omega
    refine Ev.step (fun k => ?_) (hk (o.set (i + b.length) s) (hw.set _ h0 h1) (by simp [hl]) ?_ ?_)
    · simp only [retrospectref04_Mul.l1]
      rw [if_neg (by omega), wrap_id (n := (i : Int) + (b.length : Int)) (by omega) (by omega), if_pos (by omega), if_pos (by omega), Int.emod_eq_of_lt h0 h1, wrap_id (by omega) (by omega), show ((i : Int) + (b.length : Int)).toNat = i + b.length by omega]
    · rw [val_set hio, hz _ (Nat.le_refl _) hio, ← hV, List.drop_length]
      simp only [val]
      grind
    · intro j hj h
      rw [List.getElem_set_ne (by omega)]
      exact hz j (by omega) (by simpa using h)
  | succ m ih =>
    intro q o s hq hw hl h0 h1 hz hV
    have hqb : q < b.length := by omega
    have hio : i + q < o.length := by omega
    have g0 := ha.get i hi
    have g1 := hb.get q hqb
    have g2 := hw.get (i + q) hio
    obtain ⟨b0, b1⟩ := mul_bound g0.1 g0.2 g1.1 g1.2
    have hdm := Int.mul_ediv_add_emod (s + (a[i] * b[q] + o[i + q])) 4294967296
    have hq0 : 0 ≤ (s + (a[i] * b[q] + o[i + q])) / 4294967296 := by omega
    have hq1 : (s + (a[i] * b[q] + o[i + q])) / 4294967296 < 4294967296 := by omega
    have hr0 : 0 ≤ (s + (a[i] * b[q] + o[i + q])) % 4294967296 := by omega
    have hr1 : (s + (a[i] * b[q] + o[i + q])) % 4294967296 < 4294967296 := by omega
    have he := ih (q + 1) (o.set (i + q) ((s + (a[i] * b[q] + o[i + q])) % 4294967296)) ((s + (a[i] * b[q] + o[i + q])) / 4294967296) (by omega) (hw.set _ hr0 hr1) (by simp [hl]) hq0 hq1
      (fun j hj h => by rw [List.getElem_set_ne (by omega)]; exact hz j hj (by simpa using h)) (by
        rw [val_set hio, ← hV, List.drop_eq_getElem_cons hqb]
        simp only [val]
        rw [show i + (q + 1) = (i + q) + 1 by omega, Int.pow_succ]
        generalize val (b.drop (q + 1)) = W at *
        generalize (4294967296 : Int) ^ (i + q) = p at *
        generalize (s + (a[i] * b[q] + o[i + q])) % 4294967296 = rr at *
        generalize (s + (a[i] * b[q] + o[i + q])) / 4294967296 = qq at *
        grind)
    refine Ev.step (fun k => ?_) he
    simp only [retrospectref04_Mul.l1]
    have e1 : ((i : Int) + (q : Int)) = ((i + q : Nat) : Int) := by omega
    rw [if_pos (by omega), if_pos (by omega), if_pos (by omega), if_pos (by omega), wrap_id (n := (i : Int) + (q : Int)) (by omega) (by omega), if_pos (by omega), if_pos (by omega), e1, rd_nat hi, rd_nat hqb, rd_nat hio,
      u64id (n := a[i]) (by omega) (by omega), u64id (n := b[q]) (by omega) (by omega), u64id (n := o[i + q]) (by omega) (by omega), u64id (n := a[i] * b[q]) (by omega) (by omega), u64id (n := a[i] * b[q] + o[i + q]) (by omega) (by omega), u64id (n := s + (a[i] * b[q] + o[i + q])) (by omega) (by omega),
      Int.tmod_eq_emod_of_nonneg (by omega), Int.tdiv_eq_ediv_of_nonneg (by omega), u64id hq0 (by omega), Int.emod_eq_of_lt (a := (s + (a[i] * b[q] + o[i + q])) % 4294967296) hr0 hr1, show ((i + q : Nat) : Int).toNat = i + q by omega, wrap_id (by omega) (by omega)]
    rfl
theorem mulOuter {a b : List Int} (ha : Wl a) (hb : Wl b) (hL : a.length + b.length ≤ 1000000000) (m : Nat) :
    ∀ (i : Nat) (o : List Int), i + m = a.length → Wl o → o.length = a.length + b.length → (∀ j, i + b.length ≤ j → ∀ h : j < o.length, o[j] = 0) → val o = val (a.take i) * val b →
      Ev (fun k => retrospectref04_Mul.l0 k a b o (i : Int)) (words (val a * val b).toNat) := by
  induction m with
  | zero =>
    intro i o hi hw hl hz hv
    rw [List.take_of_length_le (by omega)] at hv
    rw [← hv]
    refine Ev.step (fun k => ?_) (Ev.bind (f := fun _ t => some t) (normRef hw (by omega)) (Ev.now _))
    simp only [retrospectref04_Mul.l0]
    rw [if_neg (by omega)]
  | succ m ih =>
    intro i o hi hw hl hz hv
    have hia : i < a.length := by omega
    refine Ev.step (fun k => ?_) (mulInner ha hb _ i hia hL (val (a.take (i + 1)) * val b) (fun o' hw' hl' hv' hz' => ?_) b.length 0 o 0 (by omega) hw hl (by omega) (by omega) hz (by
      rw [val_take_succ hia, hv, List.drop_zero, Nat.add_zero]; grind))
    · simp only [retrospectref04_Mul.l0]
      rw [if_pos (by omega)]
      rfl
    · exact ih (i + 1) o' (by omega) hw' hl' (fun j hj h => hz' j (by omega) h) hv'
theorem mulRef {a b : List Int} (ha : Wl a) (hb : Wl b) (hL : a.length + b.length ≤ 1000000000) : Ev (fun k => retrospectref04_Mul.f k a b) (words (val a * val b).toNat) := by
  refine Ev.congr (fun k => ?_) (mulOuter ha hb hL a.length 0 (List.replicate (a.length + b.length) 0) (by omega) (Wl.zeros _) (by simp) (fun j hj h => by simp) (by rw [val_zeros]; simp [val]))
  unfold retrospectref04_Mul.f
  rw [wrap_id (by omega) (by omega), if_pos (by omega), if_pos (by omega), show ((a.length : Int) + (b.length : Int)).toNat = a.length + b.length by omega]
  rfl

theorem tenLoop {l : List Int} (hl : Wl l) (hn : l.length ≤ 1000000000) (j : Nat) :
    ∀ (qs : List Int) (r : Int), j ≤ l.length → Wl qs → val qs * 10 + r = val (l.drop j) → 0 ≤ r → r < 10 →
      ∃ o, Ev (fun k => retrospectref07_ten.l0 k (l.take j ++ qs) r ((j : Int) - 1)) (val l % 10, o) ∧ Wl o ∧ val o = val l / 10 ∧ o.length = j + qs.length := by
  induction j with
  | zero =>
    intro qs r hj hw hv h0 h1
    obtain ⟨e1, e2⟩ := div_mod_of hv h0 h1
    rw [List.drop_zero] at e1 e2
    refine ⟨qs, ?_, hw, e1.symm, by omega⟩
    refine Ev.step (f := fun _ => some (val l % 10, qs)) (fun k => ?_) (Ev.now _)
    simp only [retrospectref07_ten.l0, List.take_zero, List.nil_append]
    rw [if_neg (by omega), e2]
  | succ j ih =>
    intro qs r hj hw hv h0 h1
    have hi : j < l.length := by omega
    have hg := hl.get j hi
    have hdm := Int.mul_ediv_add_emod (r * 4294967296 + l[j]) 10
    have hq0 : 0 ≤ (r * 4294967296 + l[j]) / 10 := by omega
    have hq1 : (r * 4294967296 + l[j]) / 10 < 4294967296 := by omega
    have hr0 : 0 ≤ (r * 4294967296 + l[j]) % 10 := by omega
    have hr1 : (r * 4294967296 + l[j]) % 10 < 10 := by omega
    have hv' : val ((r * 4294967296 + l[j]) / 10 :: qs) * 10 + (r * 4294967296 + l[j]) % 10 = val (l.drop j) := by
      rw [List.drop_eq_getElem_cons hi]
      simp only [val]
      rw [← hv]
      grind
    obtain ⟨o, he, hwo, hvo, hlo⟩ := ih ((r * 4294967296 + l[j]) / 10 :: qs) _ (by omega) (Wl.cons hq0 hq1 hw) hv' hr0 hr1
    refine ⟨o, ?_, hwo, hvo, by rw [hlo]; simp; omega⟩
    refine Ev.step (fun k => ?_) he
    simp only [retrospectref07_ten.l0]
    have e1 : ((j + 1 : Nat) : Int) - 1 = (j : Int) := by omega
    have e2 : (l.take (j + 1) ++ qs).set j ((r * 4294967296 + l[j]) / 10) = l.take j ++ (r * 4294967296 + l[j]) / 10 :: qs := by
      rw [List.take_succ_eq_append_getElem hi, List.append_assoc, List.set_append_right _ _ (by simp; omega)]
      simp [show min j l.length = j by omega]
    have e3 : rd (l.take (j + 1) ++ qs) (j : Int) = l[j] := by
      rw [rd_nat (by simp; omega), List.getElem_append_left (by simp; omega), List.getElem_take]
    rw [e1, if_pos (by omega), if_pos (by omega), if_pos (by simp; omega), e3, u64id (n := l[j]) (by omega) (by omega), u64id (n := r * 4294967296) (by omega) (by omega), u64id (n := r * 4294967296 + l[j]) (by omega) (by omega),
      Int.tmod_eq_emod_of_nonneg (by omega), Int.tdiv_eq_ediv_of_nonneg (by omega), u64id hq0 (by omega), Int.emod_eq_of_lt (a := (r * 4294967296 + l[j]) / 10) hq0 hq1, show ((j : Int)).toNat = j from by omega, e2, wrap_id (by omega) (by omega)]
theorem tenRef {l : List Int} (hl : Wl l) (hn : l.length ≤ 1000000000) : ∃ o, Ev (fun k => retrospectref07_ten.f k l) (val l % 10, o) ∧ Wl o ∧ val o = val l / 10 ∧ o.length = l.length := by
  obtain ⟨o, he, hw, hv, hlo⟩ := tenLoop hl hn l.length [] 0 (Nat.le_refl _) Wl.nil (by simp [val]) (by omega) (by omega)
  refine ⟨o, Ev.congr (fun k => ?_) he, hw, hv, by simpa using hlo⟩
  unfold retrospectref07_ten.f
  rw [List.take_length, List.append_nil, wrap_id (by omega) (by omega)]
theorem digit_cut (d : Nat) (h : d < 10) : ((⟨#[48, 49, 50, 51, 52, 53, 54, 55, 56, 57]⟩ : ByteArray).extract d (d + 1)) = ofL [UInt8.ofNat (48 + d)] := by
  have : d = 0 ∨ d = 1 ∨ d = 2 ∨ d = 3 ∨ d = 4 ∨ d = 5 ∨ d = 6 ∨ d = 7 ∨ d = 8 ∨ d = 9 := by omega
  rcases this with rfl | rfl | rfl | rfl | rfl | rfl | rfl | rfl | rfl | rfl <;> rfl
/-- a digit more, ahead. -/
theorem textRound (n : Nat) (s : List UInt8) (hn : (words n).length ≤ 1000000) (hs : s.length ≤ 1000000000) {R : ByteArray} (k : Ev (fun k => retrospectref07_Text.l0 k (words (n / 10)) (ofL (UInt8.ofNat (48 + n % 10) :: s))) R) :
    Ev (fun k => retrospectref07_Text.j1 k (words n) (ofL s) true) R := by
  obtain ⟨o, he, hw, hv, hlo⟩ := tenRef (Wl_words n) (by omega)
  rw [val_words] at he hv
  have hno := normRef hw (by omega)
  rw [hv] at hno
  have e1 : ((n : Int) / 10).toNat = n / 10 := by omega
  have e2 : (n : Int) % 10 = ((n % 10 : Nat) : Int) := by omega
  have hd : n % 10 < 10 := by omega
  rw [e1] at hno
  rw [e2] at he
  generalize hdd : n % 10 = d at *
  obtain ⟨K1, k1⟩ := he
  obtain ⟨K2, k2⟩ := hno
  obtain ⟨K3, k3⟩ := k
  dsimp only at k1 k2 k3
  refine ⟨K1 + K2 + K3 + 1, fun k hk => ?_⟩
  obtain ⟨k, rfl⟩ : ∃ j, k = j + 1 := ⟨k - 1, by omega⟩
  have e3 : IntKind.u64.wrap ((d : Int) + 1) = ((d + 1 : Nat) : Int) := by rw [u64id (by omega) (by omega)]; omega
  have e4 : ofL [UInt8.ofNat (48 + d)] ++ ofL s = ofL (UInt8.ofNat (48 + d) :: s) := by apply toL_inj; simp
  simp only [retrospectref07_Text.j1]
  rw [if_pos trivial, k1 k (by omega), Option.bind_some]
  simp only [e3, Int.toNat_natCast]
  rw [digit_cut d hd, if_pos (by omega), if_pos (by omega), if_pos (by omega), if_pos (by simp; omega), k2 k (by omega), Option.bind_some, e4]
  exact k3 k (by omega)
theorem textLoop (n : Nat) : ∀ (s : List UInt8), (words n).length ≤ 1000000 → (if n = 0 ∧ s ≠ [] then s else dec n ++ s).length ≤ 1000000000 → Ev (fun k => retrospectref07_Text.l0 k (words n) (ofL s)) (ofL (if n = 0 ∧ s ≠ [] then s else dec n ++ s)) := by
  induction n using Nat.strongRecOn with
  | ind n ih =>
    intro s hn hs
    by_cases h0 : n = 0
    · subst h0
      rw [words_zero]
      by_cases hs0 : s = []
      · subst hs0
        rw [if_neg (by simp)]
        have e5 : Ev (fun k => retrospectref07_Text.l0 k (words (0 / 10)) (ofL [UInt8.ofNat (48 + 0 % 10)])) (ofL (dec 0 ++ [])) := by
          rw [show (0 / 10 : Nat) = 0 from rfl, words_zero, dec_small 0 (by decide)]
          refine Ev.step (f := fun k => retrospectref07_Text.j1 k [] (ofL [UInt8.ofNat (48 + 0 % 10)]) false) (fun k => ?_) (Ev.step (f := fun _ => some (ofL [UInt8.ofNat (48 + 0)])) (fun k => ?_) (Ev.now _))
          · simp only [retrospectref07_Text.l0]
            rw [if_neg (by simp), toList_eq, toL_ofL]
            rfl
          · rfl
        have := textRound 0 [] (by rw [words_zero]; simp) (by simp) e5
        rw [words_zero] at this
        refine Ev.step (fun k => ?_) this
        simp only [retrospectref07_Text.l0]
        rw [if_neg (by simp), toList_eq, toL_ofL]
        rfl
      · rw [if_pos ⟨rfl, hs0⟩]
        refine Ev.step (fun k => ?_) (Ev.step (f := fun _ => some (ofL s)) (fun k => ?_) (Ev.now _) : Ev (fun k => retrospectref07_Text.j1 k [] (ofL s) false) (ofL s))
        · simp only [retrospectref07_Text.l0]
          rw [if_neg (by simp), toList_eq, toL_ofL, show (s == []) = false by simpa using hs0]
        · simp only [retrospectref07_Text.j1]
          rw [if_neg (by simp)]
    · rw [if_neg (by simp [h0])]
      have hlen : (words (n / 10)).length ≤ 1000000 := by
        refine Nat.le_trans (words_le ?_) hn
        have := val_ltN (Wl_words n)
        rw [val_words] at this
        simp only [Int.toNat_natCast] at this
        exact Nat.lt_of_le_of_lt (Nat.div_le_self _ _) this
      have hd : dec n ++ s = (if n / 10 = 0 then [] else dec (n / 10)) ++ UInt8.ofNat (48 + n % 10) :: s := by
        by_cases h1 : n / 10 = 0
        · rw [if_pos h1, dec_small n (by omega), show n % 10 = n by omega]; rfl
        · rw [if_neg h1, dec_step n (by omega)]; simp
      have e6 : (if n / 10 = 0 ∧ UInt8.ofNat (48 + n % 10) :: s ≠ [] then UInt8.ofNat (48 + n % 10) :: s else dec (n / 10) ++ UInt8.ofNat (48 + n % 10) :: s) = dec n ++ s := by
        rw [hd]
        by_cases h1 : n / 10 = 0
        · rw [if_pos ⟨h1, by simp⟩, if_pos h1]; rfl
        · rw [if_neg (by simp [h1]), if_neg h1]
      rw [if_neg (by simp [h0]), List.length_append] at hs
      have hk := ih (n / 10) (by omega) (UInt8.ofNat (48 + n % 10) :: s) hlen (by rw [e6, List.length_append]; exact hs)
      rw [e6] at hk
      refine Ev.step (fun k => ?_) (textRound n s hn (by omega) hk)
      simp only [retrospectref07_Text.l0]
      rw [if_pos]
      have : words n ≠ [] := fun h => h0 ((words_nil_iff n).1 h)
      have := List.length_pos_iff.2 this
      omega
end Go.Proofs.YtbicjgaadknmfaaDoor.M
