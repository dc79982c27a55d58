import Derived.Test.YtbicjgaadknmfaaDoorNg
import Derived.Test.YtbicjgaadknmfaaDoorHg
import Derived.Test.YtbicjgaadknmfaaDoorDx6
import Derived.Test.YtbicjgaadknmfaaDoorDx7
namespace Go.Proofs.YtbicjgaadknmfaaDoor.Pure
open Go.RowKit Go.Proofs.YtbicjgaadknmfaaDoor.P Go.Proofs.YtbicjgaadknmfaaDoor.M Go.Proofs.YtbicjgaadknmfaaDoorW.PrintWords
set_option linter.unusedVariables false
set_option linter.unusedSimpArgs false
theorem Wl_of_wf' {l : List Int} (h : ∀ x ∈ l, (Lit.int .u32 x).wf = true) : Wl l := by
  intro x hx
  have := h x hx
  simp [Lit.wf, IntKind.min, IntKind.max, IntKind.bits, IntKind.signed] at this
  omega
theorem digit_is (d : Nat) (h : d < 10) : isDig (UInt8.ofNat (48 + d)) = true ∧ (UInt8.ofNat (48 + d)).toNat - 48 = d := by
  have : d = 0 ∨ d = 1 ∨ d = 2 ∨ d = 3 ∨ d = 4 ∨ d = 5 ∨ d = 6 ∨ d = 7 ∨ d = 8 ∨ d = 9 := by omega
  rcases this with rfl | rfl | rfl | rfl | rfl | rfl | rfl | rfl | rfl | rfl <;> exact ⟨rfl, rfl⟩
theorem dec_dig (n : Nat) : (∀ c ∈ dec n, isDig c = true) ∧ num (dec n) = n := by
  induction n using Nat.strongRecOn with
  | ind n ih =>
    by_cases h : n < 10
    · rw [dec_small n h]
      refine ⟨fun c hc => ?_, ?_⟩
      · rw [List.mem_singleton.1 hc]; exact (digit_is n h).1
      · have := num_snoc [] (UInt8.ofNat (48 + n))
        rw [(digit_is n h).2] at this
        simpa [num] using this
    · obtain ⟨h1, h2⟩ := ih (n / 10) (by omega)
      rw [dec_step n (by omega)]
      refine ⟨fun c hc => ?_, ?_⟩
      · rcases List.mem_append.1 hc with hc | hc
        · exact h1 c hc
        · rw [List.mem_singleton.1 hc]; exact (digit_is _ (by omega)).1
      · rw [num_snoc, h2, (digit_is _ (by omega)).2]; omega
theorem wrongAt_all {l : List UInt8} (h : ∀ c ∈ l, isDig c = true) {i : Nat} (hi : i ≤ 60) : wrongAt l i = if i + l.length ≤ 60 then none else some 60 := by
  induction l generalizing i with
  | nil => rw [if_pos (by simpa using hi)]; rfl
  | cons c l ih =>
    simp only [wrongAt, List.length_cons]
    by_cases h60 : i = 60
    · rw [if_neg (by simp [h60]), if_neg (by omega), h60]
    · rw [if_pos ⟨h c List.mem_cons_self, h60⟩, ih (fun d hd => h d (List.mem_cons_of_mem _ hd)) (by omega)]
      by_cases hl : i + 1 + l.length ≤ 60
      · rw [if_pos hl, if_pos (by omega)]
      · rw [if_neg hl, if_neg (by omega)]
def trimT : List UInt8 → List UInt8
  | [] => []
  | [c] => [c]
  | c :: d :: r => if c = 48 then trimT (d :: r) else c :: d :: r
theorem trimRef (l : List UInt8) (hl : l.length ≤ 140737488351232) : Ev (fun k => retrospectref07_Trim.f k (ofL l)) (ofL (trimT l)) := by
  unfold retrospectref07_Trim.f
  induction l with
  | nil =>
    refine Ev.step (f := fun _ => some (ofL [])) (fun k => ?_) (Ev.now _)
    simp only [retrospectref07_Trim.l0]
    rw [if_neg (by simp)]
  | cons c l ih =>
    cases l with
    | nil =>
      refine Ev.step (f := fun _ => some (ofL [c])) (fun k => ?_) (Ev.now _)
      simp only [retrospectref07_Trim.l0]
      rw [if_neg (by simp)]
    | cons d r =>
      have hb : bt (ofL (c :: d :: r)) 0 = (c.toNat : Int) := by rw [bt_toL]; simp
      simp only [trimT]
      by_cases hc : c = 48
      · subst hc
        rw [if_pos rfl]
        have he : (ofL (48 :: d :: r)).extract 1 (ofL (48 :: d :: r)).size = ofL (d :: r) := by
          apply toL_inj
          rw [toL_extract]
          simp
        refine Ev.step (fun k => ?_) (ih (by simp at hl ⊢; omega))
        simp only [retrospectref07_Trim.l0]
        rw [if_pos (by simp; omega), if_pos (by simp; omega), hb, if_pos (by rfl), if_pos (by simp; omega), he]
      · rw [if_neg hc]
        refine Ev.step (f := fun _ => some (ofL (c :: d :: r))) (fun k => ?_) (Ev.now _)
        simp only [retrospectref07_Trim.l0]
        rw [if_pos (by simp; omega), if_pos (by simp; omega), hb, if_neg (fun h => hc (UInt8.toNat_inj.1 (by have e : ((48 : UInt8).toNat) = 48 := rfl; omega)))]
/-- a text of digits without noughts ahead is its number's. -/
theorem dec_unique (l : List UInt8) (hd : ∀ c ∈ l, isDig c = true) (h0 : l ≠ []) (hh : ∀ c r, l = c :: r → r = [] ∨ c ≠ 48) : dec (num l) = l := by
  induction hn : l.length generalizing l with
  | zero => exact absurd (List.length_eq_zero_iff.1 hn) h0
  | succ n ih =>
    obtain ⟨m, c, rfl⟩ : ∃ m c, l = m ++ [c] := ⟨l.dropLast, l.getLast h0, (List.dropLast_concat_getLast h0).symm⟩
    have hc := hd c (by simp)
    have hcb := hc
    simp only [isDig, Bool.and_eq_true, decide_eq_true_eq] at hc
    have hofc : UInt8.ofNat (48 + (c.toNat - 48)) = c := by
      apply UInt8.toNat_inj.1
      rw [show 48 + (c.toNat - 48) = c.toNat by omega]
      simp
    rw [num_snoc]
    by_cases hm : m = []
    · subst hm
      rw [show num [] = 0 from rfl, dec_small _ (by omega), Nat.zero_mul, Nat.zero_add, hofc]
      rfl
    · have hmh : ∀ d r, m = d :: r → r = [] ∨ d ≠ 48 := fun d r e => by
        rcases hh d (r ++ [c]) (by rw [e]; rfl) with h | h
        · simp at h
        · exact .inr h
      have hi := ih m (fun d hdm => hd d (List.mem_append_left _ hdm)) hm hmh (by simpa using hn)
      have hpos : 0 < num m := by
        rcases Nat.eq_zero_or_pos (num m) with h | h
        · exfalso
          rw [h, dec_small 0 (by decide)] at hi
          have := hh 48 [c] (by rw [← hi]; rfl)
          simp at this
        · exact h
      rw [dec_step _ (by omega), show (num m * 10 + (c.toNat - 48)) / 10 = num m by omega, show (num m * 10 + (c.toNat - 48)) % 10 = c.toNat - 48 by omega, hi, hofc]
theorem trimT_facts (l : List UInt8) (hd : ∀ c ∈ l, isDig c = true) : (∀ c ∈ trimT l, isDig c = true) ∧ num (trimT l) = num l ∧ (l ≠ [] → trimT l ≠ []) ∧ (∀ c r, trimT l = c :: r → r = [] ∨ c ≠ 48) := by
  induction l with
  | nil => exact ⟨hd, rfl, fun h => h, fun c r h => by cases h⟩
  | cons c l ih =>
    cases l with
    | nil => exact ⟨hd, rfl, fun h => h, fun c r h => by cases h; exact .inl rfl⟩
    | cons d r =>
      simp only [trimT]
      by_cases hc : c = 48
      · subst hc
        rw [if_pos rfl]
        obtain ⟨h1, h2, h3, h4⟩ := ih (fun x hx => hd x (List.mem_cons_of_mem _ hx))
        refine ⟨h1, ?_, fun _ => h3 (by simp), h4⟩
        rw [h2]
        simp [num]
      · rw [if_neg hc]
        exact ⟨hd, rfl, fun h => h, fun c' r' h => by cases h; exact .inr hc⟩
theorem j1_true (s : ByteArray) (hs : s.size ≤ 200) : Ev (fun k => retrospectlaw07_DigitsBack.j1 k s false) true := by
  obtain ⟨K0, k0⟩ := works07
  obtain ⟨K1, k1⟩ := readWhole s (by omega)
  obtain ⟨K2, k2⟩ := trimRef (toL s) (by rw [length_toL]; omega)
  rw [ofL_toL] at k2
  dsimp only at k0 k1 k2
  refine ⟨K0 + K1 + K2 + 1, fun k hk => ?_⟩
  obtain ⟨k, rfl⟩ : ∃ j, k = j + 1 := ⟨k - 1, by omega⟩
  simp only [retrospectlaw07_DigitsBack.j1]
  rw [if_neg (by simp), k1 k (by omega), Option.bind_some]
  by_cases hw : 0 ≤ wrongI (toL s)
  · rw [if_pos hw, if_neg (by simp), k0 k (by omega)]
    rfl
  · have hn : wrongAt (toL s) 0 = none := by
      unfold wrongI at hw
      cases hh : wrongAt (toL s) 0 with
      | none => rfl
      | some j => rw [hh] at hw; exact absurd (by simp) hw
    have hne : toL s ≠ [] := by
      intro he
      unfold wrongI at hw
      rw [hn] at hw
      simp only [he, if_true] at hw
      omega
    obtain ⟨hd, hl2⟩ := wrongAt_none hn (by omega)
    have hlt := num_take_lt s hd (by rw [length_toL] at hl2; omega) s.size
    rw [List.take_of_length_le (by rw [length_toL]; omega)] at hlt
    have hlen := words_len60 (Nat.lt_trans hlt (by decide))
    have ht := textProg (Wl_words (num (toL s))) (by omega)
    rw [val_words, Int.toNat_natCast] at ht
    obtain ⟨f1, f2, f3, f4⟩ := trimT_facts (toL s) hd
    have hdu := dec_unique (trimT (toL s)) f1 (f3 hne) f4
    rw [f2] at hdu
    rw [if_neg hw, if_pos (by simp), ht, Option.bind_some, k2 k (by omega), Option.bind_some, hdu, if_pos rfl, k0 k (by omega)]
    rfl
theorem DigitsBack : retrospectlaw07_DigitsBack.Pure := by
  intro l s _ _ hwf _
  have hW := Wl_of_wf' hwf
  obtain ⟨K0, k0⟩ := works07
  dsimp only at k0
  have hbig : (l.length : Int) > 8 ∨ (s.size : Int) > 200 → ∃ k, retrospectlaw07_DigitsBack.j0 k l s true = some true := fun _ => ⟨K0 + 1, by
    simp only [retrospectlaw07_DigitsBack.j0]
    rw [if_pos trivial, k0 _ (by omega)]
    rfl⟩
  by_cases h8 : (l.length : Int) > 8
  · obtain ⟨k, hk⟩ := hbig (.inl h8)
    exact ⟨k, by unfold retrospectlaw07_DigitsBack.f; rw [if_pos h8]; exact hk⟩
  by_cases h2 : (s.size : Int) > 200
  · obtain ⟨k, hk⟩ := hbig (.inr h2)
    exact ⟨k, by unfold retrospectlaw07_DigitsBack.f; rw [if_neg h8, decide_eq_true h2]; exact hk⟩
  have ht := textProg hW (by omega)
  obtain ⟨hdd, hdn⟩ := dec_dig (val l).toNat
  have hwl := dec_len_words hW
  have hrw := readWhole (ofL (dec (val l).toNat)) (by rw [size_ofL]; omega)
  obtain ⟨Kj, kj⟩ := j1_true s (by omega)
  have hwa := wrongAt_all hdd (i := 0) (by omega)
  rw [Nat.zero_add] at hwa
  dsimp only at kj
  by_cases hlen : (dec (val l).toNat).length ≤ 60
  · rw [if_pos hlen] at hwa
    have hwi : wrongI (toL (ofL (dec (val l).toNat))) = -1 := by
      unfold wrongI
      rw [toL_ofL, hwa]
      simp [dec_ne]
    rw [hwi, if_neg (by omega), toL_ofL, hdn] at hrw
    obtain ⟨K1, k1⟩ := hrw
    dsimp only at k1
    have hcmp : nat_Cmp.f (words (val l).toNat) l = some 0 := by
      have e := val_nonneg hW
      unfold nat_Cmp.f
      rw [if_pos (by simpa [Wl] using Wl_words (val l).toNat), if_pos (by simpa [Wl] using hW), val_words]
      unfold cmpI
      rw [if_neg (by omega), if_neg (by omega)]
    refine ⟨K0 + K1 + Kj + 1, ?_⟩
    unfold retrospectlaw07_DigitsBack.f
    rw [if_neg h8, decide_eq_false h2]
    simp only [retrospectlaw07_DigitsBack.j0]
    rw [if_neg (by simp), ht, Option.bind_some, k1 _ (by omega), Option.bind_some, if_pos (by rw [size_ofL]; omega), if_neg (by simp), hcmp, Option.bind_some, if_pos rfl, if_neg (by rw [size_ofL]; omega)]
    exact kj _ (by omega)
  · rw [if_neg hlen] at hwa
    have hwi : wrongI (toL (ofL (dec (val l).toNat))) = 60 := by
      unfold wrongI
      rw [toL_ofL, hwa]
      rfl
    rw [hwi, if_pos (by omega)] at hrw
    obtain ⟨K1, k1⟩ := hrw
    dsimp only at k1
    refine ⟨K0 + K1 + Kj + 1, ?_⟩
    unfold retrospectlaw07_DigitsBack.f
    rw [if_neg h8, decide_eq_false h2]
    simp only [retrospectlaw07_DigitsBack.j0]
    rw [if_neg (by simp), ht, Option.bind_some, k1 _ (by omega), Option.bind_some, if_neg (by rw [size_ofL]; omega), if_pos (by rw [size_ofL]; omega)]
    exact kj _ (by omega)
end Go.Proofs.YtbicjgaadknmfaaDoor.Pure
