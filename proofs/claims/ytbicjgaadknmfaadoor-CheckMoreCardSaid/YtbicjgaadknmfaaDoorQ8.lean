import Derived.Test.YtbicjgaadknmfaaDoorQ3
import Derived.Test.YtbicjgaadknmfaaDoorQ6
import Derived.Test.YtbicjgaadknmfaaDoorQ7
import Derived.Test.YtbicjgaadknmfaaDoorQ1
section
namespace Go.Proofs.YtbicjgaadknmfaaDoor.M
open Go.RowKit Go.Proofs.YtbicjgaadknmfaaDoorW.PrintWords Go.Proofs.YtbicjgaadknmfaaDoor.P
set_option linter.unusedVariables false
set_option linter.unusedSimpArgs false
theorem Wl.set {l : List Int} (h : Wl l) (j : Nat) {v : Int} (h0 : 0 ≤ v) (h1 : v < 4294967296) : Wl (l.set j v) := by
  intro y hy
  rcases List.mem_or_eq_of_mem_set hy with hy | rfl
  · exact h y hy
  · exact ⟨h0, h1⟩
theorem zmc {l : List Int} {j : Nat} (hj : j < l.length) (v : Int) : val (l.set j v) = val l + (v - l[j]) * 4294967296 ^ j := by
  induction l generalizing j with
  | nil => simp at hj
  | cons x l ih =>
    cases j with
    | zero => simp [val]; omega
    | succ j =>
      simp only [List.set_cons_succ, val, List.getElem_cons_succ]
      rw [ih (by simpa using hj), Int.pow_succ]
      grind
theorem zk3 {l : List Int} {i : Nat} (hi : i < l.length) : val (l.take (i + 1)) = val (l.take i) + l[i] * 4294967296 ^ i := by
  rw [List.take_succ_eq_append_getElem hi, val_append]
  simp only [List.length_take, val]
  rw [show min i l.length = i by omega]
  grind
theorem zhY (l : List Int) (hn : l.length < 35184372088832) (j : Nat) (hj : j ≤ l.length) : Ev (fun k => zaB.l0 k l (j : Int)) (strip (l.take j)) := by
  induction j with
  | zero =>
    refine Ev.step (f := fun _ => some (strip (l.take 0))) (fun k => ?_) (Ev.now _)
    simp only [zaB.l0]
    rw [if_neg (by omega), Option.bind_some, if_pos (by omega), if_pos (by omega), if_pos (by first | (simp; done) | (simp; omega))]
    rfl
  | succ j ih =>
    have hlt : j < l.length := by omega
    have e : ((j + 1 : Nat) : Int) - 1 = (j : Int) := by omega
    rw [List.take_succ_eq_append_getElem hlt]
    by_cases h0 : l[j] = 0
    · rw [h0, zgx]
      refine Ev.step (fun k => ?_) (ih (by omega))
      simp only [zaB.l0]
      rw [if_pos (by omega), e, zbh (by omega) (by omega), if_pos (by omega), if_pos (by omega), zdY hlt, if_pos h0]
    · rw [zhL _ _ h0]
      refine Ev.step (f := fun _ => some (l.take j ++ [l[j]])) (fun k => ?_) (Ev.now _)
      simp only [zaB.l0]
      rw [if_pos (by omega), e, zbh (by omega) (by omega), if_pos (by omega), if_pos (by omega), zdY hlt, if_neg h0, Option.bind_some, if_pos (by omega), if_pos (by omega), if_pos (by simp; omega), List.nil_append,
        show ((j + 1 : Nat) : Int).toNat = j + 1 by omega, List.take_succ_eq_append_getElem hlt]
theorem zgI {l : List Int} (h : Wl l) (hn : l.length < 35184372088832) : Ev (fun k => zaB.f k l) (words (val l).toNat) := by
  have := zhY l hn l.length (Nat.le_refl _)
  rw [List.take_length, zds h] at this
  exact this
theorem zj8 (a b : List Int) (hl : a.length = b.length) (hn : a.length ≤ 1000000000) (m : Nat) : ∀ i : Nat, i + m = a.length → Ev (fun k => zaJ.l0 k a b (i : Int)) (decide (a.drop i = b.drop i)) := by
  induction m with
  | zero =>
    intro i hi
    refine Ev.step (f := fun _ => some (decide (a.drop i = b.drop i))) (fun k => ?_) (Ev.now _)
    simp only [zaJ.l0]
    rw [if_neg (by omega), List.drop_of_length_le (by omega), List.drop_of_length_le (by omega)]
    rfl
  | succ m ih =>
    intro i hi
    have h1 : i < a.length := by omega
    have h2 : i < b.length := by omega
    rw [List.drop_eq_getElem_cons h1, List.drop_eq_getElem_cons h2]
    by_cases he : a[i] = b[i]
    · have e : decide (a[i] :: a.drop (i + 1) = b[i] :: b.drop (i + 1)) = decide (a.drop (i + 1) = b.drop (i + 1)) := decide_eq_decide.2 ⟨fun h => (List.cons.inj h).2, fun h => by rw [he, h]⟩
      rw [e]
      refine Ev.step (fun k => ?_) (ih (i + 1) (by omega))
      simp only [zaJ.l0]
      rw [if_pos (by omega), if_pos (by omega), if_pos (by omega), zdY h1, zdY h2, if_pos he, zbh (by omega) (by omega)]
      rfl
    · have e : decide (a[i] :: a.drop (i + 1) = b[i] :: b.drop (i + 1)) = false := decide_eq_false (fun h => he (List.cons.inj h).1)
      rw [e]
      refine Ev.step (f := fun _ => some false) (fun k => ?_) (Ev.now _)
      simp only [zaJ.l0]
      rw [if_pos (by omega), if_pos (by omega), if_pos (by omega), zdY h1, zdY h2, if_neg he]
theorem zkF (a b : List Int) (hn : a.length ≤ 1000000000) : Ev (fun k => zaJ.f k a b) (decide (a = b)) := by
  by_cases hl : a.length = b.length
  · refine Ev.congr (fun k => ?_) (zj8 a b hl hn a.length 0 (by omega))
    unfold zaJ.f
    rw [if_pos (by omega)]
    rfl
  · have e : decide (a = b) = false := by simp; intro h; exact hl (by rw [h])
    rw [e]
    refine Ev.congr (f := fun _ => some false) (fun k => ?_) (Ev.now _)
    unfold zaJ.f
    rw [if_neg (by omega)]
theorem zkR {l : List Int} (hl : Wl l) (hn : l.length ≤ 1000000000) (j : Nat) :
    ∀ (qs : List Int) (r : Int), j ≤ l.length → Wl qs → val qs * 10 + r = val (l.drop j) → 0 ≤ r → r < 10 →
      ∃ o, Ev (fun k => zaN.l0 k (l.take j ++ qs) r ((j : Int) - 1)) (val l % 10, o) ∧ Wl o ∧ val o = val l / 10 ∧ o.length = j + qs.length := by
  induction j with
  | zero =>
    intro qs r hj hw hv h0 h1
    obtain ⟨e1, e2⟩ := zgg hv h0 h1
    rw [List.drop_zero] at e1 e2
    refine ⟨qs, ?_, hw, e1.symm, by omega⟩
    refine Ev.step (f := fun _ => some (val l % 10, qs)) (fun k => ?_) (Ev.now _)
    simp only [zaN.l0, List.take_zero, List.nil_append]
    rw [if_neg (by omega), e2]
  | succ j ih =>
    intro qs r hj hw hv h0 h1
    have hi : j < l.length := by omega
    have hg := hl.get j hi
    have hdm := Int.mul_ediv_add_emod (r * 4294967296 + l[j]) 10
    have hq0 : 0 ≤ (r * 4294967296 + l[j]) / 10 := by omega
    have hq1 : (r * 4294967296 + l[j]) / 10 < 4294967296 := by omega
    have hr0 : 0 ≤ (r * 4294967296 + l[j]) % 10 := by omega
    have hr1 : (r * 4294967296 + l[j]) % 10 < 10 := by omega
    have hv' : val ((r * 4294967296 + l[j]) / 10 :: qs) * 10 + (r * 4294967296 + l[j]) % 10 = val (l.drop j) := by
      rw [List.drop_eq_getElem_cons hi]
      simp only [val]
      rw [← hv]
      grind
    obtain ⟨o, he, hwo, hvo, hlo⟩ := ih ((r * 4294967296 + l[j]) / 10 :: qs) _ (by omega) (Wl.cons hq0 hq1 hw) hv' hr0 hr1
    refine ⟨o, ?_, hwo, hvo, by rw [hlo]; simp; omega⟩
    refine Ev.step (fun k => ?_) he
    simp only [zaN.l0]
    have e1 : ((j + 1 : Nat) : Int) - 1 = (j : Int) := by omega
    have e2 : (l.take (j + 1) ++ qs).set j ((r * 4294967296 + l[j]) / 10) = l.take j ++ (r * 4294967296 + l[j]) / 10 :: qs := by
      rw [List.take_succ_eq_append_getElem hi, List.append_assoc, List.set_append_right _ _ (by simp; omega)]
      simp [show min j l.length = j by omega]
    have e3 : rd (l.take (j + 1) ++ qs) (j : Int) = l[j] := by
      rw [zdY (by simp; omega), List.getElem_append_left (by simp; omega), List.getElem_take]
    rw [e1, if_pos (by omega), if_pos (by omega), if_pos (by simp; omega), e3, zdG (n := l[j]) (by omega) (by omega), zdG (n := r * 4294967296) (by omega) (by omega), zdG (n := r * 4294967296 + l[j]) (by omega) (by omega),
      Int.tmod_eq_emod_of_nonneg (by omega), Int.tdiv_eq_ediv_of_nonneg (by omega), zdG hq0 (by omega), Int.emod_eq_of_lt (a := (r * 4294967296 + l[j]) / 10) hq0 hq1, show ((j : Int)).toNat = j from by omega, e2, zbh (by omega) (by omega)]
theorem zlr {l : List Int} (hl : Wl l) (hn : l.length ≤ 1000000000) : ∃ o, Ev (fun k => zaN.f k l) (val l % 10, o) ∧ Wl o ∧ val o = val l / 10 ∧ o.length = l.length := by
  obtain ⟨o, he, hw, hv, hlo⟩ := zkR hl hn l.length [] 0 (Nat.le_refl _) Wl.nil (by simp [val]) (by omega) (by omega)
  refine ⟨o, Ev.congr (fun k => ?_) he, hw, hv, by simpa using hlo⟩
  unfold zaN.f
  rw [List.take_length, List.append_nil, zbh (by omega) (by omega)]
theorem zjA (d : Nat) (h : d < 10) : ((⟨#[48, 49, 50, 51, 52, 53, 54, 55, 56, 57]⟩ : ByteArray).extract d (d + 1)) = ofL [UInt8.ofNat (48 + d)] := by
  have : d = 0 ∨ d = 1 ∨ d = 2 ∨ d = 3 ∨ d = 4 ∨ d = 5 ∨ d = 6 ∨ d = 7 ∨ d = 8 ∨ d = 9 := by omega
  rcases this with rfl | rfl | rfl | rfl | rfl | rfl | rfl | rfl | rfl | rfl <;> rfl
theorem zg6 (n : Nat) (s : List UInt8) (hn : (words n).length ≤ 1000000) (hs : s.length ≤ 1000000000) {R : ByteArray} (k : Ev (fun k => zau.l0 k (words (n / 10)) (ofL (UInt8.ofNat (48 + n % 10) :: s))) R) :
    Ev (fun k => zau.j1 k (words n) (ofL s) true) R := by
  obtain ⟨o, he, hw, hv, hlo⟩ := zlr (zeU n) (by omega)
  rw [zdy] at he hv
  have hno := zgI hw (by omega)
  rw [hv] at hno
  have e1 : ((n : Int) / 10).toNat = n / 10 := by omega
  have e2 : (n : Int) % 10 = ((n % 10 : Nat) : Int) := by omega
  have hd : n % 10 < 10 := by omega
  rw [e1] at hno
  rw [e2] at he
  generalize hdd : n % 10 = d at *
  obtain ⟨K1, k1⟩ := he
  obtain ⟨K2, k2⟩ := hno
  obtain ⟨K3, k3⟩ := k
  dsimp only at k1 k2 k3
  refine ⟨K1 + K2 + K3 + 1, fun k hk => ?_⟩
  obtain ⟨k, rfl⟩ : ∃ j, k = j + 1 := ⟨k - 1, by omega⟩
  have e3 : IntKind.u64.wrap ((d : Int) + 1) = ((d + 1 : Nat) : Int) := by rw [zdG (by omega) (by omega)]; omega
  have e4 : ofL [UInt8.ofNat (48 + d)] ++ ofL s = ofL (UInt8.ofNat (48 + d) :: s) := by apply zgK; simp
  simp only [zau.j1]
  rw [if_pos trivial, k1 k (by omega), Option.bind_some]
  simp only [e3, Int.toNat_natCast]
  rw [zjA d hd, if_pos (by omega), if_pos (by omega), if_pos (by omega), if_pos (by simp; omega), k2 k (by omega), Option.bind_some, e4]
  exact k3 k (by omega)
theorem zj5 (n : Nat) : ∀ (s : List UInt8), (words n).length ≤ 1000000 → (if n = 0 ∧ s ≠ [] then s else dec n ++ s).length ≤ 1000000000 → Ev (fun k => zau.l0 k (words n) (ofL s)) (ofL (if n = 0 ∧ s ≠ [] then s else dec n ++ s)) := by
  induction n using Nat.strongRecOn with
  | ind n ih =>
    intro s hn hs
    by_cases h0 : n = 0
    · subst h0
      rw [zcb]
      by_cases hs0 : s = []
      · subst hs0
        rw [if_neg (by simp)]
        have e5 : Ev (fun k => zau.l0 k (words (0 / 10)) (ofL [UInt8.ofNat (48 + 0 % 10)])) (ofL (dec 0 ++ [])) := by
          rw [show (0 / 10 : Nat) = 0 from rfl, zcb, zdT 0 (by decide)]
          refine Ev.step (f := fun k => zau.j1 k [] (ofL [UInt8.ofNat (48 + 0 % 10)]) false) (fun k => ?_) (Ev.step (f := fun _ => some (ofL [UInt8.ofNat (48 + 0)])) (fun k => ?_) (Ev.now _))
          · simp only [zau.l0]
            rw [if_neg (by simp), toList_eq, zc3]
            rfl
          · rfl
        have := zg6 0 [] (by rw [zcb]; simp) (by simp) e5
        rw [zcb] at this
        refine Ev.step (fun k => ?_) this
        simp only [zau.l0]
        rw [if_neg (by simp), toList_eq, zc3]
        rfl
      · rw [if_pos ⟨rfl, hs0⟩]
        refine Ev.step (fun k => ?_) (Ev.step (f := fun _ => some (ofL s)) (fun k => ?_) (Ev.now _) : Ev (fun k => zau.j1 k [] (ofL s) false) (ofL s))
        · simp only [zau.l0]
          rw [if_neg (by simp), toList_eq, zc3, show (s == []) = false by simpa using hs0]
        · simp only [zau.j1]
          rw [if_neg (by simp)]
    · rw [if_neg (by simp [h0])]
      have hlen : (words (n / 10)).length ≤ 1000000 := by
        refine Nat.le_trans (zf8 ?_) hn
        have := zeH (zeU n)
        rw [zdy] at this
        simp only [Int.toNat_natCast] at this
        exact Nat.lt_of_le_of_lt (Nat.div_le_self _ _) this
      have hd : dec n ++ s = (if n / 10 = 0 then [] else dec (n / 10)) ++ UInt8.ofNat (48 + n % 10) :: s := by
        by_cases h1 : n / 10 = 0
        · rw [if_pos h1, zdT n (by omega), show n % 10 = n by omega]; rfl
        · rw [if_neg h1, zf5 n (by omega)]; simp
      have e6 : (if n / 10 = 0 ∧ UInt8.ofNat (48 + n % 10) :: s ≠ [] then UInt8.ofNat (48 + n % 10) :: s else dec (n / 10) ++ UInt8.ofNat (48 + n % 10) :: s) = dec n ++ s := by
        rw [hd]
        by_cases h1 : n / 10 = 0
        · rw [if_pos ⟨h1, by simp⟩, if_pos h1]; rfl
        · rw [if_neg (by simp [h1]), if_neg h1]
      rw [if_neg (by simp [h0]), List.length_append] at hs
      have hk := ih (n / 10) (by omega) (UInt8.ofNat (48 + n % 10) :: s) hlen (by rw [e6, List.length_append]; exact hs)
      rw [e6] at hk
      refine Ev.step (fun k => ?_) (zg6 n s hn (by omega) hk)
      simp only [zau.l0]
      rw [if_pos]
      have : words n ≠ [] := fun h => h0 ((zd0 n).1 h)
      have := List.length_pos_iff.2 this
      omega
set_option linter.unusedSectionVars false
theorem zk1 {n w : Nat} (h : n < 10 ^ w) (hw : 0 < w) : (dec n).length ≤ w := by
  induction w generalizing n with
  | zero => omega
  | succ w ih =>
    by_cases h1 : n < 10
    · rw [zdT n h1]; simp
    · rw [zf5 n (by omega), List.length_append, List.length_singleton]
      have hw0 : 0 < w := by
        cases w with
        | zero => simp at h; omega
        | succ w => omega
      have := ih (n := n / 10) (by rw [Nat.pow_succ] at h; omega) hw0
      omega
theorem zhc {l : List Int} (h : Wl l) : (dec (val l).toNat).length ≤ 10 * l.length + 1 := by
  refine zk1 ?_ (by omega)
  refine Nat.lt_of_lt_of_le (zeH h) ?_
  have h1 : 4294967296 ^ l.length ≤ 10 ^ (10 * l.length) := by
    rw [Nat.pow_mul]
    exact Nat.pow_le_pow_left (by decide) _
  exact Nat.le_trans h1 (Nat.pow_le_pow_right (by decide) (by omega))
theorem zkv {l : List Int} (h : Wl l) (hn : l.length ≤ 1000000) : Ev (fun k => zau.f k l) (ofL (dec (val l).toNat)) := by
  have hl := zhc h
  have := zj5 (val l).toNat [] (Nat.le_trans (zf8 (zeH h)) hn) (by rw [if_neg (by simp), List.append_nil]; omega)
  rw [if_neg (by simp), List.append_nil] at this
  exact Ev.bind (f := fun n t => zau.l0 n t ⟨#[]⟩) (zgI h (by omega)) this
end Go.Proofs.YtbicjgaadknmfaaDoor.M
end
section
namespace Go.Proofs.YtbicjgaadknmfaaDoor.P
open Go.RowKit Go.Proofs.YtbicjgaadknmfaaDoorW.PrintWords Go.Proofs.YtbicjgaadknmfaaDoorW.PrintLast Go.Proofs.YtbicjgaadknmfaaDoorW.PrintMore
attribute [local go_sem] zcu zcp zcl zck zbZ zbX zb9 zb7
set_option linter.unusedVariables false
set_option linter.unusedSimpArgs false
def zay.j0 : Nat → Int → Int → Int → Bool → Int → Int → List Int → Option (Bool)
 | 0, _, _, _, _, _, _, _ => none
 | k + 1, x1, x2, x3, x43, x161000, x161001, x161002 => if x43 = true then (some false) else (if x161000 = 3 then (if x161001 ≥ 0 then (some (decide (x161001 < x1))) else (some false)) else (if x161000 = 4 then (if x161001 ≥ 0 then (some (decide (x161001 < x2))) else (some false)) else (if x161000 = 5 then (if x161001 ≥ 0 then (some (decide (x161001 < x3))) else (some false)) else (if x161000 = 11 then (if x161001 ≥ (-8) then (some (decide (x161001 ≤ 8))) else (some false)) else (some (x161001 == 0))))))
def zay.f (k : Nat) (a0_0 : Int) (a0_1 : Int) (l0_2 : List Int) (a1 : Int) (a2 : Int) (a3 : Int) : Option (Bool) := if a0_0 = 1 then (if a0_1 = 0 then ((zaB.f k l0_2).bind fun t161 => ((zaJ.f k t161 l0_2).bind fun t164 => (if t164 = true then ((zau.f k l0_2).bind fun t165 => (some (decide ((t165.size : Int) ≤ 60)))) else (some false)))) else (some false)) else (if (l0_2.length : Int) > 0 then (zay.j0 k a1 a2 a3 true a0_0 a0_1 l0_2) else (if a0_0 < 1 then (zay.j0 k a1 a2 a3 true a0_0 a0_1 l0_2) else (zay.j0 k a1 a2 a3 (decide (a0_0 > 11)) a0_0 a0_1 l0_2)))
theorem zay.zaV : ∀ k, (∀ y0 y1 y2 y3 y4 y5 y6, LeO (zay.j0 k y0 y1 y2 y3 y4 y5 y6) (zay.j0 (k + 1) y0 y1 y2 y3 y4 y5 y6))
 | 0 => fun _ _ _ _ _ _ _ r h => by simp [zay.j0] at h
 | k + 1 => by
  have ih0 := zay.zaV k
  ·intro y0 y1 y2 y3 y4 y5 y6
   unfold zay.j0
   repeat' first
   | (with_reducible exact ih0 _ _ _ _ _ _ _)
   | (with_reducible exact zaB.mono _ _)
   | (with_reducible exact zaJ.mono _ _ _)
   | (with_reducible exact zau.mono _ _)
   | (with_reducible exact LeO.refl _)
   | (with_reducible exact LeO.none _)
   | (with_reducible refine LeO.ite ?_ ?_)
   | (with_reducible refine LeO.bind ?_ (fun _ => ?_))
   | exact ih0 _ _ _ _ _ _ _
   | exact zaB.mono _ _
   | exact zaJ.mono _ _ _
   | exact zau.mono _ _
   | exact LeO.none _
   | refine LeO.ite ?_ ?_
   | refine LeO.bind ?_ (fun _ => ?_)
theorem zay.mono : ∀ a0 a1 a2 a3 a4 a5 k, LeO (zay.f k a0 a1 a2 a3 a4 a5) (zay.f (k + 1) a0 a1 a2 a3 a4 a5) := by
 intro a0 a1 a2 a3 a4 a5 k
 have ih0 := zay.zaV k
 unfold zay.f
 repeat' first
   | (with_reducible exact ih0 _ _ _ _ _ _ _)
   | (with_reducible exact zaB.mono _ _)
   | (with_reducible exact zaJ.mono _ _ _)
   | (with_reducible exact zau.mono _ _)
   | (with_reducible exact LeO.refl _)
   | (with_reducible exact LeO.none _)
   | (with_reducible refine LeO.ite ?_ ?_)
   | (with_reducible refine LeO.bind ?_ (fun _ => ?_))
   | exact ih0 _ _ _ _ _ _ _
   | exact zaB.mono _ _
   | exact zaJ.mono _ _ _
   | exact zau.mono _ _
   | exact LeO.none _
   | refine LeO.ite ?_ ?_
   | refine LeO.bind ?_ (fun _ => ?_)
def zay.T2 : Bool × List (List Nat × List Nat) := (true, [([], []), ([0], [0]), ([1], [1]), ([2], [2]), ([3], [3]), ([4, 3], [3, 4]), ([5, 3, 3], [3, 5]), ([3], [3]), ([7, 3], [3, 7]), ([6, 8, 6, 3], [3, 6, 8]), ([3, 9], [3, 9]), ([10, 9], [10]), ([11], [11]), ([12, 11], [11, 12]), ([13, 11, 11], [11, 13]), ([14, 11], [11, 14]), ([15, 11], [11, 15]), ([11, 16], [11, 16]), ([17, 14, 0, 1, 2, 3, 4, 5, 6, 7, 8, 9, 10, 11, 12, 13, 14, 15, 16, 17], [17])])
def zay.B2 : List Nat := [0, 1, 3, 7, 15, 31, 63, 15, 143, 511, 1023, 2047, 4095, 8191, 16383, 32767, 65535, 131071, 262143]
theorem zay.tab2 : rtab .any (opsOf Tryd.f32 2) = zay.T2 := by kernel_rfl
theorem zay.ziE : zc2 zay.T2.2 zay.B2 = true := by kernel_rfl
set_option maxHeartbeats 8000000 in
set_option maxRecDepth 100000 in
theorem zay.calls (k : Nat) (a0_0 : Int) (a0_1 : Int) (A0_2 : Option Addr) (c0_2 : Nat) (l0_2 : List Int) (a1 : Int) (a2 : Int) (a3 : Int) (r : Bool) (w : World) (hr0_2 : Kd.C (Kd.int .u32) w A0_2 l0_2.length l0_2) (hc0_2 : l0_2.length ≤ c0_2) (h : zay.f k a0_0 a0_1 l0_2 a1 a2 a3 = some r) :
  Calls Tryd.prog 32 #[.agg #[.int .i64 a0_0, .int .i64 a0_1, .slice A0_2 l0_2.length c0_2], .int .i64 a1, .int .i64 a2, .int .i64 a3] w fun e w' => e = .returned (.bool r) ∧ Below w.heap.size w w' := by
 have hu62 := Tryd.underlying62
 have HR0_2 := zaa.mk hr0_2
 have HC0_2 := zaa.mk hc0_2
 clear hr0_2 hc0_2
 have HB := zaa.mk (Below.refl w.heap.size w)
 have H : (if a0_0 = 1 then (if a0_1 = 0 then ((zaB.f k l0_2).bind fun t161 => ((zaJ.f k t161 l0_2).bind fun t164 => (if t164 = true then ((zau.f k l0_2).bind fun t165 => (some (decide ((t165.size : Int) ≤ 60)))) else (some false)))) else (some false)) else (if (l0_2.length : Int) > 0 then (zay.j0 k a1 a2 a3 true a0_0 a0_1 l0_2) else (if a0_0 < 1 then (zay.j0 k a1 a2 a3 true a0_0 a0_1 l0_2) else (zay.j0 k a1 a2 a3 (decide (a0_0 > 11)) a0_0 a0_1 l0_2)))) = some r := h
 clear h
 by_cases c5 : a0_0 = 1
 ·rw [if_pos c5] at H
  have c5b0 : (a0_0 == 1) = true := beq_iff_eq.mpr c5
  have c5b1 : (a0_0 != 1) = false := bne_eq_false_iff_eq.mpr c5
  clear c5
  by_cases c6 : a0_1 = 0
  ·rw [if_pos c6] at H
   have c6b0 : (a0_1 == 0) = true := beq_iff_eq.mpr c6
   have c6b1 : (a0_1 != 0) = false := bne_eq_false_iff_eq.mpr c6
   clear c6
   replace H := Option.bind_eq_some_iff.mp H
   obtain ⟨t161, A70, H⟩ := H
   replace H : ((zaJ.f k t161 l0_2).bind fun t164 => (if t164 = true then ((zau.f k l0_2).bind fun t165 => (some (decide ((t165.size : Int) ≤ 60)))) else (some false))) = some r := H
   have A7 := zaa.mk A70
   clear A70
   replace H := Option.bind_eq_some_iff.mp H
   obtain ⟨t164, A80, H⟩ := H
   replace H : (if t164 = true then ((zau.f k l0_2).bind fun t165 => (some (decide ((t165.size : Int) ≤ 60)))) else (some false)) = some r := H
   have A8 := zaa.mk A80
   clear A80
   by_cases c9 : t164 = true
   ·subst c9
    have H1 : ((zau.f k l0_2).bind fun t165 => (some (decide ((t165.size : Int) ≤ 60)))) = some r := by rw [if_pos rfl] at H; exact H
    clear H
    have H := H1
    clear H1
    replace H := Option.bind_eq_some_iff.mp H
    obtain ⟨t165, A100, H⟩ := H
    replace H : (some (decide ((t165.size : Int) ≤ 60))) = some r := H
    have A10 := zaa.mk A100
    clear A100
    obtain rfl := Option.some.inj H
    go_enter Tryd.func32, Tryd.ntmps32
    try go_wp2_with (first | ((with_reducible refine zba (N := 4) rfl ?_); (try (refine zbS (by rfl) ?_; dsimp only)); refine za6 ?hg (N := 4) ?hd (cs := #[.int .i64 a0_0, .int .i64 a0_1, .slice A0_2 l0_2.length c0_2]) (t := 62) ?hr ?_; (case hd => rfl); (case hg => rfl); (case hr => first | (go_simp; done) | (go_simp; rfl)); intro gb160 hg w11 hbox hb; have n0_ := zaa.mk (zat (by repeat (first | (with_reducible first | exact HB.out | apply zac | apply zab | apply zad) | exact HB.out)) hb); have n1_ := zaa.mk (hbox); have n2_ := zaa.mk ((by rw [hg]; exact (zas (by repeat (first | (with_reducible first | exact HB.out | apply zac | apply zab | apply zad) | exact HB.out))) : w.heap.size ≤ gb160)); have n3_ := zaa.mk ((by rw [hg]; exact (zas (by repeat (first | (with_reducible first | exact HB.out | apply zac | apply zab | apply zad) | exact HB.out))) : w.heap.size ≤ gb160)); clear HB; have HB := n0_; have BK160 := n1_; have GW160 := n2_; have GE160 := n3_; clear n0_ n1_ n2_ n3_; clear hb hbox hg; have hcz12_0 : w11.cell? ⟨gb160, 0, none⟩ = some (.int .i64 a0_0) := (zaj BK160.out 0).trans rfl; have hcz12_1 : w11.cell? ⟨gb160, 1, none⟩ = some (.int .i64 a0_1) := (zaj BK160.out 1).trans rfl; have hcz12_2 : w11.cell? ⟨gb160, 2, none⟩ = some (.slice A0_2 l0_2.length c0_2) := (zaj BK160.out 2).trans rfl; have hfz12_0 := zak BK160.out 0; have hfz12_1 := zak BK160.out 1; have hfz12_2 := zak BK160.out 2))
    have n0_ := zaa.mk (zai BK160.out)
    have n1_ := zaa.mk (zad HB.out)
    clear BK160
    clear HB
    have BK160 := n0_
    have HB := n1_
    clear n0_ n1_
    refine zdq (n := 19) (S := fun w' => w'.cell? ⟨gb160, 0, none⟩ = some (.int .i64 a0_0) ∧ w'.cell? ⟨gb160, 1, none⟩ = some (.int .i64 a0_1) ∧ w'.cell? ⟨gb160, 2, none⟩ = some (.slice A0_2 l0_2.length c0_2)) (ds := []) #[false, false, false, false, false, false, false, false, false, false, false, false, false, false, false, false, false, false, false] (by kernel_rfl) rfl rfl ⟨(zaj BK160.out 0).trans rfl, (zaj BK160.out 1).trans rfl, (zaj BK160.out 2).trans rfl⟩ (fun hHeld => ?_); refine zcF zay.tab2 zay.ziE (fun HT_ HW_ => ?_)
    generalize w11.drew = w13 at BK160 HB hHeld ⊢
    refine zaR (i := 0) (N := some 12) (v := ?_) (a' := ?_) #[true, false, false, false, false, false, false, false, false, false, false, false, false, false, false, false, false, false, false] rfl rfl (zaL HT_.out (by kernel_rfl)) (fun _ _ _ h => h) (Or.inl ⟨by rfl, ?_⟩) ?_ ?_
    rotate_left
    ·intro w'
     go_simp
     with_reducible rfl
    rotate_left
    ·simp only [Act.put, List.setIfInBounds_toArray, List.set_cons_zero, List.set_cons_succ, zaC, zaD]
     rfl
    refine zbW (i := 1) (N := some 13) (v := ?_) (a' := ?_) #[true, true, false, false, false, false, false, false, false, false, false, false, false, false, false, false, false, false, false] rfl rfl (zbC HT_.out HW_.out (by kernel_rfl)) (fun _ _ _ h => h) (Or.inl ⟨by rfl, ?_⟩) hHeld ?_ ?_
    rotate_left
    ·rintro w' ⟨s0, s1, s2⟩
     go_simp
     with_reducible rfl
    rotate_left
    ·simp only [Act.put, List.setIfInBounds_toArray, List.set_cons_zero, List.set_cons_succ, zaC, zaD]
     rfl
    refine zaR (i := 2) (N := some 14) (v := ?_) (a' := ?_) #[true, true, true, false, false, false, false, false, false, false, false, false, false, false, false, false, false, false, false] rfl rfl (zaL HT_.out (by kernel_rfl)) (fun _ _ _ h => h) (Or.inl ⟨by rfl, ?_⟩) ?_ ?_
    rotate_left
    ·intro w'
     go_simp
     with_reducible rfl
    rotate_left
    ·simp only [Act.put, List.setIfInBounds_toArray, List.set_cons_zero, List.set_cons_succ, zaC, zaD]
     rfl
    refine zaR (i := 3) (N := some 15) (v := ?_) (a' := ?_) #[true, true, true, true, false, false, false, false, false, false, false, false, false, false, false, false, false, false, false] rfl rfl (zaL HT_.out (by kernel_rfl)) (fun _ _ _ h => h) (Or.inl ⟨by rfl, ?_⟩) ?_ ?_
    rotate_left
    ·intro w'
     go_simp
     with_reducible rfl
    rotate_left
    ·simp only [Act.put, List.setIfInBounds_toArray, List.set_cons_zero, List.set_cons_succ, zaC, zaD]
     rfl
    refine zaR (i := 4) (N := some 16) (v := ?_) (a' := ?_) #[true, true, true, true, true, false, false, false, false, false, false, false, false, false, false, false, false, false, false] rfl rfl (zaL HT_.out (by kernel_rfl)) (fun _ _ _ h => h) (Or.inl ⟨by rfl, ?_⟩) ?_ ?_
    rotate_left
    ·intro w'
     go_simp
     with_reducible rfl
    rotate_left
    ·simp only [Act.put, List.setIfInBounds_toArray, List.set_cons_zero, List.set_cons_succ, zaC, zaD]
     rfl
    refine zaR (i := 7) (N := some 19) (v := ?_) (a' := ?_) #[true, true, true, true, true, false, false, true, false, false, false, false, false, false, false, false, false, false, false] rfl rfl (zaL HT_.out (by kernel_rfl)) (fun _ _ _ h => h) (Or.inl ⟨by rfl, ?_⟩) ?_ ?_
    rotate_left
    ·intro w'
     go_simp
     with_reducible rfl
    rotate_left
    ·simp only [Act.put, List.setIfInBounds_toArray, List.set_cons_zero, List.set_cons_succ, zaC, zaD]
     rfl
    refine zbW (i := 5) (N := some 17) (v := ?_) (a' := ?_) #[true, true, true, true, true, true, false, true, false, false, false, false, false, false, false, false, false, false, false] rfl rfl (zbC HT_.out HW_.out (by kernel_rfl)) (fun _ _ _ h => h) (Or.inl ⟨by rfl, ?_⟩) hHeld ?_ ?_
    rotate_left
    ·rintro w' ⟨s0, s1, s2⟩
     go_simp
     with_reducible rfl
    rotate_left
    ·simp only [Act.put, List.setIfInBounds_toArray, List.set_cons_zero, List.set_cons_succ, zaC, zaD]
     rfl
    refine zbW (i := 8) (N := some 20) (v := ?_) (a' := ?_) #[true, true, true, true, true, true, false, true, true, false, false, false, false, false, false, false, false, false, false] rfl rfl (zbC HT_.out HW_.out (by kernel_rfl)) (fun _ _ _ h => h) (Or.inl ⟨by rfl, ?_⟩) hHeld ?_ ?_
    rotate_left
    ·rintro w' ⟨s0, s1, s2⟩
     go_simp
     with_reducible rfl
    rotate_left
    ·simp only [Act.put, List.setIfInBounds_toArray, List.set_cons_zero, List.set_cons_succ, zaC, zaD]
     rfl
    refine one_ (i := 6) (N := some 18) #[true, true, true, true, true, true, true, true, true, false, false, false, false, false, false, false, false, false, false] rfl rfl (zcd HT_.out (by kernel_rfl)) (by decide) (fun K hK => ?_)
    refine ze5 Tryd.func63 (by kernel_rfl) rfl #[.slice A0_2 l0_2.length c0_2] (by rfl) rfl rfl (by (try simp only [List.map_toArray, List.map_cons, List.map_nil]); first | done | rfl | (simp only [List.length_drop, List.length_take]; rfl)) ?_
    with_reducible refine (zaB.calls k _ _ l0_2 t161 _ ?side1 ?side2 A7.out).mono ?_
    (case side1 => repeat (first | exact (Kd.za1 HR0_2.out HB.out) | (with_reducible refine Kd.zaU ?_ _) | (with_reducible refine Kd.zaY ?_ _) | (with_reducible refine Kd.za3 ?_)))
    (case side2 => exact HC0_2.out)
    rintro e w14 ⟨v162, rfl, ho0, hb⟩
    refine ⟨_, rfl, ?_⟩
    have n0_ := zaa.mk (Kd.zcA ho0 (zas (by repeat (first | (with_reducible first | exact HB.out | apply zac | apply zab | apply zad | refine zah ?_ GE160.out) | exact HB.out))))
    have n1_ := zaa.mk (zaM (g := gb160) (o := .cells #[.int .i64 a0_0, .int .i64 a0_1, .slice A0_2 l0_2.length c0_2] 62 (0, 0)) (by (with_reducible repeat (first | refine zaf ?_ _ | refine zai ?_ | refine zae ?_ _)); exact BK160.out) hb)
    have n2_ := zaa.mk (zat (by repeat (first | (with_reducible first | exact HB.out | apply zac | apply zab | apply zad | refine zah ?_ GE160.out) | exact HB.out)) hb)
    clear BK160
    clear HB
    have HO163 := n0_
    have BK160 := n1_
    have HB := n2_
    clear n0_ n1_ n2_
    (try clear hb)
    (try clear hb2)
    (try clear hk)
    (try clear hi)
    (try clear ho0)
    obtain ⟨Ao15, co15, eo15⟩ := Kd.zbO HO163.out
    (first | subst eo15 | (injection eo15 with f1_ f2_ f3_; have f4_ := f1_.symm; have f5_ := f3_.symm; clear f1_ f2_ f3_; subst f4_; subst f5_))
    refine hK.out _ _ ⟨(zaj BK160.out 0).trans rfl, (zaj BK160.out 1).trans rfl, (zaj BK160.out 2).trans rfl⟩ (fun hHeld => ?_)
    clear hK K
    refine zcY (a' := ?_) ?_ ?_
    rotate_left
    ·show Act.put _ (some 18) _ = _
     simp only [Act.put, List.setIfInBounds_toArray, List.set_cons_zero, List.set_cons_succ, zaC, zaD]
     rfl
    refine one_ (i := 9) (N := some 21) #[true, true, true, true, true, true, true, true, true, true, false, false, false, false, false, false, false, false, false] rfl rfl (zcd HT_.out (by kernel_rfl)) (by decide) (fun K hK => ?_)
    refine ze5 Tryd.func16 (by kernel_rfl) rfl #[.slice Ao15 t161.length co15, .slice A0_2 l0_2.length c0_2] (by rfl) rfl rfl (by (try simp only [List.map_toArray, List.map_cons, List.map_nil]); first | done | rfl | (simp only [List.length_drop, List.length_take]; rfl)) ?_
    with_reducible refine (zaJ.calls k _ _ t161 _ _ l0_2 true _ ?side1 ?side2 ?side3 ?side4 A8.out).mono ?_
    (case side1 => repeat (first | exact (Kd.zbD HO163.out).2.2 | (with_reducible refine Kd.zaU ?_ _) | (with_reducible refine Kd.zaY ?_ _) | (with_reducible refine Kd.za3 ?_)))
    (case side2 => exact (Kd.zbD HO163.out).2.1)
    (case side3 => repeat (first | exact (Kd.za1 HR0_2.out HB.out) | (with_reducible refine Kd.zaU ?_ _) | (with_reducible refine Kd.zaY ?_ _) | (with_reducible refine Kd.za3 ?_)))
    (case side4 => exact HC0_2.out)
    rintro e w' ⟨rfl, ⟨nd, rfl⟩⟩
    refine ⟨_, rfl, ?_⟩
    refine hK.out _ _ ⟨(zaj BK160.out 0).trans rfl, (zaj BK160.out 1).trans rfl, (zaj BK160.out 2).trans rfl⟩ (fun hHeld => ?_)
    clear hK K
    refine zcY (a' := ?_) ?_ ?_
    rotate_left
    ·show Act.put _ (some 21) _ = _
     simp only [Act.put, List.setIfInBounds_toArray, List.set_cons_zero, List.set_cons_succ, zaC, zaD]
     rfl
    refine zaR (i := 10) (N := some 22) (v := ?_) (a' := ?_) #[true, true, true, true, true, true, true, true, true, true, true, false, false, false, false, false, false, false, false] rfl rfl (zaL HT_.out (by kernel_rfl)) (fun _ _ _ h => h) (Or.inl ⟨by rfl, ?_⟩) ?_ ?_
    rotate_left
    ·intro w'
     go_simp
     with_reducible rfl
    rotate_left
    ·simp only [Act.put, List.setIfInBounds_toArray, List.set_cons_zero, List.set_cons_succ, zaC, zaD]
     rfl
    refine zaR (i := 11) (N := some 23) (v := ?_) (a' := ?_) #[true, true, true, true, true, true, true, true, true, true, true, true, false, false, false, false, false, false, false] rfl rfl (zaL HT_.out (by kernel_rfl)) (fun _ _ _ h => h) (Or.inl ⟨by rfl, ?_⟩) ?_ ?_
    rotate_left
    ·intro w'
     go_simp
     with_reducible rfl
    rotate_left
    ·simp only [Act.put, List.setIfInBounds_toArray, List.set_cons_zero, List.set_cons_succ, zaC, zaD]
     rfl
    refine zaR (i := 12) (N := some 24) (v := ?_) (a' := ?_) #[true, true, true, true, true, true, true, true, true, true, true, true, true, false, false, false, false, false, false] rfl rfl (zaL HT_.out (by kernel_rfl)) (fun _ _ _ h => h) (Or.inl ⟨by rfl, ?_⟩) ?_ ?_
    rotate_left
    ·intro w'
     go_simp
     with_reducible rfl
    rotate_left
    ·simp only [Act.put, List.setIfInBounds_toArray, List.set_cons_zero, List.set_cons_succ, zaC, zaD]
     rfl
    refine zbW (i := 13) (N := some 25) (v := ?_) (a' := ?_) #[true, true, true, true, true, true, true, true, true, true, true, true, true, true, false, false, false, false, false] rfl rfl (zbC HT_.out HW_.out (by kernel_rfl)) (fun _ _ _ h => h) (Or.inl ⟨by rfl, ?_⟩) hHeld ?_ ?_
    rotate_left
    ·rintro w' ⟨s0, s1, s2⟩
     go_simp
     with_reducible rfl
    rotate_left
    ·simp only [Act.put, List.setIfInBounds_toArray, List.set_cons_zero, List.set_cons_succ, zaC, zaD]
     rfl
    refine one_ (i := 14) (N := some 26) #[true, true, true, true, true, true, true, true, true, true, true, true, true, true, true, false, false, false, false] rfl rfl (zcd HT_.out (by kernel_rfl)) (by decide) (fun K hK => ?_)
    refine ze5 Tryd.func18 (by kernel_rfl) rfl #[.slice A0_2 l0_2.length c0_2] (by rfl) rfl rfl (by (try simp only [List.map_toArray, List.map_cons, List.map_nil]); first | done | rfl | (simp only [List.length_drop, List.length_take]; rfl)) ?_
    with_reducible refine (zau.calls k _ _ l0_2 t165 _ ?side1 ?side2 A10.out).mono ?_
    (case side1 => repeat (first | exact (Kd.za1 HR0_2.out (by repeat (first | (with_reducible first | exact HB.out | apply zac | apply zab | apply zad | refine zah ?_ GE160.out) | exact HB.out))) | (with_reducible refine Kd.zaU ?_ _) | (with_reducible refine Kd.zaY ?_ _) | (with_reducible refine Kd.za3 ?_)))
    (case side2 => exact HC0_2.out)
    rintro e w16 ⟨rfl, hb⟩
    refine ⟨_, rfl, ?_⟩
    have n0_ := zaa.mk (Kd.zcR (by (with_reducible repeat (first | apply Kd.zbo | apply Kd.zbl | apply Kd.zbz)); exact HO163.out) hb)
    have n1_ := zaa.mk (zaM (g := gb160) (o := .cells #[.int .i64 a0_0, .int .i64 a0_1, .slice A0_2 l0_2.length c0_2] 62 (0, 0)) (by (with_reducible repeat (first | refine zaf ?_ _ | refine zai ?_ | refine zae ?_ _)); exact BK160.out) hb)
    have n2_ := zaa.mk (zat (by repeat (first | (with_reducible first | exact HB.out | apply zac | apply zab | apply zad | refine zah ?_ GE160.out) | exact HB.out)) hb)
    clear HO163
    clear BK160
    clear HB
    have HO163 := n0_
    have BK160 := n1_
    have HB := n2_
    clear n0_ n1_ n2_
    (try clear hb)
    (try clear hb2)
    (try clear hk)
    (try clear hi)
    refine hK.out _ _ ⟨(zaj BK160.out 0).trans rfl, (zaj BK160.out 1).trans rfl, (zaj BK160.out 2).trans rfl⟩ (fun hHeld => ?_)
    clear hK K
    refine zcY (a' := ?_) ?_ ?_
    rotate_left
    ·show Act.put _ (some 26) _ = _
     simp only [Act.put, List.setIfInBounds_toArray, List.set_cons_zero, List.set_cons_succ, zaC, zaD]
     rfl
    refine zaR (i := 15) (N := some 27) (v := ?_) (a' := ?_) #[true, true, true, true, true, true, true, true, true, true, true, true, true, true, true, true, false, false, false] rfl rfl (zaL HT_.out (by kernel_rfl)) (fun _ _ _ h => h) (Or.inl ⟨by rfl, ?_⟩) ?_ ?_
    rotate_left
    ·intro w'
     go_simp
     with_reducible rfl
    rotate_left
    ·simp only [Act.put, List.setIfInBounds_toArray, List.set_cons_zero, List.set_cons_succ, zaC, zaD]
     rfl
    refine zaR (i := 16) (N := some 28) (v := ?_) (a' := ?_) #[true, true, true, true, true, true, true, true, true, true, true, true, true, true, true, true, true, false, false] rfl rfl (zaL HT_.out (by kernel_rfl)) (fun _ _ _ h => h) (Or.inl ⟨by rfl, ?_⟩) ?_ ?_
    rotate_left
    ·intro w'
     go_simp
     with_reducible rfl
    rotate_left
    ·simp only [Act.put, List.setIfInBounds_toArray, List.set_cons_zero, List.set_cons_succ, zaC, zaD]
     rfl
    refine zaR (i := 17) (N := some 29) (v := ?_) (a' := ?_) #[true, true, true, true, true, true, true, true, true, true, true, true, true, true, true, true, true, true, false] rfl rfl (zaL HT_.out (by kernel_rfl)) (fun _ _ _ h => h) (Or.inl ⟨by rfl, ?_⟩) ?_ ?_
    rotate_left
    ·intro w'
     go_simp
     with_reducible rfl
    rotate_left
    ·simp only [Act.put, List.setIfInBounds_toArray, List.set_cons_zero, List.set_cons_succ, zaC, zaD]
     rfl
    refine zaR (i := 18) (N := some 8) (v := ?_) (a' := ?_) #[true, true, true, true, true, true, true, true, true, true, true, true, true, true, true, true, true, true, true] rfl rfl (zaL HT_.out (by kernel_rfl)) (fun _ _ _ h => h) (Or.inl ⟨by rfl, ?_⟩) ?_ ?_
    rotate_left
    ·intro w'
     go_simp
     with_reducible rfl
    rotate_left
    ·simp only [Act.put, List.setIfInBounds_toArray, List.set_cons_zero, List.set_cons_succ, zaC, zaD]
     rfl
    refine zdM (zde HT_.out (by kernel_rfl)) ?_
    try go_wp2
    go_ret
    exact ⟨by first | rfl | (simp [zam, zan] <;> rfl) | (simp [*, zam, zan] <;> rfl), by repeat (first | (with_reducible first | exact HB.out | apply zac | apply zab | apply zad | refine zah ?_ GE160.out) | exact HB.out)⟩
   ·replace c9 := Bool.eq_false_iff.mpr c9
    subst c9
    have H1 : (some false) = some r := by rw [if_neg (show ¬ (false = true) by decide)] at H; exact H
    clear H
    have H := H1
    clear H1
    obtain rfl := Option.some.inj H
    go_enter Tryd.func32, Tryd.ntmps32
    try go_wp2_with (first | ((with_reducible refine zba (N := 4) rfl ?_); (try (refine zbS (by rfl) ?_; dsimp only)); refine za6 ?hg (N := 4) ?hd (cs := #[.int .i64 a0_0, .int .i64 a0_1, .slice A0_2 l0_2.length c0_2]) (t := 62) ?hr ?_; (case hd => rfl); (case hg => rfl); (case hr => first | (go_simp; done) | (go_simp; rfl)); intro gb160 hg w17 hbox hb; have n0_ := zaa.mk (zat (by repeat (first | (with_reducible first | exact HB.out | apply zac | apply zab | apply zad) | exact HB.out)) hb); have n1_ := zaa.mk (hbox); have n2_ := zaa.mk ((by rw [hg]; exact (zas (by repeat (first | (with_reducible first | exact HB.out | apply zac | apply zab | apply zad) | exact HB.out))) : w.heap.size ≤ gb160)); have n3_ := zaa.mk ((by rw [hg]; exact (zas (by repeat (first | (with_reducible first | exact HB.out | apply zac | apply zab | apply zad) | exact HB.out))) : w.heap.size ≤ gb160)); clear HB; have HB := n0_; have BK160 := n1_; have GW160 := n2_; have GE160 := n3_; clear n0_ n1_ n2_ n3_; clear hb hbox hg; have hcz18_0 : w17.cell? ⟨gb160, 0, none⟩ = some (.int .i64 a0_0) := (zaj BK160.out 0).trans rfl; have hcz18_1 : w17.cell? ⟨gb160, 1, none⟩ = some (.int .i64 a0_1) := (zaj BK160.out 1).trans rfl; have hcz18_2 : w17.cell? ⟨gb160, 2, none⟩ = some (.slice A0_2 l0_2.length c0_2) := (zaj BK160.out 2).trans rfl; have hfz18_0 := zak BK160.out 0; have hfz18_1 := zak BK160.out 1; have hfz18_2 := zak BK160.out 2))
    have n0_ := zaa.mk (zai BK160.out)
    have n1_ := zaa.mk (zad HB.out)
    clear BK160
    clear HB
    have BK160 := n0_
    have HB := n1_
    clear n0_ n1_
    refine zdq (n := 19) (S := fun w' => w'.cell? ⟨gb160, 0, none⟩ = some (.int .i64 a0_0) ∧ w'.cell? ⟨gb160, 1, none⟩ = some (.int .i64 a0_1) ∧ w'.cell? ⟨gb160, 2, none⟩ = some (.slice A0_2 l0_2.length c0_2)) (ds := []) #[false, false, false, false, false, false, false, false, false, false, false, false, false, false, false, false, false, false, false] (by kernel_rfl) rfl rfl ⟨(zaj BK160.out 0).trans rfl, (zaj BK160.out 1).trans rfl, (zaj BK160.out 2).trans rfl⟩ (fun hHeld => ?_); refine zcF zay.tab2 zay.ziE (fun HT_ HW_ => ?_)
    generalize w17.drew = w19 at BK160 HB hHeld ⊢
    refine zaR (i := 0) (N := some 12) (v := ?_) (a' := ?_) #[true, false, false, false, false, false, false, false, false, false, false, false, false, false, false, false, false, false, false] rfl rfl (zaL HT_.out (by kernel_rfl)) (fun _ _ _ h => h) (Or.inl ⟨by rfl, ?_⟩) ?_ ?_
    rotate_left
    ·intro w'
     go_simp
     with_reducible rfl
    rotate_left
    ·simp only [Act.put, List.setIfInBounds_toArray, List.set_cons_zero, List.set_cons_succ, zaC, zaD]
     rfl
    refine zbW (i := 1) (N := some 13) (v := ?_) (a' := ?_) #[true, true, false, false, false, false, false, false, false, false, false, false, false, false, false, false, false, false, false] rfl rfl (zbC HT_.out HW_.out (by kernel_rfl)) (fun _ _ _ h => h) (Or.inl ⟨by rfl, ?_⟩) hHeld ?_ ?_
    rotate_left
    ·rintro w' ⟨s0, s1, s2⟩
     go_simp
     with_reducible rfl
    rotate_left
    ·simp only [Act.put, List.setIfInBounds_toArray, List.set_cons_zero, List.set_cons_succ, zaC, zaD]
     rfl
    refine zaR (i := 2) (N := some 14) (v := ?_) (a' := ?_) #[true, true, true, false, false, false, false, false, false, false, false, false, false, false, false, false, false, false, false] rfl rfl (zaL HT_.out (by kernel_rfl)) (fun _ _ _ h => h) (Or.inl ⟨by rfl, ?_⟩) ?_ ?_
    rotate_left
    ·intro w'
     go_simp
     with_reducible rfl
    rotate_left
    ·simp only [Act.put, List.setIfInBounds_toArray, List.set_cons_zero, List.set_cons_succ, zaC, zaD]
     rfl
    refine zaR (i := 3) (N := some 15) (v := ?_) (a' := ?_) #[true, true, true, true, false, false, false, false, false, false, false, false, false, false, false, false, false, false, false] rfl rfl (zaL HT_.out (by kernel_rfl)) (fun _ _ _ h => h) (Or.inl ⟨by rfl, ?_⟩) ?_ ?_
    rotate_left
    ·intro w'
     go_simp
     with_reducible rfl
    rotate_left
    ·simp only [Act.put, List.setIfInBounds_toArray, List.set_cons_zero, List.set_cons_succ, zaC, zaD]
     rfl
    refine zaR (i := 4) (N := some 16) (v := ?_) (a' := ?_) #[true, true, true, true, true, false, false, false, false, false, false, false, false, false, false, false, false, false, false] rfl rfl (zaL HT_.out (by kernel_rfl)) (fun _ _ _ h => h) (Or.inl ⟨by rfl, ?_⟩) ?_ ?_
    rotate_left
    ·intro w'
     go_simp
     with_reducible rfl
    rotate_left
    ·simp only [Act.put, List.setIfInBounds_toArray, List.set_cons_zero, List.set_cons_succ, zaC, zaD]
     rfl
    refine zaR (i := 7) (N := some 19) (v := ?_) (a' := ?_) #[true, true, true, true, true, false, false, true, false, false, false, false, false, false, false, false, false, false, false] rfl rfl (zaL HT_.out (by kernel_rfl)) (fun _ _ _ h => h) (Or.inl ⟨by rfl, ?_⟩) ?_ ?_
    rotate_left
    ·intro w'
     go_simp
     with_reducible rfl
    rotate_left
    ·simp only [Act.put, List.setIfInBounds_toArray, List.set_cons_zero, List.set_cons_succ, zaC, zaD]
     rfl
    refine zbW (i := 5) (N := some 17) (v := ?_) (a' := ?_) #[true, true, true, true, true, true, false, true, false, false, false, false, false, false, false, false, false, false, false] rfl rfl (zbC HT_.out HW_.out (by kernel_rfl)) (fun _ _ _ h => h) (Or.inl ⟨by rfl, ?_⟩) hHeld ?_ ?_
    rotate_left
    ·rintro w' ⟨s0, s1, s2⟩
     go_simp
     with_reducible rfl
    rotate_left
    ·simp only [Act.put, List.setIfInBounds_toArray, List.set_cons_zero, List.set_cons_succ, zaC, zaD]
     rfl
    refine zbW (i := 8) (N := some 20) (v := ?_) (a' := ?_) #[true, true, true, true, true, true, false, true, true, false, false, false, false, false, false, false, false, false, false] rfl rfl (zbC HT_.out HW_.out (by kernel_rfl)) (fun _ _ _ h => h) (Or.inl ⟨by rfl, ?_⟩) hHeld ?_ ?_
    rotate_left
    ·rintro w' ⟨s0, s1, s2⟩
     go_simp
     with_reducible rfl
    rotate_left
    ·simp only [Act.put, List.setIfInBounds_toArray, List.set_cons_zero, List.set_cons_succ, zaC, zaD]
     rfl
    refine one_ (i := 6) (N := some 18) #[true, true, true, true, true, true, true, true, true, false, false, false, false, false, false, false, false, false, false] rfl rfl (zcd HT_.out (by kernel_rfl)) (by decide) (fun K hK => ?_)
    refine ze5 Tryd.func63 (by kernel_rfl) rfl #[.slice A0_2 l0_2.length c0_2] (by rfl) rfl rfl (by (try simp only [List.map_toArray, List.map_cons, List.map_nil]); first | done | rfl | (simp only [List.length_drop, List.length_take]; rfl)) ?_
    with_reducible refine (zaB.calls k _ _ l0_2 t161 _ ?side1 ?side2 A7.out).mono ?_
    (case side1 => repeat (first | exact (Kd.za1 HR0_2.out HB.out) | (with_reducible refine Kd.zaU ?_ _) | (with_reducible refine Kd.zaY ?_ _) | (with_reducible refine Kd.za3 ?_)))
    (case side2 => exact HC0_2.out)
    rintro e w20 ⟨v162, rfl, ho0, hb⟩
    refine ⟨_, rfl, ?_⟩
    have n0_ := zaa.mk (Kd.zcA ho0 (zas (by repeat (first | (with_reducible first | exact HB.out | apply zac | apply zab | apply zad | refine zah ?_ GE160.out) | exact HB.out))))
    have n1_ := zaa.mk (zaM (g := gb160) (o := .cells #[.int .i64 a0_0, .int .i64 a0_1, .slice A0_2 l0_2.length c0_2] 62 (0, 0)) (by (with_reducible repeat (first | refine zaf ?_ _ | refine zai ?_ | refine zae ?_ _)); exact BK160.out) hb)
    have n2_ := zaa.mk (zat (by repeat (first | (with_reducible first | exact HB.out | apply zac | apply zab | apply zad | refine zah ?_ GE160.out) | exact HB.out)) hb)
    clear BK160
    clear HB
    have HO163 := n0_
    have BK160 := n1_
    have HB := n2_
    clear n0_ n1_ n2_
    (try clear hb)
    (try clear hb2)
    (try clear hk)
    (try clear hi)
    (try clear ho0)
    obtain ⟨Ao21, co21, eo21⟩ := Kd.zbO HO163.out
    (first | subst eo21 | (injection eo21 with f1_ f2_ f3_; have f4_ := f1_.symm; have f5_ := f3_.symm; clear f1_ f2_ f3_; subst f4_; subst f5_))
    refine hK.out _ _ ⟨(zaj BK160.out 0).trans rfl, (zaj BK160.out 1).trans rfl, (zaj BK160.out 2).trans rfl⟩ (fun hHeld => ?_)
    clear hK K
    refine zcY (a' := ?_) ?_ ?_
    rotate_left
    ·show Act.put _ (some 18) _ = _
     simp only [Act.put, List.setIfInBounds_toArray, List.set_cons_zero, List.set_cons_succ, zaC, zaD]
     rfl
    refine one_ (i := 9) (N := some 21) #[true, true, true, true, true, true, true, true, true, true, false, false, false, false, false, false, false, false, false] rfl rfl (zcd HT_.out (by kernel_rfl)) (by decide) (fun K hK => ?_)
    refine ze5 Tryd.func16 (by kernel_rfl) rfl #[.slice Ao21 t161.length co21, .slice A0_2 l0_2.length c0_2] (by rfl) rfl rfl (by (try simp only [List.map_toArray, List.map_cons, List.map_nil]); first | done | rfl | (simp only [List.length_drop, List.length_take]; rfl)) ?_
    with_reducible refine (zaJ.calls k _ _ t161 _ _ l0_2 false _ ?side1 ?side2 ?side3 ?side4 A8.out).mono ?_
    (case side1 => repeat (first | exact (Kd.zbD HO163.out).2.2 | (with_reducible refine Kd.zaU ?_ _) | (with_reducible refine Kd.zaY ?_ _) | (with_reducible refine Kd.za3 ?_)))
    (case side2 => exact (Kd.zbD HO163.out).2.1)
    (case side3 => repeat (first | exact (Kd.za1 HR0_2.out HB.out) | (with_reducible refine Kd.zaU ?_ _) | (with_reducible refine Kd.zaY ?_ _) | (with_reducible refine Kd.za3 ?_)))
    (case side4 => exact HC0_2.out)
    rintro e w' ⟨rfl, ⟨nd, rfl⟩⟩
    refine ⟨_, rfl, ?_⟩
    refine hK.out _ _ ⟨(zaj BK160.out 0).trans rfl, (zaj BK160.out 1).trans rfl, (zaj BK160.out 2).trans rfl⟩ (fun hHeld => ?_)
    clear hK K
    refine zcY (a' := ?_) ?_ ?_
    rotate_left
    ·show Act.put _ (some 21) _ = _
     simp only [Act.put, List.setIfInBounds_toArray, List.set_cons_zero, List.set_cons_succ, zaC, zaD]
     rfl
    refine zaR (i := 10) (N := some 22) (v := ?_) (a' := ?_) #[true, true, true, true, true, true, true, true, true, true, true, false, false, false, false, false, false, false, false] rfl rfl (zaL HT_.out (by kernel_rfl)) (fun _ _ _ h => h) (Or.inl ⟨by rfl, ?_⟩) ?_ ?_
    rotate_left
    ·intro w'
     go_simp
     with_reducible rfl
    rotate_left
    ·simp only [Act.put, List.setIfInBounds_toArray, List.set_cons_zero, List.set_cons_succ, zaC, zaD]
     rfl
    refine zaR (i := 11) (N := some 23) (v := ?_) (a' := ?_) #[true, true, true, true, true, true, true, true, true, true, true, true, false, false, false, false, false, false, false] rfl rfl (zaL HT_.out (by kernel_rfl)) (fun _ _ _ h => h) (Or.inl ⟨by rfl, ?_⟩) ?_ ?_
    rotate_left
    ·intro w'
     go_simp
     with_reducible rfl
    rotate_left
    ·simp only [Act.put, List.setIfInBounds_toArray, List.set_cons_zero, List.set_cons_succ, zaC, zaD]
     rfl
    refine zaR (i := 12) (N := some 24) (v := undef) (a' := ?_) #[true, true, true, true, true, true, true, true, true, true, true, true, true, false, false, false, false, false, false] rfl rfl (zaL HT_.out (by kernel_rfl)) (fun _ _ _ h => h) (Or.inr ⟨by rfl, rfl⟩) ?_ ?_
    rotate_left
    ·simp only [Act.put, List.setIfInBounds_toArray, List.set_cons_zero, List.set_cons_succ, zaC, zaD]
     rfl
    refine zaR (i := 13) (N := some 25) (v := undef) (a' := ?_) #[true, true, true, true, true, true, true, true, true, true, true, true, true, true, false, false, false, false, false] rfl rfl (zaL HT_.out (by kernel_rfl)) (fun _ _ _ h => h) (Or.inr ⟨by rfl, rfl⟩) ?_ ?_
    rotate_left
    ·simp only [Act.put, List.setIfInBounds_toArray, List.set_cons_zero, List.set_cons_succ, zaC, zaD]
     rfl
    refine zaR (i := 14) (N := some 26) (v := undef) (a' := ?_) #[true, true, true, true, true, true, true, true, true, true, true, true, true, true, true, false, false, false, false] rfl rfl (zaL HT_.out (by kernel_rfl)) (fun _ _ _ h => h) (Or.inr ⟨by rfl, rfl⟩) ?_ ?_
    rotate_left
    ·simp only [Act.put, List.setIfInBounds_toArray, List.set_cons_zero, List.set_cons_succ, zaC, zaD]
     rfl
    refine zaR (i := 15) (N := some 27) (v := undef) (a' := ?_) #[true, true, true, true, true, true, true, true, true, true, true, true, true, true, true, true, false, false, false] rfl rfl (zaL HT_.out (by kernel_rfl)) (fun _ _ _ h => h) (Or.inr ⟨by rfl, rfl⟩) ?_ ?_
    rotate_left
    ·simp only [Act.put, List.setIfInBounds_toArray, List.set_cons_zero, List.set_cons_succ, zaC, zaD]
     rfl
    refine zaR (i := 16) (N := some 28) (v := undef) (a' := ?_) #[true, true, true, true, true, true, true, true, true, true, true, true, true, true, true, true, true, false, false] rfl rfl (zaL HT_.out (by kernel_rfl)) (fun _ _ _ h => h) (Or.inr ⟨by rfl, rfl⟩) ?_ ?_
    rotate_left
    ·simp only [Act.put, List.setIfInBounds_toArray, List.set_cons_zero, List.set_cons_succ, zaC, zaD]
     rfl
    refine zaR (i := 17) (N := some 29) (v := ?_) (a' := ?_) #[true, true, true, true, true, true, true, true, true, true, true, true, true, true, true, true, true, true, false] rfl rfl (zaL HT_.out (by kernel_rfl)) (fun _ _ _ h => h) (Or.inl ⟨by rfl, ?_⟩) ?_ ?_
    rotate_left
    ·intro w'
     go_simp
     with_reducible rfl
    rotate_left
    ·simp only [Act.put, List.setIfInBounds_toArray, List.set_cons_zero, List.set_cons_succ, zaC, zaD]
     rfl
    refine zaR (i := 18) (N := some 8) (v := ?_) (a' := ?_) #[true, true, true, true, true, true, true, true, true, true, true, true, true, true, true, true, true, true, true] rfl rfl (zaL HT_.out (by kernel_rfl)) (fun _ _ _ h => h) (Or.inl ⟨by rfl, ?_⟩) ?_ ?_
    rotate_left
    ·intro w'
     go_simp
     with_reducible rfl
    rotate_left
    ·simp only [Act.put, List.setIfInBounds_toArray, List.set_cons_zero, List.set_cons_succ, zaC, zaD]
     rfl
    refine zdM (zde HT_.out (by kernel_rfl)) ?_
    try go_wp2
    go_ret
    exact ⟨by first | rfl | (simp [zam, zan] <;> rfl) | (simp [*, zam, zan] <;> rfl), by repeat (first | (with_reducible first | exact HB.out | apply zac | apply zab | apply zad | refine zah ?_ GE160.out) | exact HB.out)⟩
  ·rw [if_neg c6] at H
   have c6b0 : (a0_1 == 0) = false := beq_eq_false_iff_ne.mpr c6
   have c6b1 : (a0_1 != 0) = true := bne_iff_ne.mpr c6
   obtain rfl := Option.some.inj H
   go_enter Tryd.func32, Tryd.ntmps32
   try go_wp2_with (first | ((with_reducible refine zba (N := 4) rfl ?_); (try (refine zbS (by rfl) ?_; dsimp only)); refine za6 ?hg (N := 4) ?hd (cs := #[.int .i64 a0_0, .int .i64 a0_1, .slice A0_2 l0_2.length c0_2]) (t := 62) ?hr ?_; (case hd => rfl); (case hg => rfl); (case hr => first | (go_simp; done) | (go_simp; rfl)); intro gb160 hg w22 hbox hb; have n0_ := zaa.mk (zat (by repeat (first | (with_reducible first | exact HB.out | apply zac | apply zab | apply zad) | exact HB.out)) hb); have n1_ := zaa.mk (hbox); have n2_ := zaa.mk ((by rw [hg]; exact (zas (by repeat (first | (with_reducible first | exact HB.out | apply zac | apply zab | apply zad) | exact HB.out))) : w.heap.size ≤ gb160)); have n3_ := zaa.mk ((by rw [hg]; exact (zas (by repeat (first | (with_reducible first | exact HB.out | apply zac | apply zab | apply zad) | exact HB.out))) : w.heap.size ≤ gb160)); clear HB; have HB := n0_; have BK160 := n1_; have GW160 := n2_; have GE160 := n3_; clear n0_ n1_ n2_ n3_; clear hb hbox hg; have hcz23_0 : w22.cell? ⟨gb160, 0, none⟩ = some (.int .i64 a0_0) := (zaj BK160.out 0).trans rfl; have hcz23_1 : w22.cell? ⟨gb160, 1, none⟩ = some (.int .i64 a0_1) := (zaj BK160.out 1).trans rfl; have hcz23_2 : w22.cell? ⟨gb160, 2, none⟩ = some (.slice A0_2 l0_2.length c0_2) := (zaj BK160.out 2).trans rfl; have hfz23_0 := zak BK160.out 0; have hfz23_1 := zak BK160.out 1; have hfz23_2 := zak BK160.out 2))
   have n0_ := zaa.mk (zai BK160.out)
   have n1_ := zaa.mk (zad HB.out)
   clear BK160
   clear HB
   have BK160 := n0_
   have HB := n1_
   clear n0_ n1_
   refine zdq (n := 19) (S := fun w' => w'.cell? ⟨gb160, 0, none⟩ = some (.int .i64 a0_0) ∧ w'.cell? ⟨gb160, 1, none⟩ = some (.int .i64 a0_1) ∧ w'.cell? ⟨gb160, 2, none⟩ = some (.slice A0_2 l0_2.length c0_2)) (ds := []) #[false, false, false, false, false, false, false, false, false, false, false, false, false, false, false, false, false, false, false] (by kernel_rfl) rfl rfl ⟨(zaj BK160.out 0).trans rfl, (zaj BK160.out 1).trans rfl, (zaj BK160.out 2).trans rfl⟩ (fun hHeld => ?_); refine zcF zay.tab2 zay.ziE (fun HT_ HW_ => ?_)
   generalize w22.drew = w24 at BK160 HB hHeld ⊢
   refine zaR (i := 0) (N := some 12) (v := ?_) (a' := ?_) #[true, false, false, false, false, false, false, false, false, false, false, false, false, false, false, false, false, false, false] rfl rfl (zaL HT_.out (by kernel_rfl)) (fun _ _ _ h => h) (Or.inl ⟨by rfl, ?_⟩) ?_ ?_
   rotate_left
   ·intro w'
    go_simp
    with_reducible rfl
   rotate_left
   ·simp only [Act.put, List.setIfInBounds_toArray, List.set_cons_zero, List.set_cons_succ, zaC, zaD]
    rfl
   refine zbW (i := 1) (N := some 13) (v := ?_) (a' := ?_) #[true, true, false, false, false, false, false, false, false, false, false, false, false, false, false, false, false, false, false] rfl rfl (zbC HT_.out HW_.out (by kernel_rfl)) (fun _ _ _ h => h) (Or.inl ⟨by rfl, ?_⟩) hHeld ?_ ?_
   rotate_left
   ·rintro w' ⟨s0, s1, s2⟩
    go_simp
    with_reducible rfl
   rotate_left
   ·simp only [Act.put, List.setIfInBounds_toArray, List.set_cons_zero, List.set_cons_succ, zaC, zaD]
    rfl
   refine zaR (i := 2) (N := some 14) (v := ?_) (a' := ?_) #[true, true, true, false, false, false, false, false, false, false, false, false, false, false, false, false, false, false, false] rfl rfl (zaL HT_.out (by kernel_rfl)) (fun _ _ _ h => h) (Or.inl ⟨by rfl, ?_⟩) ?_ ?_
   rotate_left
   ·intro w'
    go_simp
    with_reducible rfl
   rotate_left
   ·simp only [Act.put, List.setIfInBounds_toArray, List.set_cons_zero, List.set_cons_succ, zaC, zaD]
    rfl
   refine zaR (i := 3) (N := some 15) (v := ?_) (a' := ?_) #[true, true, true, true, false, false, false, false, false, false, false, false, false, false, false, false, false, false, false] rfl rfl (zaL HT_.out (by kernel_rfl)) (fun _ _ _ h => h) (Or.inl ⟨by rfl, ?_⟩) ?_ ?_
   rotate_left
   ·intro w'
    go_simp
    with_reducible rfl
   rotate_left
   ·simp only [Act.put, List.setIfInBounds_toArray, List.set_cons_zero, List.set_cons_succ, zaC, zaD]
    rfl
   refine zaR (i := 4) (N := some 16) (v := undef) (a' := ?_) #[true, true, true, true, true, false, false, false, false, false, false, false, false, false, false, false, false, false, false] rfl rfl (zaL HT_.out (by kernel_rfl)) (fun _ _ _ h => h) (Or.inr ⟨by rfl, rfl⟩) ?_ ?_
   rotate_left
   ·simp only [Act.put, List.setIfInBounds_toArray, List.set_cons_zero, List.set_cons_succ, zaC, zaD]
    rfl
   refine zaR (i := 5) (N := some 17) (v := undef) (a' := ?_) #[true, true, true, true, true, true, false, false, false, false, false, false, false, false, false, false, false, false, false] rfl rfl (zaL HT_.out (by kernel_rfl)) (fun _ _ _ h => h) (Or.inr ⟨by rfl, rfl⟩) ?_ ?_
   rotate_left
   ·simp only [Act.put, List.setIfInBounds_toArray, List.set_cons_zero, List.set_cons_succ, zaC, zaD]
    rfl
   refine zaR (i := 6) (N := some 18) (v := undef) (a' := ?_) #[true, true, true, true, true, true, true, false, false, false, false, false, false, false, false, false, false, false, false] rfl rfl (zaL HT_.out (by kernel_rfl)) (fun _ _ _ h => h) (Or.inr ⟨by rfl, rfl⟩) ?_ ?_
   rotate_left
   ·simp only [Act.put, List.setIfInBounds_toArray, List.set_cons_zero, List.set_cons_succ, zaC, zaD]
    rfl
   refine zaR (i := 7) (N := some 19) (v := undef) (a' := ?_) #[true, true, true, true, true, true, true, true, false, false, false, false, false, false, false, false, false, false, false] rfl rfl (zaL HT_.out (by kernel_rfl)) (fun _ _ _ h => h) (Or.inr ⟨by rfl, rfl⟩) ?_ ?_
   rotate_left
   ·simp only [Act.put, List.setIfInBounds_toArray, List.set_cons_zero, List.set_cons_succ, zaC, zaD]
    rfl
   refine zaR (i := 8) (N := some 20) (v := undef) (a' := ?_) #[true, true, true, true, true, true, true, true, true, false, false, false, false, false, false, false, false, false, false] rfl rfl (zaL HT_.out (by kernel_rfl)) (fun _ _ _ h => h) (Or.inr ⟨by rfl, rfl⟩) ?_ ?_
   rotate_left
   ·simp only [Act.put, List.setIfInBounds_toArray, List.set_cons_zero, List.set_cons_succ, zaC, zaD]
    rfl
   refine zaR (i := 9) (N := some 21) (v := undef) (a' := ?_) #[true, true, true, true, true, true, true, true, true, true, false, false, false, false, false, false, false, false, false] rfl rfl (zaL HT_.out (by kernel_rfl)) (fun _ _ _ h => h) (Or.inr ⟨by rfl, rfl⟩) ?_ ?_
   rotate_left
   ·simp only [Act.put, List.setIfInBounds_toArray, List.set_cons_zero, List.set_cons_succ, zaC, zaD]
    rfl
   refine zaR (i := 10) (N := some 22) (v := ?_) (a' := ?_) #[true, true, true, true, true, true, true, true, true, true, true, false, false, false, false, false, false, false, false] rfl rfl (zaL HT_.out (by kernel_rfl)) (fun _ _ _ h => h) (Or.inl ⟨by rfl, ?_⟩) ?_ ?_
   rotate_left
   ·intro w'
    go_simp
    with_reducible rfl
   rotate_left
   ·simp only [Act.put, List.setIfInBounds_toArray, List.set_cons_zero, List.set_cons_succ, zaC, zaD]
    rfl
   refine zaR (i := 11) (N := some 23) (v := ?_) (a' := ?_) #[true, true, true, true, true, true, true, true, true, true, true, true, false, false, false, false, false, false, false] rfl rfl (zaL HT_.out (by kernel_rfl)) (fun _ _ _ h => h) (Or.inl ⟨by rfl, ?_⟩) ?_ ?_
   rotate_left
   ·intro w'
    go_simp
    with_reducible rfl
   rotate_left
   ·simp only [Act.put, List.setIfInBounds_toArray, List.set_cons_zero, List.set_cons_succ, zaC, zaD]
    rfl
   refine zaR (i := 12) (N := some 24) (v := undef) (a' := ?_) #[true, true, true, true, true, true, true, true, true, true, true, true, true, false, false, false, false, false, false] rfl rfl (zaL HT_.out (by kernel_rfl)) (fun _ _ _ h => h) (Or.inr ⟨by rfl, rfl⟩) ?_ ?_
   rotate_left
   ·simp only [Act.put, List.setIfInBounds_toArray, List.set_cons_zero, List.set_cons_succ, zaC, zaD]
    rfl
   refine zaR (i := 13) (N := some 25) (v := undef) (a' := ?_) #[true, true, true, true, true, true, true, true, true, true, true, true, true, true, false, false, false, false, false] rfl rfl (zaL HT_.out (by kernel_rfl)) (fun _ _ _ h => h) (Or.inr ⟨by rfl, rfl⟩) ?_ ?_
   rotate_left
   ·simp only [Act.put, List.setIfInBounds_toArray, List.set_cons_zero, List.set_cons_succ, zaC, zaD]
    rfl
   refine zaR (i := 14) (N := some 26) (v := undef) (a' := ?_) #[true, true, true, true, true, true, true, true, true, true, true, true, true, true, true, false, false, false, false] rfl rfl (zaL HT_.out (by kernel_rfl)) (fun _ _ _ h => h) (Or.inr ⟨by rfl, rfl⟩) ?_ ?_
   rotate_left
   ·simp only [Act.put, List.setIfInBounds_toArray, List.set_cons_zero, List.set_cons_succ, zaC, zaD]
    rfl
   refine zaR (i := 15) (N := some 27) (v := undef) (a' := ?_) #[true, true, true, true, true, true, true, true, true, true, true, true, true, true, true, true, false, false, false] rfl rfl (zaL HT_.out (by kernel_rfl)) (fun _ _ _ h => h) (Or.inr ⟨by rfl, rfl⟩) ?_ ?_
   rotate_left
   ·simp only [Act.put, List.setIfInBounds_toArray, List.set_cons_zero, List.set_cons_succ, zaC, zaD]
    rfl
   refine zaR (i := 16) (N := some 28) (v := undef) (a' := ?_) #[true, true, true, true, true, true, true, true, true, true, true, true, true, true, true, true, true, false, false] rfl rfl (zaL HT_.out (by kernel_rfl)) (fun _ _ _ h => h) (Or.inr ⟨by rfl, rfl⟩) ?_ ?_
   rotate_left
   ·simp only [Act.put, List.setIfInBounds_toArray, List.set_cons_zero, List.set_cons_succ, zaC, zaD]
    rfl
   refine zaR (i := 17) (N := some 29) (v := ?_) (a' := ?_) #[true, true, true, true, true, true, true, true, true, true, true, true, true, true, true, true, true, true, false] rfl rfl (zaL HT_.out (by kernel_rfl)) (fun _ _ _ h => h) (Or.inl ⟨by rfl, ?_⟩) ?_ ?_
   rotate_left
   ·intro w'
    go_simp
    with_reducible rfl
   rotate_left
   ·simp only [Act.put, List.setIfInBounds_toArray, List.set_cons_zero, List.set_cons_succ, zaC, zaD]
    rfl
   refine zaR (i := 18) (N := some 8) (v := ?_) (a' := ?_) #[true, true, true, true, true, true, true, true, true, true, true, true, true, true, true, true, true, true, true] rfl rfl (zaL HT_.out (by kernel_rfl)) (fun _ _ _ h => h) (Or.inl ⟨by rfl, ?_⟩) ?_ ?_
   rotate_left
   ·intro w'
    go_simp
    with_reducible rfl
   rotate_left
   ·simp only [Act.put, List.setIfInBounds_toArray, List.set_cons_zero, List.set_cons_succ, zaC, zaD]
    rfl
   refine zdM (zde HT_.out (by kernel_rfl)) ?_
   try go_wp2
   go_ret
   exact ⟨by first | rfl | (simp [zam, zan] <;> rfl) | (simp [*, zam, zan] <;> rfl), by repeat (first | (with_reducible first | exact HB.out | apply zac | apply zab | apply zad | refine zah ?_ GE160.out) | exact HB.out)⟩
 ·rw [if_neg c5] at H
  have c5b0 : (a0_0 == 1) = false := beq_eq_false_iff_ne.mpr c5
  have c5b1 : (a0_0 != 1) = true := bne_iff_ne.mpr c5
  have HC25 := zaa.mk H
  clear H
  go_enter Tryd.func32, Tryd.ntmps32
  go_upto_region 3 with (first | ((with_reducible refine zba (N := 4) rfl ?_); (try (refine zbS (by rfl) ?_; dsimp only)); refine za6 ?hg (N := 4) ?hd (cs := #[.int .i64 a0_0, .int .i64 a0_1, .slice A0_2 l0_2.length c0_2]) (t := 62) ?hr ?_; (case hd => rfl); (case hg => rfl); (case hr => first | (go_simp; done) | (go_simp; rfl)); intro gb160 hg w26 hbox hb; have n0_ := zaa.mk (zat (by repeat (first | (with_reducible first | exact HB.out | apply zac | apply zab | apply zad) | exact HB.out)) hb); have n1_ := zaa.mk (hbox); have n2_ := zaa.mk ((by rw [hg]; exact (zas (by repeat (first | (with_reducible first | exact HB.out | apply zac | apply zab | apply zad) | exact HB.out))) : w.heap.size ≤ gb160)); have n3_ := zaa.mk ((by rw [hg]; exact (zas (by repeat (first | (with_reducible first | exact HB.out | apply zac | apply zab | apply zad) | exact HB.out))) : w.heap.size ≤ gb160)); clear HB; have HB := n0_; have BK160 := n1_; have GW160 := n2_; have GE160 := n3_; clear n0_ n1_ n2_ n3_; clear hb hbox hg; have hcz27_0 : w26.cell? ⟨gb160, 0, none⟩ = some (.int .i64 a0_0) := (zaj BK160.out 0).trans rfl; have hcz27_1 : w26.cell? ⟨gb160, 1, none⟩ = some (.int .i64 a0_1) := (zaj BK160.out 1).trans rfl; have hcz27_2 : w26.cell? ⟨gb160, 2, none⟩ = some (.slice A0_2 l0_2.length c0_2) := (zaj BK160.out 2).trans rfl; have hfz27_0 := zak BK160.out 0; have hfz27_1 := zak BK160.out 1; have hfz27_2 := zak BK160.out 2))
  (try simp only [Act.put, List.setIfInBounds_toArray, List.set_cons_zero, List.set_cons_succ])
  go_cut [43] (fun v43 wc => ∃ (kq : Nat) (x43_24 : Bool), v43 = .bool x43_24 ∧ zaa (zay.j0 kq a1 a2 a3 x43_24 a0_0 a0_1 l0_2 = some r) ∧ zaa (kq ≤ k) ∧ zaa (wc.heap[gb160]? = some (.cells #[.int .i64 a0_0, .int .i64 a0_1, (.slice A0_2 l0_2.length c0_2)] 62 (0, 0))) ∧ zaa (Below w.heap.size w wc))
  case first =>
   have H := HC25.out
   clear HC25
   by_cases c28 : (l0_2.length : Int) > 0
   ·rw [if_pos c28] at H
    have c28b0 : decide (0 < (l0_2.length : Int)) = true := decide_eq_true c28
    have c28b1 : decide (0 < l0_2.length) = true := decide_eq_true (by omega)
    clear c28
    (first | rw [c28b0] | (simp only [zaC, zaD]; rw [c28b0]) | skip)
    have H' := zaa.mk H
    clear H
    have hcz29_0 : w26.cell? ⟨gb160, 0, none⟩ = some (.int .i64 a0_0) := (zaj BK160.out 0).trans rfl
    have hcz29_1 : w26.cell? ⟨gb160, 1, none⟩ = some (.int .i64 a0_1) := (zaj BK160.out 1).trans rfl
    have hcz29_2 : w26.cell? ⟨gb160, 2, none⟩ = some (.slice A0_2 l0_2.length c0_2) := (zaj BK160.out 2).trans rfl
    have hfz29_0 := zak BK160.out 0
    have hfz29_1 := zak BK160.out 1
    have hfz29_2 := zak BK160.out 2
    go_wp2
    go_meet
    case rel => exact ⟨_, (true), (by first | rfl | (simp; done) | (simp [*]; done)), H', ⟨by first | omega | exact Nat.le_refl _⟩, ⟨by (with_reducible repeat (first | refine zaf ?_ _ | refine zai ?_ | refine zae ?_ _)); exact BK160.out⟩, ⟨by repeat (first | (with_reducible first | exact HB.out | apply zac | apply zab | apply zad | refine zah ?_ GE160.out) | exact HB.out)⟩⟩
   ·rw [if_neg c28] at H
    have c28b0 : decide (0 < (l0_2.length : Int)) = false := decide_eq_false c28
    have c28b1 : decide (0 < l0_2.length) = false := decide_eq_false (by omega)
    clear c28
    (first | rw [c28b0] | (simp only [zaC, zaD]; rw [c28b0]) | skip)
    by_cases c30 : a0_0 < 1
    ·rw [if_pos c30] at H
     have c30b0 : decide (a0_0 < 1) = true := decide_eq_true c30
     clear c30
     have H' := zaa.mk H
     clear H
     have hcz31_0 : w26.cell? ⟨gb160, 0, none⟩ = some (.int .i64 a0_0) := (zaj BK160.out 0).trans rfl
     have hcz31_1 : w26.cell? ⟨gb160, 1, none⟩ = some (.int .i64 a0_1) := (zaj BK160.out 1).trans rfl
     have hcz31_2 : w26.cell? ⟨gb160, 2, none⟩ = some (.slice A0_2 l0_2.length c0_2) := (zaj BK160.out 2).trans rfl
     have hfz31_0 := zak BK160.out 0
     have hfz31_1 := zak BK160.out 1
     have hfz31_2 := zak BK160.out 2
     go_wp2
     go_meet
     case rel => exact ⟨_, (true), (by first | rfl | (simp; done) | (simp [*]; done)), H', ⟨by first | omega | exact Nat.le_refl _⟩, ⟨by (with_reducible repeat (first | refine zaf ?_ _ | refine zai ?_ | refine zae ?_ _)); exact BK160.out⟩, ⟨by repeat (first | (with_reducible first | exact HB.out | apply zac | apply zab | apply zad | refine zah ?_ GE160.out) | exact HB.out)⟩⟩
    ·rw [if_neg c30] at H
     have c30b0 : decide (a0_0 < 1) = false := decide_eq_false c30
     clear c30
     have H' := zaa.mk H
     clear H
     have hcz32_0 : w26.cell? ⟨gb160, 0, none⟩ = some (.int .i64 a0_0) := (zaj BK160.out 0).trans rfl
     have hcz32_1 : w26.cell? ⟨gb160, 1, none⟩ = some (.int .i64 a0_1) := (zaj BK160.out 1).trans rfl
     have hcz32_2 : w26.cell? ⟨gb160, 2, none⟩ = some (.slice A0_2 l0_2.length c0_2) := (zaj BK160.out 2).trans rfl
     have hfz32_0 := zak BK160.out 0
     have hfz32_1 := zak BK160.out 1
     have hfz32_2 := zak BK160.out 2
     go_wp2
     go_meet
     case rel => exact ⟨_, (decide (a0_0 > 11)), (by first | rfl | (simp; done) | (simp [*]; done)), H', ⟨by first | omega | exact Nat.le_refl _⟩, ⟨by (with_reducible repeat (first | refine zaf ?_ _ | refine zai ?_ | refine zae ?_ _)); exact BK160.out⟩, ⟨by repeat (first | (with_reducible first | exact HB.out | apply zac | apply zab | apply zad | refine zah ?_ GE160.out) | exact HB.out)⟩⟩
  case rest =>
   clear HC25
   try clear c1
   try clear c2
   try clear p2
   try clear c3
   try clear c5
   try clear c5b0
   try clear c5b1
   try clear c6
   try clear c6b0
   try clear c6b1
   try clear c9
   try clear c16
   try clear c18
   try clear c28
   try clear c28b0
   try clear c28b1
   try clear c30
   try clear c30b0
   try clear c32
   try clear hcz12_0
   try clear hcz12_1
   try clear hcz12_2
   try clear hcz18_0
   try clear hcz18_1
   try clear hcz18_2
   try clear hcz23_0
   try clear hcz23_1
   try clear hcz23_2
   try clear hcz27_0
   try clear hcz27_1
   try clear hcz27_2
   try clear hcz29_0
   try clear hcz29_1
   try clear hcz29_2
   try clear hcz31_0
   try clear hcz31_1
   try clear hcz31_2
   try clear hcz32_0
   try clear hcz32_1
   try clear hcz32_2
   try clear hfz12_0
   try clear hfz12_1
   try clear hfz12_2
   try clear hfz18_0
   try clear hfz18_1
   try clear hfz18_2
   try clear hfz23_0
   try clear hfz23_1
   try clear hfz23_2
   try clear hfz27_0
   try clear hfz27_1
   try clear hfz27_2
   try clear hfz29_0
   try clear hfz29_1
   try clear hfz29_2
   try clear hfz31_0
   try clear hfz31_1
   try clear hfz31_2
   try clear hfz32_0
   try clear hfz32_1
   try clear hfz32_2
   obtain ⟨kq, x43_24, rfl, HA, HJ24, BK160, HB⟩ := hcut
   cases kq with
   | zero => exact absurd HA.out (by simp [zay.j0])
   | succ kj24 =>
    have H := HA.out
    clear HA
    simp only [zay.j0] at H
    by_cases c33 : x43_24 = true
    ·subst c33
     have H1 : (some false) = some r := by rw [if_pos rfl] at H; exact H
     clear H
     have H := H1
     clear H1
     obtain rfl := Option.some.inj H
     go_wp2
     go_ret
     exact ⟨by first | rfl | (simp [zam, zan] <;> rfl) | (simp [*, zam, zan] <;> rfl), by repeat (first | (with_reducible first | exact HB.out | apply zac | apply zab | apply zad | refine zah ?_ GE160.out) | exact HB.out)⟩
    ·replace c33 := Bool.eq_false_iff.mpr c33
     subst c33
     have H1 : (if a0_0 = 3 then (if a0_1 ≥ 0 then (some (decide (a0_1 < a1))) else (some false)) else (if a0_0 = 4 then (if a0_1 ≥ 0 then (some (decide (a0_1 < a2))) else (some false)) else (if a0_0 = 5 then (if a0_1 ≥ 0 then (some (decide (a0_1 < a3))) else (some false)) else (if a0_0 = 11 then (if a0_1 ≥ (-8) then (some (decide (a0_1 ≤ 8))) else (some false)) else (some (a0_1 == 0)))))) = some r := by rw [if_neg (show ¬ (false = true) by decide)] at H; exact H
     clear H
     have H := H1
     clear H1
     by_cases c34 : a0_0 = 3
     ·rw [if_pos c34] at H
      have c34b0 : (a0_0 == 3) = true := beq_iff_eq.mpr c34
      have c34b1 : (a0_0 != 3) = false := bne_eq_false_iff_eq.mpr c34
      clear c34
      by_cases c35 : a0_1 ≥ 0
      ·rw [if_pos c35] at H
       have c35b0 : decide (0 ≤ a0_1) = true := decide_eq_true c35
       clear c35
       obtain rfl := Option.some.inj H
       have hcz36_0 : wc.cell? ⟨gb160, 0, none⟩ = some (.int .i64 a0_0) := (zaj BK160.out 0).trans rfl
       have hcz36_1 : wc.cell? ⟨gb160, 1, none⟩ = some (.int .i64 a0_1) := (zaj BK160.out 1).trans rfl
       have hcz36_2 : wc.cell? ⟨gb160, 2, none⟩ = some (.slice A0_2 l0_2.length c0_2) := (zaj BK160.out 2).trans rfl
       have hfz36_0 := zak BK160.out 0
       have hfz36_1 := zak BK160.out 1
       have hfz36_2 := zak BK160.out 2
       go_wp2
       go_ret
       exact ⟨by first | rfl | (simp [zam, zan] <;> rfl) | (simp [*, zam, zan] <;> rfl), by repeat (first | (with_reducible first | exact HB.out | apply zac | apply zab | apply zad | refine zah ?_ GE160.out) | exact HB.out)⟩
      ·rw [if_neg c35] at H
       have c35b0 : decide (0 ≤ a0_1) = false := decide_eq_false c35
       clear c35
       obtain rfl := Option.some.inj H
       have hcz37_0 : wc.cell? ⟨gb160, 0, none⟩ = some (.int .i64 a0_0) := (zaj BK160.out 0).trans rfl
       have hcz37_1 : wc.cell? ⟨gb160, 1, none⟩ = some (.int .i64 a0_1) := (zaj BK160.out 1).trans rfl
       have hcz37_2 : wc.cell? ⟨gb160, 2, none⟩ = some (.slice A0_2 l0_2.length c0_2) := (zaj BK160.out 2).trans rfl
       have hfz37_0 := zak BK160.out 0
       have hfz37_1 := zak BK160.out 1
       have hfz37_2 := zak BK160.out 2
       go_wp2
       go_ret
       exact ⟨by first | rfl | (simp [zam, zan] <;> rfl) | (simp [*, zam, zan] <;> rfl), by repeat (first | (with_reducible first | exact HB.out | apply zac | apply zab | apply zad | refine zah ?_ GE160.out) | exact HB.out)⟩
     ·rw [if_neg c34] at H
      have c34b0 : (a0_0 == 3) = false := beq_eq_false_iff_ne.mpr c34
      have c34b1 : (a0_0 != 3) = true := bne_iff_ne.mpr c34
      by_cases c38 : a0_0 = 4
      ·rw [if_pos c38] at H
       have c38b0 : (a0_0 == 4) = true := beq_iff_eq.mpr c38
       have c38b1 : (a0_0 != 4) = false := bne_eq_false_iff_eq.mpr c38
       clear c38
       by_cases c39 : a0_1 ≥ 0
       ·rw [if_pos c39] at H
        have c39b0 : decide (0 ≤ a0_1) = true := decide_eq_true c39
        clear c39
        obtain rfl := Option.some.inj H
        have hcz40_0 : wc.cell? ⟨gb160, 0, none⟩ = some (.int .i64 a0_0) := (zaj BK160.out 0).trans rfl
        have hcz40_1 : wc.cell? ⟨gb160, 1, none⟩ = some (.int .i64 a0_1) := (zaj BK160.out 1).trans rfl
        have hcz40_2 : wc.cell? ⟨gb160, 2, none⟩ = some (.slice A0_2 l0_2.length c0_2) := (zaj BK160.out 2).trans rfl
        have hfz40_0 := zak BK160.out 0
        have hfz40_1 := zak BK160.out 1
        have hfz40_2 := zak BK160.out 2
        go_wp2
        go_ret
        exact ⟨by first | rfl | (simp [zam, zan] <;> rfl) | (simp [*, zam, zan] <;> rfl), by repeat (first | (with_reducible first | exact HB.out | apply zac | apply zab | apply zad | refine zah ?_ GE160.out) | exact HB.out)⟩
       ·rw [if_neg c39] at H
        have c39b0 : decide (0 ≤ a0_1) = false := decide_eq_false c39
        clear c39
        obtain rfl := Option.some.inj H
        have hcz41_0 : wc.cell? ⟨gb160, 0, none⟩ = some (.int .i64 a0_0) := (zaj BK160.out 0).trans rfl
        have hcz41_1 : wc.cell? ⟨gb160, 1, none⟩ = some (.int .i64 a0_1) := (zaj BK160.out 1).trans rfl
        have hcz41_2 : wc.cell? ⟨gb160, 2, none⟩ = some (.slice A0_2 l0_2.length c0_2) := (zaj BK160.out 2).trans rfl
        have hfz41_0 := zak BK160.out 0
        have hfz41_1 := zak BK160.out 1
        have hfz41_2 := zak BK160.out 2
        go_wp2
        go_ret
        exact ⟨by first | rfl | (simp [zam, zan] <;> rfl) | (simp [*, zam, zan] <;> rfl), by repeat (first | (with_reducible first | exact HB.out | apply zac | apply zab | apply zad | refine zah ?_ GE160.out) | exact HB.out)⟩
      ·rw [if_neg c38] at H
       have c38b0 : (a0_0 == 4) = false := beq_eq_false_iff_ne.mpr c38
       have c38b1 : (a0_0 != 4) = true := bne_iff_ne.mpr c38
       by_cases c42 : a0_0 = 5
       ·rw [if_pos c42] at H
        have c42b0 : (a0_0 == 5) = true := beq_iff_eq.mpr c42
        have c42b1 : (a0_0 != 5) = false := bne_eq_false_iff_eq.mpr c42
        clear c42
        by_cases c43 : a0_1 ≥ 0
        ·rw [if_pos c43] at H
         have c43b0 : decide (0 ≤ a0_1) = true := decide_eq_true c43
         clear c43
         obtain rfl := Option.some.inj H
         have hcz44_0 : wc.cell? ⟨gb160, 0, none⟩ = some (.int .i64 a0_0) := (zaj BK160.out 0).trans rfl
         have hcz44_1 : wc.cell? ⟨gb160, 1, none⟩ = some (.int .i64 a0_1) := (zaj BK160.out 1).trans rfl
         have hcz44_2 : wc.cell? ⟨gb160, 2, none⟩ = some (.slice A0_2 l0_2.length c0_2) := (zaj BK160.out 2).trans rfl
         have hfz44_0 := zak BK160.out 0
         have hfz44_1 := zak BK160.out 1
         have hfz44_2 := zak BK160.out 2
         go_wp2
         go_ret
         exact ⟨by first | rfl | (simp [zam, zan] <;> rfl) | (simp [*, zam, zan] <;> rfl), by repeat (first | (with_reducible first | exact HB.out | apply zac | apply zab | apply zad | refine zah ?_ GE160.out) | exact HB.out)⟩
        ·rw [if_neg c43] at H
         have c43b0 : decide (0 ≤ a0_1) = false := decide_eq_false c43
         clear c43
         obtain rfl := Option.some.inj H
         have hcz45_0 : wc.cell? ⟨gb160, 0, none⟩ = some (.int .i64 a0_0) := (zaj BK160.out 0).trans rfl
         have hcz45_1 : wc.cell? ⟨gb160, 1, none⟩ = some (.int .i64 a0_1) := (zaj BK160.out 1).trans rfl
         have hcz45_2 : wc.cell? ⟨gb160, 2, none⟩ = some (.slice A0_2 l0_2.length c0_2) := (zaj BK160.out 2).trans rfl
         have hfz45_0 := zak BK160.out 0
         have hfz45_1 := zak BK160.out 1
         have hfz45_2 := zak BK160.out 2
         go_wp2
         go_ret
         exact ⟨by first | rfl | (simp [zam, zan] <;> rfl) | (simp [*, zam, zan] <;> rfl), by repeat (first | (with_reducible first | exact HB.out | apply zac | apply zab | apply zad | refine zah ?_ GE160.out) | exact HB.out)⟩
       ·rw [if_neg c42] at H
        have c42b0 : (a0_0 == 5) = false := beq_eq_false_iff_ne.mpr c42
        have c42b1 : (a0_0 != 5) = true := bne_iff_ne.mpr c42
        by_cases c46 : a0_0 = 11
        ·rw [if_pos c46] at H
         have c46b0 : (a0_0 == 11) = true := beq_iff_eq.mpr c46
         have c46b1 : (a0_0 != 11) = false := bne_eq_false_iff_eq.mpr c46
         clear c46
         by_cases c47 : a0_1 ≥ (-8)
         ·rw [if_pos c47] at H
          have c47b0 : decide ((-8) ≤ a0_1) = true := decide_eq_true c47
          clear c47
          obtain rfl := Option.some.inj H
          have hcz48_0 : wc.cell? ⟨gb160, 0, none⟩ = some (.int .i64 a0_0) := (zaj BK160.out 0).trans rfl
          have hcz48_1 : wc.cell? ⟨gb160, 1, none⟩ = some (.int .i64 a0_1) := (zaj BK160.out 1).trans rfl
          have hcz48_2 : wc.cell? ⟨gb160, 2, none⟩ = some (.slice A0_2 l0_2.length c0_2) := (zaj BK160.out 2).trans rfl
          have hfz48_0 := zak BK160.out 0
          have hfz48_1 := zak BK160.out 1
          have hfz48_2 := zak BK160.out 2
          go_wp2
          go_ret
          exact ⟨by first | rfl | (simp [zam, zan] <;> rfl) | (simp [*, zam, zan] <;> rfl), by repeat (first | (with_reducible first | exact HB.out | apply zac | apply zab | apply zad | refine zah ?_ GE160.out) | exact HB.out)⟩
         ·rw [if_neg c47] at H
          have c47b0 : decide ((-8) ≤ a0_1) = false := decide_eq_false c47
          clear c47
          obtain rfl := Option.some.inj H
          have hcz49_0 : wc.cell? ⟨gb160, 0, none⟩ = some (.int .i64 a0_0) := (zaj BK160.out 0).trans rfl
          have hcz49_1 : wc.cell? ⟨gb160, 1, none⟩ = some (.int .i64 a0_1) := (zaj BK160.out 1).trans rfl
          have hcz49_2 : wc.cell? ⟨gb160, 2, none⟩ = some (.slice A0_2 l0_2.length c0_2) := (zaj BK160.out 2).trans rfl
          have hfz49_0 := zak BK160.out 0
          have hfz49_1 := zak BK160.out 1
          have hfz49_2 := zak BK160.out 2
          go_wp2
          go_ret
          exact ⟨by first | rfl | (simp [zam, zan] <;> rfl) | (simp [*, zam, zan] <;> rfl), by repeat (first | (with_reducible first | exact HB.out | apply zac | apply zab | apply zad | refine zah ?_ GE160.out) | exact HB.out)⟩
        ·rw [if_neg c46] at H
         have c46b0 : (a0_0 == 11) = false := beq_eq_false_iff_ne.mpr c46
         have c46b1 : (a0_0 != 11) = true := bne_iff_ne.mpr c46
         obtain rfl := Option.some.inj H
         have hcz50_0 : wc.cell? ⟨gb160, 0, none⟩ = some (.int .i64 a0_0) := (zaj BK160.out 0).trans rfl
         have hcz50_1 : wc.cell? ⟨gb160, 1, none⟩ = some (.int .i64 a0_1) := (zaj BK160.out 1).trans rfl
         have hcz50_2 : wc.cell? ⟨gb160, 2, none⟩ = some (.slice A0_2 l0_2.length c0_2) := (zaj BK160.out 2).trans rfl
         have hfz50_0 := zak BK160.out 0
         have hfz50_1 := zak BK160.out 1
         have hfz50_2 := zak BK160.out 2
         go_wp2
         go_ret
         exact ⟨by first | rfl | (simp [zam, zan] <;> rfl) | (simp [*, zam, zan] <;> rfl), by repeat (first | (with_reducible first | exact HB.out | apply zac | apply zab | apply zad | refine zah ?_ GE160.out) | exact HB.out)⟩
end Go.Proofs.YtbicjgaadknmfaaDoor.P
end
section
namespace Go.Proofs.YtbicjgaadknmfaaDoor.P
open Go.RowKit Go.Proofs.YtbicjgaadknmfaaDoorW.PrintWords Go.Proofs.YtbicjgaadknmfaaDoorW.PrintLast Go.Proofs.YtbicjgaadknmfaaDoorW.PrintMore
attribute [local go_sem] zcu zcp zcl zck zbZ zbX zb9 zb7
set_option linter.unusedVariables false
set_option linter.unusedSimpArgs false
mutual
def zav.j0 : Nat → Int → Bool → Option (Int)
 | 0, _, _ => none
 | k + 1, x0, x8 => if x8 = true then (some 0) else (if x0 = 6 then (zav.j1 k x0 true) else (zav.j1 k x0 (x0 == 11)))
def zav.j1 : Nat → Int → Bool → Option (Int)
 | 0, _, _ => none
 | k + 1, x0, x14 => if x14 = true then (some 1) else (if x0 ≥ 7 then (if x0 ≤ 10 then (some 2) else (some (-1))) else (some (-1)))
end
def zav.f (k : Nat) (a0 : Int) : Option (Int) := if a0 ≥ 1 then (zav.j0 k a0 (decide (a0 ≤ 5))) else (zav.j0 k a0 false)
theorem zav.zaV : ∀ k, (∀ y0 y1, LeO (zav.j0 k y0 y1) (zav.j0 (k + 1) y0 y1)) ∧ (∀ y0 y1, LeO (zav.j1 k y0 y1) (zav.j1 (k + 1) y0 y1))
 | 0 => ⟨fun _ _ r h => by simp [zav.j0] at h, fun _ _ r h => by simp [zav.j1] at h⟩
 | k + 1 => by
  obtain ⟨ih0, ih1⟩ := zav.zaV k
  refine ⟨?_, ?_⟩
  ·intro y0 y1
   unfold zav.j0
   repeat' first
   | (with_reducible exact ih0 _ _)
   | (with_reducible exact ih1 _ _)
   | (with_reducible exact LeO.refl _)
   | (with_reducible exact LeO.none _)
   | (with_reducible refine LeO.ite ?_ ?_)
   | (with_reducible refine LeO.bind ?_ (fun _ => ?_))
   | exact ih0 _ _
   | exact ih1 _ _
   | exact LeO.none _
   | refine LeO.ite ?_ ?_
   | refine LeO.bind ?_ (fun _ => ?_)
  ·intro y0 y1
   unfold zav.j1
   repeat' first
   | (with_reducible exact ih0 _ _)
   | (with_reducible exact ih1 _ _)
   | (with_reducible exact LeO.refl _)
   | (with_reducible exact LeO.none _)
   | (with_reducible refine LeO.ite ?_ ?_)
   | (with_reducible refine LeO.bind ?_ (fun _ => ?_))
   | exact ih0 _ _
   | exact ih1 _ _
   | exact LeO.none _
   | refine LeO.ite ?_ ?_
   | refine LeO.bind ?_ (fun _ => ?_)
theorem zav.mono : ∀ a0 k, LeO (zav.f k a0) (zav.f (k + 1) a0) := by
 intro a0 k
 obtain ⟨ih0, ih1⟩ := zav.zaV k
 unfold zav.f
 repeat' first
   | (with_reducible exact ih0 _ _)
   | (with_reducible exact ih1 _ _)
   | (with_reducible exact LeO.refl _)
   | (with_reducible exact LeO.none _)
   | (with_reducible refine LeO.ite ?_ ?_)
   | (with_reducible refine LeO.bind ?_ (fun _ => ?_))
   | exact ih0 _ _
   | exact ih1 _ _
   | exact LeO.none _
   | refine LeO.ite ?_ ?_
   | refine LeO.bind ?_ (fun _ => ?_)
set_option maxHeartbeats 8000000 in
set_option maxRecDepth 100000 in
theorem zav.calls (k : Nat) (a0 : Int) (r : Int) (w : World) (h : zav.f k a0 = some r) :
  Calls Tryd.prog 117 #[.int .i64 a0] w fun e w' => e = .returned (.int .i64 r) ∧ zar w w' := by
 have H : (if a0 ≥ 1 then (zav.j0 k a0 (decide (a0 ≤ 5))) else (zav.j0 k a0 false)) = some r := h
 clear h
 have HC2 := zaa.mk H
 clear H
 go_enter Tryd.func117, Tryd.ntmps117
 go_upto_region 1 with (fail)
 go_cut [8] (fun v8 wc => ∃ (kq : Nat) (x8_1 : Bool), v8 = .bool x8_1 ∧ zaa (zav.j0 kq a0 x8_1 = some r) ∧ zaa (kq ≤ k) ∧ zar w wc)
 case first =>
  have H := HC2.out
  clear HC2
  by_cases c3 : a0 ≥ 1
  ·rw [if_pos c3] at H
   have c3b0 : decide (1 ≤ a0) = true := decide_eq_true c3
   clear c3
   (first | rw [c3b0] | (simp only [zaC, zaD]; rw [c3b0]) | skip)
   have H' := zaa.mk H
   clear H
   go_wp2
   go_meet
   case rel => exact ⟨_, (decide (a0 ≤ 5)), (by first | rfl | (simp; done) | (simp [*]; done)), H', ⟨by first | omega | exact Nat.le_refl _⟩, by repeat (first | exact zar.refl _ | apply zar.step)⟩
  ·rw [if_neg c3] at H
   have c3b0 : decide (1 ≤ a0) = false := decide_eq_false c3
   clear c3
   (first | rw [c3b0] | (simp only [zaC, zaD]; rw [c3b0]) | skip)
   have H' := zaa.mk H
   clear H
   go_wp2
   go_meet
   case rel => exact ⟨_, (false), (by first | rfl | (simp; done) | (simp [*]; done)), H', ⟨by first | omega | exact Nat.le_refl _⟩, by repeat (first | exact zar.refl _ | apply zar.step)⟩
 case rest =>
  clear HC2
  try clear c1
  try clear p2
  try clear c3
  try clear c3b0
  obtain ⟨kq, x8_1, rfl, HA, HJ1, ⟨mc1, rfl⟩⟩ := hcut
  cases kq with
  | zero => exact absurd HA.out (by simp [zav.j0])
  | succ kj1 =>
   have H := HA.out
   clear HA
   simp only [zav.j0] at H
   by_cases c4 : x8_1 = true
   ·subst c4
    have H1 : (some 0) = some r := by rw [if_pos rfl] at H; exact H
    clear H
    have H := H1
    clear H1
    obtain rfl := Option.some.inj H
    go_wp2
    go_ret
    exact ⟨by first | rfl | (simp; done) | (simp [*]; done), by repeat (first | exact zar.refl _ | apply zar.step)⟩
   ·replace c4 := Bool.eq_false_iff.mpr c4
    subst c4
    have H1 : (if a0 = 6 then (zav.j1 kj1 a0 true) else (zav.j1 kj1 a0 (a0 == 11))) = some r := by rw [if_neg (show ¬ (false = true) by decide)] at H; exact H
    clear H
    have H := H1
    clear H1
    have HC5 := zaa.mk H
    clear H
    go_upto_region 3 with (fail)
    go_cut [14] (fun v14 wc => ∃ (kq : Nat) (x14_4 : Bool), v14 = .bool x14_4 ∧ zaa (zav.j1 kq a0 x14_4 = some r) ∧ zaa (kq ≤ kj1) ∧ zar w wc)
    case first =>
     have H := HC5.out
     clear HC5
     by_cases c6 : a0 = 6
     ·rw [if_pos c6] at H
      have c6b0 : (a0 == 6) = true := beq_iff_eq.mpr c6
      have c6b1 : (a0 != 6) = false := bne_eq_false_iff_eq.mpr c6
      clear c6
      (first | rw [c6b0] | (simp only [zaC, zaD]; rw [c6b0]) | skip)
      have H' := zaa.mk H
      clear H
      go_wp2
      go_meet
      case rel => exact ⟨_, (true), (by first | rfl | (simp; done) | (simp [*]; done)), H', ⟨by have := HJ1.out; first | omega | exact Nat.le_refl _⟩, by repeat (first | exact zar.refl _ | apply zar.step)⟩
     ·rw [if_neg c6] at H
      have c6b0 : (a0 == 6) = false := beq_eq_false_iff_ne.mpr c6
      have c6b1 : (a0 != 6) = true := bne_iff_ne.mpr c6
      (first | rw [c6b0] | (simp only [zaC, zaD]; rw [c6b0]) | skip)
      have H' := zaa.mk H
      clear H
      go_wp2
      go_meet
      case rel => exact ⟨_, ((a0 == 11)), (by first | rfl | (simp; done) | (simp [*]; done)), H', ⟨by have := HJ1.out; first | omega | exact Nat.le_refl _⟩, by repeat (first | exact zar.refl _ | apply zar.step)⟩
    case rest =>
     clear HC5
     try clear c1
     try clear p2
     try clear c3
     try clear c3b0
     try clear c4
     try clear c6
     try clear c6b0
     try clear c6b1
     try clear p2
     obtain ⟨kq, x14_4, rfl, HA, HJ4, ⟨mc4, rfl⟩⟩ := hcut
     cases kq with
     | zero => exact absurd HA.out (by simp [zav.j1])
     | succ kj4 =>
      have H := HA.out
      clear HA
      simp only [zav.j1] at H
      by_cases c7 : x14_4 = true
      ·subst c7
       have H1 : (some 1) = some r := by rw [if_pos rfl] at H; exact H
       clear H
       have H := H1
       clear H1
       obtain rfl := Option.some.inj H
       go_wp2
       go_ret
       exact ⟨by first | rfl | (simp; done) | (simp [*]; done), by repeat (first | exact zar.refl _ | apply zar.step)⟩
      ·replace c7 := Bool.eq_false_iff.mpr c7
       subst c7
       have H1 : (if a0 ≥ 7 then (if a0 ≤ 10 then (some 2) else (some (-1))) else (some (-1))) = some r := by rw [if_neg (show ¬ (false = true) by decide)] at H; exact H
       clear H
       have H := H1
       clear H1
       by_cases c8 : a0 ≥ 7
       ·rw [if_pos c8] at H
        have c8b0 : decide (7 ≤ a0) = true := decide_eq_true c8
        clear c8
        by_cases c9 : a0 ≤ 10
        ·rw [if_pos c9] at H
         have c9b0 : decide (a0 ≤ 10) = true := decide_eq_true c9
         clear c9
         obtain rfl := Option.some.inj H
         go_wp2
         go_ret
         exact ⟨by first | rfl | (simp; done) | (simp [*]; done), by repeat (first | exact zar.refl _ | apply zar.step)⟩
        ·rw [if_neg c9] at H
         have c9b0 : decide (a0 ≤ 10) = false := decide_eq_false c9
         clear c9
         obtain rfl := Option.some.inj H
         go_wp2
         go_ret
         exact ⟨by first | rfl | (simp; done) | (simp [*]; done), by repeat (first | exact zar.refl _ | apply zar.step)⟩
       ·rw [if_neg c8] at H
        have c8b0 : decide (7 ≤ a0) = false := decide_eq_false c8
        clear c8
        obtain rfl := Option.some.inj H
        go_wp2
        go_ret
        exact ⟨by first | rfl | (simp; done) | (simp [*]; done), by repeat (first | exact zar.refl _ | apply zar.step)⟩
def zaF.l0 : Nat → List (S62) → Int → Int → Option (Int)
 | 0, _, _, _ => none
 | k + 1, x0, x3, x4 => if x4 < (x0.length : Int) then (if 0 ≤ x4 then ((zav.f k ((zbe x0 x4).f0)).bind fun t167 => (if t167 < 0 then (some x4) else (if x3 < t167 then (some x4) else (zaF.l0 k x0 (wrap64 ((wrap64 (x3 - t167)) + 1)) (wrap64 (x4 + 1)))))) else (none)) else (if x3 = 1 then (some (-1)) else (some (x0.length : Int)))
def zaF.f (k : Nat) (l0 : List (S62)) : Option (Int) := zaF.l0 k l0 0 0
theorem zaF.zaV : ∀ k, (∀ y0 y1 y2, LeO (zaF.l0 k y0 y1 y2) (zaF.l0 (k + 1) y0 y1 y2))
 | 0 => fun _ _ _ r h => by simp [zaF.l0] at h
 | k + 1 => by
  have ih0 := zaF.zaV k
  ·intro y0 y1 y2
   unfold zaF.l0
   repeat' first
   | (with_reducible exact ih0 _ _ _)
   | (with_reducible exact zav.mono _ _)
   | (with_reducible exact LeO.refl _)
   | (with_reducible exact LeO.none _)
   | (with_reducible refine LeO.ite ?_ ?_)
   | (with_reducible refine LeO.bind ?_ (fun _ => ?_))
   | exact ih0 _ _ _
   | exact zav.mono _ _
   | exact LeO.none _
   | refine LeO.ite ?_ ?_
   | refine LeO.bind ?_ (fun _ => ?_)
theorem zaF.mono : ∀ a0 k, LeO (zaF.f k a0) (zaF.f (k + 1) a0) := by
 intro a0 k
 have ih0 := zaF.zaV k
 unfold zaF.f
 repeat' first
   | (with_reducible exact ih0 _ _ _)
   | (with_reducible exact zav.mono _ _)
   | (with_reducible exact LeO.refl _)
   | (with_reducible exact LeO.none _)
   | (with_reducible refine LeO.ite ?_ ?_)
   | (with_reducible refine LeO.bind ?_ (fun _ => ?_))
   | exact ih0 _ _ _
   | exact zav.mono _ _
   | exact LeO.none _
   | refine LeO.ite ?_ ?_
   | refine LeO.bind ?_ (fun _ => ?_)
set_option maxHeartbeats 8000000 in
set_option maxRecDepth 100000 in
theorem zaF.calls (k : Nat) (A0 : Option Addr) (c0 : Nat) (l0 : List (S62)) (r : Int) (w : World) (hr0 : Kd.C k62 w A0 l0.length l0) (hc0 : l0.length ≤ c0) (h : zaF.f k l0 = some r) :
  Calls Tryd.prog 82 #[.slice A0 l0.length c0] w fun e w' => e = .returned (.int .i64 r) ∧ zar w w' := by
 have HR0 := zaa.mk hr0
 have HC0 := zaa.mk hc0
 clear hr0 hc0
 have H : (zaF.l0 k l0 0 0) = some r := h
 clear h
 have H' := zaa.mk H
 clear H
 go_enter Tryd.func82, Tryd.ntmps82
 go_wp2
 go_loopg [3, 4] k (fun kq v3 v4 w' => ∃ (x3_1 : Int) (x4_1 : Int), v3 = .int .i64 x3_1 ∧ v4 = .int .i64 x4_1 ∧ zaa (zaF.l0 kq l0 x3_1 x4_1 = some r) ∧ zaa (kq ≤ k) ∧ zar w w')
 case atStart => exact ⟨(0), (0), (by first | rfl | (simp; done) | (simp [*]; done)), (by first | rfl | (simp; done) | (simp [*]; done)), H', ⟨Nat.le_refl _⟩, by repeat (first | exact zar.refl _ | apply zar.step)⟩
 case round =>
  clear H'
  obtain ⟨x3_1, x4_1, rfl, rfl, HA, HK1, ⟨m1, rfl⟩⟩ := hrel
  cases gk with
  | zero => exact absurd HA.out (by simp [zaF.l0])
  | succ k1 =>
   have H := HA.out
   clear HA
   simp only [zaF.l0] at H
   by_cases c2 : x4_1 < (l0.length : Int)
   ·rw [if_pos c2] at H
    have c2b0 : decide (x4_1 < (l0.length : Int)) = true := decide_eq_true c2
    clear c2
    by_cases c3 : 0 ≤ x4_1
    ·rw [if_pos c3] at H
     have c3b0 : decide (0 ≤ x4_1) = true := decide_eq_true c3
     clear c3
     replace H := Option.bind_eq_some_iff.mp H
     obtain ⟨t167, A40, H⟩ := H
     replace H : (if t167 < 0 then (some x4_1) else (if x3_1 < t167 then (some x4_1) else (zaF.l0 k1 l0 (wrap64 ((wrap64 (x3_1 - t167)) + 1)) (wrap64 (x4_1 + 1))))) = some r := H
     have A4 := zaa.mk A40
     clear A40
     by_cases c5 : t167 < 0
     ·rw [if_pos c5] at H
      have c5b0 : decide (t167 < 0) = true := decide_eq_true c5
      clear c5
      obtain rfl := Option.some.inj H
      have p166 : 0 ≤ (x4_1 : Int) := of_decide_eq_true (by first | (with_reducible assumption) | assumption)
      have q166 : x4_1 < (l0.length : Int) := of_decide_eq_true (by first | (with_reducible assumption) | assumption)
      obtain ⟨ad166, A166_2, c166_2, e166, hx166_0, hx166_1, hx166_2, hl166_2, hi166_2⟩ := zdk HR0.out x4_1 p166 q166
      cases e166
      have HR166_2 := zaa.mk hi166_2
      have HC166_2 := zaa.mk hl166_2
      clear hi166_2 hl166_2
      replace p166 := eq_true p166
      replace q166 := eq_true q166
      go_wp2_with (first | ((with_reducible refine zaI (f := 117) rfl ?_); refine za5 (some 17) rfl rfl Tryd.func117 (by kernel_rfl) rfl #[.int .i64 ((zbe l0 x4_1).f0)] rfl (by (try simp only [List.map_toArray, List.map_cons, List.map_nil]); first | done | rfl | (simp only [List.length_drop, List.length_take]; rfl)) ?_; (with_reducible refine (zav.calls k1 ((zbe l0 x4_1).f0) t167 _ A4.out).mono ?_); rintro e w' ⟨rfl, ⟨nd, rfl⟩⟩; refine ⟨_, rfl, ?_⟩))
      go_ret
      exact ⟨by first | rfl | (simp; done) | (simp [*]; done), by repeat (first | exact zar.refl _ | apply zar.step)⟩
     ·rw [if_neg c5] at H
      have c5b0 : decide (t167 < 0) = false := decide_eq_false c5
      clear c5
      by_cases c6 : x3_1 < t167
      ·rw [if_pos c6] at H
       have c6b0 : decide (x3_1 < t167) = true := decide_eq_true c6
       clear c6
       obtain rfl := Option.some.inj H
       have p166 : 0 ≤ (x4_1 : Int) := of_decide_eq_true (by first | (with_reducible assumption) | assumption)
       have q166 : x4_1 < (l0.length : Int) := of_decide_eq_true (by first | (with_reducible assumption) | assumption)
       obtain ⟨ad166, A166_2, c166_2, e166, hx166_0, hx166_1, hx166_2, hl166_2, hi166_2⟩ := zdk HR0.out x4_1 p166 q166
       cases e166
       have HR166_2 := zaa.mk hi166_2
       have HC166_2 := zaa.mk hl166_2
       clear hi166_2 hl166_2
       replace p166 := eq_true p166
       replace q166 := eq_true q166
       go_wp2_with (first | ((with_reducible refine zaI (f := 117) rfl ?_); refine za5 (some 17) rfl rfl Tryd.func117 (by kernel_rfl) rfl #[.int .i64 ((zbe l0 x4_1).f0)] rfl (by (try simp only [List.map_toArray, List.map_cons, List.map_nil]); first | done | rfl | (simp only [List.length_drop, List.length_take]; rfl)) ?_; (with_reducible refine (zav.calls k1 ((zbe l0 x4_1).f0) t167 _ A4.out).mono ?_); rintro e w' ⟨rfl, ⟨nd, rfl⟩⟩; refine ⟨_, rfl, ?_⟩))
       go_ret
       exact ⟨by first | rfl | (simp; done) | (simp [*]; done), by repeat (first | exact zar.refl _ | apply zar.step)⟩
      ·rw [if_neg c6] at H
       have c6b0 : decide (x3_1 < t167) = false := decide_eq_false c6
       clear c6
       have H' := zaa.mk H
       clear H
       have p166 : 0 ≤ (x4_1 : Int) := of_decide_eq_true (by first | (with_reducible assumption) | assumption)
       have q166 : x4_1 < (l0.length : Int) := of_decide_eq_true (by first | (with_reducible assumption) | assumption)
       obtain ⟨ad166, A166_2, c166_2, e166, hx166_0, hx166_1, hx166_2, hl166_2, hi166_2⟩ := zdk HR0.out x4_1 p166 q166
       cases e166
       have HR166_2 := zaa.mk hi166_2
       have HC166_2 := zaa.mk hl166_2
       clear hi166_2 hl166_2
       replace p166 := eq_true p166
       replace q166 := eq_true q166
       go_wp2_with (first | ((with_reducible refine zaI (f := 117) rfl ?_); refine za5 (some 17) rfl rfl Tryd.func117 (by kernel_rfl) rfl #[.int .i64 ((zbe l0 x4_1).f0)] rfl (by (try simp only [List.map_toArray, List.map_cons, List.map_nil]); first | done | rfl | (simp only [List.length_drop, List.length_take]; rfl)) ?_; (with_reducible refine (zav.calls k1 ((zbe l0 x4_1).f0) t167 _ A4.out).mono ?_); rintro e w' ⟨rfl, ⟨nd, rfl⟩⟩; refine ⟨_, rfl, ?_⟩))
       go_roundg k1
       case measure => have := HK1.out; omega
       case rel => exact ⟨(wrap64 ((wrap64 (x3_1 - t167)) + 1)), (wrap64 (x4_1 + 1)), (by first | rfl | (simp; done) | (simp [*]; done)), (by first | rfl | (simp; done) | (simp [*]; done)), H', ⟨by have := HK1.out; omega⟩, by repeat (first | exact zar.refl _ | apply zar.step)⟩
    ·rw [if_neg c3] at H
     exact absurd H (by simp)
   ·rw [if_neg c2] at H
    have c2b0 : decide (x4_1 < (l0.length : Int)) = false := decide_eq_false c2
    clear c2
    by_cases c7 : x3_1 = 1
    ·rw [if_pos c7] at H
     have c7b0 : (x3_1 == 1) = true := beq_iff_eq.mpr c7
     have c7b1 : (x3_1 != 1) = false := bne_eq_false_iff_eq.mpr c7
     clear c7
     obtain rfl := Option.some.inj H
     go_wp2
     go_ret
     exact ⟨by first | rfl | (simp; done) | (simp [*]; done), by repeat (first | exact zar.refl _ | apply zar.step)⟩
    ·rw [if_neg c7] at H
     have c7b0 : (x3_1 == 1) = false := beq_eq_false_iff_ne.mpr c7
     have c7b1 : (x3_1 != 1) = true := bne_iff_ne.mpr c7
     obtain rfl := Option.some.inj H
     go_wp2
     go_ret
     exact ⟨by first | rfl | (simp; done) | (simp [*]; done), by repeat (first | exact zar.refl _ | apply zar.step)⟩
def zaA.l0 : Nat → List (S62) → Int → Int → Int → Int → Int → Option (Int)
 | 0, _, _, _, _, _, _ => none
 | k + 1, x0, x1, x2, x3, x9, x10 => if x10 < (x0.length : Int) then (if x10 = x9 then (some x10) else (if 0 ≤ x10 then ((zay.f k ((zbe x0 x10).f0) ((zbe x0 x10).f1) ((zbe x0 x10).f2) x1 x2 x3).bind fun t170 => (if t170 = true then (zaA.l0 k x0 x1 x2 x3 x9 (wrap64 (x10 + 1))) else (some x10))) else (none))) else (some x9)
def zaA.f (k : Nat) (l0 : List (S62)) (a1 : Int) (a2 : Int) (a3 : Int) : Option (Int) := (zaF.f k l0).bind fun t168 => (zaA.l0 k l0 a1 a2 a3 t168 0)
theorem zaA.zaV : ∀ k, (∀ y0 y1 y2 y3 y4 y5, LeO (zaA.l0 k y0 y1 y2 y3 y4 y5) (zaA.l0 (k + 1) y0 y1 y2 y3 y4 y5))
 | 0 => fun _ _ _ _ _ _ r h => by simp [zaA.l0] at h
 | k + 1 => by
  have ih0 := zaA.zaV k
  ·intro y0 y1 y2 y3 y4 y5
   unfold zaA.l0
   repeat' first
   | (with_reducible exact ih0 _ _ _ _ _ _)
   | (with_reducible exact zaF.mono _ _)
   | (with_reducible exact zay.mono _ _ _ _ _ _ _)
   | (with_reducible exact LeO.refl _)
   | (with_reducible exact LeO.none _)
   | (with_reducible refine LeO.ite ?_ ?_)
   | (with_reducible refine LeO.bind ?_ (fun _ => ?_))
   | exact ih0 _ _ _ _ _ _
   | exact zaF.mono _ _
   | exact zay.mono _ _ _ _ _ _ _
   | exact LeO.none _
   | refine LeO.ite ?_ ?_
   | refine LeO.bind ?_ (fun _ => ?_)
theorem zaA.mono : ∀ a0 a1 a2 a3 k, LeO (zaA.f k a0 a1 a2 a3) (zaA.f (k + 1) a0 a1 a2 a3) := by
 intro a0 a1 a2 a3 k
 have ih0 := zaA.zaV k
 unfold zaA.f
 repeat' first
   | (with_reducible exact ih0 _ _ _ _ _ _)
   | (with_reducible exact zaF.mono _ _)
   | (with_reducible exact zay.mono _ _ _ _ _ _ _)
   | (with_reducible exact LeO.refl _)
   | (with_reducible exact LeO.none _)
   | (with_reducible refine LeO.ite ?_ ?_)
   | (with_reducible refine LeO.bind ?_ (fun _ => ?_))
   | exact ih0 _ _ _ _ _ _
   | exact zaF.mono _ _
   | exact zay.mono _ _ _ _ _ _ _
   | exact LeO.none _
   | refine LeO.ite ?_ ?_
   | refine LeO.bind ?_ (fun _ => ?_)
set_option maxHeartbeats 8000000 in
set_option maxRecDepth 100000 in
theorem zaA.calls (k : Nat) (A0 : Option Addr) (c0 : Nat) (l0 : List (S62)) (a1 : Int) (a2 : Int) (a3 : Int) (r : Int) (w : World) (hr0 : Kd.C k62 w A0 l0.length l0) (hc0 : l0.length ≤ c0) (h : zaA.f k l0 a1 a2 a3 = some r) :
  Calls Tryd.prog 34 #[.slice A0 l0.length c0, .int .i64 a1, .int .i64 a2, .int .i64 a3] w fun e w' => e = .returned (.int .i64 r) ∧ Below w.heap.size w w' := by
 have hu62 := Tryd.underlying62
 have HR0 := zaa.mk hr0
 have HC0 := zaa.mk hc0
 clear hr0 hc0
 have HB := zaa.mk (Below.refl w.heap.size w)
 have H : ((zaF.f k l0).bind fun t168 => (zaA.l0 k l0 a1 a2 a3 t168 0)) = some r := h
 clear h
 replace H := Option.bind_eq_some_iff.mp H
 obtain ⟨t168, A50, H⟩ := H
 replace H : (zaA.l0 k l0 a1 a2 a3 t168 0) = some r := H
 have A5 := zaa.mk A50
 clear A50
 have H' := zaa.mk H
 clear H
 go_enter Tryd.func34, Tryd.ntmps34
 go_wp2_with (first | ((with_reducible refine zaI (f := 82) rfl ?_); refine za5 (some 12) rfl rfl Tryd.func82 (by kernel_rfl) rfl #[.slice A0 l0.length c0] rfl (by (try simp only [List.map_toArray, List.map_cons, List.map_nil]); first | done | rfl | (simp only [List.length_drop, List.length_take]; rfl)) ?_; (with_reducible refine (zaF.calls k _ _ l0 t168 _ ?side1 ?side2 A5.out).mono ?_); (case side1 => repeat (first | exact HR0.out | (with_reducible refine Kd.zaU ?_ _) | (with_reducible refine Kd.zaY ?_ _) | (with_reducible refine Kd.za3 ?_))); (case side2 => exact HC0.out); rintro e w' ⟨rfl, ⟨nd, rfl⟩⟩; refine ⟨_, rfl, ?_⟩))
 go_loopg [10] k (fun kq v10 w' => ∃ (x10_1 : Int), v10 = .int .i64 x10_1 ∧ zaa (zaA.l0 kq l0 a1 a2 a3 t168 x10_1 = some r) ∧ zaa (kq ≤ k) ∧ zaa (Below w.heap.size w w'))
 case atStart => exact ⟨(0), (by first | rfl | (simp; done) | (simp [*]; done)), H', ⟨Nat.le_refl _⟩, ⟨by repeat (first | (with_reducible first | exact HB.out | apply zac | apply zab | apply zad) | exact HB.out)⟩⟩
 case round =>
  clear H'
  try clear p2
  try clear c3
  obtain ⟨x10_1, rfl, HA, HK1, HB⟩ := hrel
  cases gk with
  | zero => exact absurd HA.out (by simp [zaA.l0])
  | succ k1 =>
   have H := HA.out
   clear HA
   simp only [zaA.l0] at H
   by_cases c6 : x10_1 < (l0.length : Int)
   ·rw [if_pos c6] at H
    have c6b0 : decide (x10_1 < (l0.length : Int)) = true := decide_eq_true c6
    clear c6
    by_cases c7 : x10_1 = t168
    ·rw [if_pos c7] at H
     have c7b0 : (x10_1 == t168) = true := beq_iff_eq.mpr c7
     have c7b1 : (x10_1 != t168) = false := bne_eq_false_iff_eq.mpr c7
     clear c7
     obtain rfl := Option.some.inj H
     go_wp2
     go_ret
     exact ⟨by first | rfl | (simp [zam, zan] <;> rfl) | (simp [*, zam, zan] <;> rfl), by repeat (first | (with_reducible first | exact HB.out | apply zac | apply zab | apply zad) | exact HB.out)⟩
    ·rw [if_neg c7] at H
     have c7b0 : (x10_1 == t168) = false := beq_eq_false_iff_ne.mpr c7
     have c7b1 : (x10_1 != t168) = true := bne_iff_ne.mpr c7
     by_cases c8 : 0 ≤ x10_1
     ·rw [if_pos c8] at H
      have c8b0 : decide (0 ≤ x10_1) = true := decide_eq_true c8
      clear c8
      replace H := Option.bind_eq_some_iff.mp H
      obtain ⟨t170, A90, H⟩ := H
      replace H : (if t170 = true then (zaA.l0 k1 l0 a1 a2 a3 t168 (wrap64 (x10_1 + 1))) else (some x10_1)) = some r := H
      have A9 := zaa.mk A90
      clear A90
      by_cases c10 : t170 = true
      ·subst c10
       have H1 : (zaA.l0 k1 l0 a1 a2 a3 t168 (wrap64 (x10_1 + 1))) = some r := by rw [if_pos rfl] at H; exact H
       clear H
       have H := H1
       clear H1
       have H' := zaa.mk H
       clear H
       have p169 : 0 ≤ (x10_1 : Int) := of_decide_eq_true (by first | (with_reducible assumption) | assumption)
       have q169 : x10_1 < (l0.length : Int) := of_decide_eq_true (by first | (with_reducible assumption) | assumption)
       obtain ⟨ad169, A169_2, c169_2, e169, hx169_0, hx169_1, hx169_2, hl169_2, hi169_2⟩ := zdk HR0.out x10_1 p169 q169
       cases e169
       replace hx169_0 := (HB.out.cell (World.block_lt_of_cell? w _ hx169_0)).trans hx169_0
       replace hx169_1 := (HB.out.cell (World.block_lt_of_cell? w _ hx169_1)).trans hx169_1
       replace hx169_2 := (HB.out.cell (World.block_lt_of_cell? w _ hx169_2)).trans hx169_2
       have HR169_2 := zaa.mk hi169_2
       have HC169_2 := zaa.mk hl169_2
       clear hi169_2 hl169_2
       replace p169 := eq_true p169
       replace q169 := eq_true q169
       go_wp2_with (first | (go_at_call 32; (with_reducible refine (zay.calls k1 ((zbe l0 x10_1).f0) ((zbe l0 x10_1).f1) _ _ ((zbe l0 x10_1).f2) a1 a2 a3 true _ ?side1 ?side2 A9.out).mono ?_); (case side1 => repeat (first | exact (Kd.za1 HR169_2.out HB.out) | (with_reducible refine Kd.zaU ?_ _) | (with_reducible refine Kd.zaY ?_ _) | (with_reducible refine Kd.za3 ?_))); (case side2 => exact HC169_2.out); rintro e w11 ⟨rfl, hb⟩; have n0_ := zaa.mk (zat (by repeat (first | (with_reducible first | exact HB.out | apply zac | apply zab | apply zad) | exact HB.out)) hb); clear HB; have HB := n0_; clear n0_; (try clear hb); (try clear hb2); (try clear hk); (try clear hi)))
       go_roundg k1
       case measure => have := HK1.out; omega
       case rel => exact ⟨(wrap64 (x10_1 + 1)), (by first | rfl | (simp; done) | (simp [*]; done)), H', ⟨by have := HK1.out; omega⟩, ⟨by repeat (first | (with_reducible first | exact HB.out | apply zac | apply zab | apply zad) | exact HB.out)⟩⟩
      ·replace c10 := Bool.eq_false_iff.mpr c10
       subst c10
       have H1 : (some x10_1) = some r := by rw [if_neg (show ¬ (false = true) by decide)] at H; exact H
       clear H
       have H := H1
       clear H1
       obtain rfl := Option.some.inj H
       have p169 : 0 ≤ (x10_1 : Int) := of_decide_eq_true (by first | (with_reducible assumption) | assumption)
       have q169 : x10_1 < (l0.length : Int) := of_decide_eq_true (by first | (with_reducible assumption) | assumption)
       obtain ⟨ad169, A169_2, c169_2, e169, hx169_0, hx169_1, hx169_2, hl169_2, hi169_2⟩ := zdk HR0.out x10_1 p169 q169
       cases e169
       replace hx169_0 := (HB.out.cell (World.block_lt_of_cell? w _ hx169_0)).trans hx169_0
       replace hx169_1 := (HB.out.cell (World.block_lt_of_cell? w _ hx169_1)).trans hx169_1
       replace hx169_2 := (HB.out.cell (World.block_lt_of_cell? w _ hx169_2)).trans hx169_2
       have HR169_2 := zaa.mk hi169_2
       have HC169_2 := zaa.mk hl169_2
       clear hi169_2 hl169_2
       replace p169 := eq_true p169
       replace q169 := eq_true q169
       go_wp2_with (first | (go_at_call 32; (with_reducible refine (zay.calls k1 ((zbe l0 x10_1).f0) ((zbe l0 x10_1).f1) _ _ ((zbe l0 x10_1).f2) a1 a2 a3 false _ ?side1 ?side2 A9.out).mono ?_); (case side1 => repeat (first | exact (Kd.za1 HR169_2.out HB.out) | (with_reducible refine Kd.zaU ?_ _) | (with_reducible refine Kd.zaY ?_ _) | (with_reducible refine Kd.za3 ?_))); (case side2 => exact HC169_2.out); rintro e w12 ⟨rfl, hb⟩; have n0_ := zaa.mk (zat (by repeat (first | (with_reducible first | exact HB.out | apply zac | apply zab | apply zad) | exact HB.out)) hb); clear HB; have HB := n0_; clear n0_; (try clear hb); (try clear hb2); (try clear hk); (try clear hi)))
       go_ret
       exact ⟨by first | rfl | (simp [zam, zan] <;> rfl) | (simp [*, zam, zan] <;> rfl), by repeat (first | (with_reducible first | exact HB.out | apply zac | apply zab | apply zad) | exact HB.out)⟩
     ·rw [if_neg c8] at H
      exact absurd H (by simp)
   ·rw [if_neg c6] at H
    have c6b0 : decide (x10_1 < (l0.length : Int)) = false := decide_eq_false c6
    clear c6
    obtain rfl := Option.some.inj H
    go_wp2
    go_ret
    exact ⟨by first | rfl | (simp [zam, zan] <;> rfl) | (simp [*, zam, zan] <;> rfl), by repeat (first | (with_reducible first | exact HB.out | apply zac | apply zab | apply zad) | exact HB.out)⟩
def zbT.f (a0 : ByteArray) : Option (Bool) := (zbt.f 2 a0 0).bind fun t171 => (if t171 = true then (if a0.toList = ([116] : List UInt8) then (some false) else (if a0.toList = ([121] : List UInt8) then (some false) else (if a0.toList = ([112] : List UInt8) then (some false) else (some (a0.toList != ([108, 101, 116] : List UInt8)))))) else (some false))
set_option maxHeartbeats 8000000 in
set_option maxRecDepth 100000 in
theorem zbT.calls (a0 : ByteArray) (r : Bool) (w : World) (h : zbT.f a0 = some r) :
  Calls Tryd.prog 36 #[.string a0] w fun e w' => e = .returned (.bool r) ∧ Below w.heap.size w w' := by
 have hu136 := Tryd.underlying136
 have HB := zaa.mk (Below.refl w.heap.size w)
 have H : ((zbt.f 2 a0 0).bind fun t171 => (if t171 = true then (if a0.toList = ([116] : List UInt8) then (some false) else (if a0.toList = ([121] : List UInt8) then (some false) else (if a0.toList = ([112] : List UInt8) then (some false) else (some (a0.toList != ([108, 101, 116] : List UInt8)))))) else (some false))) = some r := h
 clear h
 replace H := Option.bind_eq_some_iff.mp H
 obtain ⟨t171, A20, H⟩ := H
 replace H : (if t171 = true then (if a0.toList = ([116] : List UInt8) then (some false) else (if a0.toList = ([121] : List UInt8) then (some false) else (if a0.toList = ([112] : List UInt8) then (some false) else (some (a0.toList != ([108, 101, 116] : List UInt8)))))) else (some false)) = some r := H
 have A2 := zaa.mk A20
 clear A20
 by_cases c3 : t171 = true
 ·subst c3
  have H1 : (if a0.toList = ([116] : List UInt8) then (some false) else (if a0.toList = ([121] : List UInt8) then (some false) else (if a0.toList = ([112] : List UInt8) then (some false) else (some (a0.toList != ([108, 101, 116] : List UInt8)))))) = some r := by rw [if_pos rfl] at H; exact H
  clear H
  have H := H1
  clear H1
  by_cases c4 : a0.toList = ([116] : List UInt8)
  ·rw [if_pos c4] at H
   have c4b0 : (a0.toList == ([116] : List UInt8)) = true := beq_iff_eq.mpr c4
   have c4b1 : (a0.toList != ([116] : List UInt8)) = false := bne_eq_false_iff_eq.mpr c4
   clear c4
   obtain rfl := Option.some.inj H
   go_enter Tryd.func36, Tryd.ntmps36
   go_wp2_with (first | ((with_reducible refine zaI (f := 84) rfl ?_); refine za5 (some 5) rfl rfl Tryd.func84 (by kernel_rfl) rfl #[.agg #[.int .i64 2, .string a0, .int .i64 0]] rfl (by (try simp only [List.map_toArray, List.map_cons, List.map_nil]); first | done | rfl | (simp only [List.length_drop, List.length_take]; rfl)) ?_; (with_reducible refine (zbt.calls 2 a0 0 true _ A2.out).mono ?_); rintro e w5 ⟨rfl, hb⟩; refine ⟨_, rfl, ?_⟩; have n0_ := zaa.mk (zat (by repeat (first | (with_reducible first | exact HB.out | apply zac | apply zab | apply zad) | exact HB.out)) hb); clear HB; have HB := n0_; clear n0_; (try clear hb); (try clear hb2); (try clear hk); (try clear hi)))
   go_ret
   exact ⟨by first | rfl | (simp [zam, zan] <;> rfl) | (simp [*, zam, zan] <;> rfl), by repeat (first | (with_reducible first | exact HB.out | apply zac | apply zab | apply zad) | exact HB.out)⟩
  ·rw [if_neg c4] at H
   have c4b0 : (a0.toList == ([116] : List UInt8)) = false := beq_eq_false_iff_ne.mpr c4
   have c4b1 : (a0.toList != ([116] : List UInt8)) = true := bne_iff_ne.mpr c4
   by_cases c6 : a0.toList = ([121] : List UInt8)
   ·rw [if_pos c6] at H
    have c6b0 : (a0.toList == ([121] : List UInt8)) = true := beq_iff_eq.mpr c6
    have c6b1 : (a0.toList != ([121] : List UInt8)) = false := bne_eq_false_iff_eq.mpr c6
    clear c6
    obtain rfl := Option.some.inj H
    go_enter Tryd.func36, Tryd.ntmps36
    go_wp2_with (first | ((with_reducible refine zaI (f := 84) rfl ?_); refine za5 (some 5) rfl rfl Tryd.func84 (by kernel_rfl) rfl #[.agg #[.int .i64 2, .string a0, .int .i64 0]] rfl (by (try simp only [List.map_toArray, List.map_cons, List.map_nil]); first | done | rfl | (simp only [List.length_drop, List.length_take]; rfl)) ?_; (with_reducible refine (zbt.calls 2 a0 0 true _ A2.out).mono ?_); rintro e w7 ⟨rfl, hb⟩; refine ⟨_, rfl, ?_⟩; have n0_ := zaa.mk (zat (by repeat (first | (with_reducible first | exact HB.out | apply zac | apply zab | apply zad) | exact HB.out)) hb); clear HB; have HB := n0_; clear n0_; (try clear hb); (try clear hb2); (try clear hk); (try clear hi)))
    go_ret
    exact ⟨by first | rfl | (simp [zam, zan] <;> rfl) | (simp [*, zam, zan] <;> rfl), by repeat (first | (with_reducible first | exact HB.out | apply zac | apply zab | apply zad) | exact HB.out)⟩
   ·rw [if_neg c6] at H
    have c6b0 : (a0.toList == ([121] : List UInt8)) = false := beq_eq_false_iff_ne.mpr c6
    have c6b1 : (a0.toList != ([121] : List UInt8)) = true := bne_iff_ne.mpr c6
    by_cases c8 : a0.toList = ([112] : List UInt8)
    ·rw [if_pos c8] at H
     have c8b0 : (a0.toList == ([112] : List UInt8)) = true := beq_iff_eq.mpr c8
     have c8b1 : (a0.toList != ([112] : List UInt8)) = false := bne_eq_false_iff_eq.mpr c8
     clear c8
     obtain rfl := Option.some.inj H
     go_enter Tryd.func36, Tryd.ntmps36
     go_wp2_with (first | ((with_reducible refine zaI (f := 84) rfl ?_); refine za5 (some 5) rfl rfl Tryd.func84 (by kernel_rfl) rfl #[.agg #[.int .i64 2, .string a0, .int .i64 0]] rfl (by (try simp only [List.map_toArray, List.map_cons, List.map_nil]); first | done | rfl | (simp only [List.length_drop, List.length_take]; rfl)) ?_; (with_reducible refine (zbt.calls 2 a0 0 true _ A2.out).mono ?_); rintro e w9 ⟨rfl, hb⟩; refine ⟨_, rfl, ?_⟩; have n0_ := zaa.mk (zat (by repeat (first | (with_reducible first | exact HB.out | apply zac | apply zab | apply zad) | exact HB.out)) hb); clear HB; have HB := n0_; clear n0_; (try clear hb); (try clear hb2); (try clear hk); (try clear hi)))
     go_ret
     exact ⟨by first | rfl | (simp [zam, zan] <;> rfl) | (simp [*, zam, zan] <;> rfl), by repeat (first | (with_reducible first | exact HB.out | apply zac | apply zab | apply zad) | exact HB.out)⟩
    ·rw [if_neg c8] at H
     have c8b0 : (a0.toList == ([112] : List UInt8)) = false := beq_eq_false_iff_ne.mpr c8
     have c8b1 : (a0.toList != ([112] : List UInt8)) = true := bne_iff_ne.mpr c8
     obtain rfl := Option.some.inj H
     go_enter Tryd.func36, Tryd.ntmps36
     go_wp2_with (first | ((with_reducible refine zaI (f := 84) rfl ?_); refine za5 (some 5) rfl rfl Tryd.func84 (by kernel_rfl) rfl #[.agg #[.int .i64 2, .string a0, .int .i64 0]] rfl (by (try simp only [List.map_toArray, List.map_cons, List.map_nil]); first | done | rfl | (simp only [List.length_drop, List.length_take]; rfl)) ?_; (with_reducible refine (zbt.calls 2 a0 0 true _ A2.out).mono ?_); rintro e w10 ⟨rfl, hb⟩; refine ⟨_, rfl, ?_⟩; have n0_ := zaa.mk (zat (by repeat (first | (with_reducible first | exact HB.out | apply zac | apply zab | apply zad) | exact HB.out)) hb); clear HB; have HB := n0_; clear n0_; (try clear hb); (try clear hb2); (try clear hk); (try clear hi)))
     go_ret
     exact ⟨by first | rfl | (simp [zam, zan] <;> rfl) | (simp [*, zam, zan] <;> rfl), by repeat (first | (with_reducible first | exact HB.out | apply zac | apply zab | apply zad) | exact HB.out)⟩
 ·replace c3 := Bool.eq_false_iff.mpr c3
  subst c3
  have H1 : (some false) = some r := by rw [if_neg (show ¬ (false = true) by decide)] at H; exact H
  clear H
  have H := H1
  clear H1
  obtain rfl := Option.some.inj H
  go_enter Tryd.func36, Tryd.ntmps36
  go_wp2_with (first | ((with_reducible refine zaI (f := 84) rfl ?_); refine za5 (some 5) rfl rfl Tryd.func84 (by kernel_rfl) rfl #[.agg #[.int .i64 2, .string a0, .int .i64 0]] rfl (by (try simp only [List.map_toArray, List.map_cons, List.map_nil]); first | done | rfl | (simp only [List.length_drop, List.length_take]; rfl)) ?_; (with_reducible refine (zbt.calls 2 a0 0 false _ A2.out).mono ?_); rintro e w11 ⟨rfl, hb⟩; refine ⟨_, rfl, ?_⟩; have n0_ := zaa.mk (zat (by repeat (first | (with_reducible first | exact HB.out | apply zac | apply zab | apply zad) | exact HB.out)) hb); clear HB; have HB := n0_; clear n0_; (try clear hb); (try clear hb2); (try clear hk); (try clear hi)))
  go_ret
  exact ⟨by first | rfl | (simp [zam, zan] <;> rfl) | (simp [*, zam, zan] <;> rfl), by repeat (first | (with_reducible first | exact HB.out | apply zac | apply zab | apply zad) | exact HB.out)⟩
def zax.l0 : Nat → List (List (S62)) → Int → List (S121) → List (List (S62)) → Option ((List (List (S62))))
 | 0, _, _, _, _ => none
 | k + 1, x3, x4, x173000, x173001 => if x4 < (x173000.length : Int) then (if 0 ≤ x4 then (if x3.length < 5864062014805 then (zax.l0 k (x3 ++ [(zbg x173000 x4).f1]) (wrap64 (x4 + 1)) x173000 x173001) else (none)) else (none)) else (if x3.length + x173001.length < 5864062014805 then (some (x3 ++ x173001)) else (none))
def zax.f (k : Nat) (l0_0 : List (S121)) (l0_1 : List (List (S62))) : Option ((List (List (S62)))) := zax.l0 k ([] : List (List (S62))) 0 l0_0 l0_1
theorem zax.zaV : ∀ k, (∀ y0 y1 y2 y3, LeO (zax.l0 k y0 y1 y2 y3) (zax.l0 (k + 1) y0 y1 y2 y3))
 | 0 => fun _ _ _ _ r h => by simp [zax.l0] at h
 | k + 1 => by
  have ih0 := zax.zaV k
  ·intro y0 y1 y2 y3
   unfold zax.l0
   repeat' first
   | (with_reducible exact ih0 _ _ _ _)
   | (with_reducible exact LeO.refl _)
   | (with_reducible exact LeO.none _)
   | (with_reducible refine LeO.ite ?_ ?_)
   | (with_reducible refine LeO.bind ?_ (fun _ => ?_))
   | exact ih0 _ _ _ _
   | exact LeO.none _
   | refine LeO.ite ?_ ?_
   | refine LeO.bind ?_ (fun _ => ?_)
theorem zax.mono : ∀ a0 a1 k, LeO (zax.f k a0 a1) (zax.f (k + 1) a0 a1) := by
 intro a0 a1 k
 have ih0 := zax.zaV k
 unfold zax.f
 repeat' first
   | (with_reducible exact ih0 _ _ _ _)
   | (with_reducible exact LeO.refl _)
   | (with_reducible exact LeO.none _)
   | (with_reducible refine LeO.ite ?_ ?_)
   | (with_reducible refine LeO.bind ?_ (fun _ => ?_))
   | exact ih0 _ _ _ _
   | exact LeO.none _
   | refine LeO.ite ?_ ?_
   | refine LeO.bind ?_ (fun _ => ?_)
set_option maxHeartbeats 8000000 in
set_option maxRecDepth 100000 in
theorem zax.calls (k : Nat) (P0_0_ : Nat → Prop) (A0_0 : Option Addr) (c0_0 : Nat) (l0_0 : List (S121)) (P0_1_ : Nat → Prop) (A0_1 : Option Addr) (c0_1 : Nat) (l0_1 : List (List (S62))) (r : List (List (S62))) (w : World) (hs0_0 : Kd.V k121 121 w w.heap.size (fun k_ => P0_0_ k_) (.slice A0_0 l0_0.length c0_0) l0_0) (hs0_1 : Kd.V (Kd.slice 62 k62) 54 w w.heap.size (fun k_ => P0_1_ k_) (.slice A0_1 l0_1.length c0_1) l0_1) (h : zax.f k l0_0 l0_1 = some r) :
  Calls Tryd.prog 73 #[.agg #[.slice A0_0 l0_0.length c0_0, .slice A0_1 l0_1.length c0_1]] w fun e w' => ∃ v0_ : Value, e = .returned (v0_) ∧ Kd.N (Kd.slice 62 k62) 54 w' w.heap.size (fun k_ => ((P0_0_ k_ ∨ P0_1_ k_) ∨ w.heap.size ≤ k_)) v0_ r ∧ Below w.heap.size w w' := by
 have hu41 := Tryd.underlying41
 have HO0_0 := zaa.mk (show Kd.V k121 121 w w.heap.size (fun k_ => ((P0_0_ k_ ∨ P0_1_ k_) ∨ w.heap.size ≤ k_)) (.slice A0_0 l0_0.length c0_0) l0_0 from Kd.zby hs0_0 (fun k_ hk => .inl (.inl hk)))
 have HO0_1 := zaa.mk (show Kd.V (Kd.slice 62 k62) 54 w w.heap.size (fun k_ => ((P0_0_ k_ ∨ P0_1_ k_) ∨ w.heap.size ≤ k_)) (.slice A0_1 l0_1.length c0_1) l0_1 from Kd.zby hs0_1 (fun k_ hk => .inl (.inr hk)))
 have HB := zaa.mk (Below.refl w.heap.size w)
 have H : (zax.l0 k ([] : List (List (S62))) 0 l0_0 l0_1) = some r := h
 clear h
 have H' := zaa.mk H
 clear H
 go_enter Tryd.func73, Tryd.ntmps73
 go_wp2_with (first | ((with_reducible refine zba (N := 1) rfl ?_); refine za6 ?hg (N := 1) ?hd (cs := #[.slice A0_0 l0_0.length c0_0, .slice A0_1 l0_1.length c0_1]) (t := 41) ?hr ?_; (case hd => rfl); (case hg => rfl); (case hr => first | (go_simp; done) | (go_simp; rfl)); intro gb172 hg w2 hbox hb; have n0_ := zaa.mk (Kd.zct (Kd.zdj (by (with_reducible repeat (first | apply Kd.zbb | apply Kd.zbc | apply Kd.zbf)); exact HO0_0.out) gb172 (Nat.le_of_eq hg.symm)) hb); have n1_ := zaa.mk (Kd.zct (Kd.zdj (by (with_reducible repeat (first | apply Kd.zbb | apply Kd.zbc | apply Kd.zbf)); exact HO0_1.out) gb172 (Nat.le_of_eq hg.symm)) hb); have n2_ := zaa.mk (zat (by repeat (first | (with_reducible first | exact HB.out | apply zac | apply zab | apply zad) | exact HB.out)) hb); have n3_ := zaa.mk (hbox); have n4_ := zaa.mk ((by rw [hg]; exact (zas (by repeat (first | (with_reducible first | exact HB.out | apply zac | apply zab | apply zad) | exact HB.out))) : w.heap.size ≤ gb172)); have n5_ := zaa.mk ((by rw [hg]; exact (zas (by repeat (first | (with_reducible first | exact HB.out | apply zac | apply zab | apply zad) | exact HB.out))) : w.heap.size ≤ gb172)); clear HO0_0; clear HO0_1; clear HB; have HO0_0 := n0_; have HO0_1 := n1_; have HB := n2_; have BK172 := n3_; have GW172 := n4_; have GE172 := n5_; clear n0_ n1_ n2_ n3_ n4_ n5_; clear hb hbox hg))
 go_loopg [3, 4] k (fun kq v3 v4 w' => ∃ (x3_1 : List (List (S62))) (x4_1 : Int), v4 = .int .i64 x4_1 ∧ zaa (zax.l0 kq x3_1 x4_1 l0_0 l0_1 = some r) ∧ zaa (kq ≤ k) ∧ zaa (Kd.N (Kd.slice 62 k62) 54 w' w.heap.size (fun k_ => ((P0_0_ k_ ∨ P0_1_ k_) ∨ w.heap.size ≤ k_) ∧ k_ ≠ gb172) v3 x3_1) ∧ zaa (Kd.V k121 121 w' w.heap.size (fun k_ => ((P0_0_ k_ ∨ P0_1_ k_) ∨ w.heap.size ≤ k_) ∧ some k_ ≠ (v3 : Value).ownBlock ∧ k_ ≠ gb172) (.slice A0_0 l0_0.length c0_0) l0_0) ∧ zaa (Kd.V (Kd.slice 62 k62) 54 w' w.heap.size (fun k_ => ((P0_0_ k_ ∨ P0_1_ k_) ∨ w.heap.size ≤ k_) ∧ some k_ ≠ (v3 : Value).ownBlock ∧ k_ ≠ gb172) (.slice A0_1 l0_1.length c0_1) l0_1) ∧ zaa (w'.heap[gb172]? = some (.cells #[(.slice A0_0 l0_0.length c0_0), (.slice A0_1 l0_1.length c0_1)] 41 (0, 0))) ∧ zaa (Below w.heap.size w w'))
 case atStart => exact ⟨(([] : List (List (S62)))), (0), (by first | rfl | (simp; done) | (simp [*]; done)), H', ⟨Nat.le_refl _⟩, ⟨by first | exact Kd.zdg _ _ _ _ _ | exact Kd.zet _ _ _ _ _ | exact Kd.zer _ _ _ _ _ | exact Kd.zew _ _ _ _ _ | exact Kd.zeu _ _ _ _ _⟩, ⟨by (with_reducible repeat (first | apply Kd.zbb | apply Kd.zbc | apply Kd.zbf)); exact Kd.zby HO0_0.out (fun _ hk => ⟨hk.1, ⟨(by simp [Value.ownBlock]), hk.2⟩⟩)⟩, ⟨by (with_reducible repeat (first | apply Kd.zbb | apply Kd.zbc | apply Kd.zbf)); exact Kd.zby HO0_1.out (fun _ hk => ⟨hk.1, ⟨(by simp [Value.ownBlock]), hk.2⟩⟩)⟩, ⟨by (with_reducible repeat (first | refine zaf ?_ _ | refine zai ?_ | refine zae ?_ _)); exact BK172.out⟩, ⟨by repeat (first | (with_reducible first | exact HB.out | apply zac | apply zab | apply zad | refine zah ?_ GE172.out) | exact HB.out)⟩⟩
 case round =>
  clear H'
  try clear p2
  obtain ⟨x3_1, x4_1, rfl, HA, HK1, HO_3, HO_173000, HO_173001, BK172, HB⟩ := hrel
  cases gk with
  | zero => exact absurd HA.out (by simp [zax.l0])
  | succ k1 =>
   have H := HA.out
   clear HA
   simp only [zax.l0] at H
   by_cases c3 : x4_1 < (l0_0.length : Int)
   ·rw [if_pos c3] at H
    have c3b0 : decide (x4_1 < (l0_0.length : Int)) = true := decide_eq_true c3
    clear c3
    by_cases c4 : 0 ≤ x4_1
    ·rw [if_pos c4] at H
     have c4b0 : decide (0 ≤ x4_1) = true := decide_eq_true c4
     clear c4
     by_cases c5 : x3_1.length < 5864062014805
     ·rw [if_pos c5] at H
      have LMc5 := zaa.mk c5
      clear c5
      obtain ⟨y174, hy174⟩ : ∃ y_ : List (List (S62)), y_ = (x3_1 ++ [(zbg l0_0 x4_1).f1]) := ⟨_, rfl⟩
      replace H : (zax.l0 k1 y174 (wrap64 (x4_1 + 1)) l0_0 l0_1) = some r := by first | (rw [hy174]; with_reducible exact H) | (have H2_ := (Option.bind_some _ _).symm.trans H; rw [hy174]; with_reducible exact H2_) | (have H2_ := (Option.bind_some _ _).symm.trans H; with_reducible exact H2_) | with_reducible exact H | (rw [hy174]; exact H) | exact H
      have Ny174 := zaa.mk hy174
      clear hy174
      have H' := zaa.mk H
      clear H
      have hcz6_0 : wr.cell? ⟨gb172, 0, none⟩ = some (.slice A0_0 l0_0.length c0_0) := (zaj BK172.out 0).trans rfl
      have hcz6_1 : wr.cell? ⟨gb172, 1, none⟩ = some (.slice A0_1 l0_1.length c0_1) := (zaj BK172.out 1).trans rfl
      have hfz6_0 := zak BK172.out 0
      have hfz6_1 := zak BK172.out 1
      have p173 : 0 ≤ (x4_1 : Int) := of_decide_eq_true (by first | (with_reducible assumption) | assumption)
      have q173 : x4_1 < (l0_0.length : Int) := of_decide_eq_true (by first | (with_reducible assumption) | assumption)
      obtain ⟨ad173, A173_1, c173_1, e173, hx173_0, hx173_1, hl173_1, hi173_1⟩ := zc1 (Kd.zb8 HO_173000.out).2.2 x4_1 p173 q173
      cases e173
      obtain ⟨ce173, hce173, hMe173, hcc173⟩ := Kd.zeW HO_173000.out z121 x4_1 p173 (by first | exact q173 | exact of_decide_eq_true (by first | (with_reducible assumption) | assumption) | (have e_ := (Kd.zb8 HO_173000.out).1; omega))
      obtain ⟨ua173_1, uc173_1, rfl, ul173_1, ge173_1⟩ := ze6 hMe173
      have hv173_1 := hcc173 1 _ rfl
      rw [zbY _ _ 1 (by omega)] at hv173_1
      replace hv173_1 := Option.some.inj (hv173_1.symm.trans hx173_1)
      injection hv173_1 with hva_ hvn_ hvc_
      rw [hva_] at ge173_1
      rw [hvc_] at ul173_1
      have HL173_1 := zaa.mk (show Kd.V k62 62 _ w.heap.size _ _ ((zbg l0_0 x4_1).f1) from Kd.V_mk ul173_1 ge173_1)
      clear hva_ hvn_ hvc_ ge173_1 ul173_1
      clear hcc173 hce173
      have HR173_1 := zaa.mk hi173_1
      have HC173_1 := zaa.mk hl173_1
      clear hi173_1 hl173_1
      replace p173 := eq_true p173
      replace q173 := eq_true q173
      go_wp2_with (first | ((with_reducible refine zcw (b := .append) (xs := #[.tmp 12, .tmp 19]) rfl ?_); at_builtin; refine Kd.zj7 (Kd.slice 62 k62) (w0 := w) w.heap.size rfl (.tmp 12) (.tmp 19) 39 54 (.slice none 0 0) 24 rfl Tryd.underlying39 zjl rfl (by decide) (by omega) u3 x3_1 ((zbg l0_0 x4_1).f1) [.slice A173_1 ((zbg l0_0 x4_1).f1).length c173_1] (fun k_ => ((P0_0_ k_ ∨ P0_1_ k_) ∨ w.heap.size ≤ k_) ∧ k_ ≠ gb172) (fun k_ => ((fun k_ => ((P0_0_ k_ ∨ P0_1_ k_) ∨ w.heap.size ≤ k_) ∧ k_ ≠ gb172)) k_ ∧ some k_ ≠ (u3 : Value).ownBlock) rfl rfl ?aP (fun _ hk => hk) ?aF ?aO ?aB ?aS ?aL ?_; (case aP => exact (Kd.zfR (Kd.zb8 (Kd.zby (ok' := (fun k_ => ((fun k_ => ((P0_0_ k_ ∨ P0_1_ k_) ∨ w.heap.size ≤ k_) ∧ k_ ≠ gb172)) k_ ∧ some k_ ≠ (u3 : Value).ownBlock)) (HL173_1.out) (fun k_ hk => ⟨⟨hk.1, hk.2.2⟩, hk.2.1⟩))).2.1 (Kd.V_F (Kd.zby (ok' := (fun k_ => ((fun k_ => ((P0_0_ k_ ∨ P0_1_ k_) ∨ w.heap.size ≤ k_) ∧ k_ ≠ gb172)) k_ ∧ some k_ ≠ (u3 : Value).ownBlock)) (HL173_1.out) (fun k_ hk => ⟨⟨hk.1, hk.2.2⟩, hk.2.1⟩))))); (case aB => exact (by repeat (first | (with_reducible first | exact HB.out | apply zac | apply zab | apply zad | refine zah ?_ GE172.out) | exact HB.out))); (case aF => exact (fun k_ hk => ⟨(.inr (Nat.le_trans (zas (by repeat (first | (with_reducible first | exact HB.out | apply zac | apply zab | apply zad | refine zah ?_ GE172.out) | exact HB.out))) hk)), Kd.zcn (g := gb172) (o := .cells #[.slice (some ad173) l0_0.length c0_0, .slice A0_1 l0_1.length c0_1] 41 (0, 0)) (by (with_reducible repeat (first | refine zaf ?_ _ | refine zai ?_ | refine zae ?_ _)); exact BK172.out) k_ hk⟩)); (case aO => exact (by (with_reducible repeat (first | apply Kd.zbs | apply Kd.zbu | apply Kd.zbr)); exact HO_3.out)); (case aS => exact (zas (by repeat (first | (with_reducible first | exact HB.out | apply zac | apply zab | apply zad | refine zah ?_ GE172.out) | exact HB.out)))); (case aL => have := LMc5.out; omega); intro v175 w7 ho hb hg hat; rw [← Ny174.out] at ho; have n0_ := zaa.mk (Kd.zb6 (ok := (fun k_ => ((P0_0_ k_ ∨ P0_1_ k_) ∨ w.heap.size ≤ k_) ∧ k_ ≠ gb172)) (by (with_reducible repeat (first | apply Kd.zbb | apply Kd.zbc | apply Kd.zbf)); exact Kd.zby HO_173000.out (fun _ hk => ⟨⟨hk.1, hk.2.2⟩, hk.2.1⟩)) hg hat); have n1_ := zaa.mk (Kd.zb6 (ok := (fun k_ => ((P0_0_ k_ ∨ P0_1_ k_) ∨ w.heap.size ≤ k_) ∧ k_ ≠ gb172)) (by (with_reducible repeat (first | apply Kd.zbb | apply Kd.zbc | apply Kd.zbf)); exact Kd.zby HO_173001.out (fun _ hk => ⟨⟨hk.1, hk.2.2⟩, hk.2.1⟩)) hg hat); have n2_ := zaa.mk (zbm (g := gb172) (o := .cells #[.slice (some ad173) l0_0.length c0_0, .slice A0_1 l0_1.length c0_1] 41 (0, 0)) (by (with_reducible repeat (first | refine zaf ?_ _ | refine zai ?_ | refine zae ?_ _)); exact BK172.out) hg (Kd.N_ne HO_3.out BK172.out (by decide))); have n3_ := zaa.mk (Kd.zb6 (ok := (fun k_ => ((P0_0_ k_ ∨ P0_1_ k_) ∨ w.heap.size ≤ k_) ∧ k_ ≠ gb172)) (by (with_reducible repeat (first | apply Kd.zbb | apply Kd.zbc | apply Kd.zbf)); exact Kd.zby HL173_1.out (fun _ hk => ⟨⟨hk.1, hk.2.2⟩, hk.2.1⟩)) hg hat); have n4_ := zaa.mk (hb); have n5_ := zaa.mk (ho); clear HO_173000; clear HO_173001; clear BK172; clear HL173_1; clear HB; clear HO_3; have HO_173000 := n0_; have HO_173001 := n1_; have BK172 := n2_; have HL173_1 := n3_; have HB := n4_; have HO176 := n5_; clear n0_ n1_ n2_ n3_ n4_ n5_; clear ho hb hg hat))
      go_roundg k1
      case measure => have := HK1.out; omega
      case rel => exact ⟨(y174), (wrap64 (x4_1 + 1)), (by first | rfl | (simp; done) | (simp [*]; done)), H', ⟨by have := HK1.out; omega⟩, ⟨by (with_reducible repeat (first | apply Kd.zbs | apply Kd.zbu | apply Kd.zbr)); exact HO176.out⟩, ⟨by (with_reducible repeat (first | apply Kd.zbb | apply Kd.zbc | apply Kd.zbf)); exact Kd.zby HO_173000.out (fun _ hk => ⟨hk.1.1, ⟨hk.2, hk.1.2⟩⟩)⟩, ⟨by (with_reducible repeat (first | apply Kd.zbb | apply Kd.zbc | apply Kd.zbf)); exact Kd.zby HO_173001.out (fun _ hk => ⟨hk.1.1, ⟨hk.2, hk.1.2⟩⟩)⟩, ⟨by (with_reducible repeat (first | refine zaf ?_ _ | refine zai ?_ | refine zae ?_ _)); exact BK172.out⟩, ⟨by repeat (first | (with_reducible first | exact HB.out | apply zac | apply zab | apply zad | refine zah ?_ GE172.out) | exact HB.out)⟩⟩
     ·rw [if_neg c5] at H
      exact absurd H (by simp)
    ·rw [if_neg c4] at H
     exact absurd H (by simp)
   ·rw [if_neg c3] at H
    have c3b0 : decide (x4_1 < (l0_0.length : Int)) = false := decide_eq_false c3
    clear c3
    by_cases c8 : x3_1.length + l0_1.length < 5864062014805
    ·rw [if_pos c8] at H
     have LMc8 := zaa.mk c8
     clear c8
     obtain ⟨y177, hy177⟩ : ∃ y_ : List (List (S62)), y_ = (x3_1 ++ l0_1) := ⟨_, rfl⟩
     replace H : (some y177) = some r := by first | (rw [hy177]; with_reducible exact H) | (have H2_ := (Option.bind_some _ _).symm.trans H; rw [hy177]; with_reducible exact H2_) | (have H2_ := (Option.bind_some _ _).symm.trans H; with_reducible exact H2_) | with_reducible exact H | (rw [hy177]; exact H) | exact H
     have Ny177 := zaa.mk hy177
     clear hy177
     obtain rfl := Option.some.inj H
     have hcz9_0 : wr.cell? ⟨gb172, 0, none⟩ = some (.slice A0_0 l0_0.length c0_0) := (zaj BK172.out 0).trans rfl
     have hcz9_1 : wr.cell? ⟨gb172, 1, none⟩ = some (.slice A0_1 l0_1.length c0_1) := (zaj BK172.out 1).trans rfl
     have hfz9_0 := zak BK172.out 0
     have hfz9_1 := zak BK172.out 1
     go_wp2_with (first | ((with_reducible refine zcw (b := .append) (xs := #[.tmp 21, .tmp 23]) rfl ?_); at_builtin; refine Kd.zhf (Kd.slice 62 k62) (w0 := w) w.heap.size rfl (.tmp 21) (.tmp 23) 39 54 (.slice none 0 0) 24 rfl Tryd.underlying39 zjl rfl (by decide) (by omega) u3 x3_1 l0_1 _ _ _ (fun k_ => ((P0_0_ k_ ∨ P0_1_ k_) ∨ w.heap.size ≤ k_) ∧ k_ ≠ gb172) (fun k_ => ((fun k_ => ((P0_0_ k_ ∨ P0_1_ k_) ∨ w.heap.size ≤ k_) ∧ k_ ≠ gb172)) k_ ∧ some k_ ≠ (u3 : Value).ownBlock) rfl rfl ?aO ?aR (fun _ hk => hk) ?aF ?aB ?aS ?aL ?_; (case aR => exact (by skip; exact Kd.V_F (Kd.zby (ok' := (fun k_ => ((fun k_ => ((P0_0_ k_ ∨ P0_1_ k_) ∨ w.heap.size ≤ k_) ∧ k_ ≠ gb172)) k_ ∧ some k_ ≠ (u3 : Value).ownBlock)) (HO_173001.out) (fun k_ hk => ⟨⟨hk.1, hk.2.2⟩, hk.2.1⟩)))); (case aB => exact (by repeat (first | (with_reducible first | exact HB.out | apply zac | apply zab | apply zad | refine zah ?_ GE172.out) | exact HB.out))); (case aF => exact (fun k_ hk => ⟨(.inr (Nat.le_trans (zas (by repeat (first | (with_reducible first | exact HB.out | apply zac | apply zab | apply zad | refine zah ?_ GE172.out) | exact HB.out))) hk)), Kd.zcn (g := gb172) (o := .cells #[.slice A0_0 l0_0.length c0_0, .slice A0_1 l0_1.length c0_1] 41 (0, 0)) (by (with_reducible repeat (first | refine zaf ?_ _ | refine zai ?_ | refine zae ?_ _)); exact BK172.out) k_ hk⟩)); (case aO => exact (by (with_reducible repeat (first | apply Kd.zbs | apply Kd.zbu | apply Kd.zbr)); exact HO_3.out)); (case aS => exact (zas (by repeat (first | (with_reducible first | exact HB.out | apply zac | apply zab | apply zad | refine zah ?_ GE172.out) | exact HB.out)))); (case aL => have := LMc8.out; omega); intro v178 w10 ho hb hg hat; rw [← Ny177.out] at ho; have n0_ := zaa.mk (Kd.zb6 (ok := (fun k_ => ((P0_0_ k_ ∨ P0_1_ k_) ∨ w.heap.size ≤ k_) ∧ k_ ≠ gb172)) (by (with_reducible repeat (first | apply Kd.zbb | apply Kd.zbc | apply Kd.zbf)); exact Kd.zby HO_173000.out (fun _ hk => ⟨⟨hk.1, hk.2.2⟩, hk.2.1⟩)) hg hat); have n1_ := zaa.mk (Kd.zb6 (ok := (fun k_ => ((P0_0_ k_ ∨ P0_1_ k_) ∨ w.heap.size ≤ k_) ∧ k_ ≠ gb172)) (by (with_reducible repeat (first | apply Kd.zbb | apply Kd.zbc | apply Kd.zbf)); exact Kd.zby HO_173001.out (fun _ hk => ⟨⟨hk.1, hk.2.2⟩, hk.2.1⟩)) hg hat); have n2_ := zaa.mk (zbm (g := gb172) (o := .cells #[.slice A0_0 l0_0.length c0_0, .slice A0_1 l0_1.length c0_1] 41 (0, 0)) (by (with_reducible repeat (first | refine zaf ?_ _ | refine zai ?_ | refine zae ?_ _)); exact BK172.out) hg (Kd.N_ne HO_3.out BK172.out (by decide))); have n3_ := zaa.mk (hb); have n4_ := zaa.mk (ho); clear HO_173000; clear HO_173001; clear BK172; clear HB; clear HO_3; have HO_173000 := n0_; have HO_173001 := n1_; have BK172 := n2_; have HB := n3_; have HO179 := n4_; clear n0_ n1_ n2_ n3_ n4_; clear ho hb hg hat))
     go_ret
     exact ⟨_, by first | rfl | (simp [zam, zan] <;> rfl) | (simp [*, zam, zan] <;> rfl), by (with_reducible repeat (first | apply Kd.zbs | apply Kd.zbu | apply Kd.zbr)); exact Kd.zbP HO179.out (fun _ hk => hk.1), by repeat (first | (with_reducible first | exact HB.out | apply zac | apply zab | apply zad | refine zah ?_ GE172.out) | exact HB.out)⟩
    ·rw [if_neg c8] at H
     exact absurd H (by simp)
def zaH.l0 : Nat → Int → List (List (S62)) → Int → Option (Int)
 | 0, _, _, _ => none
 | k + 1, x3, x4, x5 => if x5 < (x4.length : Int) then (if 0 ≤ x5 then (zaH.l0 k (wrap64 (x3 + ((zbH x4 x5).length : Int))) x4 (wrap64 (x5 + 1))) else (none)) else (some x3)
def zaH.f (k : Nat) (l0_0 : List (S121)) (l0_1 : List (List (S62))) : Option (Int) := (zax.f k l0_0 l0_1).bind fun t181 => (zaH.l0 k 0 t181 0)
theorem zaH.zaV : ∀ k, (∀ y0 y1 y2, LeO (zaH.l0 k y0 y1 y2) (zaH.l0 (k + 1) y0 y1 y2))
 | 0 => fun _ _ _ r h => by simp [zaH.l0] at h
 | k + 1 => by
  have ih0 := zaH.zaV k
  ·intro y0 y1 y2
   unfold zaH.l0
   repeat' first
   | (with_reducible exact ih0 _ _ _)
   | (with_reducible exact zax.mono _ _ _)
   | (with_reducible exact LeO.refl _)
   | (with_reducible exact LeO.none _)
   | (with_reducible refine LeO.ite ?_ ?_)
   | (with_reducible refine LeO.bind ?_ (fun _ => ?_))
   | exact ih0 _ _ _
   | exact zax.mono _ _ _
   | exact LeO.none _
   | refine LeO.ite ?_ ?_
   | refine LeO.bind ?_ (fun _ => ?_)
theorem zaH.mono : ∀ a0 a1 k, LeO (zaH.f k a0 a1) (zaH.f (k + 1) a0 a1) := by
 intro a0 a1 k
 have ih0 := zaH.zaV k
 unfold zaH.f
 repeat' first
   | (with_reducible exact ih0 _ _ _)
   | (with_reducible exact zax.mono _ _ _)
   | (with_reducible exact LeO.refl _)
   | (with_reducible exact LeO.none _)
   | (with_reducible refine LeO.ite ?_ ?_)
   | (with_reducible refine LeO.bind ?_ (fun _ => ?_))
   | exact ih0 _ _ _
   | exact zax.mono _ _ _
   | exact LeO.none _
   | refine LeO.ite ?_ ?_
   | refine LeO.bind ?_ (fun _ => ?_)
set_option maxHeartbeats 8000000 in
set_option maxRecDepth 100000 in
theorem zaH.calls (k : Nat) (A0_0 : Option Addr) (c0_0 : Nat) (l0_0 : List (S121)) (A0_1 : Option Addr) (c0_1 : Nat) (l0_1 : List (List (S62))) (r : Int) (w : World) (hr0_0 : Kd.C k121 w A0_0 l0_0.length l0_0) (hc0_0 : l0_0.length ≤ c0_0) (hr0_1 : Kd.C (Kd.slice 62 k62) w A0_1 l0_1.length l0_1) (hc0_1 : l0_1.length ≤ c0_1) (h : zaH.f k l0_0 l0_1 = some r) :
  Calls Tryd.prog 72 #[.agg #[.slice A0_0 l0_0.length c0_0, .slice A0_1 l0_1.length c0_1]] w fun e w' => e = .returned (.int .i64 r) ∧ Below w.heap.size w w' := by
 have hu41 := Tryd.underlying41
 have HR0_0 := zaa.mk hr0_0
 have HC0_0 := zaa.mk hc0_0
 clear hr0_0 hc0_0
 have HR0_1 := zaa.mk hr0_1
 have HC0_1 := zaa.mk hc0_1
 clear hr0_1 hc0_1
 have HB := zaa.mk (Below.refl w.heap.size w)
 have H : ((zax.f k l0_0 l0_1).bind fun t181 => (zaH.l0 k 0 t181 0)) = some r := h
 clear h
 replace H := Option.bind_eq_some_iff.mp H
 obtain ⟨t181, A20, H⟩ := H
 replace H : (zaH.l0 k 0 t181 0) = some r := H
 have A2 := zaa.mk A20
 clear A20
 have H' := zaa.mk H
 clear H
 go_enter Tryd.func72, Tryd.ntmps72
 go_wp2_with (first | ((with_reducible refine zba (N := 1) rfl ?_); refine za6 ?hg (N := 1) ?hd (cs := #[.slice A0_0 l0_0.length c0_0, .slice A0_1 l0_1.length c0_1]) (t := 41) ?hr ?_; (case hd => rfl); (case hg => rfl); (case hr => first | (go_simp; done) | (go_simp; rfl)); intro gb180 hg w3 hbox hb; have n0_ := zaa.mk (zat (by repeat (first | (with_reducible first | exact HB.out | apply zac | apply zab | apply zad) | exact HB.out)) hb); have n1_ := zaa.mk (hbox); have n2_ := zaa.mk ((by rw [hg]; exact (zas (by repeat (first | (with_reducible first | exact HB.out | apply zac | apply zab | apply zad) | exact HB.out))) : w.heap.size ≤ gb180)); have n3_ := zaa.mk ((by rw [hg]; exact (zas (by repeat (first | (with_reducible first | exact HB.out | apply zac | apply zab | apply zad) | exact HB.out))) : w.heap.size ≤ gb180)); clear HB; have HB := n0_; have BK180 := n1_; have GW180 := n2_; have GE180 := n3_; clear n0_ n1_ n2_ n3_; clear hb hbox hg; have hcz4_0 : w3.cell? ⟨gb180, 0, none⟩ = some (.slice A0_0 l0_0.length c0_0) := (zaj BK180.out 0).trans rfl; have hcz4_1 : w3.cell? ⟨gb180, 1, none⟩ = some (.slice A0_1 l0_1.length c0_1) := (zaj BK180.out 1).trans rfl; have hfz4_0 := zak BK180.out 0; have hfz4_1 := zak BK180.out 1) | ((with_reducible refine zaI (f := 73) rfl ?_); refine za5 (some 7) rfl rfl Tryd.func73 (by kernel_rfl) rfl #[.agg #[.slice A0_0 l0_0.length c0_0, .slice A0_1 l0_1.length c0_1]] rfl (by (try simp only [List.map_toArray, List.map_cons, List.map_nil]); first | done | rfl | (simp only [List.length_drop, List.length_take]; rfl)) ?_; (with_reducible refine (zax.calls k (fun k_ => k_ < w.heap.size) _ _ l0_0 (fun k_ => k_ < w.heap.size) _ _ l0_1 t181 _ ?side1 ?side2 A2.out).mono ?_); (case side1 => exact Kd.V_mk HC0_0.out (Kd.zc0 (Kd.C_F zfA HR0_0.out) (by repeat (first | (with_reducible first | exact HB.out | apply zac | apply zab | apply zad | refine zah ?_ GE180.out) | exact HB.out)))); (case side2 => exact Kd.V_mk HC0_1.out (Kd.zc0 (Kd.C_F (Kd.zcS 62 zeS) HR0_1.out) (by repeat (first | (with_reducible first | exact HB.out | apply zac | apply zab | apply zad | refine zah ?_ GE180.out) | exact HB.out)))); rintro e w5 ⟨v182, rfl, ho0, hb⟩; refine ⟨_, rfl, ?_⟩; have n0_ := zaa.mk (Kd.zfI (Kd.zbP (ok' := fun k_ => k_ ≠ gb180) ho0 (fun k_ hk_ => Or.elim hk_ (fun hs_ => Or.elim hs_ (fun hs_ => fun e_ => Nat.not_le.2 hs_ (by rw [e_]; exact GW180.out)) (fun hs_ => fun e_ => Nat.not_le.2 hs_ (by rw [e_]; exact GW180.out))) (fun hn_ => (Kd.zcn (g := gb180) (o := .cells #[.slice A0_0 l0_0.length c0_0, .slice A0_1 l0_1.length c0_1] 41 (0, 0)) (by (with_reducible repeat (first | refine zaf ?_ _ | refine zai ?_ | refine zae ?_ _)); exact BK180.out) k_ hn_)))) (zas (by repeat (first | (with_reducible first | exact HB.out | apply zac | apply zab | apply zad | refine zah ?_ GE180.out) | exact HB.out)))); have n1_ := zaa.mk (zaM (g := gb180) (o := .cells #[.slice A0_0 l0_0.length c0_0, .slice A0_1 l0_1.length c0_1] 41 (0, 0)) (by (with_reducible repeat (first | refine zaf ?_ _ | refine zai ?_ | refine zae ?_ _)); exact BK180.out) hb); have n2_ := zaa.mk (zat (by repeat (first | (with_reducible first | exact HB.out | apply zac | apply zab | apply zad | refine zah ?_ GE180.out) | exact HB.out)) hb); clear BK180; clear HB; have HO183 := n0_; have BK180 := n1_; have HB := n2_; clear n0_ n1_ n2_; (try clear hb); (try clear hb2); (try clear hk); (try clear hi); (try clear ho0)))
 go_loopg [3, 5] k (fun kq v3 v5 w' => ∃ (x3_1 : Int) (x5_1 : Int), v3 = .int .i64 x3_1 ∧ v5 = .int .i64 x5_1 ∧ zaa (zaH.l0 kq x3_1 t181 x5_1 = some r) ∧ zaa (kq ≤ k) ∧ zaa (Kd.N (Kd.slice 62 k62) 54 w' w.heap.size (fun k_ => k_ ≠ gb180) v182 t181) ∧ zaa (w'.heap[gb180]? = some (.cells #[(.slice A0_0 l0_0.length c0_0), (.slice A0_1 l0_1.length c0_1)] 41 (0, 0))) ∧ zaa (Below w.heap.size w w'))
 case atStart => exact ⟨(0), (0), (by first | rfl | (simp; done) | (simp [*]; done)), (by first | rfl | (simp; done) | (simp [*]; done)), H', ⟨Nat.le_refl _⟩, ⟨by (with_reducible repeat (first | apply Kd.zbs | apply Kd.zbu | apply Kd.zbr)); exact HO183.out⟩, ⟨by (with_reducible repeat (first | refine zaf ?_ _ | refine zai ?_ | refine zae ?_ _)); exact BK180.out⟩, ⟨by repeat (first | (with_reducible first | exact HB.out | apply zac | apply zab | apply zad | refine zah ?_ GE180.out) | exact HB.out)⟩⟩
 case round =>
  clear H'
  try clear p2
  try clear hcz4_0
  try clear hcz4_1
  try clear hfz4_0
  try clear hfz4_1
  obtain ⟨x3_1, x5_1, rfl, rfl, HA, HK1, HO_4, BK180, HB⟩ := hrel
  cases gk with
  | zero => exact absurd HA.out (by simp [zaH.l0])
  | succ k1 =>
   have H := HA.out
   clear HA
   simp only [zaH.l0] at H
   by_cases c6 : x5_1 < (t181.length : Int)
   ·rw [if_pos c6] at H
    have c6b0 : decide (x5_1 < (t181.length : Int)) = true := decide_eq_true c6
    clear c6
    by_cases c7 : 0 ≤ x5_1
    ·rw [if_pos c7] at H
     have c7b0 : decide (0 ≤ x5_1) = true := decide_eq_true c7
     clear c7
     have H' := zaa.mk H
     clear H
     obtain ⟨Ao8, co8, eo8⟩ := Kd.zcq HO_4.out
     subst eo8
     have p184 : 0 ≤ (x5_1 : Int) := of_decide_eq_true (by first | (with_reducible assumption) | assumption)
     have q184 : x5_1 < (t181.length : Int) := of_decide_eq_true (by first | (with_reducible assumption) | assumption)
     obtain ⟨ad184, A184_0, c184_0, e184, hx184_0, hl184_0, hi184_0⟩ := zdS (Kd.zbR HO_4.out).2.2 x5_1 p184 q184
     cases e184
     obtain ⟨ce184, hce184, hMe184, hcc184⟩ := Kd.zeM HO_4.out [] x5_1 p184 (by first | exact q184 | exact of_decide_eq_true (by first | (with_reducible assumption) | assumption) | (have e_ := (Kd.zbR HO_4.out).1; omega))
     obtain ⟨ua184_0, uc184_0, rfl, ul184_0, ge184_0⟩ := Kd.zcm hMe184
     have hv184_0 := hcc184 0 _ rfl
     rw [Nat.add_zero, show ((Kd.slice 62 k62)).sz = 1 from rfl, Nat.mul_one] at hv184_0
     replace hv184_0 := Option.some.inj (hv184_0.symm.trans hx184_0)
     injection hv184_0 with hva_ hvn_ hvc_
     rw [hva_] at ge184_0
     rw [hvc_] at ul184_0
     have HL184_0 := zaa.mk (show Kd.V k62 62 _ w.heap.size _ _ (zbH t181 x5_1) from Kd.V_mk ul184_0 ge184_0)
     clear hva_ hvn_ hvc_ ge184_0 ul184_0
     clear hcc184 hce184
     have HR184_0 := zaa.mk hi184_0
     have HC184_0 := zaa.mk hl184_0
     clear hi184_0 hl184_0
     replace p184 := eq_true p184
     replace q184 := eq_true q184
     go_wp2
     go_roundg k1
     case measure => have := HK1.out; omega
     case rel => exact ⟨(wrap64 (x3_1 + ((zbH t181 x5_1).length : Int))), (wrap64 (x5_1 + 1)), (by first | rfl | (simp; done) | (simp [*]; done)), (by first | rfl | (simp; done) | (simp [*]; done)), H', ⟨by have := HK1.out; omega⟩, ⟨by (with_reducible repeat (first | apply Kd.zbs | apply Kd.zbu | apply Kd.zbr)); exact HO_4.out⟩, ⟨by (with_reducible repeat (first | refine zaf ?_ _ | refine zai ?_ | refine zae ?_ _)); exact BK180.out⟩, ⟨by repeat (first | (with_reducible first | exact HB.out | apply zac | apply zab | apply zad | refine zah ?_ GE180.out) | exact HB.out)⟩⟩
    ·rw [if_neg c7] at H
     exact absurd H (by simp)
   ·rw [if_neg c6] at H
    have c6b0 : decide (x5_1 < (t181.length : Int)) = false := decide_eq_false c6
    clear c6
    obtain rfl := Option.some.inj H
    obtain ⟨Ao9, co9, eo9⟩ := Kd.zcq HO_4.out
    subst eo9
    go_wp2
    go_ret
    exact ⟨by first | rfl | (simp [zam, zan] <;> rfl) | (simp [*, zam, zan] <;> rfl), by repeat (first | (with_reducible first | exact HB.out | apply zac | apply zab | apply zad | refine zah ?_ GE180.out) | exact HB.out)⟩
end Go.Proofs.YtbicjgaadknmfaaDoor.P
end
