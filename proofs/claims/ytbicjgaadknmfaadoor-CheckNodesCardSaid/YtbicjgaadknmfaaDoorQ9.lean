import Derived.Test.YtbicjgaadknmfaaDoorQ5
import Derived.Test.YtbicjgaadknmfaaDoorQ2
import Derived.Test.YtbicjgaadknmfaaDoorQ1
import Derived.Test.YtbicjgaadknmfaaDoorQ4
import Derived.Test.YtbicjgaadknmfaaDoorQ8
import Derived.Test.YtbicjgaadknmfaaDoorQ6
import Derived.Test.YtbicjgaadknmfaaDoorQ3
import Derived.Test.YtbicjgaadknmfaaDoorQ0
import Derived.ProofKit
import Derived.Deep.Slices
import Derived.Deep.Strs
section
namespace Go.Proofs.YtbicjgaadknmfaaDoor.M
open Go.RowKit Go.Proofs.YtbicjgaadknmfaaDoorW.PrintWords Go.Proofs.YtbicjgaadknmfaaDoor.P
set_option linter.unusedVariables false
set_option linter.unusedSimpArgs false
theorem Wl.set {l : List Int} (h : Wl l) (j : Nat) {v : Int} (h0 : 0 ≤ v) (h1 : v < 4294967296) : Wl (l.set j v) := by
  intro y hy
  rcases List.mem_or_eq_of_mem_set hy with hy | rfl
  · exact h y hy
  · exact ⟨h0, h1⟩
theorem zkx {l : List Int} {j : Nat} (hj : j < l.length) (v : Int) : val (l.set j v) = val l + (v - l[j]) * 4294967296 ^ j := by
  induction l generalizing j with
  | nil => simp at hj
  | cons x l ih =>
    cases j with
    | zero => simp [val]; omega
    | succ j =>
      simp only [List.set_cons_succ, val, List.getElem_cons_succ]
      rw [ih (by simpa using hj), Int.pow_succ]
      grind
theorem zjv {l : List Int} {i : Nat} (hi : i < l.length) : val (l.take (i + 1)) = val (l.take i) + l[i] * 4294967296 ^ i := by
  rw [List.take_succ_eq_append_getElem hi, val_append]
  simp only [List.length_take, val]
  rw [show min i l.length = i by omega]
  grind
theorem zgx (l : List Int) (hn : l.length < 35184372088832) (j : Nat) (hj : j ≤ l.length) : Ev (fun k => zaA.l0 k l (j : Int)) (strip (l.take j)) := by
  induction j with
  | zero =>
    refine Ev.step (f := fun _ => some (strip (l.take 0))) (fun k => ?_) (Ev.now _)
    simp only [zaA.l0]
    rw [if_neg (by omega), Option.bind_some, if_pos (by omega), if_pos (by omega), if_pos (by first | (simp; done) | (simp; omega))]
    rfl
  | succ j ih =>
    have hlt : j < l.length := by omega
    have e : ((j + 1 : Nat) : Int) - 1 = (j : Int) := by omega
    rw [List.take_succ_eq_append_getElem hlt]
    by_cases h0 : l[j] = 0
    · rw [h0, ze8]
      refine Ev.step (fun k => ?_) (ih (by omega))
      simp only [zaA.l0]
      rw [if_pos (by omega), e, zbv (by omega) (by omega), if_pos (by omega), if_pos (by omega), zdr hlt, if_pos h0]
    · rw [zgk _ _ h0]
      refine Ev.step (f := fun _ => some (l.take j ++ [l[j]])) (fun k => ?_) (Ev.now _)
      simp only [zaA.l0]
      rw [if_pos (by omega), e, zbv (by omega) (by omega), if_pos (by omega), if_pos (by omega), zdr hlt, if_neg h0, Option.bind_some, if_pos (by omega), if_pos (by omega), if_pos (by simp; omega), List.nil_append,
        show ((j + 1 : Nat) : Int).toNat = j + 1 by omega, List.take_succ_eq_append_getElem hlt]
theorem zft {l : List Int} (h : Wl l) (hn : l.length < 35184372088832) : Ev (fun k => zaA.f k l) (words (val l).toNat) := by
  have := zgx l hn l.length (Nat.le_refl _)
  rw [List.take_length, zc0 h] at this
  exact this
theorem zh6 (a b : List Int) (hl : a.length = b.length) (hn : a.length ≤ 1000000000) (m : Nat) : ∀ i : Nat, i + m = a.length → Ev (fun k => zaH.l0 k a b (i : Int)) (decide (a.drop i = b.drop i)) := by
  induction m with
  | zero =>
    intro i hi
    refine Ev.step (f := fun _ => some (decide (a.drop i = b.drop i))) (fun k => ?_) (Ev.now _)
    simp only [zaH.l0]
    rw [if_neg (by omega), List.drop_of_length_le (by omega), List.drop_of_length_le (by omega)]
    rfl
  | succ m ih =>
    intro i hi
    have h1 : i < a.length := by omega
    have h2 : i < b.length := by omega
    rw [List.drop_eq_getElem_cons h1, List.drop_eq_getElem_cons h2]
    by_cases he : a[i] = b[i]
    · have e : decide (a[i] :: a.drop (i + 1) = b[i] :: b.drop (i + 1)) = decide (a.drop (i + 1) = b.drop (i + 1)) := decide_eq_decide.2 ⟨fun h => (List.cons.inj h).2, fun h => by rw [he, h]⟩
      rw [e]
      refine Ev.step (fun k => ?_) (ih (i + 1) (by omega))
      simp only [zaH.l0]
      rw [if_pos (by omega), if_pos (by omega), if_pos (by omega), zdr h1, zdr h2, if_pos he, zbv (by omega) (by omega)]
      rfl
    · have e : decide (a[i] :: a.drop (i + 1) = b[i] :: b.drop (i + 1)) = false := decide_eq_false (fun h => he (List.cons.inj h).1)
      rw [e]
      refine Ev.step (f := fun _ => some false) (fun k => ?_) (Ev.now _)
      simp only [zaH.l0]
      rw [if_pos (by omega), if_pos (by omega), if_pos (by omega), zdr h1, zdr h2, if_neg he]
theorem ziR (a b : List Int) (hn : a.length ≤ 1000000000) : Ev (fun k => zaH.f k a b) (decide (a = b)) := by
  by_cases hl : a.length = b.length
  · refine Ev.congr (fun k => ?_) (zh6 a b hl hn a.length 0 (by omega))
    unfold zaH.f
    rw [if_pos (by omega)]
    rfl
  · have e : decide (a = b) = false := by simp; intro h; exact hl (by rw [h])
    rw [e]
    refine Ev.congr (f := fun _ => some false) (fun k => ?_) (Ev.now _)
    unfold zaH.f
    rw [if_neg (by omega)]
theorem ziO {l : List Int} (hl : Wl l) (hn : l.length ≤ 1000000000) (j : Nat) :
    ∀ (qs : List Int) (r : Int), j ≤ l.length → Wl qs → val qs * 10 + r = val (l.drop j) → 0 ≤ r → r < 10 →
      ∃ o, Ev (fun k => zaK.l0 k (l.take j ++ qs) r ((j : Int) - 1)) (val l % 10, o) ∧ Wl o ∧ val o = val l / 10 ∧ o.length = j + qs.length := by
  induction j with
  | zero =>
    intro qs r hj hw hv h0 h1
    obtain ⟨e1, e2⟩ := zfc hv h0 h1
    rw [List.drop_zero] at e1 e2
    refine ⟨qs, ?_, hw, e1.symm, by omega⟩
    refine Ev.step (f := fun _ => some (val l % 10, qs)) (fun k => ?_) (Ev.now _)
    simp only [zaK.l0, List.take_zero, List.nil_append]
    rw [if_neg (by omega), e2]
  | succ j ih =>
    intro qs r hj hw hv h0 h1
    have hi : j < l.length := by omega
    have hg := hl.get j hi
    have hdm := Int.mul_ediv_add_emod (r * 4294967296 + l[j]) 10
    have hq0 : 0 ≤ (r * 4294967296 + l[j]) / 10 := by omega
    have hq1 : (r * 4294967296 + l[j]) / 10 < 4294967296 := by omega
    have hr0 : 0 ≤ (r * 4294967296 + l[j]) % 10 := by omega
    have hr1 : (r * 4294967296 + l[j]) % 10 < 10 := by omega
    have hv' : val ((r * 4294967296 + l[j]) / 10 :: qs) * 10 + (r * 4294967296 + l[j]) % 10 = val (l.drop j) := by
      rw [List.drop_eq_getElem_cons hi]
      simp only [val]
      rw [← hv]
      grind
    obtain ⟨o, he, hwo, hvo, hlo⟩ := ih ((r * 4294967296 + l[j]) / 10 :: qs) _ (by omega) (Wl.cons hq0 hq1 hw) hv' hr0 hr1
    refine ⟨o, ?_, hwo, hvo, by rw [hlo]; simp; omega⟩
    refine Ev.step (fun k => ?_) he
    simp only [zaK.l0]
    have e1 : ((j + 1 : Nat) : Int) - 1 = (j : Int) := by omega
    have e2 : (l.take (j + 1) ++ qs).set j ((r * 4294967296 + l[j]) / 10) = l.take j ++ (r * 4294967296 + l[j]) / 10 :: qs := by
      rw [List.take_succ_eq_append_getElem hi, List.append_assoc, List.set_append_right _ _ (by simp; omega)]
      simp [show min j l.length = j by omega]
    have e3 : rd (l.take (j + 1) ++ qs) (j : Int) = l[j] := by
      rw [zdr (by simp; omega), List.getElem_append_left (by simp; omega), List.getElem_take]
    rw [e1, if_pos (by omega), if_pos (by omega), if_pos (by simp; omega), e3, zdc (n := l[j]) (by omega) (by omega), zdc (n := r * 4294967296) (by omega) (by omega), zdc (n := r * 4294967296 + l[j]) (by omega) (by omega),
      Int.tmod_eq_emod_of_nonneg (by omega), Int.tdiv_eq_ediv_of_nonneg (by omega), zdc hq0 (by omega), Int.emod_eq_of_lt (a := (r * 4294967296 + l[j]) / 10) hq0 hq1, show ((j : Int)).toNat = j from by omega, e2, zbv (by omega) (by omega)]
theorem zjO {l : List Int} (hl : Wl l) (hn : l.length ≤ 1000000000) : ∃ o, Ev (fun k => zaK.f k l) (val l % 10, o) ∧ Wl o ∧ val o = val l / 10 ∧ o.length = l.length := by
  obtain ⟨o, he, hw, hv, hlo⟩ := ziO hl hn l.length [] 0 (Nat.le_refl _) Wl.nil (by simp [val]) (by omega) (by omega)
  refine ⟨o, Ev.congr (fun k => ?_) he, hw, hv, by simpa using hlo⟩
  unfold zaK.f
  rw [List.take_length, List.append_nil, zbv (by omega) (by omega)]
theorem zhZ (d : Nat) (h : d < 10) : ((⟨#[48, 49, 50, 51, 52, 53, 54, 55, 56, 57]⟩ : ByteArray).extract d (d + 1)) = ofL [UInt8.ofNat (48 + d)] := by
  have : d = 0 ∨ d = 1 ∨ d = 2 ∨ d = 3 ∨ d = 4 ∨ d = 5 ∨ d = 6 ∨ d = 7 ∨ d = 8 ∨ d = 9 := by omega
  rcases this with rfl | rfl | rfl | rfl | rfl | rfl | rfl | rfl | rfl | rfl <;> rfl
theorem zfJ (n : Nat) (s : List UInt8) (hn : (words n).length ≤ 1000000) (hs : s.length ≤ 1000000000) {R : ByteArray} (k : Ev (fun k => zau.l0 k (words (n / 10)) (ofL (UInt8.ofNat (48 + n % 10) :: s))) R) :
    Ev (fun k => zau.j1 k (words n) (ofL s) true) R := by
  obtain ⟨o, he, hw, hv, hlo⟩ := zjO (zd7 n) (by omega)
  rw [zc8] at he hv
  have hno := zft hw (by omega)
  rw [hv] at hno
  have e1 : ((n : Int) / 10).toNat = n / 10 := by omega
  have e2 : (n : Int) % 10 = ((n % 10 : Nat) : Int) := by omega
  have hd : n % 10 < 10 := by omega
  rw [e1] at hno
  rw [e2] at he
  generalize hdd : n % 10 = d at *
  obtain ⟨K1, k1⟩ := he
  obtain ⟨K2, k2⟩ := hno
  obtain ⟨K3, k3⟩ := k
  dsimp only at k1 k2 k3
  refine ⟨K1 + K2 + K3 + 1, fun k hk => ?_⟩
  obtain ⟨k, rfl⟩ : ∃ j, k = j + 1 := ⟨k - 1, by omega⟩
  have e3 : IntKind.u64.wrap ((d : Int) + 1) = ((d + 1 : Nat) : Int) := by rw [zdc (by omega) (by omega)]; omega
  have e4 : ofL [UInt8.ofNat (48 + d)] ++ ofL s = ofL (UInt8.ofNat (48 + d) :: s) := by apply zfn; simp
  simp only [zau.j1]
  rw [if_pos trivial, k1 k (by omega), Option.bind_some]
  simp only [e3, Int.toNat_natCast]
  rw [zhZ d hd, if_pos (by omega), if_pos (by omega), if_pos (by omega), if_pos (by simp; omega), k2 k (by omega), Option.bind_some, e4]
  exact k3 k (by omega)
theorem zih (n : Nat) : ∀ (s : List UInt8), (words n).length ≤ 1000000 → (if n = 0 ∧ s ≠ [] then s else dec n ++ s).length ≤ 1000000000 → Ev (fun k => zau.l0 k (words n) (ofL s)) (ofL (if n = 0 ∧ s ≠ [] then s else dec n ++ s)) := by
  induction n using Nat.strongRecOn with
  | ind n ih =>
    intro s hn hs
    by_cases h0 : n = 0
    · subst h0
      rw [zbY]
      by_cases hs0 : s = []
      · subst hs0
        rw [if_neg (by simp)]
        have e5 : Ev (fun k => zau.l0 k (words (0 / 10)) (ofL [UInt8.ofNat (48 + 0 % 10)])) (ofL (dec 0 ++ [])) := by
          rw [show (0 / 10 : Nat) = 0 from rfl, zbY, zdp 0 (by decide)]
          refine Ev.step (f := fun k => zau.j1 k [] (ofL [UInt8.ofNat (48 + 0 % 10)]) false) (fun k => ?_) (Ev.step (f := fun _ => some (ofL [UInt8.ofNat (48 + 0)])) (fun k => ?_) (Ev.now _))
          · simp only [zau.l0]
            rw [if_neg (by simp), toList_eq, zcG]
            rfl
          · rfl
        have := zfJ 0 [] (by rw [zbY]; simp) (by simp) e5
        rw [zbY] at this
        refine Ev.step (fun k => ?_) this
        simp only [zau.l0]
        rw [if_neg (by simp), toList_eq, zcG]
        rfl
      · rw [if_pos ⟨rfl, hs0⟩]
        refine Ev.step (fun k => ?_) (Ev.step (f := fun _ => some (ofL s)) (fun k => ?_) (Ev.now _) : Ev (fun k => zau.j1 k [] (ofL s) false) (ofL s))
        · simp only [zau.l0]
          rw [if_neg (by simp), toList_eq, zcG, show (s == []) = false by simpa using hs0]
        · simp only [zau.j1]
          rw [if_neg (by simp)]
    · rw [if_neg (by simp [h0])]
      have hlen : (words (n / 10)).length ≤ 1000000 := by
        refine Nat.le_trans (zeV ?_) hn
        have := zdW (zd7 n)
        rw [zc8] at this
        simp only [Int.toNat_natCast] at this
        exact Nat.lt_of_le_of_lt (Nat.div_le_self _ _) this
      have hd : dec n ++ s = (if n / 10 = 0 then [] else dec (n / 10)) ++ UInt8.ofNat (48 + n % 10) :: s := by
        by_cases h1 : n / 10 = 0
        · rw [if_pos h1, zdp n (by omega), show n % 10 = n by omega]; rfl
        · rw [if_neg h1, zeZ n (by omega)]; simp
      have e6 : (if n / 10 = 0 ∧ UInt8.ofNat (48 + n % 10) :: s ≠ [] then UInt8.ofNat (48 + n % 10) :: s else dec (n / 10) ++ UInt8.ofNat (48 + n % 10) :: s) = dec n ++ s := by
        rw [hd]
        by_cases h1 : n / 10 = 0
        · rw [if_pos ⟨h1, by simp⟩, if_pos h1]; rfl
        · rw [if_neg (by simp [h1]), if_neg h1]
      rw [if_neg (by simp [h0]), List.length_append] at hs
      have hk := ih (n / 10) (by omega) (UInt8.ofNat (48 + n % 10) :: s) hlen (by rw [e6, List.length_append]; exact hs)
      rw [e6] at hk
      refine Ev.step (fun k => ?_) (zfJ n s hn (by omega) hk)
      simp only [zau.l0]
      rw [if_pos]
      have : words n ≠ [] := fun h => h0 ((zdw n).1 h)
      have := List.length_pos_iff.2 this
      omega
set_option linter.unusedSectionVars false
theorem zjc {n w : Nat} (h : n < 10 ^ w) (hw : 0 < w) : (dec n).length ≤ w := by
  induction w generalizing n with
  | zero => omega
  | succ w ih =>
    by_cases h1 : n < 10
    · rw [zdp n h1]; simp
    · rw [zeZ n (by omega), List.length_append, List.length_singleton]
      have hw0 : 0 < w := by
        cases w with
        | zero => simp at h; omega
        | succ w => omega
      have := ih (n := n / 10) (by rw [Nat.pow_succ] at h; omega) hw0
      omega
theorem zfN {l : List Int} (h : Wl l) : (dec (val l).toNat).length ≤ 10 * l.length + 1 := by
  refine zjc ?_ (by omega)
  refine Nat.lt_of_lt_of_le (zdW h) ?_
  have h1 : 4294967296 ^ l.length ≤ 10 ^ (10 * l.length) := by
    rw [Nat.pow_mul]
    exact Nat.pow_le_pow_left (by decide) _
  exact Nat.le_trans h1 (Nat.pow_le_pow_right (by decide) (by omega))
theorem zjd {l : List Int} (h : Wl l) (hn : l.length ≤ 1000000) : Ev (fun k => zau.f k l) (ofL (dec (val l).toNat)) := by
  have hl := zfN h
  have := zih (val l).toNat [] (Nat.le_trans (zeV (zdW h)) hn) (by rw [if_neg (by simp), List.append_nil]; omega)
  rw [if_neg (by simp), List.append_nil] at this
  exact Ev.bind (f := fun n t => zau.l0 n t ⟨#[]⟩) (zft h (by omega)) this
end Go.Proofs.YtbicjgaadknmfaaDoor.M
end
section
namespace Go.Proofs.YtbicjgaadknmfaaDoor.P
open Go.RowKit Go.Proofs.YtbicjgaadknmfaaDoorW.PrintWords Go.Proofs.YtbicjgaadknmfaaDoorW.PrintLast Go.Proofs.YtbicjgaadknmfaaDoorW.PrintMore
attribute [local go_sem] zck zcl zca zcc zbQ zbP zb0 zb1
set_option linter.unusedVariables false
set_option linter.unusedSimpArgs false
mutual
def zaz.l0 : Nat → List (S62) → Int → Int → Int → Option (Int × Int)
 | 0, _, _, _, _ => none
 | k + 1, x0, x6, x7, x8 => if x8 > 0 then ((zaz.f k x0 (wrap64 (x7 - 1))).bind fun bt187 => (zaz.l0 k x0 (mx x6 bt187.1) bt187.2 (wrap64 (x8 - 1)))) else (some (wrap64 (x6 + 1), x7))
def zaz.f : Nat → List (S62) → Int → Option (Int × Int)
 | 0, _, _ => none
 | k + 1, l0, a1 => if 0 ≤ a1 then (if a1 < (l0.length : Int) then ((zaw.f k ((zaV l0 a1).f0)).bind fun t186 => (zaz.l0 k l0 0 a1 t186)) else (none)) else (none)
end
theorem zaz.zaR : ∀ k, (∀ y0 y1, LeO (zaz.f k y0 y1) (zaz.f (k + 1) y0 y1)) ∧ (∀ y0 y1 y2 y3, LeO (zaz.l0 k y0 y1 y2 y3) (zaz.l0 (k + 1) y0 y1 y2 y3))
 | 0 => ⟨fun _ _ r h => by simp [zaz.f] at h, fun _ _ _ _ r h => by simp [zaz.l0] at h⟩
 | k + 1 => by
  obtain ⟨ih0, ih1⟩ := zaz.zaR k
  refine ⟨?_, ?_⟩
  ·intro y0 y1
   unfold zaz.f
   repeat' first
   | (with_reducible exact ih0 _ _)
   | (with_reducible exact ih1 _ _ _ _)
   | (with_reducible exact zaw.mono _ _)
   | (with_reducible exact LeO.refl _)
   | (with_reducible exact LeO.none _)
   | (with_reducible refine LeO.ite ?_ ?_)
   | (with_reducible refine LeO.bind ?_ (fun _ => ?_))
   | exact ih0 _ _
   | exact ih1 _ _ _ _
   | exact zaw.mono _ _
   | exact LeO.none _
   | refine LeO.ite ?_ ?_
   | refine LeO.bind ?_ (fun _ => ?_)
  ·intro y0 y1 y2 y3
   unfold zaz.l0
   repeat' first
   | (with_reducible exact ih0 _ _)
   | (with_reducible exact ih1 _ _ _ _)
   | (with_reducible exact zaw.mono _ _)
   | (with_reducible exact LeO.refl _)
   | (with_reducible exact LeO.none _)
   | (with_reducible refine LeO.ite ?_ ?_)
   | (with_reducible refine LeO.bind ?_ (fun _ => ?_))
   | exact ih0 _ _
   | exact ih1 _ _ _ _
   | exact zaw.mono _ _
   | exact LeO.none _
   | refine LeO.ite ?_ ?_
   | refine LeO.bind ?_ (fun _ => ?_)
theorem zaz.mono : ∀ a0 a1 k, LeO (zaz.f k a0 a1) (zaz.f (k + 1) a0 a1) := by
 intro a0 a1 k
 obtain ⟨ih0, ih1⟩ := zaz.zaR k
 exact ih0 a0 a1
set_option maxHeartbeats 8000000 in
set_option maxRecDepth 100000 in
theorem zaz.calls (k : Nat) : ∀ (A0 : Option Addr) (c0 : Nat) (l0 : List (S62)) (a1 : Int) (r1 : Int) (r2 : Int) (w : World) (hr0 : Kd.C k62 w A0 l0.length l0) (hc0 : l0.length ≤ c0) (h : zaz.f k l0 a1 = some (r1, r2)),
  Calls Tryd.prog 116 #[.slice A0 l0.length c0, .int .i64 a1] w fun e w' => e = .returned (.tuple #[.int .i64 r1, .int .i64 r2]) ∧ Below w.heap.size w w' := by
 induction k using Nat.strongRecOn with
 | _ k ih =>
 intro A0 c0 l0 a1 r1 r2 w hr0 hc0 h
 cases k with
 | zero => exact absurd h (by simp [zaz.f])
 | succ k =>
 simp only [zaz.f] at h
 have HR0 := zaa.mk hr0
 have HC0 := zaa.mk hc0
 clear hr0 hc0
 have HB := zaa.mk (Below.refl w.heap.size w)
 have H : (if 0 ≤ a1 then (if a1 < (l0.length : Int) then ((zaw.f k ((zaV l0 a1).f0)).bind fun t186 => (zaz.l0 k l0 0 a1 t186)) else (none)) else (none)) = some (r1, r2) := h
 clear h
 by_cases c3 : 0 ≤ a1
 ·rw [if_pos c3] at H
  have c3b0 : decide (0 ≤ a1) = true := decide_eq_true c3
  clear c3
  by_cases c4 : a1 < (l0.length : Int)
  ·rw [if_pos c4] at H
   have c4b0 : decide (a1 < (l0.length : Int)) = true := decide_eq_true c4
   clear c4
   replace H := Option.bind_eq_some_iff.mp H
   obtain ⟨t186, A50, H⟩ := H
   replace H : (zaz.l0 k l0 0 a1 t186) = some (r1, r2) := H
   have A5 := zaa.mk A50
   clear A50
   have H' := zaa.mk H
   clear H
   have p185 : 0 ≤ (a1 : Int) := of_decide_eq_true (by first | (with_reducible assumption) | assumption)
   have q185 : a1 < (l0.length : Int) := of_decide_eq_true (by first | (with_reducible assumption) | assumption)
   obtain ⟨ad185, A185_2, c185_2, e185, hx185_0, hx185_1, hx185_2, hl185_2, hi185_2⟩ := zcH HR0.out a1 p185 q185
   cases e185
   have HR185_2 := zaa.mk hi185_2
   have HC185_2 := zaa.mk hl185_2
   clear hi185_2 hl185_2
   replace p185 := eq_true p185
   replace q185 := eq_true q185
   go_enter Tryd.func116, Tryd.ntmps116
   go_wp2_with (first | ((with_reducible refine zaG (f := 117) rfl ?_); refine za2 (some 17) rfl rfl Tryd.func117 (by kernel_rfl) rfl #[.int .i64 ((zaV l0 a1).f0)] rfl (by (try simp only [List.map_toArray, List.map_cons, List.map_nil]); first | done | rfl | (simp only [List.length_drop, List.length_take]; rfl)) ?_; (with_reducible refine (zaw.calls k ((zaV l0 a1).f0) t186 _ A5.out).mono ?_); rintro e w' ⟨rfl, ⟨nd, rfl⟩⟩; refine ⟨_, rfl, ?_⟩))
   go_loopg [6, 7, 8] k (fun kq v6 v7 v8 w' => ∃ (x6_1 : Int) (x7_1 : Int) (x8_1 : Int), v6 = .int .i64 x6_1 ∧ v7 = .int .i64 x7_1 ∧ v8 = .int .i64 x8_1 ∧ zaa (zaz.l0 kq l0 x6_1 x7_1 x8_1 = some (r1, r2)) ∧ zaa (kq ≤ k) ∧ zaa (Below w.heap.size w w'))
   case atStart => exact ⟨(0), (a1), (t186), (by first | rfl | (simp; done) | (simp [*]; done)), (by first | rfl | (simp; done) | (simp [*]; done)), (by first | rfl | (simp; done) | (simp [*]; done)), H', ⟨Nat.le_refl _⟩, ⟨by repeat (first | (with_reducible first | exact HB.out | apply zac | apply zab | apply zad) | exact HB.out)⟩⟩
   case round =>
    clear H'
    try clear c1
    try clear p1
    try clear q1
    try clear hx1
    try clear p2
    try clear c3
    try clear c3b0
    try clear c4
    try clear c4b0
    try clear hx185_0
    try clear hx185_1
    try clear hx185_2
    try clear p185
    try clear q185
    obtain ⟨x6_1, x7_1, x8_1, rfl, rfl, rfl, HA, HK1, HB⟩ := hrel
    cases gk with
    | zero => exact absurd HA.out (by simp [zaz.l0])
    | succ k1 =>
     have H := HA.out
     clear HA
     simp only [zaz.l0] at H
     by_cases c6 : x8_1 > 0
     ·rw [if_pos c6] at H
      have c6b0 : decide (0 < x8_1) = true := decide_eq_true c6
      clear c6
      replace H := Option.bind_eq_some_iff.mp H
      obtain ⟨⟨t187, t188⟩, A70, H⟩ := H
      replace H : (zaz.l0 k1 l0 (mx x6_1 t187) t188 (wrap64 (x8_1 - 1))) = some (r1, r2) := H
      have A7 := zaa.mk A70
      clear A70
      obtain ⟨ji8, hji8⟩ : ∃ j_ : Int, (mx x6_1 t187) = j_ := ⟨_, rfl⟩
      replace H : (zaz.l0 k1 l0 ji8 t188 (wrap64 (x8_1 - 1))) = some (r1, r2) := by first | (rw [hji8] at H; exact H) | (simp only [hji8] at H ⊢; exact H)
      (try rw [hji8] at A7)
      have H' := zaa.mk H
      clear H
      go_wp2_with (first | ((with_reducible refine zaG (f := 116) rfl ?_); refine za2 (some 26) rfl rfl Tryd.func116 (by kernel_rfl) rfl #[.slice (some ad185) l0.length c0, .int .i64 (wrap64 (x7_1 - 1))] rfl (by (try simp only [List.map_toArray, List.map_cons, List.map_nil]); first | done | rfl | (simp only [List.length_drop, List.length_take]; rfl)) ?_; (with_reducible refine (ih k1 (by have := HK1.out; omega) _ _ l0 (wrap64 (x7_1 - 1)) t187 t188 _ ?side1 ?side2 A7.out).mono ?_); (case side1 => repeat (first | exact (Kd.za7 HR0.out HB.out) | (with_reducible refine Kd.zaT ?_ _) | (with_reducible refine Kd.zaU ?_ _) | (with_reducible refine Kd.za0 ?_))); (case side2 => exact HC0.out); rintro e w9 ⟨rfl, hb⟩; refine ⟨_, rfl, ?_⟩; have n0_ := zaa.mk (zax (by repeat (first | (with_reducible first | exact HB.out | apply zac | apply zab | apply zad) | exact HB.out)) hb); clear HB; have HB := n0_; clear n0_; (try clear hb); (try clear hb2); (try clear hk); (try clear hi)))
      go_roundg k1
      case measure => have := HK1.out; omega
      case rel => exact ⟨(ji8), (t188), (wrap64 (x8_1 - 1)), (by first | rfl | (simp; done) | (simp only [← hji8] <;> (first | rfl | simp)) | (simp [*]; done)), (by first | rfl | (simp; done) | (simp [*]; done)), (by first | rfl | (simp; done) | (simp [*]; done)), H', ⟨by have := HK1.out; omega⟩, ⟨by repeat (first | (with_reducible first | exact HB.out | apply zac | apply zab | apply zad) | exact HB.out)⟩⟩
     ·rw [if_neg c6] at H
      have c6b0 : decide (0 < x8_1) = false := decide_eq_false c6
      clear c6
      simp only [Option.some.injEq, Prod.mk.injEq] at H
      obtain ⟨rfl, rfl⟩ := H
      go_wp2
      go_ret2
      exact ⟨by first | rfl | (simp [zan, zam] <;> rfl) | (simp [*, zan, zam] <;> rfl), by repeat (first | (with_reducible first | exact HB.out | apply zac | apply zab | apply zad) | exact HB.out)⟩
  ·rw [if_neg c4] at H
   exact absurd H (by simp)
 ·rw [if_neg c3] at H
  exact absurd H (by simp)
def zbG.f (k : Nat) (l0 : List (S62)) : Option (Int) := (zaD.f k l0).bind fun t189 => (if t189 ≥ 0 then (some 0) else ((zaz.f k l0 (wrap64 ((l0.length : Int) - 1))).bind fun bt190 => (some bt190.1)))
theorem zbG.mono : ∀ a0 k, LeO (zbG.f k a0) (zbG.f (k + 1) a0) := by
 intro a0 k
 unfold zbG.f
 repeat' first
   | (with_reducible exact zaz.mono _ _ _)
   | (with_reducible exact zaD.mono _ _)
   | (with_reducible exact LeO.refl _)
   | (with_reducible exact LeO.none _)
   | (with_reducible refine LeO.ite ?_ ?_)
   | (with_reducible refine LeO.bind ?_ (fun _ => ?_))
   | exact zaz.mono _ _ _
   | exact zaD.mono _ _
   | exact LeO.none _
   | refine LeO.ite ?_ ?_
   | refine LeO.bind ?_ (fun _ => ?_)
set_option maxHeartbeats 8000000 in
set_option maxRecDepth 100000 in
theorem zbG.calls (k : Nat) (A0 : Option Addr) (c0 : Nat) (l0 : List (S62)) (r : Int) (w : World) (hr0 : Kd.C k62 w A0 l0.length l0) (hc0 : l0.length ≤ c0) (h : zbG.f k l0 = some r) :
  Calls Tryd.prog 74 #[.slice A0 l0.length c0] w fun e w' => e = .returned (.int .i64 r) ∧ Below w.heap.size w w' := by
 have HR0 := zaa.mk hr0
 have HC0 := zaa.mk hc0
 clear hr0 hc0
 have HB := zaa.mk (Below.refl w.heap.size w)
 have H : ((zaD.f k l0).bind fun t189 => (if t189 ≥ 0 then (some 0) else ((zaz.f k l0 (wrap64 ((l0.length : Int) - 1))).bind fun bt190 => (some bt190.1)))) = some r := h
 clear h
 replace H := Option.bind_eq_some_iff.mp H
 obtain ⟨t189, A20, H⟩ := H
 replace H : (if t189 ≥ 0 then (some 0) else ((zaz.f k l0 (wrap64 ((l0.length : Int) - 1))).bind fun bt190 => (some bt190.1))) = some r := H
 have A2 := zaa.mk A20
 clear A20
 by_cases c3 : t189 ≥ 0
 ·rw [if_pos c3] at H
  have c3b0 : decide (0 ≤ t189) = true := decide_eq_true c3
  clear c3
  obtain rfl := Option.some.inj H
  go_enter Tryd.func74, Tryd.ntmps74
  go_wp2_with (first | ((with_reducible refine zaG (f := 82) rfl ?_); refine za2 (some 6) rfl rfl Tryd.func82 (by kernel_rfl) rfl #[.slice A0 l0.length c0] rfl (by (try simp only [List.map_toArray, List.map_cons, List.map_nil]); first | done | rfl | (simp only [List.length_drop, List.length_take]; rfl)) ?_; (with_reducible refine (zaD.calls k _ _ l0 t189 _ ?side1 ?side2 A2.out).mono ?_); (case side1 => repeat (first | exact HR0.out | (with_reducible refine Kd.zaT ?_ _) | (with_reducible refine Kd.zaU ?_ _) | (with_reducible refine Kd.za0 ?_))); (case side2 => exact HC0.out); rintro e w' ⟨rfl, ⟨nd, rfl⟩⟩; refine ⟨_, rfl, ?_⟩))
  go_ret
  exact ⟨by first | rfl | (simp [zan, zam] <;> rfl) | (simp [*, zan, zam] <;> rfl), by repeat (first | (with_reducible first | exact HB.out | apply zac | apply zab | apply zad) | exact HB.out)⟩
 ·rw [if_neg c3] at H
  have c3b0 : decide (0 ≤ t189) = false := decide_eq_false c3
  clear c3
  replace H := Option.bind_eq_some_iff.mp H
  obtain ⟨⟨t190, t191⟩, A40, H⟩ := H
  replace H : (some t190) = some r := H
  have A4 := zaa.mk A40
  clear A40
  obtain rfl := Option.some.inj H
  go_enter Tryd.func74, Tryd.ntmps74
  go_wp2_with (first | ((with_reducible refine zaG (f := 82) rfl ?_); refine za2 (some 6) rfl rfl Tryd.func82 (by kernel_rfl) rfl #[.slice A0 l0.length c0] rfl (by (try simp only [List.map_toArray, List.map_cons, List.map_nil]); first | done | rfl | (simp only [List.length_drop, List.length_take]; rfl)) ?_; (with_reducible refine (zaD.calls k _ _ l0 t189 _ ?side1 ?side2 A2.out).mono ?_); (case side1 => repeat (first | exact HR0.out | (with_reducible refine Kd.zaT ?_ _) | (with_reducible refine Kd.zaU ?_ _) | (with_reducible refine Kd.za0 ?_))); (case side2 => exact HC0.out); rintro e w' ⟨rfl, ⟨nd, rfl⟩⟩; refine ⟨_, rfl, ?_⟩) | ((with_reducible refine zaG (f := 116) rfl ?_); refine za2 (some 13) rfl rfl Tryd.func116 (by kernel_rfl) rfl #[.slice A0 l0.length c0, .int .i64 (wrap64 ((l0.length : Int) - 1))] rfl (by (try simp only [List.map_toArray, List.map_cons, List.map_nil]); first | done | rfl | (simp only [List.length_drop, List.length_take]; rfl)) ?_; (with_reducible refine (zaz.calls k _ _ l0 (wrap64 ((l0.length : Int) - 1)) t190 t191 _ ?side1 ?side2 A4.out).mono ?_); (case side1 => repeat (first | exact HR0.out | (with_reducible refine Kd.zaT ?_ _) | (with_reducible refine Kd.zaU ?_ _) | (with_reducible refine Kd.za0 ?_))); (case side2 => exact HC0.out); rintro e w5 ⟨rfl, hb⟩; refine ⟨_, rfl, ?_⟩; have n0_ := zaa.mk (zax (by repeat (first | (with_reducible first | exact HB.out | apply zac | apply zab | apply zad) | exact HB.out)) hb); clear HB; have HB := n0_; clear n0_; (try clear hb); (try clear hb2); (try clear hk); (try clear hi)))
  go_ret
  exact ⟨by first | rfl | (simp [zan, zam] <;> rfl) | (simp [*, zan, zam] <;> rfl), by repeat (first | (with_reducible first | exact HB.out | apply zac | apply zab | apply zad) | exact HB.out)⟩
end Go.Proofs.YtbicjgaadknmfaaDoor.P
end
section
namespace Go.Proofs.YtbicjgaadknmfaaDoor.M
open Go.RowKit Go.Proofs.YtbicjgaadknmfaaDoorW.PrintWords Go.Proofs.YtbicjgaadknmfaaDoor.P Go.Proofs.YtbicjgaadknmfaaDoorW.PrintMore
set_option linter.unusedVariables false
set_option linter.unusedSimpArgs false
abbrev SN := S60
abbrev RN := S62
def toN (x : RN) : SN := ⟨x.f0, x.f1, x.f2⟩
theorem rdS {l : List SN} {i : Nat} (h : i < l.length) : zaF l (i : Int) = l[i] := by
  unfold zaF
  simp [List.getD_eq_getElem?_getD, h]
theorem rdR {l : List RN} {i : Nat} (h : i < l.length) : zaV l (i : Int) = l[i] := by
  unfold zaV
  simp [List.getD_eq_getElem?_getD, h]
theorem zb3 {α : Type} {l : List α} {i : Nat} {a : α} {r : List α} (h : l.drop i = a :: r) : ∃ hi : i < l.length, l[i] = a ∧ l.drop (i + 1) = r := by
  have hi : i < l.length := by
    have := congrArg List.length h
    simp at this; omega
  have := List.drop_eq_getElem_cons hi
  rw [h] at this
  injection this with h1 h2
  exact ⟨hi, h1.symm, h2.symm⟩
def arOp (op : Int) : Int := if 1 ≤ op ∧ op ≤ 5 then 0 else if op = 6 ∨ op = 11 then 1 else if 7 ≤ op ∧ op ≤ 10 then 2 else -1
def arN (x : SN) : Int := arOp x.f0
theorem zfZ (x : SN) : arN x ≤ 2 ∧ -1 ≤ arN x := by unfold arN arOp; repeat' split; all_goals omega
theorem zgc (op : Int) : op = 1 ∨ op = 2 ∨ op = 3 ∨ op = 4 ∨ op = 5 ∨ op = 6 ∨ op = 7 ∨ op = 8 ∨ op = 9 ∨ op = 10 ∨ op = 11 ∨ (op < 1 ∨ 11 < op) := by omega
theorem zda (op : Int) : Ev (fun k => zaJ.f k op) (arOp op) := by
  refine ⟨2, fun k hk => ?_⟩
  obtain ⟨m, rfl⟩ : ∃ m, k = m + 2 := ⟨k - 2, by omega⟩
  rcases zgc op with h | h | h | h | h | h | h | h | h | h | h | h
  any_goals (subst h; rfl)
  have b : ∀ c : Int, 1 ≤ c → c ≤ 11 → (op == c) = false ∧ ¬ op = c := fun c h1 h2 => ⟨by simp; omega, by omega⟩
  unfold zaJ.f arOp
  simp only [zaJ.j0, zaJ.j1]
  rw [if_neg (b 1 (by omega) (by omega)).2, if_neg (b 2 (by omega) (by omega)).2, if_neg (b 3 (by omega) (by omega)).2, if_neg (b 4 (by omega) (by omega)).2, (b 5 (by omega) (by omega)).1, (b 11 (by omega) (by omega)).1]
  rw [if_neg (by decide), if_neg (b 6 (by omega) (by omega)).2, if_neg (by decide), if_neg (b 7 (by omega) (by omega)).2, if_neg (b 8 (by omega) (by omega)).2, if_neg (b 9 (by omega) (by omega)).2, if_neg (b 10 (by omega) (by omega)).2, if_neg (by omega), if_neg (by omega), if_neg (by omega)]
theorem zfE (op : Int) : Ev (fun k => zaw.f k op) (arOp op) := by
  refine ⟨2, fun k hk => ?_⟩
  obtain ⟨m, rfl⟩ : ∃ m, k = m + 2 := ⟨k - 2, by omega⟩
  rcases zgc op with h | h | h | h | h | h | h | h | h | h | h | h
  any_goals (subst h; rfl)
  unfold zaw.f arOp
  simp only [zaw.j0, zaw.j1]
  rw [if_neg (show ¬ (1 ≤ op ∧ op ≤ 5) by omega), if_neg (show ¬ (op = 6 ∨ op = 11) by omega), if_neg (show ¬ (7 ≤ op ∧ op ≤ 10) by omega)]
  rcases h with h | h
  · rw [if_neg (by omega), if_neg (by decide), if_neg (by omega), show (op == 11) = false by simp; omega, if_neg (by decide), if_neg (by omega)]
  · rw [if_pos (by omega), show decide (op ≤ 5) = false from decide_eq_false (by omega), if_neg (by decide), if_neg (by omega), show (op == 11) = false by simp; omega, if_neg (by decide), if_pos (by omega), if_neg (by omega)]
theorem zfX (l : List SN) (hl : l.length ≤ 1000000) : ∀ (r : List SN) (i : Nat) (o : Int), l.drop i = r → i ≤ l.length → 0 ≤ o → o ≤ i →
    Ev (fun k => za4.l0 k l o l (l.length : Int) (i : Int)) (zbw arN r o (i : Int)) := by
  intro r
  induction r with
  | nil =>
    intro i o hd hi h0 h1
    have : l.length ≤ i := by simpa using hd
    obtain rfl : i = l.length := by omega
    refine Ev.step (f := fun _ => some (zbw arN [] o (l.length : Int))) (fun k => ?_) (Ev.now _)
    simp only [za4.l0, zbw]
    rw [if_neg (by omega)]
    split <;> rfl
  | cons a r ih =>
    intro i o hd hi h0 h1
    obtain ⟨hlt, ha, hr⟩ := zb3 hd
    refine Ev.step (f := fun k => (zaJ.f k a.f0).bind fun t => if t < 0 then some (i : Int) else if t > o then some (i : Int) else za4.l0 k l (wrap64 (o + wrap64 (1 - t))) l (l.length : Int) (wrap64 ((i : Int) + 1))) (fun k => ?_) ?_
    · simp only [za4.l0]
      rw [if_pos (by omega), if_pos (by omega), if_pos (by omega), rdS hlt, ha]
    · refine Ev.bind (zda a.f0) ?_
      have hb := zfZ a
      unfold zbw
      show Ev _ (if arN a < 0 ∨ o < arN a then _ else _)
      change Ev (fun k => if arN a < 0 then some (i : Int) else if arN a > o then some (i : Int) else za4.l0 k l (wrap64 (o + wrap64 (1 - arN a))) l (l.length : Int) (wrap64 ((i : Int) + 1))) _
      by_cases c : arN a < 0
      · rw [if_pos (.inl c)]; exact Ev.congr (fun _ => if_pos c) (Ev.now _)
      · by_cases c2 : o < arN a
        · rw [if_pos (.inr c2)]; exact Ev.congr (fun _ => by rw [if_neg c, if_pos c2]) (Ev.now _)
        · rw [if_neg (by omega)]
          have := ih (i + 1) (o + 1 - arN a) hr (by omega) (by omega) (by omega)
          refine Ev.congr (fun k => ?_) this
          rw [if_neg c, if_neg c2, zbv (n := 1 - arN a) (by omega) (by omega), zbv (by omega) (by omega), zbv (by omega) (by omega)]
          congr 1
          omega
theorem zfj (l : List SN) (hl : l.length ≤ 1000000) : Ev (fun k => za4.f k l) (zcB arN l) := zfX l hl l 0 0 rfl (by omega) (by omega) (by omega)
theorem zf8 (l : List RN) (hl : l.length ≤ 1000000) : ∀ (r : List RN) (i : Nat) (o : Int), l.drop i = r → i ≤ l.length → 0 ≤ o → o ≤ i →
    Ev (fun k => zaD.l0 k l o (i : Int)) (zbw arN (r.map toN) o (i : Int)) := by
  intro r
  induction r with
  | nil =>
    intro i o hd hi h0 h1
    have : l.length ≤ i := by simpa using hd
    obtain rfl : i = l.length := by omega
    refine Ev.step (f := fun _ => some (zbw arN [] o (l.length : Int))) (fun k => ?_) (Ev.now _)
    simp only [zaD.l0, zbw]
    rw [if_neg (by omega)]
    split <;> rfl
  | cons a r ih =>
    intro i o hd hi h0 h1
    obtain ⟨hlt, ha, hr⟩ := zb3 hd
    refine Ev.step (f := fun k => (zaw.f k a.f0).bind fun t => if t < 0 then some (i : Int) else if o < t then some (i : Int) else zaD.l0 k l (wrap64 ((wrap64 (o - t)) + 1)) (wrap64 ((i : Int) + 1))) (fun k => ?_) ?_
    · simp only [zaD.l0]
      rw [if_pos (by omega), if_pos (by omega), rdR hlt, ha]
    · refine Ev.bind (zfE a.f0) ?_
      have hb := zfZ (toN a)
      rw [List.map_cons]
      unfold zbw
      change Ev (fun k => if arN (toN a) < 0 then some (i : Int) else if o < arN (toN a) then some (i : Int) else zaD.l0 k l (wrap64 ((wrap64 (o - arN (toN a))) + 1)) (wrap64 ((i : Int) + 1))) (if arN (toN a) < 0 ∨ o < arN (toN a) then _ else _)
      by_cases c : arN (toN a) < 0
      · rw [if_pos (.inl c)]; exact Ev.congr (fun _ => if_pos c) (Ev.now _)
      · by_cases c2 : o < arN (toN a)
        · rw [if_pos (.inr c2)]; exact Ev.congr (fun _ => by rw [if_neg c, if_pos c2]) (Ev.now _)
        · rw [if_neg (by omega)]
          have := ih (i + 1) (o + 1 - arN (toN a)) hr (by omega) (by omega) (by omega)
          refine Ev.congr (fun k => ?_) this
          rw [if_neg c, if_neg c2, zbv (n := o - arN (toN a)) (by omega) (by omega), zbv (by omega) (by omega), zbv (by omega) (by omega)]
          congr 1
          omega
theorem zfK (l : List RN) (hl : l.length ≤ 1000000) : Ev (fun k => zaD.f k l) (zcB arN (l.map toN)) := zf8 l hl l 0 0 rfl (by omega) (by omega) (by omega)
open Classical in
noncomputable def zd0 (l : List SN) : Int := if h : ∃ e : Ex SN, e.ok arN ∧ e.flat = l then ((Classical.choose h).depth : Int) else 0
theorem zeT {e : Ex SN} (h : e.ok arN) : zd0 e.flat = e.depth := by
  unfold zd0
  have hx : ∃ f : Ex SN, f.ok arN ∧ f.flat = e.flat := ⟨e, h, rfl⟩
  rw [dif_pos hx]
  obtain ⟨h1, h2⟩ := Classical.choose_spec hx
  rw [zix h1 h h2]
theorem zeu {l : List SN} (h : 0 ≤ zcB arN l) : zd0 l = 0 := by
  unfold zd0
  rw [dif_neg]
  rintro ⟨e, he, rfl⟩
  have := zfL he
  omega
theorem zjB (s : List Int) (d : Int) : rd (s ++ [d]) (s.length : Int) = d := by
  unfold rd
  simp [List.getD_eq_getElem?_getD]
theorem zem (s : List Int) (d x : Int) (l : List SN) (i : Nat) (t : Int) (j : Nat) (hs : s.length ≤ 1000000) (hj : (j : Int) < t) (hj2 : j ≤ 10) (k : Nat) :
    zaM.l1 (k + 1) (s ++ [d]) x l (l.length : Int) (i : Int) t (j : Int) = zaM.l1 k s (mx x d) l (l.length : Int) (i : Int) t ((j + 1 : Nat) : Int) := by
  simp only [zaM.l1]
  have hw : wrap64 (((s ++ [d]).length : Int) - 1) = (s.length : Int) := by
    rw [List.length_append, List.length_singleton, zbv (by omega) (by omega)]; omega
  rw [if_pos hj, hw, if_pos (by omega), if_pos (by rw [List.length_append, List.length_singleton]; omega), if_pos (by rw [List.length_append, List.length_singleton]; omega), zjB, Int.toNat_natCast, List.take_left', zbv (by omega) (by omega)]
  · rfl
  · rfl
theorem zd4 (s : List Int) (x : Int) (l : List SN) (i : Nat) (t : Int) (hs : s.length ≤ 1000000) (hi : i ≤ 1000000) (hx : 0 ≤ x ∧ x ≤ 1000000) (k : Nat) :
    zaM.l1 (k + 1) s x l (l.length : Int) (i : Int) t t = zaM.l0 k (s ++ [x + 1]) l (l.length : Int) ((i + 1 : Nat) : Int) := by
  simp only [zaM.l1]
  rw [if_neg (by omega), if_pos (by omega), zbv (by omega) (by omega), zbv (by omega) (by omega)]
  rfl
theorem ziH (a b : Nat) : mx (a : Int) (b : Int) = ((max a b : Nat) : Int) := by
  unfold mx
  split <;> omega
theorem zh3 (l : List SN) (hl : l.length ≤ 1000000) {e : Ex SN} (he : e.ok arN) : ∀ (i : Nat) (s : List Int) (r : List SN) {R : Int}, l.drop i = e.flat ++ r → s.length ≤ i →
    Ev (fun k => zaM.l0 k (s ++ [(e.depth : Int)]) l (l.length : Int) ((i + e.flat.length : Nat) : Int)) R → Ev (fun k => zaM.l0 k s l (l.length : Int) (i : Int)) R := by
  induction e with
  | leaf a =>
    intro i s r R hd hs hk
    obtain ⟨hlt, ha, hr⟩ := zb3 hd
    have h0 : arOp a.f0 = 0 := he
    refine Ev.step (f := fun k => (zaJ.f k a.f0).bind fun t => zaM.l1 k s 0 l (l.length : Int) (i : Int) t 0) (fun k => ?_) ?_
    · simp only [zaM.l0]
      rw [if_pos (by omega), if_pos (by omega), if_pos (by omega), rdS hlt, ha]
    · refine Ev.bind (zda a.f0) ?_
      rw [h0]
      exact Ev.step (fun k => zd4 s 0 l i 0 (by omega) (by omega) (by omega) k) hk
  | un a x ih =>
    intro i s r R hd hs hk
    simp only [Ex.flat, List.append_assoc, List.singleton_append] at hd
    have hle := congrArg List.length hd
    simp at hle
    have hdx := x.zdi
    have hd2 : l.drop (i + x.flat.length) = a :: r := by rw [← List.drop_drop, hd, List.drop_left]
    obtain ⟨hlt, ha, hr⟩ := zb3 hd2
    have h0 : arOp a.f0 = 1 := he.1
    refine ih he.2 i s (a :: r) hd hs ?_
    refine Ev.step (f := fun k => (zaJ.f k a.f0).bind fun t => zaM.l1 k (s ++ [(x.depth : Int)]) 0 l (l.length : Int) ((i + x.flat.length : Nat) : Int) t 0) (fun k => ?_) ?_
    · simp only [zaM.l0]
      rw [if_pos (by omega), if_pos (by omega), if_pos (by omega), rdS hlt, ha]
    · refine Ev.bind (zda a.f0) ?_
      rw [h0]
      refine Ev.step (fun k => zem s x.depth 0 l (i + x.flat.length) 1 0 (by omega) (by decide) (by decide) k) ?_
      have e1 := ziH 0 x.depth
      rw [Nat.zero_max] at e1
      have e1' : mx 0 (x.depth : Int) = (x.depth : Int) := e1
      rw [e1']
      refine Ev.step (fun k => zd4 s x.depth l (i + x.flat.length) 1 (by omega) (by omega) (by omega) k) ?_
      have : i + (Ex.un a x).flat.length = i + x.flat.length + 1 := by simp [Ex.flat]; omega
      rw [this] at hk
      exact hk
  | bin a x y ih ih2 =>
    intro i s r R hd hs hk
    simp only [Ex.flat, List.append_assoc, List.singleton_append] at hd
    have hle := congrArg List.length hd
    simp at hle
    have hdx := x.zdi
    have hdy := y.zdi
    have hpx := x.zgu
    have hd2 : l.drop (i + x.flat.length) = y.flat ++ (a :: r) := by rw [← List.drop_drop, hd, List.drop_left]
    have hd3 : l.drop (i + x.flat.length + y.flat.length) = a :: r := by rw [← List.drop_drop, hd2, List.drop_left]
    obtain ⟨hlt, ha, hr⟩ := zb3 hd3
    have h0 : arOp a.f0 = 2 := he.1
    refine ih he.2.1 i s (y.flat ++ (a :: r)) hd hs ?_
    refine ih2 he.2.2 (i + x.flat.length) (s ++ [(x.depth : Int)]) (a :: r) hd2 (by simp; omega) ?_
    refine Ev.step (f := fun k => (zaJ.f k a.f0).bind fun t => zaM.l1 k ((s ++ [(x.depth : Int)]) ++ [(y.depth : Int)]) 0 l (l.length : Int) ((i + x.flat.length + y.flat.length : Nat) : Int) t 0) (fun k => ?_) ?_
    · simp only [zaM.l0]
      rw [if_pos (by omega), if_pos (by omega), if_pos (by omega), rdS hlt, ha]
    · refine Ev.bind (zda a.f0) ?_
      rw [h0]
      refine Ev.step (fun k => zem (s ++ [(x.depth : Int)]) y.depth 0 l (i + x.flat.length + y.flat.length) 2 0 (by simp; omega) (by decide) (by decide) k) ?_
      refine Ev.step (fun k => zem s x.depth _ l (i + x.flat.length + y.flat.length) 2 1 (by omega) (by decide) (by decide) k) ?_
      have e1' : mx (mx 0 (y.depth : Int)) (x.depth : Int) = ((max x.depth y.depth : Nat) : Int) := by unfold mx; repeat' split; all_goals omega
      rw [e1']
      refine Ev.step (fun k => zd4 s _ l (i + x.flat.length + y.flat.length) 2 (by omega) (by omega) (by omega) k) ?_
      have : i + (Ex.bin a x y).flat.length = i + x.flat.length + y.flat.length + 1 := by simp [Ex.flat]; omega
      rw [this] at hk
      exact hk
theorem zg6 (l : List SN) (hl : l.length ≤ 1000000) : Ev (fun k => zbC.f k l) (decide (zcB arN l < 0)) := Ev.bind (zfj l hl) (Ev.now _)
theorem zjZ (l : List SN) (hl : l.length ≤ 1000000) : Ev (fun k => zaM.f k l) (zd0 l) := by
  refine Ev.bind (zg6 l hl) ?_
  by_cases h : zcB arN l < 0
  · rw [decide_eq_true h]
    obtain ⟨e, he, rfl⟩ := zeb (fun a => (zfZ a).1) h
    rw [zeT he]
    refine zh3 e.flat hl he 0 [] [] (by simp) (by simp) ?_
    refine Ev.step (f := fun _ => some (e.depth : Int)) (fun k => ?_) (Ev.now _)
    simp only [zaM.l0]
    rw [if_neg (by omega)]
    rfl
  · rw [decide_eq_false h, zeu (by omega)]
    exact Ev.now _
theorem ziQ (l : List RN) (hl : l.length ≤ 1000000) {e : Ex SN} (he : e.ok arN) : ∀ (i : Nat) (r : List SN), (l.map toN).drop i = e.flat ++ r →
    Ev (fun k => zaz.f k l ((i + e.flat.length : Nat) - 1 : Int)) ((e.depth : Int), (i : Int)) := by
  have head : ∀ (at_ : Nat) (a : SN) (r : List SN) {R : Int × Int}, (l.map toN).drop at_ = a :: r → Ev (fun k => zaz.l0 k l 0 (at_ : Int) (arN a)) R → Ev (fun k => zaz.f k l (at_ : Int)) R := by
    intro at_ a r R hd hk
    obtain ⟨hlt, ha, _⟩ := zb3 hd
    rw [List.length_map] at hlt
    rw [List.getElem_map] at ha
    refine Ev.step (f := fun k => (zaw.f k a.f0).bind fun t => zaz.l0 k l 0 (at_ : Int) t) (fun k => ?_) (Ev.bind (zfE a.f0) hk)
    simp only [zaz.f]
    rw [if_pos (by omega), if_pos (by omega), rdR hlt, ← ha]
    rfl
  have last : ∀ (d : Nat) (from_ : Nat), d ≤ 1000000 → Ev (fun k => zaz.l0 k l (d : Int) (from_ : Int) 0) ((d + 1 : Nat), (from_ : Int)) := by
    intro d from_ hd
    refine Ev.step (f := fun _ => some (((d + 1 : Nat) : Int), (from_ : Int))) (fun k => ?_) (Ev.now _)
    simp only [zaz.l0]
    rw [if_neg (by omega), zbv (by omega) (by omega)]
    rfl
  have one : ∀ (d : Nat) (at_ : Nat) (t : Nat) (q : Nat × Nat) {R : Int × Int}, at_ ≤ 1000000 → 0 < t → t ≤ 2 → Ev (fun k => zaz.f k l ((at_ : Int) - 1)) ((q.1 : Int), (q.2 : Int)) → Ev (fun k => zaz.l0 k l ((max d q.1 : Nat) : Int) (q.2 : Int) ((t - 1 : Nat) : Int)) R → Ev (fun k => zaz.l0 k l (d : Int) (at_ : Int) (t : Int)) R := by
    intro d at_ t q R h1 h2 h2' h3 h4
    refine Ev.step (f := fun k => (zaz.f k l ((at_ : Int) - 1)).bind fun b => zaz.l0 k l (mx d b.1) b.2 (wrap64 ((t : Int) - 1))) (fun k => ?_) (Ev.bind h3 (Ev.congr (fun k => ?_) h4))
    · simp only [zaz.l0]
      rw [if_pos (by omega), zbv (n := (at_ : Int) - 1) (by omega) (by omega)]
    · rw [ziH, zbv (by omega) (by omega)]
      congr 1
      omega
  induction e with
  | leaf a =>
    intro i r hd
    have h0 : arN a = 0 := he
    have hx := head i a r hd (R := ((1 : Nat), (i : Int))) (by rw [h0]; exact last 0 i (by omega))
    have e1 : ((i + (Ex.leaf a).flat.length : Nat) - 1 : Int) = (i : Int) := by simp [Ex.flat]
    rw [e1]
    exact hx
  | un a x ih =>
    intro i r hd
    simp only [Ex.flat, List.append_assoc, List.singleton_append] at hd
    have hle := congrArg List.length hd
    simp at hle
    have hdx := x.zdi
    have hd2 : (l.map toN).drop (i + x.flat.length) = a :: r := by rw [← List.drop_drop, hd, List.drop_left]
    have h0 : arN a = 1 := he.1
    have e1 : ((i + (Ex.un a x).flat.length : Nat) - 1 : Int) = ((i + x.flat.length : Nat) : Int) := by simp [Ex.flat]; omega
    rw [e1]
    refine head _ a r hd2 ?_
    rw [h0]
    refine one 0 (i + x.flat.length) 1 (x.depth, i) (by omega) (by omega) (by omega) (ih he.2 i (a :: r) hd) ?_
    rw [Nat.zero_max]
    exact last x.depth i (by omega)
  | bin a x y ih ih2 =>
    intro i r hd
    simp only [Ex.flat, List.append_assoc, List.singleton_append] at hd
    have hle := congrArg List.length hd
    simp at hle
    have hdx := x.zdi
    have hdy := y.zdi
    have hd2 : (l.map toN).drop (i + x.flat.length) = y.flat ++ (a :: r) := by rw [← List.drop_drop, hd, List.drop_left]
    have hd3 : (l.map toN).drop (i + x.flat.length + y.flat.length) = a :: r := by rw [← List.drop_drop, hd2, List.drop_left]
    have h0 : arN a = 2 := he.1
    have e1 : ((i + (Ex.bin a x y).flat.length : Nat) - 1 : Int) = ((i + x.flat.length + y.flat.length : Nat) : Int) := by simp [Ex.flat]; omega
    rw [e1]
    refine head _ a r hd3 ?_
    rw [h0]
    refine one 0 (i + x.flat.length + y.flat.length) 2 (y.depth, i + x.flat.length) (by omega) (by omega) (by omega) (ih2 he.2.2 _ (a :: r) hd2) ?_
    rw [Nat.zero_max]
    refine one y.depth (i + x.flat.length) 1 (x.depth, i) (by omega) (by omega) (by omega) (ih he.2.1 i _ hd) ?_
    rw [Nat.max_comm]
    exact last _ i (by omega)
theorem zkc (l : List RN) (hl : l.length ≤ 1000000) : Ev (fun k => zbG.f k l) (zd0 (l.map toN)) := by
  refine Ev.bind (zfK l hl) ?_
  by_cases h : zcB arN (l.map toN) < 0
  · refine Ev.congr (fun k => if_neg (by omega)) ?_
    obtain ⟨e, he, hf⟩ := zeb (fun a => (zfZ a).1) h
    have hlen : e.flat.length = l.length := by rw [hf, List.length_map]
    have hp := e.zgu
    have := ziQ l hl he 0 [] (by simp [hf])
    rw [Nat.zero_add, hlen] at this
    rw [← hf, zeT he, zbv (by omega) (by omega)]
    exact Ev.bind this (Ev.now _)
  · rw [zeu (by omega)]
    exact Ev.congr (fun k => if_pos (by omega)) (Ev.now _)
end Go.Proofs.YtbicjgaadknmfaaDoor.M
end
section
namespace Go.Proofs.YtbicjgaadknmfaaDoor.M
open Go.RowKit Go.Proofs.YtbicjgaadknmfaaDoorW.PrintWords Go.Proofs.YtbicjgaadknmfaaDoor.P Go.Proofs.YtbicjgaadknmfaaDoorW.PrintMore
set_option linter.unusedVariables false
set_option linter.unusedSimpArgs false
def zea (n : List Int) : Bool := decide ((strip n).length = n.length) && decide ((dec (val n).toNat).length ≤ 60)
def zbR (x : SN) (d p l : Int) : Bool :=
  if x.f0 = 1 then decide (x.f1 = 0) && zea x.f2
  else if 0 < x.f2.length ∨ x.f0 < 1 ∨ 11 < x.f0 then false
  else if x.f0 = 3 then decide (0 ≤ x.f1) && decide (x.f1 < d)
  else if x.f0 = 4 then decide (0 ≤ x.f1) && decide (x.f1 < p)
  else if x.f0 = 5 then decide (0 ≤ x.f1) && decide (x.f1 < l)
  else if x.f0 = 11 then decide (-8 ≤ x.f1) && decide (x.f1 ≤ 8)
  else decide (x.f1 = 0)
def Nw (x : SN) : Prop := Wl x.f2 ∧ x.f2.length ≤ 1000
theorem zgy {n : List Int} (h : Wl n) (hl : n.length ≤ 1000) : zcg.f n = some (zea n) := by
  unfold zcg.f zcs.f zcM.f zcD.f zea
  rw [if_pos (by omega), if_pos (ze2.2 h), if_pos (by omega)]
  simp only [Option.bind_some, zgp]
  by_cases c : (strip n).length = n.length
  · rw [if_pos (by omega), decide_eq_true c, Bool.true_and]
    congr 1
    exact decide_eq_decide.2 (by omega)
  · rw [if_neg (by omega), decide_eq_false c, Bool.false_and]
theorem zeW (a b : Int) : zbB.f a b = some (decide (0 ≤ a) && decide (a < b)) := by
  unfold zbB.f
  by_cases c : 0 ≤ a
  · rw [if_pos c, decide_eq_true c, Bool.true_and]
  · rw [if_neg c, decide_eq_false c, Bool.false_and]
theorem zfG (x : SN) (hx : Nw x) (d p l : Int) : Ev (fun k => zaY.f k x.f0 x.f1 x.f2 d p l) (zbR x d p l) := by
  have round : ∀ b k, zaY.j0 (k + 1) d p l b x.f0 x.f1 x.f2 = if b = true then some false else if x.f0 = 1 then (if x.f1 = 0 then (zcg.f x.f2).bind fun t => some t else some false) else if x.f0 = 3 then (zbB.f x.f1 d).bind fun t => some t else if x.f0 = 4 then (zbB.f x.f1 p).bind fun t => some t else if x.f0 = 5 then (zbB.f x.f1 l).bind fun t => some t else if x.f0 = 11 then (if x.f1 ≥ -8 then some (decide (x.f1 ≤ 8)) else some false) else if x.f1 = 0 then (zaJ.f k x.f0).bind fun t => some (decide (t ≥ 0)) else some false := fun b k => by simp only [zaY.j0]
  unfold zaY.f
  by_cases c1 : x.f0 = 1
  · have e : zbR x d p l = (decide (x.f1 = 0) && zea x.f2) := by unfold zbR; rw [if_pos c1]
    rw [e]
    refine Ev.congr (fun k => if_pos c1) (Ev.step (fun k => round false k) (Ev.congr (f := fun _ => some (decide (x.f1 = 0) && zea x.f2)) (fun k => ?_) (Ev.now _)))
    rw [if_neg (by decide), if_pos c1, zgy hx.1 hx.2]
    by_cases c : x.f1 = 0
    · rw [if_pos c, decide_eq_true c]; rfl
    · rw [if_neg c, decide_eq_false c]; rfl
  · refine Ev.congr (fun k => if_neg c1) (Ev.step (fun k => round _ k) ?_)
    by_cases c2 : 0 < x.f2.length
    · have e : zbR x d p l = false := by unfold zbR; rw [if_neg c1, if_pos (.inl c2)]
      rw [e]
      exact Ev.congr (fun k => if_pos (decide_eq_true (by omega))) (Ev.now _)
    · refine Ev.congr (fun k => if_neg (by rw [decide_eq_false (by omega)]; decide)) (Ev.congr (fun k => if_neg c1) ?_)
      by_cases c3 : x.f0 = 3
      · have e : zbR x d p l = (decide (0 ≤ x.f1) && decide (x.f1 < d)) := by unfold zbR; rw [if_neg c1, if_neg (by omega), if_pos c3]
        rw [e]
        exact Ev.congr (fun k => by rw [if_pos c3, zeW]; rfl) (Ev.now _)
      by_cases c4 : x.f0 = 4
      · have e : zbR x d p l = (decide (0 ≤ x.f1) && decide (x.f1 < p)) := by unfold zbR; rw [if_neg c1, if_neg (by omega), if_neg c3, if_pos c4]
        rw [e]
        exact Ev.congr (fun k => by rw [if_neg c3, if_pos c4, zeW]; rfl) (Ev.now _)
      by_cases c5 : x.f0 = 5
      · have e : zbR x d p l = (decide (0 ≤ x.f1) && decide (x.f1 < l)) := by unfold zbR; rw [if_neg c1, if_neg (by omega), if_neg c3, if_neg c4, if_pos c5]
        rw [e]
        exact Ev.congr (fun k => by rw [if_neg c3, if_neg c4, if_pos c5, zeW]; rfl) (Ev.now _)
      by_cases c6 : x.f0 = 11
      · have e : zbR x d p l = (decide (-8 ≤ x.f1) && decide (x.f1 ≤ 8)) := by unfold zbR; rw [if_neg c1, if_neg (by omega), if_neg c3, if_neg c4, if_neg c5, if_pos c6]
        rw [e]
        refine Ev.congr (f := fun _ => some (decide (-8 ≤ x.f1) && decide (x.f1 ≤ 8))) (fun k => ?_) (Ev.now _)
        rw [if_neg c3, if_neg c4, if_neg c5, if_pos c6]
        by_cases c : -8 ≤ x.f1
        · rw [if_pos c, decide_eq_true c, Bool.true_and]
        · rw [if_neg c, decide_eq_false c, Bool.false_and]
      refine Ev.congr (fun k => by rw [if_neg c3, if_neg c4, if_neg c5, if_neg c6]) ?_
      have har := zda x.f0
      by_cases c : x.f1 = 0
      · refine Ev.congr (fun k => if_pos c) (Ev.bind har ?_)
        have e : zbR x d p l = decide (arOp x.f0 ≥ 0) := by
          unfold zbR
          rw [if_neg c1]
          by_cases c7 : x.f0 < 1 ∨ 11 < x.f0
          · rw [if_pos (by omega)]
            symm
            apply decide_eq_false
            unfold arOp
            rw [if_neg (by omega), if_neg (by omega), if_neg (by omega)]
            omega
          · rw [if_neg (by omega), if_neg c3, if_neg c4, if_neg c5, if_neg c6, decide_eq_true c]
            symm
            apply decide_eq_true
            unfold arOp
            repeat' split
            all_goals omega
        rw [e]
        exact Ev.now _
      · have e : zbR x d p l = false := by
          unfold zbR
          rw [if_neg c1, if_neg c3, if_neg c4, if_neg c5, if_neg c6, decide_eq_false c]
          split <;> rfl
        rw [e]
        exact Ev.congr (fun k => if_neg c) (Ev.now _)
theorem zei (n : List Int) : strip n = n ↔ (strip n).length = n.length := by
  constructor
  · intro h; rw [h]
  · intro h
    have := zfb n
    rw [h, List.take_length] at this
    exact this.symm
theorem zgs (x : RN) (hx : Nw (toN x)) (d p l : Int) : Ev (fun k => zar.f k x.f0 x.f1 x.f2 d p l) (zbR (toN x) d p l) := by
  have hw : Wl x.f2 := hx.1
  have hl : x.f2.length ≤ 1000 := hx.2
  have round : ∀ b k, zar.j0 (k + 1) d p l b x.f0 x.f1 x.f2 = if b = true then some false else if x.f0 = 3 then (if x.f1 ≥ 0 then some (decide (x.f1 < d)) else some false) else if x.f0 = 4 then (if x.f1 ≥ 0 then some (decide (x.f1 < p)) else some false) else if x.f0 = 5 then (if x.f1 ≥ 0 then some (decide (x.f1 < l)) else some false) else if x.f0 = 11 then (if x.f1 ≥ -8 then some (decide (x.f1 ≤ 8)) else some false) else some (x.f1 == 0) := fun b k => by simp only [zar.j0]
  have two : ∀ (a b : Int) (q : Bool), (if a ≥ b then some q else some false) = some (decide (b ≤ a) && q) := by
    intro a b q
    by_cases c : b ≤ a
    · rw [if_pos c, decide_eq_true c, Bool.true_and]
    · rw [if_neg c, decide_eq_false c, Bool.false_and]
  have e0 : zbR (toN x) d p l = if x.f0 = 1 then decide (x.f1 = 0) && zea x.f2 else if 0 < x.f2.length ∨ x.f0 < 1 ∨ 11 < x.f0 then false else if x.f0 = 3 then decide (0 ≤ x.f1) && decide (x.f1 < d) else if x.f0 = 4 then decide (0 ≤ x.f1) && decide (x.f1 < p) else if x.f0 = 5 then decide (0 ≤ x.f1) && decide (x.f1 < l) else if x.f0 = 11 then decide (-8 ≤ x.f1) && decide (x.f1 ≤ 8) else decide (x.f1 = 0) := rfl
  unfold zar.f
  by_cases c1 : x.f0 = 1
  · rw [if_pos c1] at e0
    rw [e0]
    refine Ev.congr (fun k => if_pos c1) ?_
    by_cases c : x.f1 = 0
    · rw [decide_eq_true c, Bool.true_and]
      have hn := zft hw (by omega)
      rw [← zc0 hw] at hn
      refine Ev.congr (fun k => if_pos c) (Ev.bind hn (Ev.bind (ziR (strip x.f2) x.f2 (by have := zdP x.f2; omega)) ?_))
      unfold zea
      by_cases c2 : (strip x.f2).length = x.f2.length
      · rw [decide_eq_true ((zei _).2 c2), decide_eq_true c2, Bool.true_and]
        refine Ev.congr (fun k => if_pos rfl) (Ev.bind (zjd hw (by omega)) (Ev.congr (f := fun _ => some (decide ((dec (val x.f2).toNat).length ≤ 60))) (fun k => ?_) (Ev.now _)))
        rw [zgp]
        congr 1
        exact decide_eq_decide.2 (by omega)
      · rw [decide_eq_false (fun h => c2 ((zei _).1 h)), decide_eq_false c2, Bool.false_and]
        exact Ev.now _
    · rw [decide_eq_false c, Bool.false_and]
      exact Ev.congr (fun k => if_neg c) (Ev.now _)
  · rw [if_neg c1] at e0
    refine Ev.congr (fun k => if_neg c1) ?_
    have bad : Ev (fun k => zar.j0 k d p l true x.f0 x.f1 x.f2) false := Ev.step (fun k => round true k) (Ev.congr (fun k => if_pos rfl) (Ev.now _))
    by_cases c2 : 0 < x.f2.length
    · rw [if_pos (.inl c2)] at e0
      rw [e0]
      exact Ev.congr (fun k => if_pos (by omega)) bad
    refine Ev.congr (fun k => if_neg (by omega)) ?_
    by_cases c7 : x.f0 < 1
    · rw [if_pos (.inr (.inl c7))] at e0
      rw [e0]
      exact Ev.congr (fun k => if_pos c7) bad
    refine Ev.congr (fun k => if_neg c7) ?_
    by_cases c8 : 11 < x.f0
    · rw [if_pos (.inr (.inr c8))] at e0
      rw [e0, decide_eq_true (show x.f0 > 11 from c8)]
      exact bad
    rw [decide_eq_false (show ¬ x.f0 > 11 from c8)]
    rw [if_neg (by omega)] at e0
    refine Ev.step (fun k => round false k) (Ev.congr (f := fun _ => some (zbR (toN x) d p l)) (fun k => ?_) (Ev.now _))
    rw [if_neg (by decide), e0]
    simp only [two]
    repeat' split
    all_goals first | rfl | (congr 1; rw [Bool.eq_iff_iff, beq_iff_eq, decide_eq_true_iff])
def zdH (d p l w : Int) : List SN → Int → Int
  | [], _ => w
  | x :: r, i => if i = w ∨ zbR x d p l = false then i else zdH d p l w r (i + 1)
def ze6 (c : List SN) (d p l : Int) : Int := zdH d p l (zcB arN c) c 0
theorem zhh (c : List SN) (hc : ∀ x ∈ c, Nw x) (hl : c.length ≤ 1000000) (d p l : Int) : Ev (fun k => zaS.f k c d p l) (ze6 c d p l) := by
  refine Ev.bind (zfj c hl) ?_
  unfold ze6
  generalize zcB arN c = w
  have go : ∀ (r : List SN) (i : Nat), c.drop i = r → Ev (fun k => zaS.l0 k d p l w c (c.length : Int) (i : Int)) (zdH d p l w r (i : Int)) := by
    intro r
    induction r with
    | nil =>
      intro i hd
      have : c.length ≤ i := by simpa using hd
      refine Ev.step (f := fun _ => some w) (fun k => ?_) (Ev.now _)
      simp only [zaS.l0]
      rw [if_neg (by omega)]
    | cons a r ih =>
      intro i hd
      obtain ⟨hlt, ha, hr⟩ := zb3 hd
      unfold zdH
      by_cases c1 : (i : Int) = w
      · rw [if_pos (.inl c1)]
        refine Ev.step (f := fun _ => some (i : Int)) (fun k => ?_) (Ev.now _)
        simp only [zaS.l0]
        rw [if_pos (by omega), if_pos (by omega), if_pos (by omega), if_pos c1]
      · refine Ev.step (f := fun k => (zaY.f k a.f0 a.f1 a.f2 d p l).bind fun t => if t = true then zaS.l0 k d p l w c (c.length : Int) (wrap64 ((i : Int) + 1)) else some (i : Int)) (fun k => ?_) (Ev.bind (zfG a (hc a (by rw [← ha]; exact List.getElem_mem _)) d p l) ?_)
        · simp only [zaS.l0]
          rw [if_pos (by omega), if_pos (by omega), if_pos (by omega), if_neg c1, rdS hlt, ha]
        · cases hn : zbR a d p l with
          | false => rw [if_pos (.inr rfl)]; exact Ev.congr (fun k => if_neg (by decide)) (Ev.now _)
          | true =>
            rw [if_neg (by simp [c1])]
            refine Ev.congr (fun k => ?_) (ih (i + 1) hr)
            rw [if_pos rfl, zbv (by omega) (by omega)]
            rfl
  exact go c 0 rfl
theorem zhM (c : List RN) (hc : ∀ x ∈ c, Nw (toN x)) (hl : c.length ≤ 1000000) (d p l : Int) : Ev (fun k => zaB.f k c d p l) (ze6 (c.map toN) d p l) := by
  refine Ev.bind (zfK c hl) ?_
  unfold ze6
  generalize zcB arN (c.map toN) = w
  have go : ∀ (r : List RN) (i : Nat), c.drop i = r → Ev (fun k => zaB.l0 k c d p l w (i : Int)) (zdH d p l w (r.map toN) (i : Int)) := by
    intro r
    induction r with
    | nil =>
      intro i hd
      have : c.length ≤ i := by simpa using hd
      refine Ev.step (f := fun _ => some w) (fun k => ?_) (Ev.now _)
      simp only [zaB.l0]
      rw [if_neg (by omega)]
    | cons a r ih =>
      intro i hd
      obtain ⟨hlt, ha, hr⟩ := zb3 hd
      rw [List.map_cons]
      unfold zdH
      by_cases c1 : (i : Int) = w
      · rw [if_pos (.inl c1)]
        refine Ev.step (f := fun _ => some (i : Int)) (fun k => ?_) (Ev.now _)
        simp only [zaB.l0]
        rw [if_pos (by omega), if_pos c1]
      · refine Ev.step (f := fun k => (zar.f k a.f0 a.f1 a.f2 d p l).bind fun t => if t = true then zaB.l0 k c d p l w (wrap64 ((i : Int) + 1)) else some (i : Int)) (fun k => ?_) (Ev.bind (zgs a (hc a (by rw [← ha]; exact List.getElem_mem _)) d p l) ?_)
        · simp only [zaB.l0]
          rw [if_pos (by omega), if_neg c1, if_pos (by omega), rdR hlt, ha]
        · cases hn : zbR (toN a) d p l with
          | false => rw [if_pos (.inr rfl)]; exact Ev.congr (fun k => if_neg (by decide)) (Ev.now _)
          | true =>
            rw [if_neg (by simp [c1])]
            refine Ev.congr (fun k => ?_) (ih (i + 1) hr)
            rw [if_pos rfl, zbv (by omega) (by omega)]
            rfl
  exact go c 0 rfl
def zfi (s : ByteArray) : Bool := zco 2 (toL s) && decide (¬ (toL s = [116] ∨ toL s = [121] ∨ toL s = [112] ∨ toL s = [108, 101, 116]))
theorem zht (s : ByteArray) (hs : s.size ≤ 4000) : zbD.f s = some (zfi s) := by
  unfold zbD.f zfi
  rw [toList_eq]
  by_cases h1 : toL s = [116]
  · rw [if_pos h1, decide_eq_false (by simp [h1]), Bool.and_false]
  by_cases h2 : toL s = [121]
  · rw [if_neg h1, if_pos h2, decide_eq_false (by simp [h2]), Bool.and_false]
  by_cases h3 : toL s = [112]
  · rw [if_neg h1, if_neg h2, if_pos h3, decide_eq_false (by simp [h3]), Bool.and_false]
  by_cases h4 : toL s = [108, 101, 116]
  · rw [if_neg h1, if_neg h2, if_neg h3, if_pos h4, decide_eq_false (by simp [h4]), Bool.and_false]
  rw [decide_eq_true (by simp [h1, h2, h3, h4]), Bool.and_true, if_neg h1, if_neg h2, if_neg h3, if_neg h4, right_eq 2 s 0 hs]
  rfl
theorem zh7 (s : ByteArray) (hs : s.size ≤ 4000) : zbo.f s = some (zfi s) := by
  unfold zbo.f zfi
  rw [zhY 2 s 0 hs, toList_eq, Option.bind_some]
  cases zco 2 (toL s) with
  | false => rfl
  | true =>
    rw [if_pos rfl, Bool.true_and]
    by_cases h1 : toL s = [116]
    · rw [if_pos h1, decide_eq_false (by simp [h1])]
    by_cases h2 : toL s = [121]
    · rw [if_neg h1, if_pos h2, decide_eq_false (by simp [h2])]
    by_cases h3 : toL s = [112]
    · rw [if_neg h1, if_neg h2, if_pos h3, decide_eq_false (by simp [h3])]
    rw [if_neg h1, if_neg h2, if_neg h3]
    congr 1
    rw [Bool.eq_iff_iff, decide_eq_true_iff]
    simp [h1, h2, h3]
end Go.Proofs.YtbicjgaadknmfaaDoor.M
end
section
namespace Go.Proofs.YtbicjgaadknmfaaDoor.M
open Go.RowKit Go.Proofs.YtbicjgaadknmfaaDoorW.PrintWords Go.Proofs.YtbicjgaadknmfaaDoor.P Go.Proofs.YtbicjgaadknmfaaDoorW.PrintMore
set_option linter.unusedVariables false
set_option linter.unusedSimpArgs false
theorem ziz (l : List RN) (m w : Nat) (hm : m ≤ 100000) : ∃ b, Ev (fun k => zaq.f k l (m : Int) (w : Int)) b ∧ (b = false → l.length ≤ m ∧ ∀ x ∈ l, x.f2.length ≤ w) := by
  have round : ∀ (i : Nat) k, zaq.l0 (k + 2) l (m : Int) (w : Int) (i : Int) = if i < l.length ∧ i < m then (if w < (l.getD i z62).f2.length then some true else zaq.l0 k l (m : Int) (w : Int) ((i + 1 : Nat) : Int)) else some (decide (m < l.length)) := by
    intro i k
    simp only [zaq.l0, zaq.j1]
    by_cases c : i < l.length
    · by_cases c2 : i < m
      · rw [if_pos (by omega), decide_eq_true (by omega), if_pos rfl, if_pos (by omega), if_pos (by omega), if_pos (show i < l.length ∧ i < m from ⟨c, c2⟩), rdR c, zbv (by omega) (by omega)]
        have e : (l.getD i z62) = l[i] := by simp [List.getD_eq_getElem?_getD, c]
        rw [e]
        by_cases c3 : w < l[i].f2.length
        · rw [if_pos (by omega), if_pos c3]
        · rw [if_neg (by omega), if_neg c3]; rfl
      · rw [if_pos (by omega), decide_eq_false (by omega), if_neg (by decide), if_neg (by omega)]
        congr 1
        exact decide_eq_decide.2 (by omega)
    · rw [if_neg (by omega), if_neg (by decide), if_neg (by omega)]
      congr 1
      exact decide_eq_decide.2 (by omega)
  have go : ∀ (n i : Nat), l.length - i = n → (∀ j, (h : j < l.length) → j < i → l[j].f2.length ≤ w) → ∃ b, Ev (fun k => zaq.l0 k l (m : Int) (w : Int) (i : Int)) b ∧ (b = false → l.length ≤ m ∧ ∀ x ∈ l, x.f2.length ≤ w) := by
    intro n
    induction n with
    | zero =>
      intro i hn hj
      refine ⟨decide (m < l.length), Ev.step (fun _ => rfl) (Ev.step (fun k => round i k) (Ev.congr (fun k => if_neg (by omega)) (Ev.now _))), fun hb => ⟨by have := of_decide_eq_false hb; omega, fun x hx => ?_⟩⟩
      obtain ⟨j, hjl, rfl⟩ := List.getElem_of_mem hx
      exact hj j hjl (by omega)
    | succ n ih =>
      intro i hn hj
      have hil : i < l.length := by omega
      by_cases c2 : i < m
      · have e : (l.getD i z62) = l[i] := by simp [List.getD_eq_getElem?_getD, hil]
        by_cases c3 : w < l[i].f2.length
        · exact ⟨true, Ev.step (fun _ => rfl) (Ev.step (fun k => round i k) (Ev.congr (fun k => by rw [if_pos (show i < l.length ∧ i < m from ⟨hil, c2⟩), e, if_pos c3]) (Ev.now _))), fun h => by cases h⟩
        · obtain ⟨b, hb, hb2⟩ := ih (i + 1) (by omega) (fun j h h2 => by
            by_cases hji : j = i
            · subst hji; omega
            · exact hj j h (by omega))
          exact ⟨b, Ev.step (fun _ => rfl) (Ev.step (fun k => round i k) (Ev.congr (fun k => by rw [if_pos (show i < l.length ∧ i < m from ⟨hil, c2⟩), e, if_neg c3]) hb)), hb2⟩
      · refine ⟨decide (m < l.length), Ev.step (fun _ => rfl) (Ev.step (fun k => round i k) (Ev.congr (fun k => if_neg (by omega)) (Ev.now _))), fun hb => ?_⟩
        have := of_decide_eq_false hb
        refine ⟨by omega, fun x hx => ?_⟩
        obtain ⟨j, hjl, rfl⟩ := List.getElem_of_mem hx
        exact hj j hjl (by omega)
  exact go _ 0 rfl (fun j _ h => by omega)
theorem zjs (l : List RN) (hl : l.length ≤ 1000000) : Ev (fun k => zaE.f k l) (l.map toN) := by
  have go : ∀ (r : List RN) (i : Nat) (acc : List SN), l.drop i = r → i ≤ l.length → acc = (l.take i).map toN → Ev (fun k => zaE.l0 k l acc (i : Int)) (l.map toN) := by
    intro r
    induction r with
    | nil =>
      intro i acc hd hi ha
      have : l.length ≤ i := by simpa using hd
      refine Ev.step (f := fun _ => some acc) (fun k => ?_) ?_
      · simp only [zaE.l0]
        rw [if_neg (by omega)]
      · rw [ha, List.take_of_length_le this]; exact Ev.now _
    | cons a r ih =>
      intro i acc hd hi ha
      obtain ⟨hlt, h1, hr⟩ := zb3 hd
      have hal : acc.length = i := by rw [ha]; simp; omega
      refine Ev.step (f := fun k => zaE.l0 k l (acc ++ [toN a]) ((i + 1 : Nat) : Int)) (fun k => ?_) (ih (i + 1) _ hr (by omega) (by rw [ha, ← h1, List.take_succ_eq_append_getElem hlt, List.map_append]; rfl))
      simp only [zaE.l0]
      rw [if_pos (by omega), if_pos (by omega), if_pos (by omega), rdR hlt, h1, zbv (by omega) (by omega)]
      rfl
  exact go l 0 [] rfl (by omega) rfl
end Go.Proofs.YtbicjgaadknmfaaDoor.M
end
section
namespace Go.Proofs.YtbicjgaadknmfaaDoor.Pure
open Go.RowKit Go.Proofs.YtbicjgaadknmfaaDoor.P Go.Proofs.YtbicjgaadknmfaaDoor.M Go.Proofs.YtbicjgaadknmfaaDoorW.PrintWords
set_option linter.unusedVariables false
set_option linter.unusedSimpArgs false
theorem CheckNodes (c : List RN) (d p l : Int) (s : ByteArray) (hW : ∀ x, x ∈ c → Wl x.f2) : ∃ k, zal.f k c d p l s = some true := by
  obtain ⟨b, e, q⟩ := ziz c 100 9 (by omega)
  refine Ev.rounds (g := fun k => zal.f k c d p l s) (Ev.bind e ?_)
  have bad : Ev (fun k => zal.j0 k c s true d p l) true := by
    refine Ev.step (f := fun _ => some true) (fun k => ?_) (Ev.now _)
    simp only [zal.j0]
    rw [if_pos trivial]
    rfl
  cases b with
  | true => exact Ev.congr (fun k => if_pos rfl) bad
  | false =>
  by_cases hs : 100 < s.size
  · exact Ev.congr (fun k => by rw [if_neg (by decide), decide_eq_true (show (s.size : Int) > 100 by omega)]) bad
  obtain ⟨hl, hw⟩ := q rfl
  have hc : ∀ x ∈ c, Nw (toN x) := fun x hx => ⟨hW x hx, by have := hw x hx; show x.f2.length ≤ 1000; omega⟩
  have hcm : ∀ x ∈ c.map toN, Nw x := fun x hx => by obtain ⟨y, hy, rfl⟩ := List.mem_map.1 hx; exact hc y hy
  have last : Ev (fun k => (zaS.f k (c.map toN) d p l).bind fun t352 => ((zaB.f k c d p l).bind fun t353 => (if t352 = t353 then ((zbD.f s).bind fun t354 => ((zbo.f s).bind fun t355 => (if (t354 == t355) = true then ((zbj.f).bind fun t356 => (some t356)) else (some false)))) else (some false)))) true := by
    refine Ev.bind (zhh _ hcm (by rw [List.length_map]; omega) d p l) (Ev.bind (zhM c hc (by omega) d p l) ?_)
    refine Ev.congr (f := fun _ => some true) (fun k => ?_) (Ev.now _)
    rw [if_pos rfl, zht s (by omega), zh7 s (by omega), Option.bind_some, Option.bind_some, if_pos (by simp)]
    rfl
  have go : ∀ (r : List RN) (i : Nat), c.drop i = r → Ev (fun k => zal.l0 k c s (c.map toN) (i : Int) d p l) true := by
    intro r
    induction r with
    | nil =>
      intro i hd
      have : c.length ≤ i := by simpa using hd
      refine Ev.step (fun k => ?_) last
      simp only [zal.l0]
      rw [if_neg (by omega)]
    | cons a r ih =>
      intro i hd
      obtain ⟨hlt, h1, hr⟩ := zb3 hd
      have ha : a ∈ c := by rw [← h1]; exact List.getElem_mem _
      have hlm : i < (c.map toN).length := by rw [List.length_map]; exact hlt
      have hm : (c.map toN)[i] = toN a := by rw [List.getElem_map, h1]
      refine Ev.step (f := fun k => (zaY.f k (toN a).f0 (toN a).f1 (toN a).f2 d p l).bind fun x => (zar.f k a.f0 a.f1 a.f2 d p l).bind fun y => if (x != y) = true then some false else zal.l0 k c s (c.map toN) ((i + 1 : Nat) : Int) d p l) (fun k => ?_) (Ev.bind (zfG (toN a) (hc a ha) d p l) (Ev.bind (zgs a (hc a ha) d p l) (Ev.congr (fun k => if_neg (by simp)) (ih (i + 1) hr))))
      simp only [zal.l0]
      rw [if_pos (by omega), if_pos (by omega), if_pos (by omega), rdR hlt, rdS hlm, h1, hm, zbv (by omega) (by omega)]
      rfl
  refine Ev.congr (fun k => by rw [if_neg (by decide), decide_eq_false (show ¬ (s.size : Int) > 100 by omega)]) (Ev.step (f := fun k => (zaE.f k c).bind fun t => zal.l0 k c s t 0 d p l) (fun k => ?_) (Ev.bind (zjs c (by omega)) (go c 0 rfl)))
  simp only [zal.j0]
  rw [if_neg (by decide)]
end Go.Proofs.YtbicjgaadknmfaaDoor.Pure
end
section
namespace Go.Proofs.YtbicjgaadknmfaaDoor.O
open Go.RowKit Go.Proofs.YtbicjgaadknmfaaDoorW.PrintWords
set_option linter.unusedVariables false
set_option linter.unusedSimpArgs false
def Opn (P : Program) (t : TypeId) {α : Type} (d : Kd α) (ok : α → Prop) : Prop :=
  ∀ (H : Type) (enc : TypeId × Value → H) (w : World) (sp : Nat → Bool) (fuel : Nat) (cs : List Value) (x : DataW H × List MemPlace),
    DataW.trod enc P w 0 sp true fuel t cs = some x → ∃ a, d.K w a cs ∧ ok a
variable {P : Program}
theorem zeD {t : TypeId} {k : IntKind} (ht : P.underlying t = some (.int k)) : Opn P t (Kd.int k) (fun n => (Lit.int k n).wf = true) := by
  intro H enc w sp fuel cs x h
  obtain ⟨n, rfl, _, hw⟩ := DataW.trod_int ht h
  exact ⟨n, rfl, hw⟩
theorem zku {t : TypeId} (ht : P.underlying t = some .bool) : Opn P t Kd.bool (fun _ => True) := by
  intro H enc w sp fuel cs x h
  obtain ⟨n, rfl, _⟩ := DataW.trod_bool ht h
  exact ⟨n, rfl, trivial⟩
theorem zjY {t : TypeId} (ht : P.underlying t = some .string) : Opn P t Kd.string (fun s => s.size ≤ maxLen) := by
  intro H enc w sp fuel cs x h
  obtain ⟨n, rfl, _, hs⟩ := DataW.trod_string ht h
  exact ⟨n, rfl, hs⟩
theorem zje {α β : Type} {t : TypeId} {d : Kd α} {ok : α → Prop} (h : Opn P t d ok) (f : β → α) (g : α → β) (e : ∀ a, f (g a) = a) : Opn P t (Kd.iso d f) (fun b => ok (f b)) := by
  intro H enc w sp fuel cs x hx
  obtain ⟨a, hk, ha⟩ := h H enc w sp fuel cs x hx
  exact ⟨g a, by show d.K w (f (g a)) cs; rw [e]; exact hk, by show ok (f (g a)); rw [e]; exact ha⟩
theorem zjq {α : Type} {t : TypeId} {d : Kd α} {ok ok' : α → Prop} (h : Opn P t d ok) (i : ∀ a, ok a → ok' a) : Opn P t d ok' := by
  intro H enc w sp fuel cs x hx
  obtain ⟨a, hk, ha⟩ := h H enc w sp fuel cs x hx
  exact ⟨a, hk, i a ha⟩
theorem zjW {α β : Type} {t : TypeId} {f0 f1 : Field} {a : Kd α} {b : Kd β} {oa : α → Prop} {ob : β → Prop} (ht : P.underlying t = some (.struct #[f0, f1]))
    (c : P.cellsOf t = a.sz + b.sz) (o0 : f0.offset = 0) (o1 : f1.offset = a.sz) (c0 : P.cellsOf f0.type = a.sz) (c1 : P.cellsOf f1.type = b.sz) (A : Opn P f0.type a oa) (B : Opn P f1.type b ob) :
    Opn P t (Kd.pair a b) (fun x => oa x.1 ∧ ob x.2) := by
  intro H enc w sp fuel cs x h
  obtain ⟨y0, y1, n, _, hl, h0, h1⟩ := Go.ChangeShapes.trod_struct2 ht h
  rw [o0, c0, List.drop_zero] at h0
  rw [o1, c1] at h1
  obtain ⟨u, hu, ou⟩ := A H enc w sp n _ _ h0
  obtain ⟨v, hv, ov⟩ := B H enc w sp n _ _ h1
  refine ⟨(u, v), ⟨_, _, ?_, hu, hv⟩, ou, ov⟩
  rw [List.take_of_length_le (l := cs.drop a.sz) (by rw [List.length_drop, hl, c]; omega), List.take_append_drop]
theorem zgH {α β γ : Type} {t : TypeId} {f0 f1 f2 : Field} {a : Kd α} {b : Kd β} {g : Kd γ} {oa : α → Prop} {ob : β → Prop} {og : γ → Prop} (ht : P.underlying t = some (.struct #[f0, f1, f2]))
    (c : P.cellsOf t = a.sz + (b.sz + g.sz)) (o0 : f0.offset = 0) (o1 : f1.offset = a.sz) (o2 : f2.offset = a.sz + b.sz) (c0 : P.cellsOf f0.type = a.sz) (c1 : P.cellsOf f1.type = b.sz) (c2 : P.cellsOf f2.type = g.sz)
    (A : Opn P f0.type a oa) (B : Opn P f1.type b ob) (G : Opn P f2.type g og) :
    Opn P t (Kd.pair a (Kd.pair b g)) (fun x => oa x.1 ∧ ob x.2.1 ∧ og x.2.2) := by
  intro H enc w sp fuel cs x h
  obtain ⟨y0, y1, y2, n, _, hl, h0, h1, h2⟩ := Go.Deep.trod_struct3 ht h
  rw [o0, c0, List.drop_zero] at h0
  rw [o1, c1] at h1
  rw [o2, c2] at h2
  obtain ⟨u, hu, ou⟩ := A H enc w sp n _ _ h0
  obtain ⟨v, hv, ov⟩ := B H enc w sp n _ _ h1
  obtain ⟨z, hz, oz⟩ := G H enc w sp n _ _ h2
  refine ⟨(u, v, z), ⟨_, _, ?_, hu, ⟨_, _, rfl, hv, hz⟩⟩, ou, ov, oz⟩
  rw [List.take_of_length_le (l := cs.drop (a.sz + b.sz)) (by rw [List.length_drop, hl, c]; omega), ← List.drop_drop, List.take_append_drop, List.take_append_drop]
theorem zfF {α : Type} {t e : TypeId} {d : Kd α} {ok : α → Prop} (ht : P.underlying t = some (.slice e)) (hc : P.cellsOf e = d.sz) (E : Opn P e d ok) :
    Opn P t (Kd.slice e d) (fun xs => ∀ x, x ∈ xs → ok x) := by
  intro H enc w sp fuel cs x h
  rcases Go.Deep.open_slice ht h with ⟨rfl, _⟩ | ⟨a, len, cap, m, n, D, Pl, rfl, _, hl, hm, hmm, _, hel⟩
  · exact ⟨[], ⟨none, 0, rfl, Nat.le_refl _, Kd.zf0 d w⟩, fun x hx => by cases hx⟩
  · have hlm : len ≤ m := by rw [hmm]; split <;> omega
    have key : ∀ i, i < len → ∃ y : α, (∃ c : List Value, c.length = d.sz ∧ d.K w y c ∧ ∀ j u, c[j]? = some u → w.cell? (a.add (i * d.sz + j)) = some u) ∧ ok y := by
      intro i hi
      obtain ⟨cs', h1, h2⟩ := hel i (by omega)
      obtain ⟨y, hy, oy⟩ := E H enc w sp n cs' _ h2
      obtain ⟨_, hlen, hcell⟩ := World.cells?_some h1
      rw [hc] at hlen
      refine ⟨y, ⟨cs', hlen, hy, fun j u hu => ?_⟩, oy⟩
      have hj : j < d.sz := by
        rw [← hlen]
        exact (List.getElem?_eq_some_iff.1 hu).1
      have := hcell j (by rw [hc]; exact hj)
      rw [hc, Go.Deep.add_add] at this
      rw [this, hu]
    have all : ∀ k, k ≤ len → ∃ xs : List α, xs.length = k ∧ ∀ j p, xs[j]? = some p → (∃ c : List Value, c.length = d.sz ∧ d.K w p c ∧ ∀ i u, c[i]? = some u → w.cell? (a.add (j * d.sz + i)) = some u) ∧ ok p := by
      intro k
      induction k with
      | zero => exact fun _ => ⟨[], rfl, fun j p hj => by simp at hj⟩
      | succ k ih =>
        intro hk
        obtain ⟨xs, hx, hxs⟩ := ih (by omega)
        obtain ⟨y, hy⟩ := key k (by omega)
        refine ⟨xs ++ [y], by simp [hx], fun j p hj => ?_⟩
        rcases Nat.lt_or_ge j xs.length with h | h
        · rw [List.getElem?_append_left h] at hj
          exact hxs j p hj
        · rw [List.getElem?_append_right h] at hj
          have : j = k := by
            have := (List.getElem?_eq_some_iff.1 hj).1
            simp at this
            omega
          subst this
          rw [show j - xs.length = 0 by omega] at hj
          cases hj
          exact hy
    obtain ⟨xs, hx, hxs⟩ := all len (Nat.le_refl _)
    refine ⟨xs, ⟨some a, cap, by rw [hx], by omega, ⟨rfl, by unfold maxLen at hm; omega, fun _ => ⟨a, rfl, fun j p hj => (hxs j p hj).1⟩⟩⟩, fun x hx' => ?_⟩
    obtain ⟨j, hj⟩ := List.getElem?_of_mem hx'
    exact (hxs j x hj).2
theorem zjh {α : Type} {H : Type} {enc : TypeId × Value → H} {w : World} {sp : Nat → Bool} {t e : TypeId} {d : Kd α} {ok : List α → Prop} {A : Option Addr} {len cap : Nat} {x : DataW H} {ps : List MemPlace}
    (E : Opn P t (Kd.slice e d) ok) (h : DataW.Trod enc P w 0 sp true t (.slice A len cap) x ps) : ∃ xs : List α, len = xs.length ∧ xs.length ≤ cap ∧ Kd.C d w A xs.length xs ∧ ok xs := by
  obtain ⟨fuel, hf⟩ := h
  obtain ⟨xs, ⟨A', c, e', hc, hC⟩, hok⟩ := E H enc w sp fuel _ _ hf
  simp [Value.cells] at e'
  obtain ⟨rfl, rfl, rfl⟩ := e'
  exact ⟨xs, rfl, hc, hC, hok⟩
end Go.Proofs.YtbicjgaadknmfaaDoor.O
end
