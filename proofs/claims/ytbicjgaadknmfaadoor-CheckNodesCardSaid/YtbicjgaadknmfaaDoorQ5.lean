import Derived.Test.YtbicjgaadknmfaaDoorQ3
import Derived.Test.YtbicjgaadknmfaaDoorQ1
import Derived.Laws.BitsLemmas
import Derived.Test.YtbicjgaadknmfaaDoorProg
import Derived.Test.YtbicjgaadknmfaaDoorQ0
import Derived.Handy
section
namespace Go.Proofs.YtbicjgaadknmfaaDoor.M
open Go.RowKit Go.Proofs.YtbicjgaadknmfaaDoorW.PrintWords Go.Proofs.YtbicjgaadknmfaaDoor.P
set_option linter.unusedVariables false
set_option linter.unusedSimpArgs false
def val : List Int → Int
  | [] => 0
  | x :: l => x + 4294967296 * val l
def Wl (l : List Int) : Prop := ∀ x ∈ l, 0 ≤ x ∧ x < 4294967296
theorem Wl.nil : Wl [] := by intro x h; simp at h
theorem Wl.cons {x : Int} {l : List Int} (h0 : 0 ≤ x) (h1 : x < 4294967296) (h : Wl l) : Wl (x :: l) := by
  intro y hy
  rcases List.mem_cons.1 hy with rfl | hy
  · exact ⟨h0, h1⟩
  · exact h y hy
theorem Wl.tail {x : Int} {l : List Int} (h : Wl (x :: l)) : Wl l := fun y hy => h y (List.mem_cons_of_mem _ hy)
theorem Wl.head {x : Int} {l : List Int} (h : Wl (x :: l)) : 0 ≤ x ∧ x < 4294967296 := h x List.mem_cons_self
theorem Wl.append {l m : List Int} (h : Wl l) (k : Wl m) : Wl (l ++ m) := by
  intro y hy
  rcases List.mem_append.1 hy with hy | hy
  · exact h y hy
  · exact k y hy
theorem Wl.zeros (n : Nat) : Wl (List.replicate n 0) := by
  intro y hy
  have := (List.mem_replicate.1 hy).2
  omega
theorem Wl.take {l : List Int} (h : Wl l) (n : Nat) : Wl (l.take n) := fun y hy => h y (List.mem_of_mem_take hy)
theorem Wl.drop {l : List Int} (h : Wl l) (n : Nat) : Wl (l.drop n) := fun y hy => h y (List.mem_of_mem_drop hy)
theorem Wl.get {l : List Int} (h : Wl l) (i : Nat) (hi : i < l.length) : 0 ≤ l[i] ∧ l[i] < 4294967296 := h _ (List.getElem_mem hi)
theorem zdx {l : List Int} (h : Wl l) : 0 ≤ val l := by
  induction l with
  | nil => simp [val]
  | cons x l ih =>
    have := ih h.tail
    have := h.head
    simp only [val]
    omega
theorem val_append (l m : List Int) : val (l ++ m) = val l + 4294967296 ^ l.length * val m := by
  induction l with
  | nil => simp [val]
  | cons x l ih =>
    simp only [List.cons_append, val, ih, List.length_cons, Int.pow_succ]
    grind
theorem zkm (n : Nat) : val (List.replicate n 0) = 0 := by
  induction n with
  | zero => rfl
  | succ n ih => simp only [List.replicate_succ, val, ih]; omega
theorem zjy {l : List Int} (h : Wl l) : val l < 4294967296 ^ l.length := by
  induction l with
  | nil => simp [val]
  | cons x l ih =>
    have h1 := ih h.tail
    have h2 := h.head
    simp only [val, List.length_cons, Int.pow_succ]
    generalize (4294967296 : Int) ^ l.length = p at *
    omega
theorem zhl (x : Int) (l : List Int) : strip (x :: l) = if strip l = [] ∧ x = 0 then [] else x :: strip l := by
  unfold strip
  rw [List.reverse_cons, List.dropWhile_append]
  cases hl : List.dropWhile (fun x : Int => x == 0) l.reverse with
  | nil => by_cases hx : x = 0 <;> simp [hx]
  | cons y t => simp
def words (n : Nat) : List Int :=
  if h : n = 0 then [] else ((n % 4294967296 : Nat) : Int) :: words (n / 4294967296)
termination_by n
decreasing_by omega
theorem zbY : words 0 = [] := by unfold words; rfl
theorem zc7 {n : Nat} (h : n ≠ 0) : words n = ((n % 4294967296 : Nat) : Int) :: words (n / 4294967296) := by rw [words]; simp [h]
theorem zd7 (n : Nat) : Wl (words n) := by
  induction n using Nat.strongRecOn with
  | ind n ih =>
    by_cases h : n = 0
    · subst h; rw [zbY]; exact Wl.nil
    · rw [zc7 h]; exact Wl.cons (by omega) (by omega) (ih _ (by omega))
theorem zc8 (n : Nat) : val (words n) = (n : Int) := by
  induction n using Nat.strongRecOn with
  | ind n ih =>
    by_cases h : n = 0
    · subst h; rw [zbY]; rfl
    · rw [zc7 h]; simp only [val]; rw [ih _ (by omega)]; omega
theorem zdw (n : Nat) : words n = [] ↔ n = 0 := by
  constructor
  · intro h
    by_cases hn : n = 0
    · exact hn
    · rw [zc7 hn] at h; cases h
  · rintro rfl; exact zbY
theorem zc0 {l : List Int} (h : Wl l) : strip l = words (val l).toNat := by
  induction l with
  | nil => simp [strip_nil, val, zbY]
  | cons x l ih =>
    have h1 := ih h.tail
    have h2 := h.head
    have h3 := zdx h.tail
    rw [zhl, h1]
    simp only [val, zdw]
    by_cases hz : (val l).toNat = 0 ∧ x = 0
    · rw [if_pos hz, show (x + 4294967296 * val l).toNat = 0 by omega, zbY]
    · have hne : (x + 4294967296 * val l).toNat ≠ 0 := by omega
      have e1 : (((x + 4294967296 * val l).toNat % 4294967296 : Nat) : Int) = x := by omega
      have e2 : (x + 4294967296 * val l).toNat / 4294967296 = (val l).toNat := by omega
      rw [if_neg hz, zc7 hne, e1, e2]
theorem ziS (n : Nat) : strip (words n) = words n := by rw [zc0 (zd7 n), zc8]; rfl
theorem zkb {m n : Nat} (h : words m = words n) : m = n := by
  have := congrArg val h
  rw [zc8, zc8] at this
  omega
theorem zkf (n : Nat) : (words n).length ≤ n := by
  induction n using Nat.strongRecOn with
  | ind n ih =>
    by_cases h : n = 0
    · subst h; rw [zbY]; simp
    · rw [zc7 h]
      have := ih (n / 4294967296) (by omega)
      simp only [List.length_cons]
      omega
def dec (n : Nat) : List UInt8 := if n < 10 then [UInt8.ofNat (48 + n)] else dec (n / 10) ++ [UInt8.ofNat (48 + n % 10)]
termination_by n
decreasing_by omega
theorem zjJ (n : Nat) : dec n ≠ [] := by rw [dec]; split <;> simp
theorem zeZ (n : Nat) (h : 10 ≤ n) : dec n = dec (n / 10) ++ [UInt8.ofNat (48 + n % 10)] := by rw [dec.eq_1 n, if_neg (by omega)]
theorem zdp (n : Nat) (h : n < 10) : dec n = [UInt8.ofNat (48 + n)] := by rw [dec, if_pos h]
def fixd : Nat → Nat → List UInt8
  | 0, _ => []
  | w + 1, n => fixd w (n / 10) ++ [UInt8.ofNat (48 + n % 10)]
theorem zf3 (w n : Nat) : (fixd w n).length = w := by
  induction w generalizing n with
  | zero => rfl
  | succ w ih => simp [fixd, ih]
theorem zik (a b n : Nat) : fixd (a + b) n = fixd a (n / 10 ^ b) ++ fixd b n := by
  induction b generalizing n with
  | zero => simp [fixd]
  | succ b ih =>
    rw [← Nat.add_assoc, fixd, ih, fixd, List.append_assoc, Nat.div_div_eq_div_mul, show 10 * 10 ^ b = 10 ^ (b + 1) by rw [Nat.pow_succ, Nat.mul_comm]]
theorem zil (b n : Nat) : fixd b (n % 10 ^ b) = fixd b n := by
  induction b generalizing n with
  | zero => rfl
  | succ b ih =>
    simp only [fixd]
    have h1 : n % 10 ^ (b + 1) / 10 = n / 10 % 10 ^ b := by
      rw [Nat.pow_succ, Nat.mul_comm, Nat.mod_mul_right_div_self]
    have h2 : n % 10 ^ (b + 1) % 10 = n % 10 := by
      rw [Nat.pow_succ, Nat.mul_comm, Nat.mod_mul_right_mod]
    rw [h1, h2, ih]
theorem zjG (d : Nat) (h : d < 10) (h0 : d ≠ 0) : (UInt8.ofNat (48 + d) == 48) = false := by
  have : d = 1 ∨ d = 2 ∨ d = 3 ∨ d = 4 ∨ d = 5 ∨ d = 6 ∨ d = 7 ∨ d = 8 ∨ d = 9 := by omega
  rcases this with rfl | rfl | rfl | rfl | rfl | rfl | rfl | rfl | rfl <;> rfl
theorem zhN (w n : Nat) (h : n < 10 ^ w) : (fixd w n).dropWhile (· == 48) = if n = 0 then [] else dec n := by
  induction w generalizing n with
  | zero =>
    have : n = 0 := by simpa using h
    simp [this, fixd]
  | succ w ih =>
    rw [fixd, List.dropWhile_append, ih (n / 10) (by rw [Nat.pow_succ] at h; omega)]
    by_cases h0 : n / 10 = 0
    · rw [if_pos h0]
      by_cases hn : n = 0
      · subst hn; simp
      · have hm : n % 10 = n := by omega
        have hlt : n < 10 := by omega
        have hd := zjG n hlt hn
        rw [if_neg hn, zdp n hlt, hm]
        simp only [List.isEmpty_nil, if_true, List.dropWhile_cons, hd, Bool.false_eq_true, if_false]
    · have h10 : 10 ≤ n := by omega
      have hn : ¬ n = 0 := by omega
      have hne : (dec (n / 10)).isEmpty = false := by
        have := zjJ (n / 10)
        cases h : dec (n / 10) with
        | nil => exact absurd h this
        | cons _ _ => rfl
      rw [if_neg h0, if_neg hn, zeZ n h10, hne]; rfl
end Go.Proofs.YtbicjgaadknmfaaDoor.M
end
section
namespace Go.Proofs.YtbicjgaadknmfaaDoor.M
open Go.RowKit Go.Proofs.YtbicjgaadknmfaaDoorW.PrintWords Go.Proofs.YtbicjgaadknmfaaDoor.P
set_option linter.unusedVariables false
set_option linter.unusedSimpArgs false
theorem u64w (n : Int) : IntKind.u64.wrap n = n % 18446744073709551616 := by simp [IntKind.wrap, IntKind.bits, IntKind.signed]
theorem zdc {n : Int} (h0 : 0 ≤ n) (h : n < 18446744073709551616) : IntKind.u64.wrap n = n := by rw [u64w]; omega
theorem or32 {x y : Int} (h0 : 0 ≤ x) (h1 : x < 4294967296) (h2 : 0 ≤ y) (h3 : y < 4294967296) : Go.bits .or .u64 (x * 4294967296) y = x * 4294967296 + y :=
  bits_join .u64 64 (by decide) (fun n h0 h1 => zdc h0 (by omega)) 32 _ _ (by omega) (by omega) (by omega) h2 (by omega) (by omega)
theorem zjn {a b y : Int} (h0 : 0 ≤ a) (h1 : a < y) (hy : y < 4294967296) (h2 : 0 ≤ b) (h3 : b < 4294967296) : zdd.f a b y = some ((a * 4294967296 + b) / y, (a * 4294967296 + b) % y, true) := by
  have hq0 : 0 ≤ (a * 4294967296 + b) / y := Int.ediv_nonneg (by omega) (by omega)
  have hq1 : (a * 4294967296 + b) / y < 4294967296 := by
    apply Int.ediv_lt_of_lt_mul (by omega)
    have : (a + 1) * 4294967296 ≤ y * 4294967296 := by omega
    grind
  have hr0 : 0 ≤ (a * 4294967296 + b) % y := Int.emod_nonneg _ (by omega)
  have hr1 : (a * 4294967296 + b) % y < y := Int.emod_lt_of_pos _ (by omega)
  unfold zdd.f
  rw [if_neg (by omega), zdc (n := y) (by omega) (by omega), if_neg (by omega), zdc (n := a) (by omega) (by omega), zdc (n := b) (by omega) (by omega), zdc (n := a * 4294967296) (by omega) (by omega),
    or32 (by omega) (by omega) (by omega) (by omega), Int.tdiv_eq_ediv_of_nonneg (by omega), Int.tmod_eq_emod_of_nonneg (by omega), zdc hq0 (by omega), Int.emod_eq_of_lt hq0 hq1, Int.emod_eq_of_lt hr0 (by omega)]
theorem zdr {l : List Int} {i : Nat} (h : i < l.length) : rd l (i : Int) = l[i] := by
  unfold rd
  simp [List.getD_eq_getElem?_getD, h]
theorem zfc {q r a x : Int} (h : q * x + r = a) (h0 : 0 ≤ r) (h1 : r < x) : a / x = q ∧ a % x = r := by
  have hx : 0 < x := by omega
  subst h
  constructor
  · rw [Int.mul_comm, Int.add_comm, Int.add_mul_ediv_left _ _ (by omega), Int.ediv_eq_zero_of_lt h0 h1]; omega
  · rw [Int.mul_comm, Int.add_comm, Int.add_mul_emod_self_left, Int.emod_eq_of_lt h0 h1]
theorem zhT (j : Nat) (q : Int) (qs : List Int) : (List.replicate (j + 1) 0 ++ qs).set j q = List.replicate j 0 ++ (q :: qs) := by
  rw [List.replicate_succ', List.append_assoc, List.set_append_right _ _ (by simp)]
  simp
theorem zh4 {l : List Int} {x : Int} (hl : Wl l) (hx0 : 0 < x) (hx : x < 4294967296) (hn : l.length ≤ 35184372088832) (j : Nat) :
    ∀ (qs : List Int) (r : Int), j ≤ l.length → qs.length = l.length - j → Wl qs → val qs * x + r = val (l.drop j) → 0 ≤ r → r < x →
      Ev (fun k => zbg.l0 k l x (List.replicate j 0 ++ qs) r ((j : Int) - 1)) (words (val l / x).toNat, val l % x, true) := by
  induction j with
  | zero =>
    intro qs r _ hq hw hv h0 h1
    refine Ev.step (f := fun _ => some (words (val l / x).toNat, val l % x, true)) (fun k => ?_) (Ev.now _)
    simp only [zbg.l0, List.replicate_zero, List.nil_append]
    rw [if_neg (by omega)]
    unfold zcs.f
    obtain ⟨e1, e2⟩ := zfc hv h0 h1
    rw [if_pos (by omega), Option.bind_some, zc0 hw, show val l = val (l.drop 0) from rfl, e1, e2]
  | succ j ih =>
    intro qs r hj hq hw hv h0 h1
    have hi : j < l.length := by omega
    have hg := hl.get j hi
    have hd := zjn h0 h1 hx hg.1 hg.2
    have hq0 : 0 ≤ (r * 4294967296 + l[j]) / x := Int.ediv_nonneg (by omega) (by omega)
    have hq1 : (r * 4294967296 + l[j]) / x < 4294967296 := by
      apply Int.ediv_lt_of_lt_mul (by omega)
      have : (r + 1) * 4294967296 ≤ x * 4294967296 := by omega
      grind
    have hr0 : 0 ≤ (r * 4294967296 + l[j]) % x := Int.emod_nonneg _ (by omega)
    have hr1 : (r * 4294967296 + l[j]) % x < x := Int.emod_lt_of_pos _ (by omega)
    have hdm := Int.mul_ediv_add_emod (r * 4294967296 + l[j]) x
    have hv' : val ((r * 4294967296 + l[j]) / x :: qs) * x + (r * 4294967296 + l[j]) % x = val (l.drop j) := by
      rw [List.drop_eq_getElem_cons hi]
      simp only [val]
      rw [← hv]
      grind
    have hk := ih ((r * 4294967296 + l[j]) / x :: qs) _ (by omega) (by simp; omega) (Wl.cons hq0 hq1 hw) hv' hr0 hr1
    refine Ev.step (fun k => ?_) hk
    simp only [zbg.l0]
    have e1 : ((j + 1 : Nat) : Int) - 1 = (j : Int) := by omega
    rw [e1, if_pos (by omega), if_pos (by omega), if_pos (by omega), zdr hi, hd, Option.bind_some, if_pos (by simp; omega), show ((j : Int)).toNat = j from by omega, zhT, zbv (by omega) (by omega)]
theorem ziu {l : List Int} {x : Int} (hl : Wl l) (hx0 : 0 < x) (hx : x < 4294967296) (hn : l.length ≤ 35184372088832) :
    Ev (fun k => zbg.f k l x) (words (val l / x).toNat, val l % x, true) := by
  refine Ev.congr (fun k => ?_) (zh4 hl hx0 hx hn l.length [] 0 (Nat.le_refl _) (by simp) Wl.nil (by simp [val]) (by omega) hx0)
  unfold zbg.f
  rw [if_neg (by omega), if_pos (by omega), if_pos (by omega), zbv (by omega) (by omega), List.append_nil, Int.toNat_natCast]
end Go.Proofs.YtbicjgaadknmfaaDoor.M
end
section
namespace Go.Proofs.YtbicjgaadknmfaaDoor.P
open Go.RowKit Go.Proofs.YtbicjgaadknmfaaDoorW.PrintWords
set_option linter.unusedVariables false
set_option linter.unusedSimpArgs false
def ze5 (x : Int) : List Int := [48 + x / 10 / 10 / 10 / 10 / 10 / 10 / 10 / 10 % 10, 48 + x / 10 / 10 / 10 / 10 / 10 / 10 / 10 % 10, 48 + x / 10 / 10 / 10 / 10 / 10 / 10 % 10, 48 + x / 10 / 10 / 10 / 10 / 10 % 10, 48 + x / 10 / 10 / 10 / 10 % 10, 48 + x / 10 / 10 / 10 % 10, 48 + x / 10 / 10 % 10, 48 + x / 10 % 10, 48 + x % 10]
def zcR.f (a0 : Int) : Option ByteArray := if 0 ≤ a0 then if a0 < 1000000000 then some (strOfNums (ze5 a0)) else none else none
set_option maxHeartbeats 4000000 in
set_option maxRecDepth 100000 in
theorem zcR.calls (a0 : Int) (r : ByteArray) (w : World) (h : zcR.f a0 = some r) :
    Calls Tryd.prog 67 #[.int .u32 a0] w fun e w' => e = .returned (.string r) ∧ Below w.heap.size w w' := by
  unfold zcR.f at h
  split at h
  case isFalse => cases h
  case isTrue h0 =>
  split at h
  case isFalse => cases h
  case isTrue h1 =>
  have hr := zaa.mk (Option.some.inj h).symm
  clear h
  generalize a0 = x at *
  have hcv : (convert 111 9 (.slice (some ⟨w.heap.size, 0, none⟩) 9 9)).run Tryd.prog (w.alloc (.cells #[Value.int IntKind.u8 (48 + x / 10 / 10 / 10 / 10 / 10 / 10 / 10 / 10 % 10), Value.int IntKind.u8 (48 + x / 10 / 10 / 10 / 10 / 10 / 10 / 10 % 10), Value.int IntKind.u8 (48 + x / 10 / 10 / 10 / 10 / 10 / 10 % 10), Value.int IntKind.u8 (48 + x / 10 / 10 / 10 / 10 / 10 % 10), Value.int IntKind.u8 (48 + x / 10 / 10 / 10 / 10 % 10), Value.int IntKind.u8 (48 + x / 10 / 10 / 10 % 10), Value.int IntKind.u8 (48 + x / 10 / 10 % 10), Value.int IntKind.u8 (48 + x / 10 % 10), Value.int IntKind.u8 (48 + x % 10)] 172)) = .ok (.string (strOfNums (ze5 x))) (w.alloc (.cells #[Value.int IntKind.u8 (48 + x / 10 / 10 / 10 / 10 / 10 / 10 / 10 / 10 % 10), Value.int IntKind.u8 (48 + x / 10 / 10 / 10 / 10 / 10 / 10 / 10 % 10), Value.int IntKind.u8 (48 + x / 10 / 10 / 10 / 10 / 10 / 10 % 10), Value.int IntKind.u8 (48 + x / 10 / 10 / 10 / 10 / 10 % 10), Value.int IntKind.u8 (48 + x / 10 / 10 / 10 / 10 % 10), Value.int IntKind.u8 (48 + x / 10 / 10 / 10 % 10), Value.int IntKind.u8 (48 + x / 10 / 10 % 10), Value.int IntKind.u8 (48 + x / 10 % 10), Value.int IntKind.u8 (48 + x % 10)] 172)) :=
    run_convert_bytes_arg _ 111 5 Tryd.underlying111 Tryd.underlying5 w.heap.size 0 9 9 (ze5 x) rfl (fun i hi => by
      rw [World.cell?, heap_alloc_new]
      have : i = 0 ∨ i = 1 ∨ i = 2 ∨ i = 3 ∨ i = 4 ∨ i = 5 ∨ i = 6 ∨ i = 7 ∨ i = 8 := by omega
      rcases this with rfl | rfl | rfl | rfl | rfl | rfl | rfl | rfl | rfl <;> rfl) 9 Tryd.underlying9
  go_enter Tryd.func67, Tryd.ntmps67
  go_wp2
  go_rounds 10
  go_ret
  rw [hr.out]
  exact ⟨rfl, (Below.refl _ _).alloc (Nat.le_refl _) _⟩
end Go.Proofs.YtbicjgaadknmfaaDoor.P
end
section
namespace Go.Proofs.YtbicjgaadknmfaaDoor.M
open Go.RowKit Go.Proofs.YtbicjgaadknmfaaDoorW.PrintWords Go.Proofs.YtbicjgaadknmfaaDoor.P
set_option linter.unusedVariables false
set_option linter.unusedSimpArgs false
theorem zeV {n k : Nat} (h : n < 4294967296 ^ k) : (words n).length ≤ k := by
  induction k generalizing n with
  | zero =>
    have : n = 0 := by simpa using h
    subst this; rw [zbY]; simp
  | succ k ih =>
    by_cases hn : n = 0
    · subst hn; rw [zbY]; simp
    · rw [zc7 hn]
      have := ih (n := n / 4294967296) (by rw [Nat.pow_succ] at h; omega)
      simp only [List.length_cons]; omega
theorem zdW {l : List Int} (h : Wl l) : (val l).toNat < 4294967296 ^ l.length := by
  have h1 := zjy h
  have h2 := zdx h
  have h3 : ((4294967296 ^ l.length : Nat) : Int) = (4294967296 : Int) ^ l.length := by simp
  omega
def chunk (n : Nat) (i : Nat) : ByteArray := ofL (fixd 9 (n / 10 ^ (9 * i)))
def chunks (n m : Nat) : List ByteArray := (List.range m).map (chunk n)
theorem zgG (n m : Nat) : chunks n (m + 1) = chunks n m ++ [chunk n m] := by simp [chunks, List.range_succ]
theorem zd8 (n m : Nat) : (chunks n m).length = m := by simp [chunks]
theorem zcV (n m i : Nat) (h : i < m) : (chunks n m)[i]? = some (chunk n i) := by simp [chunks, h]
theorem zi3 {r : Int} (h0 : 0 ≤ r) : strOfNums (ze5 r) = ofL (fixd 9 r.toNat) := by
  obtain ⟨n, rfl⟩ := Int.eq_ofNat_of_zero_le h0
  unfold strOfNums ofL ze5
  congr 1
def zcF (n m j : Nat) : List UInt8 := fixd (9 * (m - j)) (n / 10 ^ (9 * j))
theorem zf4 (n m : Nat) : zcF n m m = [] := by simp [zcF, fixd]
theorem zfP (n m j : Nat) (h : j < m) : zcF n m j = zcF n m (j + 1) ++ fixd 9 (n / 10 ^ (9 * j)) := by
  unfold zcF
  rw [show 9 * (m - j) = 9 * (m - (j + 1)) + 9 by omega, zik, Nat.div_div_eq_div_mul, ← Nat.pow_add, show 9 * j + 9 = 9 * (j + 1) by omega]
theorem zeo (n m j : Nat) : (zcF n m j).length = 9 * (m - j) := zf3 _ _
theorem zfU {n m : Nat} (h : n / 10 ^ (9 * m) = 0) (hn : n ≠ 0) : (zcF n m 0).dropWhile (· == 48) = dec n := by
  unfold zcF
  simp only [Nat.sub_zero, Nat.mul_zero, Nat.pow_zero, Nat.div_one]
  have hp : 0 < 10 ^ (9 * m) := Nat.pow_pos (by decide)
  rw [zhN _ _ (by rcases Nat.lt_or_ge n (10 ^ (9 * m)) with h' | h'; exact h'; have := Nat.div_pos h' hp; omega), if_neg hn]
theorem zgJ {n m L : Nat} (hn : n < 4294967296 ^ L) (h : n / 10 ^ (9 * m) ≠ 0) : m ≤ 32 * L := by
  have h1 : 10 ^ (9 * m) ≤ n := by
    rcases Nat.lt_or_ge n (10 ^ (9 * m)) with h' | h'
    · exact absurd (Nat.div_eq_of_lt h') h
    · exact h'
  have h2 : 2 ^ m ≤ 10 ^ (9 * m) := by
    rw [Nat.pow_mul]
    exact Nat.pow_le_pow_left (by decide) m
  have h3 : 2 ^ m < 2 ^ (32 * L) := by
    rw [Nat.pow_mul]
    exact Nat.lt_of_le_of_lt (Nat.le_trans h2 h1) hn
  exact Nat.le_of_lt ((Nat.pow_lt_pow_iff_right (by decide)).1 h3)
theorem zia (l : List UInt8) (c : UInt8) (hl : l.length ≤ 140737488351232) : Ev (fun k => strings_trimLeftByte.f k (ofL l) (c.toNat : Int)) (ofL (l.dropWhile (· == c))) := by
  unfold strings_trimLeftByte.f
  induction l with
  | nil =>
    refine Ev.step (f := fun _ => some (ofL [])) (fun k => ?_) (Ev.now _)
    simp only [strings_trimLeftByte.l0]
    rw [if_neg (by simp)]
  | cons x l ih =>
    have hb : bt (ofL (x :: l)) 0 = (x.toNat : Int) := by rw [zhW]; simp
    by_cases hx : x = c
    · subst hx
      have he : (ofL (x :: l)).extract 1 (ofL (x :: l)).size = ofL l := by
        apply zfn
        rw [zeR]
        simp
      rw [List.dropWhile_cons, if_pos (by simp)]
      refine Ev.step (fun k => ?_) (ih (by simp at hl; omega))
      simp only [strings_trimLeftByte.l0]
      rw [if_pos (by simp), if_pos (by simp), hb, if_pos rfl, if_pos (by simp; omega), he]
    · rw [List.dropWhile_cons, if_neg (by simpa using hx)]
      refine Ev.step (f := fun _ => some (ofL (x :: l))) (fun k => ?_) (Ev.now _)
      simp only [strings_trimLeftByte.l0]
      rw [if_pos (by simp), if_pos (by simp), hb, if_neg (fun h => hx (UInt8.toNat_inj.1 (by omega)))]
end Go.Proofs.YtbicjgaadknmfaaDoor.M
end
section
namespace Go.Proofs.YtbicjgaadknmfaaDoor.P
open Go.RowKit Go.Proofs.YtbicjgaadknmfaaDoorW.PrintWords Go.Proofs.YtbicjgaadknmfaaDoor.M
set_option linter.unusedVariables false
set_option linter.unusedSimpArgs false
theorem zjb : (Tryd.prog.info? 9).map (fun i => (i.zero, i.size, i.bytes)) = some (some (.string ⟨#[]⟩), 1, 16) := by kernel_rfl
theorem zfM (B b : Nat) (l : List UInt8) (s : ByteArray) (w : World) (h : Lib.IsBuilder 113 5 B b (Lib.byteCells l) w) (hlen : l.length + s.size ≤ 140737488355328) (hBw : B ≤ w.heap.size) :
    Calls Tryd.prog 68 #[.pointer (some ⟨b, 0, none⟩), .string s] w fun e w' => e = .returned (.tuple #[.int .i64 s.size, .nilIface]) ∧ Lib.IsBuilder 113 5 B b (Lib.byteCells (l ++ toL s)) w' ∧ Below B w w' := by
  refine (Any.Builder_WriteString { Tryd.zfp with } Tryd.zcW B b _ s w h (by rw [Lib.byteCells_length]; exact hlen) hBw).mono ?_
  rintro e w' ⟨rfl, h1, h2⟩
  refine ⟨rfl, .inr ?_, h2⟩
  rw [show Lib.byteCells (l ++ toL s) = Lib.byteCells l ++ Lib.strCells s by simp [Lib.byteCells, Lib.strCells, toL]]
  exact h1
set_option maxHeartbeats 2000000 in
set_option maxRecDepth 100000 in
theorem zgz (l : List UInt8) (hl : l.length ≤ 140737488351232) (w : World) :
    Calls Tryd.prog 69 #[.string (ofL l), .string ⟨#[48]⟩] w fun e w' => e = .returned (.string (ofL (l.dropWhile (· == 48)))) ∧ zao w w' := by
  obtain ⟨k, hk⟩ := (zia l 48 hl).rounds
  have HT := zaa.mk (fun w => strings_trimLeftByte.calls k (ofL l) 48 _ w hk)
  clear hk
  by_cases h0 : l = []
  · subst h0
    have e0 : ofL [] = (⟨#[]⟩ : ByteArray) := rfl
    rw [e0]
    go_enter Tryd.func69, Tryd.ntmps69
    go_wp2
    go_ret
    exact ⟨rfl, zao.refl _⟩
  · have hne : ((ofL l).toList == ([] : List UInt8)) = false := by rw [toList_eq, zcG]; simpa using h0
    have hb : bt (⟨#[48]⟩ : ByteArray) 0 = 48 := rfl
    generalize ofL l = s at *
    go_enter Tryd.func69, Tryd.ntmps69
    go_wp2_with (first | (go_at_call 112; refine (HT.out _).mono ?_; rintro e w' ⟨rfl, ⟨nd, rfl⟩⟩))
    go_ret
    exact ⟨rfl, ⟨⟨_, rfl⟩⟩⟩
def zf6 (l : List Int) : Bool := l.all fun x => decide (0 ≤ x) && decide (x < 4294967296)
theorem ze2 {l : List Int} : zf6 l = true ↔ Wl l := by simp [zf6, Wl]
def zcD.f (l0 : List Int) : Option ByteArray := if zf6 l0 = true then if l0.length ≤ 1000000 then some (ofL (dec (val l0).toNat)) else none else none
def zcT (n m L : Nat) (x : List Int) : Prop := Wl x ∧ val x = ((n / 10 ^ (9 * m) : Nat) : Int) ∧ x.length ≤ L
theorem zcT.step {n m L : Nat} {x : List Int} (h : zcT n m L x) : zcT n (m + 1) L (words (val x / 1000000000).toNat) := by
  obtain ⟨h1, h2, h3⟩ := h
  have e : (val x / 1000000000).toNat = n / 10 ^ (9 * (m + 1)) := by
    rw [h2, show 9 * (m + 1) = 9 * m + 9 by omega, Nat.pow_add, ← Nat.div_div_eq_div_mul]
    generalize n / 10 ^ (9 * m) = q
    omega
  refine ⟨zd7 _, by rw [zc8, e], Nat.le_trans (zeV ?_) h3⟩
  have h4 := zdW h1
  have h5 := zdx h1
  have h6 : (val x / 1000000000).toNat ≤ (val x).toNat := by omega
  exact Nat.lt_of_le_of_lt h6 h4
theorem zcT.zero {n m L : Nat} {x : List Int} (h : zcT n m L x) : ((strip x).length = 0) ↔ n / 10 ^ (9 * m) = 0 := by
  rw [zc0 h.1, List.length_eq_zero_iff, zdw, h.2.1]
  generalize n / 10 ^ (9 * m) = q
  omega
theorem zcT.nine {n m L : Nat} {x : List Int} (h : zcT n m L x) : zcR.f (val x % 1000000000) = some (chunk n m) := by
  have h0 : 0 ≤ val x % 1000000000 := by omega
  unfold zcR.f
  rw [if_pos h0, if_pos (by omega), zi3 h0]
  unfold chunk
  congr 2
  rw [show (val x % 1000000000).toNat = n / 10 ^ (9 * m) % 10 ^ 9 by rw [h.2.1]; generalize n / 10 ^ (9 * m) = q; omega, zil]
def sLen : Value → Nat
  | .slice _ n _ => n
  | _ => 0
set_option maxHeartbeats 4000000 in
set_option maxRecDepth 100000 in
theorem zcD.calls (A0 : Option Addr) (c0 : Nat) (l0 : List Int) (r : ByteArray) (w : World) (hr0 : Kd.C (Kd.int .u32) w A0 l0.length l0) (hc0 : l0.length ≤ c0) (h : zcD.f l0 = some r) :
    Calls Tryd.prog 19 #[.slice A0 l0.length c0] w fun e w' => e = .returned (.string r) ∧ Below w.heap.size w w' := by
  unfold zcD.f at h
  split at h
  case isFalse => cases h
  case isTrue h1 =>
  split at h
  case isFalse => cases h
  case isTrue h2 =>
  obtain rfl := Option.some.inj h
  clear h
  have hW := ze2.1 h1
  clear h1
  have hN : (val l0).toNat < 4294967296 ^ l0.length := zdW hW
  have hA0 : zcT (val l0).toNat 0 l0.length l0 := ⟨hW, by have := zdx hW; rw [Nat.mul_zero, Nat.pow_zero, Nat.div_one]; omega, by omega⟩
  generalize (val l0).toNat = n at *
  generalize hL : l0.length = L at *
  have HN := zaa.mk hN
  have HA := zaa.mk hA0
  clear hN hA0 hW
  have HC := zaa.mk hr0
  have HB := zaa.mk (Below.refl w.heap.size w)
  clear hr0
  by_cases hz : n = 0
  · have hzz : zb6.f l0 = some true := by
      unfold zb6.f
      rw [decide_eq_true (HA.out.zero.2 (by simp [hz]))]
    have HZ := zaa.mk (fun w (hr0 : Kd.C (Kd.int .u32) w A0 L l0) => zb6.calls A0 c0 l0 true w (by rw [hL]; exact hr0) (by omega) hzz)
    rw [hL] at HZ
    clear hzz
    rw [hz]
    go_enter Tryd.func19, Tryd.ntmps19
    go_wp2_with (first | (go_at_call 65; refine (HZ.out _ HC.out).mono ?_; rintro e w' ⟨rfl, ⟨nd, rfl⟩⟩))
    go_ret
    refine ⟨?_, zab (Below.refl _ _) nd⟩
    rw [zdp 0 (by decide)]
    rfl
  · have hzz : zb6.f l0 = some false := by
      unfold zb6.f
      rw [decide_eq_false (fun h => hz (by have := HA.out.zero.1 h; simpa using this))]
    have HZ := zaa.mk (fun w (hr0 : Kd.C (Kd.int .u32) w A0 L l0) => zb6.calls A0 c0 l0 false w (by rw [hL]; exact hr0) (by omega) hzz)
    rw [hL] at HZ
    clear hzz
    go_enter Tryd.func19, Tryd.ntmps19
    go_wp2_with (first | (go_at_call 65; refine (HZ.out _ HC.out).mono ?_; rintro e w' ⟨rfl, ⟨nd, rfl⟩⟩))
    go_loopw [0, 3] (fun v0 v3 w' => ∃ (m : Nat) (x : List Int) (A : Option Addr) (c : Nat), v0 = .slice A x.length c ∧ x.length ≤ c ∧ zaa (Kd.C (Kd.int .u32) w' A x.length x) ∧ zaa (Kd.R Kd.string 9 w' w.heap.size (fun _ => True) v3 (chunks n m)) ∧ zaa (zcT n m L x) ∧ m ≤ 32 * L + 1 ∧ zaa (Below w.heap.size w w')) (fun v0 v3 w' => 32 * L + 1 - sLen v3)
    case atStart =>
      refine ⟨0, l0, A0, c0, by rw [hL], by omega, ⟨by rw [hL]; exact Kd.zaU HC.out _⟩, ⟨?_⟩, HA, by omega, ⟨zab HB.out _⟩⟩
      exact Kd.zc3 _ _ _ _ _
    case round =>
      obtain ⟨m, x, A, c, rfl, hc, hx, hd, ha, hmb, hb⟩ := hrel
      clear HZ
      have HX := hx
      have HD := hd
      have HB2 := hb
      clear hx hd hb
      by_cases hq : n / 10 ^ (9 * m) = 0
      · have hzz : zb6.f x = some true := by
          unfold zb6.f
          rw [decide_eq_true (ha.out.zero.2 hq)]
        have HZ := zaa.mk (fun w (hr0 : Kd.C (Kd.int .u32) w A x.length x) => zb6.calls A c x true w hr0 hc hzz)
        clear hzz
        obtain ⟨Bd, cB, rfl⟩ := Kd.zbE HD.out
        have HDC := zaa.mk (Kd.zbs HD.out).2.2
        have HQ0 := zaa.mk hq
        rw [zd8] at *
        clear HD hq
        go_wp2_with (first | (go_at_call 65; refine (HZ.out _ HX.out).mono ?_; rintro e w' ⟨rfl, ⟨nd, rfl⟩⟩))
        obtain ⟨w1, rfl⟩ : ∃ x, x = wr := ⟨wr, rfl⟩
        have hBld := zaa.mk (Lib.fresh_isBuilder 113 5 (w1.drewN nd))
        go_loopw [8] (fun v8 w' => ∃ j : Nat, j ≤ m ∧ v8 = .int .i64 ((j : Int) - 1) ∧ zaa (Lib.IsBuilder 113 5 w1.heap.size w1.heap.size (Lib.byteCells (zcF n m j)) w') ∧ zaa (Below w1.heap.size w1 w')) (fun v8 _ => (intOf v8 + 1).toNat)
        case atStart =>
          refine ⟨m, Nat.le_refl _, rfl, ⟨by rw [zf4]; exact hBld.out⟩, ⟨zac (zab (Below.refl _ _) _) _⟩⟩
        case round =>
          obtain ⟨j, hj, rfl, hbl, hbb⟩ := hrel
          have HBL := hbl
          have HBB := hbb
          clear hbl hbb hBld
          cases j with
          | zero =>
            have HS := zaa.mk (Tryd.Builder_String_any _ _ _ _ HBL.out HBB.out.size)
            have HTR := zaa.mk (fun w => zgz (zcF n m 0) (by rw [zeo]; omega) w)
            rw [zfU HQ0.out hz] at HTR
            clear HBL
            go_wp2_with (first | (go_at_call 70; refine HS.out.mono ?_; rintro e w' ⟨rfl, hb3⟩; have HB3 := zaa.mk hb3; clear hb3) | (go_at_call 69; refine (HTR.out _).mono ?_; rintro e w'' ⟨rfl, ⟨nd, rfl⟩⟩))
            go_ret
            exact ⟨rfl, zab (zax HB2.out (HBB.out.trans HB3.out)) nd⟩
          | succ j =>
            obtain ⟨ad, rfl, hcell⟩ := Kd.zhH HDC.out (j : Int) (by omega) (by omega)
            have hcl := (HBB.out.cell (World.block_lt_of_cell? _ _ hcell)).trans hcell
            clear hcell
            rw [Int.toNat_natCast] at hcl
            rw [show rdOf ByteArray.empty (chunks n m) (j : Int) = chunk n j by simp [rdOf, List.getD_eq_getElem?_getD, zcV n m j (by omega)]] at hcl
            have hjm : (j : Int) < (m : Int) := by omega
            have HWR := zaa.mk (zfM _ _ _ (chunk n j) _ HBL.out (by rw [zeo]; unfold chunk; simp [zf3]; omega) HBB.out.size)
            clear HBL
            go_wp2_with (first | (go_at_call 68; refine HWR.out.mono ?_; rintro e w' ⟨rfl, hb3, hb4⟩; have HB3 := zaa.mk hb3; have HB4 := zaa.mk hb4; clear hb3 hb4))
            refine ⟨⟨j, by omega, rfl, ⟨?_⟩, ⟨HBB.out.trans HB4.out⟩⟩, by simp [intOf]⟩
            have := HB3.out
            rw [zfP _ _ _ (by omega)]
            unfold chunk at this
            rw [zcG] at this
            exact this
      · have hm := zaa.mk (zgJ HN.out hq)
        have hzz : zb6.f x = some false := by
          unfold zb6.f
          rw [decide_eq_false (fun h => hq (ha.out.zero.1 h))]
        have HZ := zaa.mk (fun w (hr0 : Kd.C (Kd.int .u32) w A x.length x) => zb6.calls A c x false w hr0 hc hzz)
        clear hzz hq
        obtain ⟨k, hk⟩ := (ziu ha.out.1 (by decide) (by decide) (by have := ha.out.2.2; omega) : Ev (fun k => zbg.f k x 1000000000) _).rounds
        have HQ := zaa.mk (fun w (hr0 : Kd.C (Kd.int .u32) w A x.length x) => zbg.calls k A c x 1000000000 _ _ _ w hr0 hc hk)
        clear hk
        have HK := zaa.mk (fun w => zcR.calls _ _ w ha.out.nine)
        have HA2 := zaa.mk ha.out.step
        generalize val x / 1000000000 = q1 at *
        generalize val x % 1000000000 = q2 at *
        go_wp2_with (first | (go_at_call 65; refine (HZ.out _ HX.out).mono ?_; rintro e w' ⟨rfl, ⟨nd, rfl⟩⟩) | (go_at_call 66; refine (HQ.out _ (Kd.zaU HX.out _)).mono ?_; rintro e w' ⟨vq, rfl, hq1, hb1⟩; have HQ1 := zaa.mk hq1; have HB3 := zaa.mk hb1; clear hq1 hb1) | (go_at_call 67; refine (HK.out _).mono ?_; rintro e w'' ⟨rfl, hb2⟩; have HB4 := zaa.mk hb2; clear hb2; have HBW := zaa.mk (zax (zax (zab HB2.out nd) HB3.out) HB4.out)) | ((with_reducible refine zcf (b := .append) (xs := #[.tmp 20, .tmp 23]) rfl ?_); at_builtin; refine Kd.zdN Kd.string (w0 := w) w.heap.size rfl (.tmp 20) (.tmp 23) 106 9 (.string ⟨#[]⟩) 16 rfl Tryd.underlying106 zjb rfl (by decide) (by omega) _ (chunks n m) (chunk n m) [.string (chunk n m)] (fun _ => True) (fun _ => False) rfl rfl ?aP (fun _ hk => hk.elim) ?aF ?aO ?aB ?aS ?aL ?_; (case aP => exact rfl); (case aF => exact (fun _ _ => trivial)); (case aB => exact HBW.out); (case aO => exact Kd.zcy (Kd.zcy (Kd.zbd HD.out _) HB3.out) HB4.out); (case aS => exact zay HBW.out); (case aL => rw [zd8]; have := hm.out; omega); intro v1 w3 ho hb hg hat; have HO := zaa.mk ho; have HBN := zaa.mk hb; have HG := zaa.mk hg; clear ho hb hg hat))
        have hq3 := Kd.zjU (Kd.zcy HQ1.out HB4.out) (Kd.zcy (Kd.zcy (Kd.zbd HD.out _) HB3.out) HB4.out) (by intro q hq; simp [Kd.int, Kd.scalar] at hq; subst hq; decide) HG.out
        obtain ⟨Aq, cq, rfl⟩ := Kd.zbE hq3
        obtain ⟨Av, cv, rfl⟩ := Kd.zbE HO.out
        obtain ⟨Au, cu, rfl⟩ := Kd.zbE HD.out
        obtain ⟨_, hle, hcc⟩ := Kd.zbs hq3
        have hm' := hm.out
        have hO := HO.out
        rw [← zgG] at *
        refine ⟨⟨m + 1, _, Aq, cq, rfl, hle, ⟨hcc⟩, ⟨hO⟩, HA2, by omega, HBN⟩, ?_⟩
        simp only [sLen, zd8]
        omega
end Go.Proofs.YtbicjgaadknmfaaDoor.P
end
section
namespace Go.Proofs.YtbicjgaadknmfaaDoor.P
open Go.RowKit Go.Proofs.YtbicjgaadknmfaaDoorW.PrintWords Go.Proofs.YtbicjgaadknmfaaDoorW.PrintLast Go.Proofs.YtbicjgaadknmfaaDoorW.PrintMore
attribute [local go_sem] zck zcl zca zcc zbQ zbP zb0 zb1
set_option linter.unusedVariables false
set_option linter.unusedSimpArgs false
def zba.l0 : Nat → List (S127) → Int → Int → Int → Option (Bool)
 | 0, _, _, _, _ => none
 | k + 1, x0, x1, x6, x7 => if x7 < x6 then (if 0 ≤ x7 then (if x7 < (x0.length : Int) then (if 0 ≤ x1 then (if x1 < (x0.length : Int) then (if ((zaQ x0 x7).f0).toList = ((zaQ x0 x1).f0).toList then (some true) else (zba.l0 k x0 x1 x6 (wrap64 (x7 + 1)))) else (none)) else (none)) else (none)) else (none)) else (some false)
def zba.f (k : Nat) (l0 : List (S127)) (a1 : Int) : Option (Bool) := zba.l0 k l0 a1 a1 0
theorem zba.zaR : ∀ k, (∀ y0 y1 y2 y3, LeO (zba.l0 k y0 y1 y2 y3) (zba.l0 (k + 1) y0 y1 y2 y3))
 | 0 => fun _ _ _ _ r h => by simp [zba.l0] at h
 | k + 1 => by
  have ih0 := zba.zaR k
  ·intro y0 y1 y2 y3
   unfold zba.l0
   repeat' first
   | (with_reducible exact ih0 _ _ _ _)
   | (with_reducible exact LeO.refl _)
   | (with_reducible exact LeO.none _)
   | (with_reducible refine LeO.ite ?_ ?_)
   | (with_reducible refine LeO.bind ?_ (fun _ => ?_))
   | exact ih0 _ _ _ _
   | exact LeO.none _
   | refine LeO.ite ?_ ?_
   | refine LeO.bind ?_ (fun _ => ?_)
theorem zba.mono : ∀ a0 a1 k, LeO (zba.f k a0 a1) (zba.f (k + 1) a0 a1) := by
 intro a0 a1 k
 have ih0 := zba.zaR k
 unfold zba.f
 repeat' first
   | (with_reducible exact ih0 _ _ _ _)
   | (with_reducible exact LeO.refl _)
   | (with_reducible exact LeO.none _)
   | (with_reducible refine LeO.ite ?_ ?_)
   | (with_reducible refine LeO.bind ?_ (fun _ => ?_))
   | exact ih0 _ _ _ _
   | exact LeO.none _
   | refine LeO.ite ?_ ?_
   | refine LeO.bind ?_ (fun _ => ?_)
set_option maxHeartbeats 8000000 in
set_option maxRecDepth 100000 in
theorem zba.calls (k : Nat) (A0 : Option Addr) (c0 : Nat) (l0 : List (S127)) (a1 : Int) (r : Bool) (w : World) (hr0 : Kd.C k127 w A0 l0.length l0) (hc0 : l0.length ≤ c0) (h : zba.f k l0 a1 = some r) :
  Calls Tryd.prog 76 #[.slice A0 l0.length c0, .int .i64 a1] w fun e w' => e = .returned (.bool r) ∧ zao w w' := by
 have HR0 := zaa.mk hr0
 have HC0 := zaa.mk hc0
 clear hr0 hc0
 have H : (zba.l0 k l0 a1 a1 0) = some r := h
 clear h
 have H' := zaa.mk H
 clear H
 go_enter Tryd.func76, Tryd.ntmps76
 go_wp2
 repeat (go_quiet (fail); try go_wp2)
 go_loopg [7] k (fun kq v7 w' => ∃ (x7_1 : Int), v7 = .int .i64 x7_1 ∧ zaa (zba.l0 kq l0 a1 a1 x7_1 = some r) ∧ zaa (kq ≤ k) ∧ zao w w')
 case atStart => exact ⟨(0), (by first | rfl | (simp; done) | (simp [*]; done)), H', ⟨Nat.le_refl _⟩, by repeat (first | exact zao.refl _ | apply zao.step)⟩
 case round =>
  clear H'
  try clear p2
  obtain ⟨x7_1, rfl, HA, HK1, ⟨m1, rfl⟩⟩ := hrel
  cases gk with
  | zero => exact absurd HA.out (by simp [zba.l0])
  | succ k1 =>
   have H := HA.out
   clear HA
   simp only [zba.l0] at H
   by_cases c3 : x7_1 < a1
   ·rw [if_pos c3] at H
    have c3b0 : decide (x7_1 < a1) = true := decide_eq_true c3
    clear c3
    by_cases c4 : 0 ≤ x7_1
    ·rw [if_pos c4] at H
     have c4b0 : decide (0 ≤ x7_1) = true := decide_eq_true c4
     clear c4
     by_cases c5 : x7_1 < (l0.length : Int)
     ·rw [if_pos c5] at H
      have c5b0 : decide (x7_1 < (l0.length : Int)) = true := decide_eq_true c5
      clear c5
      by_cases c6 : 0 ≤ a1
      ·rw [if_pos c6] at H
       have c6b0 : decide (0 ≤ a1) = true := decide_eq_true c6
       clear c6
       by_cases c7 : a1 < (l0.length : Int)
       ·rw [if_pos c7] at H
        have c7b0 : decide (a1 < (l0.length : Int)) = true := decide_eq_true c7
        clear c7
        by_cases c8 : ((zaQ l0 x7_1).f0).toList = ((zaQ l0 a1).f0).toList
        ·rw [if_pos c8] at H
         have c8b0 : (((zaQ l0 x7_1).f0).toList == ((zaQ l0 a1).f0).toList) = true := beq_iff_eq.mpr c8
         have c8b1 : (((zaQ l0 x7_1).f0).toList != ((zaQ l0 a1).f0).toList) = false := bne_eq_false_iff_eq.mpr c8
         clear c8
         obtain rfl := Option.some.inj H
         have p239 : 0 ≤ (x7_1 : Int) := of_decide_eq_true (by first | (with_reducible assumption) | assumption)
         have q239 : x7_1 < (l0.length : Int) := of_decide_eq_true (by first | (with_reducible assumption) | assumption)
         obtain ⟨ad239, A239_1, c239_1, e239, hx239_0, hx239_1, hl239_1, hi239_1⟩ := zdA HR0.out x7_1 p239 q239
         cases e239
         have HR239_1 := zaa.mk hi239_1
         have HC239_1 := zaa.mk hl239_1
         clear hi239_1 hl239_1
         replace p239 := eq_true p239
         replace q239 := eq_true q239
         have p240 : 0 ≤ (a1 : Int) := of_decide_eq_true (by first | (with_reducible assumption) | assumption)
         have q240 : a1 < (l0.length : Int) := of_decide_eq_true (by first | (with_reducible assumption) | assumption)
         obtain ⟨ad240, A240_1, c240_1, e240, hx240_0, hx240_1, hl240_1, hi240_1⟩ := zdA HR0.out a1 p240 q240
         obtain rfl : ad239 = ad240 := (by injection e240)
         have HR240_1 := zaa.mk hi240_1
         have HC240_1 := zaa.mk hl240_1
         clear hi240_1 hl240_1
         replace p240 := eq_true p240
         replace q240 := eq_true q240
         go_wp2
         repeat (go_quiet (fail); try go_wp2)
         go_ret
         exact ⟨by first | rfl | (simp; done) | (simp [*]; done), by repeat (first | exact zao.refl _ | apply zao.step)⟩
        ·rw [if_neg c8] at H
         have c8b0 : (((zaQ l0 x7_1).f0).toList == ((zaQ l0 a1).f0).toList) = false := beq_eq_false_iff_ne.mpr c8
         have c8b1 : (((zaQ l0 x7_1).f0).toList != ((zaQ l0 a1).f0).toList) = true := bne_iff_ne.mpr c8
         have H' := zaa.mk H
         clear H
         have p239 : 0 ≤ (x7_1 : Int) := of_decide_eq_true (by first | (with_reducible assumption) | assumption)
         have q239 : x7_1 < (l0.length : Int) := of_decide_eq_true (by first | (with_reducible assumption) | assumption)
         obtain ⟨ad239, A239_1, c239_1, e239, hx239_0, hx239_1, hl239_1, hi239_1⟩ := zdA HR0.out x7_1 p239 q239
         cases e239
         have HR239_1 := zaa.mk hi239_1
         have HC239_1 := zaa.mk hl239_1
         clear hi239_1 hl239_1
         replace p239 := eq_true p239
         replace q239 := eq_true q239
         have p240 : 0 ≤ (a1 : Int) := of_decide_eq_true (by first | (with_reducible assumption) | assumption)
         have q240 : a1 < (l0.length : Int) := of_decide_eq_true (by first | (with_reducible assumption) | assumption)
         obtain ⟨ad240, A240_1, c240_1, e240, hx240_0, hx240_1, hl240_1, hi240_1⟩ := zdA HR0.out a1 p240 q240
         obtain rfl : ad239 = ad240 := (by injection e240)
         have HR240_1 := zaa.mk hi240_1
         have HC240_1 := zaa.mk hl240_1
         clear hi240_1 hl240_1
         replace p240 := eq_true p240
         replace q240 := eq_true q240
         go_wp2
         repeat (go_quiet (fail); try go_wp2)
         go_roundg k1
         case measure => have := HK1.out; omega
         case rel => exact ⟨(wrap64 (x7_1 + 1)), (by first | rfl | (simp; done) | (simp [*]; done)), H', ⟨by have := HK1.out; omega⟩, by repeat (first | exact zao.refl _ | apply zao.step)⟩
       ·rw [if_neg c7] at H
        exact absurd H (by simp)
      ·rw [if_neg c6] at H
       exact absurd H (by simp)
     ·rw [if_neg c5] at H
      exact absurd H (by simp)
    ·rw [if_neg c4] at H
     exact absurd H (by simp)
   ·rw [if_neg c3] at H
    have c3b0 : decide (x7_1 < a1) = false := decide_eq_false c3
    clear c3
    obtain rfl := Option.some.inj H
    go_wp2
    repeat (go_quiet (fail); try go_wp2)
    go_ret
    exact ⟨by first | rfl | (simp; done) | (simp [*]; done), by repeat (first | exact zao.refl _ | apply zao.step)⟩
def zcM.f (l0 : List Int) : Option (Int) := (zcD.f l0).bind fun t241 => (some (t241.size : Int))
set_option maxHeartbeats 8000000 in
set_option maxRecDepth 100000 in
theorem zcM.calls (A0 : Option Addr) (c0 : Nat) (l0 : List Int) (r : Int) (w : World) (hr0 : Kd.C (Kd.int .u32) w A0 l0.length l0) (hc0 : l0.length ≤ c0) (h : zcM.f l0 = some r) :
  Calls Tryd.prog 20 #[.slice A0 l0.length c0] w fun e w' => e = .returned (.int .i64 r) ∧ Below w.heap.size w w' := by
 have HR0 := zaa.mk hr0
 have HC0 := zaa.mk hc0
 clear hr0 hc0
 have HB := zaa.mk (Below.refl w.heap.size w)
 have H : ((zcD.f l0).bind fun t241 => (some (t241.size : Int))) = some r := h
 clear h
 replace H := Option.bind_eq_some_iff.mp H
 obtain ⟨t241, A20, H⟩ := H
 replace H : (some (t241.size : Int)) = some r := H
 have A2 := zaa.mk A20
 clear A20
 obtain rfl := Option.some.inj H
 go_enter Tryd.func20, Tryd.ntmps20
 go_wp2_with (first | ((with_reducible refine zaG (f := 19) rfl ?_); refine za2 (some 4) rfl rfl Tryd.func19 (by kernel_rfl) rfl #[.slice A0 l0.length c0] rfl (by (try simp only [List.map_toArray, List.map_cons, List.map_nil]); first | done | rfl | (simp only [List.length_drop, List.length_take]; rfl)) ?_; (with_reducible refine (zcD.calls _ _ l0 t241 _ ?side1 ?side2 A2.out).mono ?_); (case side1 => repeat (first | exact HR0.out | (with_reducible refine Kd.zaT ?_ _) | (with_reducible refine Kd.zaU ?_ _) | (with_reducible refine Kd.za0 ?_))); (case side2 => exact HC0.out); rintro e w3 ⟨rfl, hb⟩; refine ⟨_, rfl, ?_⟩; have n0_ := zaa.mk (zax (by repeat (first | (with_reducible first | exact HB.out | apply zac | apply zab | apply zad) | exact HB.out)) hb); clear HB; have HB := n0_; clear n0_; (try clear hb); (try clear hb2); (try clear hk); (try clear hi)))
 go_ret
 exact ⟨by first | rfl | (simp [zan, zam] <;> rfl) | (simp [*, zan, zam] <;> rfl), by repeat (first | (with_reducible first | exact HB.out | apply zac | apply zab | apply zad) | exact HB.out)⟩
def zcg.f (l0 : List Int) : Option (Bool) := (zcs.f l0).bind fun t242 => (if (t242.length : Int) = (l0.length : Int) then ((zcM.f l0).bind fun t245 => (some (decide (t245 ≤ 60)))) else (some false))
set_option maxHeartbeats 8000000 in
set_option maxRecDepth 100000 in
theorem zcg.calls (A0 : Option Addr) (c0 : Nat) (l0 : List Int) (r : Bool) (w : World) (hr0 : Kd.C (Kd.int .u32) w A0 l0.length l0) (hc0 : l0.length ≤ c0) (h : zcg.f l0 = some r) :
  Calls Tryd.prog 78 #[.slice A0 l0.length c0] w fun e w' => e = .returned (.bool r) ∧ Below w.heap.size w w' := by
 have HR0 := zaa.mk hr0
 have HC0 := zaa.mk hc0
 clear hr0 hc0
 have HB := zaa.mk (Below.refl w.heap.size w)
 have H : ((zcs.f l0).bind fun t242 => (if (t242.length : Int) = (l0.length : Int) then ((zcM.f l0).bind fun t245 => (some (decide (t245 ≤ 60)))) else (some false))) = some r := h
 clear h
 replace H := Option.bind_eq_some_iff.mp H
 obtain ⟨t242, A20, H⟩ := H
 replace H : (if (t242.length : Int) = (l0.length : Int) then ((zcM.f l0).bind fun t245 => (some (decide (t245 ≤ 60)))) else (some false)) = some r := H
 have A2 := zaa.mk A20
 clear A20
 by_cases c3 : (t242.length : Int) = (l0.length : Int)
 ·rw [if_pos c3] at H
  have c3b0 : ((t242.length : Int) == (l0.length : Int)) = true := beq_iff_eq.mpr c3
  have c3b1 : ((t242.length : Int) != (l0.length : Int)) = false := bne_eq_false_iff_eq.mpr c3
  have c3b2 : (t242.length == l0.length) = true := by first | simpa using c3 | (simp at c3 ⊢; omega)
  clear c3
  replace H := Option.bind_eq_some_iff.mp H
  obtain ⟨t245, A40, H⟩ := H
  replace H : (some (decide (t245 ≤ 60))) = some r := H
  have A4 := zaa.mk A40
  clear A40
  obtain rfl := Option.some.inj H
  go_enter Tryd.func78, Tryd.ntmps78
  go_wp2_with (first | ((with_reducible refine zaG (f := 108) rfl ?_); refine za2 (some 4) rfl rfl Tryd.func108 (by kernel_rfl) rfl #[.slice A0 l0.length c0] rfl (by (try simp only [List.map_toArray, List.map_cons, List.map_nil]); first | done | rfl | (simp only [List.length_drop, List.length_take]; rfl)) ?_; (with_reducible refine (zcs.calls _ _ l0 t242 _ ?side1 ?side2 A2.out).mono ?_); (case side1 => repeat (first | exact HR0.out | (with_reducible refine Kd.zaT ?_ _) | (with_reducible refine Kd.zaU ?_ _) | (with_reducible refine Kd.za0 ?_))); (case side2 => exact HC0.out); rintro e w5 ⟨v243, rfl, ho0, hb⟩; refine ⟨_, rfl, ?_⟩; have n0_ := zaa.mk (Kd.zcj ho0 (zay (by repeat (first | (with_reducible first | exact HB.out | apply zac | apply zab | apply zad) | exact HB.out)))); have n1_ := zaa.mk (zax (by repeat (first | (with_reducible first | exact HB.out | apply zac | apply zab | apply zad) | exact HB.out)) hb); clear HB; have HO244 := n0_; have HB := n1_; clear n0_ n1_; (try clear hb); (try clear hb2); (try clear hk); (try clear hi); (try clear ho0); obtain ⟨Ao6, co6, eo6⟩ := Kd.zbE HO244.out; subst eo6) | (go_at_call 20; (with_reducible refine (zcM.calls _ _ l0 t245 _ ?side1 ?side2 A4.out).mono ?_); (case side1 => repeat (first | exact (Kd.za7 HR0.out HB.out) | (with_reducible refine Kd.zaT ?_ _) | (with_reducible refine Kd.zaU ?_ _) | (with_reducible refine Kd.za0 ?_))); (case side2 => exact HC0.out); rintro e w7 ⟨rfl, hb⟩; have n0_ := zaa.mk (Kd.zcy (by (with_reducible repeat (first | apply Kd.zbf | apply Kd.zbd | apply Kd.zbp)); exact HO244.out) hb); have n1_ := zaa.mk (zax (by repeat (first | (with_reducible first | exact HB.out | apply zac | apply zab | apply zad) | exact HB.out)) hb); clear HO244; clear HB; have HO244 := n0_; have HB := n1_; clear n0_ n1_; (try clear hb); (try clear hb2); (try clear hk); (try clear hi)))
  go_ret
  exact ⟨by first | rfl | (simp [zan, zam] <;> rfl) | (simp [*, zan, zam] <;> rfl), by repeat (first | (with_reducible first | exact HB.out | apply zac | apply zab | apply zad) | exact HB.out)⟩
 ·rw [if_neg c3] at H
  have c3b0 : ((t242.length : Int) == (l0.length : Int)) = false := beq_eq_false_iff_ne.mpr c3
  have c3b1 : ((t242.length : Int) != (l0.length : Int)) = true := bne_iff_ne.mpr c3
  have c3b2 : (t242.length == l0.length) = false := by first | simpa using c3 | (simp at c3 ⊢; omega)
  obtain rfl := Option.some.inj H
  go_enter Tryd.func78, Tryd.ntmps78
  go_wp2_with (first | ((with_reducible refine zaG (f := 108) rfl ?_); refine za2 (some 4) rfl rfl Tryd.func108 (by kernel_rfl) rfl #[.slice A0 l0.length c0] rfl (by (try simp only [List.map_toArray, List.map_cons, List.map_nil]); first | done | rfl | (simp only [List.length_drop, List.length_take]; rfl)) ?_; (with_reducible refine (zcs.calls _ _ l0 t242 _ ?side1 ?side2 A2.out).mono ?_); (case side1 => repeat (first | exact HR0.out | (with_reducible refine Kd.zaT ?_ _) | (with_reducible refine Kd.zaU ?_ _) | (with_reducible refine Kd.za0 ?_))); (case side2 => exact HC0.out); rintro e w8 ⟨v243, rfl, ho0, hb⟩; refine ⟨_, rfl, ?_⟩; have n0_ := zaa.mk (Kd.zcj ho0 (zay (by repeat (first | (with_reducible first | exact HB.out | apply zac | apply zab | apply zad) | exact HB.out)))); have n1_ := zaa.mk (zax (by repeat (first | (with_reducible first | exact HB.out | apply zac | apply zab | apply zad) | exact HB.out)) hb); clear HB; have HO244 := n0_; have HB := n1_; clear n0_ n1_; (try clear hb); (try clear hb2); (try clear hk); (try clear hi); (try clear ho0); obtain ⟨Ao9, co9, eo9⟩ := Kd.zbE HO244.out; subst eo9))
  go_ret
  exact ⟨by first | rfl | (simp [zan, zam] <;> rfl) | (simp [*, zan, zam] <;> rfl), by repeat (first | (with_reducible first | exact HB.out | apply zac | apply zab | apply zad) | exact HB.out)⟩
def zbB.f (a0 : Int) (a1 : Int) : Option (Bool) := if a0 ≥ 0 then (some (decide (a0 < a1))) else (some false)
set_option maxHeartbeats 8000000 in
set_option maxRecDepth 100000 in
theorem zbB.calls (a0 : Int) (a1 : Int) (r : Bool) (w : World) (h : zbB.f a0 a1 = some r) :
  Calls Tryd.prog 79 #[.int .i64 a0, .int .i64 a1] w fun e w' => e = .returned (.bool r) ∧ zao w w' := by
 have H : (if a0 ≥ 0 then (some (decide (a0 < a1))) else (some false)) = some r := h
 clear h
 by_cases c3 : a0 ≥ 0
 ·rw [if_pos c3] at H
  have c3b0 : decide (0 ≤ a0) = true := decide_eq_true c3
  clear c3
  obtain rfl := Option.some.inj H
  go_enter Tryd.func79, Tryd.ntmps79
  go_wp2
  go_ret
  exact ⟨by first | rfl | (simp; done) | (simp [*]; done), by repeat (first | exact zao.refl _ | apply zao.step)⟩
 ·rw [if_neg c3] at H
  have c3b0 : decide (0 ≤ a0) = false := decide_eq_false c3
  clear c3
  obtain rfl := Option.some.inj H
  go_enter Tryd.func79, Tryd.ntmps79
  go_wp2
  go_ret
  exact ⟨by first | rfl | (simp; done) | (simp [*]; done), by repeat (first | exact zao.refl _ | apply zao.step)⟩
mutual
def zaJ.j0 : Nat → Int → Bool → Option (Int)
 | 0, _, _ => none
 | k + 1, x3, x4 => if x4 = true then (some 0) else (if x3 = 6 then (zaJ.j1 k x3 (x3 == 6)) else (zaJ.j1 k x3 (x3 == 11)))
def zaJ.j1 : Nat → Int → Bool → Option (Int)
 | 0, _, _ => none
 | k + 1, x3, x10 => if x10 = true then (some 1) else (if x3 = 7 then (some 2) else (if x3 = 8 then (some 2) else (if x3 = 9 then (some 2) else (if x3 = 10 then (some 2) else (some (-1))))))
end
def zaJ.f (k : Nat) (a0 : Int) : Option (Int) := if a0 = 1 then (zaJ.j0 k a0 (a0 == 1)) else (if a0 = 2 then (zaJ.j0 k a0 (a0 == 2)) else (if a0 = 3 then (zaJ.j0 k a0 (a0 == 3)) else (if a0 = 4 then (zaJ.j0 k a0 (a0 == 4)) else (zaJ.j0 k a0 (a0 == 5)))))
theorem zaJ.zaR : ∀ k, (∀ y0 y1, LeO (zaJ.j0 k y0 y1) (zaJ.j0 (k + 1) y0 y1)) ∧ (∀ y0 y1, LeO (zaJ.j1 k y0 y1) (zaJ.j1 (k + 1) y0 y1))
 | 0 => ⟨fun _ _ r h => by simp [zaJ.j0] at h, fun _ _ r h => by simp [zaJ.j1] at h⟩
 | k + 1 => by
  obtain ⟨ih0, ih1⟩ := zaJ.zaR k
  refine ⟨?_, ?_⟩
  ·intro y0 y1
   unfold zaJ.j0
   repeat' first
   | (with_reducible exact ih0 _ _)
   | (with_reducible exact ih1 _ _)
   | (with_reducible exact LeO.refl _)
   | (with_reducible exact LeO.none _)
   | (with_reducible refine LeO.ite ?_ ?_)
   | (with_reducible refine LeO.bind ?_ (fun _ => ?_))
   | exact ih0 _ _
   | exact ih1 _ _
   | exact LeO.none _
   | refine LeO.ite ?_ ?_
   | refine LeO.bind ?_ (fun _ => ?_)
  ·intro y0 y1
   unfold zaJ.j1
   repeat' first
   | (with_reducible exact ih0 _ _)
   | (with_reducible exact ih1 _ _)
   | (with_reducible exact LeO.refl _)
   | (with_reducible exact LeO.none _)
   | (with_reducible refine LeO.ite ?_ ?_)
   | (with_reducible refine LeO.bind ?_ (fun _ => ?_))
   | exact ih0 _ _
   | exact ih1 _ _
   | exact LeO.none _
   | refine LeO.ite ?_ ?_
   | refine LeO.bind ?_ (fun _ => ?_)
theorem zaJ.mono : ∀ a0 k, LeO (zaJ.f k a0) (zaJ.f (k + 1) a0) := by
 intro a0 k
 obtain ⟨ih0, ih1⟩ := zaJ.zaR k
 unfold zaJ.f
 repeat' first
   | (with_reducible exact ih0 _ _)
   | (with_reducible exact ih1 _ _)
   | (with_reducible exact LeO.refl _)
   | (with_reducible exact LeO.none _)
   | (with_reducible refine LeO.ite ?_ ?_)
   | (with_reducible refine LeO.bind ?_ (fun _ => ?_))
   | exact ih0 _ _
   | exact ih1 _ _
   | exact LeO.none _
   | refine LeO.ite ?_ ?_
   | refine LeO.bind ?_ (fun _ => ?_)
set_option maxHeartbeats 8000000 in
set_option maxRecDepth 100000 in
theorem zaJ.calls (k : Nat) (a0 : Int) (r : Int) (w : World) (h : zaJ.f k a0 = some r) :
  Calls Tryd.prog 80 #[.int .i64 a0] w fun e w' => e = .returned (.int .i64 r) ∧ zao w w' := by
 have H : (if a0 = 1 then (zaJ.j0 k a0 (a0 == 1)) else (if a0 = 2 then (zaJ.j0 k a0 (a0 == 2)) else (if a0 = 3 then (zaJ.j0 k a0 (a0 == 3)) else (if a0 = 4 then (zaJ.j0 k a0 (a0 == 4)) else (zaJ.j0 k a0 (a0 == 5)))))) = some r := h
 clear h
 have HC2 := zaa.mk H
 clear H
 go_enter Tryd.func80, Tryd.ntmps80
 go_upto_if 4 with (fail)
 go_cut [4] (fun v4 wc => ∃ (kq : Nat) (x4_1 : Bool), v4 = .bool x4_1 ∧ zaa (zaJ.j0 kq a0 x4_1 = some r) ∧ zaa (kq ≤ k) ∧ zao w wc)
 case first =>
  have H := HC2.out
  clear HC2
  by_cases c3 : a0 = 1
  ·rw [if_pos c3] at H
   have c3b0 : (a0 == 1) = true := beq_iff_eq.mpr c3
   have c3b1 : (a0 != 1) = false := bne_eq_false_iff_eq.mpr c3
   clear c3
   (first | rw [c3b0] | (simp only [zas, zat]; rw [c3b0]) | skip)
   have H' := zaa.mk H
   clear H
   go_wp2
   go_meet
   case rel => exact ⟨_, ((a0 == 1)), (by first | rfl | (simp; done) | (simp [*]; done)), H', ⟨by first | omega | exact Nat.le_refl _⟩, by repeat (first | exact zao.refl _ | apply zao.step)⟩
  ·rw [if_neg c3] at H
   have c3b0 : (a0 == 1) = false := beq_eq_false_iff_ne.mpr c3
   have c3b1 : (a0 != 1) = true := bne_iff_ne.mpr c3
   (first | rw [c3b0] | (simp only [zas, zat]; rw [c3b0]) | skip)
   by_cases c4 : a0 = 2
   ·rw [if_pos c4] at H
    have c4b0 : (a0 == 2) = true := beq_iff_eq.mpr c4
    have c4b1 : (a0 != 2) = false := bne_eq_false_iff_eq.mpr c4
    clear c4
    have H' := zaa.mk H
    clear H
    go_wp2
    go_meet
    case rel => exact ⟨_, ((a0 == 2)), (by first | rfl | (simp; done) | (simp [*]; done)), H', ⟨by first | omega | exact Nat.le_refl _⟩, by repeat (first | exact zao.refl _ | apply zao.step)⟩
   ·rw [if_neg c4] at H
    have c4b0 : (a0 == 2) = false := beq_eq_false_iff_ne.mpr c4
    have c4b1 : (a0 != 2) = true := bne_iff_ne.mpr c4
    by_cases c5 : a0 = 3
    ·rw [if_pos c5] at H
     have c5b0 : (a0 == 3) = true := beq_iff_eq.mpr c5
     have c5b1 : (a0 != 3) = false := bne_eq_false_iff_eq.mpr c5
     clear c5
     have H' := zaa.mk H
     clear H
     go_wp2
     go_meet
     case rel => exact ⟨_, ((a0 == 3)), (by first | rfl | (simp; done) | (simp [*]; done)), H', ⟨by first | omega | exact Nat.le_refl _⟩, by repeat (first | exact zao.refl _ | apply zao.step)⟩
    ·rw [if_neg c5] at H
     have c5b0 : (a0 == 3) = false := beq_eq_false_iff_ne.mpr c5
     have c5b1 : (a0 != 3) = true := bne_iff_ne.mpr c5
     by_cases c6 : a0 = 4
     ·rw [if_pos c6] at H
      have c6b0 : (a0 == 4) = true := beq_iff_eq.mpr c6
      have c6b1 : (a0 != 4) = false := bne_eq_false_iff_eq.mpr c6
      clear c6
      have H' := zaa.mk H
      clear H
      go_wp2
      go_meet
      case rel => exact ⟨_, ((a0 == 4)), (by first | rfl | (simp; done) | (simp [*]; done)), H', ⟨by first | omega | exact Nat.le_refl _⟩, by repeat (first | exact zao.refl _ | apply zao.step)⟩
     ·rw [if_neg c6] at H
      have c6b0 : (a0 == 4) = false := beq_eq_false_iff_ne.mpr c6
      have c6b1 : (a0 != 4) = true := bne_iff_ne.mpr c6
      have H' := zaa.mk H
      clear H
      go_wp2
      go_meet
      case rel => exact ⟨_, ((a0 == 5)), (by first | rfl | (simp; done) | (simp [*]; done)), H', ⟨by first | omega | exact Nat.le_refl _⟩, by repeat (first | exact zao.refl _ | apply zao.step)⟩
 case rest =>
  clear HC2
  try clear p2
  try clear c3
  try clear c3b0
  try clear c3b1
  try clear c4
  try clear c4b0
  try clear c4b1
  try clear c5
  try clear c5b0
  try clear c5b1
  try clear c6
  try clear c6b0
  try clear c6b1
  obtain ⟨kq, x4_1, rfl, HA, HJ1, ⟨mc1, rfl⟩⟩ := hcut
  cases kq with
  | zero => exact absurd HA.out (by simp [zaJ.j0])
  | succ kj1 =>
   have H := HA.out
   clear HA
   simp only [zaJ.j0] at H
   by_cases c7 : x4_1 = true
   ·subst c7
    have H1 : (some 0) = some r := by rw [if_pos rfl] at H; exact H
    clear H
    have H := H1
    clear H1
    obtain rfl := Option.some.inj H
    go_wp2
    go_ret
    exact ⟨by first | rfl | (simp; done) | (simp [*]; done), by repeat (first | exact zao.refl _ | apply zao.step)⟩
   ·replace c7 := Bool.eq_false_iff.mpr c7
    subst c7
    have H1 : (if a0 = 6 then (zaJ.j1 kj1 a0 (a0 == 6)) else (zaJ.j1 kj1 a0 (a0 == 11))) = some r := by rw [if_neg (show ¬ (false = true) by decide)] at H; exact H
    clear H
    have H := H1
    clear H1
    have HC8 := zaa.mk H
    clear H
    go_upto_if 10 with (fail)
    go_cut [10] (fun v10 wc => ∃ (kq : Nat) (x10_7 : Bool), v10 = .bool x10_7 ∧ zaa (zaJ.j1 kq a0 x10_7 = some r) ∧ zaa (kq ≤ kj1) ∧ zao w wc)
    case first =>
     have H := HC8.out
     clear HC8
     by_cases c9 : a0 = 6
     ·rw [if_pos c9] at H
      have c9b0 : (a0 == 6) = true := beq_iff_eq.mpr c9
      have c9b1 : (a0 != 6) = false := bne_eq_false_iff_eq.mpr c9
      clear c9
      (first | rw [c9b0] | (simp only [zas, zat]; rw [c9b0]) | skip)
      have H' := zaa.mk H
      clear H
      go_wp2
      go_meet
      case rel => exact ⟨_, ((a0 == 6)), (by first | rfl | (simp; done) | (simp [*]; done)), H', ⟨by have := HJ1.out; first | omega | exact Nat.le_refl _⟩, by repeat (first | exact zao.refl _ | apply zao.step)⟩
     ·rw [if_neg c9] at H
      have c9b0 : (a0 == 6) = false := beq_eq_false_iff_ne.mpr c9
      have c9b1 : (a0 != 6) = true := bne_iff_ne.mpr c9
      (first | rw [c9b0] | (simp only [zas, zat]; rw [c9b0]) | skip)
      have H' := zaa.mk H
      clear H
      go_wp2
      go_meet
      case rel => exact ⟨_, ((a0 == 11)), (by first | rfl | (simp; done) | (simp [*]; done)), H', ⟨by have := HJ1.out; first | omega | exact Nat.le_refl _⟩, by repeat (first | exact zao.refl _ | apply zao.step)⟩
    case rest =>
     clear HC8
     try clear c1
     try clear p2
     try clear c3
     try clear c3b0
     try clear c3b1
     try clear c4
     try clear c4b0
     try clear c4b1
     try clear c5
     try clear c5b0
     try clear c5b1
     try clear c6
     try clear c6b0
     try clear c6b1
     try clear c7
     try clear c8
     try clear c9
     try clear c9b0
     try clear c9b1
     try clear p2
     obtain ⟨kq, x10_7, rfl, HA, HJ7, ⟨mc7, rfl⟩⟩ := hcut
     cases kq with
     | zero => exact absurd HA.out (by simp [zaJ.j1])
     | succ kj7 =>
      have H := HA.out
      clear HA
      simp only [zaJ.j1] at H
      by_cases c10 : x10_7 = true
      ·subst c10
       have H1 : (some 1) = some r := by rw [if_pos rfl] at H; exact H
       clear H
       have H := H1
       clear H1
       obtain rfl := Option.some.inj H
       go_wp2
       go_ret
       exact ⟨by first | rfl | (simp; done) | (simp [*]; done), by repeat (first | exact zao.refl _ | apply zao.step)⟩
      ·replace c10 := Bool.eq_false_iff.mpr c10
       subst c10
       have H1 : (if a0 = 7 then (some 2) else (if a0 = 8 then (some 2) else (if a0 = 9 then (some 2) else (if a0 = 10 then (some 2) else (some (-1)))))) = some r := by rw [if_neg (show ¬ (false = true) by decide)] at H; exact H
       clear H
       have H := H1
       clear H1
       by_cases c11 : a0 = 7
       ·rw [if_pos c11] at H
        have c11b0 : (a0 == 7) = true := beq_iff_eq.mpr c11
        have c11b1 : (a0 != 7) = false := bne_eq_false_iff_eq.mpr c11
        clear c11
        obtain rfl := Option.some.inj H
        go_wp2
        go_ret
        exact ⟨by first | rfl | (simp; done) | (simp [*]; done), by repeat (first | exact zao.refl _ | apply zao.step)⟩
       ·rw [if_neg c11] at H
        have c11b0 : (a0 == 7) = false := beq_eq_false_iff_ne.mpr c11
        have c11b1 : (a0 != 7) = true := bne_iff_ne.mpr c11
        by_cases c12 : a0 = 8
        ·rw [if_pos c12] at H
         have c12b0 : (a0 == 8) = true := beq_iff_eq.mpr c12
         have c12b1 : (a0 != 8) = false := bne_eq_false_iff_eq.mpr c12
         clear c12
         obtain rfl := Option.some.inj H
         go_wp2
         go_ret
         exact ⟨by first | rfl | (simp; done) | (simp [*]; done), by repeat (first | exact zao.refl _ | apply zao.step)⟩
        ·rw [if_neg c12] at H
         have c12b0 : (a0 == 8) = false := beq_eq_false_iff_ne.mpr c12
         have c12b1 : (a0 != 8) = true := bne_iff_ne.mpr c12
         by_cases c13 : a0 = 9
         ·rw [if_pos c13] at H
          have c13b0 : (a0 == 9) = true := beq_iff_eq.mpr c13
          have c13b1 : (a0 != 9) = false := bne_eq_false_iff_eq.mpr c13
          clear c13
          obtain rfl := Option.some.inj H
          go_wp2
          go_ret
          exact ⟨by first | rfl | (simp; done) | (simp [*]; done), by repeat (first | exact zao.refl _ | apply zao.step)⟩
         ·rw [if_neg c13] at H
          have c13b0 : (a0 == 9) = false := beq_eq_false_iff_ne.mpr c13
          have c13b1 : (a0 != 9) = true := bne_iff_ne.mpr c13
          by_cases c14 : a0 = 10
          ·rw [if_pos c14] at H
           have c14b0 : (a0 == 10) = true := beq_iff_eq.mpr c14
           have c14b1 : (a0 != 10) = false := bne_eq_false_iff_eq.mpr c14
           clear c14
           obtain rfl := Option.some.inj H
           go_wp2
           go_ret
           exact ⟨by first | rfl | (simp; done) | (simp [*]; done), by repeat (first | exact zao.refl _ | apply zao.step)⟩
          ·rw [if_neg c14] at H
           have c14b0 : (a0 == 10) = false := beq_eq_false_iff_ne.mpr c14
           have c14b1 : (a0 != 10) = true := bne_iff_ne.mpr c14
           obtain rfl := Option.some.inj H
           go_wp2
           go_ret
           exact ⟨by first | rfl | (simp; done) | (simp [*]; done), by repeat (first | exact zao.refl _ | apply zao.step)⟩
def zaY.j0 : Nat → Int → Int → Int → Bool → Int → Int → List Int → Option (Bool)
 | 0, _, _, _, _, _, _, _ => none
 | k + 1, x1, x2, x3, x17, x247000, x247001, x247002 => if x17 = true then (some false) else (if x247000 = 1 then (if x247001 = 0 then ((zcg.f x247002).bind fun t247 => (some t247)) else (some false)) else (if x247000 = 3 then ((zbB.f x247001 x1).bind fun t248 => (some t248)) else (if x247000 = 4 then ((zbB.f x247001 x2).bind fun t249 => (some t249)) else (if x247000 = 5 then ((zbB.f x247001 x3).bind fun t250 => (some t250)) else (if x247000 = 11 then (if x247001 ≥ (-8) then (some (decide (x247001 ≤ 8))) else (some false)) else (if x247001 = 0 then ((zaJ.f k x247000).bind fun t251 => (some (decide (t251 ≥ 0)))) else (some false)))))))
def zaY.f (k : Nat) (a0_0 : Int) (a0_1 : Int) (l0_2 : List Int) (a1 : Int) (a2 : Int) (a3 : Int) : Option (Bool) := if a0_0 = 1 then (zaY.j0 k a1 a2 a3 false a0_0 a0_1 l0_2) else (zaY.j0 k a1 a2 a3 (decide ((l0_2.length : Int) > 0)) a0_0 a0_1 l0_2)
theorem zaY.zaR : ∀ k, (∀ y0 y1 y2 y3 y4 y5 y6, LeO (zaY.j0 k y0 y1 y2 y3 y4 y5 y6) (zaY.j0 (k + 1) y0 y1 y2 y3 y4 y5 y6))
 | 0 => fun _ _ _ _ _ _ _ r h => by simp [zaY.j0] at h
 | k + 1 => by
  have ih0 := zaY.zaR k
  ·intro y0 y1 y2 y3 y4 y5 y6
   unfold zaY.j0
   repeat' first
   | (with_reducible exact ih0 _ _ _ _ _ _ _)
   | (with_reducible exact zaJ.mono _ _)
   | (with_reducible exact LeO.refl _)
   | (with_reducible exact LeO.none _)
   | (with_reducible refine LeO.ite ?_ ?_)
   | (with_reducible refine LeO.bind ?_ (fun _ => ?_))
   | exact ih0 _ _ _ _ _ _ _
   | exact zaJ.mono _ _
   | exact LeO.none _
   | refine LeO.ite ?_ ?_
   | refine LeO.bind ?_ (fun _ => ?_)
theorem zaY.mono : ∀ a0 a1 a2 a3 a4 a5 k, LeO (zaY.f k a0 a1 a2 a3 a4 a5) (zaY.f (k + 1) a0 a1 a2 a3 a4 a5) := by
 intro a0 a1 a2 a3 a4 a5 k
 have ih0 := zaY.zaR k
 unfold zaY.f
 repeat' first
   | (with_reducible exact ih0 _ _ _ _ _ _ _)
   | (with_reducible exact zaJ.mono _ _)
   | (with_reducible exact LeO.refl _)
   | (with_reducible exact LeO.none _)
   | (with_reducible refine LeO.ite ?_ ?_)
   | (with_reducible refine LeO.bind ?_ (fun _ => ?_))
   | exact ih0 _ _ _ _ _ _ _
   | exact zaJ.mono _ _
   | exact LeO.none _
   | refine LeO.ite ?_ ?_
   | refine LeO.bind ?_ (fun _ => ?_)
set_option maxHeartbeats 8000000 in
set_option maxRecDepth 100000 in
theorem zaY.calls (k : Nat) (a0_0 : Int) (a0_1 : Int) (A0_2 : Option Addr) (c0_2 : Nat) (l0_2 : List Int) (a1 : Int) (a2 : Int) (a3 : Int) (r : Bool) (w : World) (hr0_2 : Kd.C (Kd.int .u32) w A0_2 l0_2.length l0_2) (hc0_2 : l0_2.length ≤ c0_2) (h : zaY.f k a0_0 a0_1 l0_2 a1 a2 a3 = some r) :
  Calls Tryd.prog 31 #[.agg #[.int .i64 a0_0, .int .i64 a0_1, .slice A0_2 l0_2.length c0_2], .int .i64 a1, .int .i64 a2, .int .i64 a3] w fun e w' => e = .returned (.bool r) ∧ Below w.heap.size w w' := by
 have hu60 := Tryd.underlying60
 have HR0_2 := zaa.mk hr0_2
 have HC0_2 := zaa.mk hc0_2
 clear hr0_2 hc0_2
 have HB := zaa.mk (Below.refl w.heap.size w)
 have H : (if a0_0 = 1 then (zaY.j0 k a1 a2 a3 false a0_0 a0_1 l0_2) else (zaY.j0 k a1 a2 a3 (decide ((l0_2.length : Int) > 0)) a0_0 a0_1 l0_2)) = some r := h
 clear h
 have HC5 := zaa.mk H
 clear H
 go_enter Tryd.func31, Tryd.ntmps31
 go_upto_region 1 with (first | ((with_reducible refine zbc (N := 4) rfl ?_); (try (refine zbN (by rfl) ?_; dsimp only)); refine zbb ?hg (N := 4) ?hd (cs := #[.int .i64 a0_0, .int .i64 a0_1, .slice A0_2 l0_2.length c0_2]) (t := 60) ?hr ?_; (case hd => rfl); (case hg => rfl); (case hr => first | (go_simp; done) | (go_simp; rfl)); intro gb246 hg w6 hbox hb; have n0_ := zaa.mk (zax (by repeat (first | (with_reducible first | exact HB.out | apply zac | apply zab | apply zad) | exact HB.out)) hb); have n1_ := zaa.mk (hbox); have n2_ := zaa.mk ((by rw [hg]; exact (zay (by repeat (first | (with_reducible first | exact HB.out | apply zac | apply zab | apply zad) | exact HB.out))) : w.heap.size ≤ gb246)); have n3_ := zaa.mk ((by rw [hg]; exact (zay (by repeat (first | (with_reducible first | exact HB.out | apply zac | apply zab | apply zad) | exact HB.out))) : w.heap.size ≤ gb246)); clear HB; have HB := n0_; have BK246 := n1_; have GW246 := n2_; have GE246 := n3_; clear n0_ n1_ n2_ n3_; clear hb hbox hg))
 (try simp only [Act.put, List.setIfInBounds_toArray, List.set_cons_zero, List.set_cons_succ])
 go_cut [17] (fun v17 wc => ∃ (kq : Nat) (x17_4 : Bool), v17 = .bool x17_4 ∧ zaa (zaY.j0 kq a1 a2 a3 x17_4 a0_0 a0_1 l0_2 = some r) ∧ zaa (kq ≤ k) ∧ zaa (wc.heap[gb246]? = some (.cells #[.int .i64 a0_0, .int .i64 a0_1, (.slice A0_2 l0_2.length c0_2)] 60 (0, 0))) ∧ zaa (Below w.heap.size w wc))
 case first =>
  have H := HC5.out
  clear HC5
  by_cases c7 : a0_0 = 1
  ·rw [if_pos c7] at H
   have c7b0 : (a0_0 == 1) = true := beq_iff_eq.mpr c7
   have c7b1 : (a0_0 != 1) = false := bne_eq_false_iff_eq.mpr c7
   clear c7
   (first | rw [c7b0] | (simp only [zas, zat]; rw [c7b0]) | skip)
   have H' := zaa.mk H
   clear H
   have hcz8_0 : w6.cell? ⟨gb246, 0, none⟩ = some (.int .i64 a0_0) := (zae BK246.out 0).trans rfl
   have hcz8_1 : w6.cell? ⟨gb246, 1, none⟩ = some (.int .i64 a0_1) := (zae BK246.out 1).trans rfl
   have hcz8_2 : w6.cell? ⟨gb246, 2, none⟩ = some (.slice A0_2 l0_2.length c0_2) := (zae BK246.out 2).trans rfl
   have hfz8_0 := zaj BK246.out 0
   have hfz8_1 := zaj BK246.out 1
   have hfz8_2 := zaj BK246.out 2
   go_wp2
   go_meet
   case rel => exact ⟨_, (false), (by first | rfl | (simp; done) | (simp [*]; done)), H', ⟨by first | omega | exact Nat.le_refl _⟩, ⟨by (with_reducible repeat (first | refine zah ?_ _ | refine zak ?_ | refine zaf ?_ _)); exact BK246.out⟩, ⟨by repeat (first | (with_reducible first | exact HB.out | apply zac | apply zab | apply zad | refine zai ?_ GE246.out) | exact HB.out)⟩⟩
  ·rw [if_neg c7] at H
   have c7b0 : (a0_0 == 1) = false := beq_eq_false_iff_ne.mpr c7
   have c7b1 : (a0_0 != 1) = true := bne_iff_ne.mpr c7
   (first | rw [c7b0] | (simp only [zas, zat]; rw [c7b0]) | skip)
   have H' := zaa.mk H
   clear H
   have hcz9_0 : w6.cell? ⟨gb246, 0, none⟩ = some (.int .i64 a0_0) := (zae BK246.out 0).trans rfl
   have hcz9_1 : w6.cell? ⟨gb246, 1, none⟩ = some (.int .i64 a0_1) := (zae BK246.out 1).trans rfl
   have hcz9_2 : w6.cell? ⟨gb246, 2, none⟩ = some (.slice A0_2 l0_2.length c0_2) := (zae BK246.out 2).trans rfl
   have hfz9_0 := zaj BK246.out 0
   have hfz9_1 := zaj BK246.out 1
   have hfz9_2 := zaj BK246.out 2
   go_wp2
   go_meet
   case rel => exact ⟨_, (decide ((l0_2.length : Int) > 0)), (by first | rfl | (simp; done) | (simp [*]; done)), H', ⟨by first | omega | exact Nat.le_refl _⟩, ⟨by (with_reducible repeat (first | refine zah ?_ _ | refine zak ?_ | refine zaf ?_ _)); exact BK246.out⟩, ⟨by repeat (first | (with_reducible first | exact HB.out | apply zac | apply zab | apply zad | refine zai ?_ GE246.out) | exact HB.out)⟩⟩
 case rest =>
  clear HC5
  try clear p2
  try clear c3
  try clear c7
  try clear c7b0
  try clear c7b1
  try clear hcz8_0
  try clear hcz8_1
  try clear hcz8_2
  try clear hcz9_0
  try clear hcz9_1
  try clear hcz9_2
  try clear hfz8_0
  try clear hfz8_1
  try clear hfz8_2
  try clear hfz9_0
  try clear hfz9_1
  try clear hfz9_2
  obtain ⟨kq, x17_4, rfl, HA, HJ4, BK246, HB⟩ := hcut
  cases kq with
  | zero => exact absurd HA.out (by simp [zaY.j0])
  | succ kj4 =>
   have H := HA.out
   clear HA
   simp only [zaY.j0] at H
   by_cases c10 : x17_4 = true
   ·subst c10
    have H1 : (some false) = some r := by rw [if_pos rfl] at H; exact H
    clear H
    have H := H1
    clear H1
    obtain rfl := Option.some.inj H
    go_wp2
    go_ret
    exact ⟨by first | rfl | (simp [zan, zam] <;> rfl) | (simp [*, zan, zam] <;> rfl), by repeat (first | (with_reducible first | exact HB.out | apply zac | apply zab | apply zad | refine zai ?_ GE246.out) | exact HB.out)⟩
   ·replace c10 := Bool.eq_false_iff.mpr c10
    subst c10
    have H1 : (if a0_0 = 1 then (if a0_1 = 0 then ((zcg.f l0_2).bind fun t247 => (some t247)) else (some false)) else (if a0_0 = 3 then ((zbB.f a0_1 a1).bind fun t248 => (some t248)) else (if a0_0 = 4 then ((zbB.f a0_1 a2).bind fun t249 => (some t249)) else (if a0_0 = 5 then ((zbB.f a0_1 a3).bind fun t250 => (some t250)) else (if a0_0 = 11 then (if a0_1 ≥ (-8) then (some (decide (a0_1 ≤ 8))) else (some false)) else (if a0_1 = 0 then ((zaJ.f kj4 a0_0).bind fun t251 => (some (decide (t251 ≥ 0)))) else (some false))))))) = some r := by rw [if_neg (show ¬ (false = true) by decide)] at H; exact H
    clear H
    have H := H1
    clear H1
    by_cases c11 : a0_0 = 1
    ·rw [if_pos c11] at H
     have c11b0 : (a0_0 == 1) = true := beq_iff_eq.mpr c11
     have c11b1 : (a0_0 != 1) = false := bne_eq_false_iff_eq.mpr c11
     clear c11
     by_cases c12 : a0_1 = 0
     ·rw [if_pos c12] at H
      have c12b0 : (a0_1 == 0) = true := beq_iff_eq.mpr c12
      have c12b1 : (a0_1 != 0) = false := bne_eq_false_iff_eq.mpr c12
      clear c12
      replace H := Option.bind_eq_some_iff.mp H
      obtain ⟨t247, A130, H⟩ := H
      replace H : (some t247) = some r := H
      have A13 := zaa.mk A130
      clear A130
      obtain rfl := Option.some.inj H
      have hcz14_0 : wc.cell? ⟨gb246, 0, none⟩ = some (.int .i64 a0_0) := (zae BK246.out 0).trans rfl
      have hcz14_1 : wc.cell? ⟨gb246, 1, none⟩ = some (.int .i64 a0_1) := (zae BK246.out 1).trans rfl
      have hcz14_2 : wc.cell? ⟨gb246, 2, none⟩ = some (.slice A0_2 l0_2.length c0_2) := (zae BK246.out 2).trans rfl
      have hfz14_0 := zaj BK246.out 0
      have hfz14_1 := zaj BK246.out 1
      have hfz14_2 := zaj BK246.out 2
      go_wp2_with (first | (go_at_call 78; (with_reducible refine (zcg.calls _ _ l0_2 t247 _ ?side1 ?side2 A13.out).mono ?_); (case side1 => repeat (first | exact (Kd.za7 HR0_2.out HB.out) | (with_reducible refine Kd.zaT ?_ _) | (with_reducible refine Kd.zaU ?_ _) | (with_reducible refine Kd.za0 ?_))); (case side2 => exact HC0_2.out); rintro e w15 ⟨rfl, hb⟩; have n0_ := zaa.mk (zaP (g := gb246) (o := .cells #[.int .i64 a0_0, .int .i64 a0_1, .slice A0_2 l0_2.length c0_2] 60 (0, 0)) (by (with_reducible repeat (first | refine zah ?_ _ | refine zak ?_ | refine zaf ?_ _)); exact BK246.out) hb); have n1_ := zaa.mk (zax (by repeat (first | (with_reducible first | exact HB.out | apply zac | apply zab | apply zad | refine zai ?_ GE246.out) | exact HB.out)) hb); clear BK246; clear HB; have BK246 := n0_; have HB := n1_; clear n0_ n1_; (try clear hb); (try clear hb2); (try clear hk); (try clear hi)))
      go_ret
      exact ⟨by first | rfl | (simp [zan, zam] <;> rfl) | (simp [*, zan, zam] <;> rfl), by repeat (first | (with_reducible first | exact HB.out | apply zac | apply zab | apply zad | refine zai ?_ GE246.out) | exact HB.out)⟩
     ·rw [if_neg c12] at H
      have c12b0 : (a0_1 == 0) = false := beq_eq_false_iff_ne.mpr c12
      have c12b1 : (a0_1 != 0) = true := bne_iff_ne.mpr c12
      obtain rfl := Option.some.inj H
      have hcz16_0 : wc.cell? ⟨gb246, 0, none⟩ = some (.int .i64 a0_0) := (zae BK246.out 0).trans rfl
      have hcz16_1 : wc.cell? ⟨gb246, 1, none⟩ = some (.int .i64 a0_1) := (zae BK246.out 1).trans rfl
      have hcz16_2 : wc.cell? ⟨gb246, 2, none⟩ = some (.slice A0_2 l0_2.length c0_2) := (zae BK246.out 2).trans rfl
      have hfz16_0 := zaj BK246.out 0
      have hfz16_1 := zaj BK246.out 1
      have hfz16_2 := zaj BK246.out 2
      go_wp2
      go_ret
      exact ⟨by first | rfl | (simp [zan, zam] <;> rfl) | (simp [*, zan, zam] <;> rfl), by repeat (first | (with_reducible first | exact HB.out | apply zac | apply zab | apply zad | refine zai ?_ GE246.out) | exact HB.out)⟩
    ·rw [if_neg c11] at H
     have c11b0 : (a0_0 == 1) = false := beq_eq_false_iff_ne.mpr c11
     have c11b1 : (a0_0 != 1) = true := bne_iff_ne.mpr c11
     by_cases c17 : a0_0 = 3
     ·rw [if_pos c17] at H
      have c17b0 : (a0_0 == 3) = true := beq_iff_eq.mpr c17
      have c17b1 : (a0_0 != 3) = false := bne_eq_false_iff_eq.mpr c17
      clear c17
      replace H := Option.bind_eq_some_iff.mp H
      obtain ⟨t248, A180, H⟩ := H
      replace H : (some t248) = some r := H
      have A18 := zaa.mk A180
      clear A180
      obtain rfl := Option.some.inj H
      have hcz19_0 : wc.cell? ⟨gb246, 0, none⟩ = some (.int .i64 a0_0) := (zae BK246.out 0).trans rfl
      have hcz19_1 : wc.cell? ⟨gb246, 1, none⟩ = some (.int .i64 a0_1) := (zae BK246.out 1).trans rfl
      have hcz19_2 : wc.cell? ⟨gb246, 2, none⟩ = some (.slice A0_2 l0_2.length c0_2) := (zae BK246.out 2).trans rfl
      have hfz19_0 := zaj BK246.out 0
      have hfz19_1 := zaj BK246.out 1
      have hfz19_2 := zaj BK246.out 2
      go_wp2_with (first | ((with_reducible refine zaG (f := 79) rfl ?_); refine za2 (some 35) rfl rfl Tryd.func79 (by kernel_rfl) rfl #[.int .i64 a0_1, .int .i64 a1] rfl (by (try simp only [List.map_toArray, List.map_cons, List.map_nil]); first | done | rfl | (simp only [List.length_drop, List.length_take]; rfl)) ?_; (with_reducible refine (zbB.calls a0_1 a1 t248 _ A18.out).mono ?_); rintro e w' ⟨rfl, ⟨nd, rfl⟩⟩; refine ⟨_, rfl, ?_⟩))
      go_ret
      exact ⟨by first | rfl | (simp [zan, zam] <;> rfl) | (simp [*, zan, zam] <;> rfl), by repeat (first | (with_reducible first | exact HB.out | apply zac | apply zab | apply zad | refine zai ?_ GE246.out) | exact HB.out)⟩
     ·rw [if_neg c17] at H
      have c17b0 : (a0_0 == 3) = false := beq_eq_false_iff_ne.mpr c17
      have c17b1 : (a0_0 != 3) = true := bne_iff_ne.mpr c17
      by_cases c20 : a0_0 = 4
      ·rw [if_pos c20] at H
       have c20b0 : (a0_0 == 4) = true := beq_iff_eq.mpr c20
       have c20b1 : (a0_0 != 4) = false := bne_eq_false_iff_eq.mpr c20
       clear c20
       replace H := Option.bind_eq_some_iff.mp H
       obtain ⟨t249, A210, H⟩ := H
       replace H : (some t249) = some r := H
       have A21 := zaa.mk A210
       clear A210
       obtain rfl := Option.some.inj H
       have hcz22_0 : wc.cell? ⟨gb246, 0, none⟩ = some (.int .i64 a0_0) := (zae BK246.out 0).trans rfl
       have hcz22_1 : wc.cell? ⟨gb246, 1, none⟩ = some (.int .i64 a0_1) := (zae BK246.out 1).trans rfl
       have hcz22_2 : wc.cell? ⟨gb246, 2, none⟩ = some (.slice A0_2 l0_2.length c0_2) := (zae BK246.out 2).trans rfl
       have hfz22_0 := zaj BK246.out 0
       have hfz22_1 := zaj BK246.out 1
       have hfz22_2 := zaj BK246.out 2
       go_wp2_with (first | ((with_reducible refine zaG (f := 79) rfl ?_); refine za2 (some 41) rfl rfl Tryd.func79 (by kernel_rfl) rfl #[.int .i64 a0_1, .int .i64 a2] rfl (by (try simp only [List.map_toArray, List.map_cons, List.map_nil]); first | done | rfl | (simp only [List.length_drop, List.length_take]; rfl)) ?_; (with_reducible refine (zbB.calls a0_1 a2 t249 _ A21.out).mono ?_); rintro e w' ⟨rfl, ⟨nd, rfl⟩⟩; refine ⟨_, rfl, ?_⟩))
       go_ret
       exact ⟨by first | rfl | (simp [zan, zam] <;> rfl) | (simp [*, zan, zam] <;> rfl), by repeat (first | (with_reducible first | exact HB.out | apply zac | apply zab | apply zad | refine zai ?_ GE246.out) | exact HB.out)⟩
      ·rw [if_neg c20] at H
       have c20b0 : (a0_0 == 4) = false := beq_eq_false_iff_ne.mpr c20
       have c20b1 : (a0_0 != 4) = true := bne_iff_ne.mpr c20
       by_cases c23 : a0_0 = 5
       ·rw [if_pos c23] at H
        have c23b0 : (a0_0 == 5) = true := beq_iff_eq.mpr c23
        have c23b1 : (a0_0 != 5) = false := bne_eq_false_iff_eq.mpr c23
        clear c23
        replace H := Option.bind_eq_some_iff.mp H
        obtain ⟨t250, A240, H⟩ := H
        replace H : (some t250) = some r := H
        have A24 := zaa.mk A240
        clear A240
        obtain rfl := Option.some.inj H
        have hcz25_0 : wc.cell? ⟨gb246, 0, none⟩ = some (.int .i64 a0_0) := (zae BK246.out 0).trans rfl
        have hcz25_1 : wc.cell? ⟨gb246, 1, none⟩ = some (.int .i64 a0_1) := (zae BK246.out 1).trans rfl
        have hcz25_2 : wc.cell? ⟨gb246, 2, none⟩ = some (.slice A0_2 l0_2.length c0_2) := (zae BK246.out 2).trans rfl
        have hfz25_0 := zaj BK246.out 0
        have hfz25_1 := zaj BK246.out 1
        have hfz25_2 := zaj BK246.out 2
        go_wp2_with (first | ((with_reducible refine zaG (f := 79) rfl ?_); refine za2 (some 47) rfl rfl Tryd.func79 (by kernel_rfl) rfl #[.int .i64 a0_1, .int .i64 a3] rfl (by (try simp only [List.map_toArray, List.map_cons, List.map_nil]); first | done | rfl | (simp only [List.length_drop, List.length_take]; rfl)) ?_; (with_reducible refine (zbB.calls a0_1 a3 t250 _ A24.out).mono ?_); rintro e w' ⟨rfl, ⟨nd, rfl⟩⟩; refine ⟨_, rfl, ?_⟩))
        go_ret
        exact ⟨by first | rfl | (simp [zan, zam] <;> rfl) | (simp [*, zan, zam] <;> rfl), by repeat (first | (with_reducible first | exact HB.out | apply zac | apply zab | apply zad | refine zai ?_ GE246.out) | exact HB.out)⟩
       ·rw [if_neg c23] at H
        have c23b0 : (a0_0 == 5) = false := beq_eq_false_iff_ne.mpr c23
        have c23b1 : (a0_0 != 5) = true := bne_iff_ne.mpr c23
        by_cases c26 : a0_0 = 11
        ·rw [if_pos c26] at H
         have c26b0 : (a0_0 == 11) = true := beq_iff_eq.mpr c26
         have c26b1 : (a0_0 != 11) = false := bne_eq_false_iff_eq.mpr c26
         clear c26
         by_cases c27 : a0_1 ≥ (-8)
         ·rw [if_pos c27] at H
          have c27b0 : decide ((-8) ≤ a0_1) = true := decide_eq_true c27
          clear c27
          obtain rfl := Option.some.inj H
          have hcz28_0 : wc.cell? ⟨gb246, 0, none⟩ = some (.int .i64 a0_0) := (zae BK246.out 0).trans rfl
          have hcz28_1 : wc.cell? ⟨gb246, 1, none⟩ = some (.int .i64 a0_1) := (zae BK246.out 1).trans rfl
          have hcz28_2 : wc.cell? ⟨gb246, 2, none⟩ = some (.slice A0_2 l0_2.length c0_2) := (zae BK246.out 2).trans rfl
          have hfz28_0 := zaj BK246.out 0
          have hfz28_1 := zaj BK246.out 1
          have hfz28_2 := zaj BK246.out 2
          go_wp2
          go_ret
          exact ⟨by first | rfl | (simp [zan, zam] <;> rfl) | (simp [*, zan, zam] <;> rfl), by repeat (first | (with_reducible first | exact HB.out | apply zac | apply zab | apply zad | refine zai ?_ GE246.out) | exact HB.out)⟩
         ·rw [if_neg c27] at H
          have c27b0 : decide ((-8) ≤ a0_1) = false := decide_eq_false c27
          clear c27
          obtain rfl := Option.some.inj H
          have hcz29_0 : wc.cell? ⟨gb246, 0, none⟩ = some (.int .i64 a0_0) := (zae BK246.out 0).trans rfl
          have hcz29_1 : wc.cell? ⟨gb246, 1, none⟩ = some (.int .i64 a0_1) := (zae BK246.out 1).trans rfl
          have hcz29_2 : wc.cell? ⟨gb246, 2, none⟩ = some (.slice A0_2 l0_2.length c0_2) := (zae BK246.out 2).trans rfl
          have hfz29_0 := zaj BK246.out 0
          have hfz29_1 := zaj BK246.out 1
          have hfz29_2 := zaj BK246.out 2
          go_wp2
          go_ret
          exact ⟨by first | rfl | (simp [zan, zam] <;> rfl) | (simp [*, zan, zam] <;> rfl), by repeat (first | (with_reducible first | exact HB.out | apply zac | apply zab | apply zad | refine zai ?_ GE246.out) | exact HB.out)⟩
        ·rw [if_neg c26] at H
         have c26b0 : (a0_0 == 11) = false := beq_eq_false_iff_ne.mpr c26
         have c26b1 : (a0_0 != 11) = true := bne_iff_ne.mpr c26
         by_cases c30 : a0_1 = 0
         ·rw [if_pos c30] at H
          have c30b0 : (a0_1 == 0) = true := beq_iff_eq.mpr c30
          have c30b1 : (a0_1 != 0) = false := bne_eq_false_iff_eq.mpr c30
          clear c30
          replace H := Option.bind_eq_some_iff.mp H
          obtain ⟨t251, A310, H⟩ := H
          replace H : (some (decide (t251 ≥ 0))) = some r := H
          have A31 := zaa.mk A310
          clear A310
          obtain rfl := Option.some.inj H
          have hcz32_0 : wc.cell? ⟨gb246, 0, none⟩ = some (.int .i64 a0_0) := (zae BK246.out 0).trans rfl
          have hcz32_1 : wc.cell? ⟨gb246, 1, none⟩ = some (.int .i64 a0_1) := (zae BK246.out 1).trans rfl
          have hcz32_2 : wc.cell? ⟨gb246, 2, none⟩ = some (.slice A0_2 l0_2.length c0_2) := (zae BK246.out 2).trans rfl
          have hfz32_0 := zaj BK246.out 0
          have hfz32_1 := zaj BK246.out 1
          have hfz32_2 := zaj BK246.out 2
          go_wp2_with (first | (go_at_call 80; (with_reducible refine (zaJ.calls kj4 a0_0 t251 _ A31.out).mono ?_); rintro e w' ⟨rfl, ⟨nd, rfl⟩⟩))
          go_ret
          exact ⟨by first | rfl | (simp [zan, zam] <;> rfl) | (simp [*, zan, zam] <;> rfl), by repeat (first | (with_reducible first | exact HB.out | apply zac | apply zab | apply zad | refine zai ?_ GE246.out) | exact HB.out)⟩
         ·rw [if_neg c30] at H
          have c30b0 : (a0_1 == 0) = false := beq_eq_false_iff_ne.mpr c30
          have c30b1 : (a0_1 != 0) = true := bne_iff_ne.mpr c30
          obtain rfl := Option.some.inj H
          have hcz33_0 : wc.cell? ⟨gb246, 0, none⟩ = some (.int .i64 a0_0) := (zae BK246.out 0).trans rfl
          have hcz33_1 : wc.cell? ⟨gb246, 1, none⟩ = some (.int .i64 a0_1) := (zae BK246.out 1).trans rfl
          have hcz33_2 : wc.cell? ⟨gb246, 2, none⟩ = some (.slice A0_2 l0_2.length c0_2) := (zae BK246.out 2).trans rfl
          have hfz33_0 := zaj BK246.out 0
          have hfz33_1 := zaj BK246.out 1
          have hfz33_2 := zaj BK246.out 2
          go_wp2
          go_ret
          exact ⟨by first | rfl | (simp [zan, zam] <;> rfl) | (simp [*, zan, zam] <;> rfl), by repeat (first | (with_reducible first | exact HB.out | apply zac | apply zab | apply zad | refine zai ?_ GE246.out) | exact HB.out)⟩
end Go.Proofs.YtbicjgaadknmfaaDoor.P
end
