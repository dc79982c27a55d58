/- Plain law: quot.Word divides. -/
import Derived.Test.YtbicjgaadknmfaaDoorNa
import Derived.Test.YtbicjgaadknmfaaDoorDx2
import Derived.Test.YtbicjgaadknmfaaDoorDx2
namespace Go.Proofs.YtbicjgaadknmfaaDoor.M
open Go.RowKit Go.Proofs.YtbicjgaadknmfaaDoorW.PrintWords Go.Proofs.YtbicjgaadknmfaaDoor.P
set_option linter.unusedVariables false
set_option linter.unusedSimpArgs false

theorem u64w (n : Int) : IntKind.u64.wrap n = n % 18446744073709551616 := by simp [IntKind.wrap, IntKind.bits, IntKind.signed]
theorem u64id {n : Int} (h0 : 0 ≤ n) (h : n < 18446744073709551616) : IntKind.u64.wrap n = n := by rw [u64w]; omega
theorem or32 {x y : Int} (h0 : 0 ≤ x) (h1 : x < 4294967296) (h2 : 0 ≤ y) (h3 : y < 4294967296) : Go.bits .or .u64 (x * 4294967296) y = x * 4294967296 + y :=
  bits_join .u64 64 (by decide) (fun n h0 h1 => u64id h0 (by omega)) 32 _ _ (by omega) (by omega) (by omega) h2 (by omega) (by omega)
theorem limbDiv {a b y : Int} (h0 : 0 ≤ a) (h1 : a < y) (hy : y < 4294967296) (h2 : 0 ≤ b) (h3 : b < 4294967296) : limb_Div.f a b y = some ((a * 4294967296 + b) / y, (a * 4294967296 + b) % y, true) := by
  have hq0 : 0 ≤ (a * 4294967296 + b) / y := Int.ediv_nonneg (by omega) (by omega)
  have hq1 : (a * 4294967296 + b) / y < 4294967296 := by
    apply Int.ediv_lt_of_lt_mul (by omega)
    have : (a + 1) * 4294967296 ≤ y * 4294967296 := by omega
    grind
  have hr0 : 0 ≤ (a * 4294967296 + b) % y := Int.emod_nonneg _ (by omega)
  have hr1 : (a * 4294967296 + b) % y < y := Int.emod_lt_of_pos _ (by omega)
  unfold limb_Div.f
  rw [if_neg (by omega), u64id (n := y) (by omega) (by omega), if_neg (by omega), u64id (n := a) (by omega) (by omega), u64id (n := b) (by omega) (by omega), u64id (n := a * 4294967296) (by omega) (by omega),
    or32 (by omega) (by omega) (by omega) (by omega), Int.tdiv_eq_ediv_of_nonneg (by omega), Int.tmod_eq_emod_of_nonneg (by omega), u64id hq0 (by omega), Int.emod_eq_of_lt hq0 hq1, Int.emod_eq_of_lt hr0 (by omega)]
theorem rd_nat {l : List Int} {i : Nat} (h : i < l.length) : rd l (i : Int) = l[i] := by
  unfold rd
  simp [List.getD_eq_getElem?_getD, h]
theorem div_mod_of {q r a x : Int} (h : q * x + r = a) (h0 : 0 ≤ r) (h1 : r < x) : a / x = q ∧ a % x = r := by
  have hx : 0 < x := by omega
  subst h
  constructor
  · rw [Int.mul_comm, Int.add_comm, Int.add_mul_ediv_left _ _ (by omega), Int.ediv_eq_zero_of_lt h0 h1]; omega
  · rw [Int.mul_comm, Int.add_comm, Int.add_mul_emod_self_left, Int.emod_eq_of_lt h0 h1]
theorem set_zeros (j : Nat) (q : Int) (qs : List Int) : (List.replicate (j + 1) 0 ++ qs).set j q = List.replicate j 0 ++ (q :: qs) := by
  rw [List.replicate_succ', List.append_assoc, List.set_append_right _ _ (by simp)]
  simp
theorem quotLoop {l : List Int} {x : Int} (hl : Wl l) (hx0 : 0 < x) (hx : x < 4294967296) (hn : l.length ≤ 35184372088832) (j : Nat) :
    ∀ (qs : List Int) (r : Int), j ≤ l.length → qs.length = l.length - j → Wl qs → val qs * x + r = val (l.drop j) → 0 ≤ r → r < x →
      Ev (fun k => quot_Word.l0 k l x (List.replicate j 0 ++ qs) r ((j : Int) - 1)) (words (val l / x).toNat, val l % x, true) := by
  induction j with
  | zero =>
    intro qs r _ hq hw hv h0 h1
    refine Ev.step (f := fun _ => some (words (val l / x).toNat, val l % x, true)) (fun k => ?_) (Ev.now _)
    simp only [quot_Word.l0, List.replicate_zero, List.nil_append]
    rw [if_neg (by omega)]
    unfold nat_Norm.f
    obtain ⟨e1, e2⟩ := div_mod_of hv h0 h1
    rw [if_pos (by omega), Option.bind_some, strip_words hw, show val l = val (l.drop 0) from rfl, e1, e2]
  | succ j ih =>
    intro qs r hj hq hw hv h0 h1
    have hi : j < l.length := by omega
    have hg := hl.get j hi
    have hd := limbDiv h0 h1 hx hg.1 hg.2
    have hq0 : 0 ≤ (r * 4294967296 + l[j]) / x := Int.ediv_nonneg (by omega) (by omega)
    have hq1 : (r * 4294967296 + l[j]) / x < 4294967296 := by
      apply Int.ediv_lt_of_lt_mul (by omega)
      have : (r + 1) * 4294967296 ≤ x * 4294967296 := by omega
      grind
    have hr0 : 0 ≤ (r * 4294967296 + l[j]) % x := Int.emod_nonneg _ (by omega)
    have hr1 : (r * 4294967296 + l[j]) % x < x := Int.emod_lt_of_pos _ (by omega)
    have hdm := Int.mul_ediv_add_emod (r * 4294967296 + l[j]) x
    have hv' : val ((r * 4294967296 + l[j]) / x :: qs) * x + (r * 4294967296 + l[j]) % x = val (l.drop j) := by
      rw [List.drop_eq_getElem_cons hi]
      simp only [val]
      rw [← hv]
      grind
    have hk := ih ((r * 4294967296 + l[j]) / x :: qs) _ (by omega) (by simp; omega) (Wl.cons hq0 hq1 hw) hv' hr0 hr1
    refine Ev.step (fun k => ?_) hk
    simp only [quot_Word.l0]
    have e1 : ((j + 1 : Nat) : Int) - 1 = (j : Int) := by omega
    rw [e1, if_pos (by omega), if_pos (by omega), if_pos (by omega), rd_nat hi, hd, Option.bind_some, if_pos (by simp; omega), show ((j : Int)).toNat = j from by omega, set_zeros, wrap_id (by omega) (by omega)]
theorem quotWord {l : List Int} {x : Int} (hl : Wl l) (hx0 : 0 < x) (hx : x < 4294967296) (hn : l.length ≤ 35184372088832) :
    Ev (fun k => quot_Word.f k l x) (words (val l / x).toNat, val l % x, true) := by
  refine Ev.congr (fun k => ?_) (quotLoop hl hx0 hx hn l.length [] 0 (Nat.le_refl _) (by simp) Wl.nil (by simp [val]) (by omega) hx0)
  unfold quot_Word.f
  rw [if_neg (by omega), if_pos (by omega), if_pos (by omega), wrap_id (by omega) (by omega), List.append_nil, Int.toNat_natCast]
end Go.Proofs.YtbicjgaadknmfaaDoor.M
