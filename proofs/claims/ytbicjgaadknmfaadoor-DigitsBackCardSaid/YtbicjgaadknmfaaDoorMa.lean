/- Plain lemmas: strings as lists of bytes, whole numbers, rounds. -/
import Derived.Test.YtbicjgaadknmfaaDoorWWords
import Derived.Laws.Strings
namespace Go.Proofs.YtbicjgaadknmfaaDoor.M
open Go.RowKit Go.Proofs.YtbicjgaadknmfaaDoorW.PrintWords
set_option linter.unusedVariables false
set_option linter.unusedSimpArgs false

def toL (s : ByteArray) : List UInt8 := s.data.toList
def ofL (l : List UInt8) : ByteArray := ⟨l.toArray⟩
@[simp] theorem toL_ofL (l : List UInt8) : toL (ofL l) = l := by simp [toL, ofL]
@[simp] theorem ofL_toL (s : ByteArray) : ofL (toL s) = s := by simp [toL, ofL]
theorem toL_inj {s t : ByteArray} (h : toL s = toL t) : s = t := by rw [← ofL_toL s, h, ofL_toL]
theorem ofL_inj {s t : List UInt8} (h : ofL s = ofL t) : s = t := by rw [← toL_ofL s, h, toL_ofL]
@[simp] theorem length_toL (s : ByteArray) : (toL s).length = s.size := by simp [toL]
@[simp] theorem size_ofL (l : List UInt8) : (ofL l).size = l.length := by rw [← length_toL, toL_ofL]
theorem toList_eq (s : ByteArray) : s.toList = toL s := by
  exact ByteArray.toList_eq s
theorem toL_extract (s : ByteArray) (a b : Nat) : toL (s.extract a b) = ((toL s).drop a).take (b - a) := by
  simp [toL, ByteArray.data_extract, List.drop_take, List.extract_eq_take_drop]
@[simp] theorem toL_append (s t : ByteArray) : toL (s ++ t) = toL s ++ toL t := by simp [toL]
theorem toL_lit (l : List UInt8) : toL ⟨l.toArray⟩ = l := toL_ofL l
theorem bt_toL (s : ByteArray) (i : Int) : bt s i = (((toL s).getD i.toNat 0).toNat : Int) := by
  unfold bt
  split
  · rename_i h
    simp [toL, List.getD_eq_getElem?_getD, h]
    rfl
  · rename_i h
    have : (toL s).length ≤ i.toNat := by simp; omega
    rw [List.getD_eq_getElem?_getD, List.getElem?_eq_none this]
    rfl
theorem bt_drop (s : ByteArray) (i : Nat) (c : UInt8) (r : List UInt8) (h : (toL s).drop i = c :: r) : bt s (i : Int) = (c.toNat : Int) := by
  rw [bt_toL]
  have : (toL s)[i]? = some c := by
    have := congrArg (fun l => l[0]?) h
    simpa using this
  simp [List.getD_eq_getElem?_getD, this]
theorem drop_lt {l : List UInt8} {i : Nat} {c : UInt8} {r : List UInt8} (h : l.drop i = c :: r) : i < l.length := by
  have := congrArg List.length h
  simp at this
  omega
theorem drop_succ {l : List UInt8} {i : Nat} {c : UInt8} {r : List UInt8} (h : l.drop i = c :: r) : l.drop (i + 1) = r := by
  rw [← List.drop_drop, h]; rfl
theorem drop_nil {l : List UInt8} {i : Nat} (h : l.drop i = []) : l.length ≤ i := by simpa using h
theorem wrap_id {n : Int} (h0 : -9223372036854775808 ≤ n) (h1 : n ≤ 9223372036854775807) : wrap64 n = n := by unfold wrap64; omega

/-- what comes out from some round on, by a case. -/
theorem Ev.ite_t {α : Type} {c : Nat → Prop} [∀ k, Decidable (c k)] {g f : Nat → Option α} {r : α} (h : ∀ k, c k) (k : Ev g r) : Ev (fun n => if c n then g n else f n) r :=
  Ev.congr (fun n => if_pos (h n)) k
theorem Ev.of_eq {α : Type} {g : Nat → Option α} {r : α} (h : ∀ k, g k = some r) : Ev g r := ⟨0, fun k _ => h k⟩
theorem Ev.uniq {α : Type} {g : Nat → Option α} {r q : α} (h : Ev g r) (k : Ev g q) : r = q := by
  obtain ⟨K, h⟩ := h
  obtain ⟨K', k⟩ := k
  have h1 := h (max K K') (by omega)
  have h2 := k (max K K') (by omega)
  rw [h1] at h2
  exact Option.some.inj h2
end Go.Proofs.YtbicjgaadknmfaaDoor.M
