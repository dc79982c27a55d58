/- Contract by hand: nat.fresh (make, then copy), in the print's form. -/
import Derived.Test.YtbicjgaadknmfaaDoorProg
import Derived.Test.YtbicjgaadknmfaaDoorWWords
import Derived.Laws.CopyOwn
namespace Go.Proofs.YtbicjgaadknmfaaDoor.P
open Go.RowKit Go.Proofs.YtbicjgaadknmfaaDoorW.PrintWords
set_option linter.unusedVariables false
set_option linter.unusedSimpArgs false

theorem infoU32 : (Tryd.prog.info? 101).map (fun i => (i.zero, i.size, i.bytes)) = some (some (.int .u32 0), 1, 4) := by kernel_rfl
theorem sizeU32 : (Tryd.prog.info? 101).map (·.size) = some 1 := by kernel_rfl
def nat_fresh.f (l0 : List Int) (a1 : Int) : Option (List Int) :=
  if 0 ≤ a1 then if a1 ≤ 1000 then if l0.length ≤ 35184372088832 then some (l0 ++ List.replicate a1.toNat 0) else none else none else none

theorem splice_front (n m : Nat) (cs : List Value) (z : Value) (h : cs.length = n) : splice (List.replicate (n + m) z) 0 cs = cs ++ List.replicate m z := by
  simp [splice, h]

set_option maxHeartbeats 2000000 in
set_option maxRecDepth 100000 in
theorem nat_fresh.calls (A0 : Option Addr) (c0 : Nat) (l0 : List Int) (a1 : Int) (r : List Int) (w : World) (hr0 : Kd.C (Kd.int .u32) w A0 l0.length l0) (hc0 : l0.length ≤ c0) (h : nat_fresh.f l0 a1 = some r) :
    Calls Tryd.prog 138 #[.slice A0 l0.length c0, .int .i64 a1] w fun e w' => ∃ v0_ : Value, e = .returned (v0_) ∧ Kd.R (Kd.int .u32) 101 w' w.heap.size (fun _ => True) v0_ r ∧ Below w.heap.size w w' := by
  unfold nat_fresh.f at h
  split at h
  case isFalse => cases h
  case isTrue h1 =>
  split at h
  case isFalse => cases h
  case isTrue h2 =>
  split at h
  case isFalse => cases h
  case isTrue h3 =>
  obtain rfl := Option.some.inj h
  obtain ⟨m, rfl⟩ := Int.eq_ofNat_of_zero_le h1
  have hr := Aside0.mk hr0
  clear hr0 h
  have hl : (l0.length : Int) ≤ 35184372088832 := by omega
  have hm := Aside0.mk (print_make (P := Tryd.prog) 23 101 .u32 4 Tryd.underlying23 infoU32 (by decide) (l0.length + m) (by omega))
  go_enter Tryd.func138, Tryd.ntmps138
  have hmm := hm.out
  simp only [Int.natCast_add] at hmm
  have hcell : ∀ (j : Nat) (v : Value), (nums .u32 l0)[j]? = some v → ∃ ad, A0 = some ad ∧ (w.alloc (Obj.cells (madeCells #[Value.int IntKind.u32 0] (l0.length + m)) 101)).cell? (ad.add j) = some v := by
    intro j v hj
    simp only [nums, List.getElem?_map, Option.map_eq_some_iff] at hj
    obtain ⟨x, hx, rfl⟩ := hj
    obtain ⟨ad, e, hc⟩ := hr.out.2.2 (by have := (List.getElem?_eq_some_iff.1 hx).1; omega)
    obtain ⟨c, _, hk, hcc⟩ := hc j x hx
    have hk' : c = [Value.int .u32 x] := hk
    subst hk'
    have h0 := hcc 0 _ rfl
    refine ⟨ad, e, ?_⟩
    simp only [Kd.int, Kd.scalar, Nat.mul_one, Nat.add_zero] at h0
    exact pw_cell_below (below_alloc (Below.refl _ _) _) h0
  have hpos : 0 < (nums .u32 l0).length → (some (⟨w.heap.size, 0, none⟩ : Addr)) = some ⟨w.heap.size, 0, none⟩ ∧ ∃ ad, A0 = some ad ∧ ∀ (j : Nat) v, (nums .u32 l0)[j]? = some v → (w.alloc (Obj.cells (madeCells #[Value.int IntKind.u32 0] (l0.length + m)) 101)).cell? (ad.add j) = some v := by
    intro hp
    obtain ⟨ad, e, _⟩ := hcell 0 _ (List.getElem?_eq_getElem hp)
    refine ⟨rfl, ad, e, fun j v hj => ?_⟩
    obtain ⟨ad', e', hc⟩ := hcell j v hj
    rw [e] at e'
    cases e'
    exact hc
  have hnew : (w.alloc (Obj.cells (madeCells #[Value.int IntKind.u32 0] (l0.length + m)) 101)).heap[w.heap.size]? = some (.cells (List.replicate (l0.length + m) (Value.int .u32 0)).toArray 101 (0, 0)) := by
    rw [heap_alloc_new]
    have e : (madeCells #[Value.int IntKind.u32 0] (l0.length + m)) = (List.replicate (l0.length + m) (Value.int .u32 0)).toArray := by
      apply Array.ext'
      rw [toList_madeCells_one]
    rw [e]
  have Hpos := Aside0.mk hpos
  have Hnew := Aside0.mk hnew
  clear hcell hpos hnew
  go_wp2_with (with_reducible refine wpList_copy_splice rfl (.tmp 11) (.tmp 12) 23 23 rfl 101 Tryd.underlying23 sizeU32 (some ⟨w.heap.size, 0, none⟩) A0 (l0.length + m) (l0.length + m) l0.length c0 rfl rfl w.heap.size 0 (List.replicate (l0.length + m) (Value.int .u32 0)) 101 Hnew.out (nums .u32 l0) ?hn Hpos.out ?hfit ?h1 w.heap.size w (below_alloc (Below.refl _ _) _) (Nat.le_refl _) ?_)
  case hn => simp [nums]
  case hfit => simp [nums]
  case h1 =>
    intro v hv
    simp only [nums, List.mem_map] at hv
    obtain ⟨x, _, rfl⟩ := hv
    rfl
  intro w' hb hB
  rw [splice_front l0.length m (nums .u32 l0) _ (by simp [nums])] at hb
  have HB := Aside0.mk hB
  have HH := Aside0.mk hb
  clear hb hB
  go_wp2
  go_ret
  refine ⟨_, rfl, ?_, HB.out⟩
  refine Kd.R_of_own ?_ (fun _ _ => trivial)
  refine ⟨by simp [encs], .inr ⟨w.heap.size, l0.length + m, _, ?_, Nat.le_refl _, HH.out, ?_, ?_, ?_, ?_⟩⟩
  · simp
  · simp
  · unfold maxLen; omega
  · simp [nums]
  · simp [nums, encs]
    exact List.take_of_length_le (by simp)
end Go.Proofs.YtbicjgaadknmfaaDoor.P
