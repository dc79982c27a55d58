/- Contract by hand: digits.nine. -/
import Derived.Test.YtbicjgaadknmfaaDoorProg
import Derived.Test.YtbicjgaadknmfaaDoorWWords
import Derived.Handy
namespace Go.Proofs.YtbicjgaadknmfaaDoor.P
open Go.RowKit Go.Proofs.YtbicjgaadknmfaaDoorW.PrintWords
set_option linter.unusedVariables false
set_option linter.unusedSimpArgs false

/-- the nine digits of a number below 10^9, as bytes. -/
def nineL (x : Int) : List Int := [48 + x / 10 / 10 / 10 / 10 / 10 / 10 / 10 / 10 % 10, 48 + x / 10 / 10 / 10 / 10 / 10 / 10 / 10 % 10, 48 + x / 10 / 10 / 10 / 10 / 10 / 10 % 10, 48 + x / 10 / 10 / 10 / 10 / 10 % 10, 48 + x / 10 / 10 / 10 / 10 % 10, 48 + x / 10 / 10 / 10 % 10, 48 + x / 10 / 10 % 10, 48 + x / 10 % 10, 48 + x % 10]
def digits_nine.f (a0 : Int) : Option ByteArray := if 0 ≤ a0 then if a0 < 1000000000 then some (strOfNums (nineL a0)) else none else none

set_option maxHeartbeats 4000000 in
set_option maxRecDepth 100000 in
theorem digits_nine.calls (a0 : Int) (r : ByteArray) (w : World) (h : digits_nine.f a0 = some r) :
    Calls Tryd.prog 67 #[.int .u32 a0] w fun e w' => e = .returned (.string r) ∧ Below w.heap.size w w' := by
  unfold digits_nine.f at h
  split at h
  case isFalse => cases h
  case isTrue h0 =>
  split at h
  case isFalse => cases h
  case isTrue h1 =>
  have hr := Aside0.mk (Option.some.inj h).symm
  clear h
  generalize a0 = x at *
  have hcv : (convert 111 9 (.slice (some ⟨w.heap.size, 0, none⟩) 9 9)).run Tryd.prog (w.alloc (.cells #[Value.int IntKind.u8 (48 + x / 10 / 10 / 10 / 10 / 10 / 10 / 10 / 10 % 10), Value.int IntKind.u8 (48 + x / 10 / 10 / 10 / 10 / 10 / 10 / 10 % 10), Value.int IntKind.u8 (48 + x / 10 / 10 / 10 / 10 / 10 / 10 % 10), Value.int IntKind.u8 (48 + x / 10 / 10 / 10 / 10 / 10 % 10), Value.int IntKind.u8 (48 + x / 10 / 10 / 10 / 10 % 10), Value.int IntKind.u8 (48 + x / 10 / 10 / 10 % 10), Value.int IntKind.u8 (48 + x / 10 / 10 % 10), Value.int IntKind.u8 (48 + x / 10 % 10), Value.int IntKind.u8 (48 + x % 10)] 172)) = .ok (.string (strOfNums (nineL x))) (w.alloc (.cells #[Value.int IntKind.u8 (48 + x / 10 / 10 / 10 / 10 / 10 / 10 / 10 / 10 % 10), Value.int IntKind.u8 (48 + x / 10 / 10 / 10 / 10 / 10 / 10 / 10 % 10), Value.int IntKind.u8 (48 + x / 10 / 10 / 10 / 10 / 10 / 10 % 10), Value.int IntKind.u8 (48 + x / 10 / 10 / 10 / 10 / 10 % 10), Value.int IntKind.u8 (48 + x / 10 / 10 / 10 / 10 % 10), Value.int IntKind.u8 (48 + x / 10 / 10 / 10 % 10), Value.int IntKind.u8 (48 + x / 10 / 10 % 10), Value.int IntKind.u8 (48 + x / 10 % 10), Value.int IntKind.u8 (48 + x % 10)] 172)) :=
    run_convert_bytes_arg _ 111 5 Tryd.underlying111 Tryd.underlying5 w.heap.size 0 9 9 (nineL x) rfl (fun i hi => by
      rw [World.cell?, heap_alloc_new]
      have : i = 0 ∨ i = 1 ∨ i = 2 ∨ i = 3 ∨ i = 4 ∨ i = 5 ∨ i = 6 ∨ i = 7 ∨ i = 8 := by omega
      rcases this with rfl | rfl | rfl | rfl | rfl | rfl | rfl | rfl | rfl <;> rfl) 9 Tryd.underlying9
  go_enter Tryd.func67, Tryd.ntmps67
  go_wp2
  go_rounds 10
  go_ret
  rw [hr.out]
  exact ⟨rfl, (Below.refl _ _).alloc (Nat.le_refl _) _⟩
end Go.Proofs.YtbicjgaadknmfaaDoor.P
