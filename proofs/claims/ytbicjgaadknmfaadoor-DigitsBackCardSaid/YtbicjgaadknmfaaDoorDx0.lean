-- printed by wip/xprint.py over the kit's print: Lean checks it
import Derived.Test.YtbicjgaadknmfaaDoorProg
import Derived.Below
import Derived.Deep.Draws
import Derived.Deep.AppendLies
import Derived.Maps.AppendAt
import Derived.OwnWalk
import Derived.Laws.BytesArg
import Derived.Laws.MakeOwn
import Derived.Laws.OwnMore
import Derived.Deep.OwnRows
import Derived.Tactics
import Derived.Lib.ConvBytes
import Derived.Laws.Slices
import Derived.WalkKit
import Derived.KernelRfl
import Derived.RowKit3
import Derived.Deep.LoopGhost
import Derived.Deep.QuietTactic
import Derived.BigQuiet
import Derived.WideLaws
import Derived.Deep.DeepCutAuto
import Derived.Deep.CutBlock
import Derived.Deep.RegionHeld3
import Derived.Laws.Rows
import Derived.Lib.AppendStr
import Derived.ArgAppend
import Derived.Laws.IdiomCopy
import Derived.OrdersHeld
import Derived.Laws.BitsLemmas
import Derived.RowKit
import Derived.Test.YtbicjgaadknmfaaDoorWWords
import Derived.Test.YtbicjgaadknmfaaDoorWLast
import Derived.Test.YtbicjgaadknmfaaDoorWTab
import Derived.Test.YtbicjgaadknmfaaDoorWFour
import Derived.Test.YtbicjgaadknmfaaDoorWQPut
import Derived.Test.YtbicjgaadknmfaaDoorWApart
import Derived.Test.YtbicjgaadknmfaaDoorWArr
import Derived.Test.YtbicjgaadknmfaaDoorWZeros
import Derived.Test.YtbicjgaadknmfaaDoorWFoot
import Derived.Test.YtbicjgaadknmfaaDoorWKept
import Derived.Test.YtbicjgaadknmfaaDoorWShare
import Derived.Test.YtbicjgaadknmfaaDoorWN
import Derived.Test.YtbicjgaadknmfaaDoorWFootNe
import Derived.Test.YtbicjgaadknmfaaDoorWAt
import Derived.Test.YtbicjgaadknmfaaDoorWEqStruct
import Derived.Test.YtbicjgaadknmfaaDoorWRepsOne
import Derived.Test.YtbicjgaadknmfaaDoorWInv
import Derived.Test.YtbicjgaadknmfaaDoorWInvWords
import Derived.Test.YtbicjgaadknmfaaDoorWGuard
import Derived.Test.YtbicjgaadknmfaaDoorWNEv
import Derived.Test.YtbicjgaadknmfaaDoorWMore
namespace Go.Proofs.YtbicjgaadknmfaaDoor.P
open Go.RowKit Go.Proofs.YtbicjgaadknmfaaDoorW.PrintWords Go.Proofs.YtbicjgaadknmfaaDoorW.PrintLast Go.Proofs.YtbicjgaadknmfaaDoorW.PrintMore
attribute [local go_sem] max2_int min2_int max_two min_two max_three min_three max_four min_four   -- for this text's walks alone
set_option linter.unusedVariables false
set_option linter.unusedSimpArgs false



def errW : Option Int → Value
  | none => .nilIface
  | some c => .iface 0 (.int .i64 c)
theorem errW_none : errW none = .nilIface := rfl
theorem errW_some (c : Int) : errW (some c) = .iface 0 (.int .i64 c) := rfl

theorem info101 : (Tryd.prog.info? 101).map (fun i => (i.zero, i.size, i.bytes)) = some (some (.int .u32 0), 1, 4) := by kernel_rfl
-- the values' own types
def rd_L1 (xs : List (List Int)) (i : Int) : (List Int) := xs.getD i.toNat ([] : List Int)
theorem at_L1 {w : World} {A : Option Addr} {n : Nat} {xs : List (List Int)} (h : Kd.C (Kd.slice 101 (Kd.int .u32)) w A n xs) (i : Int) (h0 : 0 ≤ i) (h1 : i < n) : ∃ ad A0 c0, A = some ad ∧ w.cell? (ad.add i.toNat) = some (.slice A0 (rd_L1 xs i).length c0) ∧ (rd_L1 xs i).length ≤ c0 ∧ (Kd.int .u32).C w A0 (rd_L1 xs i).length (rd_L1 xs i) := by
  obtain ⟨ad, c, e, _, hK, hc0⟩ := Kd.C_get h ([] : List Int) i h0 h1
  have hc : ∀ j u, c[j]? = some u → w.cell? (ad.add (i.toNat * 1 + j)) = some u := hc0
  obtain ⟨A0, c0, rfl, l0, g0⟩ := hK
  exact ⟨ad, A0, c0, e, by have hq := hc 0 _ rfl; rwa [Nat.mul_one, Nat.add_zero] at hq, l0, g0⟩

theorem max2_mx (k k' : IntKind) (x y : Int) : Builtin.max2 (.int k x) (.int k' y) = pure (.int k (mx x y)) := max2_int k k' x y
theorem min2_mn (k k' : IntKind) (x y : Int) : Builtin.min2 (.int k x) (.int k' y) = pure (.int k (mn x y)) := min2_int k k' x y
theorem u32w (x : Int) : IntKind.u32.wrap x = x % 4294967296 := by first | rfl | simp [IntKind.wrap]
theorem u32sub (x y : Int) : (x % 4294967296 - y) % 4294967296 = (x - y) % 4294967296 := by omega
end Go.Proofs.YtbicjgaadknmfaaDoor.P
