/- Contract by hand: strings.Join, in the print's form. -/
import Derived.Test.YtbicjgaadknmfaaWWords
import Derived.Test.YtbicjgaadknmfaaShelf
namespace Go.Proofs.Ytbicjgaadknmfaa.P
open Go.RowKit Go.Proofs.YtbicjgaadknmfaaW.PrintWords
set_option linter.unusedVariables false
set_option linter.unusedSimpArgs false

def joined (l : List ByteArray) (sep : ByteArray) : List UInt8 := Lib.join (l.map (·.data.toList)) sep.data.toList
def strings_Join.f (l0 : List ByteArray) (a1 : ByteArray) : Option ByteArray :=
  if l0.length ≤ 1000000 then if (joined l0 a1).length ≤ 100000000 then some ⟨(joined l0 a1).toArray⟩ else none else none

theorem strings_Join.calls (A0 : Option Addr) (c0 : Nat) (l0 : List ByteArray) (a1 : ByteArray) (r : ByteArray) (w : World) (hr0 : Kd.C Kd.string w A0 l0.length l0) (hc0 : l0.length ≤ c0) (h : strings_Join.f l0 a1 = some r) :
    Calls Try.prog 22 #[.slice A0 l0.length c0, .string a1] w fun e w' => e = .returned (.string r) ∧ Below w.heap.size w w' := by
  unfold strings_Join.f at h
  split at h
  case isFalse => cases h
  case isTrue h1 =>
  split at h
  case isFalse => cases h
  case isTrue h2 =>
  obtain rfl := Option.some.inj h
  cases l0 with
  | nil =>
    refine (Try.strings_Join_none A0 c0 a1 w).mono ?_
    rintro e w' ⟨rfl, rfl⟩
    exact ⟨rfl, Below.refl _ _⟩
  | cons x l =>
    obtain ⟨ad, rfl, hc⟩ := hr0.2.2 (by simp)
    have cell : ∀ (j : Nat) (y : ByteArray), (x :: l)[j]? = some y → w.cell? (ad.add j) = some (.string y) := by
      intro j y hj
      obtain ⟨c, _, hk, hcell⟩ := hc j y hj
      have hk' : c = [Value.string y] := hk
      subst hk'
      have := hcell 0 _ rfl
      simpa [Kd.string, Kd.scalar] using this
    obtain ⟨b, o, sp⟩ := ad
    have h0 := cell 0 x rfl
    have hsp : sp = none := by
      cases sp with
      | none => rfl
      | some z => exfalso; simp [Addr.add, World.cell?] at h0; split at h0 <;> simp_all
    subst hsp
    have hadd : ∀ j, (⟨b, o, none⟩ : Addr).add j = ⟨b, o + j, none⟩ := fun j => by unfold Addr.add; split <;> simp_all
    refine (Try.strings_Join b o c0 (x :: l) a1 w (fun j y hj => by rw [← hadd]; exact cell j y hj) ?_ (by omega) hc0 (by unfold joined at h2; omega)).mono ?_
    · have := World.block_lt_of_cell? w _ h0
      simpa [Addr.add] using this
    · rintro e w' ⟨rfl, hb⟩
      exact ⟨rfl, hb⟩
end Go.Proofs.Ytbicjgaadknmfaa.P
