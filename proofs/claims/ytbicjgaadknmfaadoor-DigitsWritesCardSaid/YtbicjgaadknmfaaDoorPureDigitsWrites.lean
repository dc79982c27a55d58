import Derived.Test.YtbicjgaadknmfaaDoorNg
import Derived.Test.YtbicjgaadknmfaaDoorDx6
namespace Go.Proofs.YtbicjgaadknmfaaDoor.Pure
open Go.RowKit Go.Proofs.YtbicjgaadknmfaaDoor.P Go.Proofs.YtbicjgaadknmfaaDoor.M
theorem Wl_of_wf {l : List Int} (h : ∀ x ∈ l, (Lit.int .u32 x).wf = true) : Wl l := by
  intro x hx
  have := h x hx
  simp [Lit.wf, IntKind.min, IntKind.max, IntKind.bits, IntKind.signed] at this
  omega
theorem DigitsWrites : retrospectlaw07_DigitsWrites.Pure := by
  intro l _ _ hwf
  have hW := Wl_of_wf hwf
  obtain ⟨K0, k0⟩ := works07
  dsimp only at k0
  by_cases hl : (l.length : Int) > 40
  · refine ⟨K0, ?_⟩
    unfold retrospectlaw07_DigitsWrites.f
    rw [if_pos hl, k0 K0 (by omega)]
    rfl
  · have h1 := textProg hW (by omega)
    have h2 := textRef hW (by omega)
    obtain ⟨K2, k2⟩ := h2
    dsimp only at k2
    refine ⟨K0 + K2, ?_⟩
    unfold retrospectlaw07_DigitsWrites.f
    have e : digits_Len.f l = some ((ofL (dec (val l).toNat)).size : Int) := by
      unfold digits_Len.f
      rw [h1]
      rfl
    rw [if_neg hl, k2 _ (by omega), Option.bind_some, h1, Option.bind_some, if_pos rfl, e, Option.bind_some, if_pos rfl, k0 _ (by omega)]
    rfl
end Go.Proofs.YtbicjgaadknmfaaDoor.Pure
