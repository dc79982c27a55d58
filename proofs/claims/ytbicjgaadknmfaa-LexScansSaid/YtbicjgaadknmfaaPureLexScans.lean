/- LexScans: for every text: the words that the program tells, with their places, or the place at which there is none, are those that the document's reference tells. No conditions. -/
import Derived.Test.YtbicjgaadknmfaaAx8
import Derived.Test.YtbicjgaadknmfaaMh
namespace Go.Proofs.Ytbicjgaadknmfaa.Pure
open Go.RowKit Go.Proofs.Ytbicjgaadknmfaa.P Go.Proofs.YtbicjgaadknmfaaW.PrintWords Go.Proofs.YtbicjgaadknmfaaW.PrintLast Go.Proofs.Ytbicjgaadknmfaa.M
set_option linter.unusedVariables false
set_option linter.unusedSimpArgs false

theorem LexScans : retrospectlaw16_LexScans.Pure := by
  intro s hs
  apply Ev.rounds
  unfold retrospectlaw16_LexScans.f
  have hw : ∀ b : Bool, b = true → Ev (fun k => if b = true then (retrospectlaw16_works.f k).bind fun t => some t else some false) true := by
    intro b hb
    subst hb
    exact Ev.congr (fun _ => if_pos rfl) (Ev.bind works16 (Ev.now _))
  by_cases h5 : (s.size : Int) > 5000
  · exact Ev.congr (fun _ => if_pos h5) (Ev.bind works16 (Ev.now _))
  · refine Ev.congr (fun _ => if_neg h5) ?_
    have a := prog_scan s
    have b := ref_scan s
    have hl := scanT_len (toL s)
    cases e : scanT (toL s) with
    | ok ws =>
      rw [e] at a b
      have hn := hl ws e
      refine Ev.bind a (Ev.bind b ?_)
      refine Ev.congr (fun _ => if_neg (by simp [resR])) ?_
      have o := of_eq ws (by omega)
      have m := same_eq (ws.map mkR) (by simp; omega)
      simp only [resP, resR, List.nil_append] at o m ⊢
      refine Ev.bind o (Ev.bind m ?_)
      refine Ev.congr (fun _ => if_pos rfl) ?_
      exact hw _ (by decide)
    | error q =>
      rw [e] at a b
      refine Ev.bind a (Ev.bind b ?_)
      refine Ev.congr (fun _ => if_pos (by simp [resR])) ?_
      have o := of_eq [] (by simp)
      have m := same_eq [] (by simp)
      simp only [resP, resR, List.map_nil] at o m ⊢
      refine Ev.bind o (Ev.bind m ?_)
      refine Ev.congr (fun _ => if_pos rfl) ?_
      exact hw _ (by simp)
end Go.Proofs.Ytbicjgaadknmfaa.Pure
