/- LexWords, the plain law: for any words whatever the printed function answers true. -/
import Derived.Test.YtbicjgaadknmfaaAx11
import Derived.Test.YtbicjgaadknmfaaMi
namespace Go.Proofs.Ytbicjgaadknmfaa.Pure
open Go.RowKit Go.Proofs.Ytbicjgaadknmfaa.P Go.Proofs.YtbicjgaadknmfaaW.PrintWords Go.Proofs.Ytbicjgaadknmfaa.M
set_option linter.unusedVariables false
set_option linter.unusedSimpArgs false

theorem words_go (l : List RW) (hl : l.length ≤ 100) : ∀ (n i : Nat), n = l.length - i → i ≤ l.length → (∀ j (h : j < i) (h2 : j < l.length), (l[j]'h2).f1.size ≤ 200) →
    Ev (fun k => retrospectlaw16_LexWords.l0 k l (l.map toS) (i : Int)) true := by
  intro n
  induction n with
  | zero =>
    intro i hn hi hsz
    have hi' : i = l.length := by omega
    have hall : ∀ w ∈ l, w.f1.size ≤ 4000 := by
      intro w hw
      obtain ⟨j, hj, rfl⟩ := List.getElem_of_mem hw
      have := hsz j (by omega) hj
      omega
    obtain ⟨r, er, h1, h2⟩ := rtext_eq l (by omega) hall
    have hjoin : strings_Join.f ((l.map toS).map (·.f1)) ⟨#[32]⟩ = some r := by
      have e : (l.map toS).map (·.f1) = l.map (·.f1) := by rw [List.map_map]; rfl
      have e2 : joined ((l.map toS).map (·.f1)) ⟨#[32]⟩ = toL r := by
        rw [e, h1]
        unfold joined
        rw [List.map_map]
        rfl
      unfold strings_Join.f
      rw [if_pos (by rw [e]; simp; omega), e2, if_pos (by rw [length_toL]; omega)]
      exact congrArg some (ofL_toL r)
    have et := text_eq (l.map toS) (by simp; omega) r hjoin
    refine Ev.step (f := fun k => (lex_Text.f k (l.map toS)).bind fun t => (retrospectref16_Text.f k l).bind fun t' => if t.toList = t'.toList then (retrospectlaw16_works.f k).bind fun b => some b else some false) (fun k => ?_) ?_
    · simp only [retrospectlaw16_LexWords.l0]
      rw [if_neg (by omega)]
    · refine Ev.bind et (Ev.bind er (Ev.congr (fun k => if_pos rfl) (Ev.bind works16 (Ev.now _))))
  | succ n ih =>
    intro i hn hi hsz
    have hlt : i < l.length := by omega
    have hrd : rd_T36 l (i : Int) = l[i] := by
      unfold rd_T36
      simp [List.getD_eq_getElem?_getD, hlt]
    have hrd2 : rd_T38 (l.map toS) (i : Int) = toS l[i] := by
      unfold rd_T38
      simp [List.getD_eq_getElem?_getD, hlt]
    by_cases h2 : ((l[i].f1.size : Int)) > 200
    · refine Ev.step (f := fun k => (retrospectlaw16_works.f k).bind fun t => some t) (fun k => ?_) (Ev.bind works16 (Ev.now _))
      simp only [retrospectlaw16_LexWords.l0]
      rw [if_pos (by omega), if_pos (by omega), hrd, if_pos h2]
    · have hs : l[i].f1.size ≤ 4000 := by omega
      refine Ev.step (f := fun k => (lex_Right.f k l[i].f0 l[i].f1 l[i].f2).bind fun a => (retrospectref16_Right.f k l[i].f0 l[i].f1 l[i].f2).bind fun b => if (a != b) = true then some false else retrospectlaw16_LexWords.l0 k l (l.map toS) ((i + 1 : Nat) : Int)) (fun k => ?_) ?_
      · simp only [retrospectlaw16_LexWords.l0]
        rw [if_pos (by omega), if_pos (by omega), hrd, if_neg h2, if_pos (by simp; omega), hrd2, wrap_id (by omega) (by omega)]
        rfl
      · refine Ev.bind (right_eq _ _ _ hs) (Ev.bind (rright_eq _ _ _ hs) (Ev.congr (fun k => if_neg (by simp)) ?_))
        refine ih (i + 1) (by omega) (by omega) (fun j hj hj2 => ?_)
        rcases Nat.lt_or_ge j i with h | h
        · exact hsz j h hj2
        · have : j = i := by omega
          subst this
          omega

theorem LexWords (l : List RW) : ∃ k, retrospectlaw16_LexWords.f k l = some true := by
  apply Ev.rounds
  unfold retrospectlaw16_LexWords.f
  by_cases h : (l.length : Int) > 100
  · exact Ev.congr (fun _ => if_pos h) (Ev.bind works16 (Ev.now _))
  · refine Ev.congr (fun _ => if_neg h) (Ev.bind (to_eq l (by omega)) ?_)
    exact words_go l (by omega) l.length 0 (by omega) (by omega) (fun j h => by omega)
end Go.Proofs.Ytbicjgaadknmfaa.Pure
