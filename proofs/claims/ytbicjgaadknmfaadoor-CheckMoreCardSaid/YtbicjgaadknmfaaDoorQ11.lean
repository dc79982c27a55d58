import Derived.Test.YtbicjgaadknmfaaDoorQ10
import Derived.Test.YtbicjgaadknmfaaDoorQ9
import Derived.Test.YtbicjgaadknmfaaDoorQ2
import Derived.Test.YtbicjgaadknmfaaDoorQ6
import Derived.Test.YtbicjgaadknmfaaDoorQ7
import Derived.Test.YtbicjgaadknmfaaDoorQ0
import Derived.ProofKit
import Derived.Deep.Slices
import Derived.Deep.Strs
section
namespace Go.Proofs.YtbicjgaadknmfaaDoor.M
open Go.RowKit Go.Proofs.YtbicjgaadknmfaaDoorW.PrintWords Go.Proofs.YtbicjgaadknmfaaDoor.P Go.Proofs.YtbicjgaadknmfaaDoorW.PrintMore
set_option linter.unusedVariables false
set_option linter.unusedSimpArgs false
def Fine (c : List SN) (d p l : Int) : Prop := zch arN c < 0 ∧ (∀ x ∈ c, zbK x d p l = true) ∧ ¬ 40 < zcN c
theorem zf0 (d p l w : Int) : ∀ (c : List SN) (i : Int), 0 ≤ i → (zdc d p l w c i < 0 ↔ w < 0 ∧ ∀ x ∈ c, zbK x d p l = true)
  | [], i, hi => by simp [zdc]
  | x :: r, i, hi => by
    unfold zdc
    by_cases h : i = w ∨ zbK x d p l = false
    · rw [if_pos h]
      refine ⟨fun h1 => by omega, fun ⟨h1, h2⟩ => ?_⟩
      rcases h with h | h
      · omega
      · have := h2 x List.mem_cons_self; rw [this] at h; cases h
    · rw [if_neg h, zf0 d p l w r (i + 1) (by omega)]
      have hx : zbK x d p l = true := by
        cases e : zbK x d p l with
        | true => rfl
        | false => exact absurd (.inr e) h
      constructor
      · rintro ⟨h1, h2⟩
        exact ⟨h1, fun y hy => by rcases List.mem_cons.1 hy with rfl | hy; exact hx; exact h2 y hy⟩
      · rintro ⟨h1, h2⟩
        exact ⟨h1, fun y hy => h2 y (List.mem_cons_of_mem _ hy)⟩
theorem zfy (c : List SN) (num d p l : Int) : zc8 c num d p l = z4 ↔ Fine c d p l := by
  have hp := zf0 d p l (zch arN c) c 0 (by omega)
  unfold zc8 Fine zdD
  by_cases h : zdc d p l (zch arN c) c 0 < 0
  · rw [if_pos h]
    have h2 := hp.1 h
    by_cases h3 : 40 < zcN c
    · rw [if_pos h3]
      exact ⟨fun e => absurd (congrArg Prod.fst e) (by show ¬ (2 : Int) = 0; decide), fun e => absurd h3 e.2.2⟩
    · rw [if_neg h3]
      exact ⟨fun _ => ⟨h2.1, h2.2, h3⟩, fun _ => rfl⟩
  · rw [if_neg h]
    exact ⟨fun e => absurd (congrArg Prod.fst e) (by show ¬ (2 : Int) = 0; decide), fun e => absurd (hp.2 ⟨e.1, e.2.1⟩) h⟩
theorem zhB (L : List SL) (d p : Int) (i : Nat) (x : SL) : letQ L d p i x = z4 ↔ (zb3 x.f0 = true ∧ zcy L i = false) ∧ Fine x.f1 d p i := by
  unfold letQ
  by_cases h : zb3 x.f0 = true ∧ zcy L i = false
  · rw [if_pos h, zfy]
    exact ⟨fun e => ⟨h, e⟩, fun e => e.2⟩
  · rw [if_neg h]
    exact ⟨fun e => absurd (congrArg Prod.fst e) (by show ¬ (2 : Int) = 0; decide), fun e => absurd e.1 h⟩
theorem zg4 (d p : Int) (nl : Nat) : ∀ (r : List (List SN)) (i : Nat), zdo d p nl r i = z4 ↔ ∀ c ∈ r, Fine c d p nl
  | [], i => ⟨fun _ c hc => (by cases hc), fun _ => rfl⟩
  | c :: r, i => by
    unfold zdo
    by_cases h : zc8 c ((nl : Int) + i + 1) d p nl = z4
    · rw [if_pos h, zg4 d p nl r (i + 1)]
      have := (zfy _ _ _ _ _).1 h
      refine ⟨fun e x hx => ?_, fun e x hx => e x (List.mem_cons_of_mem _ hx)⟩
      rcases List.mem_cons.1 hx with rfl | hx
      · exact this
      · exact e x hx
    · rw [if_neg h]
      exact ⟨fun e => absurd e h, fun e => absurd ((zfy _ _ _ _ _).2 (e c List.mem_cons_self)) h⟩
theorem zg5 (L : List SL) (d p : Int) (z : Q4) : ∀ (r : List SL) (i : Nat), zdN L d p z r i = z4 ↔ z = z4 ∧ ∀ (j : Nat) (x : SL), r[j]? = some x → (zb3 x.f0 = true ∧ zcy L (i + j) = false) ∧ Fine x.f1 d p ((i + j : Nat) : Int)
  | [], i => ⟨fun e => ⟨e, fun j x h => by cases h⟩, fun e => e.1⟩
  | y :: r, i => by
    unfold zdN
    by_cases h : letQ L d p i y = z4
    · rw [if_pos h, zg5 L d p z r (i + 1)]
      have hy := (zhB _ _ _ _ _).1 h
      refine and_congr_right fun _ => ⟨fun e j x hx => ?_, fun e j x hx => ?_⟩
      · cases j with
        | zero => cases hx; exact hy
        | succ j => have := e j x hx; rwa [show i + 1 + j = i + (j + 1) by omega] at this
      · have := e (j + 1) x hx
        rwa [show i + (j + 1) = i + 1 + j by omega] at this
    · rw [if_neg h]
      exact ⟨fun e => absurd e h, fun e => absurd ((zhB _ _ _ _ _).2 (e.2 0 y rfl)) h⟩
def ze1 (L : List SL) (O : List (List SN)) (d p : Int) : Prop := zdr L O d p = true ∧ (∀ c ∈ O, Fine c d p (L.length : Int)) ∧ ∀ (j : Nat) (x : SL), L[j]? = some x → (zb3 x.f0 = true ∧ zcy L j = false) ∧ Fine x.f1 d p (j : Int)
theorem zeZ (L : List SL) (O : List (List SN)) (d p : Int) : zdh L O d p = z4 ↔ ze1 L O d p := by
  unfold zdh ze1
  by_cases h : zdr L O d p = true
  · rw [if_pos h, zg5, zg4]
    simp only [Nat.zero_add]
    exact ⟨fun e => ⟨h, e.1, e.2⟩, fun e => ⟨e.2.1, e.2.2⟩⟩
  · rw [if_neg h]
    exact ⟨fun e => absurd (congrArg Prod.fst e) (by show ¬ (2 : Int) = 0; decide), fun e => absurd e.1 h⟩
theorem zjj {x : SN} {d d' p p' l : Int} (h : zbK x d p l = true) (hd : d ≤ d') (hp : p ≤ p') : zbK x d' p' l = true := by
  unfold zbK at h ⊢
  by_cases h1 : x.f0 = 1
  · rw [if_pos h1] at h ⊢; exact h
  rw [if_neg h1] at h ⊢
  by_cases h2 : 0 < x.f2.length ∨ x.f0 < 1 ∨ 11 < x.f0
  · rw [if_pos h2] at h; cases h
  rw [if_neg h2] at h ⊢
  by_cases h3 : x.f0 = 3
  · rw [if_pos h3] at h ⊢
    simp only [Bool.and_eq_true, decide_eq_true_eq] at h ⊢; omega
  rw [if_neg h3] at h ⊢
  by_cases h4 : x.f0 = 4
  · rw [if_pos h4] at h ⊢
    simp only [Bool.and_eq_true, decide_eq_true_eq] at h ⊢; omega
  rw [if_neg h4] at h ⊢
  exact h
theorem zex {c : List SN} {d d' p p' l : Int} (h : Fine c d p l) (hd : d ≤ d') (hp : p ≤ p') : Fine c d' p' l := ⟨h.1, fun x hx => zjj (h.2.1 x hx) hd hp, h.2.2⟩
theorem ziy {L : List SL} {O : List (List SN)} {d p p' : Int} (h : ze1 L O d p) (hp : p ≤ p') (h6 : p' ≤ 6) : ze1 L O d p' := by
  refine ⟨?_, fun c hc => zex (h.2.1 c hc) (by omega) hp, fun j x hx => ⟨(h.2.2 j x hx).1, zex (h.2.2 j x hx).2 (by omega) hp⟩⟩
  have := of_decide_eq_true h.1
  exact decide_eq_true (by omega)
theorem ziq (n p l : Int) (hn : 0 ≤ n) : Fine [⟨3, n, []⟩] (n + 1) p l := by
  have ha : arN ⟨3, n, []⟩ = 0 := rfl
  have hk : (Ex.leaf (⟨3, n, []⟩ : SN)).ok arN := ha
  refine ⟨?_, ?_, ?_⟩
  · have := ze9 hk
    rw [show [(⟨3, n, []⟩ : SN)] = (Ex.leaf (⟨3, n, []⟩ : SN)).flat from rfl, this]
    decide
  · intro x hx
    rw [List.mem_singleton.1 hx]
    simp [zbK]
    omega
  · rw [show [(⟨3, n, []⟩ : SN)] = (Ex.leaf (⟨3, n, []⟩ : SN)).flat from rfl, zeA hk]
    simp [Ex.depth]
theorem ziT {L : List SL} {O : List (List SN)} {d p : Int} (h : ze1 L O d p) : ze1 L (O ++ [[⟨3, d, []⟩]]) (d + 1) p ↔ d < 6 ∧ zb1 (zb2 L O) < 300 := by
  have hw := of_decide_eq_true h.1
  have hs : zb1 (zb2 L (O ++ [[(⟨3, d, []⟩ : SN)]])) = zb1 (zb2 L O) + 1 := by
    unfold zb1 zb2
    simp only [List.map_append, List.sum_append, List.map_cons, List.map_nil, List.length_cons, List.length_nil, List.sum_cons, List.sum_nil]
    omega
  constructor
  · intro h2
    have h3 := of_decide_eq_true h2.1
    rw [hs] at h3
    omega
  · rintro ⟨h6, h3⟩
    refine ⟨decide_eq_true ?_, ?_, fun j x hx => ⟨(h.2.2 j x hx).1, zex (h.2.2 j x hx).2 (by omega) (by omega)⟩⟩
    · rw [hs, List.length_append, List.length_singleton]
      omega
    · intro c hc
      rcases List.mem_append.1 hc with hc | hc
      · exact zex (h.2.1 c hc) (by omega) (by omega)
      · rw [List.mem_singleton.1 hc]
        exact ziq d p _ (by omega)
theorem ziO {L : List SL} {O : List (List SN)} {d p : Int} (h : ze1 L O d p) : ∀ c ∈ zb2 L O, zch arN c < 0 ∧ ¬ 40 < zcN c := by
  intro c hc
  unfold zb2 at hc
  rcases List.mem_append.1 hc with hc | hc
  · obtain ⟨x, hx, rfl⟩ := List.mem_map.1 hc
    obtain ⟨j, hj⟩ := List.getElem?_of_mem hx
    have := (h.2.2 j x hj).2
    exact ⟨this.1, this.2.2⟩
  · have := h.2.1 c hc
    exact ⟨this.1, this.2.2⟩
end Go.Proofs.YtbicjgaadknmfaaDoor.M
end
section
namespace Go.Proofs.YtbicjgaadknmfaaDoor.M
open Go.RowKit Go.Proofs.YtbicjgaadknmfaaDoorW.PrintWords Go.Proofs.YtbicjgaadknmfaaDoor.P Go.Proofs.YtbicjgaadknmfaaDoorW.PrintMore
set_option linter.unusedVariables false
set_option linter.unusedSimpArgs false
theorem zhw (l : List RN) (m w : Nat) (hm : m ≤ 100000) : ∃ b, Ev (fun k => zaw.f k l (m : Int) (w : Int)) b ∧ (b = false → l.length ≤ m ∧ ∀ x ∈ l, x.f2.length ≤ w) := by
  have round : ∀ (i : Nat) k, zaw.l0 (k + 2) l (m : Int) (w : Int) (i : Int) = if i < l.length ∧ i < m then (if w < (l.getD i z62).f2.length then some true else zaw.l0 k l (m : Int) (w : Int) ((i + 1 : Nat) : Int)) else some (decide (m < l.length)) := by
    intro i k
    simp only [zaw.l0, zaw.j1]
    by_cases c : i < l.length
    · by_cases c2 : i < m
      · rw [if_pos (by omega), decide_eq_true (by omega), if_pos rfl, if_pos (by omega), if_pos (by omega), if_pos (show i < l.length ∧ i < m from ⟨c, c2⟩), rdR c, zbh (by omega) (by omega)]
        have e : (l.getD i z62) = l[i] := by simp [List.getD_eq_getElem?_getD, c]
        rw [e]
        by_cases c3 : w < l[i].f2.length
        · rw [if_pos (by omega), if_pos c3]
        · rw [if_neg (by omega), if_neg c3]; rfl
      · rw [if_pos (by omega), decide_eq_false (by omega), if_neg (by decide), if_neg (by omega)]
        congr 1
        exact decide_eq_decide.2 (by omega)
    · rw [if_neg (by omega), if_neg (by decide), if_neg (by omega)]
      congr 1
      exact decide_eq_decide.2 (by omega)
  have go : ∀ (n i : Nat), l.length - i = n → (∀ j, (h : j < l.length) → j < i → l[j].f2.length ≤ w) → ∃ b, Ev (fun k => zaw.l0 k l (m : Int) (w : Int) (i : Int)) b ∧ (b = false → l.length ≤ m ∧ ∀ x ∈ l, x.f2.length ≤ w) := by
    intro n
    induction n with
    | zero =>
      intro i hn hj
      refine ⟨decide (m < l.length), Ev.step (fun _ => rfl) (Ev.step (fun k => round i k) (Ev.congr (fun k => if_neg (by omega)) (Ev.now _))), fun hb => ⟨by have := of_decide_eq_false hb; omega, fun x hx => ?_⟩⟩
      obtain ⟨j, hjl, rfl⟩ := List.getElem_of_mem hx
      exact hj j hjl (by omega)
    | succ n ih =>
      intro i hn hj
      have hil : i < l.length := by omega
      by_cases c2 : i < m
      · have e : (l.getD i z62) = l[i] := by simp [List.getD_eq_getElem?_getD, hil]
        by_cases c3 : w < l[i].f2.length
        · exact ⟨true, Ev.step (fun _ => rfl) (Ev.step (fun k => round i k) (Ev.congr (fun k => by rw [if_pos (show i < l.length ∧ i < m from ⟨hil, c2⟩), e, if_pos c3]) (Ev.now _))), fun h => by cases h⟩
        · obtain ⟨b, hb, hb2⟩ := ih (i + 1) (by omega) (fun j h h2 => by
            by_cases hji : j = i
            · subst hji; omega
            · exact hj j h (by omega))
          exact ⟨b, Ev.step (fun _ => rfl) (Ev.step (fun k => round i k) (Ev.congr (fun k => by rw [if_pos (show i < l.length ∧ i < m from ⟨hil, c2⟩), e, if_neg c3]) hb)), hb2⟩
      · refine ⟨decide (m < l.length), Ev.step (fun _ => rfl) (Ev.step (fun k => round i k) (Ev.congr (fun k => if_neg (by omega)) (Ev.now _))), fun hb => ?_⟩
        have := of_decide_eq_false hb
        refine ⟨by omega, fun x hx => ?_⟩
        obtain ⟨j, hjl, rfl⟩ := List.getElem_of_mem hx
        exact hj j hjl (by omega)
  exact go _ 0 rfl (fun j _ h => by omega)
theorem zh9 (l : List RN) (hl : l.length ≤ 1000000) : Ev (fun k => zaE.f k l) (l.map toN) := by
  have go : ∀ (r : List RN) (i : Nat) (acc : List SN), l.drop i = r → i ≤ l.length → acc = (l.take i).map toN → Ev (fun k => zaE.l0 k l acc (i : Int)) (l.map toN) := by
    intro r
    induction r with
    | nil =>
      intro i acc hd hi ha
      have : l.length ≤ i := by simpa using hd
      refine Ev.step (f := fun _ => some acc) (fun k => ?_) ?_
      · simp only [zaE.l0]
        rw [if_neg (by omega)]
      · rw [ha, List.take_of_length_le this]; exact Ev.now _
    | cons a r ih =>
      intro i acc hd hi ha
      obtain ⟨hlt, h1, hr⟩ := zbw hd
      have hal : acc.length = i := by rw [ha]; simp; omega
      refine Ev.step (f := fun k => zaE.l0 k l (acc ++ [toN a]) ((i + 1 : Nat) : Int)) (fun k => ?_) (ih (i + 1) _ hr (by omega) (by rw [ha, ← h1, List.take_succ_eq_append_getElem hlt, List.map_append]; rfl))
      simp only [zaE.l0]
      rw [if_pos (by omega), if_pos (by omega), if_pos (by omega), rdR hlt, h1, zbh (by omega) (by omega)]
      rfl
  exact go l 0 [] rfl (by omega) rfl
end Go.Proofs.YtbicjgaadknmfaaDoor.M
end
section
namespace Go.Proofs.YtbicjgaadknmfaaDoor.M
open Go.RowKit Go.Proofs.YtbicjgaadknmfaaDoorW.PrintWords Go.Proofs.YtbicjgaadknmfaaDoor.P Go.Proofs.YtbicjgaadknmfaaDoorW.PrintMore
set_option linter.unusedVariables false
set_option linter.unusedSimpArgs false
theorem zhi (L : List RL) (O : List (List RN)) (a m w : Nat) (ha : a ≤ 1000) (hm : m ≤ 100000) : ∃ b, Ev (fun k => zao.f k L O (a : Int) (m : Int) (w : Int)) b ∧
    (b = false → L.length ≤ a ∧ O.length ≤ a ∧ (∀ x ∈ L, x.f0.size ≤ 100 ∧ x.f1.length ≤ m ∧ ∀ n ∈ x.f1, n.f2.length ≤ w) ∧ ∀ c ∈ O, c.length ≤ m ∧ ∀ n ∈ c, n.f2.length ≤ w) := by
  have bad : Ev (fun k => zao.j0 k (m : Int) (w : Int) true L O) true := by
    refine Ev.step (f := fun _ => some true) (fun k => ?_) (Ev.now _)
    simp only [zao.j0]
    rw [if_pos trivial]
  unfold zao.f
  by_cases c1 : a < L.length
  · exact ⟨true, Ev.congr (fun k => if_pos (by omega)) bad, fun h => by cases h⟩
  by_cases c2 : a < O.length
  · exact ⟨true, Ev.congr (fun k => by rw [if_neg (by omega), decide_eq_true (show (O.length : Int) > (a : Int) by omega)]) bad, fun h => by cases h⟩
  have goO : ∀ (r : List (List RN)) (i : Nat), O.drop i = r → ∃ b, Ev (fun k => zao.l1 k (m : Int) (w : Int) (i : Int) L O) b ∧ (b = false → ∀ c ∈ r, c.length ≤ m ∧ ∀ n ∈ c, n.f2.length ≤ w) := by
    intro r
    induction r with
    | nil =>
      intro i hd
      have : O.length ≤ i := by simpa using hd
      refine ⟨false, Ev.step (f := fun _ => some false) (fun k => ?_) (Ev.now _), fun _ c hc => by cases hc⟩
      simp only [zao.l1]
      rw [if_neg (by omega)]
    | cons x r ih =>
      intro i hd
      obtain ⟨hlt, h1, hr⟩ := zbw hd
      obtain ⟨b1, e1, q1⟩ := zhw x m w hm
      obtain ⟨b2, e2, q2⟩ := ih (i + 1) hr
      have st : ∀ k, zao.l1 (k + 1) (m : Int) (w : Int) (i : Int) L O = (zaw.f k x (m : Int) (w : Int)).bind fun t => if t = true then some true else zao.l1 k (m : Int) (w : Int) ((i + 1 : Nat) : Int) L O := by
        intro k
        simp only [zao.l1]
        rw [if_pos (by omega), if_pos (by omega), zbh (by omega) (by omega)]
        show (zaw.f k (O.getD (i : Int).toNat []) _ _).bind _ = _
        rw [Int.toNat_natCast, rdRC hlt, h1]
        rfl
      cases b1 with
      | true => exact ⟨true, Ev.step st (Ev.bind e1 (Ev.congr (fun k => if_pos rfl) (Ev.now _))), fun h => by cases h⟩
      | false =>
        refine ⟨b2, Ev.step st (Ev.bind e1 (Ev.congr (fun k => if_neg (by decide)) e2)), fun hb c hc => ?_⟩
        rcases List.mem_cons.1 hc with rfl | hc
        · exact q1 rfl
        · exact q2 hb c hc
  have goL : ∀ (r : List RL) (i : Nat), L.drop i = r → ∃ b, Ev (fun k => zao.l0 k (m : Int) (w : Int) (i : Int) L O) b ∧ (b = false → (∀ x ∈ r, x.f0.size ≤ 100 ∧ x.f1.length ≤ m ∧ ∀ n ∈ x.f1, n.f2.length ≤ w) ∧ ∀ c ∈ O, c.length ≤ m ∧ ∀ n ∈ c, n.f2.length ≤ w) := by
    intro r
    induction r with
    | nil =>
      intro i hd
      have : L.length ≤ i := by simpa using hd
      obtain ⟨b, e, q⟩ := goO O 0 rfl
      refine ⟨b, Ev.step (f := fun k => zao.l1 k (m : Int) (w : Int) 0 L O) (fun k => ?_) e, fun hb => ⟨(fun x hx => by cases hx), q hb⟩⟩
      simp only [zao.l0]
      rw [if_neg (by omega)]
    | cons x r ih =>
      intro i hd
      obtain ⟨hlt, h1, hr⟩ := zbw hd
      have st : ∀ k, zao.l0 (k + 1) (m : Int) (w : Int) (i : Int) L O = if 100 < x.f0.size then some true else (zaw.f k x.f1 (m : Int) (w : Int)).bind fun t => if t = true then some true else zao.l0 k (m : Int) (w : Int) ((i + 1 : Nat) : Int) L O := by
        intro k
        simp only [zao.l0]
        rw [if_pos (by omega), if_pos (by omega), zbh (by omega) (by omega), rdRL hlt, h1]
        by_cases c : 100 < x.f0.size
        · rw [if_pos (by omega), if_pos c]
        · rw [if_neg (by omega), if_neg c]; rfl
      by_cases c : 100 < x.f0.size
      · exact ⟨true, Ev.step st (Ev.congr (fun k => if_pos c) (Ev.now _)), fun h => by cases h⟩
      obtain ⟨b1, e1, q1⟩ := zhw x.f1 m w hm
      obtain ⟨b2, e2, q2⟩ := ih (i + 1) hr
      cases b1 with
      | true => exact ⟨true, Ev.step st (Ev.congr (fun k => if_neg c) (Ev.bind e1 (Ev.congr (fun k => if_pos rfl) (Ev.now _)))), fun h => by cases h⟩
      | false =>
        refine ⟨b2, Ev.step st (Ev.congr (fun k => if_neg c) (Ev.bind e1 (Ev.congr (fun k => if_neg (by decide)) e2))), fun hb => ⟨fun y hy => ?_, (q2 hb).2⟩⟩
        rcases List.mem_cons.1 hy with rfl | hy
        · exact ⟨by omega, q1 rfl⟩
        · exact (q2 hb).1 y hy
  obtain ⟨b, e, q⟩ := goL L 0 rfl
  refine ⟨b, Ev.congr (fun k => by rw [if_neg (by omega), decide_eq_false (show ¬ (O.length : Int) > (a : Int) by omega)]) (Ev.step (f := fun k => zao.l0 k (m : Int) (w : Int) 0 L O) (fun k => ?_) e), fun hb => ⟨by omega, by omega, q hb⟩⟩
  simp only [zao.j0]
  rw [if_neg (by decide)]
theorem zhK (L : List RL) (O : List (List RN)) (hl : L.length ≤ 1000) (ho : O.length ≤ 1000) (h1 : ∀ x ∈ L, x.f1.length ≤ 1000000) (h2 : ∀ c ∈ O, c.length ≤ 1000000) : Ev (fun k => zaq.f k L O) (L.map zbM, O.map (List.map toN)) := by
  have goO : ∀ (r : List (List RN)) (i : Nat) (acc : List (List SN)), O.drop i = r → i ≤ O.length → acc = (O.take i).map (List.map toN) → Ev (fun k => zaq.l1 k (i : Int) L O (L.map zbM) acc) (L.map zbM, O.map (List.map toN)) := by
    intro r
    induction r with
    | nil =>
      intro i acc hd hi ha
      have : O.length ≤ i := by simpa using hd
      refine Ev.step (f := fun _ => some (L.map zbM, acc)) (fun k => ?_) ?_
      · simp only [zaq.l1]
        rw [if_neg (by omega)]
      · rw [ha, List.take_of_length_le this]; exact Ev.now _
    | cons a r ih =>
      intro i acc hd hi ha
      obtain ⟨hlt, e1, hr⟩ := zbw hd
      have hal : acc.length = i := by rw [ha]; simp; omega
      refine Ev.step (f := fun k => (zaE.f k a).bind fun t => if acc.length < 5864062014805 then zaq.l1 k ((i + 1 : Nat) : Int) L O (L.map zbM) (acc ++ [t]) else none) (fun k => ?_) (Ev.bind (zh9 a (h2 a (by rw [← e1]; exact List.getElem_mem _))) (Ev.congr (fun k => if_pos (by omega)) (ih (i + 1) _ hr (by omega) (by rw [ha, ← e1, List.take_succ_eq_append_getElem hlt, List.map_append]; rfl))))
      simp only [zaq.l1]
      rw [if_pos (by omega), if_pos (by omega), zbh (by omega) (by omega)]
      show (zaE.f k (O.getD (i : Int).toNat [])).bind _ = _
      rw [Int.toNat_natCast, rdRC hlt, e1]
      rfl
  have goL : ∀ (r : List RL) (i : Nat) (acc : List SL), L.drop i = r → i ≤ L.length → acc = (L.take i).map zbM → Ev (fun k => zaq.l0 k (i : Int) L O acc) (L.map zbM, O.map (List.map toN)) := by
    intro r
    induction r with
    | nil =>
      intro i acc hd hi ha
      have : L.length ≤ i := by simpa using hd
      rw [List.take_of_length_le this] at ha
      subst ha
      refine Ev.step (f := fun k => zaq.l1 k 0 L O (L.map zbM) []) (fun k => ?_) (goO O 0 [] rfl (by omega) rfl)
      simp only [zaq.l0]
      rw [if_neg (by omega)]
    | cons a r ih =>
      intro i acc hd hi ha
      obtain ⟨hlt, e1, hr⟩ := zbw hd
      have hal : acc.length = i := by rw [ha]; simp; omega
      refine Ev.step (f := fun k => (zaE.f k a.f1).bind fun t => if acc.length < 3518437208883 then zaq.l0 k ((i + 1 : Nat) : Int) L O (acc ++ [⟨a.f0, t⟩]) else none) (fun k => ?_) (Ev.bind (zh9 a.f1 (h1 a (by rw [← e1]; exact List.getElem_mem _))) (Ev.congr (fun k => if_pos (by omega)) (ih (i + 1) _ hr (by omega) (by rw [ha, ← e1, List.take_succ_eq_append_getElem hlt, List.map_append]; rfl))))
      simp only [zaq.l0]
      rw [if_pos (by omega), if_pos (by omega), zbh (by omega) (by omega), rdRL hlt, e1]
      rfl
  exact goL L 0 [] rfl (by omega) rfl
def Wd32 (L : List RL) (O : List (List RN)) : Prop := (∀ x ∈ L, ∀ n ∈ x.f1, Wl n.f2) ∧ ∀ c ∈ O, ∀ n ∈ c, Wl n.f2
theorem zk6 {L : List RL} {O : List (List RN)} {a m w : Nat} (ha : a ≤ 100) (hw : w ≤ 1000) (hW : Wd32 L O) (h : L.length ≤ a ∧ O.length ≤ a ∧ (∀ x ∈ L, x.f0.size ≤ 100 ∧ x.f1.length ≤ m ∧ ∀ n ∈ x.f1, n.f2.length ≤ w) ∧ ∀ c ∈ O, c.length ≤ m ∧ ∀ n ∈ c, n.f2.length ≤ w) : Fit (L.map zbM) (O.map (List.map toN)) m := by
  obtain ⟨h1, h2, h3, h4⟩ := h
  refine ⟨by rw [List.length_map]; omega, by rw [List.length_map]; omega, ?_, ?_, ?_⟩
  · intro x hx
    obtain ⟨y, hy, rfl⟩ := List.mem_map.1 hx
    have := (h3 y hy).1
    show y.f0.size ≤ 4000
    omega
  · intro x hx
    obtain ⟨y, hy, rfl⟩ := List.mem_map.1 hx
    refine ⟨by show (y.f1.map toN).length ≤ m; rw [List.length_map]; exact (h3 y hy).2.1, fun n hn => ?_⟩
    obtain ⟨q, hq, rfl⟩ := List.mem_map.1 hn
    exact ⟨hW.1 y hy q hq, Nat.le_trans ((h3 y hy).2.2 q hq) hw⟩
  · intro c hc
    obtain ⟨y, hy, rfl⟩ := List.mem_map.1 hc
    refine ⟨by rw [List.length_map]; exact (h4 y hy).1, fun n hn => ?_⟩
    obtain ⟨q, hq, rfl⟩ := List.mem_map.1 hn
    exact ⟨hW.2 y hy q hq, Nat.le_trans ((h4 y hy).2 q hq) hw⟩
end Go.Proofs.YtbicjgaadknmfaaDoor.M
end
section
namespace Go.Proofs.YtbicjgaadknmfaaDoor.Pure
open Go.RowKit Go.Proofs.YtbicjgaadknmfaaDoor.P Go.Proofs.YtbicjgaadknmfaaDoor.M Go.Proofs.YtbicjgaadknmfaaDoorW.PrintWords
set_option linter.unusedVariables false
set_option linter.unusedSimpArgs false
theorem zi9 (q : Q4) : q = z4 ↔ q.1 = 0 ∧ q.2.1 = 0 ∧ q.2.2.1 = 0 ∧ q.2.2.2 = 0 := by
  obtain ⟨a, b, c, d⟩ := q
  unfold z4
  simp
theorem Ev.all {α β : Type} {g : α → Nat → Option β} {r : α → β} : ∀ {l : List α}, (∀ a ∈ l, Ev (g a) (r a)) → ∃ K, ∀ k, K ≤ k → ∀ a ∈ l, g a k = some (r a)
  | [], _ => ⟨0, fun k _ a h => by cases h⟩
  | b :: l, h => by
    obtain ⟨K, hK⟩ := h b List.mem_cons_self
    obtain ⟨K', hK'⟩ := Ev.all (fun a ha => h a (List.mem_cons_of_mem _ ha))
    refine ⟨max K K', fun k hk a ha => ?_⟩
    rcases List.mem_cons.1 ha with rfl | ha
    · exact hK k (by omega)
    · exact hK' k (by omega) a ha
theorem More (L : List RL) (O : List (List RN)) (a1 a2 : Int) (hW : Wd32 L O) : ∃ k b, zao.f k L O 6 60 9 = some b ∧ (b = false → ¬ a2 < 0 → ¬ 6 < a2 → P.More k L O a1 a2) := by
  obtain ⟨b, e, q⟩ := zhi L O 6 60 9 (by omega) (by omega)
  cases b with
  | true =>
    obtain ⟨k, hk⟩ := Ev.rounds e
    exact ⟨k, true, hk, fun h => by cases h⟩
  | false =>
    have h := q rfl
    have hF := zk6 (by omega) (by omega) hW h
    have hL := h.1
    have hO := h.2.1
    have et := zhK L O (by omega) (by omega) (fun x hx => by have := (h.2.2.1 x hx).2.1; omega) (fun c hc => by have := (h.2.2.2 c hc).1; omega)
    generalize hL' : L.map zbM = L' at *
    generalize hO' : O.map (List.map toN) = O' at *
    have lO : O'.length ≤ 6 := by rw [← hO', List.length_map]; exact hO
    have lL : L'.length ≤ 6 := by rw [← hL', List.length_map]; exact hL
    have ec := ze7 hF (by omega) (O'.length : Int) a1
    by_cases hz : zdh L' O' O'.length a1 = z4
    · have hf := (zeZ _ _ _ _).1 hz
      have hw := of_decide_eq_true hf.1
      have hcf := zfx hF
      have eC := zgt hF (by omega)
      have eS := zgV hF (by omega)
      have hFw : Fit L' (O' ++ [[⟨3, (O'.length : Int), []⟩]]) 60 := ⟨hF.lets, by simp; omega, hF.name, hF.code, fun c hc => by
        rcases List.mem_append.1 hc with hc | hc
        · exact hF.out c hc
        · rw [List.mem_singleton.1 hc]
          refine ⟨by simp, fun n hn => ?_⟩
          rw [List.mem_singleton.1 hn]
          exact ⟨fun x hx => (by cases hx), Nat.zero_le _⟩⟩
      have ew := ze7 hFw (by omega) ((O'.length : Int) + 1) a1
      have em := ze7 hF (by omega) (O'.length : Int) (a1 + a2)
      obtain ⟨K1, h1⟩ := e
      obtain ⟨K2, h2⟩ := et
      obtain ⟨K3, h3⟩ := ec
      obtain ⟨K4, h4⟩ := eC
      obtain ⟨K5, h5⟩ := eS
      obtain ⟨K6, h6⟩ := ew
      obtain ⟨K7, h7⟩ := em
      obtain ⟨K8, h8⟩ := Ev.all (l := zb2 L' O') (g := fun c k => zbI.f k c) (r := fun c => decide (zch arN c < 0)) (fun c hc => zgp c (by have := (hcf.2 c hc).1; omega))
      obtain ⟨K9, h9⟩ := Ev.all (l := zb2 L' O') (g := fun c k => zaP.f k c) (r := fun c => zcN c) (fun c hc => zgw c (by have := (hcf.2 c hc).1; omega))
      let k := K1 + K2 + K3 + K4 + K5 + K6 + K7 + K8 + K9
      have hfm := ziT (L := L') (O := O') (d := (O'.length : Int)) (p := a1) hf
      refine ⟨k, false, h1 k (by omega), fun _ n0 n6 => ⟨L', O', 0, 0, 0, 0, h2 k (by omega), by omega, by have := h3 k (by omega); rw [hz] at this; exact this, .inr ⟨hw.2.2.1, hw.2.2.2.1, rfl, rfl, rfl, rfl, ⟨_, h4 k (by omega), by have := hcf.1; omega, fun i hi => ?_⟩, fun h => ?_, ?_⟩⟩⟩
      · have hm := List.getElem_mem hi
        have hfc := ziO hf _ hm
        exact ⟨by rw [h8 k (by omega) _ hm, decide_eq_true hfc.1], _, h9 k (by omega) _ hm, by omega⟩
      · have := h7 k (by omega)
        rw [(zeZ _ _ _ _).2 (ziy hf (by omega) h)] at this
        exact this
      · obtain ⟨r, hr⟩ : ∃ r, zdh L' (O' ++ [[⟨3, (O'.length : Int), []⟩]]) ((O'.length : Int) + 1) a1 = r := ⟨_, rfl⟩
        have h6' := h6 k (by omega)
        rw [← zeZ, hr, zi9] at hfm
        rw [hr] at h6'
        exact ⟨_, r.1, r.2.1, r.2.2.1, r.2.2.2, h5 k (by omega), h6', by rw [hfm]; omega⟩
    · obtain ⟨K1, h1⟩ := e
      obtain ⟨K2, h2⟩ := et
      obtain ⟨K3, h3⟩ := ec
      let k := K1 + K2 + K3
      obtain ⟨r, hr⟩ : ∃ r, zdh L' O' (O'.length : Int) a1 = r := ⟨_, rfl⟩
      have h3' := h3 k (by omega)
      rw [hr] at h3' hz
      exact ⟨k, false, h1 k (by omega), fun _ n0 n6 => ⟨L', O', r.1, r.2.1, r.2.2.1, r.2.2.2, h2 k (by omega), by omega, h3', .inl fun hh => hz ((zi9 _).2 hh)⟩⟩
end Go.Proofs.YtbicjgaadknmfaaDoor.Pure
end
section
namespace Go.Proofs.YtbicjgaadknmfaaDoor.O
open Go.RowKit Go.Proofs.YtbicjgaadknmfaaDoorW.PrintWords
set_option linter.unusedVariables false
set_option linter.unusedSimpArgs false
def Opn (P : Program) (t : TypeId) {α : Type} (d : Kd α) (ok : α → Prop) : Prop :=
  ∀ (H : Type) (enc : TypeId × Value → H) (w : World) (sp : Nat → Bool) (fuel : Nat) (cs : List Value) (x : DataW H × List MemPlace),
    DataW.trod enc P w 0 sp true fuel t cs = some x → ∃ a, d.K w a cs ∧ ok a
variable {P : Program}
theorem zgH {t : TypeId} {k : IntKind} (ht : P.underlying t = some (.int k)) : Opn P t (Kd.int k) (fun n => (Lit.int k n).wf = true) := by
  intro H enc w sp fuel cs x h
  obtain ⟨n, rfl, _, hw⟩ := DataW.trod_int ht h
  exact ⟨n, rfl, hw⟩
theorem zlY {t : TypeId} (ht : P.underlying t = some .bool) : Opn P t Kd.bool (fun _ => True) := by
  intro H enc w sp fuel cs x h
  obtain ⟨n, rfl, _⟩ := DataW.trod_bool ht h
  exact ⟨n, rfl, trivial⟩
theorem ziA {t : TypeId} (ht : P.underlying t = some .string) : Opn P t Kd.string (fun s => s.size ≤ maxLen) := by
  intro H enc w sp fuel cs x h
  obtain ⟨n, rfl, _, hs⟩ := DataW.trod_string ht h
  exact ⟨n, rfl, hs⟩
theorem zif {α β : Type} {t : TypeId} {d : Kd α} {ok : α → Prop} (h : Opn P t d ok) (f : β → α) (g : α → β) (e : ∀ a, f (g a) = a) : Opn P t (Kd.iso d f) (fun b => ok (f b)) := by
  intro H enc w sp fuel cs x hx
  obtain ⟨a, hk, ha⟩ := h H enc w sp fuel cs x hx
  exact ⟨g a, by show d.K w (f (g a)) cs; rw [e]; exact hk, by show ok (f (g a)); rw [e]; exact ha⟩
theorem zik {α : Type} {t : TypeId} {d : Kd α} {ok ok' : α → Prop} (h : Opn P t d ok) (i : ∀ a, ok a → ok' a) : Opn P t d ok' := by
  intro H enc w sp fuel cs x hx
  obtain ⟨a, hk, ha⟩ := h H enc w sp fuel cs x hx
  exact ⟨a, hk, i a ha⟩
theorem zfX {α β : Type} {t : TypeId} {f0 f1 : Field} {a : Kd α} {b : Kd β} {oa : α → Prop} {ob : β → Prop} (ht : P.underlying t = some (.struct #[f0, f1]))
    (c : P.cellsOf t = a.sz + b.sz) (o0 : f0.offset = 0) (o1 : f1.offset = a.sz) (c0 : P.cellsOf f0.type = a.sz) (c1 : P.cellsOf f1.type = b.sz) (A : Opn P f0.type a oa) (B : Opn P f1.type b ob) :
    Opn P t (Kd.pair a b) (fun x => oa x.1 ∧ ob x.2) := by
  intro H enc w sp fuel cs x h
  obtain ⟨y0, y1, n, _, hl, h0, h1⟩ := Go.ChangeShapes.trod_struct2 ht h
  rw [o0, c0, List.drop_zero] at h0
  rw [o1, c1] at h1
  obtain ⟨u, hu, ou⟩ := A H enc w sp n _ _ h0
  obtain ⟨v, hv, ov⟩ := B H enc w sp n _ _ h1
  refine ⟨(u, v), ⟨_, _, ?_, hu, hv⟩, ou, ov⟩
  rw [List.take_of_length_le (l := cs.drop a.sz) (by rw [List.length_drop, hl, c]; omega), List.take_append_drop]
theorem zhU {α β γ : Type} {t : TypeId} {f0 f1 f2 : Field} {a : Kd α} {b : Kd β} {g : Kd γ} {oa : α → Prop} {ob : β → Prop} {og : γ → Prop} (ht : P.underlying t = some (.struct #[f0, f1, f2]))
    (c : P.cellsOf t = a.sz + (b.sz + g.sz)) (o0 : f0.offset = 0) (o1 : f1.offset = a.sz) (o2 : f2.offset = a.sz + b.sz) (c0 : P.cellsOf f0.type = a.sz) (c1 : P.cellsOf f1.type = b.sz) (c2 : P.cellsOf f2.type = g.sz)
    (A : Opn P f0.type a oa) (B : Opn P f1.type b ob) (G : Opn P f2.type g og) :
    Opn P t (Kd.pair a (Kd.pair b g)) (fun x => oa x.1 ∧ ob x.2.1 ∧ og x.2.2) := by
  intro H enc w sp fuel cs x h
  obtain ⟨y0, y1, y2, n, _, hl, h0, h1, h2⟩ := Go.Deep.trod_struct3 ht h
  rw [o0, c0, List.drop_zero] at h0
  rw [o1, c1] at h1
  rw [o2, c2] at h2
  obtain ⟨u, hu, ou⟩ := A H enc w sp n _ _ h0
  obtain ⟨v, hv, ov⟩ := B H enc w sp n _ _ h1
  obtain ⟨z, hz, oz⟩ := G H enc w sp n _ _ h2
  refine ⟨(u, v, z), ⟨_, _, ?_, hu, ⟨_, _, rfl, hv, hz⟩⟩, ou, ov, oz⟩
  rw [List.take_of_length_le (l := cs.drop (a.sz + b.sz)) (by rw [List.length_drop, hl, c]; omega), ← List.drop_drop, List.take_append_drop, List.take_append_drop]
theorem zev {α : Type} {t e : TypeId} {d : Kd α} {ok : α → Prop} (ht : P.underlying t = some (.slice e)) (hc : P.cellsOf e = d.sz) (E : Opn P e d ok) :
    Opn P t (Kd.slice e d) (fun xs => ∀ x, x ∈ xs → ok x) := by
  intro H enc w sp fuel cs x h
  rcases Go.Deep.open_slice ht h with ⟨rfl, _⟩ | ⟨a, len, cap, m, n, D, Pl, rfl, _, hl, hm, hmm, _, hel⟩
  · exact ⟨[], ⟨none, 0, rfl, Nat.le_refl _, Kd.zgj d w⟩, fun x hx => by cases hx⟩
  · have hlm : len ≤ m := by rw [hmm]; split <;> omega
    have key : ∀ i, i < len → ∃ y : α, (∃ c : List Value, c.length = d.sz ∧ d.K w y c ∧ ∀ j u, c[j]? = some u → w.cell? (a.add (i * d.sz + j)) = some u) ∧ ok y := by
      intro i hi
      obtain ⟨cs', h1, h2⟩ := hel i (by omega)
      obtain ⟨y, hy, oy⟩ := E H enc w sp n cs' _ h2
      obtain ⟨_, hlen, hcell⟩ := World.cells?_some h1
      rw [hc] at hlen
      refine ⟨y, ⟨cs', hlen, hy, fun j u hu => ?_⟩, oy⟩
      have hj : j < d.sz := by
        rw [← hlen]
        exact (List.getElem?_eq_some_iff.1 hu).1
      have := hcell j (by rw [hc]; exact hj)
      rw [hc, Go.Deep.add_add] at this
      rw [this, hu]
    have all : ∀ k, k ≤ len → ∃ xs : List α, xs.length = k ∧ ∀ j p, xs[j]? = some p → (∃ c : List Value, c.length = d.sz ∧ d.K w p c ∧ ∀ i u, c[i]? = some u → w.cell? (a.add (j * d.sz + i)) = some u) ∧ ok p := by
      intro k
      induction k with
      | zero => exact fun _ => ⟨[], rfl, fun j p hj => by simp at hj⟩
      | succ k ih =>
        intro hk
        obtain ⟨xs, hx, hxs⟩ := ih (by omega)
        obtain ⟨y, hy⟩ := key k (by omega)
        refine ⟨xs ++ [y], by simp [hx], fun j p hj => ?_⟩
        rcases Nat.lt_or_ge j xs.length with h | h
        · rw [List.getElem?_append_left h] at hj
          exact hxs j p hj
        · rw [List.getElem?_append_right h] at hj
          have : j = k := by
            have := (List.getElem?_eq_some_iff.1 hj).1
            simp at this
            omega
          subst this
          rw [show j - xs.length = 0 by omega] at hj
          cases hj
          exact hy
    obtain ⟨xs, hx, hxs⟩ := all len (Nat.le_refl _)
    refine ⟨xs, ⟨some a, cap, by rw [hx], by omega, ⟨rfl, by unfold maxLen at hm; omega, fun _ => ⟨a, rfl, fun j p hj => (hxs j p hj).1⟩⟩⟩, fun x hx' => ?_⟩
    obtain ⟨j, hj⟩ := List.getElem?_of_mem hx'
    exact (hxs j x hj).2
theorem zl7 {α : Type} {H : Type} {enc : TypeId × Value → H} {w : World} {sp : Nat → Bool} {t e : TypeId} {d : Kd α} {ok : List α → Prop} {A : Option Addr} {len cap : Nat} {x : DataW H} {ps : List MemPlace}
    (E : Opn P t (Kd.slice e d) ok) (h : DataW.Trod enc P w 0 sp true t (.slice A len cap) x ps) : ∃ xs : List α, len = xs.length ∧ xs.length ≤ cap ∧ Kd.C d w A xs.length xs ∧ ok xs := by
  obtain ⟨fuel, hf⟩ := h
  obtain ⟨xs, ⟨A', c, e', hc, hC⟩, hok⟩ := E H enc w sp fuel _ _ hf
  simp [Value.cells] at e'
  obtain ⟨rfl, rfl, rfl⟩ := e'
  exact ⟨xs, rfl, hc, hC, hok⟩
end Go.Proofs.YtbicjgaadknmfaaDoor.O
end
