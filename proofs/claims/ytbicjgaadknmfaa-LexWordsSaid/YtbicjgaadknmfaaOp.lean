/- What a call's arguments hold, out of what they read as: lists of whole numbers, strings, structs, slices. -/
import Derived.Test.YtbicjgaadknmfaaWWords
import Derived.ProofKit
import Derived.Deep.Slices
import Derived.Deep.Strs
namespace Go.Proofs.Ytbicjgaadknmfaa.O
open Go.RowKit Go.Proofs.YtbicjgaadknmfaaW.PrintWords
set_option linter.unusedVariables false
set_option linter.unusedSimpArgs false

/-- cells of type t that can be read hold a value of the kind d. -/
def Opn (P : Program) (t : TypeId) {α : Type} (d : Kd α) (ok : α → Prop) : Prop :=
  ∀ (H : Type) (enc : TypeId × Value → H) (w : World) (sp : Nat → Bool) (fuel : Nat) (cs : List Value) (x : DataW H × List MemPlace),
    DataW.trod enc P w 0 sp true fuel t cs = some x → ∃ a, d.K w a cs ∧ ok a

variable {P : Program}
theorem opn_int {t : TypeId} {k : IntKind} (ht : P.underlying t = some (.int k)) : Opn P t (Kd.int k) (fun n => (Lit.int k n).wf = true) := by
  intro H enc w sp fuel cs x h
  obtain ⟨n, rfl, _, hw⟩ := DataW.trod_int ht h
  exact ⟨n, rfl, hw⟩
theorem opn_bool {t : TypeId} (ht : P.underlying t = some .bool) : Opn P t Kd.bool (fun _ => True) := by
  intro H enc w sp fuel cs x h
  obtain ⟨n, rfl, _⟩ := DataW.trod_bool ht h
  exact ⟨n, rfl, trivial⟩
theorem opn_string {t : TypeId} (ht : P.underlying t = some .string) : Opn P t Kd.string (fun s => s.size ≤ maxLen) := by
  intro H enc w sp fuel cs x h
  obtain ⟨n, rfl, _, hs⟩ := DataW.trod_string ht h
  exact ⟨n, rfl, hs⟩
theorem opn_iso {α β : Type} {t : TypeId} {d : Kd α} {ok : α → Prop} (h : Opn P t d ok) (f : β → α) (g : α → β) (e : ∀ a, f (g a) = a) : Opn P t (Kd.iso d f) (fun b => ok (f b)) := by
  intro H enc w sp fuel cs x hx
  obtain ⟨a, hk, ha⟩ := h H enc w sp fuel cs x hx
  exact ⟨g a, by show d.K w (f (g a)) cs; rw [e]; exact hk, by show ok (f (g a)); rw [e]; exact ha⟩
theorem opn_imp {α : Type} {t : TypeId} {d : Kd α} {ok ok' : α → Prop} (h : Opn P t d ok) (i : ∀ a, ok a → ok' a) : Opn P t d ok' := by
  intro H enc w sp fuel cs x hx
  obtain ⟨a, hk, ha⟩ := h H enc w sp fuel cs x hx
  exact ⟨a, hk, i a ha⟩
theorem opn_struct2 {α β : Type} {t : TypeId} {f0 f1 : Field} {a : Kd α} {b : Kd β} {oa : α → Prop} {ob : β → Prop} (ht : P.underlying t = some (.struct #[f0, f1]))
    (c : P.cellsOf t = a.sz + b.sz) (o0 : f0.offset = 0) (o1 : f1.offset = a.sz) (c0 : P.cellsOf f0.type = a.sz) (c1 : P.cellsOf f1.type = b.sz) (A : Opn P f0.type a oa) (B : Opn P f1.type b ob) :
    Opn P t (Kd.pair a b) (fun x => oa x.1 ∧ ob x.2) := by
  intro H enc w sp fuel cs x h
  obtain ⟨y0, y1, n, _, hl, h0, h1⟩ := Go.ChangeShapes.trod_struct2 ht h
  rw [o0, c0, List.drop_zero] at h0
  rw [o1, c1] at h1
  obtain ⟨u, hu, ou⟩ := A H enc w sp n _ _ h0
  obtain ⟨v, hv, ov⟩ := B H enc w sp n _ _ h1
  refine ⟨(u, v), ⟨_, _, ?_, hu, hv⟩, ou, ov⟩
  rw [List.take_of_length_le (l := cs.drop a.sz) (by rw [List.length_drop, hl, c]; omega), List.take_append_drop]
theorem opn_struct3 {α β γ : Type} {t : TypeId} {f0 f1 f2 : Field} {a : Kd α} {b : Kd β} {g : Kd γ} {oa : α → Prop} {ob : β → Prop} {og : γ → Prop} (ht : P.underlying t = some (.struct #[f0, f1, f2]))
    (c : P.cellsOf t = a.sz + (b.sz + g.sz)) (o0 : f0.offset = 0) (o1 : f1.offset = a.sz) (o2 : f2.offset = a.sz + b.sz) (c0 : P.cellsOf f0.type = a.sz) (c1 : P.cellsOf f1.type = b.sz) (c2 : P.cellsOf f2.type = g.sz)
    (A : Opn P f0.type a oa) (B : Opn P f1.type b ob) (G : Opn P f2.type g og) :
    Opn P t (Kd.pair a (Kd.pair b g)) (fun x => oa x.1 ∧ ob x.2.1 ∧ og x.2.2) := by
  intro H enc w sp fuel cs x h
  obtain ⟨y0, y1, y2, n, _, hl, h0, h1, h2⟩ := Go.Deep.trod_struct3 ht h
  rw [o0, c0, List.drop_zero] at h0
  rw [o1, c1] at h1
  rw [o2, c2] at h2
  obtain ⟨u, hu, ou⟩ := A H enc w sp n _ _ h0
  obtain ⟨v, hv, ov⟩ := B H enc w sp n _ _ h1
  obtain ⟨z, hz, oz⟩ := G H enc w sp n _ _ h2
  refine ⟨(u, v, z), ⟨_, _, ?_, hu, ⟨_, _, rfl, hv, hz⟩⟩, ou, ov, oz⟩
  rw [List.take_of_length_le (l := cs.drop (a.sz + b.sz)) (by rw [List.length_drop, hl, c]; omega), ← List.drop_drop, List.take_append_drop, List.take_append_drop]
theorem opn_slice {α : Type} {t e : TypeId} {d : Kd α} {ok : α → Prop} (ht : P.underlying t = some (.slice e)) (hc : P.cellsOf e = d.sz) (E : Opn P e d ok) :
    Opn P t (Kd.slice e d) (fun xs => ∀ x, x ∈ xs → ok x) := by
  intro H enc w sp fuel cs x h
  rcases Go.Deep.open_slice ht h with ⟨rfl, _⟩ | ⟨a, len, cap, m, n, D, Pl, rfl, _, hl, hm, hmm, _, hel⟩
  · exact ⟨[], ⟨none, 0, rfl, Nat.le_refl _, Kd.C_nil d w⟩, fun x hx => by cases hx⟩
  · have hlm : len ≤ m := by rw [hmm]; split <;> omega
    have key : ∀ i, i < len → ∃ y : α, (∃ c : List Value, c.length = d.sz ∧ d.K w y c ∧ ∀ j u, c[j]? = some u → w.cell? (a.add (i * d.sz + j)) = some u) ∧ ok y := by
      intro i hi
      obtain ⟨cs', h1, h2⟩ := hel i (by omega)
      obtain ⟨y, hy, oy⟩ := E H enc w sp n cs' _ h2
      obtain ⟨_, hlen, hcell⟩ := World.cells?_some h1
      rw [hc] at hlen
      refine ⟨y, ⟨cs', hlen, hy, fun j u hu => ?_⟩, oy⟩
      have hj : j < d.sz := by
        rw [← hlen]
        exact (List.getElem?_eq_some_iff.1 hu).1
      have := hcell j (by rw [hc]; exact hj)
      rw [hc, Go.Deep.add_add] at this
      rw [this, hu]
    have all : ∀ k, k ≤ len → ∃ xs : List α, xs.length = k ∧ ∀ j p, xs[j]? = some p → (∃ c : List Value, c.length = d.sz ∧ d.K w p c ∧ ∀ i u, c[i]? = some u → w.cell? (a.add (j * d.sz + i)) = some u) ∧ ok p := by
      intro k
      induction k with
      | zero => exact fun _ => ⟨[], rfl, fun j p hj => by simp at hj⟩
      | succ k ih =>
        intro hk
        obtain ⟨xs, hx, hxs⟩ := ih (by omega)
        obtain ⟨y, hy⟩ := key k (by omega)
        refine ⟨xs ++ [y], by simp [hx], fun j p hj => ?_⟩
        rcases Nat.lt_or_ge j xs.length with h | h
        · rw [List.getElem?_append_left h] at hj
          exact hxs j p hj
        · rw [List.getElem?_append_right h] at hj
          have : j = k := by
            have := (List.getElem?_eq_some_iff.1 hj).1
            simp at this
            omega
          subst this
          rw [show j - xs.length = 0 by omega] at hj
          cases hj
          exact hy
    obtain ⟨xs, hx, hxs⟩ := all len (Nat.le_refl _)
    refine ⟨xs, ⟨some a, cap, by rw [hx], by omega, ⟨rfl, by unfold maxLen at hm; omega, fun _ => ⟨a, rfl, fun j p hj => (hxs j p hj).1⟩⟩⟩, fun x hx' => ?_⟩
    obtain ⟨j, hj⟩ := List.getElem?_of_mem hx'
    exact (hxs j x hj).2

/-- a slice that came in, opened. -/
theorem open_sl {α : Type} {H : Type} {enc : TypeId × Value → H} {w : World} {sp : Nat → Bool} {t e : TypeId} {d : Kd α} {ok : List α → Prop} {A : Option Addr} {len cap : Nat} {x : DataW H} {ps : List MemPlace}
    (E : Opn P t (Kd.slice e d) ok) (h : DataW.Trod enc P w 0 sp true t (.slice A len cap) x ps) : ∃ xs : List α, len = xs.length ∧ xs.length ≤ cap ∧ Kd.C d w A xs.length xs ∧ ok xs := by
  obtain ⟨fuel, hf⟩ := h
  obtain ⟨xs, ⟨A', c, e', hc, hC⟩, hok⟩ := E H enc w sp fuel _ _ hf
  simp [Value.cells] at e'
  obtain ⟨rfl, rfl, rfl⟩ := e'
  exact ⟨xs, rfl, hc, hC, hok⟩
end Go.Proofs.Ytbicjgaadknmfaa.O
