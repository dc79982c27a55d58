/- CheckFields: for every field and every two numbers: whether it may be, or what is wrong with it first, and where, is in the program zas the document's reference has it. No conditions. -/
import Derived.Test.YtbicjgaadknmfaaDoorRows
import Derived.Test.YtbicjgaadknmfaaDoorTie
import Derived.Test.YtbicjgaadknmfaaDoorCards
import Derived.Lay
import Derived.LaidOnce
import Derived.SevenTiedAt
import Derived.Test.YtbicjgaadknmfaaDoorQ10
import Derived.Test.YtbicjgaadknmfaaDoorQ11
import Derived.WalkKit
import Derived.ProofKit
import Derived.OpenShut
import Derived.ShutString
import Derived.ChangeOld
import Derived.Below
import Derived.SizedLaws
namespace Go.Proofs.YtbicjgaadknmfaaDoor.checkFields
open Go.ChangeShapes Go.WideShapes Go.ChangeAt Go.RowKit
open Go.ChangeMaps (open_string shut_string)
set_option linter.unusedVariables false
theorem own : ownKnob Tryd.prog.godebug = none := by kernel_rfl
theorem laidOut : laidOutB Tryd.prog = true := by kernel_rfl
theorem wl_of {l : List Int} (h : ∀ x, x ∈ l → (Lit.int .u32 x).wf = true) : M.Wl l := by
  intro x hx
  have := h x hx
  simp [Lit.wf, IntKind.min, IntKind.max, IntKind.bits, IntKind.signed] at this
  omega
theorem opn_node : O.Opn Tryd.prog 62 P.k62 (fun x => M.Wl x.f2) :=
  O.zhx (O.zho (O.zhf Tryd.underlying62 (by kernel_rfl) rfl rfl rfl (by kernel_rfl) (by kernel_rfl) (by kernel_rfl) (O.zgb Tryd.underlying3) (O.zgb Tryd.underlying3) (O.zek Tryd.underlying23 (by kernel_rfl) (O.zgb Tryd.underlying101))) (fun x : P.S62 => (x.f0, x.f1, x.f2)) (fun y => ⟨y.1, y.2.1, y.2.2⟩) (fun _ => rfl)) (fun _ h => wl_of h.2.2)
theorem opn_nodes : O.Opn Tryd.prog 54 (YtbicjgaadknmfaaDoorW.PrintWords.Kd.slice 62 P.k62) (fun xs => ∀ x, x ∈ xs → M.Wl x.f2) :=
  O.zek Tryd.underlying54 (by kernel_rfl) opn_node
theorem opn_let : O.Opn Tryd.prog 121 P.k121 (fun x => ∀ n, n ∈ x.f1 → M.Wl n.f2) :=
  O.zhx (O.zho (O.zfs Tryd.underlying121 (by kernel_rfl) rfl rfl (by kernel_rfl) (by kernel_rfl) (O.zhR Tryd.underlying9) opn_nodes) (fun x : P.S121 => (x.f0, x.f1)) (fun y => ⟨y.1, y.2⟩) (fun _ => rfl)) (fun _ h => h.2)
theorem opn_field : O.Opn Tryd.prog 41 (YtbicjgaadknmfaaDoorW.PrintWords.Kd.pair (YtbicjgaadknmfaaDoorW.PrintWords.Kd.slice 121 P.k121) (YtbicjgaadknmfaaDoorW.PrintWords.Kd.slice 54 (YtbicjgaadknmfaaDoorW.PrintWords.Kd.slice 62 P.k62))) (fun x => (∀ y, y ∈ x.1 → ∀ n, n ∈ y.f1 → M.Wl n.f2) ∧ ∀ c, c ∈ x.2 → ∀ n, n ∈ c → M.Wl n.f2) :=
  O.zfs Tryd.underlying41 (by kernel_rfl) rfl rfl (by kernel_rfl) (by kernel_rfl) (O.zek Tryd.underlying38 (by kernel_rfl) opn_let) (O.zek Tryd.underlying39 (by kernel_rfl) opn_nodes)
set_option maxRecDepth 100000 in
theorem lifted (os : Os) (started : os.Started) (H : Type) (enc : TypeId × Value → H) :
    ReturnsInHanded {} Tryd.checked os 6 .any (fun w args => (Rows.checkFieldsSpec.pre enc Tryd.prog Tryd.f6 [] false w args ∧ laidMetH Tryd.prog Rows.checkFieldsRow.laid w) ∧ sizedMet enc Tryd.prog Tryd.f6 (OpenSpec.ofChange Rows.checkFieldsSpec) false w args) (Rows.checkFieldsSpec.post enc Tryd.prog Tryd.f6 false true false false) := by
  refine returnsInHanded_of_change_and (C := Tryd.checked) (X := fun w _ => laidMetH Tryd.prog Rows.checkFieldsRow.laid w) (fun _ _ _ hh h => h.of_heap hh) own started (by kernel_rfl) Tryd.func6
    (ChangeSpec.witness_shaped (enc := enc) (C := Tryd.checked) (os := os) (X := fun w _ => laidMetH Tryd.prog Rows.checkFieldsRow.laid w) false (World.laidAll Tryd.prog os Rows.checkFieldsRow.laid) #[.agg #[.slice none 0 0, .slice none 0 0], .int .i64 0, .int .i64 0] 8 (World.laidAll_os _ _ _)
      (World.shaped_of_ZipB (by kernel_rfl) (by kernel_rfl)) (by kernel_rfl) (by kernel_rfl) (by kernel_rfl)
      (by rw [MakeChecks.laidMetH_plain _ _ _ (by kernel_rfl)]; exact laidMet_laidAll _ (by kernel_rfl) (by kernel_rfl))) ?_
  intro W base args ds gs before hval0 hW hcnd hsz0 hL0 _
  have hsz : (DataW.weightsEach Tryd.prog (Tryd.f6.params.toList ++ Rows.checkFieldsSpec.plain.varTypes Tryd.prog) (ds ++ gs)).all (· ≤ reachBytes) = true := hsz0
  have hval : ∀ (j : Nat) t v, Tryd.f6.params[j]? = some t → args[j]? = some v → Value.okWide Tryd.prog W .any base t v := hval0
  have hW' := hW
  obtain ⟨p, q, hA0, hV, rfl, hfz, hnd⟩ := hW
  have hA : DataW.TrodAll enc Tryd.prog W 0 (fun _ => true) true Tryd.f6.params.toList args.toList ds p := hA0
  rw [Tryd.params6] at hA hval hsz
  obtain ⟨v0, vs0, d0, ds0, p0, q0, hargs, rfl, rfl, h0, r0⟩ := trodAll_cons hA
  obtain ⟨v1, vs1, d1, ds1, p1, q1, rfl, rfl, rfl, h1, r1⟩ := trodAll_cons r0
  obtain ⟨v2, vs2, d2, ds2, p2, q2, rfl, rfl, rfl, h2, r2⟩ := trodAll_cons r1
  obtain ⟨rfl, rfl, rfl⟩ := trodAll_nil r2
  obtain rfl : args = #[v0, v1, v2] := by cases args; simp_all
  obtain ⟨rfl, rfl⟩ := trodVars_none hV
  obtain ⟨cs0, rfl, hcs0⟩ := okWide_struct Tryd.underlying41 (hval 0 41 v0 rfl rfl)
  have k0 := h0
  have lt0 : ∀ x ∈ p0, x.block < W.heap.size := by obtain ⟨m, hm⟩ := k0; exact DataW.trod_lt m _ _ _ hm
  obtain ⟨fuel, hf⟩ := h0
  obtain ⟨⟨L, O⟩, hK, hok⟩ := opn_field H enc W _ fuel _ _ hf
  obtain ⟨ca, cb, hcs, ⟨A0, c0, rfl, hc0, hr0⟩, ⟨A1, c1, rfl, hc1, hr1⟩⟩ := hK
  obtain rfl : cs0 = #[.slice A0 L.length c0, .slice A1 O.length c1] := by
    apply Array.ext'
    exact hcs
  obtain ⟨a1, rfl, rfl, rfl, w1⟩ := open_int Tryd.underlying3 (hval 1 3 v1 rfl rfl) h1
  obtain ⟨a2, rfl, rfl, rfl, w2⟩ := open_int Tryd.underlying3 (hval 2 3 v2 rfl rfl) h2
  clear hA0 hval0 hsz0 hsz
  obtain ⟨k, hk⟩ := Pure.CheckFields L O a1 a2 hok
  refine (P.zaW.calls k A0 c0 L A1 c1 O a1 a2 true W hr0 hc0 hr1 hc1 hk).mono fun e W' ⟨he, bel⟩ => ?_
  subst he
  exact ⟨_, rfl, _, _, _, [], _, [], hW', trodAll_mk1 (shut_bool Tryd.underlying4 _), (trodAll_cons_mk (Below.trod laidOut (by kernel_rfl) (of_decide_eq_true (by kernel_rfl)) k0 bel lt0) (trodAll_cons_mk (shut_int Tryd.underlying3 w1) (trodAll_cons_mk (shut_int Tryd.underlying3 w2) trodAll_mk0))), rfl, bel.frame _, fun h => by cases h⟩
theorem over : Rows.checkFieldsRow.holds Tryd.pinned (OpenSpec.ofChange Rows.checkFieldsSpec) :=
  OpenClaim.holds_of_wide 6 Tryd.f6 rfl rfl rfl rfl rfl rfl rfl ⟨rfl, rfl, rfl, rfl, rfl⟩ rfl rfl rfl rfl rfl (by kernel_rfl) Tryd.func6 (by kernel_rfl)
    (of_decide_eq_true (by kernel_rfl)) (by unfold Func.isWrapper; first | (rw [if_pos (by decide +kernel)]; kernel_rfl) | (rw [if_neg (by decide +kernel)]; exact ⟨rfl, rfl⟩))
    (fun os started H enc _ => lifted os started H enc)
theorem card_holds : Rows.CheckFieldsCardSaid :=
  Claim7.holds_tied_plain_at .later [] [.data, .pinned] true (true, "464c94540701cc9a6cf40e814053917c415809ef48742631284d68caaa259d8e") true over (fun _ h => by cases h) (by kernel_rfl) (fun _ h => by cases h) checkFields_row_tie rfl ⟨rfl, rfl⟩ (by kernel_rfl) rfl
    (fun f fn hf hfn => by
      obtain rfl : f = 6 := Option.some.inj ((show Tryd.prog.funcNamed "retrospect/retrospectlaw19.CheckFields" = some 6 by kernel_rfl).symm.trans hf) |>.symm
      obtain rfl : fn = Tryd.f6 := (Option.some.inj (Tryd.func6.symm.trans hfn)).symm
      exact ⟨by kernel_rfl, fun j t ht => by
        rw [Tryd.params6] at ht
        have hm : t ∈ [41, 3, 3] := by simpa using Array.mem_of_getElem? ht
        have hall : ([41, 3, 3].all fun u => !Tryd.prog.wantsStandIn u) = true := by kernel_rfl
        exact (show Tryd.prog.wantsStandIn t = false by simpa using List.all_eq_true.1 hall t hm)⟩)
    (by kernel_rfl)
#print axioms card_holds
end Go.Proofs.YtbicjgaadknmfaaDoor.checkFields
namespace Go.Proofs.YtbicjgaadknmfaaDoor
theorem checkFields_holds : Rows.CheckFieldsCardSaid := checkFields.card_holds
end Go.Proofs.YtbicjgaadknmfaaDoor
