/- CheckMore: a field that may be with some parameters may be with more, and with one component more; its expressions are right, and no deeper than they may be. No conditions. -/
import Derived.Test.YtbicjgaadknmfaaDoorRows
import Derived.Test.YtbicjgaadknmfaaDoorTie
import Derived.Test.YtbicjgaadknmfaaDoorCards
import Derived.Lay
import Derived.LaidOnce
import Derived.SevenTiedAt
import Derived.Test.YtbicjgaadknmfaaDoorQ7
import Derived.Test.YtbicjgaadknmfaaDoorQ11
import Derived.WalkKit
import Derived.ProofKit
import Derived.OpenShut
import Derived.ShutString
import Derived.ChangeOld
import Derived.Below
import Derived.SizedLaws
namespace Go.Proofs.YtbicjgaadknmfaaDoor.checkMore
open Go.ChangeShapes Go.WideShapes Go.ChangeAt Go.RowKit
open Go.ChangeMaps (open_string shut_string)
set_option linter.unusedVariables false
theorem own : ownKnob Tryd.prog.godebug = none := by kernel_rfl
theorem laidOut : laidOutB Tryd.prog = true := by kernel_rfl
theorem wl_of {l : List Int} (h : ∀ x, x ∈ l → (Lit.int .u32 x).wf = true) : M.Wl l := by
  intro x hx
  have := h x hx
  simp [Lit.wf, IntKind.min, IntKind.max, IntKind.bits, IntKind.signed] at this
  omega
theorem opn_node : O.Opn Tryd.prog 62 P.k62 (fun x => M.Wl x.f2) :=
  O.zik (O.zif (O.zhU Tryd.underlying62 (by kernel_rfl) rfl rfl rfl (by kernel_rfl) (by kernel_rfl) (by kernel_rfl) (O.zgH Tryd.underlying3) (O.zgH Tryd.underlying3) (O.zev Tryd.underlying23 (by kernel_rfl) (O.zgH Tryd.underlying101))) (fun x : P.S62 => (x.f0, x.f1, x.f2)) (fun y => ⟨y.1, y.2.1, y.2.2⟩) (fun _ => rfl)) (fun _ h => wl_of h.2.2)
theorem opn_nodes : O.Opn Tryd.prog 54 (YtbicjgaadknmfaaDoorW.PrintWords.Kd.slice 62 P.k62) (fun xs => ∀ x, x ∈ xs → M.Wl x.f2) :=
  O.zev Tryd.underlying54 (by kernel_rfl) opn_node
theorem opn_let : O.Opn Tryd.prog 121 P.k121 (fun x => ∀ n, n ∈ x.f1 → M.Wl n.f2) :=
  O.zik (O.zif (O.zfX Tryd.underlying121 (by kernel_rfl) rfl rfl (by kernel_rfl) (by kernel_rfl) (O.ziA Tryd.underlying9) opn_nodes) (fun x : P.S121 => (x.f0, x.f1)) (fun y => ⟨y.1, y.2⟩) (fun _ => rfl)) (fun _ h => h.2)
theorem opn_field : O.Opn Tryd.prog 41 (YtbicjgaadknmfaaDoorW.PrintWords.Kd.pair (YtbicjgaadknmfaaDoorW.PrintWords.Kd.slice 121 P.k121) (YtbicjgaadknmfaaDoorW.PrintWords.Kd.slice 54 (YtbicjgaadknmfaaDoorW.PrintWords.Kd.slice 62 P.k62))) (fun x => (∀ y, y ∈ x.1 → ∀ n, n ∈ y.f1 → M.Wl n.f2) ∧ ∀ c, c ∈ x.2 → ∀ n, n ∈ c → M.Wl n.f2) :=
  O.zfX Tryd.underlying41 (by kernel_rfl) rfl rfl (by kernel_rfl) (by kernel_rfl) (O.zev Tryd.underlying38 (by kernel_rfl) opn_let) (O.zev Tryd.underlying39 (by kernel_rfl) opn_nodes)
set_option maxRecDepth 100000 in
theorem lifted (os : Os) (started : os.Started) (H : Type) (enc : TypeId × Value → H) :
    ReturnsInHanded {} Tryd.checked os 8 .any (fun w args => (Rows.checkMoreSpec.pre enc Tryd.prog Tryd.f8 [] false w args ∧ laidMetH Tryd.prog Rows.checkMoreRow.laid w) ∧ sizedMet enc Tryd.prog Tryd.f8 (OpenSpec.ofChange Rows.checkMoreSpec) false w args) (Rows.checkMoreSpec.post enc Tryd.prog Tryd.f8 false true false false) := by
  refine returnsInHanded_of_change_and (C := Tryd.checked) (X := fun w _ => laidMetH Tryd.prog Rows.checkMoreRow.laid w) (fun _ _ _ hh h => h.of_heap hh) own started (by kernel_rfl) Tryd.func8
    (ChangeSpec.witness_shaped (enc := enc) (C := Tryd.checked) (os := os) (X := fun w _ => laidMetH Tryd.prog Rows.checkMoreRow.laid w) false (World.laidAll Tryd.prog os Rows.checkMoreRow.laid) #[.agg #[.slice none 0 0, .slice none 0 0], .int .i64 0, .int .i64 0] 8 (World.laidAll_os _ _ _)
      (World.shaped_of_ZipB (by kernel_rfl) (by kernel_rfl)) (by kernel_rfl) (by kernel_rfl) (by kernel_rfl)
      (by rw [MakeChecks.laidMetH_plain _ _ _ (by kernel_rfl)]; exact laidMet_laidAll _ (by kernel_rfl) (by kernel_rfl))) ?_
  intro W base args ds gs before hval0 hW hcnd hsz0 hL0 _
  have hsz : (DataW.weightsEach Tryd.prog (Tryd.f8.params.toList ++ Rows.checkMoreSpec.plain.varTypes Tryd.prog) (ds ++ gs)).all (· ≤ reachBytes) = true := hsz0
  have hval : ∀ (j : Nat) t v, Tryd.f8.params[j]? = some t → args[j]? = some v → Value.okWide Tryd.prog W .any base t v := hval0
  have hW' := hW
  obtain ⟨p, q, hA0, hV, rfl, hfz, hnd⟩ := hW
  have hA : DataW.TrodAll enc Tryd.prog W 0 (fun _ => true) true Tryd.f8.params.toList args.toList ds p := hA0
  rw [Tryd.params8] at hA hval hsz
  obtain ⟨v0, vs0, d0, ds0, p0, q0, hargs, rfl, rfl, h0, r0⟩ := trodAll_cons hA
  obtain ⟨v1, vs1, d1, ds1, p1, q1, rfl, rfl, rfl, h1, r1⟩ := trodAll_cons r0
  obtain ⟨v2, vs2, d2, ds2, p2, q2, rfl, rfl, rfl, h2, r2⟩ := trodAll_cons r1
  obtain ⟨rfl, rfl, rfl⟩ := trodAll_nil r2
  obtain rfl : args = #[v0, v1, v2] := by cases args; simp_all
  obtain ⟨rfl, rfl⟩ := trodVars_none hV
  obtain ⟨cs0, rfl, hcs0⟩ := okWide_struct Tryd.underlying41 (hval 0 41 v0 rfl rfl)
  have k0 := h0
  have lt0 : ∀ x ∈ p0, x.block < W.heap.size := by obtain ⟨m, hm⟩ := k0; exact DataW.trod_lt m _ _ _ hm
  obtain ⟨fuel, hf⟩ := h0
  obtain ⟨⟨L, O⟩, hK, hok⟩ := opn_field H enc W _ fuel _ _ hf
  obtain ⟨ca, cb, hcs, ⟨A0, c0, rfl, hc0, hr0⟩, ⟨A1, c1, rfl, hc1, hr1⟩⟩ := hK
  obtain rfl : cs0 = #[.slice A0 L.length c0, .slice A1 O.length c1] := by
    apply Array.ext'
    exact hcs
  obtain ⟨a1, rfl, rfl, rfl, w1⟩ := open_int Tryd.underlying3 (hval 1 3 v1 rfl rfl) h1
  obtain ⟨a2, rfl, rfl, rfl, w2⟩ := open_int Tryd.underlying3 (hval 2 3 v2 rfl rfl) h2
  clear hA0 hval0 hsz0 hsz
  obtain ⟨k, b, hk, hmore⟩ := Pure.More L O a1 a2 hok
  have hcall : Calls Tryd.prog 8 #[.agg #[.slice A0 L.length c0, .slice A1 O.length c1], .int .i64 a1, .int .i64 a2] W fun e w' => e = .returned (.bool true) ∧ Below W.heap.size W w' := by
    by_cases hb : b = true ∨ a2 < 0 ∨ 6 < a2
    · exact P.zit k A0 c0 L A1 c1 O a1 a2 b W hr0 hc0 hr1 hc1 hk hb
    · have b0 : b = false := by
        cases b with
        | true => exact absurd (.inl rfl) hb
        | false => rfl
      subst b0
      exact P.zi8 k A0 c0 L A1 c1 O a1 a2 W hr0 hc0 hr1 hc1 hk (fun h => hb (.inr (.inl h))) (fun h => hb (.inr (.inr h))) (hmore rfl (fun h => hb (.inr (.inl h))) (fun h => hb (.inr (.inr h))))
  refine hcall.mono fun e W' ⟨he, bel⟩ => ?_
  subst he
  exact ⟨_, rfl, _, _, _, [], _, [], hW', trodAll_mk1 (shut_bool Tryd.underlying4 _), (trodAll_cons_mk (Below.trod laidOut (by kernel_rfl) (of_decide_eq_true (by kernel_rfl)) k0 bel lt0) (trodAll_cons_mk (shut_int Tryd.underlying3 w1) (trodAll_cons_mk (shut_int Tryd.underlying3 w2) trodAll_mk0))), rfl, bel.frame _, fun h => by cases h⟩
theorem over : Rows.checkMoreRow.holds Tryd.pinned (OpenSpec.ofChange Rows.checkMoreSpec) :=
  OpenClaim.holds_of_wide 8 Tryd.f8 rfl rfl rfl rfl rfl rfl rfl ⟨rfl, rfl, rfl, rfl, rfl⟩ rfl rfl rfl rfl rfl (by kernel_rfl) Tryd.func8 (by kernel_rfl)
    (of_decide_eq_true (by kernel_rfl)) (by unfold Func.isWrapper; first | (rw [if_pos (by decide +kernel)]; kernel_rfl) | (rw [if_neg (by decide +kernel)]; exact ⟨rfl, rfl⟩))
    (fun os started H enc _ => lifted os started H enc)
theorem card_holds : Rows.CheckMoreCardSaid :=
  Claim7.holds_tied_plain_at .later [] [.data, .pinned] true (true, "464c94540701cc9a6cf40e814053917c415809ef48742631284d68caaa259d8e") true over (fun _ h => by cases h) (by kernel_rfl) (fun _ h => by cases h) checkMore_row_tie rfl ⟨rfl, rfl⟩ (by kernel_rfl) rfl
    (fun f fn hf hfn => by
      obtain rfl : f = 8 := Option.some.inj ((show Tryd.prog.funcNamed "retrospect/retrospectlaw19.CheckMore" = some 8 by kernel_rfl).symm.trans hf) |>.symm
      obtain rfl : fn = Tryd.f8 := (Option.some.inj (Tryd.func8.symm.trans hfn)).symm
      exact ⟨by kernel_rfl, fun j t ht => by
        rw [Tryd.params8] at ht
        have hm : t ∈ [41, 3, 3] := by simpa using Array.mem_of_getElem? ht
        have hall : ([41, 3, 3].all fun u => !Tryd.prog.wantsStandIn u) = true := by kernel_rfl
        exact (show Tryd.prog.wantsStandIn t = false by simpa using List.all_eq_true.1 hall t hm)⟩)
    (by kernel_rfl)
#print axioms card_holds
end Go.Proofs.YtbicjgaadknmfaaDoor.checkMore
namespace Go.Proofs.YtbicjgaadknmfaaDoor
theorem checkMore_holds : Rows.CheckMoreCardSaid := checkMore.card_holds
end Go.Proofs.YtbicjgaadknmfaaDoor
