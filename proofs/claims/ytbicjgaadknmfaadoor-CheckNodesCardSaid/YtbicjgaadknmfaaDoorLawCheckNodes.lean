/- CheckNodes: for every list of nodes, all bounds and every name: what is wrong and where is in the program zas the document's reference has it. No conditions. -/
import Derived.Test.YtbicjgaadknmfaaDoorRows
import Derived.Test.YtbicjgaadknmfaaDoorTie
import Derived.Test.YtbicjgaadknmfaaDoorCards
import Derived.Lay
import Derived.LaidOnce
import Derived.SevenTiedAt
import Derived.Test.YtbicjgaadknmfaaDoorQ8
import Derived.Test.YtbicjgaadknmfaaDoorQ9
import Derived.WalkKit
import Derived.ProofKit
import Derived.OpenShut
import Derived.ShutString
import Derived.ChangeOld
import Derived.Below
import Derived.SizedLaws
import Derived.Laws.IdiomArrays
namespace Go.Proofs.YtbicjgaadknmfaaDoor.checkNodes
open Go.ChangeShapes Go.WideShapes Go.ChangeAt Go.RowKit
open Go.ChangeMaps (open_string shut_string)
set_option linter.unusedVariables false
theorem own : ownKnob Tryd.prog.godebug = none := by kernel_rfl
theorem laidOut : laidOutB Tryd.prog = true := by kernel_rfl
theorem wl_of {l : List Int} (h : ∀ x, x ∈ l → (Lit.int .u32 x).wf = true) : M.Wl l := by
  intro x hx
  have := h x hx
  simp [Lit.wf, IntKind.min, IntKind.max, IntKind.bits, IntKind.signed] at this
  omega
theorem opn_node : O.Opn Tryd.prog 62 P.k62 (fun x => M.Wl x.f2) :=
  O.zjq (O.zje (O.zgH Tryd.underlying62 (by kernel_rfl) rfl rfl rfl (by kernel_rfl) (by kernel_rfl) (by kernel_rfl) (O.zeD Tryd.underlying3) (O.zeD Tryd.underlying3) (O.zfF Tryd.underlying23 (by kernel_rfl) (O.zeD Tryd.underlying101))) (fun x : P.S62 => (x.f0, x.f1, x.f2)) (fun y => ⟨y.1, y.2.1, y.2.2⟩) (fun _ => rfl)) (fun _ h => wl_of h.2.2)
theorem opn_nodes : O.Opn Tryd.prog 54 (YtbicjgaadknmfaaDoorW.PrintWords.Kd.slice 62 P.k62) (fun xs => ∀ x, x ∈ xs → M.Wl x.f2) :=
  O.zfF Tryd.underlying54 (by kernel_rfl) opn_node
theorem opn_array3 {P : Program} {α : Type} {t e : TypeId} {d : YtbicjgaadknmfaaDoorW.PrintWords.Kd α} {ok : α → Prop} (ht : P.underlying t = some (.array 3 e)) (hce : P.cellsOf e = 1) (D : O.Opn P e d ok)
    (H : Type) (enc : TypeId × Value → H) (w : World) (sp : Nat → Bool) (fuel : Nat) (c0 c1 c2 : Value) (x : DataW H × List MemPlace) (h : DataW.trod enc P w 0 sp true fuel t [c0, c1, c2] = some x) :
    ∃ a b c, d.K w a [c0] ∧ d.K w b [c1] ∧ d.K w c [c2] := by
  obtain ⟨y0, y1, y2, n, _, h0, h1, h2⟩ := trod_array3 ht hce h
  obtain ⟨a, ha, _⟩ := D H enc w sp n _ _ h0
  obtain ⟨b, hb, _⟩ := D H enc w sp n _ _ h1
  obtain ⟨c, hc, _⟩ := D H enc w sp n _ _ h2
  exact ⟨a, b, c, ha, hb, hc⟩
theorem okWide_array {P : Program} {w : World} {r : Reach} {base n : Nat} {t e : TypeId} {v : Value} (ht : P.underlying t = some (.array n e)) (h : Value.okWide P w r base t v) : ∃ cs, v = .agg cs ∧ cs.size = P.cellsOf t := by
  simp only [Value.okWide, ht] at h
  obtain ⟨cs, h1, h2, _⟩ := h
  exact ⟨cs, h1, h2⟩
set_option maxRecDepth 100000 in
theorem lifted (os : Os) (started : os.Started) (H : Type) (enc : TypeId × Value → H) :
    ReturnsInHanded {} Tryd.checked os 7 .any (fun w args => (Rows.checkNodesSpec.pre enc Tryd.prog Tryd.f7 [] false w args ∧ laidMetH Tryd.prog Rows.checkNodesRow.laid w) ∧ sizedMet enc Tryd.prog Tryd.f7 (OpenSpec.ofChange Rows.checkNodesSpec) false w args) (Rows.checkNodesSpec.post enc Tryd.prog Tryd.f7 false true false false) := by
  refine returnsInHanded_of_change_and (C := Tryd.checked) (X := fun w _ => laidMetH Tryd.prog Rows.checkNodesRow.laid w) (fun _ _ _ hh h => h.of_heap hh) own started (by kernel_rfl) Tryd.func7
    (ChangeSpec.witness_shaped (enc := enc) (C := Tryd.checked) (os := os) (X := fun w _ => laidMetH Tryd.prog Rows.checkNodesRow.laid w) false (World.laidAll Tryd.prog os Rows.checkNodesRow.laid) #[.slice none 0 0, .agg #[.int .i64 0, .int .i64 0, .int .i64 0], .string ByteArray.empty] 8 (World.laidAll_os _ _ _)
      (World.shaped_of_ZipB (by kernel_rfl) (by kernel_rfl)) (by kernel_rfl) (by kernel_rfl) (by kernel_rfl)
      (by rw [MakeChecks.laidMetH_plain _ _ _ (by kernel_rfl)]; exact laidMet_laidAll _ (by kernel_rfl) (by kernel_rfl))) ?_
  intro W base args ds gs before hval0 hW hcnd hsz0 hL0 _
  have hsz : (DataW.weightsEach Tryd.prog (Tryd.f7.params.toList ++ Rows.checkNodesSpec.plain.varTypes Tryd.prog) (ds ++ gs)).all (· ≤ reachBytes) = true := hsz0
  have hval : ∀ (j : Nat) t v, Tryd.f7.params[j]? = some t → args[j]? = some v → Value.okWide Tryd.prog W .any base t v := hval0
  have hW' := hW
  obtain ⟨p, q, hA0, hV, rfl, hfz, hnd⟩ := hW
  have hA : DataW.TrodAll enc Tryd.prog W 0 (fun _ => true) true Tryd.f7.params.toList args.toList ds p := hA0
  rw [Tryd.params7] at hA hval hsz
  obtain ⟨v0, vs0, d0, ds0, p0, q0, hargs, rfl, rfl, h0, r0⟩ := trodAll_cons hA
  obtain ⟨v1, vs1, d1, ds1, p1, q1, rfl, rfl, rfl, h1, r1⟩ := trodAll_cons r0
  obtain ⟨v2, vs2, d2, ds2, p2, q2, rfl, rfl, rfl, h2, r2⟩ := trodAll_cons r1
  obtain ⟨rfl, rfl, rfl⟩ := trodAll_nil r2
  obtain rfl : args = #[v0, v1, v2] := by cases args; simp_all
  obtain ⟨rfl, rfl⟩ := trodVars_none hV
  obtain ⟨A0, n0, c0, rfl⟩ := okWide_slice Tryd.underlying54 (hval 0 54 v0 rfl rfl)
  have k0 := h0
  have lt0 : ∀ x ∈ p0, x.block < W.heap.size := by obtain ⟨m, hm⟩ := k0; exact DataW.trod_lt m _ _ _ hm
  obtain ⟨l0, rfl, hc0, hr0, hok⟩ := O.zjh opn_nodes h0
  have k1 := h1
  have lt1 : ∀ x ∈ p1, x.block < W.heap.size := by obtain ⟨m, hm⟩ := k1; exact DataW.trod_lt m _ _ _ hm
  obtain ⟨cs1, rfl, hcs1⟩ := okWide_array Tryd.underlying43 (hval 1 43 v1 rfl rfl)
  obtain ⟨fuel, hf⟩ := h1
  have e3 : Tryd.prog.cellsOf 43 = 3 := by kernel_rfl
  rw [e3] at hcs1
  obtain ⟨x0, x1, x2, rfl⟩ : ∃ x0 x1 x2, cs1 = #[x0, x1, x2] := ⟨cs1[0], cs1[1], cs1[2], by apply Array.ext <;> simp [hcs1]; intro i h; match i, h with | 0, _ => intro _; rfl | 1, _ => intro _; rfl | 2, _ => intro _; rfl⟩
  obtain ⟨a, b, c, ha, hb, hc⟩ := opn_array3 Tryd.underlying43 (by kernel_rfl) (O.zeD Tryd.underlying3) H enc W _ fuel x0 x1 x2 _ hf
  obtain rfl : x0 = .int .i64 a := List.cons.inj ha |>.1
  obtain rfl : x1 = .int .i64 b := List.cons.inj hb |>.1
  obtain rfl : x2 = .int .i64 c := List.cons.inj hc |>.1
  obtain ⟨s, rfl, rfl, rfl, w2⟩ := open_string Tryd.underlying9 (hval 2 9 v2 rfl rfl) h2
  clear hA0 hval0 hsz0 hsz
  obtain ⟨k, hk⟩ := Pure.CheckNodes l0 a b c s hok
  refine (P.zal.calls k A0 c0 l0 a b c s true W hr0 hc0 hk).mono fun e W' ⟨he, bel⟩ => ?_
  subst he
  exact ⟨_, rfl, _, _, _, [], _, [], hW', trodAll_mk1 (shut_bool Tryd.underlying4 _), (trodAll_cons_mk (Below.trod laidOut (by kernel_rfl) (of_decide_eq_true (by kernel_rfl)) k0 bel lt0) (trodAll_cons_mk (Below.trod laidOut (by kernel_rfl) (of_decide_eq_true (by kernel_rfl)) k1 bel lt1) (trodAll_cons_mk (shut_string Tryd.underlying9 w2) trodAll_mk0))), rfl, bel.frame _, fun h => by cases h⟩
theorem over : Rows.checkNodesRow.holds Tryd.pinned (OpenSpec.ofChange Rows.checkNodesSpec) :=
  OpenClaim.holds_of_wide 7 Tryd.f7 rfl rfl rfl rfl rfl rfl rfl ⟨rfl, rfl, rfl, rfl, rfl⟩ rfl rfl rfl rfl rfl (by kernel_rfl) Tryd.func7 (by kernel_rfl)
    (of_decide_eq_true (by kernel_rfl)) (by unfold Func.isWrapper; first | (rw [if_pos (by decide +kernel)]; kernel_rfl) | (rw [if_neg (by decide +kernel)]; exact ⟨rfl, rfl⟩))
    (fun os started H enc _ => lifted os started H enc)
theorem card_holds : Rows.CheckNodesCardSaid :=
  Claim7.holds_tied_plain_at .later [] [.data, .pinned] true (true, "464c94540701cc9a6cf40e814053917c415809ef48742631284d68caaa259d8e") true over (fun _ h => by cases h) (by kernel_rfl) (fun _ h => by cases h) checkNodes_row_tie rfl ⟨rfl, rfl⟩ (by kernel_rfl) rfl
    (fun f fn hf hfn => by
      obtain rfl : f = 7 := Option.some.inj ((show Tryd.prog.funcNamed "retrospect/retrospectlaw19.CheckNodes" = some 7 by kernel_rfl).symm.trans hf) |>.symm
      obtain rfl : fn = Tryd.f7 := (Option.some.inj (Tryd.func7.symm.trans hfn)).symm
      exact ⟨by kernel_rfl, fun j t ht => by
        rw [Tryd.params7] at ht
        have hm : t ∈ [54, 43, 9] := by simpa using Array.mem_of_getElem? ht
        have hall : ([54, 43, 9].all fun u => !Tryd.prog.wantsStandIn u) = true := by kernel_rfl
        exact (show Tryd.prog.wantsStandIn t = false by simpa using List.all_eq_true.1 hall t hm)⟩)
    (by kernel_rfl)
#print axioms card_holds
end Go.Proofs.YtbicjgaadknmfaaDoor.checkNodes
namespace Go.Proofs.YtbicjgaadknmfaaDoor
theorem checkNodes_holds : Rows.CheckNodesCardSaid := checkNodes.card_holds
end Go.Proofs.YtbicjgaadknmfaaDoor
