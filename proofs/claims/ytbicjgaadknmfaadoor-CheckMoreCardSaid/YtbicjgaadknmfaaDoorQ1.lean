import Derived.Test.YtbicjgaadknmfaaDoorQ0
import Derived.Laws.StructEq
import Derived.Test.YtbicjgaadknmfaaDoorProg
import Derived.Below
import Derived.Deep.Draws
import Derived.Deep.AppendLies
import Derived.Maps.AppendAt
import Derived.OwnWalk
import Derived.Laws.BytesArg
import Derived.Laws.MakeOwn
import Derived.Laws.OwnMore
import Derived.Deep.OwnRows
import Derived.Tactics
import Derived.Lib.ConvBytes
import Derived.Laws.Slices
import Derived.WalkKit
import Derived.KernelRfl
import Derived.RowKit3
import Derived.Deep.LoopGhost
import Derived.Deep.QuietTactic
import Derived.BigQuiet
import Derived.WideLaws
import Derived.Deep.DeepCutAuto
import Derived.Deep.CutBlock
import Derived.Deep.RegionHeld3
import Derived.Laws.Rows
import Derived.Lib.AppendStr
import Derived.ArgAppend
import Derived.Laws.IdiomCopy
import Derived.OrdersHeld
import Derived.Laws.BitsLemmas
import Derived.RowKit
import Derived.Laws.Strings
import Derived.Laws.CopyOwn
section
namespace Go.Proofs.YtbicjgaadknmfaaDoorW.PrintWords
open Go.RowKit
namespace Kd
def chunks (sz : Nat) (n : Nat) (inner : List Value) : List (List Value) := (List.range n).map fun j => (inner.drop (j * sz)).take sz
theorem zbV (sz n : Nat) (inner : List Value) : (chunks sz n inner).length = n := by simp [chunks]
theorem zjh {sz n : Nat} {inner : List Value} {j : Nat} (hj : j < n) : (chunks sz n inner)[j]? = some ((inner.drop (j * sz)).take sz) := by simp [chunks, hj]
theorem zc7 {sz n : Nat} {inner : List Value} {j : Nat} {c : List Value} (h : (chunks sz n inner)[j]? = some c) : c = (inner.drop (j * sz)).take sz := by
  have hj : j < n := by have := (List.getElem?_eq_some_iff.1 h).1; rwa [zbV] at this
  rw [zjh hj] at h
  injection h with h
  exact h.symm
theorem zhu {α : Type} {Rr : α → List Value → Prop} {sz : Nat} {xs : List α} {inner : List Value} (h : Reps Rr sz xs inner) (hR : ∀ x c, Rr x c → c.length = sz ∧ ∀ u ∈ c, u.oneCell' = true) : Reps (fun x cs => cs = x ∧ cs.length = sz ∧ ∀ u ∈ cs, u.oneCell' = true) sz (chunks sz xs.length inner) inner := by
  refine ⟨by rw [zbV]; exact h.1, fun j p hj => ?_⟩
  have hjl : j < xs.length := by have := (List.getElem?_eq_some_iff.1 hj).1; rwa [zbV] at this
  have hp := zc7 hj
  exact ⟨hp.symm, hR _ _ (h.2 j _ (List.getElem?_eq_getElem hjl))⟩
section
variable {α : Type} {d : Kd α} {e base n cc g : Nat} {ok ok' okp S : Nat → Prop} {w w1 W W1 : World} {A : Option Addr} {u v v1 : Value} {xs : List α} {x : α} {c : List Value}
theorem zko (h : F d W ok A n xs) (z : α) (i : Int) (h0 : 0 ≤ i) (h1 : i < n) :
    ∃ ad c, A = some ad ∧ c.length = d.sz ∧ FK d W ok (xs.getD i.toNat z) c ∧ (∀ j u, c[j]? = some u → W.cell? (ad.add (i.toNat * d.sz + j)) = some u) ∧ (0 < d.sz → ok ad.block) := by
  obtain ⟨ad, c, rfl, hcl, hK, hcc⟩ := zdn (ziM h) z i h0 h1
  have hin : 0 < d.sz → ok ad.block := by
    intro hs
    by_cases hk : ok ad.block
    · exact hk
    · obtain ⟨W', h2, h3⟩ := emptied W ad.block
      obtain ⟨ad', c', he, hcl', _, hcc'⟩ := zdn (h W' (fun k hk' _ => h2 k (fun e => hk (e ▸ hk')))) z i h0 h1
      injection he with he
      subst he
      have h4 := hcc' 0 _ (List.getElem?_eq_getElem (by omega))
      rw [h3 _ (add_block _ _)] at h4
      cases h4
  refine ⟨ad, c, rfl, hcl, fun W' hW => ?_, hcc, hin⟩
  obtain ⟨ad', c', he, hcl', hK', hcc'⟩ := zdn (h W' hW) z i h0 h1
  injection he with he
  subst he
  have hc : c = c' := by
    apply List.ext_getElem?
    intro j
    by_cases hj : j < d.sz
    · have hb : W'.heap[ad.block]? = W.heap[ad.block]? := by
        have h5 := hcc j _ (List.getElem?_eq_getElem (by omega))
        have h6 := World.block_lt_of_cell? W _ h5
        rw [add_block] at h6
        exact hW _ (hin (by omega)) h6
      have h5 := hcc j _ (List.getElem?_eq_getElem (by omega))
      have h6 := hcc' j _ (List.getElem?_eq_getElem (by omega))
      have h7 : W'.cell? (ad.add (i.toNat * d.sz + j)) = W.cell? (ad.add (i.toNat * d.sz + j)) := by simp [World.cell?, add_block, hb]
      rw [h7, h5] at h6
      rw [List.getElem?_eq_getElem (by omega), List.getElem?_eq_getElem (by omega)]
      exact h6
    · rw [List.getElem?_eq_none (by omega), List.getElem?_eq_none (by omega)]
  rw [hc]
  exact hK'
theorem zjo (h : F d W ok A n xs) : zbQ (fun x c => FK d W ok x c) d.sz W A n xs := by
  obtain ⟨hl, hm, hn⟩ := ziM h
  refine ⟨hl, hm, fun hp => ?_⟩
  obtain ⟨ad, rfl, _⟩ := hn hp
  refine ⟨ad, rfl, fun j p hj => ?_⟩
  obtain ⟨hjl, hjp⟩ := List.getElem?_eq_some_iff.1 hj
  obtain ⟨ad', c, he, hcl, hK, hcc, _⟩ := zko h p (j : Int) (by omega) (by omega)
  injection he with he
  subst he
  simp only [Int.toNat_natCast] at hK hcc
  rw [List.getD_eq_getElem?_getD, hj] at hK
  exact ⟨c, hcl, hK, hcc⟩
def N {α : Type} (d : Kd α) (e : Nat) (w : World) (base : Nat) (ok : Nat → Prop) (v : Value) (xs : List α) : Prop :=
  (∀ k, v.ownBlock = some k → ok k) ∧ ∃ rows : List (List Value), rows.length = xs.length ∧ (raw d.sz).R e w base (fun k => some k = v.ownBlock) v rows ∧ ∀ (j : Nat) (x : α) (c : List Value), xs[j]? = some x → rows[j]? = some c → FK d w (fun k => ok k ∧ some k ≠ v.ownBlock) x c
theorem zgS {sz : Nat} {rows : List (List Value)} (h : (raw sz).R e w base ok v rows) : (raw sz).R e w base (fun k => some k = v.ownBlock) v rows := zfJ rfl h
theorem zfF {sz : Nat} {rows : List (List Value)} (h : (raw sz).R e w base ok v rows) : (raw sz).R e w base (fun _ => True) v rows := zb0 h (fun _ _ => trivial)
theorem R_N (h : d.R e w base ok v xs) : N d e w base ok v xs := by
  obtain ⟨h0, inner, ho, hr⟩ := h
  refine ⟨h0, chunks d.sz xs.length inner, zbV _ _ _, ⟨fun k hk => hk.symm, inner, by rw [zbV]; exact ho, zhu hr (fun x c hp => ⟨d.K_len (d.K_of_M hp), d.K_one (d.K_of_M hp)⟩)⟩, fun j x c hx hc => ?_⟩
  rw [zc7 hc]
  exact zkp (hr.2 j x hx)
theorem zet (d : Kd α) (e : Nat) (w : World) (base : Nat) (ok : Nat → Prop) : N d e w base ok (.slice none 0 0) [] := R_N (zdg _ _ _ _ _)
theorem zbP (h : N d e w base ok v xs) (hok : ∀ k, ok k → ok' k) : N d e w base ok' v xs := by
  obtain ⟨h0, rows, hl, hR, hf⟩ := h
  exact ⟨fun k hk => hok k (h0 k hk), rows, hl, hR, fun j x c hx hc => zee (hf j x c hx hc) (fun k hk => ⟨hok k hk.1, hk.2⟩)⟩
theorem N_lt (h : N d e w base ok v xs) : ∀ k, v.ownBlock = some k → k < w.heap.size := by
  obtain ⟨_, rows, _, hR, _⟩ := h
  exact R_lt hR
theorem zdl (h : N d e w base ok v xs) : ∀ k, v.ownBlock = some k → base ≤ k := by
  obtain ⟨_, rows, _, hR, _⟩ := h
  exact zgu hR
theorem N_ne (h : N d e w base ok v xs) {t : Nat} {cells : Array Value} (hb : w.heap[g]? = some (.cells cells t (0, 0))) (ht : e ≠ t) : some g ≠ v.ownBlock := by
  obtain ⟨_, rows, _, hR, _⟩ := h
  exact R_ne hR hb ht
theorem zda (h : N d e w base ok v xs) (hok : ∀ k, ok k → k ≠ g) : some g ≠ v.ownBlock := fun he => hok g (h.1 g he.symm) rfl
theorem zeF (h : N d e w base ok v xs) : N d e w base (fun k => ok k ∧ k < w.heap.size) v xs := by
  have hlt := N_lt h
  obtain ⟨h0, rows, hl, hR, hf⟩ := h
  exact ⟨fun k hk => ⟨h0 k hk, hlt k hk⟩, rows, hl, hR, fun j x c hx hc => zee (zf2 (hf j x c hx hc)) (fun k hk => ⟨⟨hk.1.1, hk.2⟩, hk.1.2⟩)⟩
theorem zfI {base' : Nat} (h : N d e w base ok v xs) (hb : base' ≤ base) : N d e w base' ok v xs := by
  obtain ⟨h0, rows, hl, hR, hf⟩ := h
  exact ⟨h0, rows, hl, zcA hR hb, hf⟩
theorem zfg (h : N d e w base ok v xs) (hm : ∀ k, ok k → k < w.heap.size → w1.heap[k]? = w.heap[k]?) : N d e w1 base ok v xs := by
  obtain ⟨h0, rows, hl, hR, hf⟩ := h
  exact ⟨h0, rows, hl, zhR hR (fun k hk hlt => hm k (h0 k hk.symm) hlt), fun j x c hx hc => zgF (hf j x c hx hc) (fun k hk hlt => hm k hk.1 hlt)⟩
theorem zcI (h : N d e w base ok v xs) (hb : Below w.heap.size w w1) : N d e w1 base ok v xs := zfg h (fun k _ hk => hb.block k hk)
theorem zbs (h : N d e w base ok v xs) (o : Obj) : N d e (w.alloc o) base ok v xs := zcI h (zac (Below.refl _ _) o)
theorem zbr (h : N d e w base ok v xs) : N d e w.drew base ok v xs := zcI h (zcE (Below.refl _ _))
theorem zbu (h : N d e w base ok v xs) (m : Nat) : N d e (w.drewN m) base ok v xs := zcI h (zab (Below.refl _ _) m)
theorem zdx (h : N d e w base ok v xs) {row : Option Nat} (hg : w.grownBy w1 row) (hok : ∀ k, ok k → some k ≠ row) : N d e w1 base ok v xs := zfg h (fun k ho hk => hg.block k hk (hok k ho))
theorem zd7 (h : N d e w base ok v xs) {p : Addr} (hok : ∀ k, ok k → k ≠ p.block) (u : Value) : N d e (w.setCell p u) base ok v xs := zfg h (fun k ho _ => Below.heap_setCell w p u k (hok k ho))
theorem zf6 (h : N d e W base ok v xs) (hbase : ∀ k, u.ownBlock = some k → W.heap.size ≤ k) (hb : Below W.heap.size W w1) : N d e w1 base (fun k => ok k ∧ some k ≠ u.ownBlock) v xs :=
  zbP (zcI (zeF h) hb) (fun k hk => ⟨hk.1, fun he => by have := hbase k he.symm; have := hk.2; omega⟩)
theorem zkZ (h : N d e W base (fun k => ok k ∧ some k ≠ u.ownBlock) v xs) {u1 : Value} (hg : W.grownBy w1 u.ownBlock) (hat : u1.ownBlock = u.ownBlock ∨ ∃ b, u1.ownBlock = some b ∧ W.heap.size ≤ b) : N d e w1 base (fun k => ok k ∧ some k ≠ u1.ownBlock) v xs := by
  refine zbP (zfg (zeF h) (fun k hk hlt => hg.block k hlt hk.1.2)) (fun k hk => ⟨hk.1.1, ?_⟩)
  rcases hat with hat | ⟨b, hb, hle⟩
  · rw [hat]; exact hk.1.2
  · rw [hb]
    intro he
    injection he with he
    have := hk.2
    omega
theorem zcq (h : N d e w base ok v xs) : ∃ A c, v = .slice A xs.length c := by
  obtain ⟨_, rows, hl, hR, _⟩ := h
  obtain ⟨A, c, he⟩ := zbO hR
  exact ⟨A, c, by rw [he, hl]⟩
theorem zbR {n c : Nat} (h : N d e w base ok (.slice A n c) xs) : n = xs.length ∧ n ≤ c ∧ d.C w A xs.length xs := by
  obtain ⟨_, rows, hl, hR, hf⟩ := h
  obtain ⟨hn, hc, hC⟩ := zbD hR
  refine ⟨by omega, hc, ?_⟩
  rw [hl] at hC
  refine ⟨rfl, hC.2.1, fun hp => ?_⟩
  obtain ⟨ad, he, hcell⟩ := hC.2.2 hp
  refine ⟨ad, he, fun j p hj => ?_⟩
  have hjl : j < rows.length := by have := (List.getElem?_eq_some_iff.1 hj).1; omega
  obtain ⟨c', hcl, hK, hcc⟩ := hcell j _ (List.getElem?_eq_getElem hjl)
  have hk := zcT (hf j p _ hj (List.getElem?_eq_getElem hjl))
  refine ⟨c', hcl, ?_, hcc⟩
  rw [show c' = rows[j] from hK.1]
  exact hk
theorem N_F {n : Nat} (h : N d e w base ok (.slice A n cc) xs) : F d w ok A n xs := fun W' hW => by
  have h2 := zbR (zfg h hW)
  rw [h2.1]
  exact h2.2.2
theorem zli {n cap : Nat} (h : N d e W base ok (.slice (some ⟨g, 0, none⟩) n cap) xs) (z : α) (i : Int) (h0 : 0 ≤ i) (h1 : i < n) :
    ∃ c, c.length = d.sz ∧ FK d W (fun k => ok k ∧ k ≠ g) (xs.getD i.toNat z) c ∧ (∀ j u, c[j]? = some u → W.cell? ⟨g, i.toNat * d.sz + j, none⟩ = some u) ∧ ∀ j, W.frozen? ⟨g, i.toNat * d.sz + j, none⟩ = false := by
  obtain ⟨_, rows, hl, hR, hf⟩ := h
  have hn := (zbD hR).1
  obtain ⟨c, hcl, hM, hcc, hfr⟩ := zhq hR [] i h0 h1
  have hil : i.toNat < rows.length := by omega
  have hil' : i.toNat < xs.length := by omega
  have hc : c = rows[i.toNat] := by
    have h2 := hM.1
    rwa [List.getD_eq_getElem?_getD, List.getElem?_eq_getElem hil] at h2
  refine ⟨c, hcl, ?_, hcc, hfr⟩
  rw [List.getD_eq_getElem?_getD, List.getElem?_eq_getElem hil']
  exact zee (hf _ _ _ (List.getElem?_eq_getElem hil') (by rw [hc]; exact List.getElem?_eq_getElem hil)) (fun k hk => ⟨hk.1, fun he => hk.2 (by rw [he]; simp [Value.ownBlock])⟩)
theorem zeM {ad : Addr} {n cap : Nat} (h : N d e W base ok (.slice (some ad) n cap) xs) (z : α) (i : Int) (h0 : 0 ≤ i) (h1 : i < n) :
    ∃ c, c.length = d.sz ∧ FK d W (fun k => ok k ∧ some k ≠ (Value.slice (some ad) n cap).ownBlock) (xs.getD i.toNat z) c ∧ ∀ j u, c[j]? = some u → W.cell? (ad.add (i.toNat * d.sz + j)) = some u := by
  obtain ⟨g, rfl⟩ : ∃ g, ad = ⟨g, 0, none⟩ := by
    obtain ⟨_, rows, _, hR, _⟩ := h
    exact zlj hR
  obtain ⟨c, hcl, hM, hcc, _⟩ := zli h z i h0 h1
  refine ⟨c, hcl, zee hM (fun k hk => ⟨hk.1, fun he => hk.2 (by simpa [Value.ownBlock] using he)⟩), fun j u hu => ?_⟩
  rw [zjz, Nat.zero_add]
  exact hcc j u hu
end
end Kd
end Go.Proofs.YtbicjgaadknmfaaDoorW.PrintWords
end
section
namespace Go.Proofs.YtbicjgaadknmfaaDoorW.PrintWords
open Go.RowKit
namespace Kd
section
variable {α : Type} {d : Kd α} {e base n cap g : Nat} {ok ok' okp : Nat → Prop} {w w1 W : World} {v v1 : Value} {xs ys : List α}
theorem zd4 {rows news : List (List Value)} (h0 : ∀ k, v.ownBlock = some k → ok k) (hl : rows.length = xs.length) (hf : ∀ (j : Nat) (x : α) (c : List Value), xs[j]? = some x → rows[j]? = some c → FK d W (fun k => ok k ∧ some k ≠ v.ownBlock) x c)
    (hl2 : news.length = ys.length) (hf2 : ∀ (j : Nat) (x : α) (c : List Value), ys[j]? = some x → news[j]? = some c → FK d W okp x c) (hokp : ∀ k, okp k → ok k ∧ some k ≠ v.ownBlock) (hfresh : ∀ k, W.heap.size ≤ k → ok k)
    (hR : (raw d.sz).R e w1 base (fun _ => True) v1 (rows ++ news)) (hg : W.grownBy w1 v.ownBlock) (hat : v1.ownBlock = v.ownBlock ∨ ∃ b, v1.ownBlock = some b ∧ W.heap.size ≤ b) : N d e w1 base ok v1 (xs ++ ys) := by
  have hne : ∀ k, some k ≠ v.ownBlock → k < W.heap.size → some k ≠ v1.ownBlock := by
    intro k hk hlt
    rcases hat with hat | ⟨b, hb, hle⟩
    · rw [hat]; exact hk
    · rw [hb]
      intro he
      injection he with he
      omega
  have step : ∀ {x : α} {c : List Value} {o : Nat → Prop}, FK d W o x c → (∀ k, o k → ok k ∧ some k ≠ v.ownBlock) → FK d w1 (fun k => ok k ∧ some k ≠ v1.ownBlock) x c := by
    intro x c o hq ho
    exact zee (zgF (zf2 hq) (fun k hk hlt => hg.block k hlt (ho k hk.1).2)) (fun k hk => ⟨(ho k hk.1).1, hne k (ho k hk.1).2 hk.2⟩)
  refine ⟨fun k hk => ?_, rows ++ news, by rw [List.length_append, List.length_append, hl, hl2], zgS hR, fun j x c hx hc => ?_⟩
  · rcases hat with hat | ⟨b, hb, hle⟩
    · exact h0 k (hat ▸ hk)
    · rw [hb] at hk
      injection hk with hk
      exact hfresh k (by omega)
  · rcases Nat.lt_or_ge j xs.length with hlt | hge
    · rw [List.getElem?_append_left hlt] at hx
      rw [List.getElem?_append_left (by omega)] at hc
      exact step (hf j x c hx hc) (fun _ hk => hk)
    · rw [List.getElem?_append_right hge] at hx
      rw [List.getElem?_append_right (by omega), hl] at hc
      exact step (hf2 _ x c hx hc) hokp
theorem ziW {x : α} {c : List Value} (h : FK d W ok x c) : c = c ∧ c.length = d.sz ∧ ∀ u ∈ c, u.oneCell' = true := ⟨rfl, d.K_len (zcT h), d.K_one (zcT h)⟩
theorem zlb {rows : List (List Value)} (hR : (raw d.sz).R e w1 base (fun k => k = W.heap.size) v1 rows) (hg : W.grownBy w1 none) (hat : ∃ b, v1.ownBlock = some b ∧ W.heap.size ≤ b) (hl : rows.length = xs.length) (hf : ∀ (j : Nat) (x : α) (c : List Value), xs[j]? = some x → rows[j]? = some c → FK d W okp x c)
    (hok : ∀ k, okp k → ok k) (hfresh : ok W.heap.size) : N d e w1 base ok v1 xs := by
  obtain ⟨b, hb, hle⟩ := hat
  refine ⟨fun k hk => by rw [hR.1 k hk]; exact hfresh, rows, hl, zgS hR, fun j x c hx hc => ?_⟩
  refine zee (zgF (zf2 (hf j x c hx hc)) (fun k hk hlt => hg.block k hlt (by simp))) (fun k hk => ⟨hok k hk.1, fun he => ?_⟩)
  rw [hb] at he
  injection he with he
  have := hk.2
  omega
theorem zg3 {Rr : α → List Value → Prop} {sz m : Nat} {A : Option Addr} (h : zbQ Rr sz W A m ys) (hR : ∀ x c, Rr x c → c.length = sz ∧ ∀ u ∈ c, u.oneCell' = true) :
    ∃ news : List (List Value), news.length = ys.length ∧ zbQ (fun x cs => cs = x ∧ cs.length = sz ∧ ∀ u ∈ cs, u.oneCell' = true) sz W A m news ∧ ∀ (j : Nat) (x : α) (c : List Value), ys[j]? = some x → news[j]? = some c → Rr x c := by
  rcases Nat.eq_zero_or_pos m with h0 | hp
  · have hy : ys = [] := List.eq_nil_of_length_eq_zero (h.1.trans h0)
    subst hy
    exact ⟨[], rfl, ⟨h0 ▸ rfl, h.2.1, fun hp => by omega⟩, fun j x c hx => by simp at hx⟩
  · obtain ⟨ad, rfl, _⟩ := h.2.2 hp
    obtain ⟨inner, hr, hc⟩ := zbQ.zhC h
    refine ⟨chunks sz ys.length inner, zbV _ _ _, ⟨by rw [zbV]; exact h.1, h.2.1, fun _ => ⟨ad, rfl, fun j p hj => ?_⟩⟩, fun j x c hx hcc => ?_⟩
    · have hjl : j < ys.length := by have := (List.getElem?_eq_some_iff.1 hj).1; rwa [zbV] at this
      have hpe := zc7 hj
      have hq := hR _ _ (hr.2 j _ (List.getElem?_eq_getElem hjl))
      rw [← hpe] at hq
      refine ⟨p, hq.1, ⟨rfl, hq⟩, fun i u hu => ?_⟩
      have hu2 : inner[j * sz + i]? = some u := by
        rw [hpe, List.getElem?_take] at hu
        split at hu
        · rw [List.getElem?_drop] at hu
          exact hu
        · cases hu
      exact hc _ u hu2
    · rw [zc7 hcc]
      exact hr.2 j x hx
end
section
variable {P : Program} {ops : Array Oper} {rest : List Oper} {o : Oper} {a : Act} {Q : Exit → Act → World → Prop} {Kc : Act → World → Prop} {α : Type}
theorem zj7 (d : Kd α) {w0 W : World} (base : Nat) (hgd : o.guard = none) (s x : Operand) (t e : TypeId) (z : Value) (bytes : Nat)
    (ho : o.op = .call { callee := .builtin .append, args := #[s, x], argTypes := #[t, t] })
    (ht : P.underlying t = some (.slice e)) (hinfo : (P.info? e).map (fun i => (i.zero, i.size, i.bytes)) = some (some z, d.sz, bytes)) (hz : z.cells.size = d.sz) (hs0 : 0 < d.sz) (hb0 : 0 < bytes)
    (v : Value) (xs : List α) (p : α) (cs : List Value) (ok okp : Nat → Prop) (hs : a.eval s = v) (hx : a.eval x = .slice (some ⟨W.heap.size, 0, none⟩) 1 1) (hp : FK d W okp p cs) (hokp : ∀ k, okp k → ok k ∧ some k ≠ v.ownBlock) (hfresh : ∀ k, W.heap.size ≤ k → ok k)
    (HO : N d e W base ok v xs) (HB : Below base w0 W) (hbase : base ≤ W.heap.size) (hl : (xs.length + 1) * bytes ≤ 140737488355328)
    (h : ∀ v1 w1, N d e w1 base ok v1 (xs ++ [p]) → Below base w0 w1 → W.grownBy w1 v.ownBlock → (v1.ownBlock = v.ownBlock ∨ ∃ b, v1.ownBlock = some b ∧ W.heap.size ≤ b) → wpList P ops Q rest (a.put o.dst v1) w1) :
    wpList P ops Q (o :: rest) a (W.alloc (.cells cs.toArray e)) := by
  obtain ⟨h0, rows, hlr, hR, hf⟩ := HO
  refine zem (raw d.sz) base hgd s x t e z bytes ho ht hinfo hz hs0 hb0 v rows cs cs (fun _ => True) (fun _ => False) hs hx (ziW hp) (fun _ hk => hk.elim) (fun _ _ => trivial) (zfF hR) HB hbase (by rw [hlr]; exact hl) ?_
  intro v1 w1 hr hb hg hat
  exact h v1 w1 (zd4 h0 hlr hf (ys := [p]) (news := [cs]) rfl (fun j y c hy hc => by
    rcases j with _ | j
    · simp only [List.getElem?_cons_zero, Option.some.injEq] at hy hc
      rw [← hy, ← hc]; exact hp
    · simp at hy) hokp hfresh hr hg hat) hb hg hat
theorem zd3 (d : Kd α) {w0 W : World} (base : Nat) (hw : Region.wanted o (yielded ops a.tmps) = true) (s x : Operand) (t e : TypeId) (z : Value) (bytes : Nat)
    (ho : o.op = .call { callee := .builtin .append, args := #[s, x], argTypes := #[t, t] })
    (ht : P.underlying t = some (.slice e)) (hinfo : (P.info? e).map (fun i => (i.zero, i.size, i.bytes)) = some (some z, d.sz, bytes)) (hz : z.cells.size = d.sz) (hs0 : 0 < d.sz) (hb0 : 0 < bytes)
    (v : Value) (xs : List α) (p : α) (cs : List Value) (ok okp : Nat → Prop) (hs : a.eval s = v) (hx : a.eval x = .slice (some ⟨W.heap.size, 0, none⟩) 1 1) (hp : FK d W okp p cs) (hokp : ∀ k, okp k → ok k ∧ some k ≠ v.ownBlock) (hfresh : ∀ k, W.heap.size ≤ k → ok k)
    (HO : N d e W base ok v xs) (HB : Below base w0 W) (hbase : base ≤ W.heap.size) (hl : (xs.length + 1) * bytes ≤ 140737488355328)
    (h : ∀ v1 w1, N d e w1 base ok v1 (xs ++ [p]) → Below base w0 w1 → W.grownBy w1 v.ownBlock → (v1.ownBlock = v.ownBlock ∨ ∃ b, v1.ownBlock = some b ∧ W.heap.size ≤ b) → Kc (a.put o.dst v1) w1) :
    if Region.wanted o (yielded ops a.tmps) = true then Oper.wp P o a (W.alloc (.cells cs.toArray e)) Kc Q else Kc (a.put o.dst undef) (W.alloc (.cells cs.toArray e)) := by
  obtain ⟨h0, rows, hlr, hR, hf⟩ := HO
  refine zd1 (raw d.sz) base hw s x t e z bytes ho ht hinfo hz hs0 hb0 v rows cs cs (fun _ => True) (fun _ => False) hs hx (ziW hp) (fun _ hk => hk.elim) (fun _ _ => trivial) (zfF hR) HB hbase (by rw [hlr]; exact hl) ?_
  intro v1 w1 hr hb hg hat
  exact h v1 w1 (zd4 h0 hlr hf (ys := [p]) (news := [cs]) rfl (fun j y c hy hc => by
    rcases j with _ | j
    · simp only [List.getElem?_cons_zero, Option.some.injEq] at hy hc
      rw [← hy, ← hc]; exact hp
    · simp at hy) hokp hfresh hr hg hat) hb hg hat
theorem zhf (d : Kd α) {w0 W : World} (base : Nat) (hgd : o.guard = none) (s x : Operand) (t e : TypeId) (z : Value) (bytes : Nat)
    (ho : o.op = .call { callee := .builtin .append, args := #[s, x], argTypes := #[t, t] })
    (ht : P.underlying t = some (.slice e)) (hinfo : (P.info? e).map (fun i => (i.zero, i.size, i.bytes)) = some (some z, d.sz, bytes)) (hz : z.cells.size = d.sz) (hs0 : 0 < d.sz) (hb0 : 0 < bytes)
    (v : Value) (xs ys : List α) (A : Option Addr) (m c : Nat) (ok okp : Nat → Prop) (hs : a.eval s = v) (hx : a.eval x = .slice A m c)
    (HO : N d e W base ok v xs) (HR : F d W okp A m ys) (hokp : ∀ k, okp k → ok k ∧ some k ≠ v.ownBlock) (hfresh : ∀ k, W.heap.size ≤ k → ok k)
    (HB : Below base w0 W) (hbase : base ≤ W.heap.size) (hl : (xs.length + m) * bytes ≤ 140737488355328)
    (h : ∀ v1 w1, N d e w1 base ok v1 (xs ++ ys) → Below base w0 w1 → W.grownBy w1 v.ownBlock → (v1.ownBlock = v.ownBlock ∨ ∃ b, v1.ownBlock = some b ∧ W.heap.size ≤ b) → wpList P ops Q rest (a.put o.dst v1) w1) :
    wpList P ops Q (o :: rest) a W := by
  obtain ⟨h0, rows, hlr, hR, hf⟩ := HO
  obtain ⟨news, hnl, hnr, hnf⟩ := zg3 (zjo HR) (fun y c hk => ⟨d.K_len (zcT hk), d.K_one (zcT hk)⟩)
  refine zd2 (raw d.sz) base hgd s x t e z bytes ho ht hinfo hz hs0 hb0 v rows news A m c (fun _ => True) (fun _ => False) hs hx (zfF hR) hnr (fun _ _ hk => hk) (fun _ hk => hk.elim) (fun _ _ => trivial) HB hbase (by rw [hlr]; exact hl) ?_
  intro v1 w1 hr hb hg hat
  exact h v1 w1 (zd4 h0 hlr hf hnl hnf hokp hfresh hr hg hat) hb hg hat
theorem zdX (d : Kd α) {w0 W : World} (base : Nat) (hw : Region.wanted o (yielded ops a.tmps) = true) (s x : Operand) (t e : TypeId) (z : Value) (bytes : Nat)
    (ho : o.op = .call { callee := .builtin .append, args := #[s, x], argTypes := #[t, t] })
    (ht : P.underlying t = some (.slice e)) (hinfo : (P.info? e).map (fun i => (i.zero, i.size, i.bytes)) = some (some z, d.sz, bytes)) (hz : z.cells.size = d.sz) (hs0 : 0 < d.sz) (hb0 : 0 < bytes)
    (v : Value) (xs ys : List α) (A : Option Addr) (m c : Nat) (ok okp : Nat → Prop) (hs : a.eval s = v) (hx : a.eval x = .slice A m c)
    (HO : N d e W base ok v xs) (HR : F d W okp A m ys) (hokp : ∀ k, okp k → ok k ∧ some k ≠ v.ownBlock) (hfresh : ∀ k, W.heap.size ≤ k → ok k)
    (HB : Below base w0 W) (hbase : base ≤ W.heap.size) (hl : (xs.length + m) * bytes ≤ 140737488355328)
    (h : ∀ v1 w1, N d e w1 base ok v1 (xs ++ ys) → Below base w0 w1 → W.grownBy w1 v.ownBlock → (v1.ownBlock = v.ownBlock ∨ ∃ b, v1.ownBlock = some b ∧ W.heap.size ≤ b) → Kc (a.put o.dst v1) w1) :
    if Region.wanted o (yielded ops a.tmps) = true then Oper.wp P o a W Kc Q else Kc (a.put o.dst undef) W := by
  obtain ⟨h0, rows, hlr, hR, hf⟩ := HO
  obtain ⟨news, hnl, hnr, hnf⟩ := zg3 (zjo HR) (fun y c hk => ⟨d.K_len (zcT hk), d.K_one (zcT hk)⟩)
  refine zdU (raw d.sz) base hw s x t e z bytes ho ht hinfo hz hs0 hb0 v rows news A m c (fun _ => True) (fun _ => False) hs hx (zfF hR) hnr (fun _ _ hk => hk) (fun _ hk => hk.elim) (fun _ _ => trivial) HB hbase (by rw [hlr]; exact hl) ?_
  intro v1 w1 hr hb hg hat
  exact h v1 w1 (zd4 h0 hlr hf hnl hnf hokp hfresh hr hg hat) hb hg hat
theorem ziH (d : Kd α) {w0 W : World} (base e : Nat) (hw : Region.wanted o (yielded ops a.tmps) = true) {N' : Tmp} (_hd : o.dst = some N') {xs : List α} {inner : List Value} {ok okp : Nat → Prop}
    (hrun : (execOp a.eval o).run P W = .ok (.value (.slice (some ⟨W.heap.size, 0, none⟩) xs.length xs.length)) (W.alloc (.cells inner.toArray e)))
    (hrep : Reps (FK d W okp) d.sz xs inner) (hok : ∀ k, okp k → ok k) (hfresh : ok W.heap.size) (HB : Below base w0 W) (hbase : base ≤ W.heap.size) (hm : xs.length ≤ 9223372036854775807)
    (h : ∀ v1 w1, N d e w1 base ok v1 xs → Below base w0 w1 → W.grownBy w1 none → (∃ b, v1.ownBlock = some b ∧ W.heap.size ≤ b) → Kc (a.put o.dst v1) w1) :
    if Region.wanted o (yielded ops a.tmps) = true then Oper.wp P o a W Kc Q else Kc (a.put o.dst undef) W := by
  refine ziC (raw d.sz) base e hw _hd (xs := chunks d.sz xs.length inner) (inner := inner) (ok := fun k => k = W.heap.size) (okp := fun _ => False) (by rw [zbV]; exact hrun) (zhu hrep (fun y c hk => ⟨d.K_len (zcT hk), d.K_one (zcT hk)⟩)) (fun _ hk => hk.elim) rfl HB hbase (by rw [zbV]; exact hm) ?_
  intro v1 w1 hr hb hg hat
  exact h v1 w1 (zlb hr hg hat (zbV _ _ _) (fun j y c hy hc => by rw [zc7 hc]; exact hrep.2 j y hy) hok hfresh) hb hg hat
end
end Kd
end Go.Proofs.YtbicjgaadknmfaaDoorW.PrintWords
end
section
namespace Go.Proofs.YtbicjgaadknmfaaDoorW.PrintLast
open Go.Proofs.YtbicjgaadknmfaaDoorW.PrintWords (zaa)
def zec (md : Region.Mode) (o : Oper) : List Nat := (o.after.toList.filter (fun e => Region.binds md e)).map (fun e => e.on)
def zgz (md : Region.Mode) (ops : Array Oper) (i : Nat) (oi : Oper) : List Nat := (List.range ops.size).filter fun j => !(j == i) && match ops[j]? with
  | some oj => !(oj.after.any (fun e => Region.binds md e && e.on == i) || oi.apart ops oj)
  | none => false
def rtab (md : Region.Mode) (ops : Array Oper) : Bool × List (List Nat × List Nat) := (Region.noSelect ops, (List.range ops.size).map fun i => match ops[i]? with
  | some o => (zec md o, zgz md ops i o)
  | none => ([], []))
def zdA (T : List (List Nat × List Nat)) (l : List Bool) (i : Nat) : Bool := !l.getD i true && match T[i]? with
  | some r => r.1.all (fun j => l.getD j false)
  | none => false
def zfj (T : List (List Nat × List Nat)) (l : List Bool) : List Nat := (List.range T.length).filter (zdA T l)
def zgf (T : List (List Nat × List Nat)) (l : List Bool) (i : Nat) : Bool := match T[i]? with
  | some r => r.2.all (fun j => l.getD j true)
  | none => false
def zfM (T : List (List Nat × List Nat)) (l : List Bool) : Bool := (List.range T.length).all fun j => !l.getD j false || match T[j]? with
  | some r => r.1.all (fun k => l.getD k false)
  | none => true
def zeJ (T : List (List Nat × List Nat)) (i : Nat) : Nat → Nat → Bool
  | 0, _ => false
  | fuel + 1, d => match T[d]? with
    | some r => r.1.any fun j => j == i || zeJ T i fuel j
    | none => false
def lastT (T : List (List Nat × List Nat)) (l : List Bool) (ds : List Nat) (i : Nat) : Bool := ds.all fun d => l.getD d true || zeJ T i T.length d
section
variable {md : Region.Mode} {ops : Array Oper} {T : Bool × List (List Nat × List Nat)} {l l' li lj lk : Array Bool} {ds : List Nat} {i j k : Nat}
theorem gd (l : Array Bool) (j : Nat) (b : Bool) : l.getD j b = l.toList.getD j b := by simp [Array.getD_eq_getD_getElem?, List.getD_eq_getElem?_getD]
theorem zgZ (o : Oper) (p : Nat → Bool) : o.after.all (fun e => !Region.binds md e || p e.on) = (zec md o).all p := by
  unfold zec
  rw [← Array.all_toList]
  induction o.after.toList with
  | nil => rfl
  | cons e r ih =>
    rw [List.all_cons, ih, List.filter_cons]
    cases h : Region.binds md e <;> simp
theorem ziY (o : Oper) (p : Nat → Bool) : o.after.any (fun e => Region.binds md e && p e.on) = (zec md o).any p := by
  unfold zec
  rw [← Array.any_toList]
  induction o.after.toList with
  | nil => rfl
  | cons e r ih =>
    rw [List.any_cons, ih, List.filter_cons]
    cases h : Region.binds md e <;> simp
theorem zdO : (rtab md ops).2.length = ops.size := by simp [rtab]
theorem zez {o : Oper} (h : ops[i]? = some o) : (rtab md ops).2[i]? = some (zec md o, zgz md ops i o) := by
  have hi := (Array.getElem?_eq_some_iff.1 h).1
  unfold rtab
  rw [List.getElem?_map, List.getElem?_range hi, Option.map_some, h]
theorem zeq (h : ops[i]? = none) : (rtab md ops).2[i]? = none := by
  have hi : ops.size ≤ i := Array.getElem?_eq_none_iff.1 h
  exact List.getElem?_eq_none (by rw [zdO]; exact hi)
theorem zis : zdA (rtab md ops).2 l.toList i = (!l.getD i true && ((ops[i]?).map (·.after.all fun e => !Region.binds md e || l.getD e.on false)).getD false) := by
  unfold zdA
  rw [gd]
  cases h : ops[i]? with
  | none => rw [zeq h]; rfl
  | some o =>
    rw [zez h]
    simp only [Option.map_some, Option.getD_some]
    rw [← zgZ]
    simp only [gd]
theorem ready_eq : Region.ready md ops l = zfj (rtab md ops).2 l.toList := by
  unfold Region.ready zfj
  rw [zdO]
  refine List.filter_congr (fun i _ => ?_)
  rw [zis]
theorem free_eq : Region.free md ops l i = zgf (rtab md ops).2 l.toList i := by
  unfold Region.free zgf
  cases h : ops[i]? with
  | none => rw [zeq h]
  | some oi =>
    rw [zez h]
    simp only [zgz]
    rw [List.all_filter]
    congr 1
    funext j
    rw [gd]
    cases hj : ops[j]? with
    | none => cases (j == i) <;> cases (l.toList.getD j true) <;> simp
    | some oj =>
      cases (j == i) <;> cases (l.toList.getD j true) <;> cases (oj.after.any (fun e => Region.binds md e && e.on == i) || oi.apart ops oj) <;> simp_all
theorem zjy : Region.zeD md ops l = zfM (rtab md ops).2 l.toList := by
  unfold Region.zeD zfM
  rw [zdO]
  congr 1
  funext j
  rw [gd]
  cases h : ops[j]? with
  | none => rw [zeq h]
  | some o =>
    rw [zez h]
    simp only
    rw [← zgZ]
    simp only [gd]
theorem zhn : ∀ (fuel d : Nat), Region.zdb md ops i fuel d = zeJ (rtab md ops).2 i fuel d
  | 0, _ => rfl
  | fuel + 1, d => by
    unfold Region.zdb zeJ
    cases h : ops[d]? with
    | none => rw [zeq h]
    | some o =>
      rw [zez h]
      simp only
      rw [← ziY]
      congr 1
      funext e
      rw [zhn fuel]
theorem zkz : Region.lastB md ops l ds i = lastT (rtab md ops).2 l.toList ds i := by
  unfold Region.lastB lastT
  rw [zdO]
  congr 1
  funext d
  rw [gd, zhn]
theorem zfV (h : zdA T.2 l.toList i = true) (hT : rtab md ops = T) : (Region.ready md ops l).contains i = true := by
  subst hT
  rw [ready_eq]
  unfold zfj
  rw [List.contains_iff_mem, List.mem_filter, List.mem_range]
  refine ⟨?_, h⟩
  unfold zdA at h
  rw [Bool.and_eq_true] at h
  cases hq : (rtab md ops).2[i]? with
  | none => rw [hq] at h; simp at h
  | some r => exact (List.getElem?_eq_some_iff.1 hq).1
theorem zhA (h : (l.toList.set i true == l'.toList) = true) : (l.setIfInBounds i true == l') = true := by
  rw [beq_iff_eq] at h ⊢
  apply Array.ext'
  rw [Array.toList_setIfInBounds]
  exact h
def anyT (T : Bool × List (List Nat × List Nat)) (l l' : List Bool) (i : Nat) : Bool := T.1 && zgf T.2 l i && zdA T.2 l i && (l.set i true == l')
theorem zaL (hT : rtab md ops = T) (h : anyT T l.toList l'.toList i = true) : anyB md ops l l' i = true := by
  simp only [anyT, Bool.and_eq_true] at h
  obtain ⟨⟨⟨h1, h2⟩, h3⟩, h4⟩ := h
  have h5 := zfV h3 hT
  have h6 := zhA h4
  subst hT
  simp only [anyB, Bool.and_eq_true]
  exact ⟨⟨⟨h1, by rw [free_eq]; exact h2⟩, h5⟩, h6⟩
def ziu (T : Bool × List (List Nat × List Nat)) (ds : List Nat) (l l' : List Bool) (i : Nat) : Bool := T.1 && zgf T.2 l i && zdA T.2 l i && zfM T.2 l && lastT T.2 l ds i && (l.set i true == l')
theorem zkr (hT : rtab md ops = T) (h : ziu T ds l.toList l'.toList i = true) : takeB md ops ds l l' i = true := by
  simp only [ziu, Bool.and_eq_true] at h
  obtain ⟨⟨⟨⟨⟨h1, h2⟩, h3⟩, h4⟩, h5⟩, h6⟩ := h
  have h7 := zfV h3 hT
  have h8 := zhA h6
  subst hT
  simp only [takeB, Bool.and_eq_true]
  exact ⟨⟨⟨⟨⟨h1, by rw [free_eq]; exact h2⟩, h7⟩, by rw [zjy]; exact h4⟩, by rw [zkz]; exact h5⟩, h8⟩
theorem zcd (hT : rtab md ops = T) (h : (zfj T.2 l.toList == [i] && l.toList.set i true == l'.toList) = true) : zeE md ops l l' i = true := by
  simp only [Bool.and_eq_true] at h
  obtain ⟨h1, h2⟩ := h
  subst hT
  simp only [zeE, Bool.and_eq_true]
  exact ⟨by rw [ready_eq]; exact h1, zhA h2⟩
theorem zde (hT : rtab md ops = T) (h : (zfj T.2 l.toList == []) = true) : (Region.ready md ops l == []) = true := by
  subst hT
  rw [ready_eq]
  exact h
def upM (B : List Nat) (d : Nat) : List Nat → Nat
  | [] => 0
  | n :: r => (2 ^ n ||| (if n < d then B.getD n 0 else 0)) ||| upM B d r
def zc2 (T : List (List Nat × List Nat)) (B : List Nat) : Bool := (List.range T.length).all fun d => match T[d]? with
  | some r => (B.getD d 0 ||| upM B d r.1) == upM B d r.1
  | none => false
theorem zid {B : List Nat} {d i : Nat} : ∀ {ns : List Nat}, (upM B d ns).testBit i = true → ∃ n ∈ ns, n = i ∨ (n < d ∧ (B.getD n 0).testBit i = true)
  | [], h => by simp [upM] at h
  | n :: r, h => by
    unfold upM at h
    rw [Nat.testBit_or, Nat.testBit_or, Bool.or_eq_true, Bool.or_eq_true] at h
    rcases h with (h | h) | h
    · rw [Nat.testBit_two_pow] at h
      exact ⟨n, List.mem_cons_self, .inl (by simpa using h)⟩
    · by_cases hn : n < d
      · rw [if_pos hn] at h
        exact ⟨n, List.mem_cons_self, .inr ⟨hn, h⟩⟩
      · rw [if_neg hn] at h
        simp at h
    · obtain ⟨m, hm, h2⟩ := zid h
      exact ⟨m, List.mem_cons_of_mem _ hm, h2⟩
theorem zg0 {T : List (List Nat × List Nat)} {B : List Nat} (hB : zc2 T B = true) : ∀ (fuel d : Nat), d < fuel → d < T.length → (B.getD d 0).testBit i = true → zeJ T i fuel d = true
  | 0, d, h, _, _ => by omega
  | fuel + 1, d, h, hd, hb => by
    have h1 := List.all_eq_true.1 hB d (List.mem_range.2 hd)
    cases hr : T[d]? with
    | none => rw [hr] at h1; simp at h1
    | some r =>
      rw [hr] at h1
      simp only [beq_iff_eq] at h1
      have h2 : (upM B d r.1).testBit i = true := by rw [← h1, Nat.testBit_or, hb, Bool.true_or]
      obtain ⟨n, hn, h3⟩ := zid h2
      unfold zeJ
      rw [hr]
      simp only
      rw [List.any_eq_true]
      refine ⟨n, hn, ?_⟩
      rcases h3 with rfl | ⟨h4, h5⟩
      · simp
      · rw [zg0 hB fuel n (by omega) (by omega) h5, Bool.or_true]
def zkl (T : List (List Nat × List Nat)) (B : List Nat) (l : List Bool) (ds : List Nat) (i : Nat) : Bool := ds.all fun d => l.getD d true || (decide (d < T.length) && (B.getD d 0).testBit i)
def zki (T : Bool × List (List Nat × List Nat)) (B : List Nat) (ds : List Nat) (l l' : List Bool) (i : Nat) : Bool := T.1 && zgf T.2 l i && zdA T.2 l i && zfM T.2 l && zkl T.2 B l ds i && (l.set i true == l')
theorem zbC {B : List Nat} (hT : rtab md ops = T) (hB : zc2 T.2 B = true) (h : zki T B ds l.toList l'.toList i = true) : takeB md ops ds l l' i = true := by
  refine zkr hT ?_
  simp only [zki, ziu, Bool.and_eq_true] at h ⊢
  obtain ⟨⟨⟨⟨⟨h1, h2⟩, h3⟩, h4⟩, h5⟩, h6⟩ := h
  refine ⟨⟨⟨⟨⟨h1, h2⟩, h3⟩, h4⟩, ?_⟩, h6⟩
  unfold zkl at h5
  unfold lastT
  rw [List.all_eq_true] at h5 ⊢
  intro d hd
  have h7 := h5 d hd
  rw [Bool.or_eq_true, Bool.and_eq_true, decide_eq_true_eq] at h7
  rcases h7 with h7 | ⟨h8, h9⟩
  · rw [h7, Bool.true_or]
  · rw [zg0 hB _ d h8 h8 h9, Bool.or_true]
theorem zcF {P : Program} {Q : Exit → Act → World → Prop} {S : World → Prop} {n : Nat} {a : Act} {w : World} {B : List Nat} (hT : rtab md ops = T) (hB : zc2 T.2 B = true) (h : zaa (rtab md ops = T) → zaa (zc2 T.2 B = true) → zbq P md ops Q S ds n l a w) : zbq P md ops Q S ds n l a w := h ⟨hT⟩ ⟨hB⟩
end
def zdL : Code → Nat → Option (Array Oper)
  | .region id ops _, k => if id == k then some ops else none
  | .seq a b, k => match zdL a k with
    | some o => some o
    | none => zdL b k
  | .cond _ a b, k => match zdL a k with
    | some o => some o
    | none => zdL b k
  | .block _ c, k => zdL c k
  | .loop c, k => zdL c k
  | .scope c, k => zdL c k
  | .rangeFunc _ _ a b, k => match zdL a k with
    | some o => some o
    | none => zdL b k
  | _, _ => none
def opsOf (f : Func) (k : Nat) : Array Oper := ((f.body.bind fun c => zdL c k)).getD #[]
end Go.Proofs.YtbicjgaadknmfaaDoorW.PrintLast
end
section
namespace Go.Proofs.YtbicjgaadknmfaaDoorW.PrintLast
section
variable {P : Program} {ops : Array Oper} {Q : Exit → Act → World → Prop} {md : Region.Mode} {S : World → Prop} {ds : List Nat} {T : Bool × List (List Nat × List Nat)}
end
end Go.Proofs.YtbicjgaadknmfaaDoorW.PrintLast
end
section
namespace Go.Proofs.YtbicjgaadknmfaaDoorW.PrintWords
open Go.RowKit
namespace Kd
section
variable {α : Type} {d : Kd α} {e base g o n cap : Nat} {ok okp : Nat → Prop} {w W : World} {v : Value} {xs : List α}
end
section
variable {α : Type} {enc : α → Value} {h1 : ∀ x, (enc x).oneCell' = true} {e base g o n cap : Nat} {ok : Nat → Prop} {W : World} {xs : List α}
end
end Kd
end Go.Proofs.YtbicjgaadknmfaaDoorW.PrintWords
end
section
namespace Go.Proofs.YtbicjgaadknmfaaDoorW.PrintWords
open Go.RowKit
namespace Kd
section
variable {α : Type} {d : Kd α} {W : World} {g n : Nat} {S ok : Nat → Prop} {A : Option Addr} {ad : Addr} {xs : List α}
end
end Kd
end Go.Proofs.YtbicjgaadknmfaaDoorW.PrintWords
end
section
namespace Go.Proofs.YtbicjgaadknmfaaDoorW.PrintWords
open Go.RowKit
section
variable {w w' u : World} {m B g : Nat} {o : Obj} {row : Option Nat} {S : Nat → Prop} {a : Addr} {v : Value}
end
namespace Kd
section
variable {α : Type} {d : Kd α} {e base n m : Nat} {ok : Nat → Prop} {w w' : World} {v : Value} {A : Option Addr} {xs : List α}
end
end Kd
end Go.Proofs.YtbicjgaadknmfaaDoorW.PrintWords
end
section
namespace Go.Proofs.YtbicjgaadknmfaaDoorW.PrintWords
open Go.RowKit
section
variable {P : Program} {d : Nat} {xs ys : Array Value} {f : Field} {fs : List Field} {a b : Value} {r s : Bool} {w : World}
theorem zjE (hn : (f.name == "_") = false) (ha : (part f.type xs f.offset).run P w = .ok a w) (hb : (part f.type ys f.offset).run P w = .ok b w) (he : (Op.equalIn d f.type a b).run P w = .ok r w) : (Op.eqFields d xs ys [f]).run P w = .ok r w := by
  have hn' : f.name ≠ "_" := by simpa using hn
  simp only [Op.eqFields, if_pos hn', Sem.run_bind, ha, hb, he, Result.andThen_ok]
  cases r <;> simp
theorem zf9 (hn : (f.name == "_") = false) (ha : (part f.type xs f.offset).run P w = .ok a w) (hb : (part f.type ys f.offset).run P w = .ok b w) (he : (Op.equalIn d f.type a b).run P w = .ok r w) (hr : (Op.eqFields d xs ys fs).run P w = .ok s w) : (Op.eqFields d xs ys (f :: fs)).run P w = .ok (r && s) w := by
  have hn' : f.name ≠ "_" := by simpa using hn
  rw [Op.eqFields]
  simp only [if_pos hn', Sem.run_bind, ha, hb, he, Result.andThen_ok]
  cases r
  · simp
  · simpa using hr
theorem zld {t : TypeId} {fs : Array Field} (hu : P.underlying t = some (.struct fs)) (hp : P.stoodInHeld t = false) (h : (Op.eqFields d xs ys fs.toList).run P w = .ok r w) : (Op.equalIn (d + 1) t (.agg xs) (.agg ys)).run P w = .ok r w := by
  have hf : P.fieldsOf t = fs := by simp [Program.fieldsOf, hu]
  rw [run_equalIn_struct (P := P) w d t xs ys (by rw [hf]; exact hu) hp, hf]
  exact h
end
end Go.Proofs.YtbicjgaadknmfaaDoorW.PrintWords
end
section
namespace Go.Proofs.YtbicjgaadknmfaaDoorW.PrintWords
theorem Reps.one {α : Type} {R : α → List Value → Prop} {ps : List α} {cs : List Value} {p : α} {v : Value} (hp : R p [v]) (h : Reps R 1 ps cs) : Reps R 1 (p :: ps) (v :: cs) := by
  refine ⟨by simp [h.1], fun j q hq => ?_⟩
  cases j with
  | zero =>
    simp only [List.getElem?_cons_zero, Option.some.injEq] at hq
    subst hq
    simpa using hp
  | succ j =>
    simp only [List.getElem?_cons_succ] at hq
    have h1 := h.2 j q hq
    simpa [Nat.mul_one] using h1
theorem Reps.front {α : Type} {R : α → List Value → Prop} {size : Nat} {ps : List α} {cs c all : List Value} {p : α} (hp : R p c) (hc : c.length = size) (h : Reps R size ps cs) (ha : c ++ cs = all) : Reps R size (p :: ps) all := by
  subst ha
  refine ⟨by rw [List.length_append, hc, h.1, List.length_cons, Nat.succ_mul, Nat.add_comm], fun j q hq => ?_⟩
  cases j with
  | zero =>
    simp only [List.getElem?_cons_zero, Option.some.injEq] at hq
    subst hq
    rw [Nat.zero_mul, List.drop_zero, List.take_append_of_le_length (by omega), List.take_of_length_le (by omega)]
    exact hp
  | succ j =>
    simp only [List.getElem?_cons_succ] at hq
    have h1 := h.2 j q hq
    rw [Nat.succ_mul, List.drop_append, List.drop_of_length_le (by rw [hc]; exact Nat.le_add_left _ _), List.nil_append, hc, Nat.add_sub_cancel]
    exact h1
theorem Reps.c2 {α : Type} {R : α → List Value → Prop} {ps : List α} {cs : List Value} {p : α} {va vb : Value} (hp : R p [va, vb]) (h : Reps R 2 ps cs) : Reps R 2 (p :: ps) (va :: vb :: cs) := Reps.front hp rfl h rfl
theorem Reps.c3 {α : Type} {R : α → List Value → Prop} {ps : List α} {cs : List Value} {p : α} {va vb vc : Value} (hp : R p [va, vb, vc]) (h : Reps R 3 ps cs) : Reps R 3 (p :: ps) (va :: vb :: vc :: cs) := Reps.front hp rfl h rfl
theorem Reps.c4 {α : Type} {R : α → List Value → Prop} {ps : List α} {cs : List Value} {p : α} {va vb vc vd : Value} (hp : R p [va, vb, vc, vd]) (h : Reps R 4 ps cs) : Reps R 4 (p :: ps) (va :: vb :: vc :: vd :: cs) := Reps.front hp rfl h rfl
theorem Reps.c5 {α : Type} {R : α → List Value → Prop} {ps : List α} {cs : List Value} {p : α} {va vb vc vd ve : Value} (hp : R p [va, vb, vc, vd, ve]) (h : Reps R 5 ps cs) : Reps R 5 (p :: ps) (va :: vb :: vc :: vd :: ve :: cs) := Reps.front hp rfl h rfl
theorem Reps.c6 {α : Type} {R : α → List Value → Prop} {ps : List α} {cs : List Value} {p : α} {va vb vc vd ve vf : Value} (hp : R p [va, vb, vc, vd, ve, vf]) (h : Reps R 6 ps cs) : Reps R 6 (p :: ps) (va :: vb :: vc :: vd :: ve :: vf :: cs) := Reps.front hp rfl h rfl
theorem Reps.c7 {α : Type} {R : α → List Value → Prop} {ps : List α} {cs : List Value} {p : α} {va vb vc vd ve vf vg : Value} (hp : R p [va, vb, vc, vd, ve, vf, vg]) (h : Reps R 7 ps cs) : Reps R 7 (p :: ps) (va :: vb :: vc :: vd :: ve :: vf :: vg :: cs) := Reps.front hp rfl h rfl
theorem Reps.c8 {α : Type} {R : α → List Value → Prop} {ps : List α} {cs : List Value} {p : α} {va vb vc vd ve vf vg vh : Value} (hp : R p [va, vb, vc, vd, ve, vf, vg, vh]) (h : Reps R 8 ps cs) : Reps R 8 (p :: ps) (va :: vb :: vc :: vd :: ve :: vf :: vg :: vh :: cs) := Reps.front hp rfl h rfl
theorem Reps.c9 {α : Type} {R : α → List Value → Prop} {ps : List α} {cs : List Value} {p : α} {va vb vc vd ve vf vg vh vi : Value} (hp : R p [va, vb, vc, vd, ve, vf, vg, vh, vi]) (h : Reps R 9 ps cs) : Reps R 9 (p :: ps) (va :: vb :: vc :: vd :: ve :: vf :: vg :: vh :: vi :: cs) := Reps.front hp rfl h rfl
theorem Reps.c10 {α : Type} {R : α → List Value → Prop} {ps : List α} {cs : List Value} {p : α} {va vb vc vd ve vf vg vh vi vj : Value} (hp : R p [va, vb, vc, vd, ve, vf, vg, vh, vi, vj]) (h : Reps R 10 ps cs) : Reps R 10 (p :: ps) (va :: vb :: vc :: vd :: ve :: vf :: vg :: vh :: vi :: vj :: cs) := Reps.front hp rfl h rfl
end Go.Proofs.YtbicjgaadknmfaaDoorW.PrintWords
end
section
namespace Go.Proofs.YtbicjgaadknmfaaDoorW.PrintLast
def up (b : Nat → Bool) (i : Nat) : Nat → Bool := fun j => if j = i then true else b j
section
variable {P : Program} {ops : Array Oper} {Q : Exit → Act → World → Prop} {md : Region.Mode} {T : Bool × List (List Nat × List Nat)} {B : List Nat} {O : List Nat} {b : Nat → Bool} {i j n : Nat}
end
end Go.Proofs.YtbicjgaadknmfaaDoorW.PrintLast
end
section
namespace Go.Proofs.YtbicjgaadknmfaaDoorW.PrintWords
open Go.RowKit
end Go.Proofs.YtbicjgaadknmfaaDoorW.PrintWords
namespace Go.Proofs.YtbicjgaadknmfaaDoorW.PrintLast
section
variable {ops : Array Oper} {a : Act} {o og : Oper} {g : Nat} {t : Tmp} {u : Bool}
end
end Go.Proofs.YtbicjgaadknmfaaDoorW.PrintLast
end
section
namespace Go.Proofs.YtbicjgaadknmfaaDoorW.PrintWords
open Go.RowKit
section
variable {P : Program} {ops : Array Oper} {rest : List Oper} {o : Oper} {a : Act} {Q : Exit → Act → World → Prop} {W : World}
theorem zbS (hw : Region.wanted o (yielded ops a.tmps) = true) (h : wpList P ops Q ({ o with guard := none } :: rest) a W) : wpList P ops Q (o :: rest) a W := by
  have h1 : Region.wanted { o with guard := none } (yielded ops a.tmps) = true := rfl
  unfold wpList at h ⊢
  rw [if_pos h1] at h
  rw [if_pos hw]
  exact h
end
end Go.Proofs.YtbicjgaadknmfaaDoorW.PrintWords
end
section
namespace Go.Proofs.YtbicjgaadknmfaaDoorW.PrintMore
open Go.RowKit Go.Proofs.YtbicjgaadknmfaaDoorW.PrintWords
namespace Kd
open Go.Proofs.YtbicjgaadknmfaaDoorW.PrintWords.Kd
theorem zlE {α : Type} {d : Kd α} {e base n cap : Nat} {ok : Nat → Prop} {W : World} {ad : Addr} {xs : List α} (h : d.R e W base ok (.slice (some ad) n cap) xs) (z : α) (i : Int) (h0 : 0 ≤ i) (h1 : i < n) :
    ∃ c, c.length = d.sz ∧ d.M W base (fun k => ok k ∧ some k ≠ (Value.slice (some ad) n cap).ownBlock) (xs.getD i.toNat z) c ∧ ∀ j u, c[j]? = some u → W.cell? (ad.add (i.toNat * d.sz + j)) = some u := by
  obtain ⟨g, hg⟩ : ∃ g, ad = ⟨g, 0, none⟩ := by
    obtain ⟨_, inner, ho, _⟩ := h
    rcases ho.2 with ⟨hv, _⟩ | ⟨g, cap', cur, hv, _⟩
    · cases hv
    · injection hv with ha _ _
      injection ha with ha
      exact ⟨g, ha⟩
  subst hg
  obtain ⟨c, hcl, hM, hcc, _⟩ := zhq h z i h0 h1
  refine ⟨c, hcl, d.M_mono (fun k hk => ⟨hk.1, fun he => hk.2 ?_⟩) hM, fun j u hu => ?_⟩
  · rw [zjz, Nat.zero_add]
    exact hcc j u hu
  · simpa [Value.ownBlock] using he
end Kd
namespace Kd
open Go.Proofs.YtbicjgaadknmfaaDoorW.PrintWords.Kd
section
variable {α : Type} {d : Kd α} {e base g N : Nat} {ok : Nat → Prop} {W w1 : World} {u v : Value} {xs : List α}
end
end Kd
theorem zhx (k k' : IntKind) (x y : Int) : Builtin.max2 (.int k x) (.int k' y) = pure (.int k (if x < y then y else x)) := by simp only [Builtin.max2, gt_iff_lt]
theorem zhD (k k' : IntKind) (x y : Int) : Builtin.min2 (.int k x) (.int k' y) = pure (.int k (if y < x then y else x)) := by simp only [Builtin.min2]
theorem zcl (ats : Array TypeId) (ty : TypeId) (a b : Value) : Builtin.max_ ats ty #[a, b] = (Builtin.max2 a b >>= fun s => pure s) := by simp only [Builtin.max_, List.foldlM_cons, List.foldlM_nil]
theorem zck (ats : Array TypeId) (ty : TypeId) (a b : Value) : Builtin.min_ ats ty #[a, b] = (Builtin.min2 a b >>= fun s => pure s) := by simp only [Builtin.min_, List.foldlM_cons, List.foldlM_nil]
theorem zbZ (ats : Array TypeId) (ty : TypeId) (a b c : Value) : Builtin.max_ ats ty #[a, b, c] = (Builtin.max2 a b >>= fun s => Builtin.max2 s c >>= fun s => pure s) := by simp only [Builtin.max_, List.foldlM_cons, List.foldlM_nil]
theorem zbX (ats : Array TypeId) (ty : TypeId) (a b c : Value) : Builtin.min_ ats ty #[a, b, c] = (Builtin.min2 a b >>= fun s => Builtin.min2 s c >>= fun s => pure s) := by simp only [Builtin.min_, List.foldlM_cons, List.foldlM_nil]
theorem zb9 (ats : Array TypeId) (ty : TypeId) (a b c d : Value) : Builtin.max_ ats ty #[a, b, c, d] = (Builtin.max2 a b >>= fun s => Builtin.max2 s c >>= fun s => Builtin.max2 s d >>= fun s => pure s) := by simp only [Builtin.max_, List.foldlM_cons, List.foldlM_nil]
theorem zb7 (ats : Array TypeId) (ty : TypeId) (a b c d : Value) : Builtin.min_ ats ty #[a, b, c, d] = (Builtin.min2 a b >>= fun s => Builtin.min2 s c >>= fun s => Builtin.min2 s d >>= fun s => pure s) := by simp only [Builtin.min_, List.foldlM_cons, List.foldlM_nil]
end Go.Proofs.YtbicjgaadknmfaaDoorW.PrintMore
namespace Go.Proofs.YtbicjgaadknmfaaDoorW.PrintWords
open Go.RowKit
section
variable {P : Program} {ops : Array Oper} {rest : List Oper} {o : Oper} {a : Act} {Q : Exit → Act → World → Prop} {W : World}
theorem zaI {f : FuncId} {zas : Array Operand} {ts : Array TypeId} (_ho : o.op = .call { callee := .value (.func f), args := zas, argTypes := ts }) (h : wpList P ops Q (o :: rest) a W) : wpList P ops Q (o :: rest) a W := h
theorem zcw {b : Builtin} {xs : Array Operand} {ts : Array TypeId} (_ho : o.op = .call { callee := .builtin b, args := xs, argTypes := ts }) (h : wpList P ops Q (o :: rest) a W) : wpList P ops Q (o :: rest) a W := h
end
def mx (a b : Int) : Int := if a < b then b else a
def mn (a b : Int) : Int := if b < a then b else a
theorem ziP (w : World) (n : Nat) : w.drewN n = w.drewN n := rfl
namespace Kd
section
variable {α : Type} {d : Kd α} {e base : Nat} {ok : Nat → Prop} {W w1 : World} {v : Value} {xs : List α}
end
section
variable {α : Type} {d : Kd α} {e base g n cap : Nat} {ok oki okp : Nat → Prop} {W : World} {xs : List α} {i : Int} {c : List Value}
end
section
variable {α : Type} {d : Kd α} {e base b b' g N : Nat} {ok ok1 : Nat → Prop} {W W2 w1 : World} {u v : Value} {xs ys : List α} {S : Nat → Prop}
theorem zls (hE : d.E = []) (h : d.R e W base ok1 v xs) (hok : ∀ k, v.ownBlock = some k → ok k) : d.R e W base ok v xs := zb0 (zfJ hE h) (fun k hk => hok k hk.symm)
end
end Kd
end Go.Proofs.YtbicjgaadknmfaaDoorW.PrintWords
namespace Go.Proofs.YtbicjgaadknmfaaDoorW.PrintWords
open Go.RowKit
namespace Kd
def V {α : Type} (d : Kd α) (_e : Nat) (W : World) (_base : Nat) (ok : Nat → Prop) (v : Value) (xs : List α) : Prop := ∃ A c, v = .slice A xs.length c ∧ xs.length ≤ c ∧ F d W ok A xs.length xs
section
variable {α β : Type} {d : Kd α} {e base base' n m c g N' lo hi : Nat} {ok ok' S : Nat → Prop} {w W w1 : World} {A : Option Addr} {ad : Addr} {u v v1 : Value} {xs : List α}
theorem zd5 (h : V d e W base ok v xs) (hF : ∀ A, F d W ok A xs.length xs → F d w1 ok' A xs.length xs) : V d e w1 base' ok' v xs := by
  obtain ⟨A, c, hv, hl, hf⟩ := h
  exact ⟨A, c, hv, hl, hF A hf⟩
theorem V_mk (hl : xs.length ≤ c) (hf : F d W ok A xs.length xs) : V d e W base ok (.slice A xs.length c) xs := ⟨A, c, rfl, hl, hf⟩
theorem V_at (h : V d e W base ok (.slice A n c) xs) : n = xs.length ∧ n ≤ c ∧ F d W ok A xs.length xs := by
  obtain ⟨A', c', hv, hl, hf⟩ := h
  injection hv with ha hn hc
  subst ha; subst hc
  exact ⟨hn, by rw [hn]; exact hl, hf⟩
theorem zb8 (h : V d e W base ok (.slice A n c) xs) : n = xs.length ∧ n ≤ c ∧ d.C W A xs.length xs := ⟨(V_at h).1, (V_at h).2.1, ziM (V_at h).2.2⟩
theorem V_F (h : V d e W base ok (.slice A n c) xs) : F d W ok A n xs := by
  obtain ⟨hn, _, hf⟩ := V_at h
  rw [hn]
  exact hf
theorem zer (d : Kd α) (e : Nat) (W : World) (base : Nat) (ok : Nat → Prop) : V d e W base ok (.slice none 0 0) [] := ⟨none, 0, rfl, Nat.le_refl _, zlz d W ok⟩
theorem zby (h : V d e W base ok v xs) (hok : ∀ k, ok k → ok' k) : V d e W base ok' v xs := zd5 h (fun _ hf => zgl hf hok)
theorem zct (h : V d e W base ok v xs) (hb : Below W.heap.size W w1) : V d e w1 base ok v xs := zd5 h (fun _ hf => zc0 hf hb)
theorem zbb (h : V d e W base ok v xs) (o : Obj) : V d e (W.alloc o) base ok v xs := zd5 h (fun _ hf => zkN hf o)
theorem zbf (h : V d e W base ok v xs) : V d e W.drew base ok v xs := zd5 h (fun _ hf => zlq hf)
theorem zbc (h : V d e W base ok v xs) (m : Nat) : V d e (W.drewN m) base ok v xs := zd5 h (fun _ hf => zkY hf m)
theorem zhl (h : V d e W base ok v xs) {p : Addr} (hok : ∀ k, ok k → k ≠ p.block) (u : Value) : V d e (W.setCell p u) base ok v xs := zd5 h (fun _ hf => zlC hf hok u)
theorem zkS (h : V d e W base (fun k => ok k ∧ some k ≠ u.ownBlock) v xs) (hg : W.grownBy w1 u.ownBlock) (hat : v1.ownBlock = u.ownBlock ∨ ∃ b, v1.ownBlock = some b ∧ W.heap.size ≤ b) : V d e w1 base (fun k => ok k ∧ some k ≠ v1.ownBlock) v xs := zd5 h (fun _ hf => zkX hf hg hat)
theorem zb6 (h : V d e W base (fun k => ok k ∧ some k ≠ v.ownBlock) u xs) (hg : W.grownBy w1 v.ownBlock) (hat : v1.ownBlock = v.ownBlock ∨ ∃ b, v1.ownBlock = some b ∧ W.heap.size ≤ b) : V d e w1 base (fun k => ok k ∧ some k ≠ v1.ownBlock) u xs := zkS h hg hat
theorem zjP (h : N d e W base (fun k => ok k ∧ some k ≠ v.ownBlock) u xs) (hg : W.grownBy w1 v.ownBlock) (hat : v1.ownBlock = v.ownBlock ∨ ∃ b, v1.ownBlock = some b ∧ W.heap.size ≤ b) : N d e w1 base (fun k => ok k ∧ some k ≠ v1.ownBlock) u xs := zkZ h hg hat
theorem zdv (h : V d e W base ok v xs) (hbase : ∀ k, u.ownBlock = some k → W.heap.size ≤ k) (hb : Below W.heap.size W w1) : V d e w1 base (fun k => ok k ∧ some k ≠ u.ownBlock) v xs := zd5 h (fun _ hf => zjQ hf hbase hb)
theorem zdj (h : V d e W base ok v xs) (a : Nat) (ha : W.heap.size ≤ a) : V d e W base (fun k => ok k ∧ k ≠ a) v xs := zd5 h (fun _ hf => zj0 hf a ha)
theorem zeW (h : V d e W base ok (.slice (some ad) n c) xs) (z : α) (i : Int) (h0 : 0 ≤ i) (h1 : i < n) :
    ∃ cs, cs.length = d.sz ∧ FK d W ok (xs.getD i.toNat z) cs ∧ ∀ j u, cs[j]? = some u → W.cell? (ad.add (i.toNat * d.sz + j)) = some u := by
  obtain ⟨ad', cs, he, hcl, hK, hcc, _⟩ := zko (V_F h) z i h0 h1
  injection he with he
  subst he
  exact ⟨cs, hcl, hK, hcc⟩
theorem zcm {l : List α} {cs : List Value} (h : FK (Kd.slice e d) W ok l cs) : ∃ A c, cs = [.slice A l.length c] ∧ l.length ≤ c ∧ F d W ok A l.length l := by
  obtain ⟨A, c, rfl, hl, _⟩ := zcT h
  refine ⟨A, c, rfl, hl, fun W' hW => ?_⟩
  obtain ⟨A', c', he, _, g'⟩ := h W' hW
  injection he with he _
  injection he with ha _ _
  rw [ha]
  exact g'
theorem zfR {l : List α} (hl : l.length ≤ c) (hf : F d W ok A l.length l) : FK (Kd.slice e d) W ok l [.slice A l.length c] := fun W' hW => ⟨A, c, rfl, hl, hf W' hW⟩
end
end Kd
end Go.Proofs.YtbicjgaadknmfaaDoorW.PrintWords
end
section
namespace Go.Proofs.YtbicjgaadknmfaaDoor.P
open Go.RowKit Go.Proofs.YtbicjgaadknmfaaDoorW.PrintWords Go.Proofs.YtbicjgaadknmfaaDoorW.PrintLast Go.Proofs.YtbicjgaadknmfaaDoorW.PrintMore
attribute [local go_sem] zhx zhD zcl zck zbZ zbX zb9 zb7
set_option linter.unusedVariables false
set_option linter.unusedSimpArgs false
def errW : Option Int → Value
  | none => .nilIface
  | some c => .iface 0 (.int .i64 c)
theorem zam : errW none = .nilIface := rfl
theorem zan (c : Int) : errW (some c) = .iface 0 (.int .i64 c) := rfl
theorem info3 : (Tryd.prog.info? 3).map (fun i => (i.zero, i.size, i.bytes)) = some (some (.int .i64 0), 1, 8) := by kernel_rfl
theorem zjl : (Tryd.prog.info? 54).map (fun i => (i.zero, i.size, i.bytes)) = some (some (.slice none 0 0), 1, 24) := by kernel_rfl
theorem zfk : (Tryd.prog.info? 56).map (fun i => (i.zero, i.size, i.bytes)) = some (some (.slice none 0 0), 1, 24) := by kernel_rfl
theorem zju : (Tryd.prog.info? 60).map (fun i => (i.zero, i.size, i.bytes)) = some (some (.agg #[(.int .i64 0), (.int .i64 0), (.slice none 0 0)]), 3, 40) := by kernel_rfl
theorem zea : (Tryd.prog.info? 101).map (fun i => (i.zero, i.size, i.bytes)) = some (some (.int .u32 0), 1, 4) := by kernel_rfl
theorem zkM : (Tryd.prog.info? 127).map (fun i => (i.zero, i.size, i.bytes)) = some (some (.agg #[(.string ⟨#[]⟩), (.slice none 0 0)]), 2, 40) := by kernel_rfl
def zhk (xs : List (List Int)) (i : Int) : (List Int) := xs.getD i.toNat ([] : List Int)
theorem zmh {w : World} {A : Option Addr} {n : Nat} {xs : List (List Int)} (h : Kd.C (Kd.slice 101 (Kd.int .u32)) w A n xs) (i : Int) (h0 : 0 ≤ i) (h1 : i < n) : ∃ ad A0 c0, A = some ad ∧ w.cell? (ad.add i.toNat) = some (.slice A0 (zhk xs i).length c0) ∧ (zhk xs i).length ≤ c0 ∧ (Kd.int .u32).C w A0 (zhk xs i).length (zhk xs i) := by
  obtain ⟨ad, c, e, _, hK, hc0⟩ := Kd.zdn h ([] : List Int) i h0 h1
  have hc : ∀ j u, c[j]? = some u → w.cell? (ad.add (i.toNat * 1 + j)) = some u := hc0
  obtain ⟨A0, c0, rfl, l0, g0⟩ := hK
  exact ⟨ad, A0, c0, e, by have hq := hc 0 _ rfl; rwa [Nat.mul_one, Nat.add_zero] at hq, l0, g0⟩
structure S62 where
  f0 : Int
  f1 : Int
  f2 : (List Int)
def z62 : S62 := ⟨(0 : Int), (0 : Int), ([] : List Int)⟩
def k62 : Kd S62 := Kd.iso (Kd.pair (Kd.int .i64) (Kd.pair (Kd.int .i64) (Kd.slice 101 (Kd.int .u32)))) (fun x : S62 => (x.f0, x.f1, x.f2))
theorem zeS : Kd.Heap k62 := Kd.zdK _ (Kd.zcG (Kd.zcX .i64) (Kd.zcG (Kd.zcX .i64) (Kd.zcS 101 (Kd.zcX .u32))))
theorem zf7 {w : World} {x : S62} {cs : List Value} (h : k62.K w x cs) : ∃ A2 c2, cs = [.int .i64 x.f0, .int .i64 x.f1, .slice A2 x.f2.length c2] ∧ x.f2.length ≤ c2 ∧ (Kd.int .u32).C w A2 x.f2.length x.f2 := by
  obtain ⟨_, _, rfl, rfl, ⟨_, _, rfl, rfl, ⟨A2, c2, rfl, l2, g2⟩⟩⟩ := h
  exact ⟨A2, c2, rfl, l2, g2⟩
theorem zlU {w : World} {base : Nat} {ok : Nat → Prop} {x : S62} {cs : List Value} (h : k62.M w base ok x cs) : ∃ v2, cs = [.int .i64 x.f0, .int .i64 x.f1, v2] ∧ (Kd.int .u32).R 101 w base ok v2 x.f2 := by
  obtain ⟨_, _, rfl, rfl, ⟨_, _, rfl, rfl, ⟨v2, rfl, g2⟩⟩⟩ := h
  exact ⟨v2, rfl, g2⟩
theorem zlf (w : World) (x : S62) {A2 : Option Addr} {c2 : Nat} (l2 : x.f2.length ≤ c2) (g2 : (Kd.int .u32).C w A2 x.f2.length x.f2) : k62.K w x [.int .i64 x.f0, .int .i64 x.f1, .slice A2 x.f2.length c2] := ⟨[.int .i64 x.f0], [.int .i64 x.f1, .slice A2 x.f2.length c2], rfl, rfl, ⟨[.int .i64 x.f1], [.slice A2 x.f2.length c2], rfl, rfl, ⟨A2, c2, rfl, l2, g2⟩⟩⟩
theorem zmb (w : World) (base : Nat) (ok : Nat → Prop) (x : S62) {v2 : Value} (g2 : (Kd.int .u32).R 101 w base ok v2 x.f2) : k62.M w base ok x [.int .i64 x.f0, .int .i64 x.f1, v2] := ⟨[.int .i64 x.f0], [.int .i64 x.f1, v2], rfl, rfl, ⟨[.int .i64 x.f1], [v2], rfl, rfl, ⟨v2, rfl, g2⟩⟩⟩
theorem zfi {W : World} {ok : Nat → Prop} {x : S62} {cs : List Value} (h : Kd.FK k62 W ok x cs) : ∃ A2 c2, cs = [.int .i64 x.f0, .int .i64 x.f1, .slice A2 x.f2.length c2] ∧ x.f2.length ≤ c2 ∧ Kd.F (Kd.int .u32) W ok A2 x.f2.length x.f2 := by
  obtain ⟨A2, c2, rfl, l2, _⟩ := zf7 (Kd.zcT h)
  exact ⟨A2, c2, rfl, l2, (fun W' hW => by obtain ⟨A2_, c2_, he, l2_, g2_⟩ := zf7 (h W' hW); injection (Option.some.inj (show some (Value.slice A2 x.f2.length c2) = some (Value.slice A2_ x.f2.length c2_) from congrArg (fun l => l[2]?) he)) with ha_ _ _; rw [ha_]; exact g2_)⟩
theorem zma (W : World) (ok : Nat → Prop) (x : S62) {A2 : Option Addr} {c2 : Nat} (l2 : x.f2.length ≤ c2) (g2 : Kd.F (Kd.int .u32) W ok A2 x.f2.length x.f2) : Kd.FK k62 W ok x [.int .i64 x.f0, .int .i64 x.f1, .slice A2 x.f2.length c2] := fun W2 hW => zlf W2 x l2 (g2 W2 hW)
def zbe (xs : List S62) (i : Int) : S62 := xs.getD i.toNat z62
theorem zdk {w : World} {A : Option Addr} {n : Nat} {xs : List S62} (h : Kd.C k62 w A n xs) (i : Int) (h0 : 0 ≤ i) (h1 : i < n) : ∃ ad A2 c2, A = some ad ∧ w.cell? (ad.add (i.toNat * 3)) = some (.int .i64 (zbe xs i).f0) ∧ w.cell? ⟨(ad.add (i.toNat * 3)).block, (ad.add (i.toNat * 3)).off + 1, none⟩ = some (.int .i64 (zbe xs i).f1) ∧ w.cell? ⟨(ad.add (i.toNat * 3)).block, (ad.add (i.toNat * 3)).off + 2, none⟩ = some (.slice A2 (zbe xs i).f2.length c2) ∧ (zbe xs i).f2.length ≤ c2 ∧ (Kd.int .u32).C w A2 (zbe xs i).f2.length (zbe xs i).f2 := by
  obtain ⟨ad, c, e, _, hK, hc0⟩ := Kd.zdn h z62 i h0 h1
  have hc : ∀ j u, c[j]? = some u → w.cell? (ad.add (i.toNat * 3 + j)) = some u := hc0
  obtain ⟨A2, c2, rfl, l2, g2⟩ := zf7 hK
  exact ⟨ad, A2, c2, e, hc 0 _ rfl, by rw [← zbY _ _ 1 (by omega)]; exact hc 1 _ rfl, by rw [← zbY _ _ 2 (by omega)]; exact hc 2 _ rfl, l2, g2⟩
def zbH (xs : List (List S62)) (i : Int) : (List S62) := xs.getD i.toNat ([] : List S62)
theorem zdS {w : World} {A : Option Addr} {n : Nat} {xs : List (List S62)} (h : Kd.C (Kd.slice 62 k62) w A n xs) (i : Int) (h0 : 0 ≤ i) (h1 : i < n) : ∃ ad A0 c0, A = some ad ∧ w.cell? (ad.add i.toNat) = some (.slice A0 (zbH xs i).length c0) ∧ (zbH xs i).length ≤ c0 ∧ k62.C w A0 (zbH xs i).length (zbH xs i) := by
  obtain ⟨ad, c, e, _, hK, hc0⟩ := Kd.zdn h ([] : List S62) i h0 h1
  have hc : ∀ j u, c[j]? = some u → w.cell? (ad.add (i.toNat * 1 + j)) = some u := hc0
  obtain ⟨A0, c0, rfl, l0, g0⟩ := hK
  exact ⟨ad, A0, c0, e, by have hq := hc 0 _ rfl; rwa [Nat.mul_one, Nat.add_zero] at hq, l0, g0⟩
structure S121 where
  f0 : ByteArray
  f1 : (List S62)
def z121 : S121 := ⟨(⟨#[]⟩ : ByteArray), ([] : List S62)⟩
def k121 : Kd S121 := Kd.iso (Kd.pair Kd.string (Kd.slice 62 k62)) (fun x : S121 => (x.f0, x.f1))
theorem zfA : Kd.Heap k121 := Kd.zdK _ (Kd.zcG Kd.zdR (Kd.zcS 62 zeS))
theorem zfm {w : World} {x : S121} {cs : List Value} (h : k121.K w x cs) : ∃ A1 c1, cs = [.string x.f0, .slice A1 x.f1.length c1] ∧ x.f1.length ≤ c1 ∧ k62.C w A1 x.f1.length x.f1 := by
  obtain ⟨_, _, rfl, rfl, ⟨A1, c1, rfl, l1, g1⟩⟩ := h
  exact ⟨A1, c1, rfl, l1, g1⟩
theorem zly {w : World} {base : Nat} {ok : Nat → Prop} {x : S121} {cs : List Value} (h : k121.M w base ok x cs) : ∃ v1, cs = [.string x.f0, v1] ∧ k62.R 62 w base ok v1 x.f1 := by
  obtain ⟨_, _, rfl, rfl, ⟨v1, rfl, g1⟩⟩ := h
  exact ⟨v1, rfl, g1⟩
theorem zkV (w : World) (x : S121) {A1 : Option Addr} {c1 : Nat} (l1 : x.f1.length ≤ c1) (g1 : k62.C w A1 x.f1.length x.f1) : k121.K w x [.string x.f0, .slice A1 x.f1.length c1] := ⟨[.string x.f0], [.slice A1 x.f1.length c1], rfl, rfl, ⟨A1, c1, rfl, l1, g1⟩⟩
theorem zl5 (w : World) (base : Nat) (ok : Nat → Prop) (x : S121) {v1 : Value} (g1 : k62.R 62 w base ok v1 x.f1) : k121.M w base ok x [.string x.f0, v1] := ⟨[.string x.f0], [v1], rfl, rfl, ⟨v1, rfl, g1⟩⟩
theorem ze6 {W : World} {ok : Nat → Prop} {x : S121} {cs : List Value} (h : Kd.FK k121 W ok x cs) : ∃ A1 c1, cs = [.string x.f0, .slice A1 x.f1.length c1] ∧ x.f1.length ≤ c1 ∧ Kd.F k62 W ok A1 x.f1.length x.f1 := by
  obtain ⟨A1, c1, rfl, l1, _⟩ := zfm (Kd.zcT h)
  exact ⟨A1, c1, rfl, l1, (fun W' hW => by obtain ⟨A1_, c1_, he, l1_, g1_⟩ := zfm (h W' hW); injection (Option.some.inj (show some (Value.slice A1 x.f1.length c1) = some (Value.slice A1_ x.f1.length c1_) from congrArg (fun l => l[1]?) he)) with ha_ _ _; rw [ha_]; exact g1_)⟩
theorem zl1 (W : World) (ok : Nat → Prop) (x : S121) {A1 : Option Addr} {c1 : Nat} (l1 : x.f1.length ≤ c1) (g1 : Kd.F k62 W ok A1 x.f1.length x.f1) : Kd.FK k121 W ok x [.string x.f0, .slice A1 x.f1.length c1] := fun W2 hW => zkV W2 x l1 (g1 W2 hW)
def zbg (xs : List S121) (i : Int) : S121 := xs.getD i.toNat z121
theorem zc1 {w : World} {A : Option Addr} {n : Nat} {xs : List S121} (h : Kd.C k121 w A n xs) (i : Int) (h0 : 0 ≤ i) (h1 : i < n) : ∃ ad A1 c1, A = some ad ∧ w.cell? (ad.add (i.toNat * 2)) = some (.string (zbg xs i).f0) ∧ w.cell? ⟨(ad.add (i.toNat * 2)).block, (ad.add (i.toNat * 2)).off + 1, none⟩ = some (.slice A1 (zbg xs i).f1.length c1) ∧ (zbg xs i).f1.length ≤ c1 ∧ k62.C w A1 (zbg xs i).f1.length (zbg xs i).f1 := by
  obtain ⟨ad, c, e, _, hK, hc0⟩ := Kd.zdn h z121 i h0 h1
  have hc : ∀ j u, c[j]? = some u → w.cell? (ad.add (i.toNat * 2 + j)) = some u := hc0
  obtain ⟨A1, c1, rfl, l1, g1⟩ := zfm hK
  exact ⟨ad, A1, c1, e, hc 0 _ rfl, by rw [← zbY _ _ 1 (by omega)]; exact hc 1 _ rfl, l1, g1⟩
structure S136 where
  f0 : Int
  f1 : ByteArray
  f2 : Int
def z136 : S136 := ⟨(0 : Int), (⟨#[]⟩ : ByteArray), (0 : Int)⟩
def k136 : Kd S136 := Kd.iso (Kd.pair (Kd.int .i64) (Kd.pair Kd.string (Kd.int .i64))) (fun x : S136 => (x.f0, x.f1, x.f2))
theorem zlR : Kd.Heap k136 := Kd.zdK _ (Kd.zcG (Kd.zcX .i64) (Kd.zcG Kd.zdR (Kd.zcX .i64)))
theorem zi0 {w : World} {x : S136} {cs : List Value} (h : k136.K w x cs) : cs = [.int .i64 x.f0, .string x.f1, .int .i64 x.f2] := by
  obtain ⟨_, _, rfl, rfl, ⟨_, _, rfl, rfl, rfl⟩⟩ := h
  exact rfl
theorem ziz {w : World} {base : Nat} {ok : Nat → Prop} {x : S136} {cs : List Value} (h : k136.M w base ok x cs) : cs = [.int .i64 x.f0, .string x.f1, .int .i64 x.f2] := by
  obtain ⟨_, _, rfl, rfl, ⟨_, _, rfl, rfl, rfl⟩⟩ := h
  exact rfl
theorem zkA (w : World) (x : S136)  : k136.K w x [.int .i64 x.f0, .string x.f1, .int .i64 x.f2] := ⟨[.int .i64 x.f0], [.string x.f1, .int .i64 x.f2], rfl, rfl, ⟨[.string x.f1], [.int .i64 x.f2], rfl, rfl, rfl⟩⟩
theorem zhr (w : World) (base : Nat) (ok : Nat → Prop) (x : S136)  : k136.M w base ok x [.int .i64 x.f0, .string x.f1, .int .i64 x.f2] := ⟨[.int .i64 x.f0], [.string x.f1, .int .i64 x.f2], rfl, rfl, ⟨[.string x.f1], [.int .i64 x.f2], rfl, rfl, rfl⟩⟩
theorem zl0 (W : World) (ok : Nat → Prop) (x : S136) : Kd.FK k136 W ok x [.int .i64 x.f0, .string x.f1, .int .i64 x.f2] := fun W2 _ => zkA W2 x
def zeI (xs : List S136) (i : Int) : S136 := xs.getD i.toNat z136
theorem zkI {w : World} {A : Option Addr} {n : Nat} {xs : List S136} (h : Kd.C k136 w A n xs) (i : Int) (h0 : 0 ≤ i) (h1 : i < n) : ∃ ad , A = some ad ∧ w.cell? (ad.add (i.toNat * 3)) = some (.int .i64 (zeI xs i).f0) ∧ w.cell? ⟨(ad.add (i.toNat * 3)).block, (ad.add (i.toNat * 3)).off + 1, none⟩ = some (.string (zeI xs i).f1) ∧ w.cell? ⟨(ad.add (i.toNat * 3)).block, (ad.add (i.toNat * 3)).off + 2, none⟩ = some (.int .i64 (zeI xs i).f2) := by
  obtain ⟨ad, c, e, _, hK, hc0⟩ := Kd.zdn h z136 i h0 h1
  have hc : ∀ j u, c[j]? = some u → w.cell? (ad.add (i.toNat * 3 + j)) = some u := hc0
  obtain rfl := zi0 hK
  exact ⟨ad, e, hc 0 _ rfl, by rw [← zbY _ _ 1 (by omega)]; exact hc 1 _ rfl, by rw [← zbY _ _ 2 (by omega)]; exact hc 2 _ rfl⟩
structure S134 where
  f0 : Int
  f1 : ByteArray
  f2 : Int
def z134 : S134 := ⟨(0 : Int), (⟨#[]⟩ : ByteArray), (0 : Int)⟩
def k134 : Kd S134 := Kd.iso (Kd.pair (Kd.int .i64) (Kd.pair Kd.string (Kd.int .i64))) (fun x : S134 => (x.f0, x.f1, x.f2))
theorem zlN : Kd.Heap k134 := Kd.zdK _ (Kd.zcG (Kd.zcX .i64) (Kd.zcG Kd.zdR (Kd.zcX .i64)))
theorem zja {w : World} {x : S134} {cs : List Value} (h : k134.K w x cs) : cs = [.int .i64 x.f0, .string x.f1, .int .i64 x.f2] := by
  obtain ⟨_, _, rfl, rfl, ⟨_, _, rfl, rfl, rfl⟩⟩ := h
  exact rfl
theorem zlJ {w : World} {base : Nat} {ok : Nat → Prop} {x : S134} {cs : List Value} (h : k134.M w base ok x cs) : cs = [.int .i64 x.f0, .string x.f1, .int .i64 x.f2] := by
  obtain ⟨_, _, rfl, rfl, ⟨_, _, rfl, rfl, rfl⟩⟩ := h
  exact rfl
theorem zkH (w : World) (x : S134)  : k134.K w x [.int .i64 x.f0, .string x.f1, .int .i64 x.f2] := ⟨[.int .i64 x.f0], [.string x.f1, .int .i64 x.f2], rfl, rfl, ⟨[.string x.f1], [.int .i64 x.f2], rfl, rfl, rfl⟩⟩
theorem zl4 (w : World) (base : Nat) (ok : Nat → Prop) (x : S134)  : k134.M w base ok x [.int .i64 x.f0, .string x.f1, .int .i64 x.f2] := ⟨[.int .i64 x.f0], [.string x.f1, .int .i64 x.f2], rfl, rfl, ⟨[.string x.f1], [.int .i64 x.f2], rfl, rfl, rfl⟩⟩
theorem zl3 (W : World) (ok : Nat → Prop) (x : S134) : Kd.FK k134 W ok x [.int .i64 x.f0, .string x.f1, .int .i64 x.f2] := fun W2 _ => zkH W2 x
def zgA (xs : List S134) (i : Int) : S134 := xs.getD i.toNat z134
theorem zmd {w : World} {A : Option Addr} {n : Nat} {xs : List S134} (h : Kd.C k134 w A n xs) (i : Int) (h0 : 0 ≤ i) (h1 : i < n) : ∃ ad , A = some ad ∧ w.cell? (ad.add (i.toNat * 3)) = some (.int .i64 (zgA xs i).f0) ∧ w.cell? ⟨(ad.add (i.toNat * 3)).block, (ad.add (i.toNat * 3)).off + 1, none⟩ = some (.string (zgA xs i).f1) ∧ w.cell? ⟨(ad.add (i.toNat * 3)).block, (ad.add (i.toNat * 3)).off + 2, none⟩ = some (.int .i64 (zgA xs i).f2) := by
  obtain ⟨ad, c, e, _, hK, hc0⟩ := Kd.zdn h z134 i h0 h1
  have hc : ∀ j u, c[j]? = some u → w.cell? (ad.add (i.toNat * 3 + j)) = some u := hc0
  obtain rfl := zja hK
  exact ⟨ad, e, hc 0 _ rfl, by rw [← zbY _ _ 1 (by omega)]; exact hc 1 _ rfl, by rw [← zbY _ _ 2 (by omega)]; exact hc 2 _ rfl⟩
structure S60 where
  f0 : Int
  f1 : Int
  f2 : (List Int)
def z60 : S60 := ⟨(0 : Int), (0 : Int), ([] : List Int)⟩
def k60 : Kd S60 := Kd.iso (Kd.pair (Kd.int .i64) (Kd.pair (Kd.int .i64) (Kd.slice 101 (Kd.int .u32)))) (fun x : S60 => (x.f0, x.f1, x.f2))
theorem zhE : Kd.Heap k60 := Kd.zdK _ (Kd.zcG (Kd.zcX .i64) (Kd.zcG (Kd.zcX .i64) (Kd.zcS 101 (Kd.zcX .u32))))
theorem zf3 {w : World} {x : S60} {cs : List Value} (h : k60.K w x cs) : ∃ A2 c2, cs = [.int .i64 x.f0, .int .i64 x.f1, .slice A2 x.f2.length c2] ∧ x.f2.length ≤ c2 ∧ (Kd.int .u32).C w A2 x.f2.length x.f2 := by
  obtain ⟨_, _, rfl, rfl, ⟨_, _, rfl, rfl, ⟨A2, c2, rfl, l2, g2⟩⟩⟩ := h
  exact ⟨A2, c2, rfl, l2, g2⟩
theorem zlV {w : World} {base : Nat} {ok : Nat → Prop} {x : S60} {cs : List Value} (h : k60.M w base ok x cs) : ∃ v2, cs = [.int .i64 x.f0, .int .i64 x.f1, v2] ∧ (Kd.int .u32).R 101 w base ok v2 x.f2 := by
  obtain ⟨_, _, rfl, rfl, ⟨_, _, rfl, rfl, ⟨v2, rfl, g2⟩⟩⟩ := h
  exact ⟨v2, rfl, g2⟩
theorem zhP (w : World) (x : S60) {A2 : Option Addr} {c2 : Nat} (l2 : x.f2.length ≤ c2) (g2 : (Kd.int .u32).C w A2 x.f2.length x.f2) : k60.K w x [.int .i64 x.f0, .int .i64 x.f1, .slice A2 x.f2.length c2] := ⟨[.int .i64 x.f0], [.int .i64 x.f1, .slice A2 x.f2.length c2], rfl, rfl, ⟨[.int .i64 x.f1], [.slice A2 x.f2.length c2], rfl, rfl, ⟨A2, c2, rfl, l2, g2⟩⟩⟩
theorem zk2 (w : World) (base : Nat) (ok : Nat → Prop) (x : S60) {v2 : Value} (g2 : (Kd.int .u32).R 101 w base ok v2 x.f2) : k60.M w base ok x [.int .i64 x.f0, .int .i64 x.f1, v2] := ⟨[.int .i64 x.f0], [.int .i64 x.f1, v2], rfl, rfl, ⟨[.int .i64 x.f1], [v2], rfl, rfl, ⟨v2, rfl, g2⟩⟩⟩
theorem zlT {W : World} {ok : Nat → Prop} {x : S60} {cs : List Value} (h : Kd.FK k60 W ok x cs) : ∃ A2 c2, cs = [.int .i64 x.f0, .int .i64 x.f1, .slice A2 x.f2.length c2] ∧ x.f2.length ≤ c2 ∧ Kd.F (Kd.int .u32) W ok A2 x.f2.length x.f2 := by
  obtain ⟨A2, c2, rfl, l2, _⟩ := zf3 (Kd.zcT h)
  exact ⟨A2, c2, rfl, l2, (fun W' hW => by obtain ⟨A2_, c2_, he, l2_, g2_⟩ := zf3 (h W' hW); injection (Option.some.inj (show some (Value.slice A2 x.f2.length c2) = some (Value.slice A2_ x.f2.length c2_) from congrArg (fun l => l[2]?) he)) with ha_ _ _; rw [ha_]; exact g2_)⟩
theorem zkL (W : World) (ok : Nat → Prop) (x : S60) {A2 : Option Addr} {c2 : Nat} (l2 : x.f2.length ≤ c2) (g2 : Kd.F (Kd.int .u32) W ok A2 x.f2.length x.f2) : Kd.FK k60 W ok x [.int .i64 x.f0, .int .i64 x.f1, .slice A2 x.f2.length c2] := fun W2 hW => zhP W2 x l2 (g2 W2 hW)
def zaQ (xs : List S60) (i : Int) : S60 := xs.getD i.toNat z60
theorem zdV {w : World} {A : Option Addr} {n : Nat} {xs : List S60} (h : Kd.C k60 w A n xs) (i : Int) (h0 : 0 ≤ i) (h1 : i < n) : ∃ ad A2 c2, A = some ad ∧ w.cell? (ad.add (i.toNat * 3)) = some (.int .i64 (zaQ xs i).f0) ∧ w.cell? ⟨(ad.add (i.toNat * 3)).block, (ad.add (i.toNat * 3)).off + 1, none⟩ = some (.int .i64 (zaQ xs i).f1) ∧ w.cell? ⟨(ad.add (i.toNat * 3)).block, (ad.add (i.toNat * 3)).off + 2, none⟩ = some (.slice A2 (zaQ xs i).f2.length c2) ∧ (zaQ xs i).f2.length ≤ c2 ∧ (Kd.int .u32).C w A2 (zaQ xs i).f2.length (zaQ xs i).f2 := by
  obtain ⟨ad, c, e, _, hK, hc0⟩ := Kd.zdn h z60 i h0 h1
  have hc : ∀ j u, c[j]? = some u → w.cell? (ad.add (i.toNat * 3 + j)) = some u := hc0
  obtain ⟨A2, c2, rfl, l2, g2⟩ := zf3 hK
  exact ⟨ad, A2, c2, e, hc 0 _ rfl, by rw [← zbY _ _ 1 (by omega)]; exact hc 1 _ rfl, by rw [← zbY _ _ 2 (by omega)]; exact hc 2 _ rfl, l2, g2⟩
def zcO (xs : List (List S60)) (i : Int) : (List S60) := xs.getD i.toNat ([] : List S60)
theorem zgn {w : World} {A : Option Addr} {n : Nat} {xs : List (List S60)} (h : Kd.C (Kd.slice 60 k60) w A n xs) (i : Int) (h0 : 0 ≤ i) (h1 : i < n) : ∃ ad A0 c0, A = some ad ∧ w.cell? (ad.add i.toNat) = some (.slice A0 (zcO xs i).length c0) ∧ (zcO xs i).length ≤ c0 ∧ k60.C w A0 (zcO xs i).length (zcO xs i) := by
  obtain ⟨ad, c, e, _, hK, hc0⟩ := Kd.zdn h ([] : List S60) i h0 h1
  have hc : ∀ j u, c[j]? = some u → w.cell? (ad.add (i.toNat * 1 + j)) = some u := hc0
  obtain ⟨A0, c0, rfl, l0, g0⟩ := hK
  exact ⟨ad, A0, c0, e, by have hq := hc 0 _ rfl; rwa [Nat.mul_one, Nat.add_zero] at hq, l0, g0⟩
structure S127 where
  f0 : ByteArray
  f1 : (List S60)
def z127 : S127 := ⟨(⟨#[]⟩ : ByteArray), ([] : List S60)⟩
def k127 : Kd S127 := Kd.iso (Kd.pair Kd.string (Kd.slice 60 k60)) (fun x : S127 => (x.f0, x.f1))
theorem zlL : Kd.Heap k127 := Kd.zdK _ (Kd.zcG Kd.zdR (Kd.zcS 60 zhE))
theorem zfv {w : World} {x : S127} {cs : List Value} (h : k127.K w x cs) : ∃ A1 c1, cs = [.string x.f0, .slice A1 x.f1.length c1] ∧ x.f1.length ≤ c1 ∧ k60.C w A1 x.f1.length x.f1 := by
  obtain ⟨_, _, rfl, rfl, ⟨A1, c1, rfl, l1, g1⟩⟩ := h
  exact ⟨A1, c1, rfl, l1, g1⟩
theorem zlB {w : World} {base : Nat} {ok : Nat → Prop} {x : S127} {cs : List Value} (h : k127.M w base ok x cs) : ∃ v1, cs = [.string x.f0, v1] ∧ k60.R 60 w base ok v1 x.f1 := by
  obtain ⟨_, _, rfl, rfl, ⟨v1, rfl, g1⟩⟩ := h
  exact ⟨v1, rfl, g1⟩
theorem zku (w : World) (x : S127) {A1 : Option Addr} {c1 : Nat} (l1 : x.f1.length ≤ c1) (g1 : k60.C w A1 x.f1.length x.f1) : k127.K w x [.string x.f0, .slice A1 x.f1.length c1] := ⟨[.string x.f0], [.slice A1 x.f1.length c1], rfl, rfl, ⟨A1, c1, rfl, l1, g1⟩⟩
theorem zl2 (w : World) (base : Nat) (ok : Nat → Prop) (x : S127) {v1 : Value} (g1 : k60.R 60 w base ok v1 x.f1) : k127.M w base ok x [.string x.f0, v1] := ⟨[.string x.f0], [v1], rfl, rfl, ⟨v1, rfl, g1⟩⟩
theorem zlF {W : World} {ok : Nat → Prop} {x : S127} {cs : List Value} (h : Kd.FK k127 W ok x cs) : ∃ A1 c1, cs = [.string x.f0, .slice A1 x.f1.length c1] ∧ x.f1.length ≤ c1 ∧ Kd.F k60 W ok A1 x.f1.length x.f1 := by
  obtain ⟨A1, c1, rfl, l1, _⟩ := zfv (Kd.zcT h)
  exact ⟨A1, c1, rfl, l1, (fun W' hW => by obtain ⟨A1_, c1_, he, l1_, g1_⟩ := zfv (h W' hW); injection (Option.some.inj (show some (Value.slice A1 x.f1.length c1) = some (Value.slice A1_ x.f1.length c1_) from congrArg (fun l => l[1]?) he)) with ha_ _ _; rw [ha_]; exact g1_)⟩
theorem zjR (W : World) (ok : Nat → Prop) (x : S127) {A1 : Option Addr} {c1 : Nat} (l1 : x.f1.length ≤ c1) (g1 : Kd.F k60 W ok A1 x.f1.length x.f1) : Kd.FK k127 W ok x [.string x.f0, .slice A1 x.f1.length c1] := fun W2 hW => zku W2 x l1 (g1 W2 hW)
def zaS (xs : List S127) (i : Int) : S127 := xs.getD i.toNat z127
theorem zef {w : World} {A : Option Addr} {n : Nat} {xs : List S127} (h : Kd.C k127 w A n xs) (i : Int) (h0 : 0 ≤ i) (h1 : i < n) : ∃ ad A1 c1, A = some ad ∧ w.cell? (ad.add (i.toNat * 2)) = some (.string (zaS xs i).f0) ∧ w.cell? ⟨(ad.add (i.toNat * 2)).block, (ad.add (i.toNat * 2)).off + 1, none⟩ = some (.slice A1 (zaS xs i).f1.length c1) ∧ (zaS xs i).f1.length ≤ c1 ∧ k60.C w A1 (zaS xs i).f1.length (zaS xs i).f1 := by
  obtain ⟨ad, c, e, _, hK, hc0⟩ := Kd.zdn h z127 i h0 h1
  have hc : ∀ j u, c[j]? = some u → w.cell? (ad.add (i.toNat * 2 + j)) = some u := hc0
  obtain ⟨A1, c1, rfl, l1, g1⟩ := zfv hK
  exact ⟨ad, A1, c1, e, hc 0 _ rfl, by rw [← zbY _ _ 1 (by omega)]; exact hc 1 _ rfl, l1, g1⟩
theorem zcu (k k' : IntKind) (x y : Int) : Builtin.max2 (.int k x) (.int k' y) = pure (.int k (mx x y)) := zhx k k' x y
theorem zcp (k k' : IntKind) (x y : Int) : Builtin.min2 (.int k x) (.int k' y) = pure (.int k (mn x y)) := zhD k k' x y
theorem u32w (x : Int) : IntKind.u32.wrap x = x % 4294967296 := by first | rfl | simp [IntKind.wrap]
theorem zmf (x y : Int) : (x % 4294967296 - y) % 4294967296 = (x - y) % 4294967296 := by omega
end Go.Proofs.YtbicjgaadknmfaaDoor.P
end
section
namespace Go.Proofs.YtbicjgaadknmfaaDoor.P
open Go.RowKit Go.Proofs.YtbicjgaadknmfaaDoorW.PrintWords Go.Proofs.YtbicjgaadknmfaaDoorW.PrintLast Go.Proofs.YtbicjgaadknmfaaDoorW.PrintMore
attribute [local go_sem] zcu zcp zcl zck zbZ zbX zb9 zb7
set_option linter.unusedVariables false
set_option linter.unusedSimpArgs false
theorem zkj (d : Nat) (w : World) (x0 y0 : Int) (x1 y1 : Int) (x2 y2 : Int) (x3 y3 : Int) :
    (Op.equalIn (d + 2) 25 (.agg #[.int .i64 x0, .int .i64 x1, .int .i64 x2, .int .i64 x3]) (.agg #[.int .i64 y0, .int .i64 y1, .int .i64 y2, .int .i64 y3])).run Tryd.prog w = .ok (x0 == y0 && (x1 == y1 && (x2 == y2 && (x3 == y3)))) w := by
  refine zld Tryd.underlying25 (by kernel_rfl) ?_
  refine zf9 (by rfl) (by go_simp; rfl) (by go_simp; rfl) (by go_simp) ?_
  refine zf9 (by rfl) (by go_simp; rfl) (by go_simp; rfl) (by go_simp) ?_
  refine zf9 (by rfl) (by go_simp; rfl) (by go_simp; rfl) (by go_simp) ?_
  exact zjE (by rfl) (by go_simp; rfl) (by go_simp; rfl) (by go_simp)
end Go.Proofs.YtbicjgaadknmfaaDoor.P
end
section
namespace Go.Proofs.YtbicjgaadknmfaaDoor.M
open Go.RowKit Go.Proofs.YtbicjgaadknmfaaDoorW.PrintWords
set_option linter.unusedVariables false
set_option linter.unusedSimpArgs false
def toL (s : ByteArray) : List UInt8 := s.data.toList
def ofL (l : List UInt8) : ByteArray := ⟨l.toArray⟩
@[simp] theorem zc3 (l : List UInt8) : toL (ofL l) = l := by simp [toL, ofL]
@[simp] theorem zie (s : ByteArray) : ofL (toL s) = s := by simp [toL, ofL]
theorem zgK {s t : ByteArray} (h : toL s = toL t) : s = t := by rw [← zie s, h, zie]
theorem zl8 {s t : List UInt8} (h : ofL s = ofL t) : s = t := by rw [← zc3 s, h, zc3]
@[simp] theorem zcD (s : ByteArray) : (toL s).length = s.size := by simp [toL]
@[simp] theorem zhG (l : List UInt8) : (ofL l).size = l.length := by rw [← zcD, zc3]
theorem toList_eq (s : ByteArray) : s.toList = toL s := by
  exact ByteArray.toList_eq s
theorem zfS (s : ByteArray) (a b : Nat) : toL (s.extract a b) = ((toL s).drop a).take (b - a) := by
  simp [toL, ByteArray.data_extract, List.drop_take, List.extract_eq_take_drop]
@[simp] theorem zlw (s t : ByteArray) : toL (s ++ t) = toL s ++ toL t := by simp [toL]
theorem zl6 (l : List UInt8) : toL ⟨l.toArray⟩ = l := zc3 l
theorem zjc (s : ByteArray) (i : Int) : bt s i = (((toL s).getD i.toNat 0).toNat : Int) := by
  unfold bt
  split
  · rename_i h
    simp [toL, List.getD_eq_getElem?_getD, h]
    rfl
  · rename_i h
    have : (toL s).length ≤ i.toNat := by simp; omega
    rw [List.getD_eq_getElem?_getD, List.getElem?_eq_none this]
    rfl
theorem zgE (s : ByteArray) (i : Nat) (c : UInt8) (r : List UInt8) (h : (toL s).drop i = c :: r) : bt s (i : Int) = (c.toNat : Int) := by
  rw [zjc]
  have : (toL s)[i]? = some c := by
    have := congrArg (fun l => l[0]?) h
    simpa using this
  simp [List.getD_eq_getElem?_getD, this]
theorem zia {l : List UInt8} {i : Nat} {c : UInt8} {r : List UInt8} (h : l.drop i = c :: r) : i < l.length := by
  have := congrArg List.length h
  simp at this
  omega
theorem zg1 {l : List UInt8} {i : Nat} {c : UInt8} {r : List UInt8} (h : l.drop i = c :: r) : l.drop (i + 1) = r := by
  rw [← List.drop_drop, h]; rfl
theorem drop_nil {l : List UInt8} {i : Nat} (h : l.drop i = []) : l.length ≤ i := by simpa using h
theorem zbh {n : Int} (h0 : -9223372036854775808 ≤ n) (h1 : n ≤ 9223372036854775807) : wrap64 n = n := by unfold wrap64; omega
theorem Ev.zmg {α : Type} {c : Nat → Prop} [∀ k, Decidable (c k)] {g f : Nat → Option α} {r : α} (h : ∀ k, c k) (k : Ev g r) : Ev (fun n => if c n then g n else f n) r :=
  Ev.congr (fun n => if_pos (h n)) k
theorem Ev.of_eq {α : Type} {g : Nat → Option α} {r : α} (h : ∀ k, g k = some r) : Ev g r := ⟨0, fun k _ => h k⟩
theorem Ev.uniq {α : Type} {g : Nat → Option α} {r q : α} (h : Ev g r) (k : Ev g q) : r = q := by
  obtain ⟨K, h⟩ := h
  obtain ⟨K', k⟩ := k
  have h1 := h (max K K') (by omega)
  have h2 := k (max K K') (by omega)
  rw [h1] at h2
  exact Option.some.inj h2
end Go.Proofs.YtbicjgaadknmfaaDoor.M
end
section
namespace Go.Proofs.YtbicjgaadknmfaaDoor.M
open Go.RowKit Go.Proofs.YtbicjgaadknmfaaDoorW.PrintWords
set_option linter.unusedVariables false
set_option linter.unusedSimpArgs false
structure Wd where
  kd : Nat
  tx : List UInt8
  pl : Nat
def isDigit (c : UInt8) : Bool := decide (48 ≤ c.toNat ∧ c.toNat ≤ 57)
def zcM (c : UInt8) : Bool := decide ((97 ≤ c.toNat ∧ c.toNat ≤ 122) ∨ (65 ≤ c.toNat ∧ c.toNat ≤ 90) ∨ c.toNat = 95)
def zen : List UInt8 := [43, 45, 42, 47, 94, 40, 41, 91, 93, 44, 59, 61]
def zfu (c : UInt8) : Bool := zen.contains c
def zbd (c : UInt8) : Nat := if isDigit c then 1 else if zcM c then 2 else if zfu c then 3 else 0
def zbn (k : Nat) (c : UInt8) : Bool := (k == 1 && isDigit c) || (k == 2 && (zcM c || isDigit c))
def zce (k : Nat) : Nat := if k = 1 then 60 else if k = 2 then 12 else 1
theorem zhQ (k : Nat) : 1 ≤ zce k := by
  unfold zce
  split
  · omega
  · split <;> omega
def zcQ (c : UInt8) : Bool := decide (c.toNat = 32 ∨ c.toNat = 9 ∨ c.toNat = 10 ∨ c.toNat = 13)
def zcP (c : UInt8) : Bool := decide (c.toNat ≠ 10)
theorem zcZ {α : Type} (p : α → Bool) (l : List α) : (l.dropWhile p).length ≤ l.length := (List.dropWhile_suffix p).length_le
theorem zhd {α : Type} (p : α → Bool) (l : List α) : (l.takeWhile p).length + (l.dropWhile p).length = l.length := by
  rw [← List.length_append, List.takeWhile_append_dropWhile]
theorem zkU {α : Type} (p : α → Bool) (l : List α) : l.drop (l.takeWhile p).length = l.dropWhile p := by
  induction l with
  | nil => rfl
  | cons a l ih => by_cases h : p a = true <;> simp [List.takeWhile_cons, List.dropWhile_cons, h, ih]
def ziB (w : Wd) : Except Nat (List Wd) → Except Nat (List Wd)
  | .ok ws => .ok (w :: ws)
  | .error q => .error q
def zcv : List UInt8 → Nat → Except Nat (List Wd)
  | [], _ => .ok []
  | c :: r, p =>
    if zcQ c then zcv r (p + 1)
    else if c.toNat = 35 then zcv (r.dropWhile zcP) (p + 1 + (r.takeWhile zcP).length)
    else if zbd c = 0 then .error p
    else if zce (zbd c) < (r.takeWhile (zbn (zbd c))).length + 1 then .error (p + zce (zbd c))
    else ziB ⟨zbd c, c :: r.takeWhile (zbn (zbd c)), p⟩ (zcv (r.dropWhile (zbn (zbd c))) (p + ((r.takeWhile (zbn (zbd c))).length + 1)))
  termination_by l => l.length
  decreasing_by
  · simp
  · have := zcZ zcP r; simp; omega
  · have := zcZ (zbn (zbd c)) r; simp; omega
def zdQ (l : List UInt8) : Except Nat (List Wd) := if 4000 < l.length then .error 4000 else zcv l 0
end Go.Proofs.YtbicjgaadknmfaaDoor.M
end
section
namespace Go.Proofs.YtbicjgaadknmfaaDoor.M
open Go.RowKit Go.Proofs.YtbicjgaadknmfaaDoorW.PrintWords
set_option linter.unusedVariables false
set_option linter.unusedSimpArgs false
def zca (c : UInt8) (note : Bool) : Bool := if c.toNat = 35 then true else if c.toNat = 10 then false else note
def zeK (acc : List Wd) (i : Nat) (c : UInt8) : Option (List Wd) := if zbd c = 0 then none else some (acc ++ [⟨zbd c, [c], i⟩])
def zdC (acc : List Wd) (i : Nat) (c : UInt8) : Option (List Wd) :=
  match acc.getLast? with
  | some w => if w.pl + w.tx.length = i ∧ zbn w.kd c = true then (if zce w.kd < w.tx.length + 1 then none else some (acc.dropLast ++ [⟨w.kd, w.tx ++ [c], w.pl⟩])) else zeK acc i c
  | none => zeK acc i c
def zbU : List UInt8 → Nat → Bool → List Wd → Except Nat (List Wd)
  | [], _, _, acc => .ok acc
  | c :: r, i, note, acc =>
    if (zca c note || zcQ c) = true then zbU r (i + 1) (zca c note) acc
    else match zdC acc i c with
      | none => .error i
      | some acc' => zbU r (i + 1) false acc'
def appW (acc : List Wd) : Except Nat (List Wd) → Except Nat (List Wd)
  | .ok ws => .ok (acc ++ ws)
  | .error q => .error q
theorem ziG {k : Nat} {c : UInt8} (h : zbn k c = true) : zcQ c = false ∧ ¬ c.toNat = 35 ∧ ¬ c.toNat = 10 := by
  have hc : (48 ≤ c.toNat ∧ c.toNat ≤ 57) ∨ (97 ≤ c.toNat ∧ c.toNat ≤ 122) ∨ (65 ≤ c.toNat ∧ c.toNat ≤ 90) ∨ c.toNat = 95 := by
    unfold zbn isDigit zcM at h
    simp only [Bool.or_eq_true, Bool.and_eq_true, decide_eq_true_eq] at h
    omega
  refine ⟨?_, by omega, by omega⟩
  unfold zcQ
  apply decide_eq_false
  omega
theorem zjZ (l : List UInt8) : ∀ (i : Nat) (acc : List Wd), zbU l i true acc = zbU (l.dropWhile zcP) (i + (l.takeWhile zcP).length) false acc := by
  induction l with
  | nil => intro i acc; rfl
  | cons c r ih =>
    intro i acc
    by_cases h : c.toNat = 10
    · have hnb : zcP c = false := by simp [zcP, h]
      rw [List.takeWhile_cons_of_neg (by simp [hnb]), List.dropWhile_cons_of_neg (by simp [hnb])]
      have : zca c true = zca c false := by simp [zca, h]
      simp only [zbU, this, List.length_nil, Nat.add_zero]
    · have hnb : zcP c = true := by simp [zcP, h]
      have hn : zca c true = true := by simp [zca, h]
      rw [List.takeWhile_cons_of_pos hnb, List.dropWhile_cons_of_pos hnb, List.length_cons]
      simp only [zbU, hn, Bool.true_or, if_true]
      rw [ih]
      congr 1
      omega
theorem zjI (kd p : Nat) : ∀ (r : List UInt8) (i : Nat) (t : List UInt8) (pre : List Wd), p + t.length = i → t.length ≤ zce kd →
    zbU r i false (pre ++ [⟨kd, t, p⟩]) = if zce kd < t.length + (r.takeWhile (zbn kd)).length then .error (p + zce kd) else zbU (r.dropWhile (zbn kd)) (i + (r.takeWhile (zbn kd)).length) false (pre ++ [⟨kd, t ++ r.takeWhile (zbn kd), p⟩]) := by
  intro r
  induction r with
  | nil =>
    intro i t pre hp ht
    rw [List.takeWhile_nil, List.length_nil, if_neg (by omega), List.append_nil]
    rfl
  | cons c r ih =>
    intro i t pre hp ht
    by_cases hg : zbn kd c = true
    · obtain ⟨h1, h2, h10⟩ := ziG hg
      have hn : zca c false = false := by simp [zca, h2]
      rw [List.takeWhile_cons_of_pos hg, List.dropWhile_cons_of_pos hg, List.length_cons]
      have e : zdC (pre ++ [⟨kd, t, p⟩]) i c = if zce kd < t.length + 1 then none else some (pre ++ [⟨kd, t ++ [c], p⟩]) := by
        unfold zdC
        rw [List.getLast?_concat, List.dropLast_concat]
        simp only [hp, hg, and_self, if_true]
      simp only [zbU, hn, h1, Bool.or_self, Bool.false_eq_true, if_false, e]
      by_cases h0 : zce kd < t.length + 1
      · rw [if_pos h0, if_pos (by omega)]
        simp only
        congr 1
        omega
      · rw [if_neg h0]
        simp only
        rw [ih (i + 1) (t ++ [c]) pre (by simp; omega) (by simp; omega), List.length_append, List.length_singleton, List.append_assoc, List.singleton_append, show t.length + 1 + (r.takeWhile (zbn kd)).length = t.length + ((r.takeWhile (zbn kd)).length + 1) from by omega, show i + 1 + (r.takeWhile (zbn kd)).length = i + ((r.takeWhile (zbn kd)).length + 1) from by omega]
    · rw [List.takeWhile_cons_of_neg hg, List.dropWhile_cons_of_neg hg, List.length_nil, List.append_nil, if_neg (by omega)]
      rfl
def Shut (acc : List Wd) (i : Nat) (l : List UInt8) : Prop := acc = [] ∨ ∃ pre w, acc = pre ++ [w] ∧ (w.pl + w.tx.length < i ∨ w.pl + w.tx.length = i ∧ ∀ c r, l = c :: r → zbn w.kd c = false)
theorem Shut.later {acc : List Wd} {i j : Nat} {l l' : List UInt8} (h : Shut acc i l) (hj : i < j) : Shut acc j l' := by
  rcases h with h | ⟨pre, w, h, hw⟩
  · exact .inl h
  · exact .inr ⟨pre, w, h, .inl (by omega)⟩
theorem Shut.step {acc : List Wd} {i : Nat} {c : UInt8} {r : List UInt8} (h : Shut acc i (c :: r)) : zdC acc i c = zeK acc i c := by
  rcases h with rfl | ⟨pre, w, rfl, hw⟩
  · rfl
  · unfold zdC
    rw [List.getLast?_concat]
    simp only
    rw [if_neg]
    rintro ⟨h1, h2⟩
    rcases hw with hw | ⟨_, hw⟩
    · omega
    · rw [hw c r rfl] at h2; cases h2
theorem zka : ∀ (n : Nat) (l : List UInt8) (i : Nat) (acc : List Wd), l.length ≤ n → Shut acc i l → zbU l i false acc = appW acc (zcv l i) := by
  intro n
  induction n with
  | zero =>
    intro l i acc hn hs
    obtain rfl := List.length_eq_zero_iff.1 (Nat.le_zero.1 hn)
    rw [zcv]; simp [zbU, appW]
  | succ n ih =>
    intro l i acc hn hs
    cases l with
    | nil => rw [zcv]; simp [zbU, appW]
    | cons c r =>
      simp only [List.length_cons] at hn
      rw [zcv]
      by_cases h1 : zcQ c = true
      · rw [if_pos h1]
        have h35 : zca c false = false := by
          unfold zcQ at h1
          have := of_decide_eq_true h1
          unfold zca
          rw [if_neg (by omega)]
          split <;> rfl
        simp only [zbU, h35, h1, Bool.or_true, if_true]
        exact ih r (i + 1) acc (by omega) (hs.later (by omega))
      · rw [if_neg h1]
        by_cases h2 : c.toNat = 35
        · rw [if_pos h2]
          have h35 : zca c false = true := by simp [zca, h2]
          have hle := zcZ zcP r
          simp only [zbU, h35, Bool.true_or, if_true]
          rw [zjZ]
          exact ih _ _ acc (by omega) (hs.later (by omega))
        · rw [if_neg h2]
          have h35 : zca c false = false := by simp [zca, h2]
          have h1' := eq_false_of_ne_true h1
          simp only [zbU, h35, h1', Bool.or_self, Bool.false_eq_true, if_false, hs.step]
          unfold zeK
          by_cases h3 : zbd c = 0
          · rw [if_pos h3, if_pos h3]; rfl
          · rw [if_neg h3, if_neg h3]
            simp only
            have hm := zhQ (zbd c)
            have hle := zcZ (zbn (zbd c)) r
            rw [zjI (zbd c) i r (i + 1) [c] acc (by simp) (by simpa using hm), List.length_singleton, Nat.add_comm 1 (r.takeWhile (zbn (zbd c))).length]
            by_cases h4 : zce (zbd c) < (r.takeWhile (zbn (zbd c))).length + 1
            · rw [if_pos h4, if_pos h4]; rfl
            · rw [if_neg h4, if_neg h4]
              rw [ih _ _ _ (by omega) (.inr ⟨acc, _, rfl, .inr ⟨by simp; omega, ?_⟩⟩)]
              · rw [show i + 1 + (r.takeWhile (zbn (zbd c))).length = i + ((r.takeWhile (zbn (zbd c))).length + 1) by omega]
                cases zcv (r.dropWhile (zbn (zbd c))) (i + ((r.takeWhile (zbn (zbd c))).length + 1)) with
                | ok ws => simp [appW, ziB]
                | error q => rfl
              · intro d u hu
                have := List.head?_dropWhile_not (zbn (zbd c)) r
                rw [hu] at this
                simpa using this
theorem zjn (l : List UInt8) (h : l.length ≤ 4000) : zbU l 0 false [] = zdQ l := by
  unfold zdQ
  rw [if_neg (by omega), zka l.length l 0 [] (Nat.le_refl _) (.inl rfl)]
  cases zcv l 0 <;> rfl
end Go.Proofs.YtbicjgaadknmfaaDoor.M
end
section
namespace Go.Proofs.YtbicjgaadknmfaaDoor.P
open Go.RowKit Go.Proofs.YtbicjgaadknmfaaDoorW.PrintWords
set_option linter.unusedVariables false
set_option linter.unusedSimpArgs false
theorem zii : (Tryd.prog.info? 101).map (fun i => (i.zero, i.size, i.bytes)) = some (some (.int .u32 0), 1, 4) := by kernel_rfl
theorem zky : (Tryd.prog.info? 101).map (·.size) = some 1 := by kernel_rfl
def zdw.f (l0 : List Int) (a1 : Int) : Option (List Int) :=
  if 0 ≤ a1 then if a1 ≤ 1000 then if l0.length ≤ 35184372088832 then some (l0 ++ List.replicate a1.toNat 0) else none else none else none
theorem zhs (n m : Nat) (cs : List Value) (z : Value) (h : cs.length = n) : splice (List.replicate (n + m) z) 0 cs = cs ++ List.replicate m z := by
  simp [splice, h]
set_option maxHeartbeats 2000000 in
set_option maxRecDepth 100000 in
theorem zdw.calls (A0 : Option Addr) (c0 : Nat) (l0 : List Int) (a1 : Int) (r : List Int) (w : World) (hr0 : Kd.C (Kd.int .u32) w A0 l0.length l0) (hc0 : l0.length ≤ c0) (h : zdw.f l0 a1 = some r) :
    Calls Tryd.prog 138 #[.slice A0 l0.length c0, .int .i64 a1] w fun e w' => ∃ v0_ : Value, e = .returned (v0_) ∧ Kd.R (Kd.int .u32) 101 w' w.heap.size (fun _ => True) v0_ r ∧ Below w.heap.size w w' := by
  unfold zdw.f at h
  split at h
  case isFalse => cases h
  case isTrue h1 =>
  split at h
  case isFalse => cases h
  case isTrue h2 =>
  split at h
  case isFalse => cases h
  case isTrue h3 =>
  obtain rfl := Option.some.inj h
  obtain ⟨m, rfl⟩ := Int.eq_ofNat_of_zero_le h1
  have hr := zaa.mk hr0
  clear hr0 h
  have hl : (l0.length : Int) ≤ 35184372088832 := by omega
  have hm := zaa.mk (zin (P := Tryd.prog) 23 101 .u32 4 Tryd.underlying23 zii (by decide) (l0.length + m) (by omega))
  go_enter Tryd.func138, Tryd.ntmps138
  have hmm := hm.out
  simp only [Int.natCast_add] at hmm
  have hcell : ∀ (j : Nat) (v : Value), (nums .u32 l0)[j]? = some v → ∃ ad, A0 = some ad ∧ (w.alloc (Obj.cells (madeCells #[Value.int IntKind.u32 0] (l0.length + m)) 101)).cell? (ad.add j) = some v := by
    intro j v hj
    simp only [nums, List.getElem?_map, Option.map_eq_some_iff] at hj
    obtain ⟨x, hx, rfl⟩ := hj
    obtain ⟨ad, e, hc⟩ := hr.out.2.2 (by have := (List.getElem?_eq_some_iff.1 hx).1; omega)
    obtain ⟨c, _, hk, hcc⟩ := hc j x hx
    have hk' : c = [Value.int .u32 x] := hk
    subst hk'
    have h0 := hcc 0 _ rfl
    refine ⟨ad, e, ?_⟩
    simp only [Kd.int, Kd.scalar, Nat.mul_one, Nat.add_zero] at h0
    exact zbA (zac (Below.refl _ _) _) h0
  have hpos : 0 < (nums .u32 l0).length → (some (⟨w.heap.size, 0, none⟩ : Addr)) = some ⟨w.heap.size, 0, none⟩ ∧ ∃ ad, A0 = some ad ∧ ∀ (j : Nat) v, (nums .u32 l0)[j]? = some v → (w.alloc (Obj.cells (madeCells #[Value.int IntKind.u32 0] (l0.length + m)) 101)).cell? (ad.add j) = some v := by
    intro hp
    obtain ⟨ad, e, _⟩ := hcell 0 _ (List.getElem?_eq_getElem hp)
    refine ⟨rfl, ad, e, fun j v hj => ?_⟩
    obtain ⟨ad', e', hc⟩ := hcell j v hj
    rw [e] at e'
    cases e'
    exact hc
  have hnew : (w.alloc (Obj.cells (madeCells #[Value.int IntKind.u32 0] (l0.length + m)) 101)).heap[w.heap.size]? = some (.cells (List.replicate (l0.length + m) (Value.int .u32 0)).toArray 101 (0, 0)) := by
    rw [heap_alloc_new]
    have e : (madeCells #[Value.int IntKind.u32 0] (l0.length + m)) = (List.replicate (l0.length + m) (Value.int .u32 0)).toArray := by
      apply Array.ext'
      rw [toList_madeCells_one]
    rw [e]
  have Hpos := zaa.mk hpos
  have Hnew := zaa.mk hnew
  clear hcell hpos hnew
  go_wp2_with (with_reducible refine wpList_copy_splice rfl (.tmp 11) (.tmp 12) 23 23 rfl 101 Tryd.underlying23 zky (some ⟨w.heap.size, 0, none⟩) A0 (l0.length + m) (l0.length + m) l0.length c0 rfl rfl w.heap.size 0 (List.replicate (l0.length + m) (Value.int .u32 0)) 101 Hnew.out (nums .u32 l0) ?hn Hpos.out ?hfit ?h1 w.heap.size w (zac (Below.refl _ _) _) (Nat.le_refl _) ?_)
  case hn => simp [nums]
  case hfit => simp [nums]
  case h1 =>
    intro v hv
    simp only [nums, List.mem_map] at hv
    obtain ⟨x, _, rfl⟩ := hv
    rfl
  intro w' hb hB
  rw [zhs l0.length m (nums .u32 l0) _ (by simp [nums])] at hb
  have HB := zaa.mk hB
  have HH := zaa.mk hb
  clear hb hB
  go_wp2
  go_ret
  refine ⟨_, rfl, ?_, HB.out⟩
  refine Kd.zhv ?_ (fun _ _ => trivial)
  refine ⟨by simp [encs], .inr ⟨w.heap.size, l0.length + m, _, ?_, Nat.le_refl _, HH.out, ?_, ?_, ?_, ?_⟩⟩
  · simp
  · simp
  · unfold maxLen; omega
  · simp [nums]
  · simp [nums, encs]
    exact List.take_of_length_le (by simp)
end Go.Proofs.YtbicjgaadknmfaaDoor.P
end
section
namespace Go.Proofs.YtbicjgaadknmfaaDoor.P
open Go.RowKit Go.Proofs.YtbicjgaadknmfaaDoorW.PrintWords
set_option linter.unusedVariables false
set_option linter.unusedSimpArgs false
def strip (l : List Int) : List Int := (l.reverse.dropWhile (fun x => x == 0)).reverse
theorem zgx (l : List Int) : strip (l ++ [0]) = strip l := by simp [strip]
theorem zhL (l : List Int) (x : Int) (h : ¬ x = 0) : strip (l ++ [x]) = l ++ [x] := by simp [strip, h]
theorem strip_nil : strip [] = [] := rfl
theorem zey (l : List Int) : (strip l).length ≤ l.length := by
  unfold strip
  rw [List.length_reverse]
  have := (List.dropWhile_suffix (fun x : Int => x == 0) (l := l.reverse)).length_le
  simpa using this
theorem zgi (l : List Int) : l.take (strip l).length = strip l := by
  unfold strip
  have h := List.dropWhile_suffix (fun x : Int => x == 0) (l := l.reverse)
  have h2 := List.reverse_prefix.2 h
  rw [List.reverse_reverse] at h2
  exact (List.prefix_iff_eq_take.1 h2).symm
theorem ziI {w : World} {k : IntKind} {A : Option Addr} {l : List Int} (m : Nat) (hm : m ≤ l.length) (h : Kd.C (Kd.int k) w A l.length l) : Kd.C (Kd.int k) w A (l.take m).length (l.take m) := by
  refine ⟨rfl, by have := h.2.1; simp; omega, fun hp => ?_⟩
  obtain ⟨ad, e, hc⟩ := h.2.2 (by simp at hp; omega)
  refine ⟨ad, e, fun j p hj => hc j p ?_⟩
  have : j < m := by
    have := (List.getElem?_eq_some_iff.1 hj).1
    simp at this; omega
  rw [List.getElem?_take_of_lt this] at hj
  exact hj
set_option maxHeartbeats 2000000 in
set_option maxRecDepth 100000 in
theorem zkf (A0 : Option Addr) (c0 : Nat) (l0 : List Int) (w : World) (hr0 : Kd.C (Kd.int .u32) w A0 l0.length l0) (hc0 : l0.length ≤ c0) :
    Calls Tryd.prog 71 #[.slice A0 l0.length c0] w fun e w' => e = .returned (.slice A0 (strip l0).length c0) ∧ zar w w' := by
  have HR := zaa.mk hr0
  have hmax : (l0.length : Int) ≤ 9223372036854775807 := by have := hr0.2.1; omega
  clear hr0
  obtain ⟨i0, hi0, _, _, _⟩ := info_parts zii
  have HCUT := zaa.mk (fun (k : Nat) (hk : k ≤ l0.length) => ziZ (P := Tryd.prog) 23 101 .i64 Tryd.underlying23 hi0 A0 l0.length c0 (k : Int) (by omega) (by omega) hc0)
  clear hi0
  go_enter Tryd.func71, Tryd.ntmps71
  go_wp2
  go_loopw [3] (fun v w' => ∃ k : Nat, k ≤ l0.length ∧ v = .int .i64 k ∧ zaa (strip (l0.take k) = strip l0) ∧ zar w w') (fun v _ => (intOf v).toNat)
  case atStart => exact ⟨l0.length, Nat.le_refl _, rfl, ⟨by rw [List.take_length]⟩, zar.refl _⟩
  case round =>
    obtain ⟨k, hk, rfl, hs, ⟨nd, rfl⟩⟩ := hrel
    by_cases h0 : k = 0
    · subst h0
      have hlen : zaa ((strip l0).length = 0) := ⟨by rw [← hs.out]; rfl⟩
      have hcut := HCUT.out 0 (by omega)
      go_wp2
      go_ret
      exact ⟨by rw [hlen.out]; simp, ⟨⟨nd, rfl⟩⟩⟩
    · obtain ⟨j, rfl⟩ : ∃ j, k = j + 1 := ⟨k - 1, by omega⟩
      clear h0
      have hlt : j < l0.length := by omega
      have htk := zaa.mk (List.take_succ_eq_append_getElem hlt)
      obtain ⟨ad, rfl, hx⟩ := Kd.zdi HR.out (j : Int) (by omega) (by omega)
      have hrd : rd l0 (j : Int) = l0[j] := by
        unfold rd
        simp [List.getD_eq_getElem?_getD, hlt]
      rw [hrd, show ((j : Int)).toNat = j from by omega] at hx
      have c0' : ((j + 1 : Nat) : Int) - 1 = (j : Int) := by omega
      generalize l0[j] = x at *
      have hlj : (j : Int) < (l0.length : Int) := by omega
      by_cases hz : x = 0
      · subst hz
        have hs2 : zaa (strip (l0.take j) = strip l0) := ⟨by rw [← hs.out, htk.out, zgx]⟩
        clear hs htk hrd HCUT
        go_wp2
        go_roundw
        case rel => exact ⟨j, by omega, by simp, hs2, ⟨⟨_, rfl⟩⟩⟩
        case measure => simp [intOf]
      · have hlen : zaa ((strip l0).length = j + 1) := ⟨by rw [← hs.out, htk.out, zhL _ _ hz, List.length_append, List.length_take]; simp; omega⟩
        have hx0 : (x == 0) = false := by simpa using hz
        have hcut := HCUT.out (j + 1) (by omega)
        clear hs htk hrd HCUT hz
        go_wp2
        go_ret
        exact ⟨by rw [hlen.out]; simp, ⟨⟨nd, rfl⟩⟩⟩
theorem zkC {w : World} {A : Option Addr} {l : List Int} (h : Kd.C (Kd.int .u32) w A l.length l) : Kd.C (Kd.int .u32) w A (strip l).length (strip l) := by
  have := ziI (strip l).length (zey l) h
  rw [zgi] at this
  exact this
def zcL.f (l0 : List Int) : Option (List Int) := if l0.length ≤ 35184372088832 then some (strip l0) else none
set_option maxHeartbeats 2000000 in
theorem zcL.calls (A0 : Option Addr) (c0 : Nat) (l0 : List Int) (r : List Int) (w : World) (hr0 : Kd.C (Kd.int .u32) w A0 l0.length l0) (hc0 : l0.length ≤ c0) (h : zcL.f l0 = some r) :
    Calls Tryd.prog 108 #[.slice A0 l0.length c0] w fun e w' => ∃ v0_ : Value, e = .returned (v0_) ∧ Kd.R (Kd.int .u32) 101 w' w.heap.size (fun _ => True) v0_ r ∧ Below w.heap.size w w' := by
  unfold zcL.f at h
  split at h
  case isFalse => cases h
  case isTrue h1 =>
  obtain rfl := Option.some.inj h
  clear h
  have hf : zdw.f (strip l0) 0 = some (strip l0) := by
    unfold zdw.f
    rw [if_pos (by omega), if_pos (by omega), if_pos (by have := zey l0; omega)]
    simp
  have HT := zaa.mk (fun w (hr0 : Kd.C (Kd.int .u32) w A0 l0.length l0) => zkf A0 c0 l0 w hr0 hc0)
  have HF := zaa.mk (fun w (hr0 : Kd.C (Kd.int .u32) w A0 (strip l0).length (strip l0)) => zdw.calls A0 c0 (strip l0) 0 (strip l0) w hr0 (by have := zey l0; omega) hf)
  have HR := zaa.mk hr0
  clear hr0 hf
  go_enter Tryd.func108, Tryd.ntmps108
  go_wp2_with (first | (go_at_call 71; refine (HT.out _ HR.out).mono ?_; rintro e w' ⟨rfl, ⟨nd, rfl⟩⟩) | (go_at_call 138; refine (HF.out _ (zkC (Kd.zaY HR.out _))).mono ?_; rintro e w' ⟨v, rfl, hv, hb⟩; have HV := zaa.mk hv; have HB := zaa.mk hb; clear hv hb))
  go_ret
  exact ⟨_, rfl, HV.out, (zab (Below.refl _ _) nd).trans HB.out⟩
theorem zjf (n : Nat) : ((n : Int) == 0) = (n == 0) := by
  rw [Bool.eq_iff_iff]
  simp
def zci.f (l0 : List Int) : Option Bool := some (decide ((strip l0).length = 0))
set_option maxHeartbeats 2000000 in
theorem zci.calls (A0 : Option Addr) (c0 : Nat) (l0 : List Int) (r : Bool) (w : World) (hr0 : Kd.C (Kd.int .u32) w A0 l0.length l0) (hc0 : l0.length ≤ c0) (h : zci.f l0 = some r) :
    Calls Tryd.prog 65 #[.slice A0 l0.length c0] w fun e w' => e = .returned (.bool r) ∧ zar w w' := by
  obtain rfl := Option.some.inj h
  clear h
  have HT := zaa.mk (zkf A0 c0 l0 w hr0 hc0)
  have hd : zaa (decide ((strip l0).length = 0) = ((strip l0).length == 0)) := ⟨by rw [Bool.eq_iff_iff]; simp⟩
  clear hr0
  rw [hd.out]
  go_enter Tryd.func65, Tryd.ntmps65
  go_wp2_with (first | (go_at_call 71; refine HT.out.mono ?_; rintro e w' ⟨rfl, ⟨nd, rfl⟩⟩))
  go_ret
  exact ⟨by simp [zjf], ⟨⟨nd, rfl⟩⟩⟩
end Go.Proofs.YtbicjgaadknmfaaDoor.P
end
