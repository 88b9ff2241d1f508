/-
  A symbolic run of the model, its soundness, and steps by which it is used.
-/
import Derived.Test.YtlamgfimgadnmaaGreatFwd
import Derived.Shelf.Sort.Plain
import Derived.Shelf.Slices.In.CompactS
set_option linter.unusedVariables false
set_option linter.unusedSimpArgs false
namespace Go.CL
open Go Go.RowKit Go.Proofs Go.Shelf Go.Sort
def strV (s : List UInt8) : CV := .sc (encStr s)
section
variable {M : Mem} {own : Owns} {σ : Heap} {w : World}
theorem zge {l e n cap : Nat} {ss : List (List UInt8)} (hR : Rg M own σ w) (hl : σ l = some (.arr e 1 cap (ss.map strV))) :
    Holds encStr w l 0 ss.toArray ∧ l < w.heap.size ∧ ss.length ≤ cap ∧ own l = some (.g l) ∧ (∀ o, M l o = none) ∧ ∃ vs, w.heap[l]? = some (.cells vs e (0, 0)) ∧ vs.size = cap := by
  obtain ⟨h1, fo, h2, h3⟩ := hR.glob l _ hl
  cases fo with
  | row b n cap' =>
    simp [FO.block] at h3; subst h3
    obtain ⟨rfl, hn, vs, k1, k2, k3, k4, k5, k6⟩ := h2
    refine ⟨fun j hj => ?_, (Array.getElem?_eq_some_iff.1 k1).1, by simpa [hn] using k3, h1, k6, vs, k1, by simpa using k2⟩
    have hj : j < ss.length := by simpa using hj
    have := k5 j (strV ss[j]) 0 (strV ss[j]) (by simp [hj]) rfl
    refine ⟨?_, by simp [World.frozen?, k1]⟩
    have hsz : j < vs.size := by simp at hn; omega
    simp only [World.cell?, k1, Nat.zero_add]
    have hv : vs.getD j undef = encStr ss[j] := by
      simp only [Nat.mul_one, Nat.add_zero, strV] at this
      generalize vs.getD j undef = v at this
      cases this; rfl
    simp [hsz, hj] at hv ⊢
    exact hv
  | blk b => exact h2.elim
  | tok s n sz => exact h2.elim
theorem zum {l e cap n : Nat} {ss zs rest : List (List UInt8)} (hR : Rg M own σ w) (hl : σ l = some (.arr e 1 cap (ss.map strV))) (hz : (zs ++ rest).length = ss.length) {w' : World} {os : Array Obj}
    (hw : w' = grow (putRow encStr (Sort.ahead w n) l 0 (zs ++ rest).toArray) os) :
    ∃ own', Rg M own' (upd σ l (.arr e 1 cap (zs.map strV))) w' ∧ KExt M own w M own' w' := by
  obtain ⟨h1, h2, h3, h4, h5, vs, k1, k2⟩ := zge (n := 0) hR hl
  have hb : ∀ b, b < w.heap.size → b ≠ l → w'.heap[b]? = w.heap[b]? := fun b hb hne => by
    rw [hw]
    show ((putRow encStr (Sort.ahead w n) l 0 (zs ++ rest).toArray).heap ++ os)[b]? = _
    rw [Array.getElem?_append_left (by simp [putRow, mapBlock, Sort.ahead, hb])]
    simp [putRow, mapBlock, Sort.ahead, Array.getElem?_modify, Ne.symm hne]
  have hlw : w'.heap[l]? = some (.cells (putCells encStr 0 (zs ++ rest).toArray vs) e (0, 0)) := by
    rw [hw]
    show ((putRow encStr (Sort.ahead w n) l 0 (zs ++ rest).toArray).heap ++ os)[l]? = _
    rw [Array.getElem?_append_left (by simp [putRow, mapBlock, Sort.ahead, h2])]
    simp [putRow, mapBlock, Sort.ahead, Array.getElem?_modify, k1, onCells]
  have hsz : w.heap.size ≤ w'.heap.size := by rw [hw]; simp [grow, putRow, mapBlock, Sort.ahead]
  have hT : Touch M own w (.g l) (.row l zs.length cap) M w' := by
    refine ⟨hsz, by rw [hw]; rfl, by rw [hw]; rfl, by rw [hw]; rfl, fun b hb' ho => ⟨hb b hb' (fun e => ho (by rw [e]; exact h4)), fun _ => rfl⟩, fun _ _ _ h => h, fun b o v hbo h => ?_, fun b h => ?_⟩
    · have hne : b ≠ l := fun e => by subst e; rw [h5] at h; cases h
      by_cases hlt : b < w.heap.size
      · rw [yv (hb b hlt hne)]; exact hR.mem _ _ _ h
      · have := hR.mem _ _ _ h
        simp [World.cell?, Array.getElem?_eq_none (Nat.le_of_not_lt hlt)] at this
    · simp [FO.block] at h; subst h; exact ⟨.inl h4, by omega⟩
  have hob : ObRep M FM.no w' (.row l zs.length cap) (.arr e 1 cap (zs.map strV)) := by
    refine ⟨rfl, by simp, _, hlw, by simp [putCells, k2], by simp at hz; omega, fun i x hx => ?_, fun i x j c hx hc => ?_, h5⟩
    · simp at hx; obtain ⟨s, _, rfl⟩ := hx; rfl
    · simp at hx; obtain ⟨s, hs, rfl⟩ := hx
      cases j with
      | succ j => simp [strV, CV.cells] at hc
      | zero =>
        simp [strV, CV.cells] at hc; subst hc
        have hi : i < zs.length := (List.getElem?_eq_some_iff.1 hs).1
        have hz' : i < ss.length := by simp at hz; omega
        have hv : i < vs.size := by omega
        have : (putCells encStr 0 (zs ++ rest).toArray vs).getD (i * 1 + 0) undef = encStr s := by
          have hs' : zs[i] = s := (List.getElem?_eq_some_iff.1 hs).2
          simp [putCells, Array.getD_eq_getD_getElem?, Array.getElem?_mapIdx, hv]
          rw [if_pos (by omega)]
          simp [List.getElem?_append_left hi, hs, hi, hs']
        rw [this]; exact .sc _
  have hR0 : R M FM.no own ⟨0, [], []⟩ σ { tmps := #[], defers := [] } w := ⟨hR, rfl, fun t => by simp [look]; exact .junk, fun d ob hd => by simp [z6] at hd, fun d _ => rfl⟩
  obtain ⟨t1, t2⟩ := hR0.touchG l _ _ hT rfl hob
  exact ⟨_, t1.toRg, t2⟩
variable {P : Program} {ρ : Ren}
theorem zw4 (Ly : Lays.n190 P ρ) (hb : (Body.n190 ρ).body.isSome = true) (hn : ((Body.n190 ρ).name == "runtime.NumGoroutine") = false) {l e cap n : Nat} {ss : List (List UInt8)} (hl : σ l = some (.arr e 1 cap (ss.map strV))) (hN : n = ss.length) (hs : ss.length < 4611686018427387904) :
    CRun P (ρ.f 190) [.grow l n cap] σ (· = .ret (.tup []) (upd σ l (.arr e 1 cap ((ss.mergeSort fun x y => decide (x ≤ y)).map strV)))) := by
  subst hN
  refine ⟨⟨_, Ly.f190, hb, hn⟩, fun M own w vals hR hvs hr => ?_⟩
  obtain ⟨h1, h2, h3, _⟩ := zge (n := 0) hR hl
  have h0 := hr 0 _ rfl
  obtain rfl : vals = #[.slice (some ⟨l, 0, none⟩) ss.length cap] := by
    apply Array.ext (by simpa using hvs)
    intro i hi1 hi2
    have : i = 0 := by simp at hi2; omega
    subst this
    generalize hv : vals.getD 0 undef = v at h0
    cases h0
    simp [Array.getD_eq_getD_getElem?, hi1] at hv
    simpa using hv
  refine (Any.slices_Sort_string Ly l 0 cap ss w h1 h2 hs).mono ?_
  rintro _ w' ⟨rfl, n, os, hw⟩
  obtain ⟨own', g1, g2⟩ := zum (zs := ss.mergeSort fun x y => decide (x ≤ y)) (rest := []) (n := n) (os := os) hR hl (by simp) (by simpa using hw)
  exact ⟨.ret (.tup []) _, M, own', rfl, g2, .tup #[] [] rfl (fun i c hc => by simp at hc), g1⟩
theorem zns (Ly : Lays.n194 P ρ) (hb : (Body.n194 ρ).body.isSome = true) (hn : ((Body.n194 ρ).name == "runtime.NumGoroutine") = false) {l e cap n : Nat} {ss : List (List UInt8)} (hl : σ l = some (.arr e 1 cap (ss.map strV))) (hN : n = ss.length) (hs : ss.length < 4611686018427387904)
    (hc : (Lib.compact ss).length ≤ ss.length) :
    CRun P (ρ.f 194) [.grow l n cap] σ (· = .ret (.grow l (Lib.compact ss).length cap) (upd σ l (.arr e 1 cap ((Lib.compact ss).map strV)))) := by
  subst hN
  refine ⟨⟨_, Ly.f194, hb, hn⟩, fun M own w vals hR hvs hr => ?_⟩
  obtain ⟨h1, h2, h3, _⟩ := zge (n := 0) hR hl
  have h0 := hr 0 _ rfl
  obtain rfl : vals = #[.slice (some ⟨l, 0, none⟩) ss.length cap] := by
    apply Array.ext (by simpa using hvs)
    intro i hi1 hi2
    have : i = 0 := by simp at hi2; omega
    subst this
    generalize hv : vals.getD 0 undef = v at h0
    cases h0
    simp [Array.getD_eq_getD_getElem?, hi1] at hv
    simpa using hv
  refine (calls_of_every_depth fun D => AnyS.slices_Compact_string_in Ly D l 0 cap ss w h1 (by omega) h3).mono ?_
  rintro _ w' ⟨rfl, q, hw⟩
  obtain ⟨own', g1, g2⟩ := zum (zs := Lib.compact ss) (rest := List.replicate (ss.length - (Lib.compact ss).length) []) (n := q) (os := #[]) (w' := w') hR hl (by simp; omega) (by rw [grow_empty]; exact hw)
  exact ⟨.ret _ _, M, own', rfl, g2, .grow _ _ _, g1⟩
theorem ze2 (Ly : Lays.n194 P ρ) (hb : (Body.n194 ρ).body.isSome = true) (hn : ((Body.n194 ρ).name == "runtime.NumGoroutine") = false) : CRun P (ρ.f 194) [.vec []] σ (· = .ret (.vec []) σ) := by
  refine ⟨⟨_, Ly.f194, hb, hn⟩, fun M own w vals hR hvs hr => ?_⟩
  have h0 := hr 0 _ rfl
  obtain ⟨a, cap, rfl, hc⟩ : ∃ a cap, vals = #[.slice a 0 cap] ∧ Rep M FM.no (.slice a 0 cap) (.vec []) := by
    have : vals = #[vals.getD 0 undef] := by
      apply Array.ext (by simpa using hvs)
      intro i hi1 hi2
      have : i = 0 := by simp at hi2; omega
      subst this
      simp [Array.getD_eq_getD_getElem?, hi1]
    rw [this]
    generalize vals.getD 0 undef = v at h0
    have h0' := h0
    cases h0 with
    | nilvec => exact ⟨_, _, rfl, h0'⟩
    | vec sz b off n cap _ vs hn => simp at hn; subst hn; exact ⟨_, _, rfl, h0'⟩
  refine (calls_of_every_depth fun D => AnyS.slices_Compact_string_empty_in Ly D a cap w).mono ?_
  rintro _ w' ⟨rfl, rfl⟩
  exact ⟨.ret _ _, M, own, rfl, KExt.refl _ _ _, hc, hR⟩
end
end Go.CL
