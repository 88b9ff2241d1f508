/-
  A symbolic run of the model, its soundness, and steps by which it is used.
-/
import Derived.Test.YtjmgkhkpjffpbaaFw
import Derived.KernelRfl
import Derived.ProofKit
import Derived.OpenShut
import Derived.Deep.DeepHandedRow
import Derived.ChangeSlices
set_option linter.unusedVariables false
set_option linter.unusedSimpArgs false
namespace Go.CL
open Go

structure AtL (ss : List Stp) (fr0 : Fr) (σ0 : Heap) (l : List Nat) (fr : Fr) (σ : Heap) : Prop where
  n : fr.n = fr0.n
  env : ∀ t, look fr.env t = envAt ss fr0 l t
  loc : ∀ d, lookO fr.locs d = locAt ss fr0 l d
  heap : σ = heapAt ss σ0 l

/-- what is known of the part of a drawn region that has been read -/
structure Dr (X : Ctx) (ops : Array Oper) (ord : List Nat) (ss : List Stp) (fr0 : Fr) (σ0 : Heap) (l : List Nat) : Prop where
  at_ : ∀ (i : Nat) (s : Stp), ss[i]? = some s → (∀ t, s.o.dst = some t → t < fr0.n) ∧ AtL ss fr0 σ0 (canon i) s.fr s.σ ∧ (i ∉ l → s.ok X ops)
  op : ∀ (i : Nat) (s : Stp), ss[i]? = some s → ops[ord.getD i 0]? = some s.o

/-- .. and of what its operations touch -/
structure Tch (ops : Array Oper) (ord : List Nat) (ss : List Stp) (D : List Did) (nD : Nat) : Prop where
  did : ∀ (i : Nat) (s : Stp), ss[i]? = some s → D[i]? = some s.did
  ok : drawOk ops ord D nD = true
  le : ss.length ≤ nD

theorem wEnv_iff {ss : List Stp} {t i : Nat} : wEnv ss t i = true ↔ ∃ s, ss[i]? = some s ∧ s.o.dst = some t := by
  unfold wEnv; cases h : ss[i]? <;> simp
theorem wLoc_iff {ss : List Stp} {t i : Nat} : wLoc ss t i = true ↔ ∃ s, ss[i]? = some s ∧ leWrite s.le = some t := by
  unfold wLoc; cases h : ss[i]? <;> simp
theorem wHeap_iff {ss : List Stp} {i : Nat} : wHeap ss i = true ↔ ∃ s, ss[i]? = some s ∧ ∃ τ, s.he = .wr τ := by
  unfold wHeap
  cases h : ss[i]? with
  | none => simp
  | some s => cases h' : s.he <;> simp [h']

section
variable {X : Ctx} {ops : Array Oper} {ord : List Nat} {ss : List Stp} {fr0 : Fr} {σ0 : Heap} {D : List Did} {nD : Nat} {l : List Nat}

theorem pairEnv (h : Dr X ops ord ss fr0 σ0 l) (ht : Tch ops ord ss D nD) (t : Nat) (j k : Nat) (hj : j < ss.length) (hk : k < ss.length) (wj : wEnv ss t j = true) (wk : wEnv ss t k = true) (hne : j ≠ k) : AncP ops ord j k ∨ AncP ops ord k j := by
  obtain ⟨s, hs, ds⟩ := wEnv_iff.1 wj
  obtain ⟨s', hs', ds'⟩ := wEnv_iff.1 wk
  exact held ht.ok (Nat.lt_of_lt_of_le hj ht.le) (Nat.lt_of_lt_of_le hk ht.le) hne (h.op _ _ hs) (h.op _ _ hs') (ht.did _ _ hs) (ht.did _ _ hs') (meets_comm_dst ds ds') (meets_comm_dst ds' ds)

theorem pairLoc (h : Dr X ops ord ss fr0 σ0 l) (ht : Tch ops ord ss D nD) (t : Nat) (j k : Nat) (hj : j < ss.length) (hk : k < ss.length) (wj : wLoc ss t j = true) (wk : wLoc ss t k = true) (hne : j ≠ k) : AncP ops ord j k ∨ AncP ops ord k j := by
  obtain ⟨s, hs, ds⟩ := wLoc_iff.1 wj
  obtain ⟨s', hs', ds'⟩ := wLoc_iff.1 wk
  exact held ht.ok (Nat.lt_of_lt_of_le hj ht.le) (Nat.lt_of_lt_of_le hk ht.le) hne (h.op _ _ hs) (h.op _ _ hs') (ht.did _ _ hs) (ht.did _ _ hs') (meets_loc ds (leTouch_of ds')) (meets_loc ds' (leTouch_of ds))

theorem pairHeap (h : Dr X ops ord ss fr0 σ0 l) (ht : Tch ops ord ss D nD) (j k : Nat) (hj : j < ss.length) (hk : k < ss.length) (wj : wHeap ss j = true) (wk : wHeap ss k = true) (hne : j ≠ k) : AncP ops ord j k ∨ AncP ops ord k j := by
  obtain ⟨s, hs, τ, ds⟩ := wHeap_iff.1 wj
  obtain ⟨s', hs', τ', ds'⟩ := wHeap_iff.1 wk
  exact held ht.ok (Nat.lt_of_lt_of_le hj ht.le) (Nat.lt_of_lt_of_le hk ht.le) hne (h.op _ _ hs) (h.op _ _ hs') (ht.did _ _ hs) (ht.did _ _ hs') (meets_heap ds (by simp [Stp.did, ds'])) (meets_heap' ds (by simp [Stp.did, ds']))

theorem Dr.agree (h : Dr X ops ord ss fr0 σ0 l) (ht : Tch ops ord ss D nD) (hg : Good (AncP ops ord) l) (hlt : ∀ j ∈ l, j < ss.length) {i : Nat} (hi : i ∉ l) (ha : ∀ j, AncP ops ord j i → j ∈ l) (hil : i ≤ ss.length) (hin : i < nD)
    {o : Oper} {y : Did} (ho : ops[ord.getD i 0]? = some o) (hy : D[i]? = some y) {frl fri : Fr} {σl σi : Heap} (hL : AtL ss fr0 σ0 l frl σl) (hI : AtL ss fr0 σ0 (canon i) fri σi) :
    frl.n = fri.n ∧ (∀ t ∈ Oper.reads ops o, look frl.env t = look fri.env t) ∧ (∀ d, leTouch y.le = some d → lookO frl.locs d = lookO fri.locs d) ∧ (y.he ≠ .no → σl = σi) := by
  obtain ⟨h0, hnn⟩ := drawOk_ord ht.ok
  obtain ⟨r, hO⟩ := ordOk_spec h0
  have hb : ∀ j k, j < ops.size → k < ops.size → AncP ops ord j k → j < k := fun j k _ hk hjk => hO.lt hk hjk
  have hnN : ss.length ≤ ops.size := Nat.le_trans ht.le hnn
  have hiN : i < ops.size := Nat.lt_of_lt_of_le hin hnn
  refine ⟨hL.n.trans hI.n.symm, fun t htr => ?_, fun d hd => ?_, fun hh => ?_⟩
  · rw [hL.env, hI.env, envAt_filter, envAt_filter _ _ _ (canon i), hg.writers (wEnv ss t) hb hnN hiN hlt hi ha (fun k hk wk hne => ?_) (pairEnv h ht t) hil]
    obtain ⟨s, hs, ds⟩ := wEnv_iff.1 wk
    exact held ht.ok (Nat.lt_of_lt_of_le hk ht.le) hin hne (h.op _ _ hs) ho (ht.did _ _ hs) hy (meets_read ds htr) (meets_read' ds htr)
  · rw [hL.loc, hI.loc, locAt_filter, locAt_filter _ _ _ (canon i), hg.writers (wLoc ss d) hb hnN hiN hlt hi ha (fun k hk wk hne => ?_) (pairLoc h ht d) hil]
    obtain ⟨s, hs, ds⟩ := wLoc_iff.1 wk
    exact held ht.ok (Nat.lt_of_lt_of_le hk ht.le) hin hne (h.op _ _ hs) ho (ht.did _ _ hs) hy (meets_loc ds hd) (meets_loc' hd ds)
  · rw [hL.heap, hI.heap, heapAt_filter, heapAt_filter _ _ (canon i), hg.writers (wHeap ss) hb hnN hiN hlt hi ha (fun k hk wk hne => ?_) (pairHeap h ht) hil]
    obtain ⟨s, hs, τ, ds⟩ := wHeap_iff.1 wk
    exact held ht.ok (Nat.lt_of_lt_of_le hk ht.le) hin hne (h.op _ _ hs) ho (ht.did _ _ hs) hy (meets_heap ds hh) (meets_heap' ds hh)

theorem mem_reads_op {ops : Array Oper} {o : Oper} {t : Nat} (h : Operand.tmp t ∈ o.op.operands.toList) : t ∈ Oper.reads ops o := by
  unfold Oper.reads
  exact List.mem_append_left _ (List.mem_filterMap.2 ⟨.tmp t, h, rfl⟩)

theorem mem_reads_guard {ops : Array Oper} {o : Oper} {j : Nat} {want : Bool} {t : Nat} (hg : o.guard = some (j, want)) (h : (ops[j]?).bind (·.dst) = some t) : t ∈ Oper.reads ops o := by
  unfold Oper.reads
  exact List.mem_append_right _ (by rw [hg]; simp only [h]; simp)

theorem opnd_agree {ops : Array Oper} {o : Oper} {frl fri : Fr} (h : ∀ t ∈ Oper.reads ops o, look frl.env t = look fri.env t) : ∀ x ∈ o.op.operands.toList, opnd frl x = opnd fri x := by
  intro x hx
  cases x with
  | tmp t => exact h t (mem_reads_op hx)
  | _ => rfl

theorem guard_agree {o : Oper} {frl fri : Fr} (h : ∀ t ∈ Oper.reads ops o, look frl.env t = look fri.env t) {ran : Bool} (hg : GuardAt ops o fri ran) : GuardAt ops o frl ran := by
  unfold GuardAt at hg ⊢
  split
  · rename_i e; rw [e] at hg; exact hg
  · rename_i j want e
    rw [e] at hg
    have : guardVal ops frl j = guardVal ops fri j := by
      unfold guardVal
      cases hd : (ops[j]?).bind (·.dst) with
      | none => rfl
      | some t => simp only [Option.map_some]; rw [h t (mem_reads_guard e hd)]
    rw [this]; exact hg

theorem GuardAt.wanted {M : Mem} {F : FM} {own : Owns} {fr : Fr} {σ : Heap} {a : Act} {w : World} {o : Oper} {ran : Bool} (hR : R M F own fr σ a w) (hg : GuardAt ops o fr ran) : Region.wanted o (yielded ops a.tmps) = ran := by
  unfold GuardAt at hg
  split at hg
  · rename_i e; subst hg; simp [Region.wanted, e]
  · rename_i j want e
    rcases hg with ⟨b, hb, rfl⟩ | ⟨vs, hb, rfl⟩
    · obtain ⟨v, hv, hw, _⟩ := guard_wanted (w := w) hR e hb
      cases hv
      exact hw b rfl
    · obtain ⟨v, hv, _, hw⟩ := guard_wanted (w := w) hR e hb
      cases hv
      exact hw _ rfl

theorem AtL.cons {frl : Fr} {σl : Heap} (h : AtL ss fr0 σ0 l frl σl) {i : Nat} {s : Stp} (hs : ss[i]? = some s) : AtL ss fr0 σ0 (i :: l) ((frl.app s.le).put s.o.dst s.c) (s.he.app σl) := by
  refine ⟨by rw [put_n, app_n]; exact h.n, fun t => ?_, fun d => ?_, ?_⟩
  · rw [look_put, app_env]
    simp only [envAt, hs]
    split <;> first | rfl | exact h.env t
  · rw [put_locs, lookO_app]
    simp only [locAt, hs, Option.bind_some]
    split <;> first | (split <;> first | rfl | exact h.loc d) | exact h.loc d
  · simp only [heapAt, hs, Option.map_some]
    cases hhe : s.he <;> simp only [HE.app] <;> exact h.heap

end
end Go.CL
namespace Go.CL
open Go

theorem Fork.yes {b : Bool} {T E : Prop} (hb : b = true) (h : T) : Fork b T E := ⟨fun _ => h, fun e => absurd (hb.symm.trans e) (by decide)⟩
theorem Fork.no {b : Bool} {T E : Prop} (hb : b = false) (h : E) : Fork b T E := ⟨fun e => absurd (hb.symm.trans e) (by decide), fun _ => h⟩

theorem GetN.of {σ : Heap} {l : Nat} {k : Ob → Prop} {ob : Ob} (h : σ l = some ob) (hk : k ob) : GetN σ l k := ⟨⟨ob, h, hk⟩⟩
theorem ElemN.of {xs : List CV} {i : Nat} {k : CV → Prop} {x : CV} (h : xs[i]? = some x) (hk : k x) : ElemN xs i k := ⟨⟨x, h, hk⟩⟩

theorem lkT_map {P : Program} : ∀ {tt : List (Nat × TI)} {t : Nat} {ti : TI}, (tt.map fun p => tiOf P p.1) = tt.map (fun p => some p.2) → lkT tt t = some ti → tiOf P t = some ti
  | [], _, _, _, h => by simp [lkT] at h
  | (s, c) :: r, t, ti, hm, h => by
    simp only [List.map_cons, List.cons.injEq] at hm
    simp only [lkT] at h
    split at h
    · rename_i e
      have e := Nat.eq_of_beq_eq_true e
      subst e
      rw [hm.1, ← h]
    · exact lkT_map hm.2 h

/-- a table that tells what the program tells -/
theorem Ctx.ok_of {X : Ctx} (h : (X.tt.map fun p => tiOf X.P p.1) = X.tt.map (fun p => some p.2)) : X.ok := fun _ _ => lkT_map h

theorem AtL.nil (ss : List Stp) (fr : Fr) (σ : Heap) : AtL ss fr σ [] fr σ := ⟨rfl, fun _ => rfl, fun _ => rfl, rfl⟩

theorem envAt_congr {ss ss2 : List Stp} (fr : Fr) (t : Nat) : ∀ (l : List Nat), (∀ i ∈ l, ss2[i]? = ss[i]?) → envAt ss2 fr l t = envAt ss fr l t
  | [], _ => rfl
  | i :: l, h => by simp only [envAt]; rw [h i (by simp), envAt_congr fr t l (fun j hj => h j (by simp [hj]))]
theorem locAt_congr {ss ss2 : List Stp} (fr : Fr) (t : Nat) : ∀ (l : List Nat), (∀ i ∈ l, ss2[i]? = ss[i]?) → locAt ss2 fr l t = locAt ss fr l t
  | [], _ => rfl
  | i :: l, h => by simp only [locAt]; rw [h i (by simp), locAt_congr fr t l (fun j hj => h j (by simp [hj]))]
theorem heapAt_congr {ss ss2 : List Stp} (σ : Heap) : ∀ (l : List Nat), (∀ i ∈ l, ss2[i]? = ss[i]?) → heapAt ss2 σ l = heapAt ss σ l
  | [], _ => rfl
  | i :: l, h => by simp only [heapAt]; rw [h i (by simp), heapAt_congr σ l (fun j hj => h j (by simp [hj]))]
theorem AtL.congr {ss ss2 : List Stp} {fr0 fr : Fr} {σ0 σ : Heap} {l : List Nat} (h : AtL ss fr0 σ0 l fr σ) (hc : ∀ i ∈ l, ss2[i]? = ss[i]?) : AtL ss2 fr0 σ0 l fr σ :=
  ⟨h.n, fun t => by rw [envAt_congr fr0 t l hc]; exact h.env t, fun d => by rw [locAt_congr fr0 d l hc]; exact h.loc d, by rw [heapAt_congr σ0 l hc]; exact h.heap⟩

theorem filterMap_all {ops : Array Oper} : ∀ (ord : List Nat), (∀ i ∈ ord, i < ops.size) → (ord.filterMap fun i => ops[i]?).length = ord.length ∧ ∀ (p : Nat), (ord.filterMap fun i => ops[i]?)[p]? = (ord[p]?).bind fun i => ops[i]?
  | [], _ => ⟨rfl, fun p => by simp⟩
  | i :: r, h => by
    have hib : i < ops.size := h i (by simp)
    have hi : ops[i]? = some ops[i] := Array.getElem?_eq_getElem hib
    obtain ⟨h1, h2⟩ := filterMap_all r (fun j hj => h j (by simp [hj]))
    rw [List.filterMap_cons_some hi]
    refine ⟨by simp [h1], fun p => ?_⟩
    cases p with
    | zero => simp [hi]
    | succ p => simp only [List.getElem?_cons_succ]; exact h2 p

section
variable {X : Ctx} {ops : Array Oper} {ord : List Nat} {fr0 : Fr} {σ0 : Heap} {Q : Xt → Fr → Heap → Prop} {M0 : Mem} {own0 : Owns} {w0 : World}

theorem filterW {ss : List Stp} {l : List Nat} {n N : Nat} {A : Nat → Nat → Prop} (hg : Good A l) (hm : ∀ j, j ∈ l ↔ j < n) (W : Nat → Bool) (hlt : ∀ j k, j < N → k < N → A j k → j < k) (hnN : n ≤ N)
    (hW : ∀ j k, j < n → k < n → W j = true → W k = true → j ≠ k → A j k ∨ A k j) : l.filter W = (canon n).filter W := by
  refine sorted_eq (hg.sorted W (fun j hj => Nat.lt_of_lt_of_le ((hm j).1 hj) hnN) (fun j hj k hk => hW j k ((hm j).1 hj) ((hm k).1 hk)) hlt) ((canon_sorted n).filter _) fun x => ?_
  rw [List.mem_filter, List.mem_filter, mem_canon, hm]

theorem Stop.tch {l' : List Oper} {ss : List Stp} {fr : Fr} {σ : Heap} (h : Stop X ops ord Q l' ((ss.map Stp.did).reverse) fr σ) :
    ∃ D nD, Tch ops ord ss D nD := by
  have hd : ∀ (x : List Did) (i : Nat) (s : Stp), ss[i]? = some s → (ss.map Stp.did ++ x)[i]? = some s.did := by
    intro x i s hs
    rw [List.getElem?_append_left (by rw [List.length_map]; exact (List.getElem?_eq_some_iff.1 hs).1), List.getElem?_map, hs]; rfl
  generalize he : (ss.map Stp.did).reverse = ds at h
  have he' : ds.reverse = ss.map Stp.did := by rw [← he, List.reverse_reverse]
  have hl : ds.length = ss.length := by rw [← he]; simp
  cases h with
  | done ds fr σ hd' hl' hQ => rw [he'] at hd'; exact ⟨_, _, fun i s hs => by simpa using hd [] i s hs, hd', by omega⟩
  | pan o r ds fr σ v τ hg hT hp hd' hQ => rw [he', hl] at hd'; exact ⟨_, _, hd _, hd', by omega⟩
  | nd o r ds fr σ hg hp hd' hT => rw [he', hl] at hd'; exact ⟨_, _, hd _, hd', by omega⟩

theorem Dr.run (hX : X.ok) {full : List Oper} (hfull : ∀ p, p < ops.size → full[p]? = ops[ord.getD p 0]?) (hflen : full.length = ops.size) :
    ∀ (fuel : Nat) (listed : Array Bool) (l : List Nat) (ss : List Stp) {frE : Fr} {σE : Heap} {l' : List Oper}, Lst ops ord listed l → l.length + fuel = ops.size → (∀ j ∈ l, j < ss.length) → Dr X ops ord ss fr0 σ0 l →
      full = ss.map Stp.o ++ l' → Stop X ops ord Q l' ((ss.map Stp.did).reverse) frE σE → AtL ss fr0 σ0 (canon ss.length) frE σE → ∀ {frl : Fr} {σl : Heap} {M : Mem} {F : FM} {own : Owns} {a : Act} {w : World},
      AtL ss fr0 σ0 l frl σl → R M F own frl σl a w → KExt M0 own0 w0 M own w → wpAny X.P .any ops (Lift M0 own0 w0 Q) fuel listed a w := by
  have fin : ∀ {listed : Array Bool} {l : List Nat} {ss : List Stp} {frE : Fr} {σE : Heap} {l' : List Oper}, Lst ops ord listed l → (∀ i, i < ops.size → i ∈ l) → (∀ j ∈ l, j < ss.length) → Dr X ops ord ss fr0 σ0 l →
      Stop X ops ord Q l' ((ss.map Stp.did).reverse) frE σE → AtL ss fr0 σ0 (canon ss.length) frE σE → ∀ {frl : Fr} {σl : Heap} {M : Mem} {F : FM} {own : Owns} {a : Act} {w : World},
      AtL ss fr0 σ0 l frl σl → R M F own frl σl a w → KExt M0 own0 w0 M own w → Lift M0 own0 w0 Q .normal a w := by
    intro listed l ss frE σE l' hl hall hlt hDr hS hE frl σl M F own a w hA hR hk
    obtain ⟨D, nD, hT⟩ := hS.tch
    obtain ⟨h0, hnn⟩ := drawOk_ord hT.ok
    obtain ⟨r, hO⟩ := ordOk_spec h0
    have hlen : ops.size ≤ ss.length := by
      rcases Nat.lt_or_ge ss.length ops.size with h' | h'
      · have := hlt _ (hall _ h'); omega
      · exact h'
    have hss : ss.length = ops.size := by have := hT.le; omega
    have hml : ∀ j, j ∈ l ↔ j < ss.length := fun j => ⟨fun hj => hlt j hj, fun hj => hall j (by omega)⟩
    have hb : ∀ j k, j < ops.size → k < ops.size → AncP ops ord j k → j < k := fun j k _ hk hjk => hO.lt hk hjk
    have hσ : σl = σE := by rw [hA.heap, hE.heap, heapAt_filter, heapAt_filter _ _ (canon _), filterW (ss := ss) hl.good hml _ hb (by omega) (pairHeap hDr hT)]
    have hQ : Q .normal frE σE := by
      generalize he : (ss.map Stp.did).reverse = ds at hS
      have hdl : ds.length = ss.length := by rw [← he]; simp
      cases hS with
      | done ds fr σ hd' hl' hQ => exact hQ
      | pan o r ds fr σ v τ hg hT' hp hd' hQ => have := (drawOk_ord hd').2; omega
      | nd o r ds fr σ hg hp hd' hT' => have := (drawOk_ord hd').2; omega
    subst hσ
    exact ⟨.normal, M, F, own, frE, σl, trivial, hQ, hR.ext (hA.n.trans hE.n.symm) (fun t => by rw [hA.env, hE.env, envAt_filter, envAt_filter _ _ _ (canon _), filterW (ss := ss) hl.good hml _ hb (by omega) (pairEnv hDr hT t)])
      (fun d => by rw [hA.loc, hE.loc, locAt_filter, locAt_filter _ _ _ (canon _), filterW (ss := ss) hl.good hml _ hb (by omega) (pairLoc hDr hT d)]), hk⟩
  intro fuel
  induction fuel with
  | zero =>
    intro listed l ss frE σE l' hl hf hlt hDr _ hS hE frl σl M F own a w hA hR hk
    obtain ⟨D, nD, hT⟩ := hS.tch
    obtain ⟨r, hO⟩ := ordOk_spec (drawOk_ord hT.ok).1
    have hall := nodup_all ops.size l hl.good.nodup hl.lt (by omega)
    exact ⟨hl.full hO hall, fin hl hall hlt hDr hS hE hA hR hk⟩
  | succ fuel ih =>
    intro listed l ss frE σE l' hl hf hlt hDr hfs hS hE frl σl M F own a w hA hR hk
    obtain ⟨D, nD, hT⟩ := hS.tch
    obtain ⟨h0, hnn⟩ := drawOk_ord hT.ok
    obtain ⟨r, hO⟩ := ordOk_spec h0
    refine ⟨fun hr => fin hl (hl.none hO hr) hlt hDr hS hE hA hR hk, fun i hi => ?_⟩
    obtain ⟨his, hin, _⟩ := mem_ready.1 hi
    obtain ⟨hp, hpi⟩ := hO.back i his
    generalize r i = p at hp hpi
    subst hpi
    have hni : p ∉ l := fun hm => by rw [(hl.iff p hp).2 hm] at hin; cases hin
    have hanc : ∀ j, AncP ops ord j p → j ∈ l := fun j hj => hl.anc hO hp hi hj
    have hl' := hl.step hO hp hi
    rcases Nat.lt_or_ge p ss.length with hlt' | hge
    · have hs : ss[p]? = some ss[p] := List.getElem?_eq_getElem hlt'
      generalize ss[p] = s at hs
      have hos := hDr.op _ _ hs
      obtain ⟨hdst, hAi, hok⟩ := hDr.at_ _ _ hs
      have hok := hok hni
      obtain ⟨an, ae, al, ah⟩ := hDr.agree hT hl.good hlt hni hanc (Nat.le_of_lt hlt') (Nat.lt_of_lt_of_le hlt' hT.le) hos (hT.did _ _ hs) hA hAi
      have hlt2 : ∀ j ∈ p :: l, j < ss.length := fun j hj => by
        rcases List.mem_cons.1 hj with rfl | hj
        · exact hlt'
        · exact hlt j hj
      have hDr2 : Dr X ops ord ss fr0 σ0 (p :: l) := ⟨fun i s hs => by
        obtain ⟨a, b, c⟩ := hDr.at_ i s hs
        exact ⟨a, b, fun hm => c (fun hm' => hm (by simp [hm']))⟩, hDr.op⟩
      have hw := GuardAt.wanted hR (guard_agree ae hok.guard)
      have put : ∀ {fr1 : Fr} {σ1 : Heap} {M : Mem} {F : FM} {own : Owns} {w : World} {v : Value}, fr1.n = fr0.n → R M F own fr1 σ1 a w → Rep M F v s.c → R M F own (fr1.put s.o.dst s.c) σ1 (a.put s.o.dst v) w := by
        intro fr1 σ1 M F own w v hn hR hv
        cases hd : s.o.dst with
        | none => exact hR
        | some t => exact hR.put (by rw [hn]; exact hdst t hd) hv
      simp only [wpOp, hos]
      split
      · rename_i hwt
        rw [hwt] at hw
        have hTri : Tri X s.o s.fr s.σ s.c s.le s.he := hok.run hw.symm
        refine .inl ?_
        refine hTri hR an (opnd_agree ae) al ah fun v M' F' own' w' h1 h2 h3 _ => ?_
        have hR2 : R M' F' own' ((frl.app s.le).put s.o.dst s.c) (s.he.app σl) (a.put s.o.dst v) w' := put (by rw [app_n]; exact hA.n) h1 h2
        exact ih _ _ ss hl' (by simp; omega) hlt2 hDr2 hfs hS hE (hA.cons hs) hR2 (hk.trans h3)
      · rename_i hwt
        have hran : s.ran = false := by
          cases hr : s.ran with
          | false => rfl
          | true => exact absurd (hw.trans hr) hwt
        obtain ⟨e1, e2, e3⟩ := hok.skip hran
        have hc := hA.cons hs
        rw [e2, e3] at hc
        have hR2 : R M F own (frl.put s.o.dst s.c) σl (a.put s.o.dst undef) w := put hA.n hR (by rw [e1]; exact .sc _)
        exact ih _ _ ss hl' (by simp; omega) hlt2 hDr2 hfs hS hE hc hR2 hk
    · -- the operation at which the reading stood still
      have hpm : panOk ops ord ss.length = true → p = ss.length := by
        intro h
        rcases panOk_spec h hp with h | h
        · omega
        · have := hlt _ (hanc ss.length ⟨by omega, h⟩); omega
      generalize he : (ss.map Stp.did).reverse = ds at hS
      have he' : ds.reverse = ss.map Stp.did := by rw [← he, List.reverse_reverse]
      have hdl : ds.length = ss.length := by rw [← he]; simp
      have hhead : ∀ {o : Oper} {rr : List Oper}, l' = o :: rr → ss.length < ops.size → ops[ord.getD ss.length 0]? = some o := by
        intro o rr e hlt
        rw [← hfull _ hlt, hfs, e, List.getElem?_append_right (by simp)]; simp
      cases hS with
      | done ds fr σ hd' hl'' hQ => omega
      | pan o rr ds fr σ v τ hg hTp hpk hd' hQ =>
        rw [hdl] at hpk
        have hpe := hpm hpk
        subst hpe
        have ho := hhead rfl hp
        rw [he', hdl] at hd'
        have hT2 : Tch ops ord ss (ss.map Stp.did ++ [⟨none, .no, .wr τ⟩]) (ss.length + 1) := ⟨fun i s hs => by
          rw [List.getElem?_append_left (by rw [List.length_map]; exact (List.getElem?_eq_some_iff.1 hs).1), List.getElem?_map, hs]; rfl, hd', by omega⟩
        have hDm : (ss.map Stp.did ++ [(⟨none, .no, .wr τ⟩ : Did)])[ss.length]? = some ⟨none, .no, .wr τ⟩ := by
          rw [List.getElem?_append_right (by simp)]; simp
        obtain ⟨an, ae, al, ah⟩ := hDr.agree hT2 hl.good hlt hni hanc (Nat.le_refl _) (by omega) ho hDm hA hE
        have hw := GuardAt.wanted hR (guard_agree ae hg)
        simp only [wpOp, ho]
        rw [if_pos hw]
        refine .inl (hTp hR an (opnd_agree ae) (ah (by simp)) fun p M' own' w' h1 h2 h3 h4 h5 => ?_)
        exact ⟨.pan v, M', F, own', frE, τ, ⟨h2, h3, h4⟩, hQ, ⟨h1.toRg, h1.defers⟩, hk.trans h5⟩
      | nd o rr ds fr σ hg hpk hd' hTn =>
        rw [hdl] at hpk
        have hpe := hpm hpk
        subst hpe
        have ho := hhead rfl hp
        rw [he', hdl] at hd'
        have hT2 : Tch ops ord ss (ss.map Stp.did ++ [⟨o.dst, .no, .wr σE⟩]) (ss.length + 1) := ⟨fun i s hs => by
          rw [List.getElem?_append_left (by rw [List.length_map]; exact (List.getElem?_eq_some_iff.1 hs).1), List.getElem?_map, hs]; rfl, hd', by omega⟩
        have hDm : (ss.map Stp.did ++ [(⟨o.dst, .no, .wr σE⟩ : Did)])[ss.length]? = some ⟨o.dst, .no, .wr σE⟩ := by
          rw [List.getElem?_append_right (by simp)]; simp
        obtain ⟨an, ae, al, ah⟩ := hDr.agree hT2 hl.good hlt hni hanc (Nat.le_refl _) (by omega) ho hDm hA hE
        have hw := GuardAt.wanted hR (guard_agree ae hg)
        have hσE := ah (by simp)
        simp only [wpOp, ho]
        rw [if_pos hw]
        refine .inl (hTn hR an (opnd_agree ae) hσE (fun v c τ M' F' own' w' hK h1 h2 h3 _ => ?_) (fun p c τ M' own' w' hK h1 h2 h3 h4 h5 => ?_))
        · obtain ⟨hdst, hK⟩ := putN_some hK
          obtain ⟨ss', fr', σ', l2, e1, hC, hS2⟩ := exDraw_stop hX rr _ hK
          let ns : Stp := ⟨o, frE, σE, true, c, .no, .wr τ⟩
          have e2 : ∀ i, i < ss.length → (ss ++ ns :: ss')[i]? = ss[i]? := fun i hi => List.getElem?_append_left hi
          have en : (ss ++ ns :: ss')[ss.length]? = some ns := by rw [List.getElem?_append_right (Nat.le_refl _)]; simp
          have hE2 := hE.congr (ss2 := ss ++ ns :: ss') (fun i hi => e2 i (mem_canon.1 hi))
          have hn0 := hE2.cons en
          obtain ⟨c1, c2⟩ := Chain.at_ (all := ss ++ ns :: ss') (fr0 := fr0) (σ0 := σ0) (ss.length + 1) hC (fun i => by
            rw [List.getElem?_append_right (by omega), show ss.length + 1 + i - ss.length = i + 1 by omega]; simp) ⟨hn0.n, hn0.env, hn0.loc, hn0.heap⟩
          have hA2 := (hA.congr (ss2 := ss ++ ns :: ss') (fun i hi => e2 i (hlt i hi))).cons en
          have hlt2 : ∀ j ∈ ss.length :: l, j < (ss ++ ns :: ss').length := fun j hj => by
            rcases List.mem_cons.1 hj with rfl | hj
            · simp
            · have := hlt j hj; simp; omega
          have hat2 : ∀ (i : Nat) (s : Stp), (ss ++ ns :: ss')[i]? = some s → (∀ t, s.o.dst = some t → t < fr0.n) ∧ AtL (ss ++ ns :: ss') fr0 σ0 (canon i) s.fr s.σ ∧ (i ∉ ss.length :: l → s.ok X ops) := fun i s hs => by
            rcases Nat.lt_or_ge i ss.length with hi | hi
            · rw [e2 i hi] at hs
              obtain ⟨a1, a2, a3⟩ := hDr.at_ i s hs
              exact ⟨a1, a2.congr (fun j hj => e2 j (by have := mem_canon.1 hj; omega)), fun hm => a3 (fun hm' => hm (by simp [hm']))⟩
            · by_cases hie : i = ss.length
              · subst hie
                rw [en] at hs
                cases hs
                exact ⟨fun t ht => by have := hdst t ht; rw [app_n, hE.n] at this; exact this, hE2, fun hm => absurd (by simp) hm⟩
              · rw [List.getElem?_append_right hi, show i - ss.length = (i - ss.length - 1) + 1 by omega, List.getElem?_cons_succ] at hs
                obtain ⟨a1, a2, a3, a4, a5⟩ := c1 _ s hs
                rw [show ss.length + 1 + (i - ss.length - 1) = i by omega] at a3 a4 a5
                exact ⟨fun t ht => by rw [← a2]; exact a1.dst t ht, ⟨a2, a3, a4, a5⟩, fun _ => a1⟩
          have hmap2 : full = (ss ++ ns :: ss').map Stp.o ++ l2 := by rw [hfs, e1]; simp [ns]
          have hop2 : ∀ (i : Nat) (s : Stp), (ss ++ ns :: ss')[i]? = some s → ops[ord.getD i 0]? = some s.o := fun i s hs => by
            have h1 := (List.getElem?_eq_some_iff.1 hs).1
            have h2 : full.length = (ss ++ ns :: ss').length + l2.length := by rw [hmap2]; simp; omega
            rw [← hfull _ (by omega), hmap2, List.getElem?_append_left (by rw [List.length_map]; exact h1), List.getElem?_map, hs]; rfl
          have hS3 : Stop X ops ord Q l2 (((ss ++ ns :: ss').map Stp.did).reverse) fr' σ' := by
            simp only [stepsOf] at hS2
            rw [← he] at hS2
            simpa [ns, Stp.did] using hS2
          have hE3 : AtL (ss ++ ns :: ss') fr0 σ0 (canon (ss ++ ns :: ss').length) fr' σ' := by
            have : (ss ++ ns :: ss').length = ss.length + 1 + ss'.length := by simp; omega
            rw [this]
            exact ⟨c2.1, c2.2.1, c2.2.2.1, c2.2.2.2⟩
          have hR2 : R M' F' own' (frl.put o.dst c) τ (a.put o.dst v) w' := by
            cases hd : o.dst with
            | none => exact h1
            | some t => exact h1.put (by have := hdst t hd; rw [app_n, hE.n] at this; rw [hA.n]; exact this) h2
          exact ih _ _ (ss ++ ns :: ss') hl' (by simp; omega) hlt2 ⟨hat2, hop2⟩ hmap2 hS3 hE3 hA2 hR2 (hk.trans h3)
        · exact ⟨.pan c, M', F, own', frE, τ, ⟨h2, h3, h4⟩, hK.t, ⟨h1.toRg, h1.defers⟩, hk.trans h5⟩

end

theorem drawSat {X : Ctx} (hX : X.ok) (hm : X.P.follows .mixedOrders = true) : DrawSat X := by
  intro id ops fr σ Q h M F own a w M0 own0 w0 hR hk
  refine wp_region_any hm ?_
  have hR0 := hR.drawn (w.drawn + 1)
  have hk0 : KExt M0 own0 w0 M own { w with drawn := w.drawn + 1 } := ⟨hk.mem, hk.size, hk.os, hk.tape, hk.output, hk.keep⟩
  have h : exDraw X ops (ordOf X id ops) ((ordOf X id ops).filterMap fun i => ops[i]?) [] fr σ Q := by
    have h' : forceN (ordOf X id ops) (fun ord => forceP (ord.filterMap fun i => ops[i]?) fun l => exDraw X ops ord l [] fr σ Q) := h
    rw [forceN_eq, forceP_eq] at h'
    exact h'
  generalize ordOf X id ops = ord at h
  obtain ⟨ss, fr', σ', l', e1, hC, hS⟩ := exDraw_stop hX _ [] h
  simp only [stepsOf, List.append_nil] at hS
  obtain ⟨D, nD, hT⟩ := hS.tch
  obtain ⟨r, hO⟩ := ordOk_spec (drawOk_ord hT.ok).1
  obtain ⟨f1, f2⟩ := filterMap_all (ops := ops) ord (fun i hi => by
    obtain ⟨p, hp, rfl⟩ := List.mem_iff_getElem.1 hi
    have := (hO.at_ p (by rw [← hO.len]; exact hp)).1
    rwa [List.getD_eq_getElem?_getD, List.getElem?_eq_getElem hp] at this)
  have hfull : ∀ p, p < ops.size → (ord.filterMap fun i => ops[i]?)[p]? = ops[ord.getD p 0]? := by
    intro p hp
    rw [f2, List.getD_eq_getElem?_getD, List.getElem?_eq_getElem (by rw [hO.len]; exact hp)]; rfl
  obtain ⟨c1, c2⟩ := Chain.at_ (all := ss) (fr0 := fr) (σ0 := σ) 0 hC (fun i => by simp) ⟨rfl, fun _ => rfl, fun _ => rfl, rfl⟩
  simp only [Nat.zero_add] at c1 c2
  have hlen : ss.length ≤ ops.size := Nat.le_trans hT.le (drawOk_ord hT.ok).2
  refine Dr.run (M0 := M0) (own0 := own0) (w0 := w0) hX hfull (by rw [f1, hO.len]) ops.size _ [] ss (.init ops ord hO) (by simp) (by simp) ⟨fun i s hs => ?_, fun i s hs => ?_⟩ e1 hS ⟨c2.1, c2.2.1, c2.2.2.1, c2.2.2.2⟩ (.nil ss fr σ) hR0 hk0
  · obtain ⟨a1, a2, a3, a4, a5⟩ := c1 i s hs
    exact ⟨fun t ht => by rw [← a2]; exact a1.dst t ht, ⟨a2, a3, a4, a5⟩, fun _ => a1⟩
  · have h1 := (List.getElem?_eq_some_iff.1 hs).1
    rw [← hfull i (by omega), e1, List.getElem?_append_left (by rw [List.length_map]; exact h1), List.getElem?_map, hs]; rfl

end Go.CL
namespace Go.CL
open Go

/-- a loop by a measure -/
theorem LoopN.rule {α : Type} {body : Fr → Heap → (Xt → Fr → Heap → Prop) → Prop} {Q : Xt → Fr → Heap → Prop} (I : α → Fr) (H : α → Heap) (m : α → Nat) (ok : α → Prop)
    (step : ∀ (a : α) (K : Fr → Heap → Prop), ok a → (∀ a' fr σ, ok a' → m a' < m a → Wk fr σ (I a') (H a') → K fr σ) → body (I a) (H a) (fun e fr σ => match e with
      | .normal => K fr σ
      | e => Q e fr σ)) {fr : Fr} {σ : Heap} (a : α) (ha : ok a) (hw : Wk fr σ (I a) (H a)) : LoopN body Q fr σ := by
  have key : ∀ (n : Nat) (a : α), ok a → m a < n → ∀ fr σ, Wk fr σ (I a) (H a) → loopIt body Q n fr σ := by
    intro n
    induction n with
    | zero => intro a _ h; omega
    | succ n ih =>
      intro a ha hn fr σ hw
      exact ⟨I a, H a, hw, step a _ ha fun a' fr σ ha' hm hw => ih a' ha' (by omega) fr σ hw⟩
  exact ⟨⟨m a + 1, key _ a ha (by omega) fr σ hw⟩⟩

theorem EnvLe.of {l l' : List (Nat × Ob)} {env : List (Nat × CV)} : ∀ (env' : List (Nat × CV)), (∀ p ∈ env', CVle l l' (look env p.1) p.2) → EnvLe l l' env env'
  | [], _ => .nil
  | p :: r, h => .cons p.1 p.2 r (h p (by simp)) (EnvLe.of r fun q hq => h q (by simp [hq]))

def Each (P : CV → Prop) : List CV → Prop
  | [] => True
  | x :: r => P x ∧ Each P r
theorem Each.all {P : CV → Prop} : ∀ {l : List CV}, Each P l → ∀ x ∈ l, P x
  | [], _, x, h => by simp at h
  | y :: r, h, x, hx => by
    rcases List.mem_cons.1 hx with rfl | hx
    · exact h.1
    · exact Each.all h.2 x hx

theorem ElsOk.nil {n : Nat} : ElsOk n [] := fun x h => by simp at h
theorem ElsOk.cons {n : Nat} {x : CV} {r : List CV} (h1 : x.cells.length = n) (h2 : x.cells.all CV.one = true) (h : ElsOk n r) : ElsOk n (x :: r) := fun y hy => by
  rcases List.mem_cons.1 hy with rfl | hy
  · exact ⟨h1, h2⟩
  · exact h y hy
theorem ElsOk.one {n : Nat} {x : CV} (h1 : x.cells.length = n) (h2 : x.cells.all CV.one = true) : ElsOk n [x] := .cons h1 h2 .nil

theorem ElemN.any {P : CV → Prop} {xs : List CV} {i : Nat} {k : CV → Prop} (H : ∀ x ∈ xs, P x) (hi : i < xs.length) (h : ∀ x, P x → k x) : ElemN xs i k :=
  ⟨⟨xs[i], List.getElem?_eq_getElem hi, h _ (H _ (List.getElem_mem hi))⟩⟩

theorem CRun.mono {P : Program} {f : FuncId} {args : List CV} {σ : Heap} {p q : COut → Prop} (h : CRun P f args σ p) (hi : ∀ out, p out → q out) : CRun P f args σ q :=
  ⟨h.1, fun M own w vals h1 h2 h3 => (h.2 M own w vals h1 h2 h3).mono fun _ _ ⟨out, M', own', hp, hr⟩ => ⟨out, M', own', hi out hp, hr⟩⟩

theorem upd_upd (σ : Heap) (l : Nat) (a b : Ob) : upd (upd σ l a) l b = upd σ l b := by
  funext x; simp only [upd]; split <;> rfl
theorem upd_comm (σ : Heap) {l k : Nat} (a b : Ob) (h : l ≠ k) : upd (upd σ l a) k b = upd (upd σ k b) l a := by
  funext x; simp only [upd]; split <;> split <;> simp_all

end Go.CL
namespace Go.CL
open Go

theorem Need.go {c T : Prop} (t : T) (h : c := by first | (simp only [inR]; omega) | omega | (simp; done) | (simp; omega) | assumption | exact rfl | exact ⟨by omega, by omega, by omega, .inl rfl⟩) : Need c T := ⟨h, t⟩
theorem Need.draw {ops : Array Oper} {ord : List Nat} {ds : List Did} {n m k : Nat} {T : Prop} (t : T) (h : drawOk ops ord ds n = true := by kernel_rfl) (h' : m = k := by kernel_rfl) :
    Need (drawOk ops ord ds n = true ∧ m = k) T := ⟨⟨h, h'⟩, t⟩
theorem Need.ap0 {y : CV} {te : TI} {T : Prop} (t : T) (h : ElOk te.size y := by exact ⟨rfl, rfl⟩) (h1 : te.bytes ≤ 140737488355328 := by exact Nat.le_of_ble_eq_true rfl) : Need (1 ≤ [y].length ∧ [y].length * te.bytes ≤ 140737488355328 ∧ [y].length ≤ 9223372036854775807 ∧ ElsOk te.size [y]) T :=
  ⟨⟨Nat.le_refl _, by simpa using h1, by simp, ElsOk.one h.1 h.2⟩, t⟩
theorem Need.ap1 {n : Nat} {xs : List CV} {y : CV} {te : TI} {T : Prop} (t : T) (h : ElOk te.size y := by exact ⟨rfl, rfl⟩) (h1 : (xs.length + 1) * te.bytes ≤ 140737488355328 ∧ xs.length + 1 ≤ 9223372036854775807 := by simp only []; omega) (h2 : n = xs.length := by rfl) :
    Need (n = xs.length ∧ 1 ≤ [y].length ∧ (xs.length + [y].length) * te.bytes ≤ 140737488355328 ∧ xs.length + [y].length ≤ 9223372036854775807 ∧ ElsOk te.size [y]) T :=
  ⟨⟨h2, Nat.le_refl _, h1.1, h1.2, ElsOk.one h.1 h.2⟩, t⟩
theorem Need.ap2 {n : Nat} {xs ys : List CV} {te : TI} {T : Prop} (t : T) (h : ElsOk te.size ys := by assumption) (h1 : (xs.length + ys.length) * te.bytes ≤ 140737488355328 ∧ xs.length + ys.length ≤ 9223372036854775807 := by simp only []; omega) (h3 : 1 ≤ ys.length := by omega) (h2 : n = xs.length := by rfl) :
    Need (n = xs.length ∧ 1 ≤ ys.length ∧ (xs.length + ys.length) * te.bytes ≤ 140737488355328 ∧ xs.length + ys.length ≤ 9223372036854775807 ∧ ElsOk te.size ys) T :=
  ⟨⟨h2, h3, h1.1, h1.2, h⟩, t⟩

theorem Fork.yp {p : Prop} [Decidable p] {T E : Prop} (t : T) (h : p := by first | omega | assumption) : Fork (decide p) T E := .yes (decide_eq_true h) t
theorem Fork.np {p : Prop} [Decidable p] {T E : Prop} (e : E) (h : ¬ p := by first | omega | assumption) : Fork (decide p) T E := .no (decide_eq_false h) e
theorem Fork.ny {p : Prop} [Decidable p] {T E : Prop} (t : T) (h : ¬ p := by first | omega | assumption) : Fork (!decide p) T E := .yes (by rw [decide_eq_false h]; rfl) t
theorem Fork.nn {p : Prop} [Decidable p] {T E : Prop} (e : E) (h : p := by first | omega | assumption) : Fork (!decide p) T E := .no (by rw [decide_eq_true h]; rfl) e
theorem Fork.yb {b : Bool} {T E : Prop} (t : T) (h : b = true := by first | assumption | exact rfl) : Fork b T E := .yes h t
theorem Fork.nb {b : Bool} {T E : Prop} (e : E) (h : b = false := by first | assumption | exact rfl) : Fork b T E := .no h e
theorem Fork.dp {p : Prop} [Decidable p] {T E : Prop} (t : p → T) (e : ¬ p → E) : Fork (decide p) T E := ⟨fun h => t (of_decide_eq_true h), fun h => e (of_decide_eq_false h)⟩
theorem Fork.dn {p : Prop} [Decidable p] {T E : Prop} (t : ¬ p → T) (e : p → E) : Fork (!decide p) T E :=
  ⟨fun h => t (by simpa using h), fun h => e (by simpa using h)⟩

theorem GetN.go {σ : Heap} {l : Nat} {k : Ob → Prop} {ob : Ob} (hk : k ob) (h : σ l = some ob := by first | assumption | exact upd_same _ _ _) : GetN σ l k := .of h hk
theorem ElemN.go {xs : List CV} {i : Nat} {k : CV → Prop} {x : CV} (hk : k x) (h : xs[i]? = some x := by first | assumption | exact rfl) : ElemN xs i k := .of h hk

theorem OrdN.go {ops : Array Oper} {ord : List Nat} {n m : Nat} {ds : List Did} {A B : Prop} (h : A) (h1 : panOk ops ord n = true := by kernel_rfl) (h2 : drawOk ops ord ds m = true := by kernel_rfl) :
    OrdN (panOk ops ord n = true ∧ drawOk ops ord ds m = true) A B := .many ⟨h1, h2⟩ h
theorem finGo {v : CV} {σ : Heap} {post : COut → Prop} (h : post (.ret v σ)) : Fin v σ post := .ret σ (Sub.refl _) h
theorem AllocN.go {σ : Heap} {k : Nat → Prop} (h : ∀ l, σ l = none → k l) : AllocN false σ k := ⟨rfl, h⟩
end Go.CL
namespace Go.CL
open Go Go.ChangeShapes Go.WideShapes Go.ChangeAt Go.RowKit

/-- all of a world's cells, as what does not change any more -/
def oldMem (W : World) : Mem := fun b o => W.cell? ⟨b, o, none⟩
def ownNo : Owns := fun _ => none
theorem rg_old (W : World) : Rg (oldMem W) ownNo (fun _ => none) W := ⟨fun _ _ _ h => h, fun l ob h => (by cases h), fun _ _ => rfl⟩

/-- what lay there lies there -/
structure Old (W W' : World) : Prop where
  heap : ∀ b, b < W.heap.size → W'.heap[b]? = W.heap[b]?
  os : W'.os = W.os
  output : W'.output = W.output

theorem KExt.old {W W' : World} {M : Mem} {own : Owns} (h : KExt (oldMem W) ownNo W M own W') : Old W W' := ⟨fun b hb => (h.keep b hb rfl).1, h.os, h.output⟩
theorem Old.kept {W W' : World} (h : Old W W') (may : MemPlace → Prop) : W.keptBut W' may := by
  refine ⟨h.os, h.output, fun i hi => ?_⟩
  rw [h.heap i hi]
  cases e : W.heap[i]? with
  | none => rfl
  | some o =>
    cases o with
    | cells c t fr => exact ⟨rfl, rfl, rfl, fun _ _ => rfl⟩
    | map es clock => exact .inr ⟨rfl, rfl⟩
    | _ => rfl
theorem Old.frozen {W W' : World} (h : Old W W') {a : Addr} (ha : a.block < W.heap.size) : W'.frozen? a = W.frozen? a := by
  unfold World.frozen?; rw [h.heap _ ha]
theorem Old.sameAt {W W' : World} (h : Old W W') {p : MemPlace} (hp : p.block < W.heap.size) : W.sameAt W' p := by
  cases p with
  | cell b off => show World.cell? _ _ = World.cell? _ _; unfold World.cell?; rw [h.heap b hp]
  | map b => exact h.heap b hp

section
variable {H : Type} {enc : TypeId × Value → H} {P : Program}

/-- kinds of data without pointers -/
def plainT (P : Program) (S : List TypeId) (t : TypeId) : Bool := match P.underlying t with
  | some .bool => true
  | some (.int _) => true
  | some .string => true
  | some (.slice e) => S.contains e && Nat.ble 1 (P.cellsOf e)
  | some (.struct fs) => fs.toList.all fun f => S.contains f.type
  | _ => false

theorem trod_again {W W' : World} {S : List TypeId} {held : Bool} (hS : S.all (plainT P S) = true) (hW : Old W W') {sp : Nat → Bool} : ∀ (n : Nat) (t : TypeId) (cs : List Value) (x : DataW H × List MemPlace), t ∈ S →
    DataW.trod enc P W 0 (fun _ => true) held n t cs = some x → (∀ p ∈ x.2, sp p.block = true) → DataW.trod enc P W' 0 sp held n t cs = some x := by
  intro n
  induction n with
  | zero => intro t cs x _ h; simp [DataW.trod] at h
  | succ n ih =>
    intro t cs x ht h hs
    have hlt := DataW.trod_lt _ _ _ _ h
    have hpl := List.all_eq_true.1 hS t ht
    unfold plainT at hpl
    rw [DataW.trod_step] at h ⊢
    unfold DataW.trodStep at h ⊢
    split at h
    case h_1 => exact h
    case h_2 => exact h
    case h_3 => exact h
    case h_4 => exact h
    case h_7 => exact h
    case h_8 e a len cap hu =>
      rw [hu] at hpl
      simp only [Bool.and_eq_true, List.contains_iff_mem] at hpl
      have h1 : 1 ≤ P.cellsOf e := Nat.le_of_ble_eq_true hpl.2
      simp only at h ⊢
      split at h
      · rename_i hc
        rw [if_pos hc]
        simp only [if_true, Option.map_eq_some_iff, Option.bind_eq_some_iff] at h ⊢
        obtain ⟨elems, he, rest, hrest, rfl⟩ := h
        have hlen : elems.length = len := by simpa using mapM_some_length he
        have hrl : rest.length = cap - len := by simpa using mapM_some_length hrest
        have one : ∀ (i : Nat) (y : DataW H × List MemPlace), i < elems.length + rest.length → y ∈ elems ++ rest →
            (W.cells? 0 (a.add (i * P.cellsOf e)) (P.cellsOf e)).bind (DataW.trod enc P W 0 (fun _ => true) held n e) = some y → (W'.cells? 0 (a.add (i * P.cellsOf e)) (P.cellsOf e)).bind (DataW.trod enc P W' 0 sp held n e) = some y := by
          intro i y hi hy hv
          simp only [Option.bind_eq_some_iff] at hv ⊢
          obtain ⟨cs', hc', hy'⟩ := hv
          have hin : ∀ p ∈ y.2, p ∈ (elems ++ rest).flatMap (·.2) := fun p hp => List.mem_flatMap.2 ⟨y, hy, hp⟩
          refine ⟨cs', World.cells?_carry hc' (fun p hp => hW.sameAt (hlt p ?_)), ih e cs' y hpl.1 hy' (fun p hp => hs p (List.mem_append_right _ (hin p hp)))⟩
          obtain ⟨j, hj, rfl⟩ := MemPlace.mem_row.1 hp
          refine List.mem_append_left _ (MemPlace.mem_row.2 ⟨i * P.cellsOf e + j, ?_, ?_⟩)
          · have := Nat.mul_le_mul_right (P.cellsOf e) hi
            have : (i + 1) * P.cellsOf e = i * P.cellsOf e + P.cellsOf e := by rw [Nat.add_mul, Nat.one_mul]
            have : (i + 1) * P.cellsOf e ≤ (elems.length + rest.length) * P.cellsOf e := Nat.mul_le_mul_right _ hi
            omega
          · unfold Addr.add
            split
            · rename_i h0
              simp [h0]
            · simp [Nat.add_assoc]
        refine ⟨elems, mapM_carry he (fun i y hi hy => one i y (by have : i < len := (by simpa using hi); omega) (by simp [hy])), rest, ?_, rfl⟩
        by_cases hsp : sp a.block = true
        · rw [if_pos hsp]
          exact mapM_carry hrest (fun j y hj hy => one (len + j) y (by have : j < cap - len := (by simpa using hj); omega) (by simp [hy]))
        · rw [if_neg hsp]
          have h0 : rest.length = 0 := by
            refine Decidable.byContradiction fun hne => hsp ?_
            refine hs (.cell a.block (a.off + 0)) (List.mem_append_left _ (MemPlace.mem_row.2 ⟨0, ?_, rfl⟩))
            exact Nat.mul_pos (by omega) h1
          rw [List.length_eq_zero_iff.1 h0]
      · cases h
    case h_9 fs hu =>
      rw [hu] at hpl
      split at h
      · rename_i hc
        rw [if_pos hc]
        simp only [Option.map_eq_some_iff] at h ⊢
        obtain ⟨xs, hx, rfl⟩ := h
        exact ⟨xs, mapM_carry hx (fun f y hf hy hv => ih _ _ _ (by have := List.all_eq_true.1 hpl f hf; simpa using this) hv (fun p hp => hs p (List.mem_flatMap.2 ⟨y, hy, hp⟩))), rfl⟩
      · cases h
    case h_21 => cases h
    all_goals first
      | (rename_i hu; rw [hu] at hpl; cases hpl; done)
      | (rename_i hu _; rw [hu] at hpl; cases hpl; done)

theorem trodAll_again {W W' : World} {S : List TypeId} {held : Bool} (hS : S.all (plainT P S) = true) (hW : Old W W') {sp : Nat → Bool} : ∀ {ts : List TypeId} {vs : List Value} {ds : List (DataW H)} {ps : List MemPlace},
    (∀ t ∈ ts, t ∈ S) → DataW.TrodAll enc P W 0 (fun _ => true) held ts vs ds ps → (∀ p ∈ ps, sp p.block = true) → DataW.TrodAll enc P W' 0 sp held ts vs ds ps
  | [], vs, ds, ps, _, h, _ => by
    obtain ⟨rfl, rfl, rfl⟩ := trodAll_nil h
    rfl
  | t :: ts, vs, ds, ps, ht, h, hs => by
    obtain ⟨v, vs', d, ds', p, q, rfl, rfl, rfl, ⟨n, h1⟩, h2⟩ := trodAll_cons h
    exact ⟨p, q, ⟨n, trod_again hS hW n t _ _ (ht t (by simp)) h1 (fun x hx => hs x (by simp [hx]))⟩, trodAll_again hS hW (fun x hx => ht x (by simp [hx])) h2 (fun x hx => hs x (by simp [hx])), rfl⟩

/-- a law's end: it says yes, and all is as it was -/
theorem law_post {f : Func} {s : ChangeSpec} {apart fresh handsOn again : Bool} {W W' : World} {args : Array Value} {ds gs : List (DataW H)} {before : List MemPlace} {S : List TypeId} {b : TypeId}
    (hS : S.all (plainT P S) = true) (hp : (f.params.toList.all fun t => S.contains t) = true) (hv : s.vars = []) (hr : f.resultTypes = #[b]) (hb : P.underlying b = some .bool)
    (hfn : (s.fn H (ds ++ gs)).results = [.lit (.bool true)] ∧ (gs = [] → (s.fn H (ds ++ gs)).args = ds) ∧ (s.fn H (ds ++ gs)).vars = [])
    (hW : DataW.Whole enc P f.params.toList s.vars apart W args.toList ds gs before) (hO : Old W W') : s.post enc P f apart fresh handsOn again W args (.bool true) W' := by
  have hlt := hW.lt
  have hW' := hW
  obtain ⟨p, q, hA, hV, rfl, hz, hn⟩ := hW
  rw [hv] at hV
  obtain ⟨rfl, rfl⟩ := trodVars_none hV
  rw [List.append_nil] at hW' hfn hz hn hlt
  have hargs : ∀ sp : Nat → Bool, (∀ x ∈ p, sp x.block = true) → DataW.TrodAll enc P W' 0 sp true f.params.toList args.toList ds p := fun sp hs =>
    trodAll_again hS hO (fun t ht => by have := List.all_eq_true.1 hp t ht; simpa using this) hA hs
  have hres : ∀ (b : Nat) (sp : Nat → Bool) (hd : Bool), DataW.TrodAll enc P W' b sp hd f.resultTypes.toList ((Value.bool true).resultList f.resultTypes.size) [.lit (.bool true)] [] := fun b' sp hd => by
    rw [hr]
    exact trodAll_mk1 (shut_bool hb true)
  have hold : ∀ x ∈ p, (fun b => decide (b < W.heap.size)) x.block = true := fun x hx => by simpa using hlt x hx
  have e1 : (s.fn H (ds ++ [])).results = [.lit (.bool true)] := by rw [List.append_nil]; exact hfn.1
  have e2 : (s.fn H (ds ++ [])).args = ds := by rw [List.append_nil]; exact hfn.2.1 rfl
  have e3 : (s.fn H (ds ++ [])).vars = [] := by rw [List.append_nil]; exact hfn.2.2
  refine ⟨ds, [], p, [], p, [], hW', ?_, ?_, ?_, hO.kept _, fun _ => ⟨ok_one hr rfl (okWide_bool_mk hb true), ?_⟩⟩
  · rw [e1]; exact hres _ _ _
  · rw [e2]; exact hargs _ hold
  · rw [e3, hv]; rfl
  · refine ⟨_, _, ([] ++ p) ++ [], ⟨[] ++ p, [], trodAll_append (hargs _ (fun _ _ => rfl)) (hres _ _ _), (show DataW.TrodVars enc P W' (fun _ => true) s.vars [] [] by rw [hv]; rfl), rfl, ?_, ?_⟩, ?_⟩
    · intro b' off hp'
      rw [hO.frozen (hlt _ (by simpa using hp'))]
      exact hz b' off (by simpa using hp')
    · intro ha
      simpa using hn ha
    · intro x hx _
      simpa using hx

/-- what the bytes that came in are -/
theorem rep_bytes {W : World} {base : Nat} {t e : TypeId} {v : Value} {d : DataW H} {ps : List MemPlace} (ht : P.underlying t = some (.slice e)) (he : P.underlying e = some (.int .u8)) (hc : P.cellsOf e = 1)
    (hk : Value.okWide P W .any base t v) (h : DataW.Trod enc P W 0 (fun _ => true) true t v d ps) : ∃ bs : List CV, (∀ x ∈ bs, ∃ b, x = .sc (.int .u8 b) ∧ 0 ≤ b ∧ b ≤ 255) ∧ Rep (oldMem W) FM.no v (.vec bs) := by
  obtain ⟨fuel, hf⟩ := h
  obtain ⟨av, nv, cv, rfl⟩ := okWide_slice ht hk
  rcases open_ints ht he hc hf with ⟨hcs, _⟩ | ⟨a, len, cap, zs, hcs, _, hl, hm, hz, _, hcell, hwz⟩
  · simp [Value.cells] at hcs
    obtain ⟨rfl, rfl, rfl⟩ := hcs
    exact ⟨[], by simp, .nilvec⟩
  · simp [Value.cells] at hcs
    obtain ⟨rfl, rfl, rfl⟩ := hcs
    simp only [if_true] at hz
    refine ⟨(zs.take nv).map fun z => .sc (.int .u8 z), ?_, ?_⟩
    · intro x hx
      obtain ⟨z, hz', rfl⟩ := List.mem_map.1 hx
      have := hwz z (List.mem_of_mem_take hz')
      refine ⟨z, rfl, ?_⟩
      simp [Lit.wf, IntKind.min, IntKind.max, IntKind.bits, IntKind.signed] at this
      exact this
    · · have hspot : a.spot = none := by
          simp only [Value.okWide, ht, Cell.okWide, Cell.ok] at hk
          exact hk.2.2.2.1
        obtain ⟨ab, ao, spot⟩ := a
        simp only at hspot
        subst hspot
        refine .vec 1 ab ao nv cv _ (fun i _ => .int .u8 (zs.getD i 0)) (by simp; omega) hl ?_ ?_ ?_
        · intro i x hx
          rw [List.getElem?_map] at hx
          cases hg : (zs.take nv)[i]? with
          | none => rw [hg] at hx; cases hx
          | some z => rw [hg] at hx; cases hx; rfl
        · intro i x j c hx hj
          rw [List.getElem?_map] at hx
          cases hg : (zs.take nv)[i]? with
          | none => rw [hg] at hx; cases hx
          | some z =>
            rw [hg] at hx; cases hx
            have hi : i < zs.length := by
              have := (List.getElem?_eq_some_iff.1 hg).1
              simp at this; omega
            simp only [CV.cells] at hj
            have hj0 : j = 0 := by
              cases j with
              | zero => rfl
              | succ j => simp at hj
            subst hj0
            have := hcell i hi
            simp only [oldMem, Nat.mul_one, Nat.add_zero]
            rw [← this, add_at]
        · intro i x j c hx hj
          rw [List.getElem?_map] at hx
          cases hg : (zs.take nv)[i]? with
          | none => rw [hg] at hx; cases hx
          | some z =>
            rw [hg] at hx; cases hx
            simp only [CV.cells] at hj
            cases j with
            | succ j => simp at hj
            | zero =>
              simp at hj; subst hj
              have hi : (zs.take nv)[i]? = some z := hg
              have : zs[i]? = some z := by
                have hlt := (List.getElem?_eq_some_iff.1 hg).1
                simp at hlt
                rwa [List.getElem?_take_of_lt (by omega)] at hg
              rw [List.getD_eq_getElem?_getD, this]; exact .sc _
end
end Go.CL
