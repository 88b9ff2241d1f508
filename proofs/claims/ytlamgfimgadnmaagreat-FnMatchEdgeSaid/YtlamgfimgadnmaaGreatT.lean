/-
  Contracts of the functions that the law reaches.
-/
import Derived.Test.YtlamgfimgadnmaaGreatS
import Derived.Test.YtlamgfimgadnmaaGreatR
set_option linter.unusedVariables false
set_option linter.unusedSimpArgs false
namespace Go.Proofs.YtlamgfimgadnmaaGreat
open Go Go.CL
set_option maxRecDepth 10000
theorem asc_pair {ids : List Int} {e : Int} (h : ascOk ids e = true) : ids.Pairwise (· < ·) := by
  have step : ∀ j (hj : j + 1 < ids.length), ids[j]'(by omega) < ids[j + 1] := fun j hj => by
    have := List.all_eq_true.1 h (j + 1) (List.mem_range.2 hj)
    rw [idAt_succ (List.getElem?_eq_getElem hj) (List.getElem?_eq_getElem (by omega))] at this
    simp only [Bool.and_eq_true, decide_eq_true_eq] at this
    exact this.2
  have far : ∀ k i (hk : i + 1 + k < ids.length), ids[i]'(by omega) < ids[i + 1 + k] := by
    intro k
    induction k with
    | zero => intro i hk; exact step i hk
    | succ k ih =>
      intro i hk
      have h1 := ih i (by omega)
      have h2 := step (i + 1 + k) (by omega)
      exact Int.lt_trans h1 h2
  refine List.pairwise_iff_getElem.2 fun i j hi hj hij => ?_
  have := far (j - i - 1) i (by omega)
  have e : i + 1 + (j - i - 1) = j := by omega
  simp only [e] at this
  exact this
theorem one_id {d : Int} : ∀ (l : List Nd), (l.map Nd.id).Pairwise (· < ·) → (∃ n ∈ l, n.id = d) → (l.filter fun n => decide (n.id = d)).length = 1
  | [], _, h => by obtain ⟨n, hn, _⟩ := h; simp at hn
  | x :: r, hp, h => by
    rw [List.map_cons, List.pairwise_cons] at hp
    by_cases hx : x.id = d
    · have hr : (r.filter fun n => decide (n.id = d)) = [] := List.filter_eq_nil_iff.2 fun n hn => by
        have := hp.1 n.id (List.mem_map.2 ⟨n, hn, rfl⟩)
        simp; omega
      rw [List.filter_cons_of_pos (by simp [hx]), hr]; rfl
    · obtain ⟨n, hn, he⟩ := h
      have hn' : n ∈ r := by
        rcases List.mem_cons.1 hn with rfl | hn
        · exact (hx he).elim
        · exact hn
      rw [List.filter_cons_of_neg (by simp [hx])]
      exact one_id r hp.2 ⟨n, hn', he⟩
theorem filter_or {α : Type} {p q : α → Bool} : ∀ (l : List α), (∀ x ∈ l, ¬ (p x = true ∧ q x = true)) → (l.filter fun x => p x || q x).length = (l.filter p).length + (l.filter q).length
  | [], _ => rfl
  | x :: r, h => by
    have ih := filter_or r (fun y hy => h y (by simp [hy]))
    have hx := h x (by simp)
    cases hp : p x <;> cases hq : q x <;> simp [List.filter_cons, hp, hq, ih] <;> first | omega | exact (hx ⟨hp, hq⟩).elim
theorem sum_swap {α β : Type} {f : α → β → Bool} (as2 : List α) : ∀ (bs : List β), (bs.map fun b => (as2.filter fun a => f a b).length).sum = (as2.map fun a => (bs.filter fun b => f a b).length).sum := by
  intro bs
  induction bs with
  | nil =>
    induction as2 with
    | nil => rfl
    | cons a r ih => simp at ih ⊢; exact ih
  | cons b r ih =>
    rw [List.map_cons, List.sum_cons, ih]
    clear ih
    induction as2 with
    | nil => rfl
    | cons a s ih =>
      simp only [List.map_cons, List.sum_cons, List.filter_cons] at ih ⊢
      cases f a b <;> simp at ih ⊢ <;> omega
def kindB (k : ByteArray) (e : Ed) : Bool := decide (k = ⟨#[]⟩) || decide (e.kind = k)
def hitN (g : Gr) (w : Int) (k : ByteArray) (e : Ed) : Nat := (g.nodes.filter fun n => goesF e n.id w k).length
theorem hit_no {g : Gr} {w : Int} {k : ByteArray} {e : Ed} (h : kindB k e = false) : hitN g w k e = 0 := by
  unfold hitN
  rw [List.filter_eq_nil_iff.2 (fun n _ => by unfold goesF; unfold kindB at h; rw [h]; simp)]; rfl
theorem ends_ex {g : Gr} (h : graphOk g = true) {e : Ed} (he : e ∈ g.edges) : (∃ n ∈ g.nodes, n.id = e.src) ∧ ∃ n ∈ g.nodes, n.id = e.dst := by
  obtain ⟨h1, h2⟩ := edge_ends h he
  obtain ⟨i, n, _, hn, hi⟩ := node_at h1
  obtain ⟨j, m, _, hm, hj⟩ := node_at h2
  exact ⟨⟨n, List.mem_of_getElem? hn, hi⟩, m, List.mem_of_getElem? hm, hj⟩
theorem ids_pair {g : Gr} (h : graphOk g = true) : (g.nodes.map Nd.id).Pairwise (· < ·) := by
  unfold graphOk at h
  simp only [Bool.and_eq_true, decide_eq_true_eq] at h
  exact asc_pair h.2.1
theorem hit_on {g : Gr} (hk : graphOk g = true) {k : ByteArray} {e : Ed} (he : e ∈ g.edges) (h : kindB k e = true) : hitN g 1 k e = 1 := by
  unfold hitN
  have : (fun n : Nd => goesF e n.id 1 k) = fun n : Nd => decide (n.id = e.src) := by
    funext n; unfold goesF; unfold kindB at h; rw [h]
    simp [eq_comm]
  rw [this]
  exact one_id _ (ids_pair hk) (ends_ex hk he).1
theorem hit_back {g : Gr} (hk : graphOk g = true) {k : ByteArray} {e : Ed} (he : e ∈ g.edges) (h : kindB k e = true) : hitN g (-1) k e = 1 := by
  unfold hitN
  have : (fun n : Nd => goesF e n.id (-1) k) = fun n : Nd => decide (n.id = e.dst) := by
    funext n; unfold goesF; unfold kindB at h; rw [h]
    simp [eq_comm]
  rw [this]
  exact one_id _ (ids_pair hk) (ends_ex hk he).2
theorem hit_both {g : Gr} (hk : graphOk g = true) {k : ByteArray} {e : Ed} (he : e ∈ g.edges) (h : kindB k e = true) : hitN g 0 k e = if e.src = e.dst then 1 else 2 := by
  unfold hitN
  have : (fun n : Nd => goesF e n.id 0 k) = fun n : Nd => decide (n.id = e.src) || decide (n.id = e.dst) := by
    funext n; unfold goesF; unfold kindB at h; rw [h]
    simp [eq_comm]
  rw [this]
  by_cases hs : e.src = e.dst
  · rw [if_pos hs]
    have : (fun n : Nd => decide (n.id = e.src) || decide (n.id = e.dst)) = fun n : Nd => decide (n.id = e.src) := by funext n; rw [hs]; simp
    rw [this]
    exact one_id _ (ids_pair hk) (ends_ex hk he).1
  · rw [if_neg hs, filter_or _ (fun n _ hn => hs (by simp at hn; rw [← hn.1, hn.2]))]
    rw [one_id _ (ids_pair hk) (ends_ex hk he).1, one_id _ (ids_pair hk) (ends_ex hk he).2]
def hopE (k : ByteArray) (w : Int) : Stp := ⟨true, ⟨#[101]⟩, k, w, ⟨⟨#[]⟩, ⟨#[]⟩, []⟩⟩
def edgeP (k : ByteArray) (w : Int) : Pth := ⟨⟨⟨#[]⟩, ⟨#[]⟩, []⟩, [⟨⟨#[101]⟩, k, w, ⟨⟨#[]⟩, ⟨#[]⟩, []⟩⟩]⟩
def edgeR (d : Int) : List Pr := [⟨⟨#[101]⟩, edgeV d⟩]
def waysE (g : Gr) (k : ByteArray) (w : Int) : List (List Pr) := waysM g (outP [edgeP k w] [edgeP k w].length) 0 [] []
theorem fits_0 {n : Nd} {row : List Pr} : fitsM ⟨⟨#[]⟩, ⟨#[]⟩, []⟩ n row = true := by
  unfold fitsM namB labB
  simp
theorem bind_0 {row : List Pr} {v : Val} : bindM row ⟨#[]⟩ v = row := if_pos rfl
theorem bind_e {v : Val} : bindM [] ⟨#[101]⟩ v = [⟨⟨#[101]⟩, v⟩] := by unfold bindM; rw [if_neg (by decide)]; rfl
theorem next_e {k : ByteArray} {w : Int} {e : Ed} {n : Nd} : nextH (hopE k w) e n [] = edgeR e.id := by
  unfold nextH hopE edgeR
  dsimp only
  rw [bind_e, bind_0]
theorem flow_e {g : Gr} (hk : graphOk g = true) {k : ByteArray} {w d : Int} {i : Nat} {e : Ed} (he : g.edges[i]? = some e) : flowM g [] [] (hopM g (hopE k w) d [] [] i) = if goesF e d w k then [edgeR e.id] else [] := by
  obtain ⟨ni, nd, hpi, hnd, hid⟩ := far_at hk (List.mem_of_getElem? he) d
  have hop : hopM g (hopE k w) d [] [] i = if ([] : List Int).contains e.id || !goesF e d w k then none else match g.nodes[(placeF (nids g.nodes) (farE e d) 0).toNat]? with
      | none => none
      | some n => if fitsM ⟨⟨#[]⟩, ⟨#[]⟩, []⟩ n (nextH (hopE k w) e n []) then some (n.id, e.id, nextH (hopE k w) e n []) else none := by
    unfold hopM; rw [he]; rfl
  rw [hop, hpi, Int.toNat_natCast, hnd]
  dsimp only
  rw [fits_0, if_pos rfl, next_e]
  cases goesF e d w k <;> rfl
theorem goes_at {e : Ed} {d w : Int} {k : ByteArray} (h : atE d e = false) : goesF e d w k = false := by
  unfold atE at h
  simp only [Bool.or_eq_false_iff, decide_eq_false_iff_not] at h
  unfold goesF
  simp [h.1, h.2]
theorem ways_m {g : Gr} (hk : graphOk g = true) {k : ByteArray} {w d : Int} : ∀ m, m ≤ g.edges.length → ((besN g.edges d m).flatMap fun i => flowM g [] [] (hopM g (hopE k w) d [] [] i)) = (g.edges.take m).flatMap fun e => if goesF e d w k then [edgeR e.id] else [] := by
  intro m
  induction m with
  | zero => intro _; rfl
  | succ m ih =>
    intro hm
    have he := List.getElem?_eq_getElem (show m < g.edges.length by omega)
    generalize g.edges[m] = e at he
    have hb : besAt g.edges d m = atE d e := by unfold besAt; rw [he]
    rw [fm_take he]
    cases ha : atE d e
    · rw [besN_no (by rw [hb]; exact ha), ih (by omega), goes_at ha]; simp
    · rw [besN_yes (by rw [hb]; exact ha), List.flatMap_append, ih (by omega)]
      simp only [List.flatMap_cons, List.flatMap_nil, List.append_nil]
      rw [flow_e hk he]
theorem waysE_eq {g : Gr} (hk : graphOk g = true) {k : ByteArray} {w : Int} : waysE g k w = g.nodes.flatMap fun n => (g.edges.filter fun e => goesF e n.id w k).map fun e => edgeR e.id := by
  have e1 : waysE g k w = g.nodes.flatMap fun n => if fitsM ⟨⟨#[]⟩, ⟨#[]⟩, []⟩ n (bindM [] ⟨#[]⟩ (nodeV n.id)) then waysM g [hopE k w] n.id (bindM [] ⟨#[]⟩ (nodeV n.id)) [] else [] := rfl
  rw [e1]
  refine congrArg (fun F => g.nodes.flatMap F) (funext fun n => ?_)
  rw [fits_0, if_pos rfl, bind_0, waysM_hop rfl]
  show ((besN g.edges n.id g.edges.length).flatMap _) = _
  rw [ways_m hk _ (Nat.le_refl _), List.take_of_length_le (Nat.le_refl _), flat_if]
theorem waysE_len {g : Gr} (hk : graphOk g = true) {k : ByteArray} {w : Int} : (waysE g k w).length = (g.edges.map (hitN g w k)).sum := by
  rw [waysE_eq hk, List.length_flatMap]
  have : (fun n : Nd => ((g.edges.filter fun e => goesF e n.id w k).map fun e => edgeR e.id).length) = fun n : Nd => (g.edges.filter fun e => goesF e n.id w k).length := by funext n; rw [List.length_map]
  rw [this]
  exact sum_swap (f := fun e n => goesF e n.id w k) g.edges g.nodes
def kindN (es : List Ed) (k : ByteArray) : Nat := (es.filter (kindB k)).length
def loopN (es : List Ed) (k : ByteArray) : Nat := (es.filter fun e => kindB k e && decide (e.src = e.dst)).length
theorem sum_one {h : Ed → Nat} {k : ByteArray} : ∀ (es : List Ed), (∀ e ∈ es, h e = if kindB k e then 1 else 0) → (es.map h).sum = kindN es k
  | [], _ => rfl
  | e :: r, H => by
    have ih := sum_one r (fun x hx => H x (by simp [hx]))
    have he := H e (by simp)
    unfold kindN at ih ⊢
    rw [List.map_cons, List.sum_cons, ih, he, List.filter_cons]
    cases kindB k e <;> simp <;> omega
theorem sum_two {h : Ed → Nat} {k : ByteArray} : ∀ (es : List Ed), (∀ e ∈ es, h e = if kindB k e then (if e.src = e.dst then 1 else 2) else 0) → (es.map h).sum + loopN es k = 2 * kindN es k
  | [], _ => rfl
  | e :: r, H => by
    have ih := sum_two r (fun x hx => H x (by simp [hx]))
    have he := H e (by simp)
    unfold kindN loopN at ih ⊢
    rw [List.map_cons, List.sum_cons, he, List.filter_cons, List.filter_cons]
    cases kindB k e
    · simp; omega
    · by_cases hs : e.src = e.dst
      · simp [hs]; omega
      · simp [hs]; omega
theorem len_on {g : Gr} (hk : graphOk g = true) {k : ByteArray} : (waysE g k 1).length = kindN g.edges k := by
  rw [waysE_len hk]
  refine sum_one _ fun e he => ?_
  cases h : kindB k e
  · rw [hit_no h]; rfl
  · rw [hit_on hk he h]; rfl
theorem len_back {g : Gr} (hk : graphOk g = true) {k : ByteArray} : (waysE g k (-1)).length = kindN g.edges k := by
  rw [waysE_len hk]
  refine sum_one _ fun e he => ?_
  cases h : kindB k e
  · rw [hit_no h]; rfl
  · rw [hit_back hk he h]; rfl
theorem len_both {g : Gr} (hk : graphOk g = true) {k : ByteArray} : (waysE g k 0).length + loopN g.edges k = 2 * kindN g.edges k := by
  rw [waysE_len hk]
  refine sum_two _ fun e he => ?_
  cases h : kindB k e
  · rw [hit_no h]; rfl
  · rw [hit_both hk he h]; rfl
theorem kindN_le {es : List Ed} {k : ByteArray} : kindN es k ≤ es.length := List.length_filter_le _ _
theorem loopN_le {es : List Ed} {k : ByteArray} : loopN es k ≤ es.length := List.length_filter_le _ _
theorem edges_16 {g : Gr} (h : graphOk g = true) : g.edges.length ≤ 16 := by
  unfold graphOk at h
  simp only [Bool.and_eq_true, decide_eq_true_eq] at h
  exact h.1.2.2.2
theorem okV_edge {d : Int} (h : 0 ≤ d ∧ d ≤ 1000000000) : okV 3 (edgeV d) = true := by
  unfold edgeV
  simp only [okV]
  simp [h.1, h.2]
theorem may_e : MayT ⟨#[101]⟩ := ⟨by decide, by decide⟩
theorem edgeH {g : Gr} {k : ByteArray} {w : Int} (hg : GrTame g) (hk : graphOk g = true) (ht : MayT k) (hw : w = 1 ∨ w = -1 ∨ w = 0) : MatsH g [edgeP k w] (waysE g k w) := by
  have h16 := edges_16 hk
  have hkl := kindN_le (es := g.edges) (k := k)
  have hlen : (waysE g k w).length ≤ 32 := by
    rcases hw with rfl | rfl | rfl
    · rw [len_on hk]; omega
    · rw [len_back hk]; omega
    · have := len_both hk (k := k); omega
  have hpt : PthT (edgeP k w) := ⟨⟨by show 0 ≤ 1000; omega, by show 0 ≤ 1000; omega, by simp [edgeP], by simp [edgeP]⟩, by simp [edgeP], by
    intro h hh
    rw [List.mem_singleton.1 hh]
    exact ⟨by show 1 ≤ 1000; omega, by have := ht.2; show k.size ≤ 1000; omega, by show -1000000 ≤ w ∧ w ≤ 1000000; omega, ⟨by show 0 ≤ 1000; omega, by show 0 ≤ 1000; omega, by simp, by simp⟩⟩⟩
  have hnp : ∀ p ∈ [edgeP k w], NoP p := by
    intro p hp
    rw [List.mem_singleton.1 hp]
    exact ⟨rfl, by simp [edgeP], by intro h hh; rw [List.mem_singleton.1 hh]⟩
  refine ⟨hg, hk, by simp, ?_, ?_, hnp, ?_, ?_, rfl, by omega, ?_⟩
  · have h1 : spOk ⟨⟨#[]⟩, ⟨#[]⟩, []⟩ = true := by decide
    have h2 : hpOk ⟨⟨#[101]⟩, k, w, ⟨⟨#[]⟩, ⟨#[]⟩, []⟩⟩ = true := by
      unfold hpOk
      dsimp only
      rw [may_e.1, ht.1, h1, decide_eq_true (show -1 ≤ w ∧ w ≤ 1 by omega)]; rfl
    simp [pthsOk, pthOk, edgeP, h1, h2]
  · intro p hp
    rw [List.mem_singleton.1 hp]
    exact ⟨hpt, by intro q hq; simp [edgeP] at hq, by intro h hh; rw [List.mem_singleton.1 hh]; intro q hq; simp at hq⟩
  · rfl
  · show (outP [edgeP k w] 1).length ≤ 200
    have := outP_len hnp 1
    omega
  · intro r hr
    rw [waysE_eq hk] at hr
    obtain ⟨n, _, hr⟩ := List.mem_flatMap.1 hr
    obtain ⟨e, he, rfl⟩ := List.mem_map.1 hr
    have hb := ids_bound hk (List.mem_filter.1 he).1
    refine ⟨by simp [edgeR], fun q hq => ?_⟩
    unfold edgeR at hq
    rw [List.mem_singleton.1 hq]
    exact ⟨edgeV_t (by omega), okV_edge hb⟩
theorem edgeW {g : Gr} {k : ByteArray} {w : Int} {all : List (List Pr)} (hg : GrTame g) (hk : graphOk g = true) : ∀ lx ln lu ms lr J, WJ g [] (outP [edgeP k w] [edgeP k w].length) lx ln lu ms lr all J → WalkC g lx lu lr all J (outP [edgeP k w] [edgeP k w].length) 0 := by
  intro lx ln lu ms lr J hJ
  have e : outP [edgeP k w] [edgeP k w].length = [⟨false, ⟨#[]⟩, ⟨#[]⟩, 0, ⟨⟨#[]⟩, ⟨#[]⟩, []⟩⟩, hopE k w] := rfl
  rw [e] at hJ ⊢
  intro d row us m pre rest τ
  exact walkN hJ hg (i := 0) rfl (by simp) rfl rfl (walkH hJ hg hk (i := 1) rfl (by simp) rfl rfl (walkB hJ rfl (by simp)))
theorem matchEdge_c {σ : Heap} {g : Gr} {k : ByteArray} {w : Int} (hg : GrTame g) (hk : graphOk g = true) (ht : MayT k) (hw : w = 1 ∨ w = -1 ∨ w = 0) :
    CRun Tryz.prog 10 [g.cv, .vec [], .vec [], .vec [.agg [.sc (.string ⟨#[]⟩), .sc (.string ⟨#[]⟩), .vec [], .vec [.agg [.sc (.string ⟨#[101]⟩), .sc (.string k), i64 w, .sc (.string ⟨#[]⟩), .sc (.string ⟨#[]⟩), .vec []]]]]] σ (· = .ret (.tup [.vec (rowsC (waysE g k w)), i64 0]) σ) :=
  matches_c (edgeH hg hk ht hw) (edgeW hg hk)
def DrawnME (out : COut) : Prop := ∃ ns es nn ne id way t τ, GrTame ⟨ns, es, nn, ne⟩ ∧ MayT t ∧ out = .ret (.tup [.agg [.vec (nds ns), .vec (eds es), i64 nn, i64 ne], i64 id, i64 way, .sc (.string t)]) τ
theorem may_K : MayT ⟨#[75]⟩ := ⟨by decide, by decide⟩
theorem may_L : MayT ⟨#[76]⟩ := ⟨by decide, by decide⟩
set_option maxHeartbeats 4000000 in
theorem drawEdges_m {σ : Heap} {bs : List CV} (hb : BytesOk bs) (h2 : bs.length ≤ 1048576) : CRun Tryz.prog 7 [.vec bs] σ DrawnME := by
  refine crun_of (X := X) X_ok X_sat (body := bodyOf Tryz.f7) Tryz.func7 rfl (by kernel_rfl) (by kernel_rfl) ?_
  rw [Tryz.ntmps7]
  conv => whnf
  repeat' (first | (refine CallN.many (open_c hb h2) ?_; rintro _ ⟨l, bs', hb', hl', rfl⟩) | (refine CallN.many (any_frz (any_o hb' hl' (by omega) (by omega))) ?_; rintro _ ⟨ns, es, nn, ne, q1, gt, a1, a2, rfl⟩) | ((have hk0 := hk1; refine CallN.many (pick_n hb' hl' (by omega) (by omega)) ?_; rintro _ ⟨k2, hk3, hk4, rfl⟩)) | (refine CallN.many (pick_n hb' hl' (by omega) (by omega)) ?_; rintro _ ⟨k, hk1, hk2, rfl⟩) | ((refine CallN.many (of_q (Q := MayT) hb' hl' (by omega) (by omega) ⟨⟨_, rfl, may_K⟩, ⟨_, rfl, may_L⟩, ⟨_, rfl, may_0⟩, trivial⟩ (Nat.le_of_ble_eq_true rfl) (Nat.le_of_ble_eq_true rfl)) ?_; rintro _ ⟨t, ht, rfl⟩)) | refine OrdN.go ?_ | refine Fork.yp ?_ | refine Fork.np ?_ | refine Fork.ny ?_ | refine Fork.nn ?_ | refine Fork.yb ?_ | refine Fork.nb ?_ | refine Fork.dp (fun h => ?_) (fun h => ?_) | refine Fork.dn (fun h => ?_) (fun h => ?_) | (refine Fork.mk (fun h => ?_) (fun h => ?_) <;> simp only [decide_eq_true_eq, decide_eq_false_iff_not, Bool.not_eq_true', Bool.not_eq_false', Bool.or_eq_true, Bool.or_eq_false_iff] at h) | refine GetN.go ?_ | refine Need.ap1 ?_ | refine Need.ap0 ?_ | refine Need.go ?_ | refine Need.draw ?_ | refine ElemN.go ?_ | refine ExtN.ext ?_ | refine ExtN.wr ?_ | refine AllocN.go (fun l hl => ?_) | refine finGo ?_) <;> try (conv => whnf)
  all_goals exact ⟨ns, es, nn, ne, _, _, t, _, gt, ht, rfl⟩
theorem kindN_yes {es : List Ed} {i : Nat} {e : Ed} {k : ByteArray} (h : es[i]? = some e) (hb : kindB k e = true) : kindN (es.take (i + 1)) k = kindN (es.take i) k + 1 := by
  unfold kindN; rw [List.take_add_one, h, List.filter_append]; simp [hb]
theorem kindN_no {es : List Ed} {i : Nat} {e : Ed} {k : ByteArray} (h : es[i]? = some e) (hb : kindB k e = false) : kindN (es.take (i + 1)) k = kindN (es.take i) k := by
  unfold kindN; rw [List.take_add_one, h, List.filter_append]; simp [hb]
theorem loopN_yes {es : List Ed} {i : Nat} {e : Ed} {k : ByteArray} (h : es[i]? = some e) (hb : kindB k e = true) (hs : e.src = e.dst) : loopN (es.take (i + 1)) k = loopN (es.take i) k + 1 := by
  unfold loopN; rw [List.take_add_one, h, List.filter_append]; simp [hb, hs]
theorem loopN_no {es : List Ed} {i : Nat} {e : Ed} {k : ByteArray} (h : es[i]? = some e) (hb : kindB k e = false ∨ ¬ e.src = e.dst) : loopN (es.take (i + 1)) k = loopN (es.take i) k := by
  unfold loopN; rw [List.take_add_one, h, List.filter_append]
  rcases hb with hb | hb <;> simp [hb]
theorem lawMEdge {σ : Heap} {bs : List CV} (hb : BytesOk bs) : CRun Tryz.prog 3 [.vec bs] σ (fun out => ∃ τ, out = .ret (.sc (.bool true)) τ) := by
  by_cases h2 : bs.length ≤ 1048576
  case neg =>
    refine crun_of (X := X) X_ok X_sat (body := bodyOf Tryz.f3) Tryz.func3 rfl (by kernel_rfl) (by kernel_rfl) ?_
    rw [Tryz.ntmps3]
    conv => whnf
    repeat' (first | refine OrdN.one ?_ | refine Fork.yp ?_ | refine Fork.np ?_ | refine Fork.ny ?_ | refine Fork.nn ?_ | refine Fork.yb ?_ | refine Fork.nb ?_ | refine Fork.dp (fun h => ?_) (fun h => ?_) | refine Fork.dn (fun h => ?_) (fun h => ?_) | (refine Fork.mk (fun h => ?_) (fun h => ?_) <;> simp only [decide_eq_true_eq, decide_eq_false_iff_not, Bool.not_eq_true', Bool.not_eq_false', Bool.or_eq_true, Bool.or_eq_false_iff] at h) | refine GetN.go ?_ | refine Need.ap1 ?_ | refine Need.ap0 ?_ | refine Need.go ?_ | refine Need.draw ?_ | refine ElemN.go ?_ | refine ExtN.ext ?_ | refine ExtN.wr ?_ | refine AllocN.go (fun l hl => ?_) | refine finGo ?_) <;> try (conv => whnf)
    all_goals exact ⟨_, rfl⟩
  have d := drawEdges_m (σ := σ) hb h2
  refine crun_of (X := X) X_ok X_sat (body := bodyOf Tryz.f3) Tryz.func3 rfl (by kernel_rfl) (by kernel_rfl) ?_
  rw [Tryz.ntmps3]
  conv => whnf
  repeat' (first | (refine CallN.many d ?_; rintro _ ⟨ns, es, nn, ne, id, way, t, τ, gt, ht, rfl⟩) | refine OrdN.go ?_ | refine Fork.yp ?_ | refine Fork.np ?_ | refine Fork.ny ?_ | refine Fork.nn ?_ | refine Fork.yb ?_ | refine Fork.nb ?_ | refine Fork.dp (fun h => ?_) (fun h => ?_) | refine Fork.dn (fun h => ?_) (fun h => ?_) | (refine Fork.mk (fun h => ?_) (fun h => ?_) <;> simp only [decide_eq_true_eq, decide_eq_false_iff_not, Bool.not_eq_true', Bool.not_eq_false', Bool.or_eq_true, Bool.or_eq_false_iff] at h) | refine GetN.go ?_ | refine Need.ap1 ?_ | refine Need.ap0 ?_ | refine Need.go ?_ | refine Need.draw ?_ | refine ElemN.go ?_ | refine ExtN.ext ?_ | refine ExtN.wr ?_ | refine AllocN.go (fun l hl => ?_) | refine finGo ?_) <;> try (conv => whnf)
  have c1 := implGraph_c (σ := τ) gt
  have c3 := specGraph_c (σ := τ) gt
  have e5 := eds_len es
  cases hk : graphOk ⟨ns, es, nn, ne⟩ <;> rw [hk] at c1 c3
  · conv => whnf
    repeat' (first | (refine CallN.one c1 ?_) | (refine CallN.one c3 ?_) | refine OrdN.go ?_ | refine Fork.yp ?_ | refine Fork.np ?_ | refine Fork.ny ?_ | refine Fork.nn ?_ | refine Fork.yb ?_ | refine Fork.nb ?_ | refine Fork.dp (fun h => ?_) (fun h => ?_) | refine Fork.dn (fun h => ?_) (fun h => ?_) | (refine Fork.mk (fun h => ?_) (fun h => ?_) <;> simp only [decide_eq_true_eq, decide_eq_false_iff_not, Bool.not_eq_true', Bool.not_eq_false', Bool.or_eq_true, Bool.or_eq_false_iff] at h) | refine GetN.go ?_ | refine Need.ap1 ?_ | refine Need.ap0 ?_ | refine Need.go ?_ | refine Need.draw ?_ | refine ElemN.go ?_ | refine ExtN.ext ?_ | refine ExtN.wr ?_ | refine AllocN.go (fun l hl => ?_) | refine finGo ?_) <;> try (conv => whnf)
    all_goals exact ⟨_, rfl⟩
  have h16 : es.length ≤ 16 := edges_16 hk
  have l1 := rowsC_len (waysE ⟨ns, es, nn, ne⟩ t 1)
  have l2 := rowsC_len (waysE ⟨ns, es, nn, ne⟩ t (-1))
  have l3 := rowsC_len (waysE ⟨ns, es, nn, ne⟩ t 0)
  have m1 : (waysE ⟨ns, es, nn, ne⟩ t 1).length = kindN es t := len_on hk
  have m2 : (waysE ⟨ns, es, nn, ne⟩ t (-1)).length = kindN es t := len_back hk
  have m3 : (waysE ⟨ns, es, nn, ne⟩ t 0).length + loopN es t = 2 * kindN es t := len_both hk
  have q1 := matchEdge_c (σ := τ) gt hk ht (.inl rfl)
  have q2 := matchEdge_c (σ := τ) gt hk ht (.inr (.inl rfl))
  have q3 := matchEdge_c (σ := τ) gt hk ht (.inr (.inr rfl))
  generalize waysE ⟨ns, es, nn, ne⟩ t 1 = W1 at l1 m1 q1
  generalize waysE ⟨ns, es, nn, ne⟩ t (-1) = W2 at l2 m2 q2
  generalize waysE ⟨ns, es, nn, ne⟩ t 0 = W3 at l3 m3 q3
  have b1 := kindN_le (es := es) (k := t)
  have b2 := loopN_le (es := es) (k := t)
  conv => whnf
  repeat' (first | (refine CallN.one c1 ?_) | (refine CallN.one c3 ?_) | refine OrdN.go ?_ | refine Fork.yp ?_ | refine Fork.np ?_ | refine Fork.ny ?_ | refine Fork.nn ?_ | refine Fork.yb ?_ | refine Fork.nb ?_ | refine Fork.dp (fun h => ?_) (fun h => ?_) | refine Fork.dn (fun h => ?_) (fun h => ?_) | (refine Fork.mk (fun h => ?_) (fun h => ?_) <;> simp only [decide_eq_true_eq, decide_eq_false_iff_not, Bool.not_eq_true', Bool.not_eq_false', Bool.or_eq_true, Bool.or_eq_false_iff] at h) | refine GetN.go ?_ | refine Need.ap1 ?_ | refine Need.ap0 ?_ | refine Need.go ?_ | refine Need.draw ?_ | refine ElemN.go ?_ | refine ExtN.ext ?_ | refine ExtN.wr ?_ | refine AllocN.go (fun l hl => ?_) | refine finGo ?_) <;> try (conv => whnf)
  refine LoopN.rule (α := Nat) (fun i => ⟨134, [(2, .sc (.bool false)), (3, .ptr (.f 3) 0), (6, .sc (.string t)), (8, i64 (kindN (es.take i) t)), (9, i64 (loopN (es.take i) t)), (10, i64 i)], [(3, .cells [.vec (nds ns), .vec (eds es), i64 nn, i64 ne])]⟩)
    (fun _ => τ) (fun i => es.length - i) (fun i => i ≤ es.length) ?_ 0 (by omega) ?_
  rotate_left
  · (refine ⟨rfl, ?_, ?_, Sub.refl _⟩ <;> repeat' (first | exact EnvLe.nil | exact LocsLe.nil | refine EnvLe.cons _ _ _ ?_ ?_ | refine LocsLe.cons _ _ _ ?_ ?_ | exact CVle.same _ rfl | exact CVle.vec _ _ | exact CVle.nil | exact CVle.tok _ _ _ rfl rfl | exact ObLe.tok _ _ rfl | exact CVles.nil | refine CVles.cons ?_ ?_ | exact ObLe.same _ rfl rfl | refine ObLe.cells rfl ?_))
  rintro i K i1 hK
  by_cases hi : i < es.length
  · obtain ⟨ed, kd, ea, eb, eps, hm, hge, hxe, -⟩ := eds_at hi
    have k1 : kindN (es.take i) t ≤ 16 := Nat.le_trans kindN_le (by rw [List.length_take]; omega)
    have k2 : loopN (es.take i) t ≤ 16 := Nat.le_trans loopN_le (by rw [List.length_take]; omega)
    have hK1 := hK (i + 1)
    try dsimp only at hK1
    clear q1 q2 q3
    have kb : kindB t ⟨ed, kd, ea, eb, eps⟩ = (decide (t = ⟨#[]⟩) || decide (kd = t)) := rfl
    have go : (t = ⟨#[]⟩ ∨ (¬ t = ⟨#[]⟩ ∧ kd = t)) ∨ (¬ t = ⟨#[]⟩ ∧ ¬ kd = t) := by
      by_cases h0 : t = ⟨#[]⟩
      · exact .inl (.inl h0)
      · by_cases h1 : kd = t
        · exact .inl (.inr ⟨h0, h1⟩)
        · exact .inr ⟨h0, h1⟩
    rcases go with go | ⟨h0, h1⟩
    · have hkb : kindB t ⟨ed, kd, ea, eb, eps⟩ = true := by
        rw [kb]
        rcases go with h | ⟨_, h⟩
        · rw [decide_eq_true h]; rfl
        · rw [decide_eq_true h, Bool.or_true]
      rw [kindN_yes hge hkb] at hK1
      by_cases hs : ea = eb
      · rw [loopN_yes hge hkb hs] at hK1
        generalize kindN (es.take i) t = A at hK1 k1 ⊢
        generalize loopN (es.take i) t = B at hK1 k2 ⊢
        rcases go with h0 | ⟨h0, h1⟩
        all_goals
          conv => whnf
          repeat' (first | (refine ElemN.go ?_ (h := hxe)) | refine OrdN.go ?_ | refine Fork.yp ?_ | refine Fork.np ?_ | refine Fork.ny ?_ | refine Fork.nn ?_ | refine Fork.yb ?_ | refine Fork.nb ?_ | refine Fork.dp (fun h => ?_) (fun h => ?_) | refine Fork.dn (fun h => ?_) (fun h => ?_) | (refine Fork.mk (fun h => ?_) (fun h => ?_) <;> simp only [decide_eq_true_eq, decide_eq_false_iff_not, Bool.not_eq_true', Bool.not_eq_false', Bool.or_eq_true, Bool.or_eq_false_iff] at h) | refine GetN.go ?_ | refine Need.ap1 ?_ | refine Need.ap0 ?_ | refine Need.go ?_ | refine Need.draw ?_ | refine ElemN.go ?_ | refine ExtN.ext ?_ | refine ExtN.wr ?_ | refine AllocN.go (fun l hl => ?_) | refine finGo ?_) <;> try (conv => whnf)
          all_goals
            refine hK1 _ _ (by omega) (by omega) ?_
            (refine ⟨rfl, ?_, ?_, Sub.refl _⟩ <;> repeat' (first | exact EnvLe.nil | exact LocsLe.nil | refine EnvLe.cons _ _ _ ?_ ?_ | refine LocsLe.cons _ _ _ ?_ ?_ | exact CVle.same _ rfl | exact CVle.vec _ _ | exact CVle.nil | exact CVle.tok _ _ _ rfl rfl | exact ObLe.tok _ _ rfl | exact CVles.nil | refine CVles.cons ?_ ?_ | exact ObLe.same _ rfl rfl | refine ObLe.cells rfl ?_))
      · rw [loopN_no hge (.inr hs)] at hK1
        generalize kindN (es.take i) t = A at hK1 k1 ⊢
        generalize loopN (es.take i) t = B at hK1 k2 ⊢
        rcases go with h0 | ⟨h0, h1⟩
        all_goals
          conv => whnf
          repeat' (first | (refine ElemN.go ?_ (h := hxe)) | refine OrdN.go ?_ | refine Fork.yp ?_ | refine Fork.np ?_ | refine Fork.ny ?_ | refine Fork.nn ?_ | refine Fork.yb ?_ | refine Fork.nb ?_ | refine Fork.dp (fun h => ?_) (fun h => ?_) | refine Fork.dn (fun h => ?_) (fun h => ?_) | (refine Fork.mk (fun h => ?_) (fun h => ?_) <;> simp only [decide_eq_true_eq, decide_eq_false_iff_not, Bool.not_eq_true', Bool.not_eq_false', Bool.or_eq_true, Bool.or_eq_false_iff] at h) | refine GetN.go ?_ | refine Need.ap1 ?_ | refine Need.ap0 ?_ | refine Need.go ?_ | refine Need.draw ?_ | refine ElemN.go ?_ | refine ExtN.ext ?_ | refine ExtN.wr ?_ | refine AllocN.go (fun l hl => ?_) | refine finGo ?_) <;> try (conv => whnf)
          all_goals
            refine hK1 _ _ (by omega) (by omega) ?_
            (refine ⟨rfl, ?_, ?_, Sub.refl _⟩ <;> repeat' (first | exact EnvLe.nil | exact LocsLe.nil | refine EnvLe.cons _ _ _ ?_ ?_ | refine LocsLe.cons _ _ _ ?_ ?_ | exact CVle.same _ rfl | exact CVle.vec _ _ | exact CVle.nil | exact CVle.tok _ _ _ rfl rfl | exact ObLe.tok _ _ rfl | exact CVles.nil | refine CVles.cons ?_ ?_ | exact ObLe.same _ rfl rfl | refine ObLe.cells rfl ?_))
    · have hkb : kindB t ⟨ed, kd, ea, eb, eps⟩ = false := by rw [kb, decide_eq_false h0, decide_eq_false h1]; rfl
      rw [kindN_no hge hkb, loopN_no hge (.inl hkb)] at hK1
      generalize kindN (es.take i) t = A at hK1 k1 ⊢
      generalize loopN (es.take i) t = B at hK1 k2 ⊢
      conv => whnf
      repeat' (first | (refine ElemN.go ?_ (h := hxe)) | refine OrdN.go ?_ | refine Fork.yp ?_ | refine Fork.np ?_ | refine Fork.ny ?_ | refine Fork.nn ?_ | refine Fork.yb ?_ | refine Fork.nb ?_ | refine Fork.dp (fun h => ?_) (fun h => ?_) | refine Fork.dn (fun h => ?_) (fun h => ?_) | (refine Fork.mk (fun h => ?_) (fun h => ?_) <;> simp only [decide_eq_true_eq, decide_eq_false_iff_not, Bool.not_eq_true', Bool.not_eq_false', Bool.or_eq_true, Bool.or_eq_false_iff] at h) | refine GetN.go ?_ | refine Need.ap1 ?_ | refine Need.ap0 ?_ | refine Need.go ?_ | refine Need.draw ?_ | refine ElemN.go ?_ | refine ExtN.ext ?_ | refine ExtN.wr ?_ | refine AllocN.go (fun l hl => ?_) | refine finGo ?_) <;> try (conv => whnf)
      all_goals
        refine hK1 _ _ (by omega) (by omega) ?_
        (refine ⟨rfl, ?_, ?_, Sub.refl _⟩ <;> repeat' (first | exact EnvLe.nil | exact LocsLe.nil | refine EnvLe.cons _ _ _ ?_ ?_ | refine LocsLe.cons _ _ _ ?_ ?_ | exact CVle.same _ rfl | exact CVle.vec _ _ | exact CVle.nil | exact CVle.tok _ _ _ rfl rfl | exact ObLe.tok _ _ rfl | exact CVles.nil | refine CVles.cons ?_ ?_ | exact ObLe.same _ rfl rfl | refine ObLe.cells rfl ?_))
  · have hie : es.take i = es := List.take_of_length_le (by omega)
    rw [hie]
    generalize kindN es t = A at m1 m2 m3 b1 ⊢
    generalize loopN es t = B at m3 b2 ⊢
    conv => whnf
    repeat' (first | (refine CallN.one q1 ?_) | (refine CallN.one q2 ?_) | (refine CallN.one q3 ?_) | refine OrdN.go ?_ | refine Fork.yp ?_ | refine Fork.np ?_ | refine Fork.ny ?_ | refine Fork.nn ?_ | refine Fork.yb ?_ | refine Fork.nb ?_ | refine Fork.dp (fun h => ?_) (fun h => ?_) | refine Fork.dn (fun h => ?_) (fun h => ?_) | (refine Fork.mk (fun h => ?_) (fun h => ?_) <;> simp only [decide_eq_true_eq, decide_eq_false_iff_not, Bool.not_eq_true', Bool.not_eq_false', Bool.or_eq_true, Bool.or_eq_false_iff] at h) | refine GetN.go ?_ | refine Need.ap1 ?_ | refine Need.ap0 ?_ | refine Need.go ?_ | refine Need.draw ?_ | refine ElemN.go ?_ | refine ExtN.ext ?_ | refine ExtN.wr ?_ | refine AllocN.go (fun l hl => ?_) | refine finGo ?_) <;> try (conv => whnf)
    all_goals first
      | exact ⟨_, rfl⟩
      | (exfalso; omega)
end Go.Proofs.YtlamgfimgadnmaaGreat
