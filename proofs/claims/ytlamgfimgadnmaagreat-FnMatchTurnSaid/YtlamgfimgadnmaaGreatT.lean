/-
  Contracts of the functions that the law reaches.
-/
import Derived.Test.YtlamgfimgadnmaaGreatS
import Derived.Test.YtlamgfimgadnmaaGreatR
set_option linter.unusedVariables false
set_option linter.unusedSimpArgs false
namespace Go.Proofs.YtlamgfimgadnmaaGreat
open Go Go.CL
set_option maxRecDepth 10000
theorem asc_pair {ids : List Int} {e : Int} (h : ascOk ids e = true) : ids.Pairwise (· < ·) := by
  have step : ∀ j (hj : j + 1 < ids.length), ids[j]'(by omega) < ids[j + 1] := fun j hj => by
    have := List.all_eq_true.1 h (j + 1) (List.mem_range.2 hj)
    rw [idAt_succ (List.getElem?_eq_getElem hj) (List.getElem?_eq_getElem (by omega))] at this
    simp only [Bool.and_eq_true, decide_eq_true_eq] at this
    exact this.2
  have far : ∀ k i (hk : i + 1 + k < ids.length), ids[i]'(by omega) < ids[i + 1 + k] := by
    intro k
    induction k with
    | zero => intro i hk; exact step i hk
    | succ k ih =>
      intro i hk
      have h1 := ih i (by omega)
      have h2 := step (i + 1 + k) (by omega)
      exact Int.lt_trans h1 h2
  refine List.pairwise_iff_getElem.2 fun i j hi hj hij => ?_
  have := far (j - i - 1) i (by omega)
  have e : i + 1 + (j - i - 1) = j := by omega
  simp only [e] at this
  exact this
def kindB (k : ByteArray) (e : Ed) : Bool := decide (k = ⟨#[]⟩) || decide (e.kind = k)
theorem ends_ex {g : Gr} (h : graphOk g = true) {e : Ed} (he : e ∈ g.edges) : (∃ n ∈ g.nodes, n.id = e.src) ∧ ∃ n ∈ g.nodes, n.id = e.dst := by
  obtain ⟨h1, h2⟩ := edge_ends h he
  obtain ⟨i, n, _, hn, hi⟩ := node_at h1
  obtain ⟨j, m, _, hm, hj⟩ := node_at h2
  exact ⟨⟨n, List.mem_of_getElem? hn, hi⟩, m, List.mem_of_getElem? hm, hj⟩
theorem ids_pair {g : Gr} (h : graphOk g = true) : (g.nodes.map Nd.id).Pairwise (· < ·) := by
  unfold graphOk at h
  simp only [Bool.and_eq_true, decide_eq_true_eq] at h
  exact asc_pair h.2.1
theorem fits_l {n : Nd} {C : ByteArray} {row : List Pr} : fitsM ⟨⟨#[]⟩, C, []⟩ n row = labB n C := by
  unfold fitsM namB
  simp
theorem bind_n {row : List Pr} {v : Val} : bindM row ⟨#[]⟩ v = row := if_pos rfl
def nodeS (A : ByteArray) : Stp := ⟨false, ⟨#[]⟩, ⟨#[]⟩, 0, ⟨⟨#[]⟩, A, []⟩⟩
def hopS (k : ByteArray) (w : Int) (C : ByteArray) : Stp := ⟨true, ⟨#[]⟩, k, w, ⟨⟨#[]⟩, C, []⟩⟩
def labAt (g : Gr) (s : ByteArray) (d : Int) : Bool := g.nodes.any fun n => decide (n.id = d) && labB n s
theorem id_inj : ∀ (l : List Nd), (l.map Nd.id).Pairwise (· < ·) → ∀ n ∈ l, ∀ m ∈ l, n.id = m.id → n = m
  | [], _, n, hn, _, _, _ => by simp at hn
  | x :: r, hp, n, hn, m, hm, h => by
    rw [List.map_cons, List.pairwise_cons] at hp
    rcases List.mem_cons.1 hn with rfl | hn'
    · rcases List.mem_cons.1 hm with rfl | hm'
      · rfl
      · have := hp.1 m.id (List.mem_map.2 ⟨m, hm', rfl⟩); omega
    · rcases List.mem_cons.1 hm with rfl | hm'
      · have := hp.1 n.id (List.mem_map.2 ⟨n, hn', rfl⟩); omega
      · exact id_inj r hp.2 n hn' m hm' h
theorem lab_at {g : Gr} (hk : graphOk g = true) {n : Nd} (hn : n ∈ g.nodes) (s : ByteArray) : labAt g s n.id = labB n s := by
  unfold labAt
  cases h : labB n s
  · refine List.any_eq_false.2 fun m hm hc => ?_
    simp only [Bool.and_eq_true, decide_eq_true_eq] at hc
    have := id_inj g.nodes (ids_pair hk) m hm n hn hc.1
    subst this
    rw [hc.2] at h; cases h
  · exact List.any_eq_true.2 ⟨n, hn, by simp [h]⟩
theorem goes_no {e : Ed} {d w : Int} {k : ByteArray} (h : atE d e = false) : goesF e d w k = false := by
  unfold atE at h
  simp only [Bool.or_eq_false_iff, decide_eq_false_iff_not] at h
  unfold goesF
  simp [h.1, h.2]
section
variable {g : Gr} {k C : ByteArray} {w d : Int} {us : List Int} {R : List Stp}
theorem flow_l (hk : graphOk g = true) {i : Nat} {e : Ed} (he : g.edges[i]? = some e) :
    flowM g R us (hopM g (hopS k w C) d [] us i) = if (!us.contains e.id && goesF e d w k && labAt g C (farE e d)) = true then waysM g R (farE e d) [] (e.id :: us) else [] := by
  obtain ⟨ni, nd, hpi, hnd, hid⟩ := far_at hk (List.mem_of_getElem? he) d
  have hop : hopM g (hopS k w C) d [] us i = if us.contains e.id || !goesF e d w k then none else match g.nodes[(placeF (nids g.nodes) (farE e d) 0).toNat]? with
      | none => none
      | some n => if fitsM ⟨⟨#[]⟩, C, []⟩ n (nextH (hopS k w C) e n []) then some (n.id, e.id, nextH (hopS k w C) e n []) else none := by
    unfold hopM; rw [he]; rfl
  have hnx : nextH (hopS k w C) e nd [] = [] := by
    unfold nextH hopS
    dsimp only
    rw [bind_n, bind_n]
  rw [hop, hpi, Int.toNat_natCast, hnd]
  dsimp only
  rw [fits_l, hnx, ← lab_at hk (List.mem_of_getElem? hnd), hid]
  cases us.contains e.id <;> cases goesF e d w k <;> cases labAt g C (farE e d) <;> rfl
theorem ways_l (hk : graphOk g = true) : ∀ m, m ≤ g.edges.length → ((besN g.edges d m).flatMap fun i => flowM g R us (hopM g (hopS k w C) d [] us i)) =
    (g.edges.take m).flatMap fun e => if (!us.contains e.id && goesF e d w k && labAt g C (farE e d)) = true then waysM g R (farE e d) [] (e.id :: us) else [] := by
  intro m
  induction m with
  | zero => intro _; rfl
  | succ m ih =>
    intro hm
    have he := List.getElem?_eq_getElem (show m < g.edges.length by omega)
    generalize g.edges[m] = e at he
    have hb : besAt g.edges d m = atE d e := by unfold besAt; rw [he]
    rw [fm_take he]
    cases ha : atE d e
    · rw [besN_no (by rw [hb]; exact ha), ih (by omega), goes_no ha]; simp
    · rw [besN_yes (by rw [hb]; exact ha), List.flatMap_append, ih (by omega)]
      simp only [List.flatMap_cons, List.flatMap_nil, List.append_nil]
      rw [flow_l hk he]
theorem hop_list (hk : graphOk g = true) : waysM g (hopS k w C :: R) d [] us = g.edges.flatMap fun e => if (!us.contains e.id && goesF e d w k && labAt g C (farE e d)) = true then waysM g R (farE e d) [] (e.id :: us) else [] := by
  rw [waysM_hop rfl]
  show ((besN g.edges d g.edges.length).flatMap _) = _
  rw [ways_l hk _ (Nat.le_refl _), List.take_of_length_le (Nat.le_refl _)]
theorem hop_len (hk : graphOk g = true) : (waysM g (hopS k w C :: R) d [] us).length = (g.edges.map fun e => if (!us.contains e.id && goesF e d w k && labAt g C (farE e d)) = true then (waysM g R (farE e d) [] (e.id :: us)).length else 0).sum := by
  rw [hop_list hk, List.length_flatMap]
  refine congrArg List.sum (List.map_congr_left fun e _ => ?_)
  split <;> rfl
theorem node_list {A : ByteArray} : waysM g (nodeS A :: R) d [] us = g.nodes.flatMap fun n => if labB n A = true then waysM g R n.id [] us else [] := by
  have e1 : waysM g (nodeS A :: R) d [] us = g.nodes.flatMap fun n => if fitsM ⟨⟨#[]⟩, A, []⟩ n (bindM [] ⟨#[]⟩ (nodeV n.id)) then waysM g R n.id (bindM [] ⟨#[]⟩ (nodeV n.id)) us else [] := rfl
  rw [e1]
  refine congrArg (fun F => g.nodes.flatMap F) (funext fun n => ?_)
  rw [fits_l, bind_n]
theorem node_len {A : ByteArray} : (waysM g (nodeS A :: R) d [] us).length = (g.nodes.map fun n => if labB n A = true then (waysM g R n.id [] us).length else 0).sum := by
  rw [node_list, List.length_flatMap]
  refine congrArg List.sum (List.map_congr_left fun e _ => ?_)
  split <;> rfl
end
theorem sum_zero {α : Type} : ∀ (l : List α) (f : α → Nat), (∀ x ∈ l, f x = 0) → (l.map f).sum = 0
  | [], _, _ => rfl
  | x :: r, f, h => by rw [List.map_cons, List.sum_cons, h x (by simp), sum_zero r f fun y hy => h y (by simp [hy])]
theorem sum_add {α : Type} (f h : α → Nat) : ∀ (l : List α), (l.map fun x => f x + h x).sum = (l.map f).sum + (l.map h).sum
  | [] => rfl
  | x :: r => by simp only [List.map_cons, List.sum_cons, sum_add f h r]; omega
theorem sum_comm {α β : Type} (f : α → β → Nat) (bs : List β) : ∀ (l : List α), (l.map fun a => (bs.map fun b => f a b).sum).sum = (bs.map fun b => (l.map fun a => f a b).sum).sum
  | [] => by
    simp only [List.map_nil, List.sum_nil]
    exact (sum_zero bs _ fun _ _ => rfl).symm
  | x :: r => by
    simp only [List.map_cons, List.sum_cons]
    rw [sum_comm f bs r, ← sum_add]
theorem sum_pick {f : Nd → Nat} {n0 : Nd} : ∀ (l : List Nd), (l.map Nd.id).Pairwise (· < ·) → n0 ∈ l → (l.map fun n => if n.id = n0.id then f n else 0).sum = f n0
  | [], _, h => by simp at h
  | x :: r, hp, h => by
    rw [List.map_cons, List.pairwise_cons] at hp
    rw [List.map_cons, List.sum_cons]
    rcases List.mem_cons.1 h with rfl | h'
    · rw [if_pos rfl, sum_zero r _ fun y hy => by
        have := hp.1 y.id (List.mem_map.2 ⟨y, hy, rfl⟩)
        rw [if_neg (by omega)]]
      rfl
    · have := hp.1 n0.id (List.mem_map.2 ⟨n0, h', rfl⟩)
      rw [if_neg (by omega), sum_pick r hp.2 h', Nat.zero_add]
structure WayP (g : Gr) (w : Int) (p q : Ed → Int) : Prop where
  go : ∀ e d k, goesF e d w k = (kindB k e && decide (p e = d))
  far : ∀ e, farE e (p e) = q e
  at_ : ∀ e ∈ g.edges, ∃ n ∈ g.nodes, n.id = p e
  to : ∀ e ∈ g.edges, ∃ n ∈ g.nodes, n.id = q e
theorem way_on {g : Gr} (hk : graphOk g = true) : WayP g 1 Ed.src Ed.dst :=
  ⟨fun e d k => by unfold goesF kindB; simp, fun e => if_pos rfl, fun e he => (ends_ex hk he).1, fun e he => (ends_ex hk he).2⟩
theorem way_back {g : Gr} (hk : graphOk g = true) : WayP g (-1) Ed.dst Ed.src :=
  ⟨fun e d k => by unfold goesF kindB; simp, fun e => by
    unfold farE
    split
    · rename_i h; exact h.symm
    · rfl, fun e he => (ends_ex hk he).2, fun e he => (ends_ex hk he).1⟩
def twoB (g : Gr) (p q : Ed → Int) (A k1 k2 C : ByteArray) (e e2 : Ed) : Bool := kindB k1 e && (labAt g A (p e) && (!decide (e2.id = e.id) && (kindB k2 e2 && (decide (p e2 = q e) && labAt g C (q e2)))))
def turnS (A k1 : ByteArray) (w : Int) (k2 C : ByteArray) : List Stp := [nodeS A, hopS k1 w ⟨#[]⟩, hopS k2 w C]
theorem two_len {g : Gr} (hk : graphOk g = true) {w : Int} {p q : Ed → Int} (h : WayP g w p q) {A k1 k2 C : ByteArray} :
    (waysM g (turnS A k1 w k2 C) 0 [] []).length = (g.edges.map fun e => (g.edges.map fun e2 => if twoB g p q A k1 k2 C e e2 = true then 1 else 0).sum).sum := by
  have hp := ids_pair hk
  have inner : ∀ e ∈ g.edges, (waysM g [hopS k2 w C] (q e) [] [e.id]).length = (g.edges.map fun e2 => if (!decide (e2.id = e.id) && (kindB k2 e2 && (decide (p e2 = q e) && labAt g C (q e2)))) = true then 1 else 0).sum := by
    intro e _
    rw [hop_len hk]
    refine congrArg List.sum (List.map_congr_left fun e2 _ => ?_)
    rw [h.go]
    have hc : [e.id].contains e2.id = decide (e2.id = e.id) := by simp [List.contains_cons]
    rw [hc]
    by_cases hq : p e2 = q e
    · rw [← hq, h.far e2]
      have : ∀ x y, (waysM g [] x [] y).length = 1 := fun _ _ => rfl
      simp only [this]
      cases decide (e2.id = e.id) <;> cases kindB k2 e2 <;> cases labAt g C (q e2) <;> simp
    · rw [decide_eq_false hq]
      cases decide (e2.id = e.id) <;> cases kindB k2 e2 <;> simp
  have one : ∀ n ∈ g.nodes, (if labB n A = true then (waysM g [hopS k1 w ⟨#[]⟩, hopS k2 w C] n.id [] []).length else 0) =
      (g.edges.map fun e => if n.id = p e then (if (kindB k1 e && labB n A) = true then (waysM g [hopS k2 w C] (q e) [] [e.id]).length else 0) else 0).sum := by
    intro n hn
    cases hl : labB n A
    · rw [if_neg (by simp)]
      refine (sum_zero _ _ fun e he => ?_).symm
      simp
    · rw [if_pos rfl, hop_len hk]
      refine congrArg List.sum (List.map_congr_left fun e he => ?_)
      rw [h.go]
      by_cases hq : p e = n.id
      · obtain ⟨m, hm, hid⟩ := h.to e he
        have hlab : labAt g ⟨#[]⟩ (q e) = true := by rw [← hid, lab_at hk hm]; unfold labB; simp
        rw [if_pos hq.symm, ← hq, h.far e, hlab]
        cases kindB k1 e <;> simp
      · have hq' : ¬ n.id = p e := fun x => hq x.symm
        rw [decide_eq_false hq]
        cases kindB k1 e <;> simp [hq']
  show (waysM g (nodeS A :: [hopS k1 w ⟨#[]⟩, hopS k2 w C]) 0 [] []).length = _
  rw [node_len, congrArg List.sum (List.map_congr_left one), sum_comm]
  refine congrArg List.sum (List.map_congr_left fun e he => ?_)
  obtain ⟨n0, hn0, hid⟩ := h.at_ e he
  rw [← hid, sum_pick g.nodes hp hn0, inner e he, ← lab_at hk hn0 A, hid]
  unfold twoB
  cases kindB k1 e
  · rw [if_neg (by simp)]; exact (sum_zero _ _ fun _ _ => by simp).symm
  cases labAt g A (p e)
  · rw [if_neg (by simp)]; exact (sum_zero _ _ fun _ _ => by simp).symm
  simp only [Bool.true_and, if_true]
theorem kind_0 {e : Ed} : kindB ⟨#[]⟩ e = true := by unfold kindB; simp
theorem turn_len {g : Gr} (hk : graphOk g = true) {A k C : ByteArray} : (waysM g (turnS A k 1 ⟨#[]⟩ C) 0 [] []).length = (waysM g (turnS C ⟨#[]⟩ (-1) k A) 0 [] []).length := by
  rw [two_len hk (way_on hk), two_len hk (way_back hk), sum_comm]
  refine congrArg List.sum (List.map_congr_left fun e2 _ => congrArg List.sum (List.map_congr_left fun e _ => ?_))
  have : twoB g Ed.src Ed.dst A k ⟨#[]⟩ C e e2 = twoB g Ed.dst Ed.src C ⟨#[]⟩ k A e2 e := by
    unfold twoB
    simp only [kind_0]
    have h1 : decide (e2.id = e.id) = decide (e.id = e2.id) := by simp [eq_comm]
    have h2 : decide (e2.src = e.dst) = decide (e.dst = e2.src) := by simp [eq_comm]
    rw [h1, h2]
    cases kindB k e <;> cases labAt g A e.src <;> cases decide (e.id = e2.id) <;> cases decide (e.dst = e2.src) <;> cases labAt g C e2.dst <;> rfl
  rw [this]
theorem turn_rows {g : Gr} (hk : graphOk g = true) {A k1 k2 C : ByteArray} {w : Int} : ∀ r ∈ waysM g (turnS A k1 w k2 C) 0 [] [], r = [] := by
  intro r hr
  have e : waysM g (turnS A k1 w k2 C) 0 [] [] = waysM g (nodeS A :: [hopS k1 w ⟨#[]⟩, hopS k2 w C]) 0 [] [] := rfl
  rw [e, node_list] at hr
  obtain ⟨n, _, hr⟩ := List.mem_flatMap.1 hr
  split at hr
  · rw [hop_list hk] at hr
    obtain ⟨e1, _, hr⟩ := List.mem_flatMap.1 hr
    split at hr
    · rw [hop_list hk] at hr
      obtain ⟨e2, _, hr⟩ := List.mem_flatMap.1 hr
      split at hr
      · exact List.mem_singleton.1 hr
      · simp at hr
    · simp at hr
  · simp at hr
def DrawnME (out : COut) : Prop := ∃ ns es nn ne id way t τ, GrTame ⟨ns, es, nn, ne⟩ ∧ MayT t ∧ out = .ret (.tup [.agg [.vec (nds ns), .vec (eds es), i64 nn, i64 ne], i64 id, i64 way, .sc (.string t)]) τ
theorem may_K : MayT ⟨#[75]⟩ := ⟨by decide, by decide⟩
theorem may_L : MayT ⟨#[76]⟩ := ⟨by decide, by decide⟩
set_option maxHeartbeats 4000000 in
theorem drawEdges_m {σ : Heap} {bs : List CV} (hb : BytesOk bs) (h2 : bs.length ≤ 1048576) : CRun Tryz.prog 7 [.vec bs] σ DrawnME := by
  refine crun_of (X := X) X_ok X_sat (body := bodyOf Tryz.f7) Tryz.func7 rfl (by kernel_rfl) (by kernel_rfl) ?_
  rw [Tryz.ntmps7]
  conv => whnf
  repeat' (first | (refine CallN.many (open_c hb h2) ?_; rintro _ ⟨l, bs', hb', hl', rfl⟩) | (refine CallN.many (any_frz (any_o hb' hl' (by omega) (by omega))) ?_; rintro _ ⟨ns, es, nn, ne, q1, gt, a1, a2, rfl⟩) | ((have hk0 := hk1; refine CallN.many (pick_n hb' hl' (by omega) (by omega)) ?_; rintro _ ⟨k2, hk3, hk4, rfl⟩)) | (refine CallN.many (pick_n hb' hl' (by omega) (by omega)) ?_; rintro _ ⟨k, hk1, hk2, rfl⟩) | ((refine CallN.many (of_q (Q := MayT) hb' hl' (by omega) (by omega) ⟨⟨_, rfl, may_K⟩, ⟨_, rfl, may_L⟩, ⟨_, rfl, may_0⟩, trivial⟩ (Nat.le_of_ble_eq_true rfl) (Nat.le_of_ble_eq_true rfl)) ?_; rintro _ ⟨t, ht, rfl⟩)) | refine OrdN.go ?_ | refine Fork.yp ?_ | refine Fork.np ?_ | refine Fork.ny ?_ | refine Fork.nn ?_ | refine Fork.yb ?_ | refine Fork.nb ?_ | refine Fork.dp (fun h => ?_) (fun h => ?_) | refine Fork.dn (fun h => ?_) (fun h => ?_) | (refine Fork.mk (fun h => ?_) (fun h => ?_) <;> simp only [decide_eq_true_eq, decide_eq_false_iff_not, Bool.not_eq_true', Bool.not_eq_false', Bool.or_eq_true, Bool.or_eq_false_iff] at h) | refine GetN.go ?_ | refine Need.ap1 ?_ | refine Need.ap0 ?_ | refine Need.go ?_ | refine Need.draw ?_ | refine ElemN.go ?_ | refine ExtN.ext ?_ | refine ExtN.wr ?_ | refine AllocN.go (fun l hl => ?_) | refine finGo ?_) <;> try (conv => whnf)
  all_goals exact ⟨ns, es, nn, ne, _, _, t, _, gt, ht, rfl⟩
def turnP (A k1 : ByteArray) (w : Int) (k2 C : ByteArray) : Pth := ⟨⟨⟨#[]⟩, A, []⟩, [⟨⟨#[]⟩, k1, w, ⟨⟨#[]⟩, ⟨#[]⟩, []⟩⟩, ⟨⟨#[]⟩, k2, w, ⟨⟨#[]⟩, C, []⟩⟩]⟩
theorem turnH {g : Gr} {A k1 k2 C : ByteArray} {w : Int} (hg : GrTame g) (hk : graphOk g = true) (hA : MayT A) (h1 : MayT k1) (h2 : MayT k2) (hC : MayT C) (hw : w = 1 ∨ w = -1) : MatsG g [turnP A k1 w k2 C] (waysM g (turnS A k1 w k2 C) 0 [] []) := by
  have hpt : PthT (turnP A k1 w k2 C) := ⟨⟨by show 0 ≤ 1000; omega, by have := hA.2; show A.size ≤ 1000; omega, by simp [turnP], by simp [turnP]⟩, by simp [turnP], by
    intro h hh
    rcases List.mem_cons.1 hh with rfl | hh
    · exact ⟨by show 0 ≤ 1000; omega, by have := h1.2; show k1.size ≤ 1000; omega, by show -1000000 ≤ w ∧ w ≤ 1000000; omega, ⟨by show 0 ≤ 1000; omega, by show 0 ≤ 1000; omega, by simp, by simp⟩⟩
    · rw [List.mem_singleton.1 hh]
      exact ⟨by show 0 ≤ 1000; omega, by have := h2.2; show k2.size ≤ 1000; omega, by show -1000000 ≤ w ∧ w ≤ 1000000; omega, ⟨by show 0 ≤ 1000; omega, by have := hC.2; show C.size ≤ 1000; omega, by simp, by simp⟩⟩⟩
  have hnp : ∀ p ∈ [turnP A k1 w k2 C], NoP p := by
    intro p hp
    rw [List.mem_singleton.1 hp]
    exact ⟨rfl, by simp [turnP], by
      intro h hh
      rcases List.mem_cons.1 hh with rfl | hh
      · rfl
      · rw [List.mem_singleton.1 hh]⟩
  refine ⟨hg, hk, by simp, ?_, ?_, hnp, ?_, ?_, rfl, ?_⟩
  · have a1 : spOk ⟨⟨#[]⟩, A, []⟩ = true := by unfold spOk; rw [hA.1]; rfl
    have a2 : spOk ⟨⟨#[]⟩, C, []⟩ = true := by unfold spOk; rw [hC.1]; rfl
    have a3 : spOk ⟨⟨#[]⟩, ⟨#[]⟩, []⟩ = true := by decide
    have b1 : hpOk ⟨⟨#[]⟩, k1, w, ⟨⟨#[]⟩, ⟨#[]⟩, []⟩⟩ = true := by
      unfold hpOk
      dsimp only
      rw [may_0.1, h1.1, a3, decide_eq_true (show -1 ≤ w ∧ w ≤ 1 by omega)]; rfl
    have b2 : hpOk ⟨⟨#[]⟩, k2, w, ⟨⟨#[]⟩, C, []⟩⟩ = true := by
      unfold hpOk
      dsimp only
      rw [may_0.1, h2.1, a2, decide_eq_true (show -1 ≤ w ∧ w ≤ 1 by omega)]; rfl
    simp [pthsOk, pthOk, turnP, a1, b1, b2]
  · intro p hp
    rw [List.mem_singleton.1 hp]
    exact ⟨hpt, by intro q hq; simp [turnP] at hq, by
      intro h hh
      rcases List.mem_cons.1 hh with rfl | hh
      · intro q hq; simp at hq
      · rw [List.mem_singleton.1 hh]; intro q hq; simp at hq⟩
  · rfl
  · show (outP [turnP A k1 w k2 C] 1).length ≤ 200
    have := outP_len hnp 1
    omega
  · intro r hr
    rw [turn_rows hk r hr]
    exact ⟨by simp, fun q hq => by simp at hq⟩
theorem turnW {g : Gr} {A k1 k2 C : ByteArray} {w : Int} {all : List (List Pr)} (hg : GrTame g) (hk : graphOk g = true) : ∀ lx ln lu ms lr J KP, WJ g [] (outP [turnP A k1 w k2 C] [turnP A k1 w k2 C].length) lx ln lu ms lr all J KP → WalkC g lx lu lr all J KP (outP [turnP A k1 w k2 C] [turnP A k1 w k2 C].length) 0 := by
  intro lx ln lu ms lr J KP hJ
  have e : outP [turnP A k1 w k2 C] [turnP A k1 w k2 C].length = [nodeS A, hopS k1 w ⟨#[]⟩, hopS k2 w C] := rfl
  rw [e] at hJ ⊢
  intro d row us m pre rest τ
  exact walkN hJ hg (i := 0) rfl (by simp) rfl rfl (walkH hJ hg hk (i := 1) rfl (by simp) rfl rfl (walkH hJ hg hk (i := 2) rfl (by simp) rfl rfl (walkB hJ rfl (by simp))))
theorem matchTurn_c {σ : Heap} {g : Gr} {A k1 k2 C : ByteArray} {w : Int} (hg : GrTame g) (hk : graphOk g = true) (hA : MayT A) (h1 : MayT k1) (h2 : MayT k2) (hC : MayT C) (hw : w = 1 ∨ w = -1) :
    CRun Tryz.prog 10 [g.cv, .vec [], .vec [], .vec [.agg [.sc (.string ⟨#[]⟩), .sc (.string A), .vec [], .vec [.agg [.sc (.string ⟨#[]⟩), .sc (.string k1), i64 w, .sc (.string ⟨#[]⟩), .sc (.string ⟨#[]⟩), .vec []], .agg [.sc (.string ⟨#[]⟩), .sc (.string k2), i64 w, .sc (.string ⟨#[]⟩), .sc (.string C), .vec []]]]]] σ (· = .ret (matsR (waysM g (turnS A k1 w k2 C) 0 [] [])) σ) :=
  matchesG_c (turnH hg hk hA h1 h2 hC hw) (turnW hg hk)
theorem lawMTurn {σ : Heap} {bs : List CV} (hb : BytesOk bs) : CRun Tryz.prog 4 [.vec bs] σ (fun out => ∃ τ, out = .ret (.sc (.bool true)) τ) := by
  by_cases h2 : bs.length ≤ 1048576
  case neg =>
    refine crun_of (X := X) X_ok X_sat (body := bodyOf Tryz.f4) Tryz.func4 rfl (by kernel_rfl) (by kernel_rfl) ?_
    rw [Tryz.ntmps4]
    conv => whnf
    repeat' (first | refine OrdN.one ?_ | refine Fork.yp ?_ | refine Fork.np ?_ | refine Fork.ny ?_ | refine Fork.nn ?_ | refine Fork.yb ?_ | refine Fork.nb ?_ | refine Fork.dp (fun h => ?_) (fun h => ?_) | refine Fork.dn (fun h => ?_) (fun h => ?_) | (refine Fork.mk (fun h => ?_) (fun h => ?_) <;> simp only [decide_eq_true_eq, decide_eq_false_iff_not, Bool.not_eq_true', Bool.not_eq_false', Bool.or_eq_true, Bool.or_eq_false_iff] at h) | refine GetN.go ?_ | refine Need.ap1 ?_ | refine Need.ap0 ?_ | refine Need.go ?_ | refine Need.draw ?_ | refine ElemN.go ?_ | refine ExtN.ext ?_ | refine ExtN.wr ?_ | refine AllocN.go (fun l hl => ?_) | refine finGo ?_) <;> try (conv => whnf)
    all_goals exact ⟨_, rfl⟩
  have d := drawEdges_m (σ := σ) hb h2
  refine crun_of (X := X) X_ok X_sat (body := bodyOf Tryz.f4) Tryz.func4 rfl (by kernel_rfl) (by kernel_rfl) ?_
  rw [Tryz.ntmps4]
  conv => whnf
  repeat' (first | (refine CallN.many d ?_; rintro _ ⟨ns, es, nn, ne, id, way, t, τ, gt, ht, rfl⟩) | refine OrdN.go ?_ | refine Fork.yp ?_ | refine Fork.np ?_ | refine Fork.ny ?_ | refine Fork.nn ?_ | refine Fork.yb ?_ | refine Fork.nb ?_ | refine Fork.dp (fun h => ?_) (fun h => ?_) | refine Fork.dn (fun h => ?_) (fun h => ?_) | (refine Fork.mk (fun h => ?_) (fun h => ?_) <;> simp only [decide_eq_true_eq, decide_eq_false_iff_not, Bool.not_eq_true', Bool.not_eq_false', Bool.or_eq_true, Bool.or_eq_false_iff] at h) | refine GetN.go ?_ | refine Need.ap1 ?_ | refine Need.ap0 ?_ | refine Need.go ?_ | refine Need.draw ?_ | refine ElemN.go ?_ | refine ExtN.ext ?_ | refine ExtN.wr ?_ | refine AllocN.go (fun l hl => ?_) | refine finGo ?_) <;> try (conv => whnf)
  have c1 := implGraph_c (σ := τ) gt
  have c3 := specGraph_c (σ := τ) gt
  cases hk : graphOk ⟨ns, es, nn, ne⟩ <;> rw [hk] at c1 c3
  · conv => whnf
    repeat' (first | (refine CallN.one c1 ?_) | (refine CallN.one c3 ?_) | refine OrdN.go ?_ | refine Fork.yp ?_ | refine Fork.np ?_ | refine Fork.ny ?_ | refine Fork.nn ?_ | refine Fork.yb ?_ | refine Fork.nb ?_ | refine Fork.dp (fun h => ?_) (fun h => ?_) | refine Fork.dn (fun h => ?_) (fun h => ?_) | (refine Fork.mk (fun h => ?_) (fun h => ?_) <;> simp only [decide_eq_true_eq, decide_eq_false_iff_not, Bool.not_eq_true', Bool.not_eq_false', Bool.or_eq_true, Bool.or_eq_false_iff] at h) | refine GetN.go ?_ | refine Need.ap1 ?_ | refine Need.ap0 ?_ | refine Need.go ?_ | refine Need.draw ?_ | refine ElemN.go ?_ | refine ExtN.ext ?_ | refine ExtN.wr ?_ | refine AllocN.go (fun l hl => ?_) | refine finGo ?_) <;> try (conv => whnf)
    all_goals exact ⟨_, rfl⟩
  have q1 := matchTurn_c (σ := τ) gt hk may_P ht may_0 may_Q (.inl rfl)
  have q2 := matchTurn_c (σ := τ) gt hk may_Q may_0 ht may_P (.inr rfl)
  have ql := turn_len hk (A := ⟨#[80]⟩) (k := t) (C := ⟨#[81]⟩)
  generalize waysM ⟨ns, es, nn, ne⟩ (turnS ⟨#[80]⟩ t 1 ⟨#[]⟩ ⟨#[81]⟩) 0 [] [] = W1 at q1 ql
  generalize waysM ⟨ns, es, nn, ne⟩ (turnS ⟨#[81]⟩ ⟨#[]⟩ (-1) t ⟨#[80]⟩) 0 [] [] = W2 at q2 ql
  have l1 := rowsC_len W1
  have l2 := rowsC_len W2
  rcases Nat.lt_or_ge 60 W1.length with h6 | h6
  · rw [matsR_many h6] at q1
    rw [matsR_many (by omega)] at q2
    conv => whnf
    repeat' (first | (refine CallN.one c1 ?_) | (refine CallN.one c3 ?_) | (refine CallN.one q1 ?_) | (refine CallN.one q2 ?_) | refine OrdN.go ?_ | refine Fork.yp ?_ | refine Fork.np ?_ | refine Fork.ny ?_ | refine Fork.nn ?_ | refine Fork.yb ?_ | refine Fork.nb ?_ | refine Fork.dp (fun h => ?_) (fun h => ?_) | refine Fork.dn (fun h => ?_) (fun h => ?_) | (refine Fork.mk (fun h => ?_) (fun h => ?_) <;> simp only [decide_eq_true_eq, decide_eq_false_iff_not, Bool.not_eq_true', Bool.not_eq_false', Bool.or_eq_true, Bool.or_eq_false_iff] at h) | refine GetN.go ?_ | refine Need.ap1 ?_ | refine Need.ap0 ?_ | refine Need.go ?_ | refine Need.draw ?_ | refine ElemN.go ?_ | refine ExtN.ext ?_ | refine ExtN.wr ?_ | refine AllocN.go (fun l hl => ?_) | refine finGo ?_) <;> try (conv => whnf)
    all_goals exact ⟨_, rfl⟩
  · rw [matsR_few h6] at q1
    rw [matsR_few (by omega)] at q2
    conv => whnf
    repeat' (first | (refine CallN.one c1 ?_) | (refine CallN.one c3 ?_) | (refine CallN.one q1 ?_) | (refine CallN.one q2 ?_) | refine OrdN.go ?_ | refine Fork.yp ?_ | refine Fork.np ?_ | refine Fork.ny ?_ | refine Fork.nn ?_ | refine Fork.yb ?_ | refine Fork.nb ?_ | refine Fork.dp (fun h => ?_) (fun h => ?_) | refine Fork.dn (fun h => ?_) (fun h => ?_) | (refine Fork.mk (fun h => ?_) (fun h => ?_) <;> simp only [decide_eq_true_eq, decide_eq_false_iff_not, Bool.not_eq_true', Bool.not_eq_false', Bool.or_eq_true, Bool.or_eq_false_iff] at h) | refine GetN.go ?_ | refine Need.ap1 ?_ | refine Need.ap0 ?_ | refine Need.go ?_ | refine Need.draw ?_ | refine ElemN.go ?_ | refine ExtN.ext ?_ | refine ExtN.wr ?_ | refine AllocN.go (fun l hl => ?_) | refine finGo ?_) <;> try (conv => whnf)
    all_goals first
      | exact ⟨_, rfl⟩
      | (exfalso; omega)
end Go.Proofs.YtlamgfimgadnmaaGreat
