/-
  Contracts of the functions that the law reaches.
-/
import Derived.Test.YtlamgfimgadnmaaGreatC
import Derived.Test.YtlamgfimgadnmaaGreatD
set_option linter.unusedVariables false
set_option linter.unusedSimpArgs false
namespace Go.Proofs.YtlamgfimgadnmaaGreat
open Go Go.CL
set_option maxRecDepth 10000
structure Pt where
  name : ByteArray
  e : Exp
structure Sp where
  name : ByteArray
  label : ByteArray
  props : List Pt
structure Hp where
  name : ByteArray
  kind : ByteArray
  way : Int
  spot : Sp
structure Pth where
  spot : Sp
  hops : List Hp
def Pt.cv : Pt → CV
  | ⟨n, .mk k (.mk vk vn vt vl) s c ps⟩ => .agg [.sc (.string n), i64 k, i64 vk, i64 vn, .sc (.string vt), .vec (Val.cvs vl), .sc (.string s), .sc (.string c), .vec (Exp.cvs ps)]
def pts (l : List Pt) : List CV := l.map Pt.cv
def Sp.cv : Sp → CV
  | ⟨n, l, ps⟩ => .agg [.sc (.string n), .sc (.string l), .vec (pts ps)]
def Hp.cv : Hp → CV
  | ⟨n, k, w, ⟨sn, sl, ps⟩⟩ => .agg [.sc (.string n), .sc (.string k), i64 w, .sc (.string sn), .sc (.string sl), .vec (pts ps)]
def hps (l : List Hp) : List CV := l.map Hp.cv
def Pth.cv : Pth → CV
  | ⟨⟨sn, sl, ps⟩, hs⟩ => .agg [.sc (.string sn), .sc (.string sl), .vec (pts ps), .vec (hps hs)]
def pths (l : List Pth) : List CV := l.map Pth.cv
theorem pts_len (l : List Pt) : (pts l).length = l.length := by simp [pts]
theorem hps_len (l : List Hp) : (hps l).length = l.length := by simp [hps]
theorem pths_len (l : List Pth) : (pths l).length = l.length := by simp [pths]
theorem map_at {α : Type} {l : List α} {f : α → CV} {i : Nat} (hi : i < l.length) : ∃ x, x ∈ l ∧ l[i]? = some x ∧ (l.map f)[i]? = some (f x) :=
  ⟨l[i], List.getElem_mem hi, List.getElem?_eq_getElem hi, by rw [List.getElem?_map, List.getElem?_eq_getElem hi]; rfl⟩
structure PtT (p : Pt) : Prop where
  n : p.name.size ≤ 1000
  e : ETame p.e
structure SpT (s : Sp) : Prop where
  n : s.name.size ≤ 1000
  l : s.label.size ≤ 1000
  k : s.props.length ≤ 1000
  p : ∀ p ∈ s.props, PtT p
structure HpT (h : Hp) : Prop where
  n : h.name.size ≤ 1000
  k : h.kind.size ≤ 1000
  w : -1000000 ≤ h.way ∧ h.way ≤ 1000000
  s : SpT h.spot
structure PthT (p : Pth) : Prop where
  s : SpT p.spot
  k : p.hops.length ≤ 1000
  h : ∀ h ∈ p.hops, HpT h
def mayN (s : ByteArray) : Bool := decide (s = ⟨#[]⟩) || nameOk s
def ptAt (l : List Pt) (i : Nat) : Bool := match l[i]? with
  | some p => nameOk p.name && (okE 4 p.e && !hasB ((l.take i).map Pt.name) p.name)
  | none => true
def ptsOk (l : List Pt) : Bool := decide (l.length ≤ 4) && (List.range l.length).all (ptAt l)
def spOk (s : Sp) : Bool := mayN s.name && (mayN s.label && ptsOk s.props)
def hpOk (h : Hp) : Bool := mayN h.name && (mayN h.kind && (decide (-1 ≤ h.way ∧ h.way ≤ 1) && spOk h.spot))
def pthOk (p : Pth) : Bool := spOk p.spot && (decide (p.hops.length ≤ 2) && p.hops.all hpOk)
def pthsOk (l : List Pth) : Bool := decide (1 ≤ l.length ∧ l.length ≤ 2) && l.all pthOk
theorem ptAt_of {l : List Pt} {i : Nat} {p : Pt} (h : l[i]? = some p) : ptAt l i = (nameOk p.name && (okE 4 p.e && !hasB ((l.take i).map Pt.name) p.name)) := by unfold ptAt; rw [h]
def seenS (l : List ByteArray) : List (MK × Value) := l.map fun s => (.s s, .int .i64 1)
theorem seenS_no : ∀ {l : List ByteArray} {s : ByteArray} {k : Nat}, hasB l s = false → mpFind (.s s) (seenS l) k = none
  | [], _, _, _ => rfl
  | x :: r, s, k, h => by
    simp only [hasB, List.any_cons, Bool.or_eq_false_iff, decide_eq_false_iff_not] at h
    have := seenS_no (l := r) (s := s) (k := k + 1) h.2
    simp only [seenS, List.map_cons, mpFind]
    rw [if_neg (fun e => h.1 (by cases e; rfl))]
    exact this
theorem seenS_yes : ∀ {l : List ByteArray} {s : ByteArray} {k : Nat}, hasB l s = true → ∃ j, mpFind (.s s) (seenS l) k = some (j, .int .i64 1)
  | [], _, _, h => by simp [hasB] at h
  | x :: r, s, k, h => by
    simp only [seenS, List.map_cons, mpFind]
    by_cases e : x = s
    · subst e; exact ⟨k, by rw [if_pos rfl]⟩
    · simp only [hasB, List.any_cons, Bool.or_eq_true, decide_eq_true_eq, e, false_or] at h
      obtain ⟨j, hj⟩ := seenS_yes (l := r) (s := s) (k := k + 1) h
      exact ⟨j, by rw [if_neg (fun e' => e (by cases e'; rfl))]; exact hj⟩
theorem take_map_succ {α β : Type} {l : List α} {f : α → β} {i : Nat} {x : α} (h : l[i]? = some x) : (l.take (i + 1)).map f = (l.take i).map f ++ [f x] := by rw [List.take_add_one, h]; simp
theorem seenS_app (a : List ByteArray) (s : ByteArray) : seenS (a ++ [s]) = seenS a ++ [(.s s, .int .i64 1)] := by simp [seenS]
theorem mayI_c {σ : Heap} {t : ByteArray} (ht : t.size ≤ 1000000000) : CRun Tryz.prog 71 [.sc (.string t)] σ (· = .ret (.sc (.bool (mayN t))) σ) := by
  have c1 := nameOk_c (σ := σ) ht
  unfold mayN
  by_cases he : t = ⟨#[]⟩
  · rw [decide_eq_true he]
    refine crun_of (X := X) X_ok X_sat (body := bodyOf Tryz.f71) Tryz.func71 rfl (by kernel_rfl) (by kernel_rfl) ?_
    rw [Tryz.ntmps71]
    conv => whnf
    repeat' (first | (refine CallN.one c1 ?_) | refine OrdN.one ?_ | refine Fork.yp ?_ | refine Fork.np ?_ | refine Fork.ny ?_ | refine Fork.nn ?_ | refine Fork.yb ?_ | refine Fork.nb ?_ | refine Fork.dp (fun h => ?_) (fun h => ?_) | refine Fork.dn (fun h => ?_) (fun h => ?_) | (refine Fork.mk (fun h => ?_) (fun h => ?_) <;> simp only [decide_eq_true_eq, decide_eq_false_iff_not, Bool.not_eq_true', Bool.not_eq_false', Bool.or_eq_true, Bool.or_eq_false_iff] at h) | refine GetN.go ?_ | refine Need.ap1 ?_ | refine Need.ap0 ?_ | refine Need.go ?_ | refine Need.draw ?_ | refine ElemN.go ?_ | refine ExtN.ext ?_ | refine ExtN.wr ?_ | refine AllocN.go (fun l hl => ?_) | refine finGo ?_) <;> try (conv => whnf)
    all_goals rfl
  · rw [decide_eq_false he, Bool.false_or]
    refine crun_of (X := X) X_ok X_sat (body := bodyOf Tryz.f71) Tryz.func71 rfl (by kernel_rfl) (by kernel_rfl) ?_
    rw [Tryz.ntmps71]
    conv => whnf
    repeat' (first | (refine CallN.one c1 ?_) | refine OrdN.one ?_ | refine Fork.yp ?_ | refine Fork.np ?_ | refine Fork.ny ?_ | refine Fork.nn ?_ | refine Fork.yb ?_ | refine Fork.nb ?_ | refine Fork.dp (fun h => ?_) (fun h => ?_) | refine Fork.dn (fun h => ?_) (fun h => ?_) | (refine Fork.mk (fun h => ?_) (fun h => ?_) <;> simp only [decide_eq_true_eq, decide_eq_false_iff_not, Bool.not_eq_true', Bool.not_eq_false', Bool.or_eq_true, Bool.or_eq_false_iff] at h) | refine GetN.go ?_ | refine Need.ap1 ?_ | refine Need.ap0 ?_ | refine Need.go ?_ | refine Need.draw ?_ | refine ElemN.go ?_ | refine ExtN.ext ?_ | refine ExtN.wr ?_ | refine AllocN.go (fun l hl => ?_) | refine finGo ?_) <;> try (conv => whnf)
    all_goals rfl
theorem spotForm_c {σ : Heap} {s : Sp} (hs : SpT s) : CRun Tryz.prog 70 [s.cv] σ (· = .ret (.sc (.bool (spOk s))) σ) := by
  obtain ⟨sn, sl, ps⟩ := s
  obtain ⟨t1, t2, t3, t4⟩ := hs
  dsimp only at t1 t2 t3 t4
  have e3 := pts_len ps
  have c1 := mayI_c (σ := σ) (t := sn) (by omega)
  have c2 := mayI_c (σ := σ) (t := sl) (by omega)
  have hsp : spOk ⟨sn, sl, ps⟩ = (mayN sn && (mayN sl && ptsOk ps)) := rfl
  refine crun_of (X := X) X_ok X_sat (body := bodyOf Tryz.f70) Tryz.func70 rfl (by kernel_rfl) (by kernel_rfl) ?_
  rw [Tryz.ntmps70]
  cases h1 : mayN sn <;> rw [h1] at c1 hsp
  · conv => whnf
    repeat' (first | (refine CallN.one c1 ?_) | refine OrdN.one ?_ | refine Fork.yp ?_ | refine Fork.np ?_ | refine Fork.ny ?_ | refine Fork.nn ?_ | refine Fork.yb ?_ | refine Fork.nb ?_ | refine Fork.dp (fun h => ?_) (fun h => ?_) | refine Fork.dn (fun h => ?_) (fun h => ?_) | (refine Fork.mk (fun h => ?_) (fun h => ?_) <;> simp only [decide_eq_true_eq, decide_eq_false_iff_not, Bool.not_eq_true', Bool.not_eq_false', Bool.or_eq_true, Bool.or_eq_false_iff] at h) | refine GetN.go ?_ | refine Need.ap1 ?_ | refine Need.ap0 ?_ | refine Need.go ?_ | refine Need.draw ?_ | refine ElemN.go ?_ | refine ExtN.ext ?_ | refine ExtN.wr ?_ | refine AllocN.go (fun l hl => ?_) | refine finGo ?_) <;> try (conv => whnf)
    exact ansB hsp
  cases h2 : mayN sl <;> rw [h2] at c2 hsp
  · conv => whnf
    repeat' (first | (refine CallN.one c1 ?_) | (refine CallN.one c2 ?_) | refine OrdN.one ?_ | refine Fork.yp ?_ | refine Fork.np ?_ | refine Fork.ny ?_ | refine Fork.nn ?_ | refine Fork.yb ?_ | refine Fork.nb ?_ | refine Fork.dp (fun h => ?_) (fun h => ?_) | refine Fork.dn (fun h => ?_) (fun h => ?_) | (refine Fork.mk (fun h => ?_) (fun h => ?_) <;> simp only [decide_eq_true_eq, decide_eq_false_iff_not, Bool.not_eq_true', Bool.not_eq_false', Bool.or_eq_true, Bool.or_eq_false_iff] at h) | refine GetN.go ?_ | refine Need.ap1 ?_ | refine Need.ap0 ?_ | refine Need.go ?_ | refine Need.draw ?_ | refine ElemN.go ?_ | refine ExtN.ext ?_ | refine ExtN.wr ?_ | refine AllocN.go (fun l hl => ?_) | refine finGo ?_) <;> try (conv => whnf)
    exact ansB hsp
  by_cases h4 : ps.length ≤ 4
  case neg =>
    conv => whnf
    repeat' (first | (refine CallN.one c1 ?_) | (refine CallN.one c2 ?_) | refine OrdN.one ?_ | refine Fork.yp ?_ | refine Fork.np ?_ | refine Fork.ny ?_ | refine Fork.nn ?_ | refine Fork.yb ?_ | refine Fork.nb ?_ | refine Fork.dp (fun h => ?_) (fun h => ?_) | refine Fork.dn (fun h => ?_) (fun h => ?_) | (refine Fork.mk (fun h => ?_) (fun h => ?_) <;> simp only [decide_eq_true_eq, decide_eq_false_iff_not, Bool.not_eq_true', Bool.not_eq_false', Bool.or_eq_true, Bool.or_eq_false_iff] at h) | refine GetN.go ?_ | refine Need.ap1 ?_ | refine Need.ap0 ?_ | refine Need.go ?_ | refine Need.draw ?_ | refine ElemN.go ?_ | refine ExtN.ext ?_ | refine ExtN.wr ?_ | refine AllocN.go (fun l hl => ?_) | refine finGo ?_) <;> try (conv => whnf)
    exact ansB (by rw [hsp]; unfold ptsOk; rw [decide_eq_false h4]; rfl)
  have hpt : spOk ⟨sn, sl, ps⟩ = (List.range ps.length).all (ptAt ps) := by rw [hsp]; unfold ptsOk; rw [decide_eq_true h4]; rfl
  have no : ∀ i, i < ps.length → ptAt ps i = false → COut.ret (.sc (.bool false)) σ = .ret (.sc (.bool (spOk ⟨sn, sl, ps⟩))) σ := fun i hi h => ansB (by rw [hpt, range_no hi h])
  conv => whnf
  repeat' (first | (refine CallN.one c1 ?_) | (refine CallN.one c2 ?_) | refine OrdN.one ?_ | refine Fork.yp ?_ | refine Fork.np ?_ | refine Fork.ny ?_ | refine Fork.nn ?_ | refine Fork.yb ?_ | refine Fork.nb ?_ | refine Fork.dp (fun h => ?_) (fun h => ?_) | refine Fork.dn (fun h => ?_) (fun h => ?_) | (refine Fork.mk (fun h => ?_) (fun h => ?_) <;> simp only [decide_eq_true_eq, decide_eq_false_iff_not, Bool.not_eq_true', Bool.not_eq_false', Bool.or_eq_true, Bool.or_eq_false_iff] at h) | refine GetN.go ?_ | refine Need.ap1 ?_ | refine Need.ap0 ?_ | refine Need.go ?_ | refine Need.draw ?_ | refine ElemN.go ?_ | refine ExtN.ext ?_ | refine ExtN.wr ?_ | refine AllocN.go (fun l hl => ?_) | refine finGo ?_) <;> try (conv => whnf)
  refine LoopN.rule (α := Nat) (fun i => ⟨53, [(2, .sc (.bool false)), (3, .map l), (24, .vec (pts ps)), (25, i64 (pts ps).length), (26, i64 i)], []⟩)
    (fun i => upd σ l (.mp true (seenS ((ps.take i).map Pt.name)))) (fun i => ps.length - i) (fun i => i ≤ ps.length ∧ ∀ j, j < i → ptAt ps j = true) ?_ 0 ⟨by omega, by omega⟩ ?_
  · rintro i K ⟨h1, h2⟩ hK
    try dsimp only at h1 h2 ⊢
    have hsub : Sub σ (upd σ l (.mp true (seenS ((ps.take i).map Pt.name)))) := (Sub.refl σ).upd hl
    have hgl : (upd σ l (.mp true (seenS ((ps.take i).map Pt.name)))) l = some (.mp true (seenS ((ps.take i).map Pt.name))) := upd_same _ _ _
    have eH : ∀ B, upd σ l B = upd (upd σ l (.mp true (seenS ((ps.take i).map Pt.name)))) l B := fun B => (upd_upd _ _ _ _).symm
    have hK := hK (i + 1)
    try dsimp only at hK
    rw [eH] at hK
    clear eH
    generalize upd σ l (.mp true (seenS ((ps.take i).map Pt.name))) = τ at hsub hgl hK ⊢
    by_cases hi : i < ps.length
    · obtain ⟨⟨pn, ⟨ek, ⟨vk, vn, vt, vl⟩, es, ec, ep⟩⟩, hm, hg, hg'⟩ := map_at (f := Pt.cv) hi
      rw [take_map_succ hg, seenS_app] at hK
      have c3 := nameOk_c (σ := τ) (t := pn) (by have := (t4 _ hm).n; dsimp only at this; omega)
      have c4 := implExprOk_c (σ := τ) (t4 _ hm).e
      have no := no i hi
      have e := ptAt_of hg
      try dsimp only at e hK
      cases hn : nameOk pn <;> rw [hn] at c3 e
      · conv => whnf
        repeat' (first | (refine CallN.one c3 ?_) | (refine finS0 hsub ?_) | refine OrdN.one ?_ | refine Fork.yp ?_ | refine Fork.np ?_ | refine Fork.ny ?_ | refine Fork.nn ?_ | refine Fork.yb ?_ | refine Fork.nb ?_ | refine Fork.dp (fun h => ?_) (fun h => ?_) | refine Fork.dn (fun h => ?_) (fun h => ?_) | (refine Fork.mk (fun h => ?_) (fun h => ?_) <;> simp only [decide_eq_true_eq, decide_eq_false_iff_not, Bool.not_eq_true', Bool.not_eq_false', Bool.or_eq_true, Bool.or_eq_false_iff] at h) | refine GetN.go ?_ | refine Need.ap1 ?_ | refine Need.ap0 ?_ | refine Need.go ?_ | refine Need.draw ?_ | refine ElemN.go ?_ | refine ExtN.ext ?_ | refine ExtN.wr ?_ | refine AllocN.go (fun l hl => ?_) | refine finGo ?_) <;> try (conv => whnf)
        exact no e
      cases hv : okE 4 (.mk ek (.mk vk vn vt vl) es ec ep) <;> rw [hv] at c4 e
      · conv => whnf
        repeat' (first | (refine CallN.one c3 ?_) | (refine CallN.one c4 ?_) | (refine finS0 hsub ?_) | refine OrdN.one ?_ | refine Fork.yp ?_ | refine Fork.np ?_ | refine Fork.ny ?_ | refine Fork.nn ?_ | refine Fork.yb ?_ | refine Fork.nb ?_ | refine Fork.dp (fun h => ?_) (fun h => ?_) | refine Fork.dn (fun h => ?_) (fun h => ?_) | (refine Fork.mk (fun h => ?_) (fun h => ?_) <;> simp only [decide_eq_true_eq, decide_eq_false_iff_not, Bool.not_eq_true', Bool.not_eq_false', Bool.or_eq_true, Bool.or_eq_false_iff] at h) | refine GetN.go ?_ | refine Need.ap1 ?_ | refine Need.ap0 ?_ | refine Need.go ?_ | refine Need.draw ?_ | refine ElemN.go ?_ | refine ExtN.ext ?_ | refine ExtN.wr ?_ | refine AllocN.go (fun l hl => ?_) | refine finGo ?_) <;> try (conv => whnf)
        exact no e
      cases hq : hasB ((ps.take i).map Pt.name) pn <;> rw [hq] at e
      · have hf := seenS_no (k := 0) hq
        conv => whnf
        repeat' (first | (refine CallN.one c3 ?_) | (refine CallN.one c4 ?_) | (refine finS0 hsub ?_) | (refine MapN.go ?_ hf) | refine OrdN.one ?_ | refine Fork.yp ?_ | refine Fork.np ?_ | refine Fork.ny ?_ | refine Fork.nn ?_ | refine Fork.yb ?_ | refine Fork.nb ?_ | refine Fork.dp (fun h => ?_) (fun h => ?_) | refine Fork.dn (fun h => ?_) (fun h => ?_) | (refine Fork.mk (fun h => ?_) (fun h => ?_) <;> simp only [decide_eq_true_eq, decide_eq_false_iff_not, Bool.not_eq_true', Bool.not_eq_false', Bool.or_eq_true, Bool.or_eq_false_iff] at h) | refine GetN.go ?_ | refine Need.ap1 ?_ | refine Need.ap0 ?_ | refine Need.go ?_ | refine Need.draw ?_ | refine ElemN.go ?_ | refine ExtN.ext ?_ | refine ExtN.wr ?_ | refine AllocN.go (fun l hl => ?_) | refine finGo ?_) <;> try (conv => whnf)
        refine hK _ _ ⟨by omega, stepAll h2 e⟩ (by omega) ?_
        (refine ⟨rfl, ?_, ?_, Sub.refl _⟩ <;> repeat' (first | exact EnvLe.nil | exact LocsLe.nil | refine EnvLe.cons _ _ _ ?_ ?_ | refine LocsLe.cons _ _ _ ?_ ?_ | exact CVle.same _ rfl | exact CVle.vec _ _ | exact CVle.nil | exact CVle.tok _ _ _ rfl rfl | exact ObLe.tok _ _ rfl | exact CVles.nil | refine CVles.cons ?_ ?_ | exact ObLe.same _ rfl rfl | refine ObLe.cells rfl ?_))
      · obtain ⟨j, hf⟩ := seenS_yes (k := 0) hq
        conv => whnf
        repeat' (first | (refine CallN.one c3 ?_) | (refine CallN.one c4 ?_) | (refine finS0 hsub ?_) | (refine MapN.go ?_ hf) | refine OrdN.one ?_ | refine Fork.yp ?_ | refine Fork.np ?_ | refine Fork.ny ?_ | refine Fork.nn ?_ | refine Fork.yb ?_ | refine Fork.nb ?_ | refine Fork.dp (fun h => ?_) (fun h => ?_) | refine Fork.dn (fun h => ?_) (fun h => ?_) | (refine Fork.mk (fun h => ?_) (fun h => ?_) <;> simp only [decide_eq_true_eq, decide_eq_false_iff_not, Bool.not_eq_true', Bool.not_eq_false', Bool.or_eq_true, Bool.or_eq_false_iff] at h) | refine GetN.go ?_ | refine Need.ap1 ?_ | refine Need.ap0 ?_ | refine Need.go ?_ | refine Need.draw ?_ | refine ElemN.go ?_ | refine ExtN.ext ?_ | refine ExtN.wr ?_ | refine AllocN.go (fun l hl => ?_) | refine finGo ?_) <;> try (conv => whnf)
        exact no e
    · have hall : ∀ i, i < ps.length → ptAt ps i = true := fun j hj => h2 j (by omega)
      conv => whnf
      repeat' (first | (refine finS0 hsub ?_) | refine OrdN.one ?_ | refine Fork.yp ?_ | refine Fork.np ?_ | refine Fork.ny ?_ | refine Fork.nn ?_ | refine Fork.yb ?_ | refine Fork.nb ?_ | refine Fork.dp (fun h => ?_) (fun h => ?_) | refine Fork.dn (fun h => ?_) (fun h => ?_) | (refine Fork.mk (fun h => ?_) (fun h => ?_) <;> simp only [decide_eq_true_eq, decide_eq_false_iff_not, Bool.not_eq_true', Bool.not_eq_false', Bool.or_eq_true, Bool.or_eq_false_iff] at h) | refine GetN.go ?_ | refine Need.ap1 ?_ | refine Need.ap0 ?_ | refine Need.go ?_ | refine Need.draw ?_ | refine ElemN.go ?_ | refine ExtN.ext ?_ | refine ExtN.wr ?_ | refine AllocN.go (fun l hl => ?_) | refine finGo ?_) <;> try (conv => whnf)
      exact ansB (by rw [hpt, range_yes hall])
  · (refine ⟨rfl, ?_, ?_, Sub.refl _⟩ <;> repeat' (first | exact EnvLe.nil | exact LocsLe.nil | refine EnvLe.cons _ _ _ ?_ ?_ | refine LocsLe.cons _ _ _ ?_ ?_ | exact CVle.same _ rfl | exact CVle.vec _ _ | exact CVle.nil | exact CVle.tok _ _ _ rfl rfl | exact ObLe.tok _ _ rfl | exact CVles.nil | refine CVles.cons ?_ ?_ | exact ObLe.same _ rfl rfl | refine ObLe.cells rfl ?_))
theorem all_no {α : Type} {l : List α} {p : α → Bool} {x : α} (hm : x ∈ l) (h : p x = false) : l.all p = false := by
  rw [← Bool.not_eq_true, List.all_eq_true]; intro e; rw [e x hm] at h; cases h
theorem all_take {α : Type} {l : List α} {p : α → Bool} {i : Nat} {x : α} (hg : l[i]? = some x) (h : (l.take i).all p = true) (hx : p x = true) : (l.take (i + 1)).all p = true := by
  rw [List.take_add_one, hg, List.all_append, h]; simp [hx]
theorem pathsForm_c {σ : Heap} {ps : List Pth} (hk : ps.length ≤ 1000) (ht : ∀ p ∈ ps, PthT p) : CRun Tryz.prog 38 [.vec (pths ps)] σ (· = .ret (.sc (.bool (pthsOk ps))) σ) := by
  have e3 := pths_len ps
  refine crun_of (X := X) X_ok X_sat (body := bodyOf Tryz.f38) Tryz.func38 rfl (by kernel_rfl) (by kernel_rfl) ?_
  rw [Tryz.ntmps38]
  by_cases h0 : 1 ≤ ps.length ∧ ps.length ≤ 2
  case neg =>
    have hq : pthsOk ps = false := by unfold pthsOk; rw [decide_eq_false h0]; rfl
    by_cases h1 : 1 ≤ ps.length
    all_goals
      conv => whnf
      repeat' (first | refine OrdN.one ?_ | refine Fork.yp ?_ | refine Fork.np ?_ | refine Fork.ny ?_ | refine Fork.nn ?_ | refine Fork.yb ?_ | refine Fork.nb ?_ | refine Fork.dp (fun h => ?_) (fun h => ?_) | refine Fork.dn (fun h => ?_) (fun h => ?_) | (refine Fork.mk (fun h => ?_) (fun h => ?_) <;> simp only [decide_eq_true_eq, decide_eq_false_iff_not, Bool.not_eq_true', Bool.not_eq_false', Bool.or_eq_true, Bool.or_eq_false_iff] at h) | refine GetN.go ?_ | refine Need.ap1 ?_ | refine Need.ap0 ?_ | refine Need.go ?_ | refine Need.draw ?_ | refine ElemN.go ?_ | refine ExtN.ext ?_ | refine ExtN.wr ?_ | refine AllocN.go (fun l hl => ?_) | refine finGo ?_) <;> try (conv => whnf)
      all_goals exact ansB hq
  obtain ⟨k1, k2⟩ := h0
  have hq : pthsOk ps = ps.all pthOk := by unfold pthsOk; rw [decide_eq_true ⟨k1, k2⟩]; rfl
  have no : ∀ p ∈ ps, pthOk p = false → COut.ret (.sc (.bool false)) σ = .ret (.sc (.bool (pthsOk ps))) σ := fun p hp h => ansB (by rw [hq, all_no hp h])
  conv => whnf
  repeat' (first | refine OrdN.one ?_ | refine Fork.yp ?_ | refine Fork.np ?_ | refine Fork.ny ?_ | refine Fork.nn ?_ | refine Fork.yb ?_ | refine Fork.nb ?_ | refine Fork.dp (fun h => ?_) (fun h => ?_) | refine Fork.dn (fun h => ?_) (fun h => ?_) | (refine Fork.mk (fun h => ?_) (fun h => ?_) <;> simp only [decide_eq_true_eq, decide_eq_false_iff_not, Bool.not_eq_true', Bool.not_eq_false', Bool.or_eq_true, Bool.or_eq_false_iff] at h) | refine GetN.go ?_ | refine Need.ap1 ?_ | refine Need.ap0 ?_ | refine Need.go ?_ | refine Need.draw ?_ | refine ElemN.go ?_ | refine ExtN.ext ?_ | refine ExtN.wr ?_ | refine AllocN.go (fun l hl => ?_) | refine finGo ?_) <;> try (conv => whnf)
  refine LoopN.rule (α := Nat) (fun i => ⟨66, [(2, .sc (.bool false)), (15, .vec (pths ps)), (16, i64 (pths ps).length), (17, i64 i)], []⟩)
    (fun _ => σ) (fun i => ps.length - i) (fun i => i ≤ ps.length ∧ (ps.take i).all pthOk = true) ?_ 0 ⟨by omega, by simp⟩ ?_
  rotate_left
  · (refine ⟨rfl, ?_, ?_, Sub.refl _⟩ <;> repeat' (first | exact EnvLe.nil | exact LocsLe.nil | refine EnvLe.cons _ _ _ ?_ ?_ | refine LocsLe.cons _ _ _ ?_ ?_ | exact CVle.same _ rfl | exact CVle.vec _ _ | exact CVle.nil | exact CVle.tok _ _ _ rfl rfl | exact ObLe.tok _ _ rfl | exact CVles.nil | refine CVles.cons ?_ ?_ | exact ObLe.same _ rfl rfl | refine ObLe.cells rfl ?_))
  rintro i K ⟨h1, h2⟩ hK
  dsimp only at h1 h2 hK ⊢
  by_cases hi : i < ps.length
  · obtain ⟨⟨⟨sn, sl, sp⟩, hs⟩, hm, hg, hg'⟩ := map_at (f := Pth.cv) hi
    obtain ⟨t1, t2, t3⟩ := ht _ hm
    have no := no _ hm
    dsimp only at t1 t2 t3
    have c1 := spotForm_c (σ := σ) t1
    have e5 := hps_len hs
    have hp : pthOk ⟨⟨sn, sl, sp⟩, hs⟩ = (spOk ⟨sn, sl, sp⟩ && (decide (hs.length ≤ 2) && hs.all hpOk)) := rfl
    cases ha : spOk ⟨sn, sl, sp⟩ <;> rw [ha] at c1 hp
    · conv => whnf
      repeat' (first | (refine CallN.one c1 ?_) | refine OrdN.one ?_ | refine Fork.yp ?_ | refine Fork.np ?_ | refine Fork.ny ?_ | refine Fork.nn ?_ | refine Fork.yb ?_ | refine Fork.nb ?_ | refine Fork.dp (fun h => ?_) (fun h => ?_) | refine Fork.dn (fun h => ?_) (fun h => ?_) | (refine Fork.mk (fun h => ?_) (fun h => ?_) <;> simp only [decide_eq_true_eq, decide_eq_false_iff_not, Bool.not_eq_true', Bool.not_eq_false', Bool.or_eq_true, Bool.or_eq_false_iff] at h) | refine GetN.go ?_ | refine Need.ap1 ?_ | refine Need.ap0 ?_ | refine Need.go ?_ | refine Need.draw ?_ | refine ElemN.go ?_ | refine ExtN.ext ?_ | refine ExtN.wr ?_ | refine AllocN.go (fun l hl => ?_) | refine finGo ?_) <;> try (conv => whnf)
      all_goals exact no hp
    by_cases hb : hs.length ≤ 2
    case neg =>
      rw [decide_eq_false hb] at hp
      conv => whnf
      repeat' (first | (refine CallN.one c1 ?_) | refine OrdN.one ?_ | refine Fork.yp ?_ | refine Fork.np ?_ | refine Fork.ny ?_ | refine Fork.nn ?_ | refine Fork.yb ?_ | refine Fork.nb ?_ | refine Fork.dp (fun h => ?_) (fun h => ?_) | refine Fork.dn (fun h => ?_) (fun h => ?_) | (refine Fork.mk (fun h => ?_) (fun h => ?_) <;> simp only [decide_eq_true_eq, decide_eq_false_iff_not, Bool.not_eq_true', Bool.not_eq_false', Bool.or_eq_true, Bool.or_eq_false_iff] at h) | refine GetN.go ?_ | refine Need.ap1 ?_ | refine Need.ap0 ?_ | refine Need.go ?_ | refine Need.draw ?_ | refine ElemN.go ?_ | refine ExtN.ext ?_ | refine ExtN.wr ?_ | refine AllocN.go (fun l hl => ?_) | refine finGo ?_) <;> try (conv => whnf)
      all_goals exact no hp
    rw [decide_eq_true hb, Bool.true_and, Bool.true_and] at hp
    conv => whnf
    repeat' (first | (refine CallN.one c1 ?_) | refine OrdN.one ?_ | refine Fork.yp ?_ | refine Fork.np ?_ | refine Fork.ny ?_ | refine Fork.nn ?_ | refine Fork.yb ?_ | refine Fork.nb ?_ | refine Fork.dp (fun h => ?_) (fun h => ?_) | refine Fork.dn (fun h => ?_) (fun h => ?_) | (refine Fork.mk (fun h => ?_) (fun h => ?_) <;> simp only [decide_eq_true_eq, decide_eq_false_iff_not, Bool.not_eq_true', Bool.not_eq_false', Bool.or_eq_true, Bool.or_eq_false_iff] at h) | refine GetN.go ?_ | refine Need.ap1 ?_ | refine Need.ap0 ?_ | refine Need.go ?_ | refine Need.draw ?_ | refine ElemN.go ?_ | refine ExtN.ext ?_ | refine ExtN.wr ?_ | refine AllocN.go (fun l hl => ?_) | refine finGo ?_) <;> try (conv => whnf)
    refine LoopN.rule (α := Nat) (fun k => ⟨66, [(2, .sc (.bool false)), (15, .vec (pths ps)), (16, i64 (pths ps).length), (17, i64 i), (32, .vec (hps hs)), (33, i64 (hps hs).length), (34, i64 k)], []⟩)
      (fun _ => σ) (fun k => hs.length - k) (fun k => k ≤ hs.length ∧ (hs.take k).all hpOk = true) ?_ 0 ⟨by omega, by simp⟩ ?_
    rotate_left
    · (refine ⟨rfl, ?_, ?_, Sub.refl _⟩ <;> repeat' (first | exact EnvLe.nil | exact LocsLe.nil | refine EnvLe.cons _ _ _ ?_ ?_ | refine LocsLe.cons _ _ _ ?_ ?_ | exact CVle.same _ rfl | exact CVle.vec _ _ | exact CVle.nil | exact CVle.tok _ _ _ rfl rfl | exact ObLe.tok _ _ rfl | exact CVles.nil | refine CVles.cons ?_ ?_ | exact ObLe.same _ rfl rfl | refine ObLe.cells rfl ?_))
    rintro k K ⟨h3, h4⟩ hK2
    dsimp only at h3 h4 hK2 ⊢
    by_cases hk : k < hs.length
    · obtain ⟨⟨hn, hkd, hw, ⟨xn, xl, xp⟩⟩, um, ug, ug'⟩ := map_at (f := Hp.cv) hk
      obtain ⟨u1, u2, u3, u4⟩ := t3 _ um
      dsimp only at u1 u2 u3 u4
      have no : hpOk ⟨hn, hkd, hw, ⟨xn, xl, xp⟩⟩ = false → COut.ret (.sc (.bool false)) σ = .ret (.sc (.bool (pthsOk ps))) σ := fun h => no (by rw [hp, all_no um h])
      have hh : hpOk ⟨hn, hkd, hw, ⟨xn, xl, xp⟩⟩ = (mayN hn && (mayN hkd && (decide (-1 ≤ hw ∧ hw ≤ 1) && spOk ⟨xn, xl, xp⟩))) := rfl
      have d1 := mayI_c (σ := σ) (t := hn) (by omega)
      have d2 := mayI_c (σ := σ) (t := hkd) (by omega)
      have d3 := spotForm_c (σ := σ) u4
      cases b1 : mayN hn <;> rw [b1] at d1 hh
      · conv => whnf
        repeat' (first | (refine CallN.one d1 ?_) | refine OrdN.one ?_ | refine Fork.yp ?_ | refine Fork.np ?_ | refine Fork.ny ?_ | refine Fork.nn ?_ | refine Fork.yb ?_ | refine Fork.nb ?_ | refine Fork.dp (fun h => ?_) (fun h => ?_) | refine Fork.dn (fun h => ?_) (fun h => ?_) | (refine Fork.mk (fun h => ?_) (fun h => ?_) <;> simp only [decide_eq_true_eq, decide_eq_false_iff_not, Bool.not_eq_true', Bool.not_eq_false', Bool.or_eq_true, Bool.or_eq_false_iff] at h) | refine GetN.go ?_ | refine Need.ap1 ?_ | refine Need.ap0 ?_ | refine Need.go ?_ | refine Need.draw ?_ | refine ElemN.go ?_ | refine ExtN.ext ?_ | refine ExtN.wr ?_ | refine AllocN.go (fun l hl => ?_) | refine finGo ?_) <;> try (conv => whnf)
        all_goals exact no hh
      cases b2 : mayN hkd <;> rw [b2] at d2 hh
      · conv => whnf
        repeat' (first | (refine CallN.one d1 ?_) | (refine CallN.one d2 ?_) | refine OrdN.one ?_ | refine Fork.yp ?_ | refine Fork.np ?_ | refine Fork.ny ?_ | refine Fork.nn ?_ | refine Fork.yb ?_ | refine Fork.nb ?_ | refine Fork.dp (fun h => ?_) (fun h => ?_) | refine Fork.dn (fun h => ?_) (fun h => ?_) | (refine Fork.mk (fun h => ?_) (fun h => ?_) <;> simp only [decide_eq_true_eq, decide_eq_false_iff_not, Bool.not_eq_true', Bool.not_eq_false', Bool.or_eq_true, Bool.or_eq_false_iff] at h) | refine GetN.go ?_ | refine Need.ap1 ?_ | refine Need.ap0 ?_ | refine Need.go ?_ | refine Need.draw ?_ | refine ElemN.go ?_ | refine ExtN.ext ?_ | refine ExtN.wr ?_ | refine AllocN.go (fun l hl => ?_) | refine finGo ?_) <;> try (conv => whnf)
        all_goals exact no hh
      by_cases b3 : -1 ≤ hw ∧ hw ≤ 1
      case neg =>
        rw [decide_eq_false b3] at hh
        by_cases b4 : -1 ≤ hw
        all_goals
          conv => whnf
          repeat' (first | (refine CallN.one d1 ?_) | (refine CallN.one d2 ?_) | refine OrdN.one ?_ | refine Fork.yp ?_ | refine Fork.np ?_ | refine Fork.ny ?_ | refine Fork.nn ?_ | refine Fork.yb ?_ | refine Fork.nb ?_ | refine Fork.dp (fun h => ?_) (fun h => ?_) | refine Fork.dn (fun h => ?_) (fun h => ?_) | (refine Fork.mk (fun h => ?_) (fun h => ?_) <;> simp only [decide_eq_true_eq, decide_eq_false_iff_not, Bool.not_eq_true', Bool.not_eq_false', Bool.or_eq_true, Bool.or_eq_false_iff] at h) | refine GetN.go ?_ | refine Need.ap1 ?_ | refine Need.ap0 ?_ | refine Need.go ?_ | refine Need.draw ?_ | refine ElemN.go ?_ | refine ExtN.ext ?_ | refine ExtN.wr ?_ | refine AllocN.go (fun l hl => ?_) | refine finGo ?_) <;> try (conv => whnf)
          all_goals exact no hh
      rw [decide_eq_true b3] at hh
      obtain ⟨b4, b5⟩ := b3
      cases b6 : spOk ⟨xn, xl, xp⟩ <;> rw [b6] at d3 hh
      · conv => whnf
        repeat' (first | (refine CallN.one d1 ?_) | (refine CallN.one d2 ?_) | (refine CallN.one d3 ?_) | refine OrdN.one ?_ | refine Fork.yp ?_ | refine Fork.np ?_ | refine Fork.ny ?_ | refine Fork.nn ?_ | refine Fork.yb ?_ | refine Fork.nb ?_ | refine Fork.dp (fun h => ?_) (fun h => ?_) | refine Fork.dn (fun h => ?_) (fun h => ?_) | (refine Fork.mk (fun h => ?_) (fun h => ?_) <;> simp only [decide_eq_true_eq, decide_eq_false_iff_not, Bool.not_eq_true', Bool.not_eq_false', Bool.or_eq_true, Bool.or_eq_false_iff] at h) | refine GetN.go ?_ | refine Need.ap1 ?_ | refine Need.ap0 ?_ | refine Need.go ?_ | refine Need.draw ?_ | refine ElemN.go ?_ | refine ExtN.ext ?_ | refine ExtN.wr ?_ | refine AllocN.go (fun l hl => ?_) | refine finGo ?_) <;> try (conv => whnf)
        all_goals exact no hh
      conv => whnf
      repeat' (first | (refine CallN.one d1 ?_) | (refine CallN.one d2 ?_) | (refine CallN.one d3 ?_) | refine OrdN.one ?_ | refine Fork.yp ?_ | refine Fork.np ?_ | refine Fork.ny ?_ | refine Fork.nn ?_ | refine Fork.yb ?_ | refine Fork.nb ?_ | refine Fork.dp (fun h => ?_) (fun h => ?_) | refine Fork.dn (fun h => ?_) (fun h => ?_) | (refine Fork.mk (fun h => ?_) (fun h => ?_) <;> simp only [decide_eq_true_eq, decide_eq_false_iff_not, Bool.not_eq_true', Bool.not_eq_false', Bool.or_eq_true, Bool.or_eq_false_iff] at h) | refine GetN.go ?_ | refine Need.ap1 ?_ | refine Need.ap0 ?_ | refine Need.go ?_ | refine Need.draw ?_ | refine ElemN.go ?_ | refine ExtN.ext ?_ | refine ExtN.wr ?_ | refine AllocN.go (fun l hl => ?_) | refine finGo ?_) <;> try (conv => whnf)
      refine hK2 (k + 1) _ _ ⟨by omega, all_take ug h4 hh⟩ (by omega) ?_
      (refine ⟨rfl, ?_, ?_, Sub.refl _⟩ <;> repeat' (first | exact EnvLe.nil | exact LocsLe.nil | refine EnvLe.cons _ _ _ ?_ ?_ | refine LocsLe.cons _ _ _ ?_ ?_ | exact CVle.same _ rfl | exact CVle.vec _ _ | exact CVle.nil | exact CVle.tok _ _ _ rfl rfl | exact ObLe.tok _ _ rfl | exact CVles.nil | refine CVles.cons ?_ ?_ | exact ObLe.same _ rfl rfl | refine ObLe.cells rfl ?_))
    · rw [List.take_of_length_le (by omega)] at h4
      conv => whnf
      repeat' (first | refine OrdN.one ?_ | refine Fork.yp ?_ | refine Fork.np ?_ | refine Fork.ny ?_ | refine Fork.nn ?_ | refine Fork.yb ?_ | refine Fork.nb ?_ | refine Fork.dp (fun h => ?_) (fun h => ?_) | refine Fork.dn (fun h => ?_) (fun h => ?_) | (refine Fork.mk (fun h => ?_) (fun h => ?_) <;> simp only [decide_eq_true_eq, decide_eq_false_iff_not, Bool.not_eq_true', Bool.not_eq_false', Bool.or_eq_true, Bool.or_eq_false_iff] at h) | refine GetN.go ?_ | refine Need.ap1 ?_ | refine Need.ap0 ?_ | refine Need.go ?_ | refine Need.draw ?_ | refine ElemN.go ?_ | refine ExtN.ext ?_ | refine ExtN.wr ?_ | refine AllocN.go (fun l hl => ?_) | refine finGo ?_) <;> try (conv => whnf)
      refine hK (i + 1) _ _ ⟨by omega, all_take hg h2 (by rw [hp, h4])⟩ (by omega) ?_
      (refine ⟨rfl, ?_, ?_, Sub.refl _⟩ <;> repeat' (first | exact EnvLe.nil | exact LocsLe.nil | refine EnvLe.cons _ _ _ ?_ ?_ | refine LocsLe.cons _ _ _ ?_ ?_ | exact CVle.same _ rfl | exact CVle.vec _ _ | exact CVle.nil | exact CVle.tok _ _ _ rfl rfl | exact ObLe.tok _ _ rfl | exact CVles.nil | refine CVles.cons ?_ ?_ | exact ObLe.same _ rfl rfl | refine ObLe.cells rfl ?_))
  · rw [List.take_of_length_le (by omega)] at h2
    conv => whnf
    repeat' (first | refine OrdN.one ?_ | refine Fork.yp ?_ | refine Fork.np ?_ | refine Fork.ny ?_ | refine Fork.nn ?_ | refine Fork.yb ?_ | refine Fork.nb ?_ | refine Fork.dp (fun h => ?_) (fun h => ?_) | refine Fork.dn (fun h => ?_) (fun h => ?_) | (refine Fork.mk (fun h => ?_) (fun h => ?_) <;> simp only [decide_eq_true_eq, decide_eq_false_iff_not, Bool.not_eq_true', Bool.not_eq_false', Bool.or_eq_true, Bool.or_eq_false_iff] at h) | refine GetN.go ?_ | refine Need.ap1 ?_ | refine Need.ap0 ?_ | refine Need.go ?_ | refine Need.draw ?_ | refine ElemN.go ?_ | refine ExtN.ext ?_ | refine ExtN.wr ?_ | refine AllocN.go (fun l hl => ?_) | refine finGo ?_) <;> try (conv => whnf)
    all_goals exact ansB (by rw [hq, h2])
structure It where
  e : Exp
  name : ByteArray
structure Od where
  name : ByteArray
  down : Bool
structure Tg where
  name : ByteArray
  key : ByteArray
  e : Exp
structure Cl where
  kind : Int
  paths : List Pth
  e : Exp
  name : ByteArray
  items : List It
  dist : Bool
  orders : List Od
  skip : Int
  limit : Int
  tos : List Tg
  names : List ByteArray
  det : Bool
def It.cv : It → CV
  | ⟨.mk k (.mk vk vn vt vl) s c ps, n⟩ => .agg [i64 k, i64 vk, i64 vn, .sc (.string vt), .vec (Val.cvs vl), .sc (.string s), .sc (.string c), .vec (Exp.cvs ps), .sc (.string n)]
def its (l : List It) : List CV := l.map It.cv
def Od.cv : Od → CV
  | ⟨n, d⟩ => .agg [.sc (.string n), .sc (.bool d)]
def ods (l : List Od) : List CV := l.map Od.cv
def Tg.cv : Tg → CV
  | ⟨n, y, .mk k (.mk vk vn vt vl) s c ps⟩ => .agg [.sc (.string n), .sc (.string y), i64 k, i64 vk, i64 vn, .sc (.string vt), .vec (Val.cvs vl), .sc (.string s), .sc (.string c), .vec (Exp.cvs ps)]
def tgs (l : List Tg) : List CV := l.map Tg.cv
def sts (l : List ByteArray) : List CV := l.map fun s => .sc (.string s)
def Cl.cells : Cl → List CV
  | ⟨k, ps, .mk ek (.mk vk vn vt vl) es ec ep, n, is, di, os, sk, li, ts, ns, de⟩ =>
    [i64 k, .vec (pths ps), i64 ek, i64 vk, i64 vn, .sc (.string vt), .vec (Val.cvs vl), .sc (.string es), .sc (.string ec), .vec (Exp.cvs ep), .sc (.string n), .vec (its is), .sc (.bool di), .vec (ods os), i64 sk, i64 li, .vec (tgs ts), .vec (sts ns), .sc (.bool de)]
def Cl.cv : Cl → CV
  | ⟨k, ps, .mk ek (.mk vk vn vt vl) es ec ep, n, is, di, os, sk, li, ts, ns, de⟩ =>
    .agg [i64 k, .vec (pths ps), i64 ek, i64 vk, i64 vn, .sc (.string vt), .vec (Val.cvs vl), .sc (.string es), .sc (.string ec), .vec (Exp.cvs ep), .sc (.string n), .vec (its is), .sc (.bool di), .vec (ods os), i64 sk, i64 li, .vec (tgs ts), .vec (sts ns), .sc (.bool de)]
structure ItT (p : It) : Prop where
  n : p.name.size ≤ 1000
  e : ETame p.e
structure TgT (p : Tg) : Prop where
  n : p.name.size ≤ 1000
  k : p.key.size ≤ 1000
  e : ETame p.e
def Sm (n : Int) : Prop := -1000000 ≤ n ∧ n ≤ 1000000
structure ClT (c : Cl) : Prop where
  k : Sm c.kind
  p : c.paths.length ≤ 1000
  pt : ∀ x ∈ c.paths, PthT x
  e : ETame c.e
  n : c.name.size ≤ 1000
  i : c.items.length ≤ 1000
  it : ∀ x ∈ c.items, ItT x
  o : c.orders.length ≤ 1000
  ot : ∀ x ∈ c.orders, x.name.size ≤ 1000
  s : Sm c.skip
  l : Sm c.limit
  t : c.tos.length ≤ 1000
  tt : ∀ x ∈ c.tos, TgT x
  m : c.names.length ≤ 1000
  mt : ∀ x ∈ c.names, x.size ≤ 1000
end Go.Proofs.YtlamgfimgadnmaaGreat
