/-
  Contracts of the functions that the law reaches.
-/
import Derived.Test.YtlamgfimgadnmaaGreatC
import Derived.Test.YtlamgfimgadnmaaGreatD
set_option linter.unusedVariables false
set_option linter.unusedSimpArgs false
namespace Go.Proofs.YtlamgfimgadnmaaGreat
open Go Go.CL
set_option maxRecDepth 10000
structure Pt where
  name : ByteArray
  e : Exp
structure Sp where
  name : ByteArray
  label : ByteArray
  props : List Pt
structure Hp where
  name : ByteArray
  kind : ByteArray
  way : Int
  spot : Sp
structure Pth where
  spot : Sp
  hops : List Hp
def Pt.cv : Pt → CV
  | ⟨n, .mk k (.mk vk vn vt vl) s c ps⟩ => .agg [.sc (.string n), i64 k, i64 vk, i64 vn, .sc (.string vt), .vec (Val.cvs vl), .sc (.string s), .sc (.string c), .vec (Exp.cvs ps)]
def pts (l : List Pt) : List CV := l.map Pt.cv
def Sp.cv : Sp → CV
  | ⟨n, l, ps⟩ => .agg [.sc (.string n), .sc (.string l), .vec (pts ps)]
def Hp.cv : Hp → CV
  | ⟨n, k, w, ⟨sn, sl, ps⟩⟩ => .agg [.sc (.string n), .sc (.string k), i64 w, .sc (.string sn), .sc (.string sl), .vec (pts ps)]
def hps (l : List Hp) : List CV := l.map Hp.cv
def Pth.cv : Pth → CV
  | ⟨⟨sn, sl, ps⟩, hs⟩ => .agg [.sc (.string sn), .sc (.string sl), .vec (pts ps), .vec (hps hs)]
def ze7 (l : List Pth) : List CV := l.map Pth.cv
theorem zis (l : List Pt) : (pts l).length = l.length := by simp [pts]
theorem zpl (l : List Hp) : (hps l).length = l.length := by simp [hps]
theorem zit (l : List Pth) : (ze7 l).length = l.length := by simp [ze7]
theorem za5 {α : Type} {l : List α} {f : α → CV} {i : Nat} (hi : i < l.length) : ∃ x, x ∈ l ∧ l[i]? = some x ∧ (l.map f)[i]? = some (f x) :=
  ⟨l[i], List.getElem_mem hi, List.getElem?_eq_getElem hi, by rw [List.getElem?_map, List.getElem?_eq_getElem hi]; rfl⟩
structure PtT (p : Pt) : Prop where
  n : p.name.size ≤ 1000
  e : ETame p.e
structure SpT (s : Sp) : Prop where
  n : s.name.size ≤ 1000
  l : s.label.size ≤ 1000
  k : s.props.length ≤ 1000
  p : ∀ p ∈ s.props, PtT p
structure HpT (h : Hp) : Prop where
  n : h.name.size ≤ 1000
  k : h.kind.size ≤ 1000
  w : -1000000 ≤ h.way ∧ h.way ≤ 1000000
  s : SpT h.spot
structure PthT (p : Pth) : Prop where
  s : SpT p.spot
  k : p.hops.length ≤ 1000
  h : ∀ h ∈ p.hops, HpT h
def zoa (s : ByteArray) : Bool := decide (s = ⟨#[]⟩) || ya s
def z0o (l : List Pt) (i : Nat) : Bool := match l[i]? with
  | some p => ya p.name && (okE 4 p.e && !zax ((l.take i).map Pt.name) p.name)
  | none => true
def zg3 (l : List Pt) : Bool := decide (l.length ≤ 4) && (List.range l.length).all (z0o l)
def zom (s : Sp) : Bool := zoa s.name && (zoa s.label && zg3 s.props)
def z2t (h : Hp) : Bool := zoa h.name && (zoa h.kind && (decide (-1 ≤ h.way ∧ h.way ≤ 1) && zom h.spot))
def pthOk (p : Pth) : Bool := zom p.spot && (decide (p.hops.length ≤ 2) && p.hops.all z2t)
def zah (l : List Pth) : Bool := decide (1 ≤ l.length ∧ l.length ≤ 2) && l.all pthOk
theorem zos {l : List Pt} {i : Nat} {p : Pt} (h : l[i]? = some p) : z0o l i = (ya p.name && (okE 4 p.e && !zax ((l.take i).map Pt.name) p.name)) := by unfold z0o; rw [h]
def yf (l : List ByteArray) : List (MK × Value) := l.map fun s => (.s s, .int .i64 1)
theorem ze4 : ∀ {l : List ByteArray} {s : ByteArray} {k : Nat}, zax l s = false → ze (.s s) (yf l) k = none
  | [], _, _, _ => rfl
  | x :: r, s, k, h => by
    simp only [zax, List.any_cons, Bool.or_eq_false_iff, decide_eq_false_iff_not] at h
    have := ze4 (l := r) (s := s) (k := k + 1) h.2
    simp only [yf, List.map_cons, ze]
    rw [if_neg (fun e => h.1 (by cases e; rfl))]
    exact this
theorem zcy : ∀ {l : List ByteArray} {s : ByteArray} {k : Nat}, zax l s = true → ∃ j, ze (.s s) (yf l) k = some (j, .int .i64 1)
  | [], _, _, h => by simp [zax] at h
  | x :: r, s, k, h => by
    simp only [yf, List.map_cons, ze]
    by_cases e : x = s
    · subst e; exact ⟨k, by rw [if_pos rfl]⟩
    · simp only [zax, List.any_cons, Bool.or_eq_true, decide_eq_true_eq, e, false_or] at h
      obtain ⟨j, hj⟩ := zcy (l := r) (s := s) (k := k + 1) h
      exact ⟨j, by rw [if_neg (fun e' => e (by cases e'; rfl))]; exact hj⟩
theorem zii {α β : Type} {l : List α} {f : α → β} {i : Nat} {x : α} (h : l[i]? = some x) : (l.take (i + 1)).map f = (l.take i).map f ++ [f x] := by rw [List.take_add_one, h]; simp
theorem zlh (a : List ByteArray) (s : ByteArray) : yf (a ++ [s]) = yf a ++ [(.s s, .int .i64 1)] := by simp [yf]
theorem zq1 {σ : Heap} {t : ByteArray} (ht : t.size ≤ 1000000000) : CRun Tryz.prog 71 [.sc (.string t)] σ (· = .ret (.sc (.bool (zoa t))) σ) := by
  have c1 := qh (σ := σ) ht
  unfold zoa
  by_cases he : t = ⟨#[]⟩
  · rw [decide_eq_true he]
    refine ZX Tryz.func71 Tryz.ntmps71 ?_
    conv => whnf
    repeat' (first | (refine ZC c1 ?_) | refine Zh ?_ | refine Za ?_ | refine Zb ?_ | refine Zc ?_ | refine Zd ?_ | refine Ze ?_ | refine Zg ?_ | refine Zv (fun h => ?_) (fun h => ?_) | refine Zj ?_ | refine Zk ?_ | refine Zl ?_ | refine Zm ?_ | refine Zn ?_ | refine Zo ?_ | refine Zp ?_ | refine Zq ?_ | refine Zu (fun l hl => ?_) | refine Zr ?_) <;> try (conv => whnf)
    all_goals rfl
  · rw [decide_eq_false he, Bool.false_or]
    refine ZX Tryz.func71 Tryz.ntmps71 ?_
    conv => whnf
    repeat' (first | (refine ZC c1 ?_) | refine Zh ?_ | refine Za ?_ | refine Zb ?_ | refine Zc ?_ | refine Zd ?_ | refine Ze ?_ | refine Zg ?_ | refine Zv (fun h => ?_) (fun h => ?_) | refine Zj ?_ | refine Zk ?_ | refine Zl ?_ | refine Zm ?_ | refine Zn ?_ | refine Zo ?_ | refine Zp ?_ | refine Zq ?_ | refine Zu (fun l hl => ?_) | refine Zr ?_) <;> try (conv => whnf)
    all_goals rfl
theorem zhk {σ : Heap} {s : Sp} (hs : SpT s) : CRun Tryz.prog 70 [s.cv] σ (· = .ret (.sc (.bool (zom s))) σ) := by
  obtain ⟨sn, sl, ps⟩ := s
  obtain ⟨t1, t2, t3, t4⟩ := hs
  dsimp only at t1 t2 t3 t4
  have e3 := zis ps
  have c1 := zq1 (σ := σ) (t := sn) (by omega)
  have c2 := zq1 (σ := σ) (t := sl) (by omega)
  have hsp : zom ⟨sn, sl, ps⟩ = (zoa sn && (zoa sl && zg3 ps)) := rfl
  refine ZX Tryz.func70 Tryz.ntmps70 ?_
  cases h1 : zoa sn <;> rw [h1] at c1 hsp
  · conv => whnf
    repeat' (first | (refine ZC c1 ?_) | refine Zh ?_ | refine Za ?_ | refine Zb ?_ | refine Zc ?_ | refine Zd ?_ | refine Ze ?_ | refine Zg ?_ | refine Zv (fun h => ?_) (fun h => ?_) | refine Zj ?_ | refine Zk ?_ | refine Zl ?_ | refine Zm ?_ | refine Zn ?_ | refine Zo ?_ | refine Zp ?_ | refine Zq ?_ | refine Zu (fun l hl => ?_) | refine Zr ?_) <;> try (conv => whnf)
    exact z7 hsp
  cases h2 : zoa sl <;> rw [h2] at c2 hsp
  · conv => whnf
    repeat' (first | (refine ZC c1 ?_) | (refine ZC c2 ?_) | refine Zh ?_ | refine Za ?_ | refine Zb ?_ | refine Zc ?_ | refine Zd ?_ | refine Ze ?_ | refine Zg ?_ | refine Zv (fun h => ?_) (fun h => ?_) | refine Zj ?_ | refine Zk ?_ | refine Zl ?_ | refine Zm ?_ | refine Zn ?_ | refine Zo ?_ | refine Zp ?_ | refine Zq ?_ | refine Zu (fun l hl => ?_) | refine Zr ?_) <;> try (conv => whnf)
    exact z7 hsp
  by_cases h4 : ps.length ≤ 4
  case neg =>
    conv => whnf
    repeat' (first | (refine ZC c1 ?_) | (refine ZC c2 ?_) | refine Zh ?_ | refine Za ?_ | refine Zb ?_ | refine Zc ?_ | refine Zd ?_ | refine Ze ?_ | refine Zg ?_ | refine Zv (fun h => ?_) (fun h => ?_) | refine Zj ?_ | refine Zk ?_ | refine Zl ?_ | refine Zm ?_ | refine Zn ?_ | refine Zo ?_ | refine Zp ?_ | refine Zq ?_ | refine Zu (fun l hl => ?_) | refine Zr ?_) <;> try (conv => whnf)
    exact z7 (by rw [hsp]; unfold zg3; rw [decide_eq_false h4]; rfl)
  have hpt : zom ⟨sn, sl, ps⟩ = (List.range ps.length).all (z0o ps) := by rw [hsp]; unfold zg3; rw [decide_eq_true h4]; rfl
  have no : ∀ i, i < ps.length → z0o ps i = false → COut.ret (.sc (.bool false)) σ = .ret (.sc (.bool (zom ⟨sn, sl, ps⟩))) σ := fun i hi h => z7 (by rw [hpt, jm hi h])
  conv => whnf
  repeat' (first | (refine ZC c1 ?_) | (refine ZC c2 ?_) | refine Zh ?_ | refine Za ?_ | refine Zb ?_ | refine Zc ?_ | refine Zd ?_ | refine Ze ?_ | refine Zg ?_ | refine Zv (fun h => ?_) (fun h => ?_) | refine Zj ?_ | refine Zk ?_ | refine Zl ?_ | refine Zm ?_ | refine Zn ?_ | refine Zo ?_ | refine Zp ?_ | refine Zq ?_ | refine Zu (fun l hl => ?_) | refine Zr ?_) <;> try (conv => whnf)
  refine LoopN.rule (α := Nat) (fun i => ⟨53, [(2, .sc (.bool false)), (3, .map l), (24, .vec (pts ps)), (25, i64 (pts ps).length), (26, i64 i)], []⟩)
    (fun i => upd σ l (.mp true (yf ((ps.take i).map Pt.name)))) (fun i => ps.length - i) (fun i => i ≤ ps.length ∧ ∀ j, j < i → z0o ps j = true) ?_ 0 ⟨by omega, by omega⟩ ?_
  · rintro i K ⟨h1, h2⟩ hK
    try dsimp only at h1 h2 ⊢
    have hsub : Sub σ (upd σ l (.mp true (yf ((ps.take i).map Pt.name)))) := (Sub.refl σ).upd hl
    have hgl : (upd σ l (.mp true (yf ((ps.take i).map Pt.name)))) l = some (.mp true (yf ((ps.take i).map Pt.name))) := za _ _ _
    have eH : ∀ B, upd σ l B = upd (upd σ l (.mp true (yf ((ps.take i).map Pt.name)))) l B := fun B => (xe _ _ _ _).symm
    have hK := hK (i + 1)
    try dsimp only at hK
    rw [eH] at hK
    clear eH
    generalize upd σ l (.mp true (yf ((ps.take i).map Pt.name))) = τ at hsub hgl hK ⊢
    by_cases hi : i < ps.length
    · obtain ⟨⟨pn, ⟨ek, ⟨vk, vn, vt, vl⟩, es, ec, ep⟩⟩, hm, hg, hg'⟩ := za5 (f := Pt.cv) hi
      rw [zii hg, zlh] at hK
      have c3 := qh (σ := τ) (t := pn) (by have := (t4 _ hm).n; dsimp only at this; omega)
      have c4 := znc (σ := τ) (t4 _ hm).e
      have no := no i hi
      have e := zos hg
      try dsimp only at e hK
      cases hn : ya pn <;> rw [hn] at c3 e
      · conv => whnf
        repeat' (first | (refine ZC c3 ?_) | (refine zpv hsub ?_) | refine Zh ?_ | refine Za ?_ | refine Zb ?_ | refine Zc ?_ | refine Zd ?_ | refine Ze ?_ | refine Zg ?_ | refine Zv (fun h => ?_) (fun h => ?_) | refine Zj ?_ | refine Zk ?_ | refine Zl ?_ | refine Zm ?_ | refine Zn ?_ | refine Zo ?_ | refine Zp ?_ | refine Zq ?_ | refine Zu (fun l hl => ?_) | refine Zr ?_) <;> try (conv => whnf)
        exact no e
      cases hv : okE 4 (.mk ek (.mk vk vn vt vl) es ec ep) <;> rw [hv] at c4 e
      · conv => whnf
        repeat' (first | (refine ZC c3 ?_) | (refine ZC c4 ?_) | (refine zpv hsub ?_) | refine Zh ?_ | refine Za ?_ | refine Zb ?_ | refine Zc ?_ | refine Zd ?_ | refine Ze ?_ | refine Zg ?_ | refine Zv (fun h => ?_) (fun h => ?_) | refine Zj ?_ | refine Zk ?_ | refine Zl ?_ | refine Zm ?_ | refine Zn ?_ | refine Zo ?_ | refine Zp ?_ | refine Zq ?_ | refine Zu (fun l hl => ?_) | refine Zr ?_) <;> try (conv => whnf)
        exact no e
      cases hq : zax ((ps.take i).map Pt.name) pn <;> rw [hq] at e
      · have hf := ze4 (k := 0) hq
        conv => whnf
        repeat' (first | (refine ZC c3 ?_) | (refine ZC c4 ?_) | (refine zpv hsub ?_) | (refine MapN.go ?_ hf) | refine Zh ?_ | refine Za ?_ | refine Zb ?_ | refine Zc ?_ | refine Zd ?_ | refine Ze ?_ | refine Zg ?_ | refine Zv (fun h => ?_) (fun h => ?_) | refine Zj ?_ | refine Zk ?_ | refine Zl ?_ | refine Zm ?_ | refine Zn ?_ | refine Zo ?_ | refine Zp ?_ | refine Zq ?_ | refine Zu (fun l hl => ?_) | refine Zr ?_) <;> try (conv => whnf)
        refine hK _ _ ⟨by omega, yl h2 e⟩ (by omega) ?_
        exact ZW
      · obtain ⟨j, hf⟩ := zcy (k := 0) hq
        conv => whnf
        repeat' (first | (refine ZC c3 ?_) | (refine ZC c4 ?_) | (refine zpv hsub ?_) | (refine MapN.go ?_ hf) | refine Zh ?_ | refine Za ?_ | refine Zb ?_ | refine Zc ?_ | refine Zd ?_ | refine Ze ?_ | refine Zg ?_ | refine Zv (fun h => ?_) (fun h => ?_) | refine Zj ?_ | refine Zk ?_ | refine Zl ?_ | refine Zm ?_ | refine Zn ?_ | refine Zo ?_ | refine Zp ?_ | refine Zq ?_ | refine Zu (fun l hl => ?_) | refine Zr ?_) <;> try (conv => whnf)
        exact no e
    · have hall : ∀ i, i < ps.length → z0o ps i = true := fun j hj => h2 j (by omega)
      conv => whnf
      repeat' (first | (refine zpv hsub ?_) | refine Zh ?_ | refine Za ?_ | refine Zb ?_ | refine Zc ?_ | refine Zd ?_ | refine Ze ?_ | refine Zg ?_ | refine Zv (fun h => ?_) (fun h => ?_) | refine Zj ?_ | refine Zk ?_ | refine Zl ?_ | refine Zm ?_ | refine Zn ?_ | refine Zo ?_ | refine Zp ?_ | refine Zq ?_ | refine Zu (fun l hl => ?_) | refine Zr ?_) <;> try (conv => whnf)
      exact z7 (by rw [hpt, wu hall])
  · exact ZW
theorem z1e {α : Type} {l : List α} {p : α → Bool} {x : α} (hm : x ∈ l) (h : p x = false) : l.all p = false := by
  rw [← Bool.not_eq_true, List.all_eq_true]; intro e; rw [e x hm] at h; cases h
theorem zr4 {α : Type} {l : List α} {p : α → Bool} {i : Nat} {x : α} (hg : l[i]? = some x) (h : (l.take i).all p = true) (hx : p x = true) : (l.take (i + 1)).all p = true := by
  rw [List.take_add_one, hg, List.all_append, h]; simp [hx]
theorem zov {σ : Heap} {ps : List Pth} (hk : ps.length ≤ 1000) (ht : ∀ p ∈ ps, PthT p) : CRun Tryz.prog 38 [.vec (ze7 ps)] σ (· = .ret (.sc (.bool (zah ps))) σ) := by
  have e3 := zit ps
  refine ZX Tryz.func38 Tryz.ntmps38 ?_
  by_cases h0 : 1 ≤ ps.length ∧ ps.length ≤ 2
  case neg =>
    have hq : zah ps = false := by unfold zah; rw [decide_eq_false h0]; rfl
    by_cases h1 : 1 ≤ ps.length
    all_goals
      conv => whnf
      repeat' (first | refine Zh ?_ | refine Za ?_ | refine Zb ?_ | refine Zc ?_ | refine Zd ?_ | refine Ze ?_ | refine Zg ?_ | refine Zv (fun h => ?_) (fun h => ?_) | refine Zj ?_ | refine Zk ?_ | refine Zl ?_ | refine Zm ?_ | refine Zn ?_ | refine Zo ?_ | refine Zp ?_ | refine Zq ?_ | refine Zu (fun l hl => ?_) | refine Zr ?_) <;> try (conv => whnf)
      all_goals exact z7 hq
  obtain ⟨k1, k2⟩ := h0
  have hq : zah ps = ps.all pthOk := by unfold zah; rw [decide_eq_true ⟨k1, k2⟩]; rfl
  have no : ∀ p ∈ ps, pthOk p = false → COut.ret (.sc (.bool false)) σ = .ret (.sc (.bool (zah ps))) σ := fun p hp h => z7 (by rw [hq, z1e hp h])
  conv => whnf
  repeat' (first | refine Zh ?_ | refine Za ?_ | refine Zb ?_ | refine Zc ?_ | refine Zd ?_ | refine Ze ?_ | refine Zg ?_ | refine Zv (fun h => ?_) (fun h => ?_) | refine Zj ?_ | refine Zk ?_ | refine Zl ?_ | refine Zm ?_ | refine Zn ?_ | refine Zo ?_ | refine Zp ?_ | refine Zq ?_ | refine Zu (fun l hl => ?_) | refine Zr ?_) <;> try (conv => whnf)
  refine LoopN.rule (α := Nat) (fun i => ⟨66, [(2, .sc (.bool false)), (15, .vec (ze7 ps)), (16, i64 (ze7 ps).length), (17, i64 i)], []⟩)
    (fun _ => σ) (fun i => ps.length - i) (fun i => i ≤ ps.length ∧ (ps.take i).all pthOk = true) ?_ 0 ⟨by omega, by simp⟩ ?_
  rotate_left
  · exact ZW
  rintro i K ⟨h1, h2⟩ hK
  dsimp only at h1 h2 hK ⊢
  by_cases hi : i < ps.length
  · obtain ⟨⟨⟨sn, sl, sp⟩, hs⟩, hm, hg, hg'⟩ := za5 (f := Pth.cv) hi
    obtain ⟨t1, t2, t3⟩ := ht _ hm
    have no := no _ hm
    dsimp only at t1 t2 t3
    have c1 := zhk (σ := σ) t1
    have e5 := zpl hs
    have hp : pthOk ⟨⟨sn, sl, sp⟩, hs⟩ = (zom ⟨sn, sl, sp⟩ && (decide (hs.length ≤ 2) && hs.all z2t)) := rfl
    cases ha : zom ⟨sn, sl, sp⟩ <;> rw [ha] at c1 hp
    · conv => whnf
      repeat' (first | (refine ZC c1 ?_) | refine Zh ?_ | refine Za ?_ | refine Zb ?_ | refine Zc ?_ | refine Zd ?_ | refine Ze ?_ | refine Zg ?_ | refine Zv (fun h => ?_) (fun h => ?_) | refine Zj ?_ | refine Zk ?_ | refine Zl ?_ | refine Zm ?_ | refine Zn ?_ | refine Zo ?_ | refine Zp ?_ | refine Zq ?_ | refine Zu (fun l hl => ?_) | refine Zr ?_) <;> try (conv => whnf)
      all_goals exact no hp
    by_cases hb : hs.length ≤ 2
    case neg =>
      rw [decide_eq_false hb] at hp
      conv => whnf
      repeat' (first | (refine ZC c1 ?_) | refine Zh ?_ | refine Za ?_ | refine Zb ?_ | refine Zc ?_ | refine Zd ?_ | refine Ze ?_ | refine Zg ?_ | refine Zv (fun h => ?_) (fun h => ?_) | refine Zj ?_ | refine Zk ?_ | refine Zl ?_ | refine Zm ?_ | refine Zn ?_ | refine Zo ?_ | refine Zp ?_ | refine Zq ?_ | refine Zu (fun l hl => ?_) | refine Zr ?_) <;> try (conv => whnf)
      all_goals exact no hp
    rw [decide_eq_true hb, Bool.true_and, Bool.true_and] at hp
    conv => whnf
    repeat' (first | (refine ZC c1 ?_) | refine Zh ?_ | refine Za ?_ | refine Zb ?_ | refine Zc ?_ | refine Zd ?_ | refine Ze ?_ | refine Zg ?_ | refine Zv (fun h => ?_) (fun h => ?_) | refine Zj ?_ | refine Zk ?_ | refine Zl ?_ | refine Zm ?_ | refine Zn ?_ | refine Zo ?_ | refine Zp ?_ | refine Zq ?_ | refine Zu (fun l hl => ?_) | refine Zr ?_) <;> try (conv => whnf)
    refine LoopN.rule (α := Nat) (fun k => ⟨66, [(2, .sc (.bool false)), (15, .vec (ze7 ps)), (16, i64 (ze7 ps).length), (17, i64 i), (32, .vec (hps hs)), (33, i64 (hps hs).length), (34, i64 k)], []⟩)
      (fun _ => σ) (fun k => hs.length - k) (fun k => k ≤ hs.length ∧ (hs.take k).all z2t = true) ?_ 0 ⟨by omega, by simp⟩ ?_
    rotate_left
    · exact ZW
    rintro k K ⟨h3, h4⟩ hK2
    dsimp only at h3 h4 hK2 ⊢
    by_cases hk : k < hs.length
    · obtain ⟨⟨hn, hkd, hw, ⟨xn, xl, xp⟩⟩, um, ug, ug'⟩ := za5 (f := Hp.cv) hk
      obtain ⟨u1, u2, u3, u4⟩ := t3 _ um
      dsimp only at u1 u2 u3 u4
      have no : z2t ⟨hn, hkd, hw, ⟨xn, xl, xp⟩⟩ = false → COut.ret (.sc (.bool false)) σ = .ret (.sc (.bool (zah ps))) σ := fun h => no (by rw [hp, z1e um h])
      have hh : z2t ⟨hn, hkd, hw, ⟨xn, xl, xp⟩⟩ = (zoa hn && (zoa hkd && (decide (-1 ≤ hw ∧ hw ≤ 1) && zom ⟨xn, xl, xp⟩))) := rfl
      have d1 := zq1 (σ := σ) (t := hn) (by omega)
      have d2 := zq1 (σ := σ) (t := hkd) (by omega)
      have d3 := zhk (σ := σ) u4
      cases b1 : zoa hn <;> rw [b1] at d1 hh
      · conv => whnf
        repeat' (first | (refine ZC d1 ?_) | refine Zh ?_ | refine Za ?_ | refine Zb ?_ | refine Zc ?_ | refine Zd ?_ | refine Ze ?_ | refine Zg ?_ | refine Zv (fun h => ?_) (fun h => ?_) | refine Zj ?_ | refine Zk ?_ | refine Zl ?_ | refine Zm ?_ | refine Zn ?_ | refine Zo ?_ | refine Zp ?_ | refine Zq ?_ | refine Zu (fun l hl => ?_) | refine Zr ?_) <;> try (conv => whnf)
        all_goals exact no hh
      cases b2 : zoa hkd <;> rw [b2] at d2 hh
      · conv => whnf
        repeat' (first | (refine ZC d1 ?_) | (refine ZC d2 ?_) | refine Zh ?_ | refine Za ?_ | refine Zb ?_ | refine Zc ?_ | refine Zd ?_ | refine Ze ?_ | refine Zg ?_ | refine Zv (fun h => ?_) (fun h => ?_) | refine Zj ?_ | refine Zk ?_ | refine Zl ?_ | refine Zm ?_ | refine Zn ?_ | refine Zo ?_ | refine Zp ?_ | refine Zq ?_ | refine Zu (fun l hl => ?_) | refine Zr ?_) <;> try (conv => whnf)
        all_goals exact no hh
      by_cases b3 : -1 ≤ hw ∧ hw ≤ 1
      case neg =>
        rw [decide_eq_false b3] at hh
        by_cases b4 : -1 ≤ hw
        all_goals
          conv => whnf
          repeat' (first | (refine ZC d1 ?_) | (refine ZC d2 ?_) | refine Zh ?_ | refine Za ?_ | refine Zb ?_ | refine Zc ?_ | refine Zd ?_ | refine Ze ?_ | refine Zg ?_ | refine Zv (fun h => ?_) (fun h => ?_) | refine Zj ?_ | refine Zk ?_ | refine Zl ?_ | refine Zm ?_ | refine Zn ?_ | refine Zo ?_ | refine Zp ?_ | refine Zq ?_ | refine Zu (fun l hl => ?_) | refine Zr ?_) <;> try (conv => whnf)
          all_goals exact no hh
      rw [decide_eq_true b3] at hh
      obtain ⟨b4, b5⟩ := b3
      cases b6 : zom ⟨xn, xl, xp⟩ <;> rw [b6] at d3 hh
      · conv => whnf
        repeat' (first | (refine ZC d1 ?_) | (refine ZC d2 ?_) | (refine ZC d3 ?_) | refine Zh ?_ | refine Za ?_ | refine Zb ?_ | refine Zc ?_ | refine Zd ?_ | refine Ze ?_ | refine Zg ?_ | refine Zv (fun h => ?_) (fun h => ?_) | refine Zj ?_ | refine Zk ?_ | refine Zl ?_ | refine Zm ?_ | refine Zn ?_ | refine Zo ?_ | refine Zp ?_ | refine Zq ?_ | refine Zu (fun l hl => ?_) | refine Zr ?_) <;> try (conv => whnf)
        all_goals exact no hh
      conv => whnf
      repeat' (first | (refine ZC d1 ?_) | (refine ZC d2 ?_) | (refine ZC d3 ?_) | refine Zh ?_ | refine Za ?_ | refine Zb ?_ | refine Zc ?_ | refine Zd ?_ | refine Ze ?_ | refine Zg ?_ | refine Zv (fun h => ?_) (fun h => ?_) | refine Zj ?_ | refine Zk ?_ | refine Zl ?_ | refine Zm ?_ | refine Zn ?_ | refine Zo ?_ | refine Zp ?_ | refine Zq ?_ | refine Zu (fun l hl => ?_) | refine Zr ?_) <;> try (conv => whnf)
      refine hK2 (k + 1) _ _ ⟨by omega, zr4 ug h4 hh⟩ (by omega) ?_
      exact ZW
    · rw [List.take_of_length_le (by omega)] at h4
      conv => whnf
      repeat' (first | refine Zh ?_ | refine Za ?_ | refine Zb ?_ | refine Zc ?_ | refine Zd ?_ | refine Ze ?_ | refine Zg ?_ | refine Zv (fun h => ?_) (fun h => ?_) | refine Zj ?_ | refine Zk ?_ | refine Zl ?_ | refine Zm ?_ | refine Zn ?_ | refine Zo ?_ | refine Zp ?_ | refine Zq ?_ | refine Zu (fun l hl => ?_) | refine Zr ?_) <;> try (conv => whnf)
      refine hK (i + 1) _ _ ⟨by omega, zr4 hg h2 (by rw [hp, h4])⟩ (by omega) ?_
      exact ZW
  · rw [List.take_of_length_le (by omega)] at h2
    conv => whnf
    repeat' (first | refine Zh ?_ | refine Za ?_ | refine Zb ?_ | refine Zc ?_ | refine Zd ?_ | refine Ze ?_ | refine Zg ?_ | refine Zv (fun h => ?_) (fun h => ?_) | refine Zj ?_ | refine Zk ?_ | refine Zl ?_ | refine Zm ?_ | refine Zn ?_ | refine Zo ?_ | refine Zp ?_ | refine Zq ?_ | refine Zu (fun l hl => ?_) | refine Zr ?_) <;> try (conv => whnf)
    all_goals exact z7 (by rw [hq, h2])
structure It where
  e : Exp
  name : ByteArray
structure Od where
  name : ByteArray
  down : Bool
structure Tg where
  name : ByteArray
  key : ByteArray
  e : Exp
structure Cl where
  kind : Int
  paths : List Pth
  e : Exp
  name : ByteArray
  items : List It
  dist : Bool
  orders : List Od
  skip : Int
  limit : Int
  tos : List Tg
  names : List ByteArray
  det : Bool
def It.cv : It → CV
  | ⟨.mk k (.mk vk vn vt vl) s c ps, n⟩ => .agg [i64 k, i64 vk, i64 vn, .sc (.string vt), .vec (Val.cvs vl), .sc (.string s), .sc (.string c), .vec (Exp.cvs ps), .sc (.string n)]
def its (l : List It) : List CV := l.map It.cv
def Od.cv : Od → CV
  | ⟨n, d⟩ => .agg [.sc (.string n), .sc (.bool d)]
def ods (l : List Od) : List CV := l.map Od.cv
def Tg.cv : Tg → CV
  | ⟨n, y, .mk k (.mk vk vn vt vl) s c ps⟩ => .agg [.sc (.string n), .sc (.string y), i64 k, i64 vk, i64 vn, .sc (.string vt), .vec (Val.cvs vl), .sc (.string s), .sc (.string c), .vec (Exp.cvs ps)]
def tgs (l : List Tg) : List CV := l.map Tg.cv
def sts (l : List ByteArray) : List CV := l.map fun s => .sc (.string s)
def Cl.cells : Cl → List CV
  | ⟨k, ps, .mk ek (.mk vk vn vt vl) es ec ep, n, is, di, os, sk, li, ts, ns, de⟩ =>
    [i64 k, .vec (ze7 ps), i64 ek, i64 vk, i64 vn, .sc (.string vt), .vec (Val.cvs vl), .sc (.string es), .sc (.string ec), .vec (Exp.cvs ep), .sc (.string n), .vec (its is), .sc (.bool di), .vec (ods os), i64 sk, i64 li, .vec (tgs ts), .vec (sts ns), .sc (.bool de)]
def Cl.cv : Cl → CV
  | ⟨k, ps, .mk ek (.mk vk vn vt vl) es ec ep, n, is, di, os, sk, li, ts, ns, de⟩ =>
    .agg [i64 k, .vec (ze7 ps), i64 ek, i64 vk, i64 vn, .sc (.string vt), .vec (Val.cvs vl), .sc (.string es), .sc (.string ec), .vec (Exp.cvs ep), .sc (.string n), .vec (its is), .sc (.bool di), .vec (ods os), i64 sk, i64 li, .vec (tgs ts), .vec (sts ns), .sc (.bool de)]
theorem z1u (l : List ByteArray) : (sts l).length = l.length := by simp [sts]
structure ItT (p : It) : Prop where
  n : p.name.size ≤ 1000
  e : ETame p.e
structure TgT (p : Tg) : Prop where
  n : p.name.size ≤ 1000
  k : p.key.size ≤ 1000
  e : ETame p.e
def Sm (n : Int) : Prop := -1000000 ≤ n ∧ n ≤ 1000000
structure ClT (c : Cl) : Prop where
  k : Sm c.kind
  p : c.paths.length ≤ 1000
  pt : ∀ x ∈ c.paths, PthT x
  e : ETame c.e
  n : c.name.size ≤ 1000
  i : c.items.length ≤ 1000
  it : ∀ x ∈ c.items, ItT x
  o : c.orders.length ≤ 1000
  ot : ∀ x ∈ c.orders, x.name.size ≤ 1000
  s : Sm c.skip
  l : Sm c.limit
  t : c.tos.length ≤ 1000
  tt : ∀ x ∈ c.tos, TgT x
  m : c.names.length ≤ 1000
  mt : ∀ x ∈ c.names, x.size ≤ 1000
end Go.Proofs.YtlamgfimgadnmaaGreat
