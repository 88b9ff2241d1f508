/-
  Contracts of the functions that the law reaches.
-/
import Derived.Test.YtlamgfimgadnmaaGreatQ
import Derived.Test.YtlamgfimgadnmaaGreatO
import Derived.Test.YtlamgfimgadnmaaGreatK
set_option linter.unusedVariables false
set_option linter.unusedSimpArgs false
namespace Go.Proofs.YtlamgfimgadnmaaGreat
open Go Go.CL
set_option maxRecDepth 10000
def vj (L : List (List Pr)) : List CV := L.map fun r => .vec (prs r)
theorem kr (L : List (List Pr)) : (vj L).length = L.length := by simp [vj]
theorem zsg (L : List (List Pr)) (r : List Pr) : vj (L ++ [r]) = vj L ++ [.vec (prs r)] := by simp [vj]
structure GJ (σ : Heap) (lo lr lu : Nat) (ob : Ob) (rows : List (List Pr)) (τ : Heap) : Prop where
  sub : ∀ x o, x ≠ lu → σ x = some o → τ x = some o
  rec_ : τ lr = some ob
  us : ∃ m, τ lu = some (.mp false m)
  len : rows.length ≤ 60
  out : (rows = [] ∧ τ lo = some (.cells [.nil])) ∨ ∃ la cap, rows ≠ [] ∧ la ≠ lo ∧ la ≠ lr ∧ la ≠ lu ∧ σ la = none ∧ τ lo = some (.cells [.grow la rows.length cap]) ∧ τ la = some (.arr 51 1 cap (vj rows)) ∧ rows.length ≤ cap
theorem z5n {σ τ τ2 : Heap} {lo lr lu l2 n cap : Nat} {ob B : Ob} {rows rows' : List (List Pr)} {arr : List CV} (h : GJ σ lo lr lu ob rows τ) (b0 : ∀ y, y ≠ lr → τ2 y = τ y) (hB : τ2 lr = some B) (z0 : σ lo = none) (z2 : σ lr = none) (zl : σ l2 = none) (n1 : lr ≠ lo) (n2 : lo ≠ lu) (n3 : lr ≠ lu)
    (a1 : l2 ≠ lo) (a2 : l2 ≠ lr) (a3 : l2 ≠ lu) (hn : n = rows'.length) (ha : arr = vj rows') (h0 : rows' ≠ []) (h60 : rows'.length ≤ 60) (hc : n ≤ cap) :
    (upd (upd τ2 l2 (.arr 51 1 cap arr)) lo (.cells [.grow l2 n cap])) lr = some B ∧ GJ σ lo lr lu ob rows' (upd (upd (upd τ2 l2 (.arr 51 1 cap arr)) lo (.cells [.grow l2 n cap])) lr ob) ∧
      (upd (upd (upd τ2 l2 (.arr 51 1 cap arr)) lo (.cells [.grow l2 n cap])) lr ob) lu = τ lu := by
  subst hn; subst ha
  have hu : (upd (upd (upd τ2 l2 (.arr 51 1 cap (vj rows'))) lo (.cells [.grow l2 rows'.length cap])) lr ob) lu = τ lu := by
    rw [zb _ _ (Ne.symm n3), zb _ _ (Ne.symm n2), zb _ _ (Ne.symm a3), b0 _ (Ne.symm n3)]
  refine ⟨by rw [zb _ _ n1, zb _ _ (Ne.symm a2)]; exact hB, ⟨fun x o hx ho => ?_, za _ _ _, by obtain ⟨m, hm⟩ := h.us; exact ⟨m, by rw [hu]; exact hm⟩, h60, .inr ⟨l2, cap, h0, a1, a2, a3, zl, ?_, ?_, hc⟩⟩, hu⟩
  · have e1 : x ≠ lr := fun e => by subst e; rw [z2] at ho; cases ho
    have e2 : x ≠ lo := fun e => by subst e; rw [z0] at ho; cases ho
    have e3 : x ≠ l2 := fun e => by subst e; rw [zl] at ho; cases ho
    rw [zb _ _ e1, zb _ _ e2, zb _ _ e3, b0 _ e1]; exact h.sub x o hx ho
  · rw [zb _ _ (Ne.symm n1)]; exact za _ _ _
  · rw [zb _ _ a2, zb _ _ a1]; exact za _ _ _
section
variable {g : Gr} {given : List Pr} {S : List Stp} {lx ln lu : Nat} {ms : List (MK × Value)}
theorem z7a {σ τ : Heap} {lo lr : Nat} {ob : Ob} {rows : List (List Pr)} {m' : List (MK × Value)} (h : GJ σ lo lr lu ob rows τ) (n2 : lo ≠ lu) (n3 : lr ≠ lu) : GJ σ lo lr lu ob rows (upd τ lu (.mp false m')) := by
  refine ⟨fun x o hx ho => by rw [zb _ _ hx]; exact h.sub x o hx ho, by rw [zb _ _ n3]; exact h.rec_, ⟨_, za _ _ _⟩, h.len, ?_⟩
  rcases h.out with ⟨h1, h2⟩ | ⟨la, cap, h1, a1, a2, a3, a4, h2, h3, h4⟩
  · exact .inl ⟨h1, by rw [zb _ _ n2]; exact h2⟩
  · exact .inr ⟨la, cap, h1, a1, a2, a3, a4, by rw [zb _ _ n2]; exact h2, by rw [zb _ _ a3]; exact h3, h4⟩
end
theorem z7q {σ : Heap} {lv lc : Nat} : z6s Tryz.prog (.fn (.func 41) [] [.ptr (.g lv) 0, .ptr (.g lc) 0]) σ none false (· = σ) := by
  refine zrx (X := X) zr5 zg9 (rest := _) Tryz.func41 rfl (by kernel_rfl) (by kernel_rfl) rfl rfl rfl rfl rfl rfl ?_
  conv => whnf
  repeat' (first | (refine ZC ztr ?_) | refine Zd ?_ | refine Zp ?_) <;> try (conv => whnf)
  all_goals exact ⟨rfl, rfl⟩
theorem zyf {all : List (List Pr)} {i : Nat} (hi : i < all.length) : ∃ r, r ∈ all ∧ (vj all)[i]? = some (.vec (prs r)) := by
  refine ⟨all[i], List.getElem_mem hi, ?_⟩
  unfold vj; rw [List.getElem?_map, List.getElem?_eq_getElem hi]; rfl
theorem zye {xs : List CV} {i : Nat} {x : CV} (h : xs[i]? = some x) : xs.set i x = xs := by
  apply List.ext_getElem?
  intro j
  by_cases e : i = j
  · subst e
    have hi := (List.getElem?_eq_some_iff.1 h).1
    rw [List.getElem?_set_self hi, h]
  · rw [List.getElem?_set_ne e]
def qz (ns : List Nd) (s : ByteArray) : List Int := (ns.filter fun n => zj7 n s).map Nd.id
theorem zk5 {ns : List Nd} {i : Nat} {n : Nd} {s : ByteArray} (h : ns[i]? = some n) (hb : zj7 n s = true) : qz (ns.take (i + 1)) s = qz (ns.take i) s ++ [n.id] := by
  unfold qz; rw [List.take_add_one, h, List.filter_append]; simp [hb]
theorem zx2 {ns : List Nd} {i : Nat} {n : Nd} {s : ByteArray} (h : ns[i]? = some n) (hb : zj7 n s = false) : qz (ns.take (i + 1)) s = qz (ns.take i) s := by
  unfold qz; rw [List.take_add_one, h, List.filter_append]; simp [hb]
theorem zk6 {ns : List Nd} {s : ByteArray} : (qz ns s).length ≤ ns.length := by unfold qz; rw [List.length_map]; exact List.length_filter_le _ _
theorem zr8 {ns : List Nd} {s : ByteArray} {i : Nat} : (qz (ns.take i) s).length ≤ i := Nat.le_trans zk6 (by rw [List.length_take]; omega)
theorem zy3 {σ : Heap} {g : Gr} {s : ByteArray} (hg : GrTame g) : CRun Tryz.prog 48 [g.cv, .sc (.string s)] σ (· = .ret (.vec (zaw (qz g.nodes s))) σ) := by
  have hnl := hg.nl
  have hns := hg.ns
  obtain ⟨ns, es, nn, ne⟩ := g
  dsimp only at hnl hns ⊢
  have e3 := ym ns
  refine ZX Tryz.func48 Tryz.ntmps48 ?_
  conv => whnf
  repeat' (first | refine Zh ?_ | refine Za ?_ | refine Zb ?_ | refine Zc ?_ | refine Zd ?_ | refine Ze ?_ | refine Zg ?_ | refine Zv (fun h => ?_) (fun h => ?_) | refine Zj ?_ | refine Zk ?_ | refine Zl ?_ | refine Zm ?_ | refine Zn ?_ | refine Zo ?_ | refine Zp ?_ | refine Zq ?_ | refine Zu (fun l hl => ?_) | refine Zr ?_) <;> try (conv => whnf)
  refine LoopN.rule (α := Nat) (fun i => ⟨37, [(1, .sc (.string s)), (2, .ptr (.f 2) 0), (5, .avec 7 (zaw (qz (ns.take i) s))), (6, i64 i)], [(2, .cells [.vec (nds ns), .vec (eds es), i64 nn, i64 ne]), (7, .tok 3 1 (zaw (qz (ns.take i) s)).length)]⟩)
    (fun _ => σ) (fun i => ns.length - i) (fun i => i ≤ ns.length) ?_ 0 (by omega) ?_
  rotate_left
  · exact ZW
  rintro i K i1 hK
  have e4 := qi (qz (ns.take i) s)
  have e5 := zr8 (ns := ns) (s := s) (i := i)
  by_cases hi : i < ns.length
  · obtain ⟨d, ls, ps, hm, hg', hx, -⟩ := kf hi
    have c2 := z2o (σ := σ) (ns := ls) (s := s) (by have := (hns _ hm).ll; dsimp only at this; omega)
    have hK1 := hK (i + 1)
    try dsimp only at hK1
    have lb : zj7 ⟨d, ls, ps⟩ s = (decide (s = ⟨#[]⟩) || zax ls s) := rfl
    by_cases h0 : s = ⟨#[]⟩
    · have hb : zj7 ⟨d, ls, ps⟩ s = true := by rw [lb, decide_eq_true h0]; rfl
      rw [zk5 hg' hb, zbk, List.length_append] at hK1
      dsimp only at hK1
      generalize zaw (qz (ns.take i) s) = X at hK1 e4 ⊢
      conv => whnf
      repeat' (first | (refine ElemN.go ?_ (h := hx)) | (refine Need.ap1 ?_ (h1 := by simp only [List.length_cons, List.length_nil]; omega)) | refine Za ?_ | refine Zg ?_ | refine Zm ?_) <;> try (conv => whnf)
      all_goals
        refine hK1 _ _ (by omega) (by omega) ?_
        exact ZW
    · cases hq : zax ls s <;> rw [hq] at c2
      · have hb : zj7 ⟨d, ls, ps⟩ s = false := by rw [lb, decide_eq_false h0, hq]; rfl
        rw [zx2 hg' hb] at hK1
        conv => whnf
        repeat' (first | (refine ZC c2 ?_) | (refine ElemN.go ?_ (h := hx)) | refine Za ?_ | refine Zb ?_ | refine Zm ?_ | refine Zp ?_) <;> try (conv => whnf)
        all_goals
          refine hK1 _ _ (by omega) (by omega) ?_
          exact ZW
      · have hb : zj7 ⟨d, ls, ps⟩ s = true := by rw [lb, decide_eq_false h0, hq]; rfl
        rw [zk5 hg' hb, zbk, List.length_append] at hK1
        dsimp only at hK1
        generalize zaw (qz (ns.take i) s) = X at hK1 e4 ⊢
        conv => whnf
        repeat' (first | (refine ZC c2 ?_) | (refine ElemN.go ?_ (h := hx)) | (refine Need.ap1 ?_ (h1 := by simp only [List.length_cons, List.length_nil]; omega)) | refine Za ?_ | refine Zb ?_ | refine Zg ?_ | refine Zm ?_ | refine Zp ?_) <;> try (conv => whnf)
        all_goals
          refine hK1 _ _ (by omega) (by omega) ?_
          exact ZW
  · have e : ns.take i = ns := List.take_of_length_le (by omega)
    rw [e]
    conv => whnf
    repeat' (first | refine Zb ?_ | refine Zr ?_) <;> try (conv => whnf)
    all_goals rfl
theorem z0b {σ : Heap} {a : List Int} (hl : a.length ≤ 1000) : CRun Tryz.prog 13 [.vec (zaw a), .vec (zaw a)] σ (· = .ret (.sc (.bool true)) σ) := by
  have e3 := qi a
  refine ZX Tryz.func13 Tryz.ntmps13 ?_
  conv => whnf
  repeat' (first | refine Zd ?_) <;> try (conv => whnf)
  refine LoopN.rule (α := Nat) (fun i => ⟨26, [(0, .vec (zaw a)), (1, .vec (zaw a)), (4, .sc (.bool false)), (5, i64 i)], []⟩)
    (fun _ => σ) (fun i => a.length - i) (fun i => i ≤ a.length) ?_ 0 (by omega) ?_
  rotate_left
  · exact ZW
  rintro i K i1 hK
  by_cases hi : i < a.length
  · have hx : (zaw a)[i]? = some (i64 a[i]) := by unfold zaw; rw [List.getElem?_map, List.getElem?_eq_getElem hi]; rfl
    conv => whnf
    repeat' (first | (refine ElemN.go ?_ (h := hx)) | refine Za ?_ | refine Zd ?_ | refine Zm ?_ | refine Zn ?_) <;> try (conv => whnf)
    all_goals first
      | (refine hK (i + 1) _ _ (by omega) (by omega) ?_; exact ZW)
      | (exfalso; omega)
  · conv => whnf
    repeat' (first | refine Zb ?_ | refine Zr ?_) <;> try (conv => whnf)
    all_goals rfl
theorem z7r {Q : ByteArray → Prop} {l : Nat} {σ : Heap} {bs xs : List CV} {p : Int} (hb : BytesOk bs) (hl : bs.length ≤ 2000) (hp : 0 ≤ p) (hp' : p < 1099511627776) (hx : Each (fun x => ∃ t : ByteArray, x = .sc (.string t) ∧ Q t) xs) (h1 : 1 ≤ xs.length) (h2 : xs.length ≤ 1000) :
    CRun Tryz.prog 23 [.ptr (.g l) 0, .vec xs] (rd σ l bs p) (fun out => ∃ t : ByteArray, Q t ∧ out = .ret (.sc (.string t)) (rd σ l bs (p + 1))) := by
  refine ZX Tryz.func23 Tryz.ntmps23 ?_
  conv => whnf
  repeat' (first | (refine CallN.many (yq hb hl hp hp') ?_; rintro _ ⟨k, hk1, hk2, rfl⟩) | (refine ElemN.any hx.all (by omega) ?_; rintro _ ⟨t, rfl, ht⟩) | refine Zm ?_ | refine Zq ?_ | refine Zr ?_) <;> try (conv => whnf)
  exact ⟨_, ht, rfl⟩
def z3u (t : ByteArray) : Prop := zoa t = true ∧ t.size ≤ 7
theorem z64 : z3u ⟨#[80]⟩ := ⟨by decide, by decide⟩
theorem z63 : z3u ⟨#[81]⟩ := ⟨by decide, by decide⟩
theorem z65 : z3u ⟨#[]⟩ := ⟨by decide, by decide⟩
def zd5 (d : Int) : List Pr := [⟨⟨#[97]⟩, yd d⟩]
theorem z55 {v : Val} : yg [] ⟨#[97]⟩ v = [⟨⟨#[97]⟩, v⟩] := by unfold yg; rw [if_neg (by decide)]; rfl
theorem zts {ids : List Int} {e : Int} (h : kc ids e = true) : ∀ d ∈ ids, 0 ≤ d ∧ d ≤ e - 1 := by
  intro d hd
  obtain ⟨i, hi, rfl⟩ := List.getElem_of_mem hd
  have := List.all_eq_true.1 h i (List.mem_range.2 hi)
  unfold zg4 at this
  rw [List.getElem?_eq_getElem hi] at this
  simp only [Bool.and_eq_true, decide_eq_true_eq] at this
  exact this.1
theorem zv4 {g : Gr} (h : zn g = true) : g.nodes.length ≤ 12 ∧ ∀ n ∈ g.nodes, 0 ≤ n.id ∧ n.id ≤ 1000000000 := by
  unfold zn at h
  simp only [Bool.and_eq_true, decide_eq_true_eq] at h
  obtain ⟨⟨h1, h2, h3, h4⟩, h5, _⟩ := h
  refine ⟨h3, fun n hn => ?_⟩
  have := zts h5 n.id (List.mem_map.2 ⟨n, hn, rfl⟩)
  omega
end Go.Proofs.YtlamgfimgadnmaaGreat
