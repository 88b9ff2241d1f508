/-
  Contracts of the functions that the law reaches.
-/
import Derived.Test.YthllnbfkfobcjaaGreatNb
set_option linter.unusedVariables false
set_option linter.unusedSimpArgs false
namespace Go.Proofs.YthllnbfkfobcjaaGreat
open Go Go.CL
set_option maxRecDepth 10000
def namesC (c : Cl) : List ByteArray := c.items.map It.name
def lastC (q : List Cl) : Cl := q.getD (q.length - 1) yesC
def namesQ (q : List Cl) : List ByteArray := if checkN q = 0 then namesC (lastC q) else []
theorem its_get {l : List It} {i : Nat} (hi : i < l.length) : ∃ k vk vn vt vl s c ps n, l[i]? = some ⟨.mk k (.mk vk vn vt vl) s c ps, n⟩ ∧ (its l)[i]? = some (.agg [i64 k, i64 vk, i64 vn, .sc (.string vt), .vec (Val.cvs vl), .sc (.string s), .sc (.string c), .vec (Exp.cvs ps), .sc (.string n)]) ∧ sts ((l.take (i + 1)).map It.name) = sts ((l.take i).map It.name) ++ [.sc (.string n)] := by
  rcases h : l[i] with ⟨⟨k, ⟨vk, vn, vt, vl⟩, s, c, ps⟩, n⟩
  refine ⟨k, vk, vn, vt, vl, s, c, ps, n, by rw [List.getElem?_eq_getElem hi, h], ?_, ?_⟩
  · unfold its; rw [List.getElem?_map, List.getElem?_eq_getElem hi, h]; rfl
  · rw [List.take_add_one, List.getElem?_eq_getElem hi, h]; simp [sts]
theorem columnsOf_c {σ : Heap} {c : Cl} (hs : ClT c) : CRun Tryz.prog 58 [c.cv] σ (· = .ret (.vec (sts (namesC c))) σ) := by
  obtain ⟨k, ps, ⟨ek, ⟨vk, vn, vt, vl⟩, es, ec, ep⟩, n, is, di, os, sk, li, ts, ns, de⟩ := c
  have h1 := hs.i
  dsimp only at h1
  unfold namesC
  dsimp only
  have e3 := its_len is
  refine crun_of (X := X) X_ok X_sat (body := bodyOf Tryz.f58) Tryz.func58 rfl (by kernel_rfl) (by kernel_rfl) ?_
  rw [Tryz.ntmps58]
  conv => whnf
  repeat' (first | refine OrdN.one ?_ | refine Fork.yp ?_ | refine Fork.np ?_ | refine Fork.ny ?_ | refine Fork.nn ?_ | refine Fork.yb ?_ | refine Fork.nb ?_ | refine Fork.dp (fun h => ?_) (fun h => ?_) | refine Fork.dn (fun h => ?_) (fun h => ?_) | (refine Fork.mk (fun h => ?_) (fun h => ?_) <;> simp only [decide_eq_true_eq, decide_eq_false_iff_not, Bool.not_eq_true', Bool.not_eq_false', Bool.or_eq_true, Bool.or_eq_false_iff] at h) | refine GetN.go ?_ | refine Need.ap1 ?_ | refine Need.ap0 ?_ | refine Need.go ?_ | refine Need.draw ?_ | refine ElemN.go ?_ | refine ExtN.ext ?_ | refine ExtN.wr ?_ | refine AllocN.go (fun l hl => ?_) | refine finGo ?_) <;> try (conv => whnf)
  refine LoopN.rule (α := Nat) (fun i => ⟨20, [(3, .avec 17 (sts ((is.take i).map It.name))), (7, .vec (its is)), (8, i64 (its is).length), (9, i64 i)], [(17, .tok 9 1 (sts ((is.take i).map It.name)).length)]⟩)
    (fun _ => σ) (fun i => is.length - i) (fun i => i ≤ is.length) ?_ 0 (by omega) ?_
  rotate_left
  · (refine ⟨rfl, ?_, ?_, Sub.refl _⟩ <;> repeat' (first | exact EnvLe.nil | exact LocsLe.nil | refine EnvLe.cons _ _ _ ?_ ?_ | refine LocsLe.cons _ _ _ ?_ ?_ | exact CVle.same _ rfl | exact CVle.vec _ _ | exact CVle.nil | exact CVle.tok _ _ _ rfl rfl | exact ObLe.tok _ _ rfl | exact CVles.nil | refine CVles.cons ?_ ?_ | exact ObLe.same _ rfl rfl | refine ObLe.cells rfl ?_))
  rintro i K i1 hK
  have e5 : (sts ((is.take i).map It.name)).length = i := by rw [sts_len, List.length_map, List.length_take]; omega
  by_cases hi : i < is.length
  · obtain ⟨xk, xvk, xvn, xvt, xvl, xs, xc, xps, xn, -, hx, hsn⟩ := its_get hi
    have hK := hK (i + 1)
    rw [hsn, List.length_append] at hK
    conv => whnf
    repeat' (first | (refine ElemN.go ?_ (h := hx)) | (refine Need.ap1 ?_ (h1 := by simp only []; omega)) | refine OrdN.one ?_ | refine Fork.yp ?_ | refine Fork.np ?_ | refine Fork.ny ?_ | refine Fork.nn ?_ | refine Fork.yb ?_ | refine Fork.nb ?_ | refine Fork.dp (fun h => ?_) (fun h => ?_) | refine Fork.dn (fun h => ?_) (fun h => ?_) | (refine Fork.mk (fun h => ?_) (fun h => ?_) <;> simp only [decide_eq_true_eq, decide_eq_false_iff_not, Bool.not_eq_true', Bool.not_eq_false', Bool.or_eq_true, Bool.or_eq_false_iff] at h) | refine GetN.go ?_ | refine Need.ap1 ?_ | refine Need.ap0 ?_ | refine Need.go ?_ | refine Need.draw ?_ | refine ElemN.go ?_ | refine ExtN.ext ?_ | refine ExtN.wr ?_ | refine AllocN.go (fun l hl => ?_) | refine finGo ?_) <;> try (conv => whnf)
    refine hK _ _ (by omega) (by omega) ?_
    (refine ⟨rfl, ?_, ?_, Sub.refl _⟩ <;> repeat' (first | exact EnvLe.nil | exact LocsLe.nil | refine EnvLe.cons _ _ _ ?_ ?_ | refine LocsLe.cons _ _ _ ?_ ?_ | exact CVle.same _ rfl | exact CVle.vec _ _ | exact CVle.nil | exact CVle.tok _ _ _ rfl rfl | exact ObLe.tok _ _ rfl | exact CVles.nil | refine CVles.cons ?_ ?_ | exact ObLe.same _ rfl rfl | refine ObLe.cells rfl ?_))
  · rw [List.take_of_length_le (by omega)]
    conv => whnf
    repeat' (first | refine OrdN.one ?_ | refine Fork.yp ?_ | refine Fork.np ?_ | refine Fork.ny ?_ | refine Fork.nn ?_ | refine Fork.yb ?_ | refine Fork.nb ?_ | refine Fork.dp (fun h => ?_) (fun h => ?_) | refine Fork.dn (fun h => ?_) (fun h => ?_) | (refine Fork.mk (fun h => ?_) (fun h => ?_) <;> simp only [decide_eq_true_eq, decide_eq_false_iff_not, Bool.not_eq_true', Bool.not_eq_false', Bool.or_eq_true, Bool.or_eq_false_iff] at h) | refine GetN.go ?_ | refine Need.ap1 ?_ | refine Need.ap0 ?_ | refine Need.go ?_ | refine Need.draw ?_ | refine ElemN.go ?_ | refine ExtN.ext ?_ | refine ExtN.wr ?_ | refine AllocN.go (fun l hl => ?_) | refine finGo ?_) <;> try (conv => whnf)
    all_goals rfl
theorem last_at {q : List Cl} (h : 1 ≤ q.length) : (cls q)[(((cls q).length : Int) - 1).toNat]? = some (lastC q).cv ∧ lastC q ∈ q := by
  have hi : q.length - 1 < q.length := by omega
  have e : lastC q = q[q.length - 1] := by unfold lastC; rw [List.getD_eq_getElem?_getD, List.getElem?_eq_getElem hi]; rfl
  refine ⟨?_, by rw [e]; exact List.getElem_mem hi⟩
  have e2 : (((cls q).length : Int) - 1).toNat = q.length - 1 := by rw [cls_len]; omega
  rw [e2, cls_at (x := lastC q) (by rw [List.getElem?_eq_getElem hi, e])]
theorem iNames_c {σ : Heap} {q : List Cl} (h1 : 1 ≤ q.length) (h9 : q.length ≤ 100) (g : ∀ x ∈ q, ClG x) : CRun Tryz.prog 21 [.vec (cls q)] σ (· = .ret (.vec (sts (namesQ q))) σ) := by
  have e3 := cls_len q
  have c1 := iCheck_c (σ := σ) (q := q) (by omega) (fun c hc => (g c hc).t) (fun c hc hk => (clOk_sh hk).1)
  obtain ⟨l1, l2⟩ := last_at h1
  have c2 := columnsOf_c (σ := σ) (g _ l2).t
  unfold namesQ
  generalize lastC q = lc at *
  obtain ⟨k, ps, ⟨ek, ⟨vk, vn, vt, vl⟩, es, ec, ep⟩, n, is, di, os, sk, li, ts, ns, de⟩ := lc
  by_cases hk : checkN q = 0
  · rw [if_pos hk]
    rw [hk] at c1
    refine crun_of (X := X) X_ok X_sat (body := bodyOf Tryz.f21) Tryz.func21 rfl (by kernel_rfl) (by kernel_rfl) ?_
    rw [Tryz.ntmps21]
    conv => whnf
    repeat' (first | (refine CallN.one c1 ?_) | (refine CallN.one c2 ?_) | (refine ElemN.go ?_ (h := l1)) | refine OrdN.one ?_ | refine Fork.yp ?_ | refine Fork.np ?_ | refine Fork.ny ?_ | refine Fork.nn ?_ | refine Fork.yb ?_ | refine Fork.nb ?_ | refine Fork.dp (fun h => ?_) (fun h => ?_) | refine Fork.dn (fun h => ?_) (fun h => ?_) | (refine Fork.mk (fun h => ?_) (fun h => ?_) <;> simp only [decide_eq_true_eq, decide_eq_false_iff_not, Bool.not_eq_true', Bool.not_eq_false', Bool.or_eq_true, Bool.or_eq_false_iff] at h) | refine GetN.go ?_ | refine Need.ap1 ?_ | refine Need.ap0 ?_ | refine Need.go ?_ | refine Need.draw ?_ | refine ElemN.go ?_ | refine ExtN.ext ?_ | refine ExtN.wr ?_ | refine AllocN.go (fun l hl => ?_) | refine finGo ?_) <;> try (conv => whnf)
    all_goals rfl
  · rw [if_neg hk]
    refine crun_of (X := X) X_ok X_sat (body := bodyOf Tryz.f21) Tryz.func21 rfl (by kernel_rfl) (by kernel_rfl) ?_
    rw [Tryz.ntmps21]
    conv => whnf
    repeat' (first | (refine CallN.one c1 ?_) | refine OrdN.one ?_ | refine Fork.yp ?_ | refine Fork.np ?_ | refine Fork.ny ?_ | refine Fork.nn ?_ | refine Fork.yb ?_ | refine Fork.nb ?_ | refine Fork.dp (fun h => ?_) (fun h => ?_) | refine Fork.dn (fun h => ?_) (fun h => ?_) | (refine Fork.mk (fun h => ?_) (fun h => ?_) <;> simp only [decide_eq_true_eq, decide_eq_false_iff_not, Bool.not_eq_true', Bool.not_eq_false', Bool.or_eq_true, Bool.or_eq_false_iff] at h) | refine GetN.go ?_ | refine Need.ap1 ?_ | refine Need.ap0 ?_ | refine Need.go ?_ | refine Need.draw ?_ | refine ElemN.go ?_ | refine ExtN.ext ?_ | refine ExtN.wr ?_ | refine AllocN.go (fun l hl => ?_) | refine finGo ?_) <;> try (conv => whnf)
    all_goals rfl
theorem sNames_c {σ : Heap} {q : List Cl} (h1 : 1 ≤ q.length) (h9 : q.length ≤ 100) (g : ∀ x ∈ q, ClG x) : CRun Tryz.prog 22 [.vec (cls q)] σ (· = .ret (.vec (sts (namesQ q))) σ) := by
  have e3 := cls_len q
  have c1 := sCheck_c (σ := σ) (q := q) (by omega) (fun c hc => (g c hc).t) (fun c hc => (g c hc).o) (fun c hc hk => clOk_sh hk)
  obtain ⟨l1, l2⟩ := last_at h1
  have hs := (g _ l2).t.i
  unfold namesQ
  generalize lastC q = lc at *
  obtain ⟨k, ps, ⟨ek, ⟨vk, vn, vt, vl⟩, es, ec, ep⟩, n, is, di, os, sk, li, ts, ns, de⟩ := lc
  dsimp only at hs
  have e4 := its_len is
  by_cases hk : checkN q = 0
  case neg =>
    rw [if_neg hk]
    refine crun_of (X := X) X_ok X_sat (body := bodyOf Tryz.f22) Tryz.func22 rfl (by kernel_rfl) (by kernel_rfl) ?_
    rw [Tryz.ntmps22]
    conv => whnf
    repeat' (first | (refine CallN.one c1 ?_) | refine OrdN.one ?_ | refine Fork.yp ?_ | refine Fork.np ?_ | refine Fork.ny ?_ | refine Fork.nn ?_ | refine Fork.yb ?_ | refine Fork.nb ?_ | refine Fork.dp (fun h => ?_) (fun h => ?_) | refine Fork.dn (fun h => ?_) (fun h => ?_) | (refine Fork.mk (fun h => ?_) (fun h => ?_) <;> simp only [decide_eq_true_eq, decide_eq_false_iff_not, Bool.not_eq_true', Bool.not_eq_false', Bool.or_eq_true, Bool.or_eq_false_iff] at h) | refine GetN.go ?_ | refine Need.ap1 ?_ | refine Need.ap0 ?_ | refine Need.go ?_ | refine Need.draw ?_ | refine ElemN.go ?_ | refine ExtN.ext ?_ | refine ExtN.wr ?_ | refine AllocN.go (fun l hl => ?_) | refine finGo ?_) <;> try (conv => whnf)
    all_goals rfl
  rw [if_pos hk]
  rw [hk] at c1
  unfold namesC
  dsimp only
  refine crun_of (X := X) X_ok X_sat (body := bodyOf Tryz.f22) Tryz.func22 rfl (by kernel_rfl) (by kernel_rfl) ?_
  rw [Tryz.ntmps22]
  conv => whnf
  repeat' (first | (refine CallN.one c1 ?_) | (refine ElemN.go ?_ (h := l1)) | refine OrdN.one ?_ | refine Fork.yp ?_ | refine Fork.np ?_ | refine Fork.ny ?_ | refine Fork.nn ?_ | refine Fork.yb ?_ | refine Fork.nb ?_ | refine Fork.dp (fun h => ?_) (fun h => ?_) | refine Fork.dn (fun h => ?_) (fun h => ?_) | (refine Fork.mk (fun h => ?_) (fun h => ?_) <;> simp only [decide_eq_true_eq, decide_eq_false_iff_not, Bool.not_eq_true', Bool.not_eq_false', Bool.or_eq_true, Bool.or_eq_false_iff] at h) | refine GetN.go ?_ | refine Need.ap1 ?_ | refine Need.ap0 ?_ | refine Need.go ?_ | refine Need.draw ?_ | refine ElemN.go ?_ | refine ExtN.ext ?_ | refine ExtN.wr ?_ | refine AllocN.go (fun l hl => ?_) | refine finGo ?_) <;> try (conv => whnf)
  refine LoopN.rule (α := Nat) (fun i => ⟨34, [(3, .avec 6 (sts ((is.take i).map It.name))), (4, .ptr (.f 4) 0), (5, i64 i)], [(4, .cells (Cl.cells ⟨k, ps, ⟨ek, ⟨vk, vn, vt, vl⟩, es, ec, ep⟩, n, is, di, os, sk, li, ts, ns, de⟩)), (6, .tok 9 1 (sts ((is.take i).map It.name)).length)]⟩)
    (fun _ => σ) (fun i => is.length - i) (fun i => i ≤ is.length) ?_ 0 (by omega) ?_
  rotate_left
  · (refine ⟨rfl, ?_, ?_, Sub.refl _⟩ <;> repeat' (first | exact EnvLe.nil | exact LocsLe.nil | refine EnvLe.cons _ _ _ ?_ ?_ | refine LocsLe.cons _ _ _ ?_ ?_ | exact CVle.same _ rfl | exact CVle.vec _ _ | exact CVle.nil | exact CVle.tok _ _ _ rfl rfl | exact ObLe.tok _ _ rfl | exact CVles.nil | refine CVles.cons ?_ ?_ | exact ObLe.same _ rfl rfl | refine ObLe.cells rfl ?_))
  rintro i K i1 hK
  have e5 : (sts ((is.take i).map It.name)).length = i := by rw [sts_len, List.length_map, List.length_take]; omega
  by_cases hi : i < is.length
  · obtain ⟨xk, xvk, xvn, xvt, xvl, xs, xc, xps, xn, -, hx, hsn⟩ := its_get hi
    have hK := hK (i + 1)
    rw [hsn, List.length_append] at hK
    conv => whnf
    repeat' (first | (refine ElemN.go ?_ (h := hx)) | (refine Need.ap1 ?_ (h1 := by simp only []; omega)) | refine OrdN.one ?_ | refine Fork.yp ?_ | refine Fork.np ?_ | refine Fork.ny ?_ | refine Fork.nn ?_ | refine Fork.yb ?_ | refine Fork.nb ?_ | refine Fork.dp (fun h => ?_) (fun h => ?_) | refine Fork.dn (fun h => ?_) (fun h => ?_) | (refine Fork.mk (fun h => ?_) (fun h => ?_) <;> simp only [decide_eq_true_eq, decide_eq_false_iff_not, Bool.not_eq_true', Bool.not_eq_false', Bool.or_eq_true, Bool.or_eq_false_iff] at h) | refine GetN.go ?_ | refine Need.ap1 ?_ | refine Need.ap0 ?_ | refine Need.go ?_ | refine Need.draw ?_ | refine ElemN.go ?_ | refine ExtN.ext ?_ | refine ExtN.wr ?_ | refine AllocN.go (fun l hl => ?_) | refine finGo ?_) <;> try (conv => whnf)
    refine hK _ _ (by omega) (by omega) ?_
    (refine ⟨rfl, ?_, ?_, Sub.refl _⟩ <;> repeat' (first | exact EnvLe.nil | exact LocsLe.nil | refine EnvLe.cons _ _ _ ?_ ?_ | refine LocsLe.cons _ _ _ ?_ ?_ | exact CVle.same _ rfl | exact CVle.vec _ _ | exact CVle.nil | exact CVle.tok _ _ _ rfl rfl | exact ObLe.tok _ _ rfl | exact CVles.nil | refine CVles.cons ?_ ?_ | exact ObLe.same _ rfl rfl | refine ObLe.cells rfl ?_))
  · rw [List.take_of_length_le (by omega)]
    conv => whnf
    repeat' (first | refine OrdN.one ?_ | refine Fork.yp ?_ | refine Fork.np ?_ | refine Fork.ny ?_ | refine Fork.nn ?_ | refine Fork.yb ?_ | refine Fork.nb ?_ | refine Fork.dp (fun h => ?_) (fun h => ?_) | refine Fork.dn (fun h => ?_) (fun h => ?_) | (refine Fork.mk (fun h => ?_) (fun h => ?_) <;> simp only [decide_eq_true_eq, decide_eq_false_iff_not, Bool.not_eq_true', Bool.not_eq_false', Bool.or_eq_true, Bool.or_eq_false_iff] at h) | refine GetN.go ?_ | refine Need.ap1 ?_ | refine Need.ap0 ?_ | refine Need.go ?_ | refine Need.draw ?_ | refine ElemN.go ?_ | refine ExtN.ext ?_ | refine ExtN.wr ?_ | refine AllocN.go (fun l hl => ?_) | refine finGo ?_) <;> try (conv => whnf)
    all_goals rfl
theorem sts_get {l : List ByteArray} {i : Nat} (hi : i < l.length) : ∃ x, l[i]? = some x ∧ (sts l)[i]? = some (.sc (.string x)) := ⟨l[i], List.getElem?_eq_getElem hi, by unfold sts; rw [List.getElem?_map, List.getElem?_eq_getElem hi]; rfl⟩
theorem asText_c {σ : Heap} {a b : List ByteArray} (ha : a.length ≤ 1000) (hb : b.length ≤ 1000) : CRun Tryz.prog 12 [.vec (sts a), .vec (sts b)] σ (· = .ret (.sc (.bool (decide (a = b)))) σ) := by
  have ea := sts_len a
  have eb := sts_len b
  refine crun_of (X := X) X_ok X_sat (body := bodyOf Tryz.f12) Tryz.func12 rfl (by kernel_rfl) (by kernel_rfl) ?_
  rw [Tryz.ntmps12]
  by_cases hl : a.length = b.length
  case neg =>
    conv => whnf
    repeat' (first | refine OrdN.one ?_ | refine Fork.yp ?_ | refine Fork.np ?_ | refine Fork.ny ?_ | refine Fork.nn ?_ | refine Fork.yb ?_ | refine Fork.nb ?_ | refine Fork.dp (fun h => ?_) (fun h => ?_) | refine Fork.dn (fun h => ?_) (fun h => ?_) | (refine Fork.mk (fun h => ?_) (fun h => ?_) <;> simp only [decide_eq_true_eq, decide_eq_false_iff_not, Bool.not_eq_true', Bool.not_eq_false', Bool.or_eq_true, Bool.or_eq_false_iff] at h) | refine GetN.go ?_ | refine Need.ap1 ?_ | refine Need.ap0 ?_ | refine Need.go ?_ | refine Need.draw ?_ | refine ElemN.go ?_ | refine ExtN.ext ?_ | refine ExtN.wr ?_ | refine AllocN.go (fun l hl => ?_) | refine finGo ?_) <;> try (conv => whnf)
    all_goals exact ansB (decide_eq_false fun e => hl (by rw [e]))
  conv => whnf
  repeat' (first | refine OrdN.one ?_ | refine Fork.yp ?_ | refine Fork.np ?_ | refine Fork.ny ?_ | refine Fork.nn ?_ | refine Fork.yb ?_ | refine Fork.nb ?_ | refine Fork.dp (fun h => ?_) (fun h => ?_) | refine Fork.dn (fun h => ?_) (fun h => ?_) | (refine Fork.mk (fun h => ?_) (fun h => ?_) <;> simp only [decide_eq_true_eq, decide_eq_false_iff_not, Bool.not_eq_true', Bool.not_eq_false', Bool.or_eq_true, Bool.or_eq_false_iff] at h) | refine GetN.go ?_ | refine Need.ap1 ?_ | refine Need.ap0 ?_ | refine Need.go ?_ | refine Need.draw ?_ | refine ElemN.go ?_ | refine ExtN.ext ?_ | refine ExtN.wr ?_ | refine AllocN.go (fun l hl => ?_) | refine finGo ?_) <;> try (conv => whnf)
  refine LoopN.rule (α := Nat) (fun i => ⟨26, [(0, .vec (sts a)), (1, .vec (sts b)), (4, .sc (.bool false)), (5, i64 i)], []⟩)
    (fun _ => σ) (fun i => a.length - i) (fun i => i ≤ a.length ∧ a.take i = b.take i) ?_ 0 ⟨by omega, by simp⟩ ?_
  rotate_left
  · (refine ⟨rfl, ?_, ?_, Sub.refl _⟩ <;> repeat' (first | exact EnvLe.nil | exact LocsLe.nil | refine EnvLe.cons _ _ _ ?_ ?_ | refine LocsLe.cons _ _ _ ?_ ?_ | exact CVle.same _ rfl | exact CVle.vec _ _ | exact CVle.nil | exact CVle.tok _ _ _ rfl rfl | exact ObLe.tok _ _ rfl | exact CVles.nil | refine CVles.cons ?_ ?_ | exact ObLe.same _ rfl rfl | refine ObLe.cells rfl ?_))
  rintro i K ⟨h1, h2⟩ hK
  dsimp only at h1 h2 ⊢
  by_cases hi : i < a.length
  · obtain ⟨x, hg, hg'⟩ := sts_get hi
    obtain ⟨y, kg, kg'⟩ := sts_get (l := b) (i := i) (by omega)
    by_cases hxy : x = y
    · conv => whnf
      repeat' (first | refine OrdN.one ?_ | refine Fork.yp ?_ | refine Fork.np ?_ | refine Fork.ny ?_ | refine Fork.nn ?_ | refine Fork.yb ?_ | refine Fork.nb ?_ | refine Fork.dp (fun h => ?_) (fun h => ?_) | refine Fork.dn (fun h => ?_) (fun h => ?_) | (refine Fork.mk (fun h => ?_) (fun h => ?_) <;> simp only [decide_eq_true_eq, decide_eq_false_iff_not, Bool.not_eq_true', Bool.not_eq_false', Bool.or_eq_true, Bool.or_eq_false_iff] at h) | refine GetN.go ?_ | refine Need.ap1 ?_ | refine Need.ap0 ?_ | refine Need.go ?_ | refine Need.draw ?_ | refine ElemN.go ?_ | refine ExtN.ext ?_ | refine ExtN.wr ?_ | refine AllocN.go (fun l hl => ?_) | refine finGo ?_) <;> try (conv => whnf)
      refine hK (i + 1) _ _ ⟨by omega, ?_⟩ (by omega) ?_
      · rw [List.take_add_one, List.take_add_one, h2, hg, kg, hxy]
      (refine ⟨rfl, ?_, ?_, Sub.refl _⟩ <;> repeat' (first | exact EnvLe.nil | exact LocsLe.nil | refine EnvLe.cons _ _ _ ?_ ?_ | refine LocsLe.cons _ _ _ ?_ ?_ | exact CVle.same _ rfl | exact CVle.vec _ _ | exact CVle.nil | exact CVle.tok _ _ _ rfl rfl | exact ObLe.tok _ _ rfl | exact CVles.nil | refine CVles.cons ?_ ?_ | exact ObLe.same _ rfl rfl | refine ObLe.cells rfl ?_))
    · conv => whnf
      repeat' (first | refine OrdN.one ?_ | refine Fork.yp ?_ | refine Fork.np ?_ | refine Fork.ny ?_ | refine Fork.nn ?_ | refine Fork.yb ?_ | refine Fork.nb ?_ | refine Fork.dp (fun h => ?_) (fun h => ?_) | refine Fork.dn (fun h => ?_) (fun h => ?_) | (refine Fork.mk (fun h => ?_) (fun h => ?_) <;> simp only [decide_eq_true_eq, decide_eq_false_iff_not, Bool.not_eq_true', Bool.not_eq_false', Bool.or_eq_true, Bool.or_eq_false_iff] at h) | refine GetN.go ?_ | refine Need.ap1 ?_ | refine Need.ap0 ?_ | refine Need.go ?_ | refine Need.draw ?_ | refine ElemN.go ?_ | refine ExtN.ext ?_ | refine ExtN.wr ?_ | refine AllocN.go (fun l hl => ?_) | refine finGo ?_) <;> try (conv => whnf)
      all_goals exact ansB (decide_eq_false fun e => hxy (by rw [e, kg] at hg; cases hg; rfl))
  · rw [List.take_of_length_le (by omega), List.take_of_length_le (by omega)] at h2
    conv => whnf
    repeat' (first | refine OrdN.one ?_ | refine Fork.yp ?_ | refine Fork.np ?_ | refine Fork.ny ?_ | refine Fork.nn ?_ | refine Fork.yb ?_ | refine Fork.nb ?_ | refine Fork.dp (fun h => ?_) (fun h => ?_) | refine Fork.dn (fun h => ?_) (fun h => ?_) | (refine Fork.mk (fun h => ?_) (fun h => ?_) <;> simp only [decide_eq_true_eq, decide_eq_false_iff_not, Bool.not_eq_true', Bool.not_eq_false', Bool.or_eq_true, Bool.or_eq_false_iff] at h) | refine GetN.go ?_ | refine Need.ap1 ?_ | refine Need.ap0 ?_ | refine Need.go ?_ | refine Need.draw ?_ | refine ElemN.go ?_ | refine ExtN.ext ?_ | refine ExtN.wr ?_ | refine AllocN.go (fun l hl => ?_) | refine finGo ?_) <;> try (conv => whnf)
    all_goals exact ansB (decide_eq_true h2)
def wrC (c : Cl) : Bool := wrK c.kind
def writesQ (q : List Cl) : Bool := decide (checkN q = 0) && q.any wrC
theorem writesIn1_c {σ : Heap} {c : Cl} : CRun Tryz.prog 137 [c.cv] σ (· = .ret (.sc (.bool (wrC c))) σ) := by
  obtain ⟨k, ps, ⟨ek, ⟨vk, vn, vt, vl⟩, es, ec, ep⟩, n, is, di, os, sk, li, ts, ns, de⟩ := c
  have c1 := writes_c (σ := σ) (k := k)
  unfold wrC
  dsimp only
  cases hk : wrK k <;> rw [hk] at c1
  all_goals
    refine crun_of (X := X) X_ok X_sat (body := bodyOf Tryz.f137) Tryz.func137 rfl (by kernel_rfl) (by kernel_rfl) ?_
    rw [Tryz.ntmps137]
    conv => whnf
    repeat' (first | (refine CallN.one c1 ?_) | refine OrdN.one ?_ | refine Fork.yp ?_ | refine Fork.np ?_ | refine Fork.ny ?_ | refine Fork.nn ?_ | refine Fork.yb ?_ | refine Fork.nb ?_ | refine Fork.dp (fun h => ?_) (fun h => ?_) | refine Fork.dn (fun h => ?_) (fun h => ?_) | (refine Fork.mk (fun h => ?_) (fun h => ?_) <;> simp only [decide_eq_true_eq, decide_eq_false_iff_not, Bool.not_eq_true', Bool.not_eq_false', Bool.or_eq_true, Bool.or_eq_false_iff] at h) | refine GetN.go ?_ | refine Need.ap1 ?_ | refine Need.ap0 ?_ | refine Need.go ?_ | refine Need.draw ?_ | refine ElemN.go ?_ | refine ExtN.ext ?_ | refine ExtN.wr ?_ | refine AllocN.go (fun l hl => ?_) | refine finGo ?_) <;> try (conv => whnf)
    all_goals rfl
theorem cls_get {q : List Cl} {i : Nat} (hi : i < q.length) : ∃ c, q[i]? = some c ∧ c ∈ q ∧ (cls q)[i]? = some c.cv := ⟨q[i], List.getElem?_eq_getElem hi, List.getElem_mem hi, cls_at (List.getElem?_eq_getElem hi)⟩
theorem any_take {α : Type} {l : List α} {f : α → Bool} {i : Nat} {x : α} (h : l[i]? = some x) (h0 : (l.take i).any f = false) (hx : f x = false) : (l.take (i + 1)).any f = false := by
  rw [List.take_add_one, h, List.any_append, h0]; simp [hx]
theorem any_hit {α : Type} {l : List α} {f : α → Bool} {i : Nat} {x : α} (h : l[i]? = some x) (hx : f x = true) : l.any f = true := List.any_eq_true.2 ⟨x, List.mem_of_getElem? h, hx⟩
theorem index_c {σ : Heap} {q : List Cl} (h9 : q.length ≤ 100) : CRun Tryz.prog 201 [.vec (cls q), .fn (.func 137) [] []] σ (fun out => ∃ k : Int, ((0 ≤ k ∧ q.any wrC = true) ∨ (k < 0 ∧ q.any wrC = false)) ∧ out = .ret (i64 k) σ) := by
  have e3 := cls_len q
  refine crun_of (X := X) X_ok X_sat (body := bodyOf Tryz.f201) Tryz.func201 rfl (by kernel_rfl) (by kernel_rfl) ?_
  rw [Tryz.ntmps201]
  conv => whnf
  repeat' (first | refine OrdN.one ?_ | refine Fork.yp ?_ | refine Fork.np ?_ | refine Fork.ny ?_ | refine Fork.nn ?_ | refine Fork.yb ?_ | refine Fork.nb ?_ | refine Fork.dp (fun h => ?_) (fun h => ?_) | refine Fork.dn (fun h => ?_) (fun h => ?_) | (refine Fork.mk (fun h => ?_) (fun h => ?_) <;> simp only [decide_eq_true_eq, decide_eq_false_iff_not, Bool.not_eq_true', Bool.not_eq_false', Bool.or_eq_true, Bool.or_eq_false_iff] at h) | refine GetN.go ?_ | refine Need.ap1 ?_ | refine Need.ap0 ?_ | refine Need.go ?_ | refine Need.draw ?_ | refine ElemN.go ?_ | refine ExtN.ext ?_ | refine ExtN.wr ?_ | refine AllocN.go (fun l hl => ?_) | refine finGo ?_) <;> try (conv => whnf)
  refine LoopN.rule (α := Nat) (fun i => ⟨19, [(0, .vec (cls q)), (1, .fn (.func 137) [] []), (4, i64 0), (7, i64 (cls q).length), (8, i64 i)], []⟩)
    (fun _ => σ) (fun i => q.length - i) (fun i => i ≤ q.length ∧ (q.take i).any wrC = false) ?_ 0 ⟨by omega, by simp⟩ ?_
  rotate_left
  · (refine ⟨rfl, ?_, ?_, Sub.refl _⟩ <;> repeat' (first | exact EnvLe.nil | exact LocsLe.nil | refine EnvLe.cons _ _ _ ?_ ?_ | refine LocsLe.cons _ _ _ ?_ ?_ | exact CVle.same _ rfl | exact CVle.vec _ _ | exact CVle.nil | exact CVle.tok _ _ _ rfl rfl | exact ObLe.tok _ _ rfl | exact CVles.nil | refine CVles.cons ?_ ?_ | exact ObLe.same _ rfl rfl | refine ObLe.cells rfl ?_))
  rintro i K ⟨i1, i2⟩ hK
  by_cases hi : i < q.length
  · obtain ⟨c, hc, -, hx⟩ := cls_get hi
    have c1 := writesIn1_c (σ := σ) (c := c)
    cases hw : wrC c
    · rw [hw] at c1
      have i3 := any_take hc i2 hw
      clear hw hc i2
      obtain ⟨k, ps, ⟨ek, ⟨vk, vn, vt, vl⟩, es, ec, ep⟩, n, is, di, os, sk, li, ts, ns, de⟩ := c
      conv => whnf
      repeat' (first | (refine CallN.one c1 ?_) | (refine ElemN.go ?_ (h := hx)) | refine OrdN.one ?_ | refine Fork.yp ?_ | refine Fork.np ?_ | refine Fork.ny ?_ | refine Fork.nn ?_ | refine Fork.yb ?_ | refine Fork.nb ?_ | refine Fork.dp (fun h => ?_) (fun h => ?_) | refine Fork.dn (fun h => ?_) (fun h => ?_) | (refine Fork.mk (fun h => ?_) (fun h => ?_) <;> simp only [decide_eq_true_eq, decide_eq_false_iff_not, Bool.not_eq_true', Bool.not_eq_false', Bool.or_eq_true, Bool.or_eq_false_iff] at h) | refine GetN.go ?_ | refine Need.ap1 ?_ | refine Need.ap0 ?_ | refine Need.go ?_ | refine Need.draw ?_ | refine ElemN.go ?_ | refine ExtN.ext ?_ | refine ExtN.wr ?_ | refine AllocN.go (fun l hl => ?_) | refine finGo ?_) <;> try (conv => whnf)
      refine hK (i + 1) _ _ ⟨by omega, i3⟩ (by omega) ?_
      (refine ⟨rfl, ?_, ?_, Sub.refl _⟩ <;> repeat' (first | exact EnvLe.nil | exact LocsLe.nil | refine EnvLe.cons _ _ _ ?_ ?_ | refine LocsLe.cons _ _ _ ?_ ?_ | exact CVle.same _ rfl | exact CVle.vec _ _ | exact CVle.nil | exact CVle.tok _ _ _ rfl rfl | exact ObLe.tok _ _ rfl | exact CVles.nil | refine CVles.cons ?_ ?_ | exact ObLe.same _ rfl rfl | refine ObLe.cells rfl ?_))
    · rw [hw] at c1
      have i3 := any_hit hc hw
      clear hw hc i2
      obtain ⟨k, ps, ⟨ek, ⟨vk, vn, vt, vl⟩, es, ec, ep⟩, n, is, di, os, sk, li, ts, ns, de⟩ := c
      conv => whnf
      repeat' (first | (refine CallN.one c1 ?_) | (refine ElemN.go ?_ (h := hx)) | refine OrdN.one ?_ | refine Fork.yp ?_ | refine Fork.np ?_ | refine Fork.ny ?_ | refine Fork.nn ?_ | refine Fork.yb ?_ | refine Fork.nb ?_ | refine Fork.dp (fun h => ?_) (fun h => ?_) | refine Fork.dn (fun h => ?_) (fun h => ?_) | (refine Fork.mk (fun h => ?_) (fun h => ?_) <;> simp only [decide_eq_true_eq, decide_eq_false_iff_not, Bool.not_eq_true', Bool.not_eq_false', Bool.or_eq_true, Bool.or_eq_false_iff] at h) | refine GetN.go ?_ | refine Need.ap1 ?_ | refine Need.ap0 ?_ | refine Need.go ?_ | refine Need.draw ?_ | refine ElemN.go ?_ | refine ExtN.ext ?_ | refine ExtN.wr ?_ | refine AllocN.go (fun l hl => ?_) | refine finGo ?_) <;> try (conv => whnf)
      all_goals exact ⟨_, .inl ⟨by omega, i3⟩, rfl⟩
  · rw [List.take_of_length_le (by omega)] at i2
    conv => whnf
    repeat' (first | refine OrdN.one ?_ | refine Fork.yp ?_ | refine Fork.np ?_ | refine Fork.ny ?_ | refine Fork.nn ?_ | refine Fork.yb ?_ | refine Fork.nb ?_ | refine Fork.dp (fun h => ?_) (fun h => ?_) | refine Fork.dn (fun h => ?_) (fun h => ?_) | (refine Fork.mk (fun h => ?_) (fun h => ?_) <;> simp only [decide_eq_true_eq, decide_eq_false_iff_not, Bool.not_eq_true', Bool.not_eq_false', Bool.or_eq_true, Bool.or_eq_false_iff] at h) | refine GetN.go ?_ | refine Need.ap1 ?_ | refine Need.ap0 ?_ | refine Need.go ?_ | refine Need.draw ?_ | refine ElemN.go ?_ | refine ExtN.ext ?_ | refine ExtN.wr ?_ | refine AllocN.go (fun l hl => ?_) | refine finGo ?_) <;> try (conv => whnf)
    all_goals exact ⟨_, .inr ⟨by omega, i2⟩, rfl⟩
theorem contains_c {σ : Heap} {q : List Cl} (h9 : q.length ≤ 100) : CRun Tryz.prog 136 [.vec (cls q), .fn (.func 137) [] []] σ (· = .ret (.sc (.bool (q.any wrC))) σ) := by
  refine crun_of (X := X) X_ok X_sat (body := bodyOf Tryz.f136) Tryz.func136 rfl (by kernel_rfl) (by kernel_rfl) ?_
  rw [Tryz.ntmps136]
  conv => whnf
  repeat' (first | ((refine CallN.many (index_c h9) ?_; rintro _ ⟨k, (⟨hk, hw⟩ | ⟨hk, hw⟩), rfl⟩)) | refine OrdN.go ?_ | refine Fork.yp ?_ | refine Fork.np ?_ | refine Fork.ny ?_ | refine Fork.nn ?_ | refine Fork.yb ?_ | refine Fork.nb ?_ | refine Fork.dp (fun h => ?_) (fun h => ?_) | refine Fork.dn (fun h => ?_) (fun h => ?_) | (refine Fork.mk (fun h => ?_) (fun h => ?_) <;> simp only [decide_eq_true_eq, decide_eq_false_iff_not, Bool.not_eq_true', Bool.not_eq_false', Bool.or_eq_true, Bool.or_eq_false_iff] at h) | refine GetN.go ?_ | refine Need.ap1 ?_ | refine Need.ap0 ?_ | refine Need.go ?_ | refine Need.draw ?_ | refine ElemN.go ?_ | refine ExtN.ext ?_ | refine ExtN.wr ?_ | refine AllocN.go (fun l hl => ?_) | refine finGo ?_) <;> try (conv => whnf)
  all_goals first
    | (exfalso; omega)
    | exact ansB hw.symm
    | exact ansB hw
theorem writesIn_c {σ : Heap} {q : List Cl} (h9 : q.length ≤ 100) : CRun Tryz.prog 59 [.vec (cls q)] σ (· = .ret (.sc (.bool (q.any wrC))) σ) := by
  have c1 := contains_c (σ := σ) h9
  cases hw : q.any wrC <;> rw [hw] at c1
  all_goals
    refine crun_of (X := X) X_ok X_sat (body := bodyOf Tryz.f59) Tryz.func59 rfl (by kernel_rfl) (by kernel_rfl) ?_
    rw [Tryz.ntmps59]
    conv => whnf
    repeat' (first | (refine CallN.one c1 ?_) | refine OrdN.one ?_ | refine Fork.yp ?_ | refine Fork.np ?_ | refine Fork.ny ?_ | refine Fork.nn ?_ | refine Fork.yb ?_ | refine Fork.nb ?_ | refine Fork.dp (fun h => ?_) (fun h => ?_) | refine Fork.dn (fun h => ?_) (fun h => ?_) | (refine Fork.mk (fun h => ?_) (fun h => ?_) <;> simp only [decide_eq_true_eq, decide_eq_false_iff_not, Bool.not_eq_true', Bool.not_eq_false', Bool.or_eq_true, Bool.or_eq_false_iff] at h) | refine GetN.go ?_ | refine Need.ap1 ?_ | refine Need.ap0 ?_ | refine Need.go ?_ | refine Need.draw ?_ | refine ElemN.go ?_ | refine ExtN.ext ?_ | refine ExtN.wr ?_ | refine AllocN.go (fun l hl => ?_) | refine finGo ?_) <;> try (conv => whnf)
    all_goals rfl
theorem iWrites_c {σ : Heap} {q : List Cl} (h9 : q.length ≤ 100) (g : ∀ x ∈ q, ClG x) : CRun Tryz.prog 25 [.vec (cls q)] σ (· = .ret (.sc (.bool (writesQ q))) σ) := by
  have c1 := iCheck_c (σ := σ) (q := q) (by omega) (fun c hc => (g c hc).t) (fun c hc hk => (clOk_sh hk).1)
  have c2 := writesIn_c (σ := σ) h9
  unfold writesQ
  by_cases hk : checkN q = 0
  · rw [hk] at c1
    rw [decide_eq_true hk, Bool.true_and]
    cases hw : q.any wrC <;> rw [hw] at c2
    all_goals
      refine crun_of (X := X) X_ok X_sat (body := bodyOf Tryz.f25) Tryz.func25 rfl (by kernel_rfl) (by kernel_rfl) ?_
      rw [Tryz.ntmps25]
      conv => whnf
      repeat' (first | (refine CallN.one c1 ?_) | (refine CallN.one c2 ?_) | refine OrdN.one ?_ | refine Fork.yp ?_ | refine Fork.np ?_ | refine Fork.ny ?_ | refine Fork.nn ?_ | refine Fork.yb ?_ | refine Fork.nb ?_ | refine Fork.dp (fun h => ?_) (fun h => ?_) | refine Fork.dn (fun h => ?_) (fun h => ?_) | (refine Fork.mk (fun h => ?_) (fun h => ?_) <;> simp only [decide_eq_true_eq, decide_eq_false_iff_not, Bool.not_eq_true', Bool.not_eq_false', Bool.or_eq_true, Bool.or_eq_false_iff] at h) | refine GetN.go ?_ | refine Need.ap1 ?_ | refine Need.ap0 ?_ | refine Need.go ?_ | refine Need.draw ?_ | refine ElemN.go ?_ | refine ExtN.ext ?_ | refine ExtN.wr ?_ | refine AllocN.go (fun l hl => ?_) | refine finGo ?_) <;> try (conv => whnf)
      all_goals rfl
  · rw [decide_eq_false hk, Bool.false_and]
    refine crun_of (X := X) X_ok X_sat (body := bodyOf Tryz.f25) Tryz.func25 rfl (by kernel_rfl) (by kernel_rfl) ?_
    rw [Tryz.ntmps25]
    conv => whnf
    repeat' (first | (refine CallN.one c1 ?_) | refine OrdN.one ?_ | refine Fork.yp ?_ | refine Fork.np ?_ | refine Fork.ny ?_ | refine Fork.nn ?_ | refine Fork.yb ?_ | refine Fork.nb ?_ | refine Fork.dp (fun h => ?_) (fun h => ?_) | refine Fork.dn (fun h => ?_) (fun h => ?_) | (refine Fork.mk (fun h => ?_) (fun h => ?_) <;> simp only [decide_eq_true_eq, decide_eq_false_iff_not, Bool.not_eq_true', Bool.not_eq_false', Bool.or_eq_true, Bool.or_eq_false_iff] at h) | refine GetN.go ?_ | refine Need.ap1 ?_ | refine Need.ap0 ?_ | refine Need.go ?_ | refine Need.draw ?_ | refine ElemN.go ?_ | refine ExtN.ext ?_ | refine ExtN.wr ?_ | refine AllocN.go (fun l hl => ?_) | refine finGo ?_) <;> try (conv => whnf)
    all_goals rfl
theorem sWrites_c {σ : Heap} {q : List Cl} (h9 : q.length ≤ 100) (g : ∀ x ∈ q, ClG x) : CRun Tryz.prog 26 [.vec (cls q)] σ (· = .ret (.sc (.bool (writesQ q))) σ) := by
  have e3 := cls_len q
  have c1 := sCheck_c (σ := σ) (q := q) (by omega) (fun c hc => (g c hc).t) (fun c hc => (g c hc).o) (fun c hc hk => clOk_sh hk)
  have hE : writesQ q = (decide (checkN q = 0) && q.any wrC) := rfl
  generalize writesQ q = w at hE ⊢
  by_cases hk : checkN q = 0
  case neg =>
    rw [decide_eq_false hk, Bool.false_and] at hE
    subst hE
    refine crun_of (X := X) X_ok X_sat (body := bodyOf Tryz.f26) Tryz.func26 rfl (by kernel_rfl) (by kernel_rfl) ?_
    rw [Tryz.ntmps26]
    conv => whnf
    repeat' (first | refine OrdN.one ?_ | refine Fork.yp ?_ | refine Fork.np ?_ | refine Fork.ny ?_ | refine Fork.nn ?_ | refine Fork.yb ?_ | refine Fork.nb ?_ | refine Fork.dp (fun h => ?_) (fun h => ?_) | refine Fork.dn (fun h => ?_) (fun h => ?_) | (refine Fork.mk (fun h => ?_) (fun h => ?_) <;> simp only [decide_eq_true_eq, decide_eq_false_iff_not, Bool.not_eq_true', Bool.not_eq_false', Bool.or_eq_true, Bool.or_eq_false_iff] at h) | refine GetN.go ?_ | refine Need.ap1 ?_ | refine Need.ap0 ?_ | refine Need.go ?_ | refine Need.draw ?_ | refine ElemN.go ?_ | refine ExtN.ext ?_ | refine ExtN.wr ?_ | refine AllocN.go (fun l hl => ?_) | refine finGo ?_) <;> try (conv => whnf)
    refine LoopN.rule (α := Unit) (fun _ => ⟨21, [(0, .vec (cls q)), (2, .sc (.bool false)), (3, i64 0)], []⟩) (fun _ => σ) (fun _ => 0) (fun _ => True) ?_ () trivial ?_
    rotate_left
    · (refine ⟨rfl, ?_, ?_, Sub.refl _⟩ <;> repeat' (first | exact EnvLe.nil | exact LocsLe.nil | refine EnvLe.cons _ _ _ ?_ ?_ | refine LocsLe.cons _ _ _ ?_ ?_ | exact CVle.same _ rfl | exact CVle.vec _ _ | exact CVle.nil | exact CVle.tok _ _ _ rfl rfl | exact ObLe.tok _ _ rfl | exact CVles.nil | refine CVles.cons ?_ ?_ | exact ObLe.same _ rfl rfl | refine ObLe.cells rfl ?_))
    rintro _ K _ hK
    by_cases h0 : q.length = 0
    · conv => whnf
      repeat' (first | refine OrdN.one ?_ | refine Fork.yp ?_ | refine Fork.np ?_ | refine Fork.ny ?_ | refine Fork.nn ?_ | refine Fork.yb ?_ | refine Fork.nb ?_ | refine Fork.dp (fun h => ?_) (fun h => ?_) | refine Fork.dn (fun h => ?_) (fun h => ?_) | (refine Fork.mk (fun h => ?_) (fun h => ?_) <;> simp only [decide_eq_true_eq, decide_eq_false_iff_not, Bool.not_eq_true', Bool.not_eq_false', Bool.or_eq_true, Bool.or_eq_false_iff] at h) | refine GetN.go ?_ | refine Need.ap1 ?_ | refine Need.ap0 ?_ | refine Need.go ?_ | refine Need.draw ?_ | refine ElemN.go ?_ | refine ExtN.ext ?_ | refine ExtN.wr ?_ | refine AllocN.go (fun l hl => ?_) | refine finGo ?_) <;> try (conv => whnf)
      all_goals rfl
    · conv => whnf
      repeat' (first | (refine CallN.one c1 ?_) | refine OrdN.one ?_ | refine Fork.yp ?_ | refine Fork.np ?_ | refine Fork.ny ?_ | refine Fork.nn ?_ | refine Fork.yb ?_ | refine Fork.nb ?_ | refine Fork.dp (fun h => ?_) (fun h => ?_) | refine Fork.dn (fun h => ?_) (fun h => ?_) | (refine Fork.mk (fun h => ?_) (fun h => ?_) <;> simp only [decide_eq_true_eq, decide_eq_false_iff_not, Bool.not_eq_true', Bool.not_eq_false', Bool.or_eq_true, Bool.or_eq_false_iff] at h) | refine GetN.go ?_ | refine Need.ap1 ?_ | refine Need.ap0 ?_ | refine Need.go ?_ | refine Need.draw ?_ | refine ElemN.go ?_ | refine ExtN.ext ?_ | refine ExtN.wr ?_ | refine AllocN.go (fun l hl => ?_) | refine finGo ?_) <;> try (conv => whnf)
      all_goals rfl
  rw [decide_eq_true hk, Bool.true_and] at hE
  rw [hk] at c1
  refine crun_of (X := X) X_ok X_sat (body := bodyOf Tryz.f26) Tryz.func26 rfl (by kernel_rfl) (by kernel_rfl) ?_
  rw [Tryz.ntmps26]
  conv => whnf
  repeat' (first | refine OrdN.one ?_ | refine Fork.yp ?_ | refine Fork.np ?_ | refine Fork.ny ?_ | refine Fork.nn ?_ | refine Fork.yb ?_ | refine Fork.nb ?_ | refine Fork.dp (fun h => ?_) (fun h => ?_) | refine Fork.dn (fun h => ?_) (fun h => ?_) | (refine Fork.mk (fun h => ?_) (fun h => ?_) <;> simp only [decide_eq_true_eq, decide_eq_false_iff_not, Bool.not_eq_true', Bool.not_eq_false', Bool.or_eq_true, Bool.or_eq_false_iff] at h) | refine GetN.go ?_ | refine Need.ap1 ?_ | refine Need.ap0 ?_ | refine Need.go ?_ | refine Need.draw ?_ | refine ElemN.go ?_ | refine ExtN.ext ?_ | refine ExtN.wr ?_ | refine AllocN.go (fun l hl => ?_) | refine finGo ?_) <;> try (conv => whnf)
  refine LoopN.rule (α := Nat) (fun i => ⟨21, [(0, .vec (cls q)), (2, .sc (.bool false)), (3, i64 i)], []⟩)
    (fun _ => σ) (fun i => q.length - i) (fun i => i ≤ q.length ∧ (q.take i).any wrC = false) ?_ 0 ⟨by omega, by simp⟩ ?_
  rotate_left
  · (refine ⟨rfl, ?_, ?_, Sub.refl _⟩ <;> repeat' (first | exact EnvLe.nil | exact LocsLe.nil | refine EnvLe.cons _ _ _ ?_ ?_ | refine LocsLe.cons _ _ _ ?_ ?_ | exact CVle.same _ rfl | exact CVle.vec _ _ | exact CVle.nil | exact CVle.tok _ _ _ rfl rfl | exact ObLe.tok _ _ rfl | exact CVles.nil | refine CVles.cons ?_ ?_ | exact ObLe.same _ rfl rfl | refine ObLe.cells rfl ?_))
  rintro i K ⟨i1, i2⟩ hK
  by_cases hi : i < q.length
  · obtain ⟨c, hc, -, hx⟩ := cls_get hi
    have hwr : wrC c = decide (7 ≤ c.kind ∧ c.kind ≤ 9) := by
      unfold wrC wrK
      by_cases h : 7 ≤ c.kind ∧ c.kind ≤ 9
      · rw [decide_eq_true h, decide_eq_true (by omega)]
      · rw [decide_eq_false h, decide_eq_false (by omega)]
    have c2 := in_c (σ := σ) (n := c.kind) (lo := 7) (hi := 9)
    rw [← hwr] at c2
    cases hw : wrC c
    · rw [hw] at c2
      have i3 := any_take hc i2 hw
      clear hwr hw hc i2
      obtain ⟨k, ps, ⟨ek, ⟨vk, vn, vt, vl⟩, es, ec, ep⟩, n, is, di, os, sk, li, ts, ns, de⟩ := c
      conv => whnf
      repeat' (first | (refine CallN.one c1 ?_) | (refine CallN.one c2 ?_) | (refine ElemN.go ?_ (h := hx)) | refine OrdN.one ?_ | refine Fork.yp ?_ | refine Fork.np ?_ | refine Fork.ny ?_ | refine Fork.nn ?_ | refine Fork.yb ?_ | refine Fork.nb ?_ | refine Fork.dp (fun h => ?_) (fun h => ?_) | refine Fork.dn (fun h => ?_) (fun h => ?_) | (refine Fork.mk (fun h => ?_) (fun h => ?_) <;> simp only [decide_eq_true_eq, decide_eq_false_iff_not, Bool.not_eq_true', Bool.not_eq_false', Bool.or_eq_true, Bool.or_eq_false_iff] at h) | refine GetN.go ?_ | refine Need.ap1 ?_ | refine Need.ap0 ?_ | refine Need.go ?_ | refine Need.draw ?_ | refine ElemN.go ?_ | refine ExtN.ext ?_ | refine ExtN.wr ?_ | refine AllocN.go (fun l hl => ?_) | refine finGo ?_) <;> try (conv => whnf)
      refine hK (i + 1) _ _ ⟨by omega, i3⟩ (by omega) ?_
      (refine ⟨rfl, ?_, ?_, Sub.refl _⟩ <;> repeat' (first | exact EnvLe.nil | exact LocsLe.nil | refine EnvLe.cons _ _ _ ?_ ?_ | refine LocsLe.cons _ _ _ ?_ ?_ | exact CVle.same _ rfl | exact CVle.vec _ _ | exact CVle.nil | exact CVle.tok _ _ _ rfl rfl | exact ObLe.tok _ _ rfl | exact CVles.nil | refine CVles.cons ?_ ?_ | exact ObLe.same _ rfl rfl | refine ObLe.cells rfl ?_))
    · rw [hw] at c2
      have i3 := any_hit hc hw
      rw [i3] at hE
      subst hE
      clear hwr hw hc i2
      obtain ⟨k, ps, ⟨ek, ⟨vk, vn, vt, vl⟩, es, ec, ep⟩, n, is, di, os, sk, li, ts, ns, de⟩ := c
      conv => whnf
      repeat' (first | (refine CallN.one c1 ?_) | (refine CallN.one c2 ?_) | (refine ElemN.go ?_ (h := hx)) | refine OrdN.one ?_ | refine Fork.yp ?_ | refine Fork.np ?_ | refine Fork.ny ?_ | refine Fork.nn ?_ | refine Fork.yb ?_ | refine Fork.nb ?_ | refine Fork.dp (fun h => ?_) (fun h => ?_) | refine Fork.dn (fun h => ?_) (fun h => ?_) | (refine Fork.mk (fun h => ?_) (fun h => ?_) <;> simp only [decide_eq_true_eq, decide_eq_false_iff_not, Bool.not_eq_true', Bool.not_eq_false', Bool.or_eq_true, Bool.or_eq_false_iff] at h) | refine GetN.go ?_ | refine Need.ap1 ?_ | refine Need.ap0 ?_ | refine Need.go ?_ | refine Need.draw ?_ | refine ElemN.go ?_ | refine ExtN.ext ?_ | refine ExtN.wr ?_ | refine AllocN.go (fun l hl => ?_) | refine finGo ?_) <;> try (conv => whnf)
      all_goals rfl
  · rw [List.take_of_length_le (by omega)] at i2
    rw [i2] at hE
    subst hE
    conv => whnf
    repeat' (first | refine OrdN.one ?_ | refine Fork.yp ?_ | refine Fork.np ?_ | refine Fork.ny ?_ | refine Fork.nn ?_ | refine Fork.yb ?_ | refine Fork.nb ?_ | refine Fork.dp (fun h => ?_) (fun h => ?_) | refine Fork.dn (fun h => ?_) (fun h => ?_) | (refine Fork.mk (fun h => ?_) (fun h => ?_) <;> simp only [decide_eq_true_eq, decide_eq_false_iff_not, Bool.not_eq_true', Bool.not_eq_false', Bool.or_eq_true, Bool.or_eq_false_iff] at h) | refine GetN.go ?_ | refine Need.ap1 ?_ | refine Need.ap0 ?_ | refine Need.go ?_ | refine Need.draw ?_ | refine ElemN.go ?_ | refine ExtN.ext ?_ | refine ExtN.wr ?_ | refine AllocN.go (fun l hl => ?_) | refine finGo ?_) <;> try (conv => whnf)
    all_goals rfl
structure EndL (q : List Cl) : Prop where
  l5 : (namesC (lastC q)).length ≤ 5
  k6 : 0 < (namesC (lastC q)).length ↔ (lastC q).kind = 6
  wr : writesQ q = true ∨ 0 < (namesC (lastC q)).length
  df : ∀ (i k : Nat) (x y : ByteArray), k < i → (namesC (lastC q))[i]? = some x → (namesC (lastC q))[k]? = some y → ¬ y = x
theorem last_get {q : List Cl} (h : 1 ≤ q.length) : q[q.length - 1]? = some (lastC q) := by
  unfold lastC; rw [List.getD_eq_getElem?_getD, List.getElem?_eq_getElem (by omega)]; rfl
theorem last_ok {q : List Cl} (h : checkN q = 0) : 1 ≤ q.length ∧ q.length ≤ 8 ∧ clOk (lastC q) = true ∧ 6 ≤ (lastC q).kind ∧ (lastC q).kind ≤ 9 := by
  obtain ⟨h1, h2, -⟩ := check_parts h
  simp only [clsOk, Bool.and_eq_true, decide_eq_true_eq] at h1
  have hl := last_get h1.1.1
  refine ⟨h1.1.1, h1.1.2, List.all_eq_true.1 h1.2 _ (List.mem_of_getElem? hl), ?_⟩
  have h3 := List.all_eq_true.1 h2 (q.length - 1) (List.mem_range.2 (by omega))
  rw [endAt_of hl, if_pos (by omega)] at h3
  exact of_decide_eq_true h3
theorem rows_diff {is : List It} {os : List Od} {sk li : Int} (h : rowsOk is os sk li = true) : ∀ (i k : Nat) (x y : ByteArray), k < i → (is.map It.name)[i]? = some x → (is.map It.name)[k]? = some y → ¬ y = x := by
  intro i k x y hk hx hy e
  subst e
  simp only [rowsOk, Bool.and_eq_true] at h
  obtain ⟨hi, hix⟩ := List.getElem?_eq_some_iff.1 hx
  rw [List.length_map] at hi
  have h1 := List.all_eq_true.1 h.2.2.2.2.1 i (List.mem_range.2 hi)
  rw [itAt_of (List.getElem?_eq_getElem hi)] at h1
  simp only [Bool.and_eq_true, Bool.not_eq_true'] at h1
  have h2 : hasB ((is.take i).map It.name) is[i].name = true := by
    rw [hasB_iff]
    rw [List.getElem_map] at hix
    rw [hix]
    have : ((is.take i).map It.name)[k]? = some y := by
      rw [List.map_take, List.getElem?_take, if_pos hk]; exact hy
    exact List.mem_of_getElem? this
  rw [h1.2.2] at h2
  cases h2
theorem end_form {c : Cl} (ho : clOk c = true) (k1 : 6 ≤ c.kind) (k2 : c.kind ≤ 9) : (c.kind = 6 ∧ rowsOk c.items c.orders c.skip c.limit = true) ∨ (¬ c.kind = 6 ∧ c.items.length = 0 ∧ wrC c = true) := by
  have hk : ¬ c.kind = 6 → wrC c = true := fun h => decide_eq_true (by omega)
  by_cases h6 : c.kind = 6
  · refine .inl ⟨h6, ?_⟩
    unfold clOk at ho
    rw [if_neg (by omega), if_neg (by omega), if_neg (by omega), if_pos (.inr h6)] at ho
    simp only [Bool.and_eq_true] at ho
    exact ho.1
  · refine .inr ⟨h6, ?_, hk h6⟩
    unfold clOk at ho
    split at ho
    · simp only [Bool.and_eq_true, rB, decide_eq_true_eq] at ho; exact ho.2.1.1
    · rw [if_neg (by omega), if_neg (by omega), if_neg (by omega)] at ho
      split at ho
      · simp only [Bool.and_eq_true, rB, decide_eq_true_eq] at ho; exact ho.2.2.1.1
      · rw [if_pos (by omega)] at ho
        simp only [Bool.and_eq_true, rB, decide_eq_true_eq] at ho; exact ho.2.2.1.1
theorem end_law {q : List Cl} (h : checkN q = 0) : EndL q := by
  obtain ⟨h1, h8, ho, k1, k2⟩ := last_ok h
  have hl := last_get h1
  rcases end_form ho k1 k2 with ⟨h6, hr⟩ | ⟨h6, h0, hw⟩
  · have hr' := hr
    simp only [rowsOk, Bool.and_eq_true, decide_eq_true_eq] at hr'
    have h2 := hr'.1
    have e : (namesC (lastC q)).length = (lastC q).items.length := by unfold namesC; rw [List.length_map]
    exact ⟨by omega, ⟨fun _ => h6, fun _ => by omega⟩, .inr (by omega), rows_diff hr⟩
  · have e : namesC (lastC q) = [] := by unfold namesC; rw [List.eq_nil_of_length_eq_zero h0]; rfl
    refine ⟨by rw [e]; simp, by rw [e]; simp [h6], .inl ?_, fun i k x y _ hx => ?_⟩
    · unfold writesQ
      rw [decide_eq_true h, Bool.true_and]
      exact any_hit hl hw
    · rw [e] at hx; simp at hx
set_option maxHeartbeats 4000000 in
theorem lawQNames {σ : Heap} {bs : List CV} (hb : BytesOk bs) : CRun Tryz.prog 6 [.vec bs] σ Yes := by
  refine crun_of (X := X) X_ok X_sat (body := bodyOf Tryz.f6) Tryz.func6 rfl (by kernel_rfl) (by kernel_rfl) ?_
  rw [Tryz.ntmps6]
  by_cases h2 : 1048576 < bs.length
  · conv => whnf
    repeat' (first | refine OrdN.one ?_ | refine Fork.yp ?_ | refine Fork.np ?_ | refine Fork.ny ?_ | refine Fork.nn ?_ | refine Fork.yb ?_ | refine Fork.nb ?_ | refine Fork.dp (fun h => ?_) (fun h => ?_) | refine Fork.dn (fun h => ?_) (fun h => ?_) | (refine Fork.mk (fun h => ?_) (fun h => ?_) <;> simp only [decide_eq_true_eq, decide_eq_false_iff_not, Bool.not_eq_true', Bool.not_eq_false', Bool.or_eq_true, Bool.or_eq_false_iff] at h) | refine GetN.go ?_ | refine Need.ap1 ?_ | refine Need.ap0 ?_ | refine Need.go ?_ | refine Need.draw ?_ | refine ElemN.go ?_ | refine ExtN.ext ?_ | refine ExtN.wr ?_ | refine AllocN.go (fun l hl => ?_) | refine finGo ?_) <;> try (conv => whnf)
    exact ⟨_, rfl⟩
  conv => whnf
  repeat' (first | ((refine CallN.many (drawN_c hb (by omega)) ?_; rintro _ ⟨q, σ1, g, h1, h9, rfl⟩)) | refine OrdN.go ?_ | refine Fork.yp ?_ | refine Fork.np ?_ | refine Fork.ny ?_ | refine Fork.nn ?_ | refine Fork.yb ?_ | refine Fork.nb ?_ | refine Fork.dp (fun h => ?_) (fun h => ?_) | refine Fork.dn (fun h => ?_) (fun h => ?_) | (refine Fork.mk (fun h => ?_) (fun h => ?_) <;> simp only [decide_eq_true_eq, decide_eq_false_iff_not, Bool.not_eq_true', Bool.not_eq_false', Bool.or_eq_true, Bool.or_eq_false_iff] at h) | refine GetN.go ?_ | refine Need.ap1 ?_ | refine Need.ap0 ?_ | refine Need.go ?_ | refine Need.draw ?_ | refine ElemN.go ?_ | refine ExtN.ext ?_ | refine ExtN.wr ?_ | refine AllocN.go (fun l hl => ?_) | refine finGo ?_) <;> try (conv => whnf)
  have e3 := cls_len q
  have c1 := iNames_c (σ := σ1) h1 (by omega) g
  have c2 := iWrites_c (σ := σ1) (q := q) (by omega) g
  have c3 := sNames_c (σ := σ1) h1 (by omega) g
  have c4 := sWrites_c (σ := σ1) (q := q) (by omega) g
  have c5 := sCheck_c (σ := σ1) (q := q) (by omega) (fun c hc => (g c hc).t) (fun c hc => (g c hc).o) (fun c hc hk => clOk_sh hk)
  obtain ⟨l1, l2⟩ := last_at h1
  by_cases hk : checkN q = 0
  case neg =>
    have e0 : namesQ q = [] := by unfold namesQ; rw [if_neg hk]
    rw [e0] at c1 c3
    have c6 := asText_c (σ := σ1) (a := []) (b := []) (by simp) (by simp)
    rw [decide_eq_true rfl] at c6
    generalize checkN q = k at c5 hk
    generalize writesQ q = w at c2 c4
    cases w
    all_goals
      conv => whnf
      repeat' (first | (refine CallN.one c1 ?_) | (refine CallN.one c2 ?_) | (refine CallN.one c3 ?_) | (refine CallN.one c4 ?_) | (refine CallN.one c5 ?_) | (refine CallN.one c6 ?_) | refine OrdN.one ?_ | refine Fork.yp ?_ | refine Fork.np ?_ | refine Fork.ny ?_ | refine Fork.nn ?_ | refine Fork.yb ?_ | refine Fork.nb ?_ | refine Fork.dp (fun h => ?_) (fun h => ?_) | refine Fork.dn (fun h => ?_) (fun h => ?_) | (refine Fork.mk (fun h => ?_) (fun h => ?_) <;> simp only [decide_eq_true_eq, decide_eq_false_iff_not, Bool.not_eq_true', Bool.not_eq_false', Bool.or_eq_true, Bool.or_eq_false_iff] at h) | refine GetN.go ?_ | refine Need.ap1 ?_ | refine Need.ap0 ?_ | refine Need.go ?_ | refine Need.draw ?_ | refine ElemN.go ?_ | refine ExtN.ext ?_ | refine ExtN.wr ?_ | refine AllocN.go (fun l hl => ?_) | refine finGo ?_) <;> try (conv => whnf)
      all_goals exact ⟨_, rfl⟩
  have hL := end_law hk
  have e0 : namesQ q = namesC (lastC q) := by unfold namesQ; rw [if_pos hk]
  obtain ⟨x1, x2, x3, x4⟩ := hL
  rw [e0] at c1 c3
  rw [hk] at c5
  generalize namesC (lastC q) = N at *
  have e4 := sts_len N
  have c6 := asText_c (σ := σ1) (a := N) (b := N) (by omega) (by omega)
  rw [decide_eq_true rfl] at c6
  generalize lastC q = lc at *
  obtain ⟨k, ps, ⟨ek, ⟨vk, vn, vt, vl⟩, es, ec, ep⟩, n, is, di, os, sk, li, ts, ns, de⟩ := lc
  dsimp only at x2
  cases hw : writesQ q <;> rw [hw] at c2 c4 x3
  · skip
    conv => whnf
    repeat' (first | (refine CallN.one c1 ?_) | (refine CallN.one c2 ?_) | (refine CallN.one c3 ?_) | (refine CallN.one c4 ?_) | (refine CallN.one c5 ?_) | (refine CallN.one c6 ?_) | refine OrdN.one ?_ | refine Fork.yp ?_ | refine Fork.np ?_ | refine Fork.ny ?_ | refine Fork.nn ?_ | refine Fork.yb ?_ | refine Fork.nb ?_ | refine Fork.dp (fun h => ?_) (fun h => ?_) | refine Fork.dn (fun h => ?_) (fun h => ?_) | (refine Fork.mk (fun h => ?_) (fun h => ?_) <;> simp only [decide_eq_true_eq, decide_eq_false_iff_not, Bool.not_eq_true', Bool.not_eq_false', Bool.or_eq_true, Bool.or_eq_false_iff] at h) | refine GetN.go ?_ | refine Need.ap1 ?_ | refine Need.ap0 ?_ | refine Need.go ?_ | refine Need.draw ?_ | refine ElemN.go ?_ | refine ExtN.ext ?_ | refine ExtN.wr ?_ | refine AllocN.go (fun l hl => ?_) | refine finGo ?_) <;> try (conv => whnf)
    refine LoopN.rule (α := Nat) (fun i => ⟨88, [(3, .vec (cls q)), (4, .vec (sts N)), (5, .sc (.bool false)), (6, i64 i)], []⟩) (fun _ => σ1) (fun i => N.length - i) (fun i => i ≤ N.length) ?_ 0 (by omega) ?_
    rotate_left
    · (refine ⟨rfl, ?_, ?_, Sub.refl _⟩ <;> repeat' (first | exact EnvLe.nil | exact LocsLe.nil | refine EnvLe.cons _ _ _ ?_ ?_ | refine LocsLe.cons _ _ _ ?_ ?_ | exact CVle.same _ rfl | exact CVle.vec _ _ | exact CVle.nil | exact CVle.tok _ _ _ rfl rfl | exact ObLe.tok _ _ rfl | exact CVles.nil | refine CVles.cons ?_ ?_ | exact ObLe.same _ rfl rfl | refine ObLe.cells rfl ?_))
    rintro i K i1 hK
    by_cases hi : i < N.length
    · obtain ⟨x, kx, kx'⟩ := sts_get hi
      conv => whnf
      repeat' (first | refine OrdN.one ?_ | refine Fork.yp ?_ | refine Fork.np ?_ | refine Fork.ny ?_ | refine Fork.nn ?_ | refine Fork.yb ?_ | refine Fork.nb ?_ | refine Fork.dp (fun h => ?_) (fun h => ?_) | refine Fork.dn (fun h => ?_) (fun h => ?_) | (refine Fork.mk (fun h => ?_) (fun h => ?_) <;> simp only [decide_eq_true_eq, decide_eq_false_iff_not, Bool.not_eq_true', Bool.not_eq_false', Bool.or_eq_true, Bool.or_eq_false_iff] at h) | refine GetN.go ?_ | refine Need.ap1 ?_ | refine Need.ap0 ?_ | refine Need.go ?_ | refine Need.draw ?_ | refine ElemN.go ?_ | refine ExtN.ext ?_ | refine ExtN.wr ?_ | refine AllocN.go (fun l hl => ?_) | refine finGo ?_) <;> try (conv => whnf)
      refine LoopN.rule (α := Nat) (fun j => ⟨88, [(3, .vec (cls q)), (4, .vec (sts N)), (5, .sc (.bool false)), (6, i64 i), (7, i64 j)], []⟩) (fun _ => σ1) (fun j => i - j) (fun j => j ≤ i) ?_ 0 (by omega) ?_
      rotate_left
      · (refine ⟨rfl, ?_, ?_, Sub.refl _⟩ <;> repeat' (first | exact EnvLe.nil | exact LocsLe.nil | refine EnvLe.cons _ _ _ ?_ ?_ | refine LocsLe.cons _ _ _ ?_ ?_ | exact CVle.same _ rfl | exact CVle.vec _ _ | exact CVle.nil | exact CVle.tok _ _ _ rfl rfl | exact ObLe.tok _ _ rfl | exact CVles.nil | refine CVles.cons ?_ ?_ | exact ObLe.same _ rfl rfl | refine ObLe.cells rfl ?_))
      rintro j K2 j1 hK2
      by_cases hj : j < i
      · obtain ⟨y, ky, ky'⟩ := sts_get (l := N) (i := j) (by omega)
        have hd := x4 i j x y hj kx ky
        conv => whnf
        repeat' (first | refine OrdN.one ?_ | refine Fork.yp ?_ | refine Fork.np ?_ | refine Fork.ny ?_ | refine Fork.nn ?_ | refine Fork.yb ?_ | refine Fork.nb ?_ | refine Fork.dp (fun h => ?_) (fun h => ?_) | refine Fork.dn (fun h => ?_) (fun h => ?_) | (refine Fork.mk (fun h => ?_) (fun h => ?_) <;> simp only [decide_eq_true_eq, decide_eq_false_iff_not, Bool.not_eq_true', Bool.not_eq_false', Bool.or_eq_true, Bool.or_eq_false_iff] at h) | refine GetN.go ?_ | refine Need.ap1 ?_ | refine Need.ap0 ?_ | refine Need.go ?_ | refine Need.draw ?_ | refine ElemN.go ?_ | refine ExtN.ext ?_ | refine ExtN.wr ?_ | refine AllocN.go (fun l hl => ?_) | refine finGo ?_) <;> try (conv => whnf)
        refine hK2 (j + 1) _ _ (by omega) (by omega) ?_
        (refine ⟨rfl, ?_, ?_, Sub.refl _⟩ <;> repeat' (first | exact EnvLe.nil | exact LocsLe.nil | refine EnvLe.cons _ _ _ ?_ ?_ | refine LocsLe.cons _ _ _ ?_ ?_ | exact CVle.same _ rfl | exact CVle.vec _ _ | exact CVle.nil | exact CVle.tok _ _ _ rfl rfl | exact ObLe.tok _ _ rfl | exact CVles.nil | refine CVles.cons ?_ ?_ | exact ObLe.same _ rfl rfl | refine ObLe.cells rfl ?_))
      · conv => whnf
        repeat' (first | refine OrdN.one ?_ | refine Fork.yp ?_ | refine Fork.np ?_ | refine Fork.ny ?_ | refine Fork.nn ?_ | refine Fork.yb ?_ | refine Fork.nb ?_ | refine Fork.dp (fun h => ?_) (fun h => ?_) | refine Fork.dn (fun h => ?_) (fun h => ?_) | (refine Fork.mk (fun h => ?_) (fun h => ?_) <;> simp only [decide_eq_true_eq, decide_eq_false_iff_not, Bool.not_eq_true', Bool.not_eq_false', Bool.or_eq_true, Bool.or_eq_false_iff] at h) | refine GetN.go ?_ | refine Need.ap1 ?_ | refine Need.ap0 ?_ | refine Need.go ?_ | refine Need.draw ?_ | refine ElemN.go ?_ | refine ExtN.ext ?_ | refine ExtN.wr ?_ | refine AllocN.go (fun l hl => ?_) | refine finGo ?_) <;> try (conv => whnf)
        refine hK (i + 1) _ _ (by omega) (by omega) ?_
        (refine ⟨rfl, ?_, ?_, Sub.refl _⟩ <;> repeat' (first | exact EnvLe.nil | exact LocsLe.nil | refine EnvLe.cons _ _ _ ?_ ?_ | refine LocsLe.cons _ _ _ ?_ ?_ | exact CVle.same _ rfl | exact CVle.vec _ _ | exact CVle.nil | exact CVle.tok _ _ _ rfl rfl | exact ObLe.tok _ _ rfl | exact CVles.nil | refine CVles.cons ?_ ?_ | exact ObLe.same _ rfl rfl | refine ObLe.cells rfl ?_))
    · clear hK
      by_cases h0 : 0 < N.length
      · have h6 := x2.1 h0
        subst h6
        conv => whnf
        repeat' (first | (refine ElemN.go ?_ (h := l1)) | refine OrdN.one ?_ | refine Fork.yp ?_ | refine Fork.np ?_ | refine Fork.ny ?_ | refine Fork.nn ?_ | refine Fork.yb ?_ | refine Fork.nb ?_ | refine Fork.dp (fun h => ?_) (fun h => ?_) | refine Fork.dn (fun h => ?_) (fun h => ?_) | (refine Fork.mk (fun h => ?_) (fun h => ?_) <;> simp only [decide_eq_true_eq, decide_eq_false_iff_not, Bool.not_eq_true', Bool.not_eq_false', Bool.or_eq_true, Bool.or_eq_false_iff] at h) | refine GetN.go ?_ | refine Need.ap1 ?_ | refine Need.ap0 ?_ | refine Need.go ?_ | refine Need.draw ?_ | refine ElemN.go ?_ | refine ExtN.ext ?_ | refine ExtN.wr ?_ | refine AllocN.go (fun l hl => ?_) | refine finGo ?_) <;> try (conv => whnf)
        all_goals first
          | exact ⟨_, rfl⟩
          | (exfalso; omega)
      · have h6 : ¬ k = 6 := fun e => h0 (x2.2 e)
        conv => whnf
        repeat' (first | (refine ElemN.go ?_ (h := l1)) | refine OrdN.one ?_ | refine Fork.yp ?_ | refine Fork.np ?_ | refine Fork.ny ?_ | refine Fork.nn ?_ | refine Fork.yb ?_ | refine Fork.nb ?_ | refine Fork.dp (fun h => ?_) (fun h => ?_) | refine Fork.dn (fun h => ?_) (fun h => ?_) | (refine Fork.mk (fun h => ?_) (fun h => ?_) <;> simp only [decide_eq_true_eq, decide_eq_false_iff_not, Bool.not_eq_true', Bool.not_eq_false', Bool.or_eq_true, Bool.or_eq_false_iff] at h) | refine GetN.go ?_ | refine Need.ap1 ?_ | refine Need.ap0 ?_ | refine Need.go ?_ | refine Need.draw ?_ | refine ElemN.go ?_ | refine ExtN.ext ?_ | refine ExtN.wr ?_ | refine AllocN.go (fun l hl => ?_) | refine finGo ?_) <;> try (conv => whnf)
        all_goals first
          | exact ⟨_, rfl⟩
          | (exfalso; omega)
          | (exfalso; rcases x3 with x3 | x3; cases x3; exact h0 x3)
  · skip
    conv => whnf
    repeat' (first | (refine CallN.one c1 ?_) | (refine CallN.one c2 ?_) | (refine CallN.one c3 ?_) | (refine CallN.one c4 ?_) | (refine CallN.one c5 ?_) | (refine CallN.one c6 ?_) | refine OrdN.one ?_ | refine Fork.yp ?_ | refine Fork.np ?_ | refine Fork.ny ?_ | refine Fork.nn ?_ | refine Fork.yb ?_ | refine Fork.nb ?_ | refine Fork.dp (fun h => ?_) (fun h => ?_) | refine Fork.dn (fun h => ?_) (fun h => ?_) | (refine Fork.mk (fun h => ?_) (fun h => ?_) <;> simp only [decide_eq_true_eq, decide_eq_false_iff_not, Bool.not_eq_true', Bool.not_eq_false', Bool.or_eq_true, Bool.or_eq_false_iff] at h) | refine GetN.go ?_ | refine Need.ap1 ?_ | refine Need.ap0 ?_ | refine Need.go ?_ | refine Need.draw ?_ | refine ElemN.go ?_ | refine ExtN.ext ?_ | refine ExtN.wr ?_ | refine AllocN.go (fun l hl => ?_) | refine finGo ?_) <;> try (conv => whnf)
    refine LoopN.rule (α := Nat) (fun i => ⟨88, [(3, .vec (cls q)), (4, .vec (sts N)), (5, .sc (.bool true)), (6, i64 i)], []⟩) (fun _ => σ1) (fun i => N.length - i) (fun i => i ≤ N.length) ?_ 0 (by omega) ?_
    rotate_left
    · (refine ⟨rfl, ?_, ?_, Sub.refl _⟩ <;> repeat' (first | exact EnvLe.nil | exact LocsLe.nil | refine EnvLe.cons _ _ _ ?_ ?_ | refine LocsLe.cons _ _ _ ?_ ?_ | exact CVle.same _ rfl | exact CVle.vec _ _ | exact CVle.nil | exact CVle.tok _ _ _ rfl rfl | exact ObLe.tok _ _ rfl | exact CVles.nil | refine CVles.cons ?_ ?_ | exact ObLe.same _ rfl rfl | refine ObLe.cells rfl ?_))
    rintro i K i1 hK
    by_cases hi : i < N.length
    · obtain ⟨x, kx, kx'⟩ := sts_get hi
      conv => whnf
      repeat' (first | refine OrdN.one ?_ | refine Fork.yp ?_ | refine Fork.np ?_ | refine Fork.ny ?_ | refine Fork.nn ?_ | refine Fork.yb ?_ | refine Fork.nb ?_ | refine Fork.dp (fun h => ?_) (fun h => ?_) | refine Fork.dn (fun h => ?_) (fun h => ?_) | (refine Fork.mk (fun h => ?_) (fun h => ?_) <;> simp only [decide_eq_true_eq, decide_eq_false_iff_not, Bool.not_eq_true', Bool.not_eq_false', Bool.or_eq_true, Bool.or_eq_false_iff] at h) | refine GetN.go ?_ | refine Need.ap1 ?_ | refine Need.ap0 ?_ | refine Need.go ?_ | refine Need.draw ?_ | refine ElemN.go ?_ | refine ExtN.ext ?_ | refine ExtN.wr ?_ | refine AllocN.go (fun l hl => ?_) | refine finGo ?_) <;> try (conv => whnf)
      refine LoopN.rule (α := Nat) (fun j => ⟨88, [(3, .vec (cls q)), (4, .vec (sts N)), (5, .sc (.bool true)), (6, i64 i), (7, i64 j)], []⟩) (fun _ => σ1) (fun j => i - j) (fun j => j ≤ i) ?_ 0 (by omega) ?_
      rotate_left
      · (refine ⟨rfl, ?_, ?_, Sub.refl _⟩ <;> repeat' (first | exact EnvLe.nil | exact LocsLe.nil | refine EnvLe.cons _ _ _ ?_ ?_ | refine LocsLe.cons _ _ _ ?_ ?_ | exact CVle.same _ rfl | exact CVle.vec _ _ | exact CVle.nil | exact CVle.tok _ _ _ rfl rfl | exact ObLe.tok _ _ rfl | exact CVles.nil | refine CVles.cons ?_ ?_ | exact ObLe.same _ rfl rfl | refine ObLe.cells rfl ?_))
      rintro j K2 j1 hK2
      by_cases hj : j < i
      · obtain ⟨y, ky, ky'⟩ := sts_get (l := N) (i := j) (by omega)
        have hd := x4 i j x y hj kx ky
        conv => whnf
        repeat' (first | refine OrdN.one ?_ | refine Fork.yp ?_ | refine Fork.np ?_ | refine Fork.ny ?_ | refine Fork.nn ?_ | refine Fork.yb ?_ | refine Fork.nb ?_ | refine Fork.dp (fun h => ?_) (fun h => ?_) | refine Fork.dn (fun h => ?_) (fun h => ?_) | (refine Fork.mk (fun h => ?_) (fun h => ?_) <;> simp only [decide_eq_true_eq, decide_eq_false_iff_not, Bool.not_eq_true', Bool.not_eq_false', Bool.or_eq_true, Bool.or_eq_false_iff] at h) | refine GetN.go ?_ | refine Need.ap1 ?_ | refine Need.ap0 ?_ | refine Need.go ?_ | refine Need.draw ?_ | refine ElemN.go ?_ | refine ExtN.ext ?_ | refine ExtN.wr ?_ | refine AllocN.go (fun l hl => ?_) | refine finGo ?_) <;> try (conv => whnf)
        refine hK2 (j + 1) _ _ (by omega) (by omega) ?_
        (refine ⟨rfl, ?_, ?_, Sub.refl _⟩ <;> repeat' (first | exact EnvLe.nil | exact LocsLe.nil | refine EnvLe.cons _ _ _ ?_ ?_ | refine LocsLe.cons _ _ _ ?_ ?_ | exact CVle.same _ rfl | exact CVle.vec _ _ | exact CVle.nil | exact CVle.tok _ _ _ rfl rfl | exact ObLe.tok _ _ rfl | exact CVles.nil | refine CVles.cons ?_ ?_ | exact ObLe.same _ rfl rfl | refine ObLe.cells rfl ?_))
      · conv => whnf
        repeat' (first | refine OrdN.one ?_ | refine Fork.yp ?_ | refine Fork.np ?_ | refine Fork.ny ?_ | refine Fork.nn ?_ | refine Fork.yb ?_ | refine Fork.nb ?_ | refine Fork.dp (fun h => ?_) (fun h => ?_) | refine Fork.dn (fun h => ?_) (fun h => ?_) | (refine Fork.mk (fun h => ?_) (fun h => ?_) <;> simp only [decide_eq_true_eq, decide_eq_false_iff_not, Bool.not_eq_true', Bool.not_eq_false', Bool.or_eq_true, Bool.or_eq_false_iff] at h) | refine GetN.go ?_ | refine Need.ap1 ?_ | refine Need.ap0 ?_ | refine Need.go ?_ | refine Need.draw ?_ | refine ElemN.go ?_ | refine ExtN.ext ?_ | refine ExtN.wr ?_ | refine AllocN.go (fun l hl => ?_) | refine finGo ?_) <;> try (conv => whnf)
        refine hK (i + 1) _ _ (by omega) (by omega) ?_
        (refine ⟨rfl, ?_, ?_, Sub.refl _⟩ <;> repeat' (first | exact EnvLe.nil | exact LocsLe.nil | refine EnvLe.cons _ _ _ ?_ ?_ | refine LocsLe.cons _ _ _ ?_ ?_ | exact CVle.same _ rfl | exact CVle.vec _ _ | exact CVle.nil | exact CVle.tok _ _ _ rfl rfl | exact ObLe.tok _ _ rfl | exact CVles.nil | refine CVles.cons ?_ ?_ | exact ObLe.same _ rfl rfl | refine ObLe.cells rfl ?_))
    · clear hK
      by_cases h0 : 0 < N.length
      · have h6 := x2.1 h0
        subst h6
        conv => whnf
        repeat' (first | (refine ElemN.go ?_ (h := l1)) | refine OrdN.one ?_ | refine Fork.yp ?_ | refine Fork.np ?_ | refine Fork.ny ?_ | refine Fork.nn ?_ | refine Fork.yb ?_ | refine Fork.nb ?_ | refine Fork.dp (fun h => ?_) (fun h => ?_) | refine Fork.dn (fun h => ?_) (fun h => ?_) | (refine Fork.mk (fun h => ?_) (fun h => ?_) <;> simp only [decide_eq_true_eq, decide_eq_false_iff_not, Bool.not_eq_true', Bool.not_eq_false', Bool.or_eq_true, Bool.or_eq_false_iff] at h) | refine GetN.go ?_ | refine Need.ap1 ?_ | refine Need.ap0 ?_ | refine Need.go ?_ | refine Need.draw ?_ | refine ElemN.go ?_ | refine ExtN.ext ?_ | refine ExtN.wr ?_ | refine AllocN.go (fun l hl => ?_) | refine finGo ?_) <;> try (conv => whnf)
        all_goals first
          | exact ⟨_, rfl⟩
          | (exfalso; omega)
      · have h6 : ¬ k = 6 := fun e => h0 (x2.2 e)
        conv => whnf
        repeat' (first | (refine ElemN.go ?_ (h := l1)) | refine OrdN.one ?_ | refine Fork.yp ?_ | refine Fork.np ?_ | refine Fork.ny ?_ | refine Fork.nn ?_ | refine Fork.yb ?_ | refine Fork.nb ?_ | refine Fork.dp (fun h => ?_) (fun h => ?_) | refine Fork.dn (fun h => ?_) (fun h => ?_) | (refine Fork.mk (fun h => ?_) (fun h => ?_) <;> simp only [decide_eq_true_eq, decide_eq_false_iff_not, Bool.not_eq_true', Bool.not_eq_false', Bool.or_eq_true, Bool.or_eq_false_iff] at h) | refine GetN.go ?_ | refine Need.ap1 ?_ | refine Need.ap0 ?_ | refine Need.go ?_ | refine Need.draw ?_ | refine ElemN.go ?_ | refine ExtN.ext ?_ | refine ExtN.wr ?_ | refine AllocN.go (fun l hl => ?_) | refine finGo ?_) <;> try (conv => whnf)
        all_goals first
          | exact ⟨_, rfl⟩
          | (exfalso; omega)
          | (exfalso; rcases x3 with x3 | x3; cases x3; exact h0 x3)
end Go.Proofs.YthllnbfkfobcjaaGreat
