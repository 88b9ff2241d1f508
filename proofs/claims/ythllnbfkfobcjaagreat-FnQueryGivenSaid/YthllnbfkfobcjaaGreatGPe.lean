/-
  Contracts of the functions that the law reaches.
-/
import Derived.Test.YthllnbfkfobcjaaGreatGPb
import Derived.Test.YthllnbfkfobcjaaGreatGM
set_option linter.unusedVariables false
set_option linter.unusedSimpArgs false
namespace Go.Proofs.YthllnbfkfobcjaaGreat
open Go Go.CL
set_option maxRecDepth 10000
def sOf (l : List Exp) : List ByteArray := givesOf ((l.map subsE).flatten)
theorem sOf_cons (e : Exp) (r : List Exp) : sOf (e :: r) = givesOf (subsE e) ++ sOf r := by simp [sOf, givesOf_app]
theorem sOf_app (a b : List Exp) : sOf (a ++ b) = sOf a ++ sOf b := by simp [sOf, givesOf_app]
def sC (l : List Cl) : List ByteArray := sOf ((l.map exprsS).flatten)
theorem sC_cons (c : Cl) (r : List Cl) : sC (c :: r) = sOf (exprsS c) ++ sC r := by simp [sC, sOf_app]
theorem exprsS_t {c : Cl} (h : ClT c) : ∀ e ∈ exprsS c, ETame e := by
  intro e he
  have hsp : ∀ {s : Sp}, SpT s → ∀ e ∈ spEs s, ETame e := fun hs e he => by
    obtain ⟨p, hp, rfl⟩ := List.mem_map.1 he
    exact (hs.p p hp).e
  unfold exprsS at he
  simp only [List.mem_cons, List.mem_append] at he
  rcases he with rfl | he | he | he
  · exact h.e
  · obtain ⟨l, hl, he⟩ := List.mem_flatten.1 he
    obtain ⟨p, hp, rfl⟩ := List.mem_map.1 hl
    have hpt := h.pt p hp
    unfold pthEs at he
    rcases List.mem_append.1 he with he | he
    · exact hsp hpt.s e he
    · obtain ⟨l, hl, he⟩ := List.mem_flatten.1 he
      obtain ⟨x, hx, rfl⟩ := List.mem_map.1 hl
      exact hsp (hpt.h x hx).s e he
  · obtain ⟨x, hx, rfl⟩ := List.mem_map.1 he
    exact (h.it x hx).e
  · obtain ⟨x, hx, rfl⟩ := List.mem_map.1 he
    exact (h.tt x hx).e
set_option maxHeartbeats 4000000 in
theorem sGiven_c {σ : Heap} {q : List Cl} (h9 : q.length ≤ 100) (ht : ∀ c ∈ q, ClT c) (hl : ∀ c ∈ q, (exprsS c).length ≤ 100000) (hsh : ∀ c ∈ q, ∀ e ∈ exprsS c, (subsE e).length ≤ 1000) (hT : (sC q).length ≤ 900000) (ck : CRun Tryz.prog 19 [.vec (cls q)] σ (· = .ret (i64 0) σ)) :
    CRun Tryz.prog 29 [.vec (cls q)] σ (· = .ret (.vec (strs ((sC q).foldl ins []))) σ) := by
  have e3 := cls_len q
  generalize hF : (sC q).foldl ins [] = F
  refine crun_of (X := X) X_ok X_sat (body := bodyOf Tryz.f29) Tryz.func29 rfl (by kernel_rfl) (by kernel_rfl) ?_
  rw [Tryz.ntmps29]
  conv => whnf
  repeat' (first | refine OrdN.one ?_ | refine Fork.yp ?_ | refine Fork.np ?_ | refine Fork.ny ?_ | refine Fork.nn ?_ | refine Fork.yb ?_ | refine Fork.nb ?_ | refine Fork.dp (fun h => ?_) (fun h => ?_) | refine Fork.dn (fun h => ?_) (fun h => ?_) | (refine Fork.mk (fun h => ?_) (fun h => ?_) <;> simp only [decide_eq_true_eq, decide_eq_false_iff_not, Bool.not_eq_true', Bool.not_eq_false', Bool.or_eq_true, Bool.or_eq_false_iff] at h) | refine GetN.go ?_ | refine Need.ap1 ?_ | refine Need.ap0 ?_ | refine Need.go ?_ | refine Need.draw ?_ | refine ElemN.go ?_ | refine ExtN.ext ?_ | refine ExtN.wr ?_ | refine AllocN.go (fun l hl => ?_) | refine finGo ?_) <;> try (conv => whnf)
  refine LoopN.rule (α := Nat × List ByteArray) (fun a => ⟨37, [(0, .vec (cls q)), (2, .nil), (3, .vec (strs a.2)), (4, i64 a.1)], []⟩) (fun _ => σ) (fun a => q.length - a.1) (fun a => a.1 ≤ q.length ∧ (sC (q.drop a.1)).foldl ins a.2 = F ∧ a.2.length + (sC (q.drop a.1)).length ≤ 900000) ?_ (0, []) ⟨by simp, hF, by simpa using hT⟩ ?_
  rotate_left
  · (refine ⟨rfl, ?_, ?_, Sub.refl _⟩ <;> repeat' (first | exact EnvLe.nil | exact LocsLe.nil | refine EnvLe.cons _ _ _ ?_ ?_ | refine LocsLe.cons _ _ _ ?_ ?_ | exact CVle.same _ rfl | exact CVle.vec _ _ | exact CVle.nil | exact CVle.tok _ _ _ rfl rfl | exact ObLe.tok _ _ rfl | exact CVles.nil | refine CVles.cons ?_ ?_ | exact ObLe.same _ rfl rfl | refine ObLe.cells rfl ?_))
  rintro ⟨i, M⟩ K1 ⟨i1, i2, i3⟩ hK1
  dsimp only at i1 i2 i3 ⊢
  by_cases hi : i < q.length
  · obtain ⟨c, hc, hm, hx⟩ := show ∃ c, q[i]? = some c ∧ c ∈ q ∧ (cls q)[i]? = some c.cv from ⟨q[i], List.getElem?_eq_getElem hi, List.getElem_mem hi, by unfold cls; rw [List.getElem?_map, List.getElem?_eq_getElem hi]; rfl⟩
    rw [drop_at hc, sC_cons] at i2 i3
    have c1 := l5Exprs_c (σ := σ) (ht c hm) (hl c hm)
    have he := exprsS_t (ht c hm)
    have hl2 := hl c hm
    have hs2 := hsh c hm
    have hK1 := fun N => hK1 (i + 1, N)
    dsimp only at hK1
    generalize sC (q.drop (i + 1)) = R1 at i2 i3 hK1
    generalize exprsS c = es at c1 he i2 i3 hl2 hs2
    obtain ⟨k, ps, ⟨ek, ⟨vk, vn, vt, vl⟩, es', ec, ep⟩, n, is, di, os, sk, li, ts, ns, de⟩ := c
    have a1 := ecvs_length es
    conv => whnf
    repeat' (first | (refine ElemN.go ?_ (h := hx)) | (refine CallN.one ck ?_) | (refine CallN.one c1 ?_) | refine OrdN.one ?_ | refine Fork.yp ?_ | refine Fork.np ?_ | refine Fork.ny ?_ | refine Fork.nn ?_ | refine Fork.yb ?_ | refine Fork.nb ?_ | refine Fork.dp (fun h => ?_) (fun h => ?_) | refine Fork.dn (fun h => ?_) (fun h => ?_) | (refine Fork.mk (fun h => ?_) (fun h => ?_) <;> simp only [decide_eq_true_eq, decide_eq_false_iff_not, Bool.not_eq_true', Bool.not_eq_false', Bool.or_eq_true, Bool.or_eq_false_iff] at h) | refine GetN.go ?_ | refine Need.ap1 ?_ | refine Need.ap0 ?_ | refine Need.go ?_ | refine Need.draw ?_ | refine ElemN.go ?_ | refine ExtN.ext ?_ | refine ExtN.wr ?_ | refine AllocN.go (fun l hl => ?_) | refine finGo ?_) <;> try (conv => whnf)
    refine LoopN.rule (α := Nat × List ByteArray) (fun a => ⟨37, [(0, .vec (cls q)), (2, .nil), (3, .vec (strs a.2)), (4, i64 i), (5, .vec (Exp.cvs es)), (6, i64 a.1)], []⟩) (fun _ => σ) (fun a => es.length - a.1) (fun a => a.1 ≤ es.length ∧ (sOf (es.drop a.1) ++ R1).foldl ins a.2 = F ∧ a.2.length + (sOf (es.drop a.1) ++ R1).length ≤ 900000) ?_ (0, M) ⟨by simp, i2, i3⟩ ?_
    rotate_left
    · (refine ⟨rfl, ?_, ?_, Sub.refl _⟩ <;> repeat' (first | exact EnvLe.nil | exact LocsLe.nil | refine EnvLe.cons _ _ _ ?_ ?_ | refine LocsLe.cons _ _ _ ?_ ?_ | exact CVle.same _ rfl | exact CVle.vec _ _ | exact CVle.nil | exact CVle.tok _ _ _ rfl rfl | exact ObLe.tok _ _ rfl | exact CVles.nil | refine CVles.cons ?_ ?_ | exact ObLe.same _ rfl rfl | refine ObLe.cells rfl ?_))
    clear i2 i3
    rintro ⟨j, M⟩ K2 ⟨j1, j2, j3⟩ hK2
    dsimp only at j1 j2 j3 ⊢
    by_cases hj : j < es.length
    · obtain ⟨e, hem, heq, hy⟩ := ecvs_at hj
      rw [drop_at heq, sOf_cons, List.append_assoc, List.foldl_append] at j2
      rw [drop_at heq, sOf_cons, List.append_assoc, List.length_append] at j3
      have hsl := hs2 e hem
      have hf := fold_len (givesOf (subsE e)) M
      have c2 := l5Given_c (he e hem) (out := M) (σ := σ) (by omega)
      have hK2 := hK2 (j + 1, (givesOf (subsE e)).foldl ins M)
      dsimp only at hK2
      generalize (givesOf (subsE e)).foldl ins M = M2 at c2 j2 hf hK2
      obtain ⟨xk, ⟨xvk, xvn, xvt, xvl⟩, xs, xc, xp⟩ := e
      conv => whnf
      repeat' (first | (refine ElemN.go ?_ (h := hy)) | (refine CallN.one c2 ?_) | refine OrdN.one ?_ | refine Fork.yp ?_ | refine Fork.np ?_ | refine Fork.ny ?_ | refine Fork.nn ?_ | refine Fork.yb ?_ | refine Fork.nb ?_ | refine Fork.dp (fun h => ?_) (fun h => ?_) | refine Fork.dn (fun h => ?_) (fun h => ?_) | (refine Fork.mk (fun h => ?_) (fun h => ?_) <;> simp only [decide_eq_true_eq, decide_eq_false_iff_not, Bool.not_eq_true', Bool.not_eq_false', Bool.or_eq_true, Bool.or_eq_false_iff] at h) | refine GetN.go ?_ | refine Need.ap1 ?_ | refine Need.ap0 ?_ | refine Need.go ?_ | refine Need.draw ?_ | refine ElemN.go ?_ | refine ExtN.ext ?_ | refine ExtN.wr ?_ | refine AllocN.go (fun l hl => ?_) | refine finGo ?_) <;> try (conv => whnf)
      refine hK2 _ _ ⟨by omega, j2, by omega⟩ (by omega) ?_
      (refine ⟨rfl, ?_, ?_, Sub.refl _⟩ <;> repeat' (first | exact EnvLe.nil | exact LocsLe.nil | refine EnvLe.cons _ _ _ ?_ ?_ | refine LocsLe.cons _ _ _ ?_ ?_ | exact CVle.same _ rfl | exact CVle.vec _ _ | exact CVle.nil | exact CVle.tok _ _ _ rfl rfl | exact ObLe.tok _ _ rfl | exact CVles.nil | refine CVles.cons ?_ ?_ | exact ObLe.same _ rfl rfl | refine ObLe.cells rfl ?_))
    · rw [show sOf (es.drop j) = [] by rw [List.drop_eq_nil_of_le (by omega)]; rfl, List.nil_append] at j2 j3
      conv => whnf
      repeat' (first | refine OrdN.one ?_ | refine Fork.yp ?_ | refine Fork.np ?_ | refine Fork.ny ?_ | refine Fork.nn ?_ | refine Fork.yb ?_ | refine Fork.nb ?_ | refine Fork.dp (fun h => ?_) (fun h => ?_) | refine Fork.dn (fun h => ?_) (fun h => ?_) | (refine Fork.mk (fun h => ?_) (fun h => ?_) <;> simp only [decide_eq_true_eq, decide_eq_false_iff_not, Bool.not_eq_true', Bool.not_eq_false', Bool.or_eq_true, Bool.or_eq_false_iff] at h) | refine GetN.go ?_ | refine Need.ap1 ?_ | refine Need.ap0 ?_ | refine Need.go ?_ | refine Need.draw ?_ | refine ElemN.go ?_ | refine ExtN.ext ?_ | refine ExtN.wr ?_ | refine AllocN.go (fun l hl => ?_) | refine finGo ?_) <;> try (conv => whnf)
      refine hK1 M _ _ ⟨by omega, j2, j3⟩ (by omega) ?_
      (refine ⟨rfl, ?_, ?_, Sub.refl _⟩ <;> repeat' (first | exact EnvLe.nil | exact LocsLe.nil | refine EnvLe.cons _ _ _ ?_ ?_ | refine LocsLe.cons _ _ _ ?_ ?_ | exact CVle.same _ rfl | exact CVle.vec _ _ | exact CVle.nil | exact CVle.tok _ _ _ rfl rfl | exact ObLe.tok _ _ rfl | exact CVles.nil | refine CVles.cons ?_ ?_ | exact ObLe.same _ rfl rfl | refine ObLe.cells rfl ?_))
  · rw [show sC (q.drop i) = [] by rw [List.drop_eq_nil_of_le (by omega)]; rfl] at i2
    have i2 : M = F := i2
    subst i2
    conv => whnf
    repeat' (first | refine OrdN.one ?_ | refine Fork.yp ?_ | refine Fork.np ?_ | refine Fork.ny ?_ | refine Fork.nn ?_ | refine Fork.yb ?_ | refine Fork.nb ?_ | refine Fork.dp (fun h => ?_) (fun h => ?_) | refine Fork.dn (fun h => ?_) (fun h => ?_) | (refine Fork.mk (fun h => ?_) (fun h => ?_) <;> simp only [decide_eq_true_eq, decide_eq_false_iff_not, Bool.not_eq_true', Bool.not_eq_false', Bool.or_eq_true, Bool.or_eq_false_iff] at h) | refine GetN.go ?_ | refine Need.ap1 ?_ | refine Need.ap0 ?_ | refine Need.go ?_ | refine Need.draw ?_ | refine ElemN.go ?_ | refine ExtN.ext ?_ | refine ExtN.wr ?_ | refine AllocN.go (fun l hl => ?_) | refine finGo ?_) <;> try (conv => whnf)
    all_goals rfl
theorem sGiven_0 {σ : Heap} {q : List Cl} (h1 : 1 ≤ q.length) (h9 : q.length ≤ 100) {k : Int} (hk : ¬ k = 0) (ck : CRun Tryz.prog 19 [.vec (cls q)] σ (· = .ret (i64 k) σ)) : CRun Tryz.prog 29 [.vec (cls q)] σ (· = .ret (.vec []) σ) := by
  have e3 := cls_len q
  refine crun_of (X := X) X_ok X_sat (body := bodyOf Tryz.f29) Tryz.func29 rfl (by kernel_rfl) (by kernel_rfl) ?_
  rw [Tryz.ntmps29]
  conv => whnf
  repeat' (first | refine OrdN.one ?_ | refine Fork.yp ?_ | refine Fork.np ?_ | refine Fork.ny ?_ | refine Fork.nn ?_ | refine Fork.yb ?_ | refine Fork.nb ?_ | refine Fork.dp (fun h => ?_) (fun h => ?_) | refine Fork.dn (fun h => ?_) (fun h => ?_) | (refine Fork.mk (fun h => ?_) (fun h => ?_) <;> simp only [decide_eq_true_eq, decide_eq_false_iff_not, Bool.not_eq_true', Bool.not_eq_false', Bool.or_eq_true, Bool.or_eq_false_iff] at h) | refine GetN.go ?_ | refine Need.ap1 ?_ | refine Need.ap0 ?_ | refine Need.go ?_ | refine Need.draw ?_ | refine ElemN.go ?_ | refine ExtN.ext ?_ | refine ExtN.wr ?_ | refine AllocN.go (fun l hl => ?_) | refine finGo ?_) <;> try (conv => whnf)
  refine LoopN.rule (α := Unit) (fun _ => ⟨37, [(0, .vec (cls q)), (2, .nil), (3, .vec []), (4, i64 0)], []⟩) (fun _ => σ) (fun _ => 0) (fun _ => True) ?_ () trivial ?_
  rotate_left
  · (refine ⟨rfl, ?_, ?_, Sub.refl _⟩ <;> repeat' (first | exact EnvLe.nil | exact LocsLe.nil | refine EnvLe.cons _ _ _ ?_ ?_ | refine LocsLe.cons _ _ _ ?_ ?_ | exact CVle.same _ rfl | exact CVle.vec _ _ | exact CVle.nil | exact CVle.tok _ _ _ rfl rfl | exact ObLe.tok _ _ rfl | exact CVles.nil | refine CVles.cons ?_ ?_ | exact ObLe.same _ rfl rfl | refine ObLe.cells rfl ?_))
  rintro _ K _ hK
  conv => whnf
  repeat' (first | (refine CallN.one ck ?_) | refine OrdN.one ?_ | refine Fork.yp ?_ | refine Fork.np ?_ | refine Fork.ny ?_ | refine Fork.nn ?_ | refine Fork.yb ?_ | refine Fork.nb ?_ | refine Fork.dp (fun h => ?_) (fun h => ?_) | refine Fork.dn (fun h => ?_) (fun h => ?_) | (refine Fork.mk (fun h => ?_) (fun h => ?_) <;> simp only [decide_eq_true_eq, decide_eq_false_iff_not, Bool.not_eq_true', Bool.not_eq_false', Bool.or_eq_true, Bool.or_eq_false_iff] at h) | refine GetN.go ?_ | refine Need.ap1 ?_ | refine Need.ap0 ?_ | refine Need.go ?_ | refine Need.draw ?_ | refine ElemN.go ?_ | refine ExtN.ext ?_ | refine ExtN.wr ?_ | refine AllocN.go (fun l hl => ?_) | refine finGo ?_) <;> try (conv => whnf)
  all_goals rfl
end Go.Proofs.YthllnbfkfobcjaaGreat
