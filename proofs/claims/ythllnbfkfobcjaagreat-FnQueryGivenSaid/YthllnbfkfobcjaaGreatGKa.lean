/-
  Contracts of the functions that the law reaches.
-/
import Derived.Test.YthllnbfkfobcjaaGreatGG
set_option linter.unusedVariables false
set_option linter.unusedSimpArgs false
namespace Go.Proofs.YthllnbfkfobcjaaGreat
open Go Go.CL
set_option maxRecDepth 10000
set_option maxHeartbeats 4000000 in
theorem l5Form_a {σ : Heap} {c : Cl} (hs : ClT c) (ho : ClO c) (hk : c.kind = 1 ∨ c.kind = 2 ∨ c.kind = 7) : CRun Tryz.prog 55 [c.cv] σ (· = .ret (.sc (.bool (clOk c))) σ) := by
  have d0 := l5None_c (σ := σ) hs.e
  have d1 := l5Paths_c (σ := σ) hs.p hs.pt
  obtain ⟨r1, n1, o1⟩ := ho
  have hq : clOk c = clOk c := rfl
  conv at hq => rhs; unfold clOk
  generalize clOk c = B at hq ⊢
  unfold pB rB tB nB eB mB at hq
  obtain ⟨⟨k1, k2⟩, y1, -, -, y3, t1, -, t3, -, ⟨s1, s2⟩, ⟨l1, l2⟩, y4, -, y5, -⟩ := hs
  obtain ⟨k, ps, ⟨ek, ⟨vk, vn, vt, vl⟩, es, ec, ep⟩, n, is, di, os, sk, li, ts, ns, de⟩ := c
  dsimp only at *
  have e1 := pths_len ps
  have e3 := its_len is
  have e4 := ods_len os
  have e5 := tgs_len ts
  have e6 := sts_len ns
  generalize mtE ⟨ek, ⟨vk, vn, vt, vl⟩, es, ec, ep⟩ = e at *
  generalize pthsOk ps = f1 at *
  have leaf : ∀ b, (B = b) → COut.ret (.sc (.bool b)) σ = .ret (.sc (.bool B)) σ := fun b h => ansB h
  rcases o1 with ⟨o1, o2, o3, o4⟩ | ⟨o1, o2, o3, o4⟩ | ⟨o1, o2, o3, o4⟩ | ⟨o1, o2, o3, o4⟩ | ⟨o1, o2, o3, o4⟩
  all_goals
    first
    | (have r1' := r1 o2
       clear r1
       obtain ⟨r1, r2, r3⟩ := r1'
       subst r2
       by_cases r4 : sk = -1)
    | (cases di <;> clear r1)
  all_goals
    first
    | (have n1' := n1 o4
       subst n1'
       clear n1)
    | (cases de <;> clear n1)
  all_goals
    cases f1
  all_goals
    cases e
  all_goals
    simp only [decide_true, decide_false, Bool.true_and, Bool.false_and, Bool.and_false, Bool.and_true, true_and, false_and, and_true, and_false, not_false_eq_true, *] at hq
  all_goals
    rcases hk with rfl | rfl | rfl
  all_goals
    refine crun_of (X := X) X_ok X_sat (body := bodyOf Tryz.f55) Tryz.func55 rfl (by kernel_rfl) (by kernel_rfl) ?_
    rw [Tryz.ntmps55]
    conv => whnf
    repeat' (first | (refine CallN.one d0 ?_) | (refine CallN.one d1 ?_) | refine Fork.yp ?_ | refine Fork.np ?_ | refine Fork.dp (fun h => ?_) (fun h => ?_) | refine Need.go ?_ | refine ExtN.ext ?_ | refine finGo ?_) <;> try (conv => whnf)
    all_goals
      clear d0 d1
      refine leaf _ (hq.trans ?_)
      simp [*]
end Go.Proofs.YthllnbfkfobcjaaGreat
