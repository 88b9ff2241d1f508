/-
  Contracts of the functions that the law reaches.
-/
import Derived.Test.YthllnbfkfobcjaaGreatGB
set_option linter.unusedVariables false
set_option linter.unusedSimpArgs false
namespace Go.Proofs.YthllnbfkfobcjaaGreat
open Go Go.CL
set_option maxRecDepth 10000
theorem null_tame' : Tame nullV := .mk (by omega) (by omega) (by decide) (by decide) (by simp)
set_option maxHeartbeats 4000000 in
theorem l4Ok_c {σ : Heap} {e : Exp} (he : ETame e) : ∀ {d : Int}, -10 ≤ d → d ≤ 1000 → CRun Tryz.prog 107 [e.cv, i64 d] σ (· = .ret (.sc (.bool (okE d e))) σ) := by
  induction he with
  | @mk k v s c ps hv hs hc hl hps ih =>
    intro d hd hd'
    have e3 := ecvs_length ps
    have a1 := fun k => arity_c (σ := σ) (k := k)
    have n1 := l2Name_c (σ := σ) (t := s) (by omega)
    have n2 := l2Name_c (σ := σ) (t := c) (by omega)
    have v1 := specOk_c (σ := σ) hv
    have v2 := lit_c (σ := σ) hv
    have v4 := l1Same_c (σ := σ) hv null_tame'
    rw [← empty_same] at v4
    by_cases hH : OkH d k v s c ps.length
    case neg =>
      have no : COut.ret (.sc (.bool false)) σ = .ret (.sc (.bool (okE d (.mk k v s c ps)))) σ := ansB (okE_no hH)
      have n1 := split n1
      have n2 := split n2
      have v1 := split v1
      have v2 := split v2
      have v4 := split v4
      obtain ⟨vk, vn, vt, vl⟩ := v
      refine crun_of (X := X) X_ok X_sat (body := bodyOf Tryz.f107) Tryz.func107 rfl (by kernel_rfl) (by kernel_rfl) ?_
      rw [Tryz.ntmps107]
      conv => whnf
      repeat' (first | (refine CallN.one (a1 _) ?_) | (refine CallN.many n1 ?_; rintro _ (⟨w1, rfl⟩ | ⟨w1, rfl⟩)) | (refine CallN.many n2 ?_; rintro _ (⟨w2, rfl⟩ | ⟨w2, rfl⟩)) | (refine CallN.many v1 ?_; rintro _ (⟨w3, rfl⟩ | ⟨w3, rfl⟩)) | (refine CallN.many v2 ?_; rintro _ (⟨w4, rfl⟩ | ⟨w4, rfl⟩)) | (refine CallN.many v4 ?_; rintro _ (⟨w6, rfl⟩ | ⟨w6, rfl⟩)) | refine OrdN.one ?_ | refine Fork.yp ?_ | refine Fork.np ?_ | refine Fork.ny ?_ | refine Fork.nn ?_ | refine Fork.dp (fun h => ?_) (fun h => ?_) | refine Fork.dn (fun h => ?_) (fun h => ?_) | refine Need.draw ?_ | refine ExtN.ext ?_ | refine finGo ?_) <;> try (conv => whnf)
      all_goals first
        | exact no
        | exact absurd ⟨by omega, by omega, fun h => by first | assumption | (unfold Named at h; omega), fun h => by first | assumption | exact absurd (by unfold Named; omega) h,
            fun h => by first | assumption | omega, fun h => by first | assumption | omega, fun h => by first | assumption | omega,
            fun h => by first | assumption | omega, fun h => by first | assumption | omega⟩ hH
    have one0 := hH.deep
    have har := hH.ar
    by_cases k1 : k = 1
    · have hs0 := hH.nm' (by unfold Named; omega)
      have hc0 := hH.ky' (by omega)
      rw [hH.vl k1] at v1
      rw [hH.vt k1] at v2
      obtain ⟨vk, vn, vt, vl⟩ := v
      subst hs0 hc0
      refine crun_of (X := X) X_ok X_sat (body := bodyOf Tryz.f107) Tryz.func107 rfl (by kernel_rfl) (by kernel_rfl) ?_
      rw [Tryz.ntmps107]
      conv => whnf
      repeat' (first | (refine CallN.one (a1 _) ?_) | (refine CallN.one v1 ?_) | (refine CallN.one v2 ?_) | refine OrdN.one ?_ | refine Fork.yp ?_ | refine Fork.np ?_ | refine Fork.ny ?_ | refine Fork.nn ?_ | refine Fork.yb ?_ | refine Need.draw ?_ | refine ExtN.ext ?_) <;> try (conv => whnf)
      refine LoopN.rule (α := Nat) (fun i => ⟨119, [(1, i64 d), (2, .ptr (.f 2) 0), (4, .sc (.bool false)), (9, i64 i)], [(2, .cells [i64 k, i64 vk, i64 vn, .sc (.string vt), .vec (Val.cvs vl), .sc (.string ⟨#[]⟩), .sc (.string ⟨#[]⟩), .vec (Exp.cvs ps)])]⟩)
        (fun _ => σ) (fun i => ps.length - i) (fun i => i ≤ ps.length ∧ ∀ j v, j < i → ps[j]? = some v → okE (d - 1) v = true) ?_ 0 ⟨by omega, by omega⟩ ?_
      · rintro i K ⟨h1, h2⟩ hK
        dsimp only at h1 h2 ⊢
        by_cases hi : i < ps.length
        · obtain ⟨⟨ek, ⟨evk, evn, evt, evl⟩, es, ec, eps⟩, hm, hg, hg'⟩ := ecvs_at hi
          have hc := ih _ hm (d := d - 1) (by omega) (by omega)
          cases hz : okE (d - 1) (.mk ek (.mk evk evn evt evl) es ec eps) <;> rw [hz] at hc
          · conv => whnf
            repeat' (first | (refine CallN.one hc ?_) | refine Fork.yp ?_ | refine Need.go ?_ | refine ElemN.go ?_ | refine ExtN.ext ?_ | refine finGo ?_) <;> try (conv => whnf)
            exact ansB (by rw [okE_yes hH, okEL_all]; exact List.all_eq_false.2 ⟨_, hm, by rw [hz]; simp⟩)
          · conv => whnf
            repeat' (first | (refine CallN.one hc ?_) | refine Fork.yp ?_ | refine Need.go ?_ | refine ElemN.go ?_ | refine ExtN.ext ?_) <;> try (conv => whnf)
            refine hK (i + 1) _ _ ⟨by omega, stepG h2 hg hz⟩ (by omega) ?_
            (refine ⟨rfl, ?_, ?_, Sub.refl _⟩ <;> repeat' (first | exact EnvLe.nil | exact LocsLe.nil | refine EnvLe.cons _ _ _ ?_ ?_ | refine LocsLe.cons _ _ _ ?_ ?_ | exact CVle.same _ rfl | exact CVle.vec _ _ | exact CVle.nil | exact CVle.tok _ _ _ rfl rfl | exact ObLe.tok _ _ rfl | exact CVles.nil | refine CVles.cons ?_ ?_ | exact ObLe.same _ rfl rfl | refine ObLe.cells rfl ?_))
        · have hall : okEL (d - 1) ps = true := by rw [okEL_all]; exact all_of fun j v hj => h2 j v (by omega)
          conv => whnf
          repeat' (first | refine Fork.np ?_ | refine finGo ?_) <;> try (conv => whnf)
          exact ansB (by rw [okE_yes hH, hall])
      · (refine ⟨rfl, ?_, ?_, Sub.refl _⟩ <;> repeat' (first | exact EnvLe.nil | exact LocsLe.nil | refine EnvLe.cons _ _ _ ?_ ?_ | refine LocsLe.cons _ _ _ ?_ ?_ | exact CVle.same _ rfl | exact CVle.vec _ _ | exact CVle.nil | exact CVle.tok _ _ _ rfl rfl | exact ObLe.tok _ _ rfl | exact CVles.nil | refine CVles.cons ?_ ?_ | exact ObLe.same _ rfl rfl | refine ObLe.cells rfl ?_))
    have hv1 := hH.vl' k1
    rw [hv1] at v4
    obtain ⟨vk, vn, vt, vl⟩ := v
    by_cases kn : Named k
    · have hs0 := hH.nm kn
      rw [hs0] at n1
      unfold Named at kn
      by_cases k3 : k = 3
      · have hc0 := hH.ky k3
        rw [hc0] at n2
        refine crun_of (X := X) X_ok X_sat (body := bodyOf Tryz.f107) Tryz.func107 rfl (by kernel_rfl) (by kernel_rfl) ?_
        rw [Tryz.ntmps107]
        conv => whnf
        repeat' (first | (refine CallN.one (a1 _) ?_) | (refine CallN.one n1 ?_) | (refine CallN.one n2 ?_) | (refine CallN.one v4 ?_) | refine OrdN.one ?_ | refine Fork.yp ?_ | refine Fork.np ?_ | refine Fork.ny ?_ | refine Fork.nn ?_ | refine Need.draw ?_ | refine ExtN.ext ?_) <;> try (conv => whnf)
        refine LoopN.rule (α := Nat) (fun i => ⟨119, [(1, i64 d), (2, .ptr (.f 2) 0), (4, .sc (.bool false)), (9, i64 i)], [(2, .cells [i64 k, i64 vk, i64 vn, .sc (.string vt), .vec (Val.cvs vl), .sc (.string s), .sc (.string c), .vec (Exp.cvs ps)])]⟩)
          (fun _ => σ) (fun i => ps.length - i) (fun i => i ≤ ps.length ∧ ∀ j v, j < i → ps[j]? = some v → okE (d - 1) v = true) ?_ 0 ⟨by omega, by omega⟩ ?_
        · rintro i K ⟨h1, h2⟩ hK
          dsimp only at h1 h2 ⊢
          by_cases hi : i < ps.length
          · obtain ⟨⟨ek, ⟨evk, evn, evt, evl⟩, es, ec, eps⟩, hm, hg, hg'⟩ := ecvs_at hi
            have hc := ih _ hm (d := d - 1) (by omega) (by omega)
            cases hz : okE (d - 1) (.mk ek (.mk evk evn evt evl) es ec eps) <;> rw [hz] at hc
            · conv => whnf
              repeat' (first | (refine CallN.one hc ?_) | refine Fork.yp ?_ | refine Need.go ?_ | refine ElemN.go ?_ | refine ExtN.ext ?_ | refine finGo ?_) <;> try (conv => whnf)
              exact ansB (by rw [okE_yes hH, okEL_all]; exact List.all_eq_false.2 ⟨_, hm, by rw [hz]; simp⟩)
            · conv => whnf
              repeat' (first | (refine CallN.one hc ?_) | refine Fork.yp ?_ | refine Need.go ?_ | refine ElemN.go ?_ | refine ExtN.ext ?_) <;> try (conv => whnf)
              refine hK (i + 1) _ _ ⟨by omega, stepG h2 hg hz⟩ (by omega) ?_
              (refine ⟨rfl, ?_, ?_, Sub.refl _⟩ <;> repeat' (first | exact EnvLe.nil | exact LocsLe.nil | refine EnvLe.cons _ _ _ ?_ ?_ | refine LocsLe.cons _ _ _ ?_ ?_ | exact CVle.same _ rfl | exact CVle.vec _ _ | exact CVle.nil | exact CVle.tok _ _ _ rfl rfl | exact ObLe.tok _ _ rfl | exact CVles.nil | refine CVles.cons ?_ ?_ | exact ObLe.same _ rfl rfl | refine ObLe.cells rfl ?_))
          · have hall : okEL (d - 1) ps = true := by rw [okEL_all]; exact all_of fun j v hj => h2 j v (by omega)
            conv => whnf
            repeat' (first | refine Fork.np ?_ | refine finGo ?_) <;> try (conv => whnf)
            exact ansB (by rw [okE_yes hH, hall])
        · (refine ⟨rfl, ?_, ?_, Sub.refl _⟩ <;> repeat' (first | exact EnvLe.nil | exact LocsLe.nil | refine EnvLe.cons _ _ _ ?_ ?_ | refine LocsLe.cons _ _ _ ?_ ?_ | exact CVle.same _ rfl | exact CVle.vec _ _ | exact CVle.nil | exact CVle.tok _ _ _ rfl rfl | exact ObLe.tok _ _ rfl | exact CVles.nil | refine CVles.cons ?_ ?_ | exact ObLe.same _ rfl rfl | refine ObLe.cells rfl ?_))
      · have hc0 := hH.ky' k3
        subst hc0
        refine crun_of (X := X) X_ok X_sat (body := bodyOf Tryz.f107) Tryz.func107 rfl (by kernel_rfl) (by kernel_rfl) ?_
        rw [Tryz.ntmps107]
        conv => whnf
        repeat' (first | (refine CallN.one (a1 _) ?_) | (refine CallN.one n1 ?_) | (refine CallN.one v4 ?_) | refine OrdN.one ?_ | refine Fork.yp ?_ | refine Fork.np ?_ | refine Fork.ny ?_ | refine Fork.nn ?_ | refine Fork.yb ?_ | refine Fork.dp (fun h => ?_) (fun h => ?_) | refine Need.draw ?_ | refine ExtN.ext ?_) <;> try (conv => whnf)
        all_goals
          refine LoopN.rule (α := Nat) (fun i => ⟨119, [(1, i64 d), (2, .ptr (.f 2) 0), (4, .sc (.bool false)), (9, i64 i)], [(2, .cells [i64 k, i64 vk, i64 vn, .sc (.string vt), .vec (Val.cvs vl), .sc (.string s), .sc (.string ⟨#[]⟩), .vec (Exp.cvs ps)])]⟩)
            (fun _ => σ) (fun i => ps.length - i) (fun i => i ≤ ps.length ∧ ∀ j v, j < i → ps[j]? = some v → okE (d - 1) v = true) ?_ 0 ⟨by omega, by omega⟩ ?_
          · rintro i K ⟨h1, h2⟩ hK
            dsimp only at h1 h2 ⊢
            by_cases hi : i < ps.length
            · obtain ⟨⟨ek, ⟨evk, evn, evt, evl⟩, es, ec, eps⟩, hm, hg, hg'⟩ := ecvs_at hi
              have hc := ih _ hm (d := d - 1) (by omega) (by omega)
              cases hz : okE (d - 1) (.mk ek (.mk evk evn evt evl) es ec eps) <;> rw [hz] at hc
              · conv => whnf
                repeat' (first | (refine CallN.one hc ?_) | refine Fork.yp ?_ | refine Need.go ?_ | refine ElemN.go ?_ | refine ExtN.ext ?_ | refine finGo ?_) <;> try (conv => whnf)
                exact ansB (by rw [okE_yes hH, okEL_all]; exact List.all_eq_false.2 ⟨_, hm, by rw [hz]; simp⟩)
              · conv => whnf
                repeat' (first | (refine CallN.one hc ?_) | refine Fork.yp ?_ | refine Need.go ?_ | refine ElemN.go ?_ | refine ExtN.ext ?_) <;> try (conv => whnf)
                refine hK (i + 1) _ _ ⟨by omega, stepG h2 hg hz⟩ (by omega) ?_
                (refine ⟨rfl, ?_, ?_, Sub.refl _⟩ <;> repeat' (first | exact EnvLe.nil | exact LocsLe.nil | refine EnvLe.cons _ _ _ ?_ ?_ | refine LocsLe.cons _ _ _ ?_ ?_ | exact CVle.same _ rfl | exact CVle.vec _ _ | exact CVle.nil | exact CVle.tok _ _ _ rfl rfl | exact ObLe.tok _ _ rfl | exact CVles.nil | refine CVles.cons ?_ ?_ | exact ObLe.same _ rfl rfl | refine ObLe.cells rfl ?_))
            · have hall : okEL (d - 1) ps = true := by rw [okEL_all]; exact all_of fun j v hj => h2 j v (by omega)
              conv => whnf
              repeat' (first | refine Fork.np ?_ | refine finGo ?_) <;> try (conv => whnf)
              exact ansB (by rw [okE_yes hH, hall])
          · (refine ⟨rfl, ?_, ?_, Sub.refl _⟩ <;> repeat' (first | exact EnvLe.nil | exact LocsLe.nil | refine EnvLe.cons _ _ _ ?_ ?_ | refine LocsLe.cons _ _ _ ?_ ?_ | exact CVle.same _ rfl | exact CVle.vec _ _ | exact CVle.nil | exact CVle.tok _ _ _ rfl rfl | exact ObLe.tok _ _ rfl | exact CVles.nil | refine CVles.cons ?_ ?_ | exact ObLe.same _ rfl rfl | refine ObLe.cells rfl ?_))
    · have hs0 := hH.nm' kn
      have hc0 := hH.ky' (by unfold Named at kn; omega)
      have k2 : ¬ k = 2 ∧ ¬ k = 3 ∧ ¬ k = 4 := by unfold Named at kn; omega
      obtain ⟨k2, k3, k4⟩ := k2
      subst hs0 hc0
      refine crun_of (X := X) X_ok X_sat (body := bodyOf Tryz.f107) Tryz.func107 rfl (by kernel_rfl) (by kernel_rfl) ?_
      rw [Tryz.ntmps107]
      conv => whnf
      repeat' (first | (refine CallN.one (a1 _) ?_) | (refine CallN.one v4 ?_) | refine OrdN.one ?_ | refine Fork.np ?_ | refine Fork.ny ?_ | refine Fork.nn ?_ | refine Fork.yb ?_ | refine Need.draw ?_ | refine ExtN.ext ?_) <;> try (conv => whnf)
      refine LoopN.rule (α := Nat) (fun i => ⟨119, [(1, i64 d), (2, .ptr (.f 2) 0), (4, .sc (.bool false)), (9, i64 i)], [(2, .cells [i64 k, i64 vk, i64 vn, .sc (.string vt), .vec (Val.cvs vl), .sc (.string ⟨#[]⟩), .sc (.string ⟨#[]⟩), .vec (Exp.cvs ps)])]⟩)
        (fun _ => σ) (fun i => ps.length - i) (fun i => i ≤ ps.length ∧ ∀ j v, j < i → ps[j]? = some v → okE (d - 1) v = true) ?_ 0 ⟨by omega, by omega⟩ ?_
      · rintro i K ⟨h1, h2⟩ hK
        dsimp only at h1 h2 ⊢
        by_cases hi : i < ps.length
        · obtain ⟨⟨ek, ⟨evk, evn, evt, evl⟩, es, ec, eps⟩, hm, hg, hg'⟩ := ecvs_at hi
          have hc := ih _ hm (d := d - 1) (by omega) (by omega)
          cases hz : okE (d - 1) (.mk ek (.mk evk evn evt evl) es ec eps) <;> rw [hz] at hc
          · conv => whnf
            repeat' (first | (refine CallN.one hc ?_) | refine Fork.yp ?_ | refine Need.go ?_ | refine ElemN.go ?_ | refine ExtN.ext ?_ | refine finGo ?_) <;> try (conv => whnf)
            exact ansB (by rw [okE_yes hH, okEL_all]; exact List.all_eq_false.2 ⟨_, hm, by rw [hz]; simp⟩)
          · conv => whnf
            repeat' (first | (refine CallN.one hc ?_) | refine Fork.yp ?_ | refine Need.go ?_ | refine ElemN.go ?_ | refine ExtN.ext ?_) <;> try (conv => whnf)
            refine hK (i + 1) _ _ ⟨by omega, stepG h2 hg hz⟩ (by omega) ?_
            (refine ⟨rfl, ?_, ?_, Sub.refl _⟩ <;> repeat' (first | exact EnvLe.nil | exact LocsLe.nil | refine EnvLe.cons _ _ _ ?_ ?_ | refine LocsLe.cons _ _ _ ?_ ?_ | exact CVle.same _ rfl | exact CVle.vec _ _ | exact CVle.nil | exact CVle.tok _ _ _ rfl rfl | exact ObLe.tok _ _ rfl | exact CVles.nil | refine CVles.cons ?_ ?_ | exact ObLe.same _ rfl rfl | refine ObLe.cells rfl ?_))
        · have hall : okEL (d - 1) ps = true := by rw [okEL_all]; exact all_of fun j v hj => h2 j v (by omega)
          conv => whnf
          repeat' (first | refine Fork.np ?_ | refine finGo ?_) <;> try (conv => whnf)
          exact ansB (by rw [okE_yes hH, hall])
      · (refine ⟨rfl, ?_, ?_, Sub.refl _⟩ <;> repeat' (first | exact EnvLe.nil | exact LocsLe.nil | refine EnvLe.cons _ _ _ ?_ ?_ | refine LocsLe.cons _ _ _ ?_ ?_ | exact CVle.same _ rfl | exact CVle.vec _ _ | exact CVle.nil | exact CVle.tok _ _ _ rfl rfl | exact ObLe.tok _ _ rfl | exact CVles.nil | refine CVles.cons ?_ ?_ | exact ObLe.same _ rfl rfl | refine ObLe.cells rfl ?_))
theorem implExprOk_c {σ : Heap} {e : Exp} (he : ETame e) : CRun Tryz.prog 36 [e.cv] σ (· = .ret (.sc (.bool (okE 4 e))) σ) := by
  have c := exprFits_c (σ := σ) he (d := 4) (by omega) (by omega)
  obtain ⟨k, ⟨vk, vn, vt, vl⟩, s, c', ps⟩ := e
  refine crun_of (X := X) X_ok X_sat (body := bodyOf Tryz.f36) Tryz.func36 rfl (by kernel_rfl) (by kernel_rfl) ?_
  rw [Tryz.ntmps36]
  conv => whnf
  repeat' (first | (refine CallN.one c ?_) | refine ExtN.ext ?_ | refine finGo ?_) <;> try (conv => whnf)
  all_goals rfl
theorem specExprOk_c {σ : Heap} {e : Exp} (he : ETame e) : CRun Tryz.prog 46 [e.cv] σ (· = .ret (.sc (.bool (okE 4 e))) σ) := by
  have c := l4Ok_c (σ := σ) he (d := 4) (by omega) (by omega)
  obtain ⟨k, ⟨vk, vn, vt, vl⟩, s, c', ps⟩ := e
  refine crun_of (X := X) X_ok X_sat (body := bodyOf Tryz.f46) Tryz.func46 rfl (by kernel_rfl) (by kernel_rfl) ?_
  rw [Tryz.ntmps46]
  conv => whnf
  repeat' (first | (refine CallN.one c ?_) | refine ExtN.ext ?_ | refine finGo ?_) <;> try (conv => whnf)
  all_goals rfl
end Go.Proofs.YthllnbfkfobcjaaGreat
