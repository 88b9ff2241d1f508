/-
  Contracts of the functions that the law reaches.
-/
import Derived.Test.YthllnbfkfobcjaaGreatGF
set_option linter.unusedVariables false
set_option linter.unusedSimpArgs false
namespace Go.Proofs.YthllnbfkfobcjaaGreat
open Go Go.CL
set_option maxRecDepth 10000
theorem tosForm_c {σ : Heap} {ts : List Tg} (hk : ts.length ≤ 1000) (ht : ∀ p ∈ ts, TgT p) : CRun Tryz.prog 191 [.vec (tgs ts)] σ (· = .ret (.sc (.bool (tgsOk ts))) σ) := by
  have e3 := tgs_len ts
  have no : ∀ p ∈ ts, tgOk p = false → COut.ret (.sc (.bool false)) σ = .ret (.sc (.bool (tgsOk ts))) σ := fun p hp h => ansB (by unfold tgsOk; rw [all_no hp h, Bool.and_false])
  have no1 : decide (1 ≤ ts.length ∧ ts.length ≤ 5) = false → COut.ret (.sc (.bool false)) σ = .ret (.sc (.bool (tgsOk ts))) σ := fun h => ansB (by unfold tgsOk; rw [h]; rfl)
  refine crun_of (X := X) X_ok X_sat (body := bodyOf Tryz.f191) Tryz.func191 rfl (by kernel_rfl) (by kernel_rfl) ?_
  rw [Tryz.ntmps191]
  by_cases a1 : 1 ≤ ts.length
  case neg =>
    conv => whnf
    repeat' (first | refine Fork.yp ?_ | refine finGo ?_) <;> try (conv => whnf)
    all_goals exact no1 (decide_eq_false (by omega))
  by_cases a2 : ts.length ≤ 5
  case neg =>
    conv => whnf
    repeat' (first | refine Fork.yp ?_ | refine Fork.np ?_ | refine finGo ?_) <;> try (conv => whnf)
    all_goals exact no1 (decide_eq_false (by omega))
  conv => whnf
  repeat' (first | refine Fork.np ?_) <;> try (conv => whnf)
  refine LoopN.rule (α := Nat) (fun i => ⟨36, [(2, .sc (.bool false)), (13, .vec (tgs ts)), (14, i64 (tgs ts).length), (15, i64 i)], []⟩)
    (fun _ => σ) (fun i => ts.length - i) (fun i => i ≤ ts.length ∧ (ts.take i).all tgOk = true) ?_ 0 ⟨by omega, by simp⟩ ?_
  rotate_left
  · (refine ⟨rfl, ?_, ?_, Sub.refl _⟩ <;> repeat' (first | exact EnvLe.nil | exact LocsLe.nil | refine EnvLe.cons _ _ _ ?_ ?_ | refine LocsLe.cons _ _ _ ?_ ?_ | exact CVle.same _ rfl | exact CVle.vec _ _ | exact CVle.nil | exact CVle.tok _ _ _ rfl rfl | exact ObLe.tok _ _ rfl | exact CVles.nil | refine CVles.cons ?_ ?_ | exact ObLe.same _ rfl rfl | refine ObLe.cells rfl ?_))
  rintro i K ⟨h1, h2⟩ hK
  dsimp only at h1 h2 hK ⊢
  by_cases hi : i < ts.length
  · obtain ⟨⟨pn, pk, ⟨ek, ⟨vk, vn, vt, vl⟩, es, ec, ep⟩⟩, hm, hg, hg'⟩ := map_at (f := Tg.cv) hi
    obtain ⟨t1, t2, t3⟩ := ht _ hm
    have no := no _ hm
    have c1 := nameOk_c (σ := σ) (t := pn) (by dsimp only at t1; omega)
    have c2 := nameOk_c (σ := σ) (t := pk) (by dsimp only at t2; omega)
    have c3 := implExprOk_c (σ := σ) t3
    have e : tgOk ⟨pn, pk, .mk ek (.mk vk vn vt vl) es ec ep⟩ = (nameOk pn && (nameOk pk && okE 4 (.mk ek (.mk vk vn vt vl) es ec ep))) := rfl
    dsimp only at c3
    cases hn : nameOk pn <;> rw [hn] at c1 e
    · conv => whnf
      repeat' (first | (refine CallN.one c1 ?_) | refine Fork.yp ?_ | refine Need.go ?_ | refine ElemN.go ?_ | refine ExtN.ext ?_ | refine finGo ?_) <;> try (conv => whnf)
      all_goals exact no e
    cases hy : nameOk pk <;> rw [hy] at c2 e
    · conv => whnf
      repeat' (first | (refine CallN.one c1 ?_) | (refine CallN.one c2 ?_) | refine Fork.yp ?_ | refine Need.go ?_ | refine ElemN.go ?_ | refine ExtN.ext ?_ | refine finGo ?_) <;> try (conv => whnf)
      all_goals exact no e
    cases hv : okE 4 (.mk ek (.mk vk vn vt vl) es ec ep) <;> rw [hv] at c3 e
    · conv => whnf
      repeat' (first | (refine CallN.one c1 ?_) | (refine CallN.one c2 ?_) | (refine CallN.one c3 ?_) | refine Fork.yp ?_ | refine Need.go ?_ | refine ElemN.go ?_ | refine ExtN.ext ?_ | refine finGo ?_) <;> try (conv => whnf)
      all_goals exact no e
    conv => whnf
    repeat' (first | (refine CallN.one c1 ?_) | (refine CallN.one c2 ?_) | (refine CallN.one c3 ?_) | refine Fork.yp ?_ | refine Need.go ?_ | refine ElemN.go ?_ | refine ExtN.ext ?_) <;> try (conv => whnf)
    refine hK (i + 1) _ _ ⟨by omega, all_take hg h2 e⟩ (by omega) ?_
    (refine ⟨rfl, ?_, ?_, Sub.refl _⟩ <;> repeat' (first | exact EnvLe.nil | exact LocsLe.nil | refine EnvLe.cons _ _ _ ?_ ?_ | refine LocsLe.cons _ _ _ ?_ ?_ | exact CVle.same _ rfl | exact CVle.vec _ _ | exact CVle.nil | exact CVle.tok _ _ _ rfl rfl | exact ObLe.tok _ _ rfl | exact CVles.nil | refine CVles.cons ?_ ?_ | exact ObLe.same _ rfl rfl | refine ObLe.cells rfl ?_))
  · rw [List.take_of_length_le (by omega)] at h2
    conv => whnf
    repeat' (first | refine Fork.np ?_ | refine finGo ?_) <;> try (conv => whnf)
    all_goals exact ansB (by unfold tgsOk; rw [h2, decide_eq_true ⟨a1, a2⟩]; rfl)
theorem namesForm_c {σ : Heap} {ns : List ByteArray} (hk : ns.length ≤ 1000) (ht : ∀ p ∈ ns, p.size ≤ 1000) : CRun Tryz.prog 192 [.vec (sts ns)] σ (· = .ret (.sc (.bool (nmsOk ns))) σ) := by
  have e3 := sts_len ns
  have no : ∀ p ∈ ns, nameOk p = false → COut.ret (.sc (.bool false)) σ = .ret (.sc (.bool (nmsOk ns))) σ := fun p hp h => ansB (by unfold nmsOk; rw [all_no hp h, Bool.and_false])
  have no1 : decide (1 ≤ ns.length ∧ ns.length ≤ 5) = false → COut.ret (.sc (.bool false)) σ = .ret (.sc (.bool (nmsOk ns))) σ := fun h => ansB (by unfold nmsOk; rw [h]; rfl)
  refine crun_of (X := X) X_ok X_sat (body := bodyOf Tryz.f192) Tryz.func192 rfl (by kernel_rfl) (by kernel_rfl) ?_
  rw [Tryz.ntmps192]
  by_cases a1 : 1 ≤ ns.length
  case neg =>
    conv => whnf
    repeat' (first | refine Fork.yp ?_ | refine finGo ?_) <;> try (conv => whnf)
    all_goals exact no1 (decide_eq_false (by omega))
  by_cases a2 : ns.length ≤ 5
  case neg =>
    conv => whnf
    repeat' (first | refine Fork.yp ?_ | refine Fork.np ?_ | refine finGo ?_) <;> try (conv => whnf)
    all_goals exact no1 (decide_eq_false (by omega))
  conv => whnf
  repeat' (first | refine Fork.np ?_) <;> try (conv => whnf)
  refine LoopN.rule (α := Nat) (fun i => ⟨23, [(2, .sc (.bool false)), (13, .vec (sts ns)), (14, i64 (sts ns).length), (15, i64 i)], []⟩)
    (fun _ => σ) (fun i => ns.length - i) (fun i => i ≤ ns.length ∧ (ns.take i).all nameOk = true) ?_ 0 ⟨by omega, by simp⟩ ?_
  rotate_left
  · (refine ⟨rfl, ?_, ?_, Sub.refl _⟩ <;> repeat' (first | exact EnvLe.nil | exact LocsLe.nil | refine EnvLe.cons _ _ _ ?_ ?_ | refine LocsLe.cons _ _ _ ?_ ?_ | exact CVle.same _ rfl | exact CVle.vec _ _ | exact CVle.nil | exact CVle.tok _ _ _ rfl rfl | exact ObLe.tok _ _ rfl | exact CVles.nil | refine CVles.cons ?_ ?_ | exact ObLe.same _ rfl rfl | refine ObLe.cells rfl ?_))
  rintro i K ⟨h1, h2⟩ hK
  dsimp only at h1 h2 hK ⊢
  by_cases hi : i < ns.length
  · obtain ⟨pn, hm, hg, hg'⟩ := map_at (f := fun s : ByteArray => CV.sc (.string s)) hi
    have no := no _ hm
    have c1 := nameOk_c (σ := σ) (t := pn) (by have := ht _ hm; omega)
    cases hn : nameOk pn <;> rw [hn] at c1
    · conv => whnf
      repeat' (first | (refine CallN.one c1 ?_) | refine Fork.yp ?_ | refine Need.go ?_ | refine ElemN.go ?_ | refine ExtN.ext ?_ | refine finGo ?_) <;> try (conv => whnf)
      all_goals exact no hn
    conv => whnf
    repeat' (first | (refine CallN.one c1 ?_) | refine Fork.yp ?_ | refine Need.go ?_ | refine ElemN.go ?_ | refine ExtN.ext ?_) <;> try (conv => whnf)
    refine hK (i + 1) _ _ ⟨by omega, all_take hg h2 hn⟩ (by omega) ?_
    (refine ⟨rfl, ?_, ?_, Sub.refl _⟩ <;> repeat' (first | exact EnvLe.nil | exact LocsLe.nil | refine EnvLe.cons _ _ _ ?_ ?_ | refine LocsLe.cons _ _ _ ?_ ?_ | exact CVle.same _ rfl | exact CVle.vec _ _ | exact CVle.nil | exact CVle.tok _ _ _ rfl rfl | exact ObLe.tok _ _ rfl | exact CVles.nil | refine CVles.cons ?_ ?_ | exact ObLe.same _ rfl rfl | refine ObLe.cells rfl ?_))
  · rw [List.take_of_length_le (by omega)] at h2
    conv => whnf
    repeat' (first | refine Fork.np ?_ | refine finGo ?_) <;> try (conv => whnf)
    all_goals exact ansB (by unfold nmsOk; rw [h2, decide_eq_true ⟨a1, a2⟩]; rfl)
theorem l5Tos_c {σ : Heap} {ts : List Tg} (hk : ts.length ≤ 1000) (ht : ∀ p ∈ ts, TgT p) : CRun Tryz.prog 127 [.vec (tgs ts)] σ (· = .ret (.sc (.bool (tgsOk ts))) σ) := by
  have e3 := tgs_len ts
  have no : ∀ p ∈ ts, tgOk p = false → COut.ret (.sc (.bool false)) σ = .ret (.sc (.bool (tgsOk ts))) σ := fun p hp h => ansB (by unfold tgsOk; rw [all_no hp h, Bool.and_false])
  have cin := fun n a b => in_c (σ := σ) (n := n) (lo := a) (hi := b)
  refine crun_of (X := X) X_ok X_sat (body := bodyOf Tryz.f127) Tryz.func127 rfl (by kernel_rfl) (by kernel_rfl) ?_
  rw [Tryz.ntmps127]
  conv => whnf
  repeat' (first | refine OrdN.one ?_ | refine Fork.yp ?_ | refine Fork.np ?_ | refine Fork.ny ?_ | refine Fork.nn ?_ | refine Fork.yb ?_ | refine Fork.nb ?_ | refine Fork.dp (fun h => ?_) (fun h => ?_) | refine Fork.dn (fun h => ?_) (fun h => ?_) | (refine Fork.mk (fun h => ?_) (fun h => ?_) <;> simp only [decide_eq_true_eq, decide_eq_false_iff_not, Bool.not_eq_true', Bool.not_eq_false', Bool.or_eq_true, Bool.or_eq_false_iff] at h) | refine GetN.go ?_ | refine Need.ap1 ?_ | refine Need.ap0 ?_ | refine Need.go ?_ | refine Need.draw ?_ | refine ElemN.go ?_ | refine ExtN.ext ?_ | refine ExtN.wr ?_ | refine AllocN.go (fun l hl => ?_) | refine finGo ?_) <;> try (conv => whnf)
  refine LoopN.rule (α := Nat) (fun i => ⟨38, [(0, .vec (tgs ts)), (2, .sc (.bool false)), (3, i64 i)], []⟩)
    (fun _ => σ) (fun i => ts.length - i) (fun i => i ≤ ts.length ∧ (ts.take i).all tgOk = true) ?_ 0 ⟨by omega, by simp⟩ ?_
  rotate_left
  · (refine ⟨rfl, ?_, ?_, Sub.refl _⟩ <;> repeat' (first | exact EnvLe.nil | exact LocsLe.nil | refine EnvLe.cons _ _ _ ?_ ?_ | refine LocsLe.cons _ _ _ ?_ ?_ | exact CVle.same _ rfl | exact CVle.vec _ _ | exact CVle.nil | exact CVle.tok _ _ _ rfl rfl | exact ObLe.tok _ _ rfl | exact CVles.nil | refine CVles.cons ?_ ?_ | exact ObLe.same _ rfl rfl | refine ObLe.cells rfl ?_))
  rintro i K ⟨h1, h2⟩ hK
  dsimp only at h1 h2 hK ⊢
  by_cases hi : i < ts.length
  · obtain ⟨⟨pn, pk, ⟨ek, ⟨vk, vn, vt, vl⟩, es, ec, ep⟩⟩, hm, hg, hg'⟩ := map_at (f := Tg.cv) hi
    obtain ⟨t1, t2, t3⟩ := ht _ hm
    have no := no _ hm
    have c1 := l2Name_c (σ := σ) (t := pn) (by dsimp only at t1; omega)
    have c2 := l2Name_c (σ := σ) (t := pk) (by dsimp only at t2; omega)
    have c3 := specExprOk_c (σ := σ) t3
    have e : tgOk ⟨pn, pk, .mk ek (.mk vk vn vt vl) es ec ep⟩ = (nameOk pn && (nameOk pk && okE 4 (.mk ek (.mk vk vn vt vl) es ec ep))) := rfl
    dsimp only at c3
    cases hn : nameOk pn <;> rw [hn] at c1 e
    · conv => whnf
      repeat' (first | (refine CallN.one c1 ?_) | refine Fork.yp ?_ | refine Need.go ?_ | refine ElemN.go ?_ | refine ExtN.ext ?_ | refine finGo ?_) <;> try (conv => whnf)
      all_goals exact no e
    cases hy : nameOk pk <;> rw [hy] at c2 e
    · conv => whnf
      repeat' (first | (refine CallN.one c1 ?_) | (refine CallN.one c2 ?_) | refine Fork.yp ?_ | refine Need.go ?_ | refine ElemN.go ?_ | refine ExtN.ext ?_ | refine finGo ?_) <;> try (conv => whnf)
      all_goals exact no e
    cases hv : okE 4 (.mk ek (.mk vk vn vt vl) es ec ep) <;> rw [hv] at c3 e
    · conv => whnf
      repeat' (first | (refine CallN.one c1 ?_) | (refine CallN.one c2 ?_) | (refine CallN.one c3 ?_) | refine Fork.yp ?_ | refine Need.go ?_ | refine ElemN.go ?_ | refine ExtN.ext ?_ | refine finGo ?_) <;> try (conv => whnf)
      all_goals exact no e
    conv => whnf
    repeat' (first | (refine CallN.one c1 ?_) | (refine CallN.one c2 ?_) | (refine CallN.one c3 ?_) | refine Fork.yp ?_ | refine Need.go ?_ | refine ElemN.go ?_ | refine ExtN.ext ?_) <;> try (conv => whnf)
    refine hK (i + 1) _ _ ⟨by omega, all_take hg h2 e⟩ (by omega) ?_
    (refine ⟨rfl, ?_, ?_, Sub.refl _⟩ <;> repeat' (first | exact EnvLe.nil | exact LocsLe.nil | refine EnvLe.cons _ _ _ ?_ ?_ | refine LocsLe.cons _ _ _ ?_ ?_ | exact CVle.same _ rfl | exact CVle.vec _ _ | exact CVle.nil | exact CVle.tok _ _ _ rfl rfl | exact ObLe.tok _ _ rfl | exact CVles.nil | refine CVles.cons ?_ ?_ | exact ObLe.same _ rfl rfl | refine ObLe.cells rfl ?_))
  · rw [List.take_of_length_le (by omega)] at h2
    have d4 := cin (tgs ts).length 1 5
    rw [e3] at d4
    have hq : tgsOk ts = decide (1 ≤ (ts.length : Int) ∧ (ts.length : Int) ≤ 5) := by unfold tgsOk; rw [h2, Bool.and_true]; exact decide_eq_decide.2 (by omega)
    rw [hq]
    rw [← e3] at d4 ⊢
    conv => whnf
    repeat' (first | (refine CallN.one d4 ?_) | refine Fork.np ?_ | refine ExtN.ext ?_ | refine finGo ?_) <;> try (conv => whnf)
    all_goals rfl
theorem l5Names_c {σ : Heap} {ns : List ByteArray} (hk : ns.length ≤ 1000) (ht : ∀ p ∈ ns, p.size ≤ 1000) : CRun Tryz.prog 128 [.vec (sts ns)] σ (· = .ret (.sc (.bool (nmsOk ns))) σ) := by
  have e3 := sts_len ns
  have no : ∀ p ∈ ns, nameOk p = false → COut.ret (.sc (.bool false)) σ = .ret (.sc (.bool (nmsOk ns))) σ := fun p hp h => ansB (by unfold nmsOk; rw [all_no hp h, Bool.and_false])
  have cin := fun n a b => in_c (σ := σ) (n := n) (lo := a) (hi := b)
  refine crun_of (X := X) X_ok X_sat (body := bodyOf Tryz.f128) Tryz.func128 rfl (by kernel_rfl) (by kernel_rfl) ?_
  rw [Tryz.ntmps128]
  conv => whnf
  repeat' (first | refine OrdN.one ?_ | refine Fork.yp ?_ | refine Fork.np ?_ | refine Fork.ny ?_ | refine Fork.nn ?_ | refine Fork.yb ?_ | refine Fork.nb ?_ | refine Fork.dp (fun h => ?_) (fun h => ?_) | refine Fork.dn (fun h => ?_) (fun h => ?_) | (refine Fork.mk (fun h => ?_) (fun h => ?_) <;> simp only [decide_eq_true_eq, decide_eq_false_iff_not, Bool.not_eq_true', Bool.not_eq_false', Bool.or_eq_true, Bool.or_eq_false_iff] at h) | refine GetN.go ?_ | refine Need.ap1 ?_ | refine Need.ap0 ?_ | refine Need.go ?_ | refine Need.draw ?_ | refine ElemN.go ?_ | refine ExtN.ext ?_ | refine ExtN.wr ?_ | refine AllocN.go (fun l hl => ?_) | refine finGo ?_) <;> try (conv => whnf)
  refine LoopN.rule (α := Nat) (fun i => ⟨19, [(0, .vec (sts ns)), (2, .sc (.bool false)), (3, i64 i)], []⟩)
    (fun _ => σ) (fun i => ns.length - i) (fun i => i ≤ ns.length ∧ (ns.take i).all nameOk = true) ?_ 0 ⟨by omega, by simp⟩ ?_
  rotate_left
  · (refine ⟨rfl, ?_, ?_, Sub.refl _⟩ <;> repeat' (first | exact EnvLe.nil | exact LocsLe.nil | refine EnvLe.cons _ _ _ ?_ ?_ | refine LocsLe.cons _ _ _ ?_ ?_ | exact CVle.same _ rfl | exact CVle.vec _ _ | exact CVle.nil | exact CVle.tok _ _ _ rfl rfl | exact ObLe.tok _ _ rfl | exact CVles.nil | refine CVles.cons ?_ ?_ | exact ObLe.same _ rfl rfl | refine ObLe.cells rfl ?_))
  rintro i K ⟨h1, h2⟩ hK
  dsimp only at h1 h2 hK ⊢
  by_cases hi : i < ns.length
  · obtain ⟨pn, hm, hg, hg'⟩ := map_at (f := fun s : ByteArray => CV.sc (.string s)) hi
    have no := no _ hm
    have c1 := l2Name_c (σ := σ) (t := pn) (by have := ht _ hm; omega)
    cases hn : nameOk pn <;> rw [hn] at c1
    · conv => whnf
      repeat' (first | (refine CallN.one c1 ?_) | refine Fork.yp ?_ | refine Need.go ?_ | refine ElemN.go ?_ | refine ExtN.ext ?_ | refine finGo ?_) <;> try (conv => whnf)
      all_goals exact no hn
    conv => whnf
    repeat' (first | (refine CallN.one c1 ?_) | refine Fork.yp ?_ | refine Need.go ?_ | refine ElemN.go ?_ | refine ExtN.ext ?_) <;> try (conv => whnf)
    refine hK (i + 1) _ _ ⟨by omega, all_take hg h2 hn⟩ (by omega) ?_
    (refine ⟨rfl, ?_, ?_, Sub.refl _⟩ <;> repeat' (first | exact EnvLe.nil | exact LocsLe.nil | refine EnvLe.cons _ _ _ ?_ ?_ | refine LocsLe.cons _ _ _ ?_ ?_ | exact CVle.same _ rfl | exact CVle.vec _ _ | exact CVle.nil | exact CVle.tok _ _ _ rfl rfl | exact ObLe.tok _ _ rfl | exact CVles.nil | refine CVles.cons ?_ ?_ | exact ObLe.same _ rfl rfl | refine ObLe.cells rfl ?_))
  · rw [List.take_of_length_le (by omega)] at h2
    have d4 := cin (sts ns).length 1 5
    rw [e3] at d4
    have hq : nmsOk ns = decide (1 ≤ (ns.length : Int) ∧ (ns.length : Int) ≤ 5) := by unfold nmsOk; rw [h2, Bool.and_true]; exact decide_eq_decide.2 (by omega)
    rw [hq]
    rw [← e3] at d4 ⊢
    conv => whnf
    repeat' (first | (refine CallN.one d4 ?_) | refine Fork.np ?_ | refine ExtN.ext ?_ | refine finGo ?_) <;> try (conv => whnf)
    all_goals rfl
theorem l2Has_c {σ : Heap} {ns : List ByteArray} {s : ByteArray} (hk : ns.length ≤ 1000000000) : CRun Tryz.prog 131 [.vec (sts ns), .sc (.string s)] σ (· = .ret (.sc (.bool (hasB ns s))) σ) := by
  have e3 := sts_len ns
  refine crun_of (X := X) X_ok X_sat (body := bodyOf Tryz.f131) Tryz.func131 rfl (by kernel_rfl) (by kernel_rfl) ?_
  rw [Tryz.ntmps131]
  conv => whnf
  repeat' (first | refine OrdN.one ?_ | refine Fork.yp ?_ | refine Fork.np ?_ | refine Fork.ny ?_ | refine Fork.nn ?_ | refine Fork.yb ?_ | refine Fork.nb ?_ | refine Fork.dp (fun h => ?_) (fun h => ?_) | refine Fork.dn (fun h => ?_) (fun h => ?_) | (refine Fork.mk (fun h => ?_) (fun h => ?_) <;> simp only [decide_eq_true_eq, decide_eq_false_iff_not, Bool.not_eq_true', Bool.not_eq_false', Bool.or_eq_true, Bool.or_eq_false_iff] at h) | refine GetN.go ?_ | refine Need.ap1 ?_ | refine Need.ap0 ?_ | refine Need.go ?_ | refine Need.draw ?_ | refine ElemN.go ?_ | refine ExtN.ext ?_ | refine ExtN.wr ?_ | refine AllocN.go (fun l hl => ?_) | refine finGo ?_) <;> try (conv => whnf)
  refine LoopN.rule (α := Nat) (fun i => ⟨18, [(0, .vec (sts ns)), (1, .sc (.string s)), (4, .sc (.bool false)), (5, i64 i)], []⟩)
    (fun _ => σ) (fun i => ns.length - i) (fun i => i ≤ ns.length ∧ ∀ x ∈ ns.take i, ¬ x = s) ?_ 0 ⟨by omega, by simp⟩ ?_
  rotate_left
  · (refine ⟨rfl, ?_, ?_, Sub.refl _⟩ <;> repeat' (first | exact EnvLe.nil | exact LocsLe.nil | refine EnvLe.cons _ _ _ ?_ ?_ | refine LocsLe.cons _ _ _ ?_ ?_ | exact CVle.same _ rfl | exact CVle.vec _ _ | exact CVle.nil | exact CVle.tok _ _ _ rfl rfl | exact ObLe.tok _ _ rfl | exact CVles.nil | refine CVles.cons ?_ ?_ | exact ObLe.same _ rfl rfl | refine ObLe.cells rfl ?_))
  rintro i K ⟨h1, h2⟩ hK
  dsimp only at h1 h2 hK ⊢
  by_cases hi : i < ns.length
  · obtain ⟨pn, hm, hg, hg'⟩ := map_at (f := fun s : ByteArray => CV.sc (.string s)) hi
    by_cases he : pn = s
    · have hh : hasB ns s = true := hasB_iff.2 (he ▸ hm)
      conv => whnf
      repeat' (first | refine Fork.yp ?_ | refine Need.go ?_ | refine ElemN.go ?_ | refine finGo ?_) <;> try (conv => whnf)
      all_goals exact ansB hh
    · conv => whnf
      repeat' (first | refine Fork.yp ?_ | refine Fork.np ?_ | refine Need.go ?_ | refine ElemN.go ?_) <;> try (conv => whnf)
      refine hK (i + 1) _ _ ⟨by omega, ?_⟩ (by omega) ?_
      · rw [List.take_add_one, hg]
        intro x hx
        rcases List.mem_append.1 hx with hx | hx
        · exact h2 x hx
        · rw [List.mem_singleton.1 hx]; exact he
      (refine ⟨rfl, ?_, ?_, Sub.refl _⟩ <;> repeat' (first | exact EnvLe.nil | exact LocsLe.nil | refine EnvLe.cons _ _ _ ?_ ?_ | refine LocsLe.cons _ _ _ ?_ ?_ | exact CVle.same _ rfl | exact CVle.vec _ _ | exact CVle.nil | exact CVle.tok _ _ _ rfl rfl | exact ObLe.tok _ _ rfl | exact CVles.nil | refine CVles.cons ?_ ?_ | exact ObLe.same _ rfl rfl | refine ObLe.cells rfl ?_))
  · rw [List.take_of_length_le (by omega)] at h2
    have hh := hasB_no h2
    conv => whnf
    repeat' (first | refine Fork.np ?_ | refine finGo ?_) <;> try (conv => whnf)
    all_goals exact ansB hh
theorem sts_app (a : List ByteArray) (s : ByteArray) : sts (a ++ [s]) = sts a ++ [.sc (.string s)] := by simp [sts]
theorem sts_take_len {l : List It} {i : Nat} (h : i ≤ l.length) : (sts ((l.take i).map It.name)).length = i := by rw [sts_len, List.length_map, List.length_take]; omega
theorem l5Items_c {σ : Heap} {c : Cl} (hs : ClT c) : CRun Tryz.prog 126 [c.cv] σ (· = .ret (.sc (.bool (rowsOk c.items c.orders c.skip c.limit))) σ) := by
  obtain ⟨k, ps, ⟨ek, ⟨vk, vn, vt, vl⟩, es, ec, ep⟩, n, is, di, os, sk, li, ts, ns, de⟩ := c
  obtain ⟨-, -, -, -, -, t1, t2, t3, t4, ⟨s1, s2⟩, ⟨l1, l2⟩, -, -, -, -⟩ := hs
  dsimp only at t1 t2 t3 t4 s1 s2 l1 l2 ⊢
  have e3 := its_len is
  have e4 := ods_len os
  have no5 : ∀ i, i < is.length → itAt is i = false → COut.ret (.sc (.bool false)) σ = .ret (.sc (.bool (rowsOk is os sk li))) σ := fun i hi h => ansB (by unfold rowsOk; rw [range_no hi h, Bool.false_and, Bool.and_false, Bool.and_false, Bool.and_false, Bool.and_false])
  have no6 : ∀ o ∈ os, hasB (is.map It.name) o.name = false → COut.ret (.sc (.bool false)) σ = .ret (.sc (.bool (rowsOk is os sk li))) σ := fun o ho h => ansB (by unfold rowsOk; rw [all_no ho h, Bool.and_false, Bool.and_false, Bool.and_false, Bool.and_false, Bool.and_false])
  have cin := fun n a b => in_c (σ := σ) (n := n) (lo := a) (hi := b)
  refine crun_of (X := X) X_ok X_sat (body := bodyOf Tryz.f126) Tryz.func126 rfl (by kernel_rfl) (by kernel_rfl) ?_
  rw [Tryz.ntmps126]
  conv => whnf
  repeat' (first | refine OrdN.one ?_ | refine Fork.yp ?_ | refine Fork.np ?_ | refine Fork.ny ?_ | refine Fork.nn ?_ | refine Fork.yb ?_ | refine Fork.nb ?_ | refine Fork.dp (fun h => ?_) (fun h => ?_) | refine Fork.dn (fun h => ?_) (fun h => ?_) | (refine Fork.mk (fun h => ?_) (fun h => ?_) <;> simp only [decide_eq_true_eq, decide_eq_false_iff_not, Bool.not_eq_true', Bool.not_eq_false', Bool.or_eq_true, Bool.or_eq_false_iff] at h) | refine GetN.go ?_ | refine Need.ap1 ?_ | refine Need.ap0 ?_ | refine Need.go ?_ | refine Need.draw ?_ | refine ElemN.go ?_ | refine ExtN.ext ?_ | refine ExtN.wr ?_ | refine AllocN.go (fun l hl => ?_) | refine finGo ?_) <;> try (conv => whnf)
  refine LoopN.rule (α := Nat) (fun i => ⟨86, [(1, .ptr (.f 1) 0), (2, .sc (.bool false)), (3, .avec 6 (sts ((is.take i).map It.name))), (4, i64 i)], [(1, .cells (Cl.cells ⟨k, ps, ⟨ek, ⟨vk, vn, vt, vl⟩, es, ec, ep⟩, n, is, di, os, sk, li, ts, ns, de⟩)), (6, .tok 9 1 (sts ((is.take i).map It.name)).length)]⟩)
    (fun _ => σ) (fun i => is.length - i) (fun i => i ≤ is.length ∧ ∀ j, j < i → itAt is j = true) ?_ 0 ⟨by omega, by omega⟩ ?_
  rotate_left
  · (refine ⟨rfl, ?_, ?_, Sub.refl _⟩ <;> repeat' (first | exact EnvLe.nil | exact LocsLe.nil | refine EnvLe.cons _ _ _ ?_ ?_ | refine LocsLe.cons _ _ _ ?_ ?_ | exact CVle.same _ rfl | exact CVle.vec _ _ | exact CVle.nil | exact CVle.tok _ _ _ rfl rfl | exact ObLe.tok _ _ rfl | exact CVles.nil | refine CVles.cons ?_ ?_ | exact ObLe.same _ rfl rfl | refine ObLe.cells rfl ?_))
  rintro i K ⟨h1, h2⟩ hK
  try dsimp only at h1 h2 ⊢
  have hK := hK (i + 1)
  try dsimp only at hK
  by_cases hi : i < is.length
  · obtain ⟨⟨⟨ek, ⟨vk, vn, vt, vl⟩, es, ec, ep⟩, pn⟩, hm, hg, hg'⟩ := map_at (f := It.cv) hi
    rw [take_map_succ hg, sts_app, List.length_append] at hK
    have e5 := sts_take_len (l := is) (i := i) (by omega)
    have c3 := l2Name_c (σ := σ) (t := pn) (by have := (t2 _ hm).n; dsimp only at this; omega)
    have c4 := specExprOk_c (σ := σ) (t2 _ hm).e
    have c5 := l2Has_c (σ := σ) (ns := (is.take i).map It.name) (s := pn) (by rw [List.length_map, List.length_take]; omega)
    have no := no5 i hi
    have e := itAt_of hg
    try dsimp only at e hK c4
    cases hv : okE 4 (.mk ek (.mk vk vn vt vl) es ec ep) <;> rw [hv] at c4 e
    · conv => whnf
      repeat' (first | (refine CallN.one c4 ?_) | refine Fork.yp ?_ | refine Need.go ?_ | refine ElemN.go ?_ | refine ExtN.ext ?_ | refine finGo ?_) <;> try (conv => whnf)
      all_goals exact no (by rw [e]; simp)
    cases hn : nameOk pn <;> rw [hn] at c3 e
    · conv => whnf
      repeat' (first | (refine CallN.one c4 ?_) | (refine CallN.one c3 ?_) | refine Fork.yp ?_ | refine Need.go ?_ | refine ElemN.go ?_ | refine ExtN.ext ?_ | refine finGo ?_) <;> try (conv => whnf)
      all_goals exact no e
    cases hq : hasB ((is.take i).map It.name) pn <;> rw [hq] at e c5
    · conv => whnf
      repeat' (first | (refine CallN.one c4 ?_) | (refine CallN.one c3 ?_) | (refine CallN.one c5 ?_) | refine Fork.yp ?_ | refine Fork.nb ?_ | refine Need.ap1 ?_ | refine Need.go ?_ | refine ElemN.go ?_ | refine ExtN.ext ?_) <;> try (conv => whnf)
      refine hK _ _ ⟨by omega, stepAll h2 e⟩ (by omega) ?_
      (refine ⟨rfl, ?_, ?_, Sub.refl _⟩ <;> repeat' (first | exact EnvLe.nil | exact LocsLe.nil | refine EnvLe.cons _ _ _ ?_ ?_ | refine LocsLe.cons _ _ _ ?_ ?_ | exact CVle.same _ rfl | exact CVle.vec _ _ | exact CVle.nil | exact CVle.tok _ _ _ rfl rfl | exact ObLe.tok _ _ rfl | exact CVles.nil | refine CVles.cons ?_ ?_ | exact ObLe.same _ rfl rfl | refine ObLe.cells rfl ?_))
    · conv => whnf
      repeat' (first | (refine CallN.one c4 ?_) | (refine CallN.one c3 ?_) | (refine CallN.one c5 ?_) | refine Fork.yp ?_ | refine Need.go ?_ | refine ElemN.go ?_ | refine ExtN.ext ?_ | refine finGo ?_) <;> try (conv => whnf)
      all_goals exact no e
  · have hall : ∀ i, i < is.length → itAt is i = true := fun j hj => h2 j (by omega)
    rw [List.take_of_length_le (by omega)]
    have e6 : (sts (is.map It.name)).length = is.length := by rw [sts_len, List.length_map]
    clear hK
    conv => whnf
    repeat' (first | refine Fork.np ?_) <;> try (conv => whnf)
    refine LoopN.rule (α := Nat) (fun i => ⟨86, [(1, .ptr (.f 1) 0), (2, .sc (.bool false)), (3, .avec 6 (sts (is.map It.name))), (5, i64 i)], [(1, .cells (Cl.cells ⟨k, ps, ⟨ek, ⟨vk, vn, vt, vl⟩, es, ec, ep⟩, n, is, di, os, sk, li, ts, ns, de⟩)), (6, .tok 9 1 (sts (is.map It.name)).length)]⟩)
      (fun _ => σ) (fun i => os.length - i) (fun i => i ≤ os.length ∧ ((os.take i).all fun o => hasB (is.map It.name) o.name) = true) ?_ 0 ⟨by omega, by simp⟩ ?_
    rotate_left
    · (refine ⟨rfl, ?_, ?_, Sub.refl _⟩ <;> repeat' (first | exact EnvLe.nil | exact LocsLe.nil | refine EnvLe.cons _ _ _ ?_ ?_ | refine LocsLe.cons _ _ _ ?_ ?_ | exact CVle.same _ rfl | exact CVle.vec _ _ | exact CVle.nil | exact CVle.tok _ _ _ rfl rfl | exact ObLe.tok _ _ rfl | exact CVles.nil | refine CVles.cons ?_ ?_ | exact ObLe.same _ rfl rfl | refine ObLe.cells rfl ?_))
    rintro j K ⟨h3, h4⟩ hK
    dsimp only at h3 h4 hK ⊢
    by_cases hj : j < os.length
    · obtain ⟨⟨on, od⟩, um, ug, ug'⟩ := map_at (f := Od.cv) hj
      have c5 := l2Has_c (σ := σ) (ns := is.map It.name) (s := on) (by rw [List.length_map]; omega)
      cases hq : hasB (is.map It.name) on <;> rw [hq] at c5
      · conv => whnf
        repeat' (first | (refine CallN.one c5 ?_) | refine Fork.yp ?_ | refine Need.go ?_ | refine ElemN.go ?_ | refine ExtN.ext ?_ | refine finGo ?_) <;> try (conv => whnf)
        all_goals exact no6 _ um hq
      · conv => whnf
        repeat' (first | (refine CallN.one c5 ?_) | refine Fork.yp ?_ | refine Need.go ?_ | refine ElemN.go ?_ | refine ExtN.ext ?_) <;> try (conv => whnf)
        refine hK (_ + 1) _ _ ⟨by omega, all_take ug h4 hq⟩ (by omega) ?_
        (refine ⟨rfl, ?_, ?_, Sub.refl _⟩ <;> repeat' (first | exact EnvLe.nil | exact LocsLe.nil | refine EnvLe.cons _ _ _ ?_ ?_ | refine LocsLe.cons _ _ _ ?_ ?_ | exact CVle.same _ rfl | exact CVle.vec _ _ | exact CVle.nil | exact CVle.tok _ _ _ rfl rfl | exact ObLe.tok _ _ rfl | exact CVles.nil | refine CVles.cons ?_ ?_ | exact ObLe.same _ rfl rfl | refine ObLe.cells rfl ?_))
    · rw [List.take_of_length_le (by omega)] at h4
      have d1 := cin (sts (is.map It.name)).length 1 5
      have d2 := cin sk (-1) 1000
      have d3 := cin li (-1) 1000
      have hq : rowsOk is os sk li = (decide (1 ≤ ((sts (is.map It.name)).length : Int) ∧ ((sts (is.map It.name)).length : Int) ≤ 5) && (decide (os.length ≤ 5) && (decide (-1 ≤ sk ∧ sk ≤ 1000) && decide (-1 ≤ li ∧ li ≤ 1000)))) := by
        unfold rowsOk; rw [range_yes hall, h4, Bool.and_true, Bool.and_true, e6]; congr 1; exact decide_eq_decide.2 (by omega)
      cases b1 : decide (1 ≤ ((sts (is.map It.name)).length : Int) ∧ ((sts (is.map It.name)).length : Int) ≤ 5) <;> rw [b1] at d1 hq
      · conv => whnf
        repeat' (first | (refine CallN.one d1 ?_) | refine Fork.np ?_ | refine ExtN.ext ?_ | refine finGo ?_) <;> try (conv => whnf)
        all_goals exact ansB hq
      by_cases b2 : os.length ≤ 5
      case neg =>
        rw [decide_eq_false b2] at hq
        conv => whnf
        repeat' (first | (refine CallN.one d1 ?_) | refine Fork.np ?_ | refine ExtN.ext ?_ | refine finGo ?_) <;> try (conv => whnf)
        all_goals exact ansB hq
      rw [decide_eq_true b2] at hq
      cases b3 : decide (-1 ≤ sk ∧ sk ≤ 1000) <;> rw [b3] at d2 hq
      · conv => whnf
        repeat' (first | (refine CallN.one d1 ?_) | (refine CallN.one d2 ?_) | refine Fork.yp ?_ | refine Fork.np ?_ | refine ExtN.ext ?_ | refine finGo ?_) <;> try (conv => whnf)
        all_goals exact ansB hq
      conv => whnf
      repeat' (first | (refine CallN.one d1 ?_) | (refine CallN.one d2 ?_) | (refine CallN.one d3 ?_) | refine Fork.yp ?_ | refine Fork.np ?_ | refine ExtN.ext ?_ | refine finGo ?_) <;> try (conv => whnf)
      all_goals exact ansB hq
def mtE : Exp → Bool
  | .mk k v s c ps => decide (k = 0) && (emptyV v && (decide (s = ⟨#[]⟩) && (decide (c = ⟨#[]⟩) && decide (ps.length = 0))))
theorem exprEmpty_c {σ : Heap} {e : Exp} (h : ETame e) : CRun Tryz.prog 230 [e.cv] σ (· = .ret (.sc (.bool (mtE e))) σ) := by
  obtain ⟨ek, ⟨vk, vn, vt, vl⟩, es, ec, ep⟩ := e
  obtain ⟨h1, h2, h3, h4, h5⟩ := h.inv
  have e3 := ecvs_length ep
  have c1 := empty_c (σ := σ) h1
  have hq : mtE (.mk ek (.mk vk vn vt vl) es ec ep) = (decide (ek = 0) && (emptyV (.mk vk vn vt vl) && (decide (es = ⟨#[]⟩) && (decide (ec = ⟨#[]⟩) && decide (ep.length = 0))))) := rfl
  refine crun_of (X := X) X_ok X_sat (body := bodyOf Tryz.f230) Tryz.func230 rfl (by kernel_rfl) (by kernel_rfl) ?_
  rw [Tryz.ntmps230]
  by_cases b1 : ek = 0
  case neg =>
    rw [decide_eq_false b1] at hq
    conv => whnf
    repeat' (first | refine Fork.np ?_ | refine finGo ?_) <;> try (conv => whnf)
    all_goals exact ansB hq
  rw [decide_eq_true b1] at hq
  cases b2 : emptyV (.mk vk vn vt vl) <;> rw [b2] at hq c1
  · conv => whnf
    repeat' (first | (refine CallN.one c1 ?_) | refine Fork.yp ?_ | refine ExtN.ext ?_ | refine finGo ?_) <;> try (conv => whnf)
    all_goals exact ansB hq
  by_cases b3 : es = ⟨#[]⟩
  case neg =>
    rw [decide_eq_false b3] at hq
    conv => whnf
    repeat' (first | (refine CallN.one c1 ?_) | refine Fork.yp ?_ | refine Fork.np ?_ | refine ExtN.ext ?_ | refine finGo ?_) <;> try (conv => whnf)
    all_goals exact ansB hq
  rw [decide_eq_true b3] at hq
  by_cases b4 : ec = ⟨#[]⟩
  case neg =>
    rw [decide_eq_false b4] at hq
    conv => whnf
    repeat' (first | (refine CallN.one c1 ?_) | refine Fork.yp ?_ | refine Fork.np ?_ | refine ExtN.ext ?_ | refine finGo ?_) <;> try (conv => whnf)
    all_goals exact ansB hq
  rw [decide_eq_true b4] at hq
  by_cases b5 : ep.length = 0
  case neg =>
    rw [decide_eq_false b5] at hq
    conv => whnf
    repeat' (first | (refine CallN.one c1 ?_) | refine Fork.yp ?_ | refine Fork.np ?_ | refine ExtN.ext ?_ | refine finGo ?_) <;> try (conv => whnf)
    all_goals exact ansB hq
  rw [decide_eq_true b5] at hq
  conv => whnf
  repeat' (first | (refine CallN.one c1 ?_) | refine Fork.yp ?_ | refine ExtN.ext ?_ | refine finGo ?_) <;> try (conv => whnf)
  all_goals exact ansB hq
theorem l5None_c {σ : Heap} {e : Exp} (h : ETame e) : CRun Tryz.prog 124 [e.cv] σ (· = .ret (.sc (.bool (mtE e))) σ) := by
  obtain ⟨ek, ⟨vk, vn, vt, vl⟩, es, ec, ep⟩ := e
  obtain ⟨h1, h2, h3, h4, h5⟩ := h.inv
  have e3 := ecvs_length ep
  have c1 := l1Same_c (σ := σ) h1 (v' := nullV) (.mk (by omega) (by omega) (by decide) (by decide) (by simp))
  rw [← empty_same] at c1
  simp only [nullV] at c1
  have hq : mtE (.mk ek (.mk vk vn vt vl) es ec ep) = (decide (ek = 0) && (emptyV (.mk vk vn vt vl) && (decide (es = ⟨#[]⟩) && (decide (ec = ⟨#[]⟩) && decide (ep.length = 0))))) := rfl
  refine crun_of (X := X) X_ok X_sat (body := bodyOf Tryz.f124) Tryz.func124 rfl (by kernel_rfl) (by kernel_rfl) ?_
  rw [Tryz.ntmps124]
  by_cases b1 : ek = 0
  case neg =>
    rw [decide_eq_false b1] at hq
    conv => whnf
    repeat' (first | refine Fork.np ?_ | refine finGo ?_) <;> try (conv => whnf)
    all_goals exact ansB hq
  rw [decide_eq_true b1, Bool.true_and] at hq
  by_cases b3 : es = ⟨#[]⟩
  case neg =>
    rw [decide_eq_false b3, Bool.false_and, Bool.and_false] at hq
    conv => whnf
    repeat' (first | refine Fork.yp ?_ | refine Fork.np ?_ | refine finGo ?_) <;> try (conv => whnf)
    all_goals exact ansB hq
  rw [decide_eq_true b3, Bool.true_and] at hq
  by_cases b4 : ec = ⟨#[]⟩
  case neg =>
    rw [decide_eq_false b4, Bool.false_and, Bool.and_false] at hq
    conv => whnf
    repeat' (first | refine Fork.yp ?_ | refine Fork.np ?_ | refine finGo ?_) <;> try (conv => whnf)
    all_goals exact ansB hq
  rw [decide_eq_true b4, Bool.true_and] at hq
  by_cases b5 : ep.length = 0
  case neg =>
    rw [decide_eq_false b5, Bool.and_false] at hq
    conv => whnf
    repeat' (first | refine Fork.yp ?_ | refine Fork.np ?_ | refine finGo ?_) <;> try (conv => whnf)
    all_goals exact ansB hq
  rw [decide_eq_true b5, Bool.and_true] at hq
  conv => whnf
  repeat' (first | (refine CallN.one c1 ?_) | refine Fork.yp ?_ | refine ExtN.ext ?_ | refine finGo ?_) <;> try (conv => whnf)
  all_goals exact ansB hq
def pB (c : Cl) : Bool := decide (c.paths.length = 0)
def rB (c : Cl) : Bool := decide (c.items.length = 0 ∧ c.orders.length = 0 ∧ c.dist = false ∧ c.skip = -1 ∧ c.limit = -1)
def tB (c : Cl) : Bool := decide (c.tos.length = 0)
def nB (c : Cl) : Bool := decide (c.names.length = 0 ∧ c.det = false)
def eB (c : Cl) : Bool := mtE c.e
def mB (c : Cl) : Bool := decide (c.name = ⟨#[]⟩)
def bare (c : Cl) : Bool := pB c && (eB c && (mB c && (rB c && (tB c && nB c))))
theorem clauseBare_c {σ : Heap} {c : Cl} (hs : ClT c) : CRun Tryz.prog 189 [c.cv] σ (· = .ret (.sc (.bool (bare c))) σ) := by
  obtain ⟨k, ps, ⟨ek, ⟨vk, vn, vt, vl⟩, es, ec, ep⟩, n, is, di, os, sk, li, ts, ns, de⟩ := c
  obtain ⟨-, y1, -, y2, y3, t1, t2, t3, t4, ⟨s1, s2⟩, ⟨l1, l2⟩, y4, -, y5, -⟩ := hs
  dsimp only at t1 t3 s1 s2 l1 l2 y1 y2 y3 y4 y5
  have e1 := pths_len ps
  have e3 := its_len is
  have e4 := ods_len os
  have e5 := tgs_len ts
  have e6 := sts_len ns
  have c1 := exprEmpty_c (σ := σ) y2
  have hq : bare ⟨k, ps, ⟨ek, ⟨vk, vn, vt, vl⟩, es, ec, ep⟩, n, is, di, os, sk, li, ts, ns, de⟩ =
    (decide (ps.length = 0) && (mtE ⟨ek, ⟨vk, vn, vt, vl⟩, es, ec, ep⟩ && (decide (n = ⟨#[]⟩) && (decide (is.length = 0 ∧ os.length = 0 ∧ di = false ∧ sk = -1 ∧ li = -1) && (decide (ts.length = 0) && decide (ns.length = 0 ∧ de = false)))))) := rfl
  generalize bare ⟨k, ps, ⟨ek, ⟨vk, vn, vt, vl⟩, es, ec, ep⟩, n, is, di, os, sk, li, ts, ns, de⟩ = B at hq ⊢
  refine crun_of (X := X) X_ok X_sat (body := bodyOf Tryz.f189) Tryz.func189 rfl (by kernel_rfl) (by kernel_rfl) ?_
  rw [Tryz.ntmps189]
  by_cases b1 : ps.length = 0
  case neg =>
    rw [decide_eq_false b1] at hq
    conv => whnf
    repeat' (first | refine Fork.np ?_ | refine finGo ?_) <;> try (conv => whnf)
    all_goals exact ansB hq
  rw [decide_eq_true b1] at hq
  cases b2 : mtE ⟨ek, ⟨vk, vn, vt, vl⟩, es, ec, ep⟩ <;> rw [b2] at c1 hq
  · conv => whnf
    repeat' (first | (refine CallN.one c1 ?_) | refine Fork.yp ?_ | refine ExtN.ext ?_ | refine finGo ?_) <;> try (conv => whnf)
    all_goals exact ansB hq
  by_cases b3 : n = ⟨#[]⟩
  case neg =>
    rw [decide_eq_false b3] at hq
    conv => whnf
    repeat' (first | (refine CallN.one c1 ?_) | refine Fork.yp ?_ | refine Fork.np ?_ | refine ExtN.ext ?_ | refine finGo ?_) <;> try (conv => whnf)
    all_goals exact ansB hq
  rw [decide_eq_true b3, Bool.true_and, Bool.true_and, Bool.true_and] at hq
  by_cases b4 : is.length = 0
  case neg =>
    rw [decide_eq_false (fun h => b4 h.1)] at hq
    conv => whnf
    repeat' (first | (refine CallN.one c1 ?_) | refine Fork.yp ?_ | refine Fork.np ?_ | refine ExtN.ext ?_ | refine finGo ?_) <;> try (conv => whnf)
    all_goals exact ansB hq
  cases di
  case true =>
    rw [decide_eq_false (fun h => by cases h.2.2.1)] at hq
    conv => whnf
    repeat' (first | (refine CallN.one c1 ?_) | refine Fork.yp ?_ | refine ExtN.ext ?_ | refine finGo ?_) <;> try (conv => whnf)
    all_goals exact ansB hq
  by_cases b6 : os.length = 0
  case neg =>
    rw [decide_eq_false (fun h => b6 h.2.1)] at hq
    conv => whnf
    repeat' (first | (refine CallN.one c1 ?_) | refine Fork.yp ?_ | refine Fork.np ?_ | refine ExtN.ext ?_ | refine finGo ?_) <;> try (conv => whnf)
    all_goals exact ansB hq
  by_cases b7 : sk = -1
  case neg =>
    rw [decide_eq_false (fun h => b7 h.2.2.2.1)] at hq
    conv => whnf
    repeat' (first | (refine CallN.one c1 ?_) | refine Fork.yp ?_ | refine Fork.np ?_ | refine ExtN.ext ?_ | refine finGo ?_) <;> try (conv => whnf)
    all_goals exact ansB hq
  by_cases b8 : li = -1
  case neg =>
    rw [decide_eq_false (fun h => b8 h.2.2.2.2)] at hq
    conv => whnf
    repeat' (first | (refine CallN.one c1 ?_) | refine Fork.yp ?_ | refine Fork.np ?_ | refine ExtN.ext ?_ | refine finGo ?_) <;> try (conv => whnf)
    all_goals exact ansB hq
  rw [decide_eq_true ⟨b4, b6, rfl, b7, b8⟩, Bool.true_and] at hq
  by_cases b9 : ts.length = 0
  case neg =>
    rw [decide_eq_false b9] at hq
    conv => whnf
    repeat' (first | (refine CallN.one c1 ?_) | refine Fork.yp ?_ | refine Fork.np ?_ | refine ExtN.ext ?_ | refine finGo ?_) <;> try (conv => whnf)
    all_goals exact ansB hq
  rw [decide_eq_true b9] at hq
  by_cases b10 : ns.length = 0
  case neg =>
    rw [decide_eq_false (fun h => b10 h.1)] at hq
    conv => whnf
    repeat' (first | (refine CallN.one c1 ?_) | refine Fork.yp ?_ | refine Fork.np ?_ | refine ExtN.ext ?_ | refine finGo ?_) <;> try (conv => whnf)
    all_goals exact ansB hq
  cases de
  case true =>
    rw [decide_eq_false (fun h => by cases h.2)] at hq
    conv => whnf
    repeat' (first | (refine CallN.one c1 ?_) | refine Fork.yp ?_ | refine ExtN.ext ?_ | refine finGo ?_) <;> try (conv => whnf)
    all_goals exact ansB hq
  rw [decide_eq_true ⟨b10, rfl⟩] at hq
  conv => whnf
  repeat' (first | (refine CallN.one c1 ?_) | refine Fork.yp ?_ | refine ExtN.ext ?_ | refine finGo ?_) <;> try (conv => whnf)
  all_goals exact ansB hq
def clOk (c : Cl) : Bool :=
  if c.kind = 1 ∨ c.kind = 2 ∨ c.kind = 7 then pthsOk c.paths && (rB c && (tB c && (nB c && (eB c && mB c))))
  else if c.kind = 3 then okE 4 c.e && (pB c && (rB c && (tB c && (nB c && mB c))))
  else if c.kind = 4 then okE 4 c.e && (nameOk c.name && (pB c && (rB c && (tB c && nB c))))
  else if c.kind = 5 ∨ c.kind = 6 then rowsOk c.items c.orders c.skip c.limit && (pB c && (tB c && (nB c && (eB c && mB c))))
  else if c.kind = 8 then tgsOk c.tos && (pB c && (rB c && (nB c && (eB c && mB c))))
  else if c.kind = 9 then nmsOk c.names && (pB c && (rB c && (tB c && (eB c && mB c))))
  else false
def nullE : Exp := .mk 0 (.mk 0 0 ⟨#[]⟩ []) ⟨#[]⟩ ⟨#[]⟩ []
theorem nullE_t : ETame nullE := .mk (.mk (by omega) (by omega) (by decide) (by decide) (by simp)) (by decide) (by decide) (by simp) (by simp)
theorem ClT.p0 {c : Cl} (h : ClT c) : ClT { c with paths := [] } := ⟨h.k, by simp, by simp, h.e, h.n, h.i, h.it, h.o, h.ot, h.s, h.l, h.t, h.tt, h.m, h.mt⟩
theorem ClT.e0 {c : Cl} (h : ClT c) : ClT { c with e := nullE } := ⟨h.k, h.p, h.pt, nullE_t, h.n, h.i, h.it, h.o, h.ot, h.s, h.l, h.t, h.tt, h.m, h.mt⟩
theorem ClT.n0 {c : Cl} (h : ClT c) : ClT { c with name := ⟨#[]⟩ } := ⟨h.k, h.p, h.pt, h.e, Nat.zero_le _, h.i, h.it, h.o, h.ot, h.s, h.l, h.t, h.tt, h.m, h.mt⟩
theorem ClT.r0 {c : Cl} (h : ClT c) : ClT { c with items := [], dist := false, orders := [], skip := -1, limit := -1 } := ⟨h.k, h.p, h.pt, h.e, h.n, by simp, by simp, by simp, by simp, by simp [Sm], by simp [Sm], h.t, h.tt, h.m, h.mt⟩
theorem ClT.t0 {c : Cl} (h : ClT c) : ClT { c with tos := [] } := ⟨h.k, h.p, h.pt, h.e, h.n, h.i, h.it, h.o, h.ot, h.s, h.l, by simp, by simp, h.m, h.mt⟩
theorem ClT.m0 {c : Cl} (h : ClT c) : ClT { c with names := [], det := false } := ⟨h.k, h.p, h.pt, h.e, h.n, h.i, h.it, h.o, h.ot, h.s, h.l, h.t, h.tt, by simp, by simp⟩
theorem clauseForm_c {σ : Heap} {c : Cl} (hs : ClT c) : CRun Tryz.prog 116 [c.cv] σ (· = .ret (.sc (.bool (clOk c))) σ) := by
  have c1 := clauseBare_c (σ := σ) hs.p0
  have c2 := clauseBare_c (σ := σ) hs.e0
  have c3 := clauseBare_c (σ := σ) hs.e0.n0
  have c4 := clauseBare_c (σ := σ) hs.r0
  have c5 := clauseBare_c (σ := σ) hs.t0
  have c6 := clauseBare_c (σ := σ) hs.m0
  have d1 := pathsForm_c (σ := σ) hs.p hs.pt
  have d2 := implExprOk_c (σ := σ) hs.e
  have d3 := nameOk_c (σ := σ) (t := c.name) (by have := hs.n; omega)
  have d4 := rowsForm_c (σ := σ) hs
  have d5 := tosForm_c (σ := σ) hs.t hs.tt
  have d6 := namesForm_c (σ := σ) hs.m hs.mt
  have r1 : bare { c with paths := [] } = (rB c && (tB c && (nB c && (eB c && mB c)))) := by
    show (true && (eB c && (mB c && (rB c && (tB c && nB c))))) = _
    cases rB c <;> cases tB c <;> cases nB c <;> cases eB c <;> cases mB c <;> rfl
  have r2 : bare { c with e := nullE } = (pB c && (rB c && (tB c && (nB c && mB c)))) := by
    show (pB c && (true && (mB c && (rB c && (tB c && nB c))))) = _
    cases rB c <;> cases tB c <;> cases nB c <;> cases pB c <;> cases mB c <;> rfl
  have r3 : bare { c with e := nullE, name := ⟨#[]⟩ } = (pB c && (rB c && (tB c && nB c))) := by
    show (pB c && (true && (true && (rB c && (tB c && nB c))))) = _
    cases rB c <;> cases tB c <;> cases nB c <;> cases pB c <;> rfl
  have r4 : bare { c with items := [], dist := false, orders := [], skip := -1, limit := -1 } = (pB c && (tB c && (nB c && (eB c && mB c)))) := by
    show (pB c && (eB c && (mB c && (true && (tB c && nB c))))) = _
    cases eB c <;> cases tB c <;> cases nB c <;> cases pB c <;> cases mB c <;> rfl
  have r5 : bare { c with tos := [] } = (pB c && (rB c && (nB c && (eB c && mB c)))) := by
    show (pB c && (eB c && (mB c && (rB c && (true && nB c))))) = _
    cases eB c <;> cases rB c <;> cases nB c <;> cases pB c <;> cases mB c <;> rfl
  have r6 : bare { c with names := [], det := false } = (pB c && (rB c && (tB c && (eB c && mB c)))) := by
    show (pB c && (eB c && (mB c && (rB c && (tB c && true))))) = _
    cases eB c <;> cases rB c <;> cases tB c <;> cases pB c <;> cases mB c <;> rfl
  rw [r1] at c1; rw [r2] at c2; rw [r3] at c3; rw [r4] at c4; rw [r5] at c5; rw [r6] at c6
  clear r1 r2 r3 r4 r5 r6
  have hq : clOk c = clOk c := rfl
  conv at hq => rhs; unfold clOk
  generalize clOk c = B at hq ⊢
  generalize pB c = p at *
  generalize rB c = r at *
  generalize tB c = t at *
  generalize nB c = nn at *
  generalize eB c = e at *
  generalize mB c = m at *
  obtain ⟨⟨k1, k2⟩, -, -, -, -, -, -, -, -, -, -, -, -, -, -⟩ := hs
  obtain ⟨k, ps, ⟨ek, ⟨vk, vn, vt, vl⟩, es, ec, ep⟩, n, is, di, os, sk, li, ts, ns, de⟩ := c
  dsimp only at *
  refine crun_of (X := X) X_ok X_sat (body := bodyOf Tryz.f116) Tryz.func116 rfl (by kernel_rfl) (by kernel_rfl) ?_
  rw [Tryz.ntmps116]
  by_cases q1 : k = 1 ∨ k = 2 ∨ k = 7
  · rw [if_pos q1] at hq
    cases b1 : pthsOk ps <;> rw [b1] at d1 hq
    all_goals
      rcases q1 with rfl | rfl | rfl
      all_goals
        conv => whnf
        repeat' (first | (refine CallN.one d1 ?_) | (refine CallN.one c1 ?_) | refine Fork.yp ?_ | refine Fork.np ?_ | refine ExtN.ext ?_ | refine finGo ?_) <;> try (conv => whnf)
        all_goals exact ansB hq
  rw [if_neg q1] at hq
  by_cases q2 : k = 3
  · rw [if_pos q2] at hq
    subst q2
    cases b1 : okE 4 ⟨ek, ⟨vk, vn, vt, vl⟩, es, ec, ep⟩ <;> rw [b1] at d2 hq
    all_goals
      conv => whnf
      repeat' (first | (refine CallN.one d2 ?_) | (refine CallN.one c2 ?_) | refine Fork.yp ?_ | refine Fork.np ?_ | refine ExtN.ext ?_ | refine finGo ?_) <;> try (conv => whnf)
      all_goals exact ansB hq
  rw [if_neg q2] at hq
  by_cases q3 : k = 4
  · rw [if_pos q3] at hq
    subst q3
    cases b1 : okE 4 ⟨ek, ⟨vk, vn, vt, vl⟩, es, ec, ep⟩ <;> rw [b1] at d2 hq
    · conv => whnf
      repeat' (first | (refine CallN.one d2 ?_) | refine Fork.yp ?_ | refine Fork.np ?_ | refine ExtN.ext ?_ | refine finGo ?_) <;> try (conv => whnf)
      all_goals exact ansB hq
    cases b2 : nameOk n <;> rw [b2] at d3 hq
    all_goals
      conv => whnf
      repeat' (first | (refine CallN.one d2 ?_) | (refine CallN.one d3 ?_) | (refine CallN.one c3 ?_) | refine Fork.yp ?_ | refine Fork.np ?_ | refine ExtN.ext ?_ | refine finGo ?_) <;> try (conv => whnf)
      all_goals exact ansB hq
  rw [if_neg q3] at hq
  by_cases q4 : k = 5 ∨ k = 6
  · rw [if_pos q4] at hq
    cases b1 : rowsOk is os sk li <;> rw [b1] at d4 hq
    all_goals
      rcases q4 with rfl | rfl
      all_goals
        conv => whnf
        repeat' (first | (refine CallN.one d4 ?_) | (refine CallN.one c4 ?_) | refine Fork.yp ?_ | refine Fork.np ?_ | refine ExtN.ext ?_ | refine finGo ?_) <;> try (conv => whnf)
        all_goals exact ansB hq
  rw [if_neg q4] at hq
  by_cases q5 : k = 8
  · rw [if_pos q5] at hq
    subst q5
    cases b1 : tgsOk ts <;> rw [b1] at d5 hq
    all_goals
      conv => whnf
      repeat' (first | (refine CallN.one d5 ?_) | (refine CallN.one c5 ?_) | refine Fork.yp ?_ | refine Fork.np ?_ | refine ExtN.ext ?_ | refine finGo ?_) <;> try (conv => whnf)
      all_goals exact ansB hq
  rw [if_neg q5] at hq
  by_cases q6 : k = 9
  · rw [if_pos q6] at hq
    subst q6
    cases b1 : nmsOk ns <;> rw [b1] at d6 hq
    all_goals
      conv => whnf
      repeat' (first | (refine CallN.one d6 ?_) | (refine CallN.one c6 ?_) | refine Fork.yp ?_ | refine Fork.np ?_ | refine ExtN.ext ?_ | refine finGo ?_) <;> try (conv => whnf)
      all_goals exact ansB hq
  rw [if_neg q6] at hq
  have n1 : ¬ k = 1 := fun h => q1 (.inl h)
  have n2 : ¬ k = 2 := fun h => q1 (.inr (.inl h))
  have n3 : ¬ k = 7 := fun h => q1 (.inr (.inr h))
  have n4 : ¬ k = 5 := fun h => q4 (.inl h)
  have n5 : ¬ k = 6 := fun h => q4 (.inr h)
  conv => whnf
  repeat' (first | refine Fork.np ?_ | refine finGo ?_) <;> try (conv => whnf)
  all_goals exact ansB hq
structure ClO (c : Cl) : Prop where
  r : c.items.length = 0 → c.orders.length = 0 ∧ c.dist = false ∧ c.limit = -1
  n : c.names.length = 0 → c.det = false
  o : (c.paths.length = 0 ∧ c.items.length = 0 ∧ c.tos.length = 0 ∧ c.names.length = 0) ∨ (¬ c.paths.length = 0 ∧ c.items.length = 0 ∧ c.tos.length = 0 ∧ c.names.length = 0) ∨
    (c.paths.length = 0 ∧ ¬ c.items.length = 0 ∧ c.tos.length = 0 ∧ c.names.length = 0) ∨ (c.paths.length = 0 ∧ c.items.length = 0 ∧ ¬ c.tos.length = 0 ∧ c.names.length = 0) ∨
    (c.paths.length = 0 ∧ c.items.length = 0 ∧ c.tos.length = 0 ∧ ¬ c.names.length = 0)
def clsOk (q : List Cl) : Bool := decide (1 ≤ q.length ∧ q.length ≤ 8) && q.all clOk
def wrK (k : Int) : Bool := decide (k = 7 ∨ k = 8 ∨ k = 9)
def endAt (q : List Cl) (i : Nat) : Bool := match q[i]? with
  | some c => if i + 1 = q.length then decide (6 ≤ c.kind ∧ c.kind ≤ 9) else !decide (c.kind = 6)
  | none => true
def endsOk (q : List Cl) : Bool := (List.range q.length).all (endAt q)
theorem endAt_of {q : List Cl} {i : Nat} {c : Cl} (h : q[i]? = some c) : endAt q i = if i + 1 = q.length then decide (6 ≤ c.kind ∧ c.kind ≤ 9) else !decide (c.kind = 6) := by unfold endAt; rw [h]
theorem queryForm_c {σ : Heap} {q : List Cl} (hk : q.length ≤ 1000) (ht : ∀ c ∈ q, ClT c) : CRun Tryz.prog 51 [.vec (cls q)] σ (· = .ret (.sc (.bool (clsOk q))) σ) := by
  have e3 := cls_len q
  have no : ∀ p ∈ q, clOk p = false → COut.ret (.sc (.bool false)) σ = .ret (.sc (.bool (clsOk q))) σ := fun p hp h => ansB (by unfold clsOk; rw [all_no hp h, Bool.and_false])
  have no1 : decide (1 ≤ q.length ∧ q.length ≤ 8) = false → COut.ret (.sc (.bool false)) σ = .ret (.sc (.bool (clsOk q))) σ := fun h => ansB (by unfold clsOk; rw [h]; rfl)
  refine crun_of (X := X) X_ok X_sat (body := bodyOf Tryz.f51) Tryz.func51 rfl (by kernel_rfl) (by kernel_rfl) ?_
  rw [Tryz.ntmps51]
  by_cases a1 : 1 ≤ q.length
  case neg =>
    conv => whnf
    repeat' (first | refine Fork.yp ?_ | refine finGo ?_) <;> try (conv => whnf)
    all_goals exact no1 (decide_eq_false (by omega))
  by_cases a2 : q.length ≤ 8
  case neg =>
    conv => whnf
    repeat' (first | refine Fork.yp ?_ | refine Fork.np ?_ | refine finGo ?_) <;> try (conv => whnf)
    all_goals exact no1 (decide_eq_false (by omega))
  conv => whnf
  repeat' (first | refine Fork.np ?_) <;> try (conv => whnf)
  refine LoopN.rule (α := Nat) (fun i => ⟨23, [(2, .sc (.bool false)), (13, .vec (cls q)), (14, i64 (cls q).length), (15, i64 i)], []⟩)
    (fun _ => σ) (fun i => q.length - i) (fun i => i ≤ q.length ∧ (q.take i).all clOk = true) ?_ 0 ⟨by omega, by simp⟩ ?_
  rotate_left
  · (refine ⟨rfl, ?_, ?_, Sub.refl _⟩ <;> repeat' (first | exact EnvLe.nil | exact LocsLe.nil | refine EnvLe.cons _ _ _ ?_ ?_ | refine LocsLe.cons _ _ _ ?_ ?_ | exact CVle.same _ rfl | exact CVle.vec _ _ | exact CVle.nil | exact CVle.tok _ _ _ rfl rfl | exact ObLe.tok _ _ rfl | exact CVles.nil | refine CVles.cons ?_ ?_ | exact ObLe.same _ rfl rfl | refine ObLe.cells rfl ?_))
  rintro i K ⟨h1, h2⟩ hK
  dsimp only at h1 h2 hK ⊢
  by_cases hi : i < q.length
  · obtain ⟨⟨k, ps, ⟨ek, ⟨vk, vn, vt, vl⟩, es, ec, ep⟩, n, is, di, os, sk, li, ts, ns, de⟩, hm, hg, hg'⟩ := map_at (f := Cl.cv) hi
    have no := no _ hm
    have c1 := clauseForm_c (σ := σ) (ht _ hm)
    cases hn : clOk ⟨k, ps, ⟨ek, ⟨vk, vn, vt, vl⟩, es, ec, ep⟩, n, is, di, os, sk, li, ts, ns, de⟩ <;> rw [hn] at c1
    · conv => whnf
      repeat' (first | (refine CallN.one c1 ?_) | refine Fork.yp ?_ | refine Need.go ?_ | refine ElemN.go ?_ | refine ExtN.ext ?_ | refine finGo ?_) <;> try (conv => whnf)
      all_goals exact no hn
    conv => whnf
    repeat' (first | (refine CallN.one c1 ?_) | refine Fork.yp ?_ | refine Need.go ?_ | refine ElemN.go ?_ | refine ExtN.ext ?_) <;> try (conv => whnf)
    refine hK (i + 1) _ _ ⟨by omega, all_take hg h2 hn⟩ (by omega) ?_
    (refine ⟨rfl, ?_, ?_, Sub.refl _⟩ <;> repeat' (first | exact EnvLe.nil | exact LocsLe.nil | refine EnvLe.cons _ _ _ ?_ ?_ | refine LocsLe.cons _ _ _ ?_ ?_ | exact CVle.same _ rfl | exact CVle.vec _ _ | exact CVle.nil | exact CVle.tok _ _ _ rfl rfl | exact ObLe.tok _ _ rfl | exact CVles.nil | refine CVles.cons ?_ ?_ | exact ObLe.same _ rfl rfl | refine ObLe.cells rfl ?_))
  · rw [List.take_of_length_le (by omega)] at h2
    conv => whnf
    repeat' (first | refine Fork.np ?_ | refine finGo ?_) <;> try (conv => whnf)
    all_goals exact ansB (by unfold clsOk; rw [h2, decide_eq_true ⟨a1, a2⟩]; rfl)
theorem writes_c {σ : Heap} {k : Int} : CRun Tryz.prog 117 [i64 k] σ (· = .ret (.sc (.bool (wrK k))) σ) := by
  by_cases h1 : k = 7
  · skip
    refine crun_of (X := X) X_ok X_sat (body := bodyOf Tryz.f117) Tryz.func117 rfl (by kernel_rfl) (by kernel_rfl) ?_
    rw [Tryz.ntmps117]
    conv => whnf
    repeat' (first | refine Fork.yp ?_ | refine finGo ?_) <;> try (conv => whnf)
    all_goals exact ansB (decide_eq_true (by omega))
  by_cases h2 : k = 8
  · skip
    refine crun_of (X := X) X_ok X_sat (body := bodyOf Tryz.f117) Tryz.func117 rfl (by kernel_rfl) (by kernel_rfl) ?_
    rw [Tryz.ntmps117]
    conv => whnf
    repeat' (first | refine Fork.yp ?_ | refine Fork.np ?_ | refine finGo ?_) <;> try (conv => whnf)
    all_goals exact ansB (decide_eq_true (by omega))
  by_cases h3 : k = 9
  · skip
    refine crun_of (X := X) X_ok X_sat (body := bodyOf Tryz.f117) Tryz.func117 rfl (by kernel_rfl) (by kernel_rfl) ?_
    rw [Tryz.ntmps117]
    conv => whnf
    repeat' (first | refine Fork.yp ?_ | refine Fork.np ?_ | refine finGo ?_) <;> try (conv => whnf)
    all_goals exact ansB (decide_eq_true (by omega))
  refine crun_of (X := X) X_ok X_sat (body := bodyOf Tryz.f117) Tryz.func117 rfl (by kernel_rfl) (by kernel_rfl) ?_
  rw [Tryz.ntmps117]
  conv => whnf
  repeat' (first | refine Fork.np ?_ | refine finGo ?_) <;> try (conv => whnf)
  all_goals exact ansB (decide_eq_false (by omega))
theorem l5Ends_c {σ : Heap} {k : Int} : CRun Tryz.prog 56 [i64 k] σ (· = .ret (.sc (.bool (decide (6 ≤ k ∧ k ≤ 9)))) σ) := by
  have c1 := in_c (σ := σ) (n := k) (lo := 6) (hi := 9)
  refine crun_of (X := X) X_ok X_sat (body := bodyOf Tryz.f56) Tryz.func56 rfl (by kernel_rfl) (by kernel_rfl) ?_
  rw [Tryz.ntmps56]
  conv => whnf
  repeat' (first | (refine CallN.one c1 ?_) | refine ExtN.ext ?_ | refine finGo ?_) <;> try (conv => whnf)
  all_goals rfl
theorem endsRight_c {σ : Heap} {q : List Cl} (hk : 1 ≤ q.length ∧ q.length ≤ 1000) (ht : ∀ c ∈ q, ClT c) : CRun Tryz.prog 52 [.vec (cls q)] σ (· = .ret (.sc (.bool (endsOk q))) σ) := by
  have e3 := cls_len q
  obtain ⟨k1, k2⟩ := hk
  have no : ∀ i, i < q.length → endAt q i = false → COut.ret (.sc (.bool false)) σ = .ret (.sc (.bool (endsOk q))) σ := fun i hi h => ansB (by unfold endsOk; rw [range_no hi h])
  have cw := fun k => writes_c (σ := σ) (k := k)
  refine crun_of (X := X) X_ok X_sat (body := bodyOf Tryz.f52) Tryz.func52 rfl (by kernel_rfl) (by kernel_rfl) ?_
  rw [Tryz.ntmps52]
  conv => whnf
  repeat' (first | refine Need.go ?_) <;> try (conv => whnf)
  obtain ⟨T, hT⟩ : ∃ T, T = List.drop (Int.toNat 0) (List.take (((cls q).length : Int) - 1).toNat (cls q)) := ⟨_, rfl⟩
  refine LoopN.rule (α := Nat) (fun i => ⟨35, [(0, .vec (cls q)), (2, .sc (.bool false)), (3, i64 (((cls q).length : Int) - 1)), (11, .vec T), (12, i64 T.length), (13, i64 i)], []⟩)
    (fun _ => σ) (fun i => q.length - i) (fun i => i + 1 ≤ q.length ∧ ∀ j, j < i → endAt q j = true) ?_ 0 ⟨by omega, by omega⟩ ?_
  rotate_left
  · subst hT
    (refine ⟨rfl, ?_, ?_, Sub.refl _⟩ <;> repeat' (first | exact EnvLe.nil | exact LocsLe.nil | refine EnvLe.cons _ _ _ ?_ ?_ | refine LocsLe.cons _ _ _ ?_ ?_ | exact CVle.same _ rfl | exact CVle.vec _ _ | exact CVle.nil | exact CVle.tok _ _ _ rfl rfl | exact ObLe.tok _ _ rfl | exact CVles.nil | refine CVles.cons ?_ ?_ | exact ObLe.same _ rfl rfl | refine ObLe.cells rfl ?_))
  have hT2 : T = (cls q).take (q.length - 1) := by rw [hT, e3]; simp only [Int.toNat_zero, List.drop_zero]; congr 1; omega
  have eT : T.length = q.length - 1 := by rw [hT2, List.length_take, e3]; omega
  clear hT
  rintro i K ⟨h1, h2⟩ hK
  dsimp only at h1 h2 hK ⊢
  by_cases hi : i + 1 < q.length
  · obtain ⟨⟨k, ps, ⟨ek, ⟨vk, vn, vt, vl⟩, es, ec, ep⟩, n, is, di, os, sk, li, ts, ns, de⟩, hm, hg, hg'⟩ := map_at (f := Cl.cv) (l := q) (i := i) (by omega)
    have hg2 : T[i]? = some (Cl.cv ⟨k, ps, ⟨ek, ⟨vk, vn, vt, vl⟩, es, ec, ep⟩, n, is, di, os, sk, li, ts, ns, de⟩) := by
      rw [hT2, List.getElem?_take, if_pos (by omega)]; exact hg'
    have e := endAt_of hg
    rw [if_neg (by omega)] at e
    dsimp only at e
    have no := no i (by omega)
    by_cases hn : k = 6
    · rw [decide_eq_true hn] at e
      conv => whnf
      repeat' (first | refine Fork.yp ?_ | refine Need.go ?_ | refine ElemN.go ?_ | refine finGo ?_) <;> try (conv => whnf)
      all_goals exact no e
    rw [decide_eq_false hn] at e
    conv => whnf
    repeat' (first | refine Fork.yp ?_ | refine Fork.np ?_ | refine Need.go ?_ | refine ElemN.go ?_) <;> try (conv => whnf)
    refine hK (i + 1) _ _ ⟨by omega, stepAll h2 e⟩ (by omega) ?_
    (refine ⟨rfl, ?_, ?_, Sub.refl _⟩ <;> repeat' (first | exact EnvLe.nil | exact LocsLe.nil | refine EnvLe.cons _ _ _ ?_ ?_ | refine LocsLe.cons _ _ _ ?_ ?_ | exact CVle.same _ rfl | exact CVle.vec _ _ | exact CVle.nil | exact CVle.tok _ _ _ rfl rfl | exact ObLe.tok _ _ rfl | exact CVles.nil | refine CVles.cons ?_ ?_ | exact ObLe.same _ rfl rfl | refine ObLe.cells rfl ?_))
  · have hi2 : i + 1 = q.length := by omega
    obtain ⟨⟨k, ps, ⟨ek, ⟨vk, vn, vt, vl⟩, es, ec, ep⟩, n, is, di, os, sk, li, ts, ns, de⟩, hm, hg, hg'⟩ := map_at (f := Cl.cv) (l := q) (i := i) (by omega)
    have hg3 : (cls q)[(((cls q).length : Int) - 1).toNat]? = some (Cl.cv ⟨k, ps, ⟨ek, ⟨vk, vn, vt, vl⟩, es, ec, ep⟩, n, is, di, os, sk, li, ts, ns, de⟩) := by
      rw [show (((cls q).length : Int) - 1).toNat = i by omega]; exact hg'
    have e := endAt_of hg
    rw [if_pos hi2] at e
    dsimp only at e
    have hq : endsOk q = decide (6 ≤ k ∧ k ≤ 9) := by
      rw [← e]
      cases h : endAt q i
      · unfold endsOk; rw [range_no (by omega) h]
      · unfold endsOk; exact range_yes fun j hj => by
          by_cases h' : j = i
          · rw [h']; exact h
          · exact h2 j (by omega)
    by_cases hn : k = 6
    · conv => whnf
      repeat' (first | refine Fork.yp ?_ | refine Fork.np ?_ | refine Need.go ?_ | refine ElemN.go ?_ | refine finGo ?_) <;> try (conv => whnf)
      all_goals exact ansB (hq.trans (decide_eq_true (by omega)))
    conv => whnf
    repeat' (first | (refine CallN.one (cw _) ?_) | refine Fork.np ?_ | refine Need.go ?_ | refine ElemN.go ?_ | refine ExtN.ext ?_ | refine finGo ?_) <;> try (conv => whnf)
    all_goals exact ansB (hq.trans (by unfold wrK; exact decide_eq_decide.2 (by omega)))
end Go.Proofs.YthllnbfkfobcjaaGreat
