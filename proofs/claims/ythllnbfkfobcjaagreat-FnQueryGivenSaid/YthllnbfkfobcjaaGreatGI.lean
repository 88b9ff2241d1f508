/-
  Contracts of the functions that the law reaches.
-/
import Derived.Test.YthllnbfkfobcjaaGreatGH
import Derived.Test.YthllnbfkfobcjaaGreatGG
set_option linter.unusedVariables false
set_option linter.unusedSimpArgs false
namespace Go.CL
open Go
end Go.CL
namespace Go.Proofs.YthllnbfkfobcjaaGreat
open Go Go.CL
set_option maxRecDepth 10000
theorem subsL_any (l : List Exp) : (subsL l).any isPut = l.any fun e => (subsE e).any isPut := by
  induction l with
  | nil => rfl
  | cons e r ih => simp [subsL, List.any_append, ih]
theorem bare_c {e : Exp} (he : ETame e) : ∀ {σ : Heap}, CRun Tryz.prog 200 [e.cv] σ (· = .ret (.sc (.bool (!putsE e))) σ) := by
  induction he with
  | @mk k v s c ps hv hs hc hl hps ih =>
    intro σ
    obtain ⟨vk, vn, vt, vl⟩ := v
    have e3 := ecvs_length ps
    have hE : (!putsE (.mk k (.mk vk vn vt vl) s c ps)) = !(decide (k = 14 ∨ k = 15) || ps.any putsE) := by
      unfold putsE
      simp only [subsE, List.any_cons, subsL_any]
      rfl
    generalize (!putsE (.mk k (.mk vk vn vt vl) s c ps)) = B at hE ⊢
    refine crun_of (X := X) X_ok X_sat (body := bodyOf Tryz.f200) Tryz.func200 rfl (by kernel_rfl) (by kernel_rfl) ?_
    rw [Tryz.ntmps200]
    conv => whnf
    repeat' (first | refine OrdN.one ?_ | refine Fork.yp ?_ | refine Fork.np ?_ | refine Fork.ny ?_ | refine Fork.nn ?_ | refine Fork.yb ?_ | refine Fork.nb ?_ | refine Fork.dp (fun h => ?_) (fun h => ?_) | refine Fork.dn (fun h => ?_) (fun h => ?_) | (refine Fork.mk (fun h => ?_) (fun h => ?_) <;> simp only [decide_eq_true_eq, decide_eq_false_iff_not, Bool.not_eq_true', Bool.not_eq_false', Bool.or_eq_true, Bool.or_eq_false_iff] at h) | refine GetN.go ?_ | refine Need.ap1 ?_ | refine Need.ap0 ?_ | refine Need.go ?_ | refine Need.draw ?_ | refine ElemN.go ?_ | refine ExtN.ext ?_ | refine ExtN.wr ?_ | refine AllocN.go (fun l hl => ?_) | refine finGo ?_) <;> try (conv => whnf)
    refine LoopN.rule (α := Nat) (fun i => ⟨26, [(1, .ptr (.f 1) 0), (2, .sc (.bool false)), (3, i64 i)], [(1, .cells [i64 k, i64 vk, i64 vn, .sc (.string vt), .vec (Val.cvs vl), .sc (.string s), .sc (.string c), .vec (Exp.cvs ps)])]⟩)
      (fun _ => σ) (fun i => ps.length - i) (fun i => i ≤ ps.length ∧ (ps.take i).any putsE = false) ?_ 0 ⟨by omega, rfl⟩ ?_
    rotate_left
    · (refine ⟨rfl, ?_, ?_, Sub.refl _⟩ <;> repeat' (first | exact EnvLe.nil | exact LocsLe.nil | refine EnvLe.cons _ _ _ ?_ ?_ | refine LocsLe.cons _ _ _ ?_ ?_ | exact CVle.same _ rfl | exact CVle.vec _ _ | exact CVle.nil | exact CVle.tok _ _ _ rfl rfl | exact ObLe.tok _ _ rfl | exact CVles.nil | refine CVles.cons ?_ ?_ | exact ObLe.same _ rfl rfl | refine ObLe.cells rfl ?_))
    rintro i K ⟨h1, h2⟩ hK
    dsimp only at h1 h2 hK ⊢
    by_cases hi : i < ps.length
    · obtain ⟨⟨wk, ⟨a1, a2, a3, a4⟩, ws, wc, wp⟩, hm, hg, hg'⟩ := ecvs_at hi
      have c1 := ih _ hm (σ := σ)
      cases hp : putsE (.mk wk (.mk a1 a2 a3 a4) ws wc wp) <;> rw [hp] at c1
      · conv => whnf
        repeat' (first | (refine CallN.one c1 ?_) | refine Fork.yp ?_ | refine Need.go ?_ | refine ElemN.go ?_ | refine ExtN.ext ?_) <;> try (conv => whnf)
        refine hK (i + 1) _ _ ⟨by omega, ?_⟩ (by omega) ?_
        · rw [List.take_add_one, hg, List.any_append, h2]; simp [hp]
        (refine ⟨rfl, ?_, ?_, Sub.refl _⟩ <;> repeat' (first | exact EnvLe.nil | exact LocsLe.nil | refine EnvLe.cons _ _ _ ?_ ?_ | refine LocsLe.cons _ _ _ ?_ ?_ | exact CVle.same _ rfl | exact CVle.vec _ _ | exact CVle.nil | exact CVle.tok _ _ _ rfl rfl | exact ObLe.tok _ _ rfl | exact CVles.nil | refine CVles.cons ?_ ?_ | exact ObLe.same _ rfl rfl | refine ObLe.cells rfl ?_))
      · have : ps.any putsE = true := List.any_eq_true.2 ⟨_, hm, hp⟩
        rw [this, Bool.or_true] at hE
        conv => whnf
        repeat' (first | (refine CallN.one c1 ?_) | refine Fork.yp ?_ | refine Need.go ?_ | refine ElemN.go ?_ | refine ExtN.ext ?_ | refine finGo ?_) <;> try (conv => whnf)
        all_goals exact ansB hE
    · rw [List.take_of_length_le (by omega)] at h2
      rw [h2, Bool.or_false] at hE
      by_cases a1 : k = 14
      · rw [decide_eq_true (.inl a1)] at hE
        conv => whnf
        repeat' (first | refine Fork.np ?_ | refine Fork.nn ?_ | refine finGo ?_) <;> try (conv => whnf)
        all_goals exact ansB hE
      by_cases a2 : k = 15
      · rw [decide_eq_true (.inr a2)] at hE
        conv => whnf
        repeat' (first | refine Fork.np ?_ | refine Fork.ny ?_ | refine Fork.nn ?_ | refine finGo ?_) <;> try (conv => whnf)
        all_goals exact ansB hE
      rw [decide_eq_false (by omega)] at hE
      conv => whnf
      repeat' (first | refine Fork.np ?_ | refine Fork.ny ?_ | refine finGo ?_) <;> try (conv => whnf)
      all_goals exact ansB hE
def topE : Exp → Bool
  | .mk k v s c ps => if k = 15 then (match ps with | e :: _ => !putsE e | [] => true) else decide (k = 14) || !putsE (.mk k v s c ps)
theorem top_c {σ : Heap} {e : Exp} (he : ETame e) (ha : ∀ k v s c ps, e = .mk k v s c ps → k = 15 → ps ≠ []) : CRun Tryz.prog 134 [e.cv] σ (· = .ret (.sc (.bool (topE e))) σ) := by
  have c1 := bare_c (σ := σ) he
  obtain ⟨k, ⟨vk, vn, vt, vl⟩, s, c, ps⟩ := e
  refine crun_of (X := X) X_ok X_sat (body := bodyOf Tryz.f134) Tryz.func134 rfl (by kernel_rfl) (by kernel_rfl) ?_
  rw [Tryz.ntmps134]
  by_cases h2 : k = 15
  · obtain ⟨_, _, _, _, hps⟩ := he.inv
    cases ps with
    | nil => exact absurd rfl (ha _ _ _ _ _ rfl h2)
    | cons x r =>
      have c2 := bare_c (σ := σ) (hps x (by simp))
      have hE : topE (.mk k (.mk vk vn vt vl) s c (x :: r)) = !putsE x := if_pos h2
      obtain ⟨xk, ⟨x1, x2, x3, x4⟩, xs, xc, xp⟩ := x
      have hg : (Exp.cvs (.mk xk (.mk x1 x2 x3 x4) xs xc xp :: r))[(0 : Int).toNat]? = some (Exp.cv (.mk xk (.mk x1 x2 x3 x4) xs xc xp)) := rfl
      have hl : 0 < (Exp.cvs (.mk xk (.mk x1 x2 x3 x4) xs xc xp :: r)).length := by rw [ecvs_length]; simp
      conv => whnf
      repeat' (first | (refine CallN.one c2 ?_) | refine Fork.yp ?_ | refine Need.go ?_ | refine ElemN.go ?_ | refine ExtN.ext ?_ | refine finGo ?_) <;> try (conv => whnf)
      all_goals exact ansB hE
  have hE : topE (.mk k (.mk vk vn vt vl) s c ps) = (decide (k = 14) || !putsE (.mk k (.mk vk vn vt vl) s c ps)) := if_neg h2
  by_cases h1 : k = 14
  · rw [decide_eq_true h1] at hE
    conv => whnf
    repeat' (first | refine Fork.yp ?_ | refine Fork.np ?_ | refine finGo ?_) <;> try (conv => whnf)
    all_goals exact ansB hE
  rw [decide_eq_false h1, Bool.false_or] at hE
  conv => whnf
  repeat' (first | (refine CallN.one c1 ?_) | refine Fork.np ?_ | refine ExtN.ext ?_ | refine finGo ?_) <;> try (conv => whnf)
  all_goals exact ansB hE
def scO (L : List ByteArray) (k : Int) : Ob := .cells [.vec (sts L), i64 k]
def orK (k c : Int) : Int := if k = 0 then c else k
theorem orK_0 (k : Int) : orK k 0 = k := by unfold orK; split <;> simp_all
theorem orK_orK (k a b : Int) : orK (orK k a) b = orK k (if a = 0 then b else a) := by
  unfold orK
  by_cases h : k = 0
  · simp only [if_pos h]
  · simp only [if_neg h]
theorem fail_c {τ : Heap} {ls : Nat} {L : List ByteArray} {k c : Int} (hm : τ ls = some (scO L k)) : CRun Tryz.prog 132 [.ptr (.g ls) 0, i64 c] τ (· = .ret (.tup []) (upd τ ls (scO L (orK k c)))) := by
  unfold scO at hm
  by_cases h : k = 0
  · have : orK k c = c := if_pos h
    rw [this]
    refine crun_of (X := X) X_ok X_sat (body := bodyOf Tryz.f132) Tryz.func132 rfl (by kernel_rfl) (by kernel_rfl) ?_
    rw [Tryz.ntmps132]
    conv => whnf
    repeat' (first | refine Fork.yp ?_ | refine GetN.go ?_ | refine finGo ?_) <;> try (conv => whnf)
    all_goals rfl
  · have : orK k c = k := if_neg h
    rw [this]
    have hs : upd τ ls (scO L k) = τ := upd_self hm
    rw [hs]
    refine crun_of (X := X) X_ok X_sat (body := bodyOf Tryz.f132) Tryz.func132 rfl (by kernel_rfl) (by kernel_rfl) ?_
    rw [Tryz.ntmps132]
    conv => whnf
    repeat' (first | refine Fork.np ?_ | refine GetN.go ?_ | refine finGo ?_) <;> try (conv => whnf)
    all_goals rfl
theorem asks_c {τ : Heap} {ls : Nat} {L : List ByteArray} {k : Int} (hm : τ ls = some (scO L k)) (hL : L.length ≤ 1000000000) {N : List ByteArray} (hN : N.length ≤ 1000000) :
    CRun Tryz.prog 135 [.ptr (.g ls) 0, .vec (sts N)] τ (· = .ret (.tup []) (upd τ ls (scO L (orK k (if missN L N then 3 else 0))))) := by
  have e3 := sts_len N
  have e4 := sts_len L
  refine crun_of (X := X) X_ok X_sat (body := bodyOf Tryz.f135) Tryz.func135 rfl (by kernel_rfl) (by kernel_rfl) ?_
  rw [Tryz.ntmps135]
  conv => whnf
  repeat' (first | refine OrdN.one ?_ | refine Fork.yp ?_ | refine Fork.np ?_ | refine Fork.ny ?_ | refine Fork.nn ?_ | refine Fork.yb ?_ | refine Fork.nb ?_ | refine Fork.dp (fun h => ?_) (fun h => ?_) | refine Fork.dn (fun h => ?_) (fun h => ?_) | (refine Fork.mk (fun h => ?_) (fun h => ?_) <;> simp only [decide_eq_true_eq, decide_eq_false_iff_not, Bool.not_eq_true', Bool.not_eq_false', Bool.or_eq_true, Bool.or_eq_false_iff] at h) | refine GetN.go ?_ | refine Need.ap1 ?_ | refine Need.ap0 ?_ | refine Need.go ?_ | refine Need.draw ?_ | refine ElemN.go ?_ | refine ExtN.ext ?_ | refine ExtN.wr ?_ | refine AllocN.go (fun l hl => ?_) | refine finGo ?_) <;> try (conv => whnf)
  refine LoopN.rule (α := Nat) (fun i => ⟨23, [(0, .ptr (.g ls) 0), (1, .vec (sts N)), (4, i64 i)], []⟩)
    (fun i => upd τ ls (scO L (orK k (if missN L (N.take i) then 3 else 0)))) (fun i => N.length - i) (fun i => i ≤ N.length) ?_ 0 (by omega) ?_
  rotate_left
  · have : orK k (if missN L (N.take 0) then 3 else 0) = k := orK_0 k
    rw [this, upd_self hm]
    (refine ⟨rfl, ?_, ?_, Sub.refl _⟩ <;> repeat' (first | exact EnvLe.nil | exact LocsLe.nil | refine EnvLe.cons _ _ _ ?_ ?_ | refine LocsLe.cons _ _ _ ?_ ?_ | exact CVle.same _ rfl | exact CVle.vec _ _ | exact CVle.nil | exact CVle.tok _ _ _ rfl rfl | exact ObLe.tok _ _ rfl | exact CVles.nil | refine CVles.cons ?_ ?_ | exact ObLe.same _ rfl rfl | refine ObLe.cells rfl ?_))
  rintro i K h1 hK
  have hm2 : upd τ ls (scO L (orK k (if missN L (N.take i) then 3 else 0))) ls = some (scO L (orK k (if missN L (N.take i) then 3 else 0))) := upd_same _ _ _
  have hK := hK (i + 1)
  dsimp only at h1 hK ⊢
  by_cases hi : i < N.length
  · obtain ⟨x, hx, hg, hg'⟩ := map_at (f := fun s : ByteArray => CV.sc (.string s)) hi
    have ch := l2Has_c (σ := upd τ ls (scO L (orK k (if missN L (N.take i) then 3 else 0)))) (ns := L) (s := x) hL
    have cf := fail_c (c := 3) hm2
    rw [upd_upd, orK_orK] at cf
    have em : missN L (N.take (i + 1)) = (missN L (N.take i) || !hasB L x) := by unfold missN; rw [List.take_add_one, hg, List.any_append]; simp
    have e1 : (if missN L (N.take (i + 1)) = true then (3 : Int) else 0) = (if missN L (N.take i) = true then 3 else if hasB L x then 0 else 3) := by
      rw [em]; cases missN L (N.take i) <;> cases hasB L x <;> rfl
    have e2 : (if (if missN L (N.take i) = true then (3 : Int) else 0) = 0 then (3 : Int) else (if missN L (N.take i) = true then 3 else 0)) = 3 := by cases missN L (N.take i) <;> rfl
    rw [e1] at hK
    rw [e2] at cf
    clear em e1 e2
    cases hb : hasB L x <;> rw [hb] at ch hK
    · have e5 : (if missN L (N.take i) = true then (3 : Int) else if false = true then 0 else 3) = 3 := by cases missN L (N.take i) <;> rfl
      rw [e5] at hK
      clear e5
      generalize upd τ ls (scO L (orK k (if missN L (N.take i) = true then 3 else 0))) = τ2 at ch cf hm2 ⊢
      unfold scO at hm2
      conv => whnf
      repeat' (first | (refine CallN.one ch ?_) | (refine CallN.one cf ?_) | refine OrdN.one ?_ | refine Fork.yp ?_ | refine GetN.go ?_ | refine Need.go ?_ | refine Need.draw ?_ | refine ElemN.go ?_ | refine ExtN.ext ?_ | refine ExtN.wr ?_) <;> try (conv => whnf)
      refine hK _ _ (by omega) (by omega) ?_
      (refine ⟨rfl, ?_, ?_, Sub.refl _⟩ <;> repeat' (first | exact EnvLe.nil | exact LocsLe.nil | refine EnvLe.cons _ _ _ ?_ ?_ | refine LocsLe.cons _ _ _ ?_ ?_ | exact CVle.same _ rfl | exact CVle.vec _ _ | exact CVle.nil | exact CVle.tok _ _ _ rfl rfl | exact ObLe.tok _ _ rfl | exact CVles.nil | refine CVles.cons ?_ ?_ | exact ObLe.same _ rfl rfl | refine ObLe.cells rfl ?_))
    · have e5 : (if missN L (N.take i) = true then (3 : Int) else if true = true then 0 else 3) = if missN L (N.take i) = true then 3 else 0 := by cases missN L (N.take i) <;> rfl
      rw [e5] at hK
      clear e5
      generalize upd τ ls (scO L (orK k (if missN L (N.take i) = true then 3 else 0))) = τ2 at ch cf hm2 hK ⊢
      unfold scO at hm2
      conv => whnf
      repeat' (first | (refine CallN.one ch ?_) | refine OrdN.one ?_ | refine Fork.yp ?_ | refine GetN.go ?_ | refine Need.go ?_ | refine Need.draw ?_ | refine ElemN.go ?_ | refine ExtN.ext ?_) <;> try (conv => whnf)
      refine hK _ _ (by omega) (by omega) ?_
      (refine ⟨rfl, ?_, ?_, Sub.refl _⟩ <;> repeat' (first | exact EnvLe.nil | exact LocsLe.nil | refine EnvLe.cons _ _ _ ?_ ?_ | refine LocsLe.cons _ _ _ ?_ ?_ | exact CVle.same _ rfl | exact CVle.vec _ _ | exact CVle.nil | exact CVle.tok _ _ _ rfl rfl | exact ObLe.tok _ _ rfl | exact CVles.nil | refine CVles.cons ?_ ?_ | exact ObLe.same _ rfl rfl | refine ObLe.cells rfl ?_))
  · rw [List.take_of_length_le (by omega)]
    conv => whnf
    repeat' (first | refine Fork.np ?_ | refine finGo ?_) <;> try (conv => whnf)
    all_goals rfl
end Go.Proofs.YthllnbfkfobcjaaGreat
namespace Go.Proofs.YthllnbfkfobcjaaGreat
open Go Go.CL
set_option maxRecDepth 10000
theorem uses_c {τ : Heap} {ls : Nat} {L : List ByteArray} {k : Int} (hm : τ ls = some (scO L k)) (hL : L.length ≤ 1000000000) {e : Exp} (he : ETame e) (hlen : Sh e) :
    CRun Tryz.prog 130 [.ptr (.g ls) 0, e.cv] τ (· = .ret (.tup []) (upd τ ls (scO L (orK k (exprN L e))))) := by
  have c1 := bare_c (σ := τ) he
  have c2 := fail_c (c := 2) hm
  have c3 := fun τ => l4Names_c he (out := []) (σ := τ) (by unfold Sh at hlen; simpa using hlen)
  have h3 := fold_len (namesOf (subsE e)) []
  have h4 := namesOf_len (subsE e)
  have hN : (namesX e).length ≤ 1000000 := by unfold namesX; unfold Sh at hlen; rw [List.length_nil] at h3; omega
  have hE : exprN L e = if putsE e then 2 else if missN L (namesX e) then 3 else 0 := rfl
  rw [show (namesOf (subsE e)).foldl ins [] = namesX e from rfl] at c3
  have d1 := asks_c hm hL hN
  have d2 := asks_c (τ := upd τ ls (scO L (orK k 2))) (upd_same _ _ _) hL hN
  rw [upd_upd, orK_orK, if_neg (by decide)] at d2
  generalize exprN L e = E at hE ⊢
  obtain ⟨ek, ⟨vk, vn, vt, vl⟩, es, ec, ep⟩ := e
  generalize namesX _ = N at hE c3 d1 d2
  refine crun_of (X := X) X_ok X_sat (body := bodyOf Tryz.f130) Tryz.func130 rfl (by kernel_rfl) (by kernel_rfl) ?_
  rw [Tryz.ntmps130]
  cases hp : putsE (.mk ek (.mk vk vn vt vl) es ec ep) <;> rw [hp] at c1 hE
  · rw [if_neg (by decide)] at hE
    subst hE
    have c3 := c3 τ
    conv => whnf
    repeat' (first | (refine CallN.one c1 ?_) | (refine CallN.one c3 ?_) | (refine CallN.one d1 ?_) | refine ExtN.ext ?_ | refine ExtN.wr ?_ | refine finGo ?_) <;> try (conv => whnf)
    all_goals rfl
  · rw [if_pos rfl] at hE
    subst hE
    have c3 := c3 (upd τ ls (scO L (orK k 2)))
    generalize upd τ ls (scO L (orK k 2)) = τ2 at c2 c3 d2 ⊢
    conv => whnf
    repeat' (first | (refine CallN.one c1 ?_) | (refine CallN.one c2 ?_) | (refine CallN.one c3 ?_) | (refine CallN.one d2 ?_) | refine ExtN.ext ?_ | refine ExtN.wr ?_ | refine finGo ?_) <;> try (conv => whnf)
    all_goals rfl
theorem els_sts {l : List ByteArray} : ElsOk 1 (sts l) := fun x hx => by
  simp only [sts, List.mem_map] at hx
  obtain ⟨s, _, rfl⟩ := hx
  exact ⟨rfl, rfl⟩
theorem adds_c {τ : Heap} {ls : Nat} {L : List ByteArray} {k : Int} (hm : τ ls = some (scO L k)) (hL : L.length ≤ 1000000000) {s : ByteArray} :
    CRun Tryz.prog 133 [.ptr (.g ls) 0, .sc (.string s)] τ (· = .ret (.tup []) (upd τ ls (scO (addN L s) k))) := by
  have ch := l2Has_c (σ := τ) (s := s) hL
  have e3 := sts_len L
  have hm' := hm
  unfold scO at hm
  refine crun_of (X := X) X_ok X_sat (body := bodyOf Tryz.f133) Tryz.func133 rfl (by kernel_rfl) (by kernel_rfl) ?_
  rw [Tryz.ntmps133]
  by_cases h0 : s = ⟨#[]⟩
  · have ha : addN L s = L := if_pos h0
    rw [ha, upd_self hm']
    conv => whnf
    repeat' (first | refine Fork.nn ?_ | refine finGo ?_) <;> try (conv => whnf)
    all_goals rfl
  cases hq : hasB L s <;> rw [hq] at ch
  · have ha : addN L s = L ++ [s] := by unfold addN; rw [if_neg h0, hq]; rfl
    rw [ha]
    unfold scO
    rw [sts_app]
    cases L with
    | nil =>
      conv => whnf
      repeat' (first | (refine CallN.one ch ?_) | (refine Need.ap1 ?_ (h1 := by simp only [List.length_replicate, List.length_append, List.length_cons, List.length_nil]; omega) (h2 := by first | rfl | (simp only [List.length_append]))) | refine Fork.ny ?_ | refine Fork.yb ?_ | refine Fork.nb ?_ | refine GetN.go ?_ | refine Need.go ?_ | refine ExtN.ext ?_ | refine finGo ?_) <;> try (conv => whnf)
      all_goals rfl
    | cons x r =>
      have hne : (sts (x :: r)).isEmpty = false := rfl
      have e5 : (x :: r).length = r.length + 1 := rfl
      conv => whnf
      repeat' (first | (refine CallN.one ch ?_) | (refine Need.ap1 ?_ (h1 := by simp only [List.length_replicate, List.length_append, List.length_cons, List.length_nil]; omega) (h2 := by first | rfl | (simp only [List.length_append]))) | (refine Need.ap2 ?_ (h := els_sts) (h1 := by simp only [List.length_replicate, List.length_append, List.length_cons, List.length_nil]; omega) (h3 := by omega) (h2 := by first | rfl | (simp only [List.length_append]))) | refine Fork.ny ?_ | refine Fork.nb ?_ | refine GetN.go ?_ | refine ExtN.ext ?_ | refine finGo ?_) <;> try (conv => whnf)
      all_goals simp
  · have ha : addN L s = L := by unfold addN; rw [if_neg h0, hq]; rfl
    rw [ha, upd_self hm']
    conv => whnf
    repeat' (first | (refine CallN.one ch ?_) | refine Fork.ny ?_ | refine GetN.go ?_ | refine ExtN.ext ?_ | refine finGo ?_) <;> try (conv => whnf)
    all_goals rfl
theorem firstN_snoc {α : Type} {f : α → Int} : ∀ (a : List α) (x : α), firstN f (a ++ [x]) = if firstN f a = 0 then f x else firstN f a
  | [], x => by simp only [List.nil_append, firstN, if_true]; split <;> simp_all
  | y :: r, x => by
    have h1 : firstN f (y :: r) = if f y = 0 then firstN f r else f y := rfl
    have h2 : firstN f (y :: r ++ [x]) = if f y = 0 then firstN f (r ++ [x]) else f y := rfl
    rw [h2]
    by_cases e : f y = 0
    · have h3 : firstN f (y :: r) = firstN f r := by rw [h1, if_pos e]
      rw [if_pos e, h3]; exact firstN_snoc r x
    · have h3 : firstN f (y :: r) = f y := by rw [h1, if_neg e]
      rw [if_neg e, h3, if_neg e]
theorem firstN_succ {α : Type} {f : α → Int} {l : List α} {i : Nat} {x : α} (h : l[i]? = some x) : firstN f (l.take (i + 1)) = if firstN f (l.take i) = 0 then f x else firstN f (l.take i) := by
  rw [List.take_add_one, h]; exact firstN_snoc _ _
theorem foldl_succ {α β : Type} {f : β → α → β} {l : List α} {i : Nat} {x : α} {a : β} (h : l[i]? = some x) : (l.take (i + 1)).foldl f a = f ((l.take i).foldl f a) x := by
  rw [List.take_add_one, h, List.foldl_append]; rfl
abbrev SS := List ByteArray × Int
def scS (s : SS) : Ob := scO s.1 s.2
def spotS (cr : Bool) (a : SS) (s : Sp) : SS := (addN a.1 s.name, orK a.2 (spotN cr a.1 s).1)
def hopS (cr : Bool) (a : SS) (h : Hp) : SS := (addN (addN a.1 h.name) h.spot.name, orK a.2 (hopN cr a.1 h).1)
def pathS (cr : Bool) (a : SS) (p : Pth) : SS := p.hops.foldl (hopS cr) (spotS cr a p.spot)
theorem addN_len (L : List ByteArray) (s : ByteArray) : (addN L s).length ≤ L.length + 1 := by
  unfold addN; split
  · omega
  · split
    · omega
    · simp
theorem hopsS_len (cr : Bool) : ∀ (l : List Hp) (a : SS), (l.foldl (hopS cr) a).1.length ≤ a.1.length + 2 * l.length
  | [], a => by simp
  | h :: r, a => by
    have h1 := hopsS_len cr r (hopS cr a h)
    have h2 := addN_len a.1 h.name
    have h3 := addN_len (addN a.1 h.name) h.spot.name
    have h4 : (hopS cr a h).1 = addN (addN a.1 h.name) h.spot.name := rfl
    rw [h4] at h1
    simp only [List.foldl_cons, List.length_cons]
    omega
theorem pathS_len (cr : Bool) (a : SS) (p : Pth) : (pathS cr a p).1.length ≤ a.1.length + 1 + 2 * p.hops.length := by
  have h1 := hopsS_len cr p.hops (spotS cr a p.spot)
  have h2 := addN_len a.1 p.spot.name
  have h4 : (spotS cr a p.spot).1 = addN a.1 p.spot.name := rfl
  rw [h4] at h1
  unfold pathS; omega
theorem pats_c {τ : Heap} {ls : Nat} {L : List ByteArray} {k : Int} (hm : τ ls = some (scO L k)) (hL : L.length ≤ 1000000000) {ps : List Pt} (hk : ps.length ≤ 1000) (ht : ∀ p ∈ ps, PtT p ∧ Sh p.e) :
    CRun Tryz.prog 232 [.ptr (.g ls) 0, .vec (pts ps)] τ (· = .ret (.tup []) (upd τ ls (scO L (orK k (firstN (patN L) ps))))) := by
  have e3 := pts_len ps
  refine crun_of (X := X) X_ok X_sat (body := bodyOf Tryz.f232) Tryz.func232 rfl (by kernel_rfl) (by kernel_rfl) ?_
  rw [Tryz.ntmps232]
  conv => whnf
  repeat' (first | refine OrdN.one ?_ | refine Fork.yp ?_ | refine Fork.np ?_ | refine Fork.ny ?_ | refine Fork.nn ?_ | refine Fork.yb ?_ | refine Fork.nb ?_ | refine Fork.dp (fun h => ?_) (fun h => ?_) | refine Fork.dn (fun h => ?_) (fun h => ?_) | (refine Fork.mk (fun h => ?_) (fun h => ?_) <;> simp only [decide_eq_true_eq, decide_eq_false_iff_not, Bool.not_eq_true', Bool.not_eq_false', Bool.or_eq_true, Bool.or_eq_false_iff] at h) | refine GetN.go ?_ | refine Need.ap1 ?_ | refine Need.ap0 ?_ | refine Need.go ?_ | refine Need.draw ?_ | refine ElemN.go ?_ | refine ExtN.ext ?_ | refine ExtN.wr ?_ | refine AllocN.go (fun l hl => ?_) | refine finGo ?_) <;> try (conv => whnf)
  refine LoopN.rule (α := Nat) (fun i => ⟨18, [(0, .ptr (.g ls) 0), (1, .vec (pts ps)), (4, i64 i)], []⟩)
    (fun i => upd τ ls (scO L (orK k (firstN (patN L) (ps.take i))))) (fun i => ps.length - i) (fun i => i ≤ ps.length) ?_ 0 (by omega) ?_
  rotate_left
  · have : orK k (firstN (patN L) (ps.take 0)) = k := orK_0 k
    rw [this, upd_self hm]
    (refine ⟨rfl, ?_, ?_, Sub.refl _⟩ <;> repeat' (first | exact EnvLe.nil | exact LocsLe.nil | refine EnvLe.cons _ _ _ ?_ ?_ | refine LocsLe.cons _ _ _ ?_ ?_ | exact CVle.same _ rfl | exact CVle.vec _ _ | exact CVle.nil | exact CVle.tok _ _ _ rfl rfl | exact ObLe.tok _ _ rfl | exact CVles.nil | refine CVles.cons ?_ ?_ | exact ObLe.same _ rfl rfl | refine ObLe.cells rfl ?_))
  rintro i K h1 hK
  have hm2 : upd τ ls (scO L (orK k (firstN (patN L) (ps.take i)))) ls = some (scO L (orK k (firstN (patN L) (ps.take i)))) := upd_same _ _ _
  have hK := hK (i + 1)
  dsimp only at h1 hK ⊢
  by_cases hi : i < ps.length
  · obtain ⟨⟨pn, ⟨ek, ⟨vk, vn, vt, vl⟩, es, ec, ep⟩⟩, hmm, hg, hg'⟩ := map_at (f := Pt.cv) hi
    obtain ⟨t1, t2⟩ := ht _ hmm
    have c1 := uses_c hm2 hL t1.e t2
    rw [firstN_succ hg] at hK
    have e : patN L ⟨pn, .mk ek (.mk vk vn vt vl) es ec ep⟩ = exprN L (.mk ek (.mk vk vn vt vl) es ec ep) := rfl
    dsimp only at c1
    rw [e] at hK
    rw [upd_upd, orK_orK] at c1
    generalize upd τ ls (scO L (orK k (firstN (patN L) (ps.take i)))) = τ2 at c1 ⊢
    conv => whnf
    repeat' (first | (refine CallN.one c1 ?_) | refine Fork.yp ?_ | refine Need.go ?_ | refine ElemN.go ?_ | refine ExtN.wr ?_) <;> try (conv => whnf)
    refine hK _ _ (by omega) (by omega) ?_
    (refine ⟨rfl, ?_, ?_, Sub.refl _⟩ <;> repeat' (first | exact EnvLe.nil | exact LocsLe.nil | refine EnvLe.cons _ _ _ ?_ ?_ | refine LocsLe.cons _ _ _ ?_ ?_ | exact CVle.same _ rfl | exact CVle.vec _ _ | exact CVle.nil | exact CVle.tok _ _ _ rfl rfl | exact ObLe.tok _ _ rfl | exact CVles.nil | refine CVles.cons ?_ ?_ | exact ObLe.same _ rfl rfl | refine ObLe.cells rfl ?_))
  · rw [List.take_of_length_le (by omega)]
    conv => whnf
    repeat' (first | refine Fork.np ?_ | refine finGo ?_) <;> try (conv => whnf)
    all_goals rfl
theorem spot_c {τ : Heap} {ls : Nat} {L : List ByteArray} {k : Int} (hm : τ ls = some (scO L k)) (hL : L.length ≤ 1000000000) {s : Sp} {cr : Bool} (hs : SpT s) (hh : SpSh s) :
    CRun Tryz.prog 199 [.ptr (.g ls) 0, s.cv, .sc (.bool cr)] τ (· = .ret (.tup []) (upd τ ls (scO (addN L s.name) (orK k (spotN cr L s).1)))) := by
  obtain ⟨sn, sl, ps⟩ := s
  obtain ⟨t1, t2, t3, t4⟩ := hs
  dsimp only at t1 t2 t3 t4 ⊢
  have e3 := pts_len ps
  have hE : spotN cr L ⟨sn, sl, ps⟩ = if firstN (patN L) ps = 0 then (if cr && (hasB L sn && !decide (sl = ⟨#[]⟩ ∧ ps.length = 0)) then (4, L) else (0, addN L sn)) else (firstN (patN L) ps, L) := rfl
  have c1 := pats_c hm hL t3 fun p hp => ⟨t4 p hp, hh p hp⟩
  generalize spotN cr L ⟨sn, sl, ps⟩ = Q at hE ⊢
  generalize hP : firstN (patN L) ps = P at c1 hE
  clear hP hh t4
  have hm1 : upd τ ls (scO L (orK k P)) ls = some (scO L (orK k P)) := upd_same _ _ _
  have cf := fail_c (c := 4) hm1
  rw [upd_upd, orK_orK] at cf
  have hm2 : upd τ ls (scO L (orK k (if P = 0 then 4 else P))) ls = some (scO L (orK k (if P = 0 then 4 else P))) := upd_same _ _ _
  have ca1 := adds_c (s := sn) hm1 hL
  have ca2 := adds_c (s := sn) hm2 hL
  rw [upd_upd] at ca1 ca2
  have ch := l2Has_c (σ := upd τ ls (scO L (orK k P))) (ns := L) (s := sn) hL
  have f0 : (cr && (hasB L sn && !decide (sl = ⟨#[]⟩ ∧ ps.length = 0))) = false → Q.1 = P := fun h => by
    rw [hE, h]; split
    · rename_i e; exact e.symm
    · rfl
  have f4 : (cr && (hasB L sn && !decide (sl = ⟨#[]⟩ ∧ ps.length = 0))) = true → Q.1 = if P = 0 then 4 else P := fun h => by
    rw [hE, h]; split <;> rfl
  clear hE
  generalize hτ1 : upd τ ls (scO L (orK k P)) = τ1 at c1 cf ca1 ch hm1
  generalize upd τ ls (scO L (orK k (if P = 0 then 4 else P))) = τ2 at cf ca2
  clear hτ1 hm2
  unfold scO at hm1
  refine crun_of (X := X) X_ok X_sat (body := bodyOf Tryz.f199) Tryz.func199 rfl (by kernel_rfl) (by kernel_rfl) ?_
  rw [Tryz.ntmps199]
  cases cr
  · rw [f0 rfl]
    conv => whnf
    repeat' (first | (refine CallN.one c1 ?_) | (refine CallN.one ca1 ?_) | refine Need.draw ?_ | refine ExtN.wr ?_ | refine finGo ?_) <;> try (conv => whnf)
    all_goals rfl
  cases hb : hasB L sn <;> rw [hb] at ch f0 f4
  · rw [f0 rfl]
    conv => whnf
    repeat' (first | (refine CallN.one c1 ?_) | (refine CallN.one ch ?_) | (refine CallN.one ca1 ?_) | refine OrdN.one ?_ | refine GetN.go ?_ | refine Need.draw ?_ | refine ExtN.ext ?_ | refine ExtN.wr ?_ | refine finGo ?_) <;> try (conv => whnf)
    all_goals rfl
  by_cases a1 : sl = ⟨#[]⟩
  · by_cases a2 : ps.length = 0
    · rw [f0 (by simp [a1, a2])]
      conv => whnf
      repeat' (first | (refine CallN.one c1 ?_) | (refine CallN.one ch ?_) | (refine CallN.one ca1 ?_) | refine OrdN.one ?_ | refine Fork.np ?_ | refine Fork.nn ?_ | refine GetN.go ?_ | refine Need.draw ?_ | refine ExtN.ext ?_ | refine ExtN.wr ?_ | refine finGo ?_) <;> try (conv => whnf)
      all_goals rfl
    · rw [f4 (by simp [a1]; intro h; exact a2 (by rw [h]; rfl))]
      conv => whnf
      repeat' (first | (refine CallN.one c1 ?_) | (refine CallN.one ch ?_) | (refine CallN.one cf ?_) | (refine CallN.one ca2 ?_) | refine OrdN.one ?_ | refine Fork.yp ?_ | refine Fork.nn ?_ | refine GetN.go ?_ | refine Need.draw ?_ | refine ExtN.ext ?_ | refine ExtN.wr ?_ | refine finGo ?_) <;> try (conv => whnf)
      all_goals rfl
  · rw [f4 (by simp [a1])]
    conv => whnf
    repeat' (first | (refine CallN.one c1 ?_) | (refine CallN.one ch ?_) | (refine CallN.one cf ?_) | (refine CallN.one ca2 ?_) | refine OrdN.one ?_ | refine Fork.ny ?_ | refine GetN.go ?_ | refine Need.draw ?_ | refine ExtN.ext ?_ | refine ExtN.wr ?_ | refine finGo ?_) <;> try (conv => whnf)
    all_goals rfl
theorem hopQ {cr : Bool} {L : List ByteArray} {h : Hp} {k : Int} : orK (orK (orK k (if cr && decide (h.kind = ⟨#[]⟩ ∨ h.way = 0) then 2 else 0)) (if hasB L h.name then 4 else 0)) (spotN cr (addN L h.name) h.spot).1 = orK k (hopN cr L h).1 := by
  have hE : hopN cr L h = if cr && decide (h.kind = ⟨#[]⟩ ∨ h.way = 0) then (2, L) else if hasB L h.name then (4, L) else spotN cr (addN L h.name) h.spot := rfl
  rw [hE, orK_orK, orK_orK]
  cases (cr && decide (h.kind = ⟨#[]⟩ ∨ h.way = 0)) <;> cases hasB L h.name <;> simp
set_option maxHeartbeats 1000000 in
theorem paths_c {τ : Heap} {ls : Nat} {L : List ByteArray} {k : Int} (hm : τ ls = some (scO L k)) (hL : L.length ≤ 100000000) {ps : List Pth} {cr : Bool} (hk : ps.length ≤ 1000) (ht : ∀ p ∈ ps, PthT p ∧ PthSh p) :
    CRun Tryz.prog 129 [.ptr (.g ls) 0, .vec (pths ps), .sc (.bool cr)] τ (· = .ret (.tup []) (upd τ ls (scS (ps.foldl (pathS cr) (L, k))))) := by
  have e3 := pths_len ps
  refine crun_of (X := X) X_ok X_sat (body := bodyOf Tryz.f129) Tryz.func129 rfl (by kernel_rfl) (by kernel_rfl) ?_
  rw [Tryz.ntmps129]
  conv => whnf
  repeat' (first | refine OrdN.one ?_ | refine Fork.yp ?_ | refine Fork.np ?_ | refine Fork.ny ?_ | refine Fork.nn ?_ | refine Fork.yb ?_ | refine Fork.nb ?_ | refine Fork.dp (fun h => ?_) (fun h => ?_) | refine Fork.dn (fun h => ?_) (fun h => ?_) | (refine Fork.mk (fun h => ?_) (fun h => ?_) <;> simp only [decide_eq_true_eq, decide_eq_false_iff_not, Bool.not_eq_true', Bool.not_eq_false', Bool.or_eq_true, Bool.or_eq_false_iff] at h) | refine GetN.go ?_ | refine Need.ap1 ?_ | refine Need.ap0 ?_ | refine Need.go ?_ | refine Need.draw ?_ | refine ElemN.go ?_ | refine ExtN.ext ?_ | refine ExtN.wr ?_ | refine AllocN.go (fun l hl => ?_) | refine finGo ?_) <;> try (conv => whnf)
  refine LoopN.rule (α := Nat) (fun i => ⟨72, [(0, .ptr (.g ls) 0), (1, .vec (pths ps)), (2, .sc (.bool cr)), (6, i64 i)], []⟩)
    (fun i => upd τ ls (scS ((ps.take i).foldl (pathS cr) (L, k)))) (fun i => ps.length - i) (fun i => i ≤ ps.length ∧ ((ps.take i).foldl (pathS cr) (L, k)).1.length ≤ L.length + 2001 * i) ?_ 0 ⟨by omega, by simp⟩ ?_
  rotate_left
  · have : scS ((ps.take 0).foldl (pathS cr) (L, k)) = scO L k := rfl
    rw [this, upd_self hm]
    (refine ⟨rfl, ?_, ?_, Sub.refl _⟩ <;> repeat' (first | exact EnvLe.nil | exact LocsLe.nil | refine EnvLe.cons _ _ _ ?_ ?_ | refine LocsLe.cons _ _ _ ?_ ?_ | exact CVle.same _ rfl | exact CVle.vec _ _ | exact CVle.nil | exact CVle.tok _ _ _ rfl rfl | exact ObLe.tok _ _ rfl | exact CVles.nil | refine CVles.cons ?_ ?_ | exact ObLe.same _ rfl rfl | refine ObLe.cells rfl ?_))
  rintro i K ⟨h1, h2⟩ hK
  have hK := hK (i + 1)
  dsimp only at h1 h2 hK ⊢
  by_cases hi : i < ps.length
  · obtain ⟨⟨⟨sn, sl, sp⟩, hs⟩, hmm, hg, hg'⟩ := map_at (f := Pth.cv) hi
    obtain ⟨⟨t1, t2, t3⟩, t4, t5⟩ := ht _ hmm
    dsimp only at t1 t2 t3 t4 t5
    have e5 := hps_len hs
    rw [foldl_succ hg] at hK
    generalize (ps.take i).foldl (pathS cr) (L, k) = S at h2 hK ⊢
    obtain ⟨Li, ki⟩ := S
    dsimp only at h2
    have hl := pathS_len cr (Li, ki) ⟨⟨sn, sl, sp⟩, hs⟩
    dsimp only at hl
    have hm2 : upd τ ls (scS (Li, ki)) ls = some (scO Li ki) := upd_same _ _ _
    have c1 := spot_c (cr := cr) hm2 (by omega) t1 t4
    dsimp only at c1
    rw [upd_upd] at c1
    have hKk : ∀ fr σ', Wk fr σ' ⟨72, [(0, .ptr (.g ls) 0), (1, .vec (pths ps)), (2, .sc (.bool cr)), (6, i64 ((i + 1 : Nat) : Int))], []⟩ (upd τ ls (scS (pathS cr (Li, ki) ⟨⟨sn, sl, sp⟩, hs⟩))) → K fr σ' := fun fr σ' h => hK fr σ' ⟨by omega, by omega⟩ (by omega) h
    clear hK
    have hsS : spotS cr (Li, ki) ⟨sn, sl, sp⟩ = (addN Li sn, orK ki (spotN cr Li ⟨sn, sl, sp⟩).1) := rfl
    have hpS : pathS cr (Li, ki) ⟨⟨sn, sl, sp⟩, hs⟩ = hs.foldl (hopS cr) (addN Li sn, orK ki (spotN cr Li ⟨sn, sl, sp⟩).1) := rfl
    rw [hpS] at hKk
    have hl1 := addN_len Li sn
    generalize addN Li sn = L1 at c1 hKk hl1
    generalize orK ki (spotN cr Li ⟨sn, sl, sp⟩).1 = k1 at c1 hKk
    clear hpS hsS
    generalize upd τ ls (scS (Li, ki)) = τ2 at c1 ⊢
    conv => whnf
    repeat' (first | (refine CallN.one c1 ?_) | refine Fork.yp ?_ | refine Need.go ?_ | refine ElemN.go ?_ | refine ExtN.wr ?_) <;> try (conv => whnf)
    refine LoopN.rule (α := Nat) (fun j => ⟨72, [(0, .ptr (.g ls) 0), (1, .vec (pths ps)), (2, .sc (.bool cr)), (6, i64 i), (7, i64 j)], []⟩)
      (fun j => upd τ ls (scS ((hs.take j).foldl (hopS cr) (L1, k1)))) (fun j => hs.length - j) (fun j => j ≤ hs.length ∧ ((hs.take j).foldl (hopS cr) (L1, k1)).1.length ≤ L1.length + 2 * j) ?_ 0 ⟨by omega, by simp⟩ ?_
    rotate_left
    · have : scS ((hs.take 0).foldl (hopS cr) (L1, k1)) = scO L1 k1 := rfl
      rw [this]
      (refine ⟨rfl, ?_, ?_, Sub.refl _⟩ <;> repeat' (first | exact EnvLe.nil | exact LocsLe.nil | refine EnvLe.cons _ _ _ ?_ ?_ | refine LocsLe.cons _ _ _ ?_ ?_ | exact CVle.same _ rfl | exact CVle.vec _ _ | exact CVle.nil | exact CVle.tok _ _ _ rfl rfl | exact ObLe.tok _ _ rfl | exact CVles.nil | refine CVles.cons ?_ ?_ | exact ObLe.same _ rfl rfl | refine ObLe.cells rfl ?_))
    rintro j K2 ⟨h3, h4⟩ hK2
    have hK2 := hK2 (j + 1)
    dsimp only at h3 h4 hK2 ⊢
    by_cases hj : j < hs.length
    · obtain ⟨⟨hn, hkd, hw, ⟨xn, xl, xp⟩⟩, um, ug, ug'⟩ := map_at (f := Hp.cv) hj
      have u1 := t3 _ um
      have u2 := t5 _ um
      have u3 := u1.s
      dsimp only at u2 u3
      rw [foldl_succ ug] at hK2
      generalize (hs.take j).foldl (hopS cr) (L1, k1) = S at h4 hK2 ⊢
      obtain ⟨Lj, kj⟩ := S
      dsimp only at h4
      have hA : hopS cr (Lj, kj) ⟨hn, hkd, hw, ⟨xn, xl, xp⟩⟩ = (addN (addN Lj hn) xn, orK kj (hopN cr Lj ⟨hn, hkd, hw, ⟨xn, xl, xp⟩⟩).1) := rfl
      have hq := hopQ (cr := cr) (L := Lj) (h := ⟨hn, hkd, hw, ⟨xn, xl, xp⟩⟩) (k := kj)
      dsimp only at hq
      rw [← hq] at hA
      have hl5 := addN_len Lj hn
      have hl6 := addN_len (addN Lj hn) xn
      have hKk2 : ∀ fr σ', Wk fr σ' ⟨72, [(0, .ptr (.g ls) 0), (1, .vec (pths ps)), (2, .sc (.bool cr)), (6, i64 i), (7, i64 ((j + 1 : Nat) : Int))], []⟩ (upd τ ls (scS (hopS cr (Lj, kj) ⟨hn, hkd, hw, ⟨xn, xl, xp⟩⟩))) → K2 fr σ' := fun fr σ' h => hK2 fr σ' ⟨by omega, by rw [hA]; dsimp only; omega⟩ (by omega) h
      rw [hA] at hKk2
      clear hK2 hKk hA hq
      have hm3 : upd τ ls (scS (Lj, kj)) ls = some (scO Lj kj) := upd_same _ _ _
      have cf := fail_c (c := 2) hm3
      rw [upd_upd] at cf
      obtain ⟨g, hg2⟩ : ∃ g, g = (cr && decide (hkd = ⟨#[]⟩ ∨ hw = 0)) := ⟨_, rfl⟩
      obtain ⟨b, hb⟩ : ∃ b, b = hasB Lj hn := ⟨_, rfl⟩
      have hka : ∀ q : Int, ∃ q', q' = q := fun q => ⟨q, rfl⟩
      obtain ⟨ka, hka⟩ := hka (orK kj (if g then 2 else 0))
      have hmA : upd τ ls (scO Lj ka) ls = some (scO Lj ka) := upd_same _ _ _
      have cg := fail_c (c := 4) hmA
      have ch := l2Has_c (σ := upd τ ls (scO Lj ka)) (ns := Lj) (s := hn) (by omega)
      obtain ⟨kb, hkb⟩ : ∃ kb, kb = orK ka (if b then 4 else 0) := ⟨_, rfl⟩
      have hmB : upd τ ls (scO Lj kb) ls = some (scO Lj kb) := upd_same _ _ _
      have ca := adds_c (s := hn) hmB (by omega)
      have hmC : upd τ ls (scO (addN Lj hn) kb) ls = some (scO (addN Lj hn) kb) := upd_same _ _ _
      have cs := spot_c (cr := cr) hmC (by omega) u3 u2
      rw [upd_upd] at cg ca cs
      dsimp only at cs
      rw [← hg2, ← hka, ← hb, ← hkb] at hKk2
      rw [← hb] at ch
      generalize upd τ ls (scO (addN Lj hn) kb) = τC at ca cs
      cases g
      · rw [if_neg (by decide), orK_0] at hka
        subst hka
        have e0 : upd τ ls (scS (Lj, ka)) = upd τ ls (scO Lj ka) := rfl
        rw [e0]
        clear cf hm3 e0
        cases b
        · rw [if_neg (by decide), orK_0] at hkb
          subst hkb
          generalize upd τ ls (scO Lj kb) = τ3 at ch ca cg hmA ⊢
          unfold scO at hmA
          cases cr
          · conv => whnf
            repeat' (first | (refine CallN.one ch ?_) | (refine CallN.one ca ?_) | (refine CallN.one cs ?_) | refine OrdN.one ?_ | refine Fork.yp ?_ | refine GetN.go ?_ | refine Need.go ?_ | refine Need.draw ?_ | refine ElemN.go ?_ | refine ExtN.ext ?_ | refine ExtN.wr ?_) <;> try (conv => whnf)
            refine hKk2 _ _ ?_
            (refine ⟨rfl, ?_, ?_, Sub.refl _⟩ <;> repeat' (first | exact EnvLe.nil | exact LocsLe.nil | refine EnvLe.cons _ _ _ ?_ ?_ | refine LocsLe.cons _ _ _ ?_ ?_ | exact CVle.same _ rfl | exact CVle.vec _ _ | exact CVle.nil | exact CVle.tok _ _ _ rfl rfl | exact ObLe.tok _ _ rfl | exact CVles.nil | refine CVles.cons ?_ ?_ | exact ObLe.same _ rfl rfl | refine ObLe.cells rfl ?_))
          · have n1 : ¬ hkd = ⟨#[]⟩ := fun h => by simp [h] at hg2
            have n2 : ¬ hw = 0 := fun h => by simp [h] at hg2
            conv => whnf
            repeat' (first | (refine CallN.one ch ?_) | (refine CallN.one ca ?_) | (refine CallN.one cs ?_) | refine OrdN.one ?_ | refine Fork.yp ?_ | refine Fork.np ?_ | refine GetN.go ?_ | refine Need.go ?_ | refine Need.draw ?_ | refine ElemN.go ?_ | refine ExtN.ext ?_ | refine ExtN.wr ?_) <;> try (conv => whnf)
            refine hKk2 _ _ ?_
            (refine ⟨rfl, ?_, ?_, Sub.refl _⟩ <;> repeat' (first | exact EnvLe.nil | exact LocsLe.nil | refine EnvLe.cons _ _ _ ?_ ?_ | refine LocsLe.cons _ _ _ ?_ ?_ | exact CVle.same _ rfl | exact CVle.vec _ _ | exact CVle.nil | exact CVle.tok _ _ _ rfl rfl | exact ObLe.tok _ _ rfl | exact CVles.nil | refine CVles.cons ?_ ?_ | exact ObLe.same _ rfl rfl | refine ObLe.cells rfl ?_))
        · rw [if_pos rfl] at hkb
          rw [← hkb] at cg
          generalize upd τ ls (scO Lj kb) = τ4 at ca cg
          generalize upd τ ls (scO Lj ka) = τ3 at ch cg hmA ⊢
          unfold scO at hmA
          cases cr
          · conv => whnf
            repeat' (first | (refine CallN.one ch ?_) | (refine CallN.one cg ?_) | (refine CallN.one ca ?_) | (refine CallN.one cs ?_) | refine OrdN.one ?_ | refine Fork.yp ?_ | refine GetN.go ?_ | refine Need.go ?_ | refine Need.draw ?_ | refine ElemN.go ?_ | refine ExtN.ext ?_ | refine ExtN.wr ?_) <;> try (conv => whnf)
            refine hKk2 _ _ ?_
            (refine ⟨rfl, ?_, ?_, Sub.refl _⟩ <;> repeat' (first | exact EnvLe.nil | exact LocsLe.nil | refine EnvLe.cons _ _ _ ?_ ?_ | refine LocsLe.cons _ _ _ ?_ ?_ | exact CVle.same _ rfl | exact CVle.vec _ _ | exact CVle.nil | exact CVle.tok _ _ _ rfl rfl | exact ObLe.tok _ _ rfl | exact CVles.nil | refine CVles.cons ?_ ?_ | exact ObLe.same _ rfl rfl | refine ObLe.cells rfl ?_))
          · have n1 : ¬ hkd = ⟨#[]⟩ := fun h => by simp [h] at hg2
            have n2 : ¬ hw = 0 := fun h => by simp [h] at hg2
            conv => whnf
            repeat' (first | (refine CallN.one ch ?_) | (refine CallN.one cg ?_) | (refine CallN.one ca ?_) | (refine CallN.one cs ?_) | refine OrdN.one ?_ | refine Fork.yp ?_ | refine Fork.np ?_ | refine GetN.go ?_ | refine Need.go ?_ | refine Need.draw ?_ | refine ElemN.go ?_ | refine ExtN.ext ?_ | refine ExtN.wr ?_) <;> try (conv => whnf)
            refine hKk2 _ _ ?_
            (refine ⟨rfl, ?_, ?_, Sub.refl _⟩ <;> repeat' (first | exact EnvLe.nil | exact LocsLe.nil | refine EnvLe.cons _ _ _ ?_ ?_ | refine LocsLe.cons _ _ _ ?_ ?_ | exact CVle.same _ rfl | exact CVle.vec _ _ | exact CVle.nil | exact CVle.tok _ _ _ rfl rfl | exact ObLe.tok _ _ rfl | exact CVles.nil | refine CVles.cons ?_ ?_ | exact ObLe.same _ rfl rfl | refine ObLe.cells rfl ?_))
      · rw [if_pos rfl] at hka
        have hcr : cr = true := by cases cr; cases hg2; rfl
        subst hcr
        rw [← hka] at cf
        have hor : hkd = ⟨#[]⟩ ∨ hw = 0 := by simpa using hg2.symm
        cases b
        · rw [if_neg (by decide), orK_0] at hkb
          subst hkb
          generalize upd τ ls (scO Lj kb) = τ3 at cf ch ca cg hmA
          generalize upd τ ls (scS (Lj, kj)) = τ0 at cf ⊢
          unfold scO at hmA
          by_cases n1 : hkd = ⟨#[]⟩
          · conv => whnf
            repeat' (first | (refine CallN.one cf ?_) | (refine CallN.one ch ?_) | (refine CallN.one ca ?_) | (refine CallN.one cs ?_) | refine OrdN.one ?_ | refine Fork.yp ?_ | refine GetN.go ?_ | refine Need.go ?_ | refine Need.draw ?_ | refine ElemN.go ?_ | refine ExtN.ext ?_ | refine ExtN.wr ?_) <;> try (conv => whnf)
            refine hKk2 _ _ ?_
            (refine ⟨rfl, ?_, ?_, Sub.refl _⟩ <;> repeat' (first | exact EnvLe.nil | exact LocsLe.nil | refine EnvLe.cons _ _ _ ?_ ?_ | refine LocsLe.cons _ _ _ ?_ ?_ | exact CVle.same _ rfl | exact CVle.vec _ _ | exact CVle.nil | exact CVle.tok _ _ _ rfl rfl | exact ObLe.tok _ _ rfl | exact CVles.nil | refine CVles.cons ?_ ?_ | exact ObLe.same _ rfl rfl | refine ObLe.cells rfl ?_))
          · have n2 : hw = 0 := hor.resolve_left n1
            conv => whnf
            repeat' (first | (refine CallN.one cf ?_) | (refine CallN.one ch ?_) | (refine CallN.one ca ?_) | (refine CallN.one cs ?_) | refine OrdN.one ?_ | refine Fork.yp ?_ | refine Fork.np ?_ | refine GetN.go ?_ | refine Need.go ?_ | refine Need.draw ?_ | refine ElemN.go ?_ | refine ExtN.ext ?_ | refine ExtN.wr ?_) <;> try (conv => whnf)
            refine hKk2 _ _ ?_
            (refine ⟨rfl, ?_, ?_, Sub.refl _⟩ <;> repeat' (first | exact EnvLe.nil | exact LocsLe.nil | refine EnvLe.cons _ _ _ ?_ ?_ | refine LocsLe.cons _ _ _ ?_ ?_ | exact CVle.same _ rfl | exact CVle.vec _ _ | exact CVle.nil | exact CVle.tok _ _ _ rfl rfl | exact ObLe.tok _ _ rfl | exact CVles.nil | refine CVles.cons ?_ ?_ | exact ObLe.same _ rfl rfl | refine ObLe.cells rfl ?_))
        · rw [if_pos rfl] at hkb
          rw [← hkb] at cg
          generalize upd τ ls (scO Lj kb) = τ4 at ca cg
          generalize upd τ ls (scO Lj ka) = τ3 at cf ch cg hmA
          generalize upd τ ls (scS (Lj, kj)) = τ0 at cf ⊢
          unfold scO at hmA
          by_cases n1 : hkd = ⟨#[]⟩
          · conv => whnf
            repeat' (first | (refine CallN.one cf ?_) | (refine CallN.one ch ?_) | (refine CallN.one cg ?_) | (refine CallN.one ca ?_) | (refine CallN.one cs ?_) | refine OrdN.one ?_ | refine Fork.yp ?_ | refine GetN.go ?_ | refine Need.go ?_ | refine Need.draw ?_ | refine ElemN.go ?_ | refine ExtN.ext ?_ | refine ExtN.wr ?_) <;> try (conv => whnf)
            refine hKk2 _ _ ?_
            (refine ⟨rfl, ?_, ?_, Sub.refl _⟩ <;> repeat' (first | exact EnvLe.nil | exact LocsLe.nil | refine EnvLe.cons _ _ _ ?_ ?_ | refine LocsLe.cons _ _ _ ?_ ?_ | exact CVle.same _ rfl | exact CVle.vec _ _ | exact CVle.nil | exact CVle.tok _ _ _ rfl rfl | exact ObLe.tok _ _ rfl | exact CVles.nil | refine CVles.cons ?_ ?_ | exact ObLe.same _ rfl rfl | refine ObLe.cells rfl ?_))
          · have n2 : hw = 0 := hor.resolve_left n1
            conv => whnf
            repeat' (first | (refine CallN.one cf ?_) | (refine CallN.one ch ?_) | (refine CallN.one cg ?_) | (refine CallN.one ca ?_) | (refine CallN.one cs ?_) | refine OrdN.one ?_ | refine Fork.yp ?_ | refine Fork.np ?_ | refine GetN.go ?_ | refine Need.go ?_ | refine Need.draw ?_ | refine ElemN.go ?_ | refine ExtN.ext ?_ | refine ExtN.wr ?_) <;> try (conv => whnf)
            refine hKk2 _ _ ?_
            (refine ⟨rfl, ?_, ?_, Sub.refl _⟩ <;> repeat' (first | exact EnvLe.nil | exact LocsLe.nil | refine EnvLe.cons _ _ _ ?_ ?_ | refine LocsLe.cons _ _ _ ?_ ?_ | exact CVle.same _ rfl | exact CVle.vec _ _ | exact CVle.nil | exact CVle.tok _ _ _ rfl rfl | exact ObLe.tok _ _ rfl | exact CVles.nil | refine CVles.cons ?_ ?_ | exact ObLe.same _ rfl rfl | refine ObLe.cells rfl ?_))
    · rw [List.take_of_length_le (by omega)]
      conv => whnf
      repeat' (first | refine Fork.np ?_ | refine Need.go ?_ | refine ElemN.go ?_) <;> try (conv => whnf)
      refine hKk _ _ ?_
      (refine ⟨rfl, ?_, ?_, Sub.refl _⟩ <;> repeat' (first | exact EnvLe.nil | exact LocsLe.nil | refine EnvLe.cons _ _ _ ?_ ?_ | refine LocsLe.cons _ _ _ ?_ ?_ | exact CVle.same _ rfl | exact CVle.vec _ _ | exact CVle.nil | exact CVle.tok _ _ _ rfl rfl | exact ObLe.tok _ _ rfl | exact CVles.nil | refine CVles.cons ?_ ?_ | exact ObLe.same _ rfl rfl | refine ObLe.cells rfl ?_))
  · rw [List.take_of_length_le (by omega)]
    conv => whnf
    repeat' (first | refine Fork.np ?_ | refine finGo ?_) <;> try (conv => whnf)
    all_goals rfl
theorem fold_runN {α : Type} {f : SS → α → SS} {g : List ByteArray → α → Int × List ByteArray} : ∀ (l : List α), (∀ x ∈ l, ∀ L k, (f (L, k) x).2 = orK k (g L x).1 ∧ (k = 0 → (g L x).1 = 0 → (f (L, k) x).1 = (g L x).2)) → ∀ L k,
    (l.foldl f (L, k)).2 = orK k (runN g l L).1 ∧ (k = 0 → (runN g l L).1 = 0 → (l.foldl f (L, k)).1 = (runN g l L).2)
  | [], _, L, k => ⟨(orK_0 k).symm, fun _ _ => rfl⟩
  | x :: r, hf, L, k => by
    obtain ⟨h1, h2⟩ := hf x (by simp) L k
    obtain ⟨L1, k1, hS⟩ : ∃ L1 k1, f (L, k) x = (L1, k1) := ⟨_, _, rfl⟩
    rw [hS] at h1 h2
    dsimp only at h1 h2
    obtain ⟨i1, i2⟩ := fold_runN r (fun y hy => hf y (by simp [hy])) L1 k1
    have hE : runN g (x :: r) L = if (g L x).1 = 0 then runN g r (g L x).2 else g L x := rfl
    rw [List.foldl_cons, hS, hE]
    by_cases hk : k = 0
    · subst hk
      have h3 : orK 0 (g L x).1 = (g L x).1 := if_pos rfl
      rw [h3] at h1
      by_cases hc : (g L x).1 = 0
      · have h4 := h2 rfl hc
        rw [if_pos hc, i1, ← h4]
        rw [hc] at h1
        subst h1
        exact ⟨rfl, fun _ h => i2 rfl h⟩
      · rw [if_neg hc, i1]
        refine ⟨?_, fun _ h => absurd h hc⟩
        rw [h3]
        unfold orK; rw [h1, if_neg hc]
    · have h3 : ∀ c, orK k c = k := fun c => if_neg hk
      rw [h3] at h1
      subst h1
      exact ⟨by rw [i1, h3, h3], fun h => absurd h hk⟩
theorem hop_rel {cr : Bool} {L : List ByteArray} {k : Int} {h : Hp} : (hopS cr (L, k) h).2 = orK k (hopN cr L h).1 ∧ (k = 0 → (hopN cr L h).1 = 0 → (hopS cr (L, k) h).1 = (hopN cr L h).2) := by
  refine ⟨rfl, fun _ h0 => ?_⟩
  have hE : hopN cr L h = if cr && decide (h.kind = ⟨#[]⟩ ∨ h.way = 0) then (2, L) else if hasB L h.name then (4, L) else spotN cr (addN L h.name) h.spot := rfl
  rw [hE] at h0 ⊢
  split at h0
  · exact absurd h0 (show ¬ (2 : Int) = 0 by decide)
  · rename_i c1
    rw [if_neg c1]
    split at h0
    · exact absurd h0 (show ¬ (4 : Int) = 0 by decide)
    · rename_i c2
      rw [if_neg c2]
      have hF : spotN cr (addN L h.name) h.spot = if firstN (patN (addN L h.name)) h.spot.props = 0 then (if cr && (hasB (addN L h.name) h.spot.name && !decide (h.spot.label = ⟨#[]⟩ ∧ h.spot.props.length = 0)) then (4, addN L h.name) else (0, addN (addN L h.name) h.spot.name)) else (firstN (patN (addN L h.name)) h.spot.props, addN L h.name) := rfl
      rw [hF] at h0 ⊢
      split at h0
      · rename_i c3
        rw [if_pos c3]
        split at h0
        · exact absurd h0 (show ¬ (4 : Int) = 0 by decide)
        · rename_i c4
          rw [if_neg c4]; rfl
      · rename_i c3
        exact absurd h0 c3
theorem spotN_ok {cr : Bool} {L : List ByteArray} {s : Sp} (h0 : (spotN cr L s).1 = 0) : (spotN cr L s).2 = addN L s.name := by
  unfold spotN at h0 ⊢
  split at h0
  · rename_i c3
    rw [if_pos c3]
    split at h0
    · exact absurd h0 (show ¬ (4 : Int) = 0 by decide)
    · rename_i c4
      rw [if_neg c4]
  · rename_i c3
    exact absurd h0 c3
theorem path_rel {cr : Bool} {L : List ByteArray} {k : Int} {p : Pth} : (pathS cr (L, k) p).2 = orK k (pathN cr L p).1 ∧ (k = 0 → (pathN cr L p).1 = 0 → (pathS cr (L, k) p).1 = (pathN cr L p).2) := by
  obtain ⟨i1, i2⟩ := fold_runN p.hops (f := hopS cr) (g := hopN cr) (fun x _ L k => hop_rel) (addN L p.spot.name) (orK k (spotN cr L p.spot).1)
  have hE : pathN cr L p = if (spotN cr L p.spot).1 = 0 then runN (hopN cr) p.hops (spotN cr L p.spot).2 else spotN cr L p.spot := rfl
  have hS : pathS cr (L, k) p = p.hops.foldl (hopS cr) (addN L p.spot.name, orK k (spotN cr L p.spot).1) := rfl
  rw [hE, hS, i1]
  by_cases hc : (spotN cr L p.spot).1 = 0
  · rw [if_pos hc, spotN_ok hc]
    rw [hc, orK_0] at i2 ⊢
    exact ⟨rfl, fun h => i2 h⟩
  · rw [if_neg hc, orK_orK, if_neg hc]
    exact ⟨rfl, fun _ h => absurd h hc⟩
def AR (e : Exp) : Prop := ∀ k v s c ps, e = .mk k v s c ps → (k = 15 → ps.length = 1) ∧ (k = 14 → ps.length = 0)
def itS (L : List ByteArray) (i : It) : Int := if topE i.e then (if missN L (namesX i.e) then 3 else 0) else 2
theorem itS_eq {L : List ByteArray} {i : It} (h : AR i.e) : itS L i = itN L i := by
  obtain ⟨⟨k, v, s, c, ps⟩, n⟩ := i
  obtain ⟨h1, h2⟩ := h _ _ _ _ _ rfl
  have hN : itN L ⟨.mk k v s c ps, n⟩ = if k = 14 then 0 else if k = 15 then headN L ps else exprN L (.mk k v s c ps) := rfl
  have hS : itS L ⟨.mk k v s c ps, n⟩ = if topE (.mk k v s c ps) then (if missN L (namesX (.mk k v s c ps)) then 3 else 0) else 2 := rfl
  rw [hN, hS]
  by_cases a1 : k = 14
  · have : ps = [] := List.eq_nil_of_length_eq_zero (h2 a1)
    subst this; subst a1
    have e1 : topE (.mk 14 v s c []) = true := rfl
    have e2 : namesX (.mk 14 v s c []) = [] := by simp [namesX, subsE, subsL, namesOf, nameIf, asks]
    rw [e1, e2, if_pos rfl, if_pos rfl]; rfl
  by_cases a2 : k = 15
  · obtain ⟨x, rfl⟩ : ∃ x, ps = [x] := List.length_eq_one_iff.1 (h1 a2)
    subst a2
    have e1 : topE (.mk 15 v s c [x]) = !putsE x := rfl
    have e2 : namesX (.mk 15 v s c [x]) = namesX x := by
      unfold namesX
      have : subsE (.mk 15 v s c [x]) = .mk 15 v s c [x] :: subsE x := by simp [subsE, subsL]
      rw [this, namesOf_cons]; rfl
    have e3 : headN L [x] = if putsE x then 2 else if missN L (namesX x) then 3 else 0 := rfl
    rw [e1, e2, if_neg (show ¬ (15 : Int) = 14 by decide), if_pos rfl, e3]
    cases putsE x <;> rfl
  · have e1 : topE (.mk k v s c ps) = !putsE (.mk k v s c ps) := by
      have : topE (.mk k v s c ps) = (decide (k = 14) || !putsE (.mk k v s c ps)) := if_neg a2
      rw [this, decide_eq_false a1, Bool.false_or]
    have e3 : exprN L (.mk k v s c ps) = if putsE (.mk k v s c ps) then 2 else if missN L (namesX (.mk k v s c ps)) then 3 else 0 := rfl
    rw [e1, if_neg a1, if_neg a2, e3]
    cases putsE (.mk k v s c ps) <;> rfl
theorem firstN_congr {α : Type} {f g : α → Int} : ∀ {l : List α}, (∀ x ∈ l, f x = g x) → firstN f l = firstN g l
  | [], _ => rfl
  | x :: r, h => by simp only [firstN]; rw [h x (by simp), firstN_congr fun y hy => h y (by simp [hy])]
theorem names_miss {L : List ByteArray} : ∀ (l : List ByteArray), firstN (nmN L) l = if missN L l then 3 else 0
  | [] => rfl
  | x :: r => by
    have h := names_miss (L := L) r
    have hm : missN L (x :: r) = (!hasB L x || missN L r) := rfl
    have hf : firstN (nmN L) (x :: r) = if nmN L x = 0 then firstN (nmN L) r else nmN L x := rfl
    have hx : nmN L x = if hasB L x then 0 else 3 := rfl
    rw [hm, hf, hx, h]
    cases hasB L x <;> rfl
def clS (a : SS) (c : Cl) : SS :=
  if c.kind = 1 ∨ c.kind = 2 ∨ c.kind = 7 then c.paths.foldl (pathS (decide (c.kind = 7))) a
  else if c.kind = 5 ∨ c.kind = 6 then (c.items.map It.name, orK a.2 (firstN (itS a.1) c.items))
  else if c.kind = 8 then (a.1, orK a.2 (firstN (toN a.1) c.tos))
  else if c.kind = 9 then (a.1, orK a.2 (if missN a.1 c.names then 3 else 0))
  else if c.kind = 4 then (addN a.1 c.name, orK (orK a.2 (exprN a.1 c.e)) (if hasB a.1 c.name then 4 else 0))
  else (a.1, orK a.2 (exprN a.1 c.e))
theorem fold_addN : ∀ (l a : List ByteArray), (∀ s ∈ l, ¬ s = ⟨#[]⟩) → (a ++ l).Pairwise (fun x y => ¬ x = y) → l.foldl addN a = a ++ l
  | [], a, _, _ => by simp
  | s :: r, a, h0, hp => by
    have h1 : hasB a s = false := hasB_no fun x hx e => by
      rw [List.pairwise_append] at hp
      exact hp.2.2 x hx s (by simp) e
    have h2 : addN a s = a ++ [s] := by unfold addN; rw [if_neg (h0 s (by simp)), h1]; rfl
    rw [List.foldl_cons, h2, fold_addN r (a ++ [s]) (fun x hx => h0 x (by simp [hx])) (by simpa using hp)]
    simp
theorem items_names {l : List It} (h : (List.range l.length).all (itAt l) = true) : (l.map It.name).foldl addN [] = l.map It.name := by
  have hat : ∀ i (hi : i < l.length), nameOk l[i].name = true ∧ hasB ((l.take i).map It.name) l[i].name = false := fun i hi => by
    have := List.all_eq_true.1 h i (List.mem_range.2 hi)
    rw [itAt_of (List.getElem?_eq_getElem hi)] at this
    simp only [Bool.and_eq_true, Bool.not_eq_true'] at this
    exact ⟨this.1, this.2.2⟩
  have := fold_addN (l.map It.name) [] (fun s hs e => by
    obtain ⟨x, hx, rfl⟩ := List.mem_map.1 hs
    obtain ⟨i, hi, rfl⟩ := List.getElem_of_mem hx
    have := (hat i hi).1
    rw [e] at this; revert this; decide) (by
    rw [List.nil_append, List.pairwise_iff_getElem]
    intro i j hi hj hij e
    rw [List.length_map] at hi hj
    rw [List.getElem_map, List.getElem_map] at e
    have h2 := (hat j hj).2
    have : l[j].name ∈ (l.take j).map It.name := List.mem_map.2 ⟨l[i], List.mem_take_iff_getElem.2 ⟨i, by omega, rfl⟩, e⟩
    rw [← hasB_iff, h2] at this; cases this)
  simpa using this
theorem cl_rel {L : List ByteArray} {k : Int} {c : Cl} (hok : clOk c = true) (ha : ∀ x ∈ c.items, AR x.e) : (clS (L, k) c).2 = orK k (clN L c).1 ∧ (k = 0 → (clN L c).1 = 0 → (clS (L, k) c).1 = (clN L c).2) := by
  unfold clS clN
  by_cases b1 : c.kind = 1 ∨ c.kind = 2 ∨ c.kind = 7
  · rw [if_pos b1, if_pos b1]
    exact fold_runN c.paths (fun x _ L k => path_rel) L k
  rw [if_neg b1, if_neg b1]
  by_cases b2 : c.kind = 5 ∨ c.kind = 6
  · rw [if_pos b2, if_pos b2]
    have hi : firstN (itS L) c.items = firstN (itN L) c.items := firstN_congr fun x hx => itS_eq (ha x hx)
    dsimp only
    rw [hi]
    have hr : (List.range c.items.length).all (itAt c.items) = true := by
      unfold clOk at hok
      rw [if_neg b1, if_neg (by omega), if_neg (by omega), if_pos b2] at hok
      unfold rowsOk at hok
      simp only [Bool.and_eq_true] at hok
      exact hok.1.2.2.2.2.1
    rw [items_names hr]
    split
    · rename_i h; rw [h]; exact ⟨rfl, fun _ _ => rfl⟩
    · rename_i h; exact ⟨rfl, fun _ e => absurd e h⟩
  rw [if_neg b2, if_neg b2]
  by_cases b3 : c.kind = 8
  · rw [if_pos b3, if_pos b3]; exact ⟨rfl, fun _ _ => rfl⟩
  rw [if_neg b3, if_neg b3]
  by_cases b4 : c.kind = 9
  · rw [if_pos b4, if_pos b4, names_miss]; exact ⟨rfl, fun _ _ => rfl⟩
  rw [if_neg b4, if_neg b4]
  by_cases b5 : c.kind = 4
  · rw [if_pos b5]
    dsimp only
    rw [orK_orK]
    by_cases h0 : exprN L c.e = 0
    · rw [if_pos h0, if_pos h0]
      cases hb : hasB L c.name
      · have h1 : ¬ (c.kind = 4 ∧ false = true) := fun h => by cases h.2
        rw [if_neg h1, if_neg (show ¬ false = true by decide)]; exact ⟨rfl, fun _ _ => rfl⟩
      · have h1 : c.kind = 4 ∧ true = true := ⟨b5, rfl⟩
        rw [if_pos h1, if_pos rfl]; exact ⟨rfl, fun _ h => absurd h (show ¬ (4 : Int) = 0 by decide)⟩
    · rw [if_neg h0, if_neg h0]; exact ⟨rfl, fun _ h => absurd h h0⟩
  rw [if_neg b5]
  dsimp only
  have b6 : c.kind = 3 := by
    unfold clOk at hok
    rw [if_neg b1] at hok
    by_cases h : c.kind = 3
    · exact h
    · rw [if_neg h, if_neg b5, if_neg b2, if_neg b3, if_neg b4] at hok; cases hok
  have hn : c.name = ⟨#[]⟩ := by
    unfold clOk at hok
    rw [if_neg b1, if_pos b6] at hok
    simp only [Bool.and_eq_true, mB, decide_eq_true_eq] at hok
    exact hok.2.2.2.2.2
  by_cases h0 : exprN L c.e = 0
  · rw [if_pos h0, if_neg (fun h => b5 h.1), h0]
    refine ⟨rfl, fun _ _ => ?_⟩
    show L = addN L c.name
    unfold addN; rw [if_pos hn]
  · rw [if_neg h0]; exact ⟨rfl, fun _ h => absurd h h0⟩
end Go.Proofs.YthllnbfkfobcjaaGreat
