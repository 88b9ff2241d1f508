/-
  Contracts of the functions that the law reaches.
-/
import Derived.Test.YthllnbfkfobcjaaGreatGKa
import Derived.Test.YthllnbfkfobcjaaGreatGKb
import Derived.Test.YthllnbfkfobcjaaGreatGKc
import Derived.Test.YthllnbfkfobcjaaGreatGKd
import Derived.Test.YthllnbfkfobcjaaGreatGKe
import Derived.Test.YthllnbfkfobcjaaGreatGKf
import Derived.Test.YthllnbfkfobcjaaGreatGKg
import Derived.Test.YthllnbfkfobcjaaGreatGI
set_option linter.unusedVariables false
set_option linter.unusedSimpArgs false
namespace Go.Proofs.YthllnbfkfobcjaaGreat
open Go Go.CL
set_option maxRecDepth 10000
theorem l5Form_c {σ : Heap} {c : Cl} (hs : ClT c) (ho : ClO c) : CRun Tryz.prog 55 [c.cv] σ (· = .ret (.sc (.bool (clOk c))) σ) := by
  by_cases q1 : c.kind = 1 ∨ c.kind = 2 ∨ c.kind = 7
  · exact l5Form_a hs ho q1
  by_cases q2 : c.kind = 3
  · exact l5Form_b hs ho q2
  by_cases q3 : c.kind = 4
  · exact l5Form_c4 hs ho q3
  by_cases q4 : c.kind = 5 ∨ c.kind = 6
  · exact l5Form_d hs ho q4
  by_cases q5 : c.kind = 8
  · exact l5Form_e hs ho q5
  by_cases q6 : c.kind = 9
  · exact l5Form_f hs ho q6
  exact l5Form_g hs ho ⟨q1, q2, q3, q4, q5, q6⟩
theorem paths_len (cr : Bool) : ∀ (l : List Pth) (a : SS), (∀ p ∈ l, p.hops.length ≤ 1000) → (l.foldl (pathS cr) a).1.length ≤ a.1.length + 2001 * l.length
  | [], a, _ => by simp
  | p :: r, a, h => by
    have h1 := paths_len cr r (pathS cr a p) fun q hq => h q (by simp [hq])
    have h2 := pathS_len cr a p
    have h3 := h p (by simp)
    simp only [List.foldl_cons, List.length_cons]
    omega
theorem clS_len {a : SS} {c : Cl} (hs : ClT c) : (clS a c).1.length ≤ a.1.length + 2001000 := by
  have h1 := hs.p
  have h2 := hs.i
  unfold clS
  split
  · have := paths_len (decide (c.kind = 7)) c.paths a fun p hp => (hs.pt p hp).k
    omega
  · split
    · simp only [List.length_map]; omega
    · split
      · simp only []; omega
      · split
        · simp only []; omega
        · split
          · have := addN_len a.1 c.name; simp only []; omega
          · simp only []; omega
theorem itS_step {L : List ByteArray} {k a : Int} {i : It} : orK (orK k (if a = 0 then (if topE i.e then 0 else 2) else a)) (if missN L (namesX i.e) then 3 else 0) = orK k (if a = 0 then itS L i else a) := by
  have hS : itS L i = if topE i.e then (if missN L (namesX i.e) then 3 else 0) else 2 := rfl
  rw [orK_orK, hS]
  by_cases h : a = 0
  · subst h; cases topE i.e <;> simp
  · simp [h]
set_option maxHeartbeats 1000000 in
theorem sClause_c {τ : Heap} {ls : Nat} {L : List ByteArray} {k : Int} (hm : τ ls = some (scO L k)) (hL : L.length ≤ 90000000) {c : Cl} (hs : ClT c) (hh : ClSh c) (hok : clOk c = true) (har : ∀ x ∈ c.items, AR x.e) :
    CRun Tryz.prog 57 [.ptr (.g ls) 0, c.cv] τ (· = .ret (.tup []) (upd τ ls (scS (clS (L, k) c)))) := by
  have c1 := fun cr => paths_c (cr := cr) hm (by omega) hs.p fun p hp => ⟨hs.pt p hp, hh.p p hp⟩
  have c4 := uses_c hm (by omega) hs.e hh.e
  have m1 := hs.m
  have i1 := hs.i
  have i2 := hs.it
  have i3 := hh.i
  have i4 := hh.a
  have q1 := hs.t
  have q2 := hs.tt
  have q3 := hh.t
  have kk : c.kind = 1 ∨ c.kind = 2 ∨ c.kind = 7 ∨ c.kind = 3 ∨ c.kind = 4 ∨ c.kind = 5 ∨ c.kind = 6 ∨ c.kind = 8 ∨ c.kind = 9 := by
    unfold clOk at hok
    split at hok
    · rename_i h; omega
    · split at hok
      · rename_i h; omega
      · split at hok
        · rename_i h; omega
        · split at hok
          · rename_i h; omega
          · split at hok
            · rename_i h; omega
            · split at hok
              · rename_i h; omega
              · cases hok
  have hE : clS (L, k) c = clS (L, k) c := rfl
  conv at hE => rhs; unfold clS
  generalize clS (L, k) c = Q at hE ⊢
  obtain ⟨ck, ps, ⟨ek, ⟨vk, vn, vt, vl⟩, es, ec, ep⟩, n, is, di, os, sk, li, ts, ns, de⟩ := c
  clear hs hh hok
  dsimp only at *
  rcases kk with rfl | rfl | rfl | rfl | rfl | rfl | rfl | rfl | rfl
  · rw [if_pos (by omega)] at hE
    subst hE
    have c1 := c1 false
    refine crun_of (X := X) X_ok X_sat (body := bodyOf Tryz.f57) Tryz.func57 rfl (by kernel_rfl) (by kernel_rfl) ?_
    rw [Tryz.ntmps57]
    conv => whnf
    repeat' (first | (refine CallN.one c1 ?_) | refine Fork.yp ?_ | refine ExtN.wr ?_ | refine finGo ?_) <;> try (conv => whnf)
    all_goals rfl
  · rw [if_pos (by omega)] at hE
    subst hE
    have c1 := c1 false
    refine crun_of (X := X) X_ok X_sat (body := bodyOf Tryz.f57) Tryz.func57 rfl (by kernel_rfl) (by kernel_rfl) ?_
    rw [Tryz.ntmps57]
    conv => whnf
    repeat' (first | (refine CallN.one c1 ?_) | refine Fork.yp ?_ | refine Fork.np ?_ | refine ExtN.wr ?_ | refine finGo ?_) <;> try (conv => whnf)
    all_goals rfl
  · rw [if_pos (by omega)] at hE
    subst hE
    have c1 := c1 true
    refine crun_of (X := X) X_ok X_sat (body := bodyOf Tryz.f57) Tryz.func57 rfl (by kernel_rfl) (by kernel_rfl) ?_
    rw [Tryz.ntmps57]
    conv => whnf
    repeat' (first | (refine CallN.one c1 ?_) | refine Fork.yp ?_ | refine Fork.np ?_ | refine ExtN.wr ?_ | refine finGo ?_) <;> try (conv => whnf)
    all_goals rfl
  · rw [if_neg (by omega), if_neg (by omega), if_neg (by omega), if_neg (by omega), if_neg (by omega)] at hE
    subst hE
    refine crun_of (X := X) X_ok X_sat (body := bodyOf Tryz.f57) Tryz.func57 rfl (by kernel_rfl) (by kernel_rfl) ?_
    rw [Tryz.ntmps57]
    conv => whnf
    repeat' (first | (refine CallN.one c4 ?_) | refine Fork.yp ?_ | refine Fork.np ?_ | refine ExtN.wr ?_ | refine finGo ?_) <;> try (conv => whnf)
    all_goals rfl
  · rw [if_neg (by omega), if_neg (by omega), if_neg (by omega), if_neg (by omega), if_pos rfl] at hE
    subst hE
    have hm2 : upd τ ls (scO L (orK k (exprN L ⟨ek, ⟨vk, vn, vt, vl⟩, es, ec, ep⟩))) ls = some (scO L (orK k (exprN L ⟨ek, ⟨vk, vn, vt, vl⟩, es, ec, ep⟩))) := upd_same _ _ _
    generalize orK k (exprN L ⟨ek, ⟨vk, vn, vt, vl⟩, es, ec, ep⟩) = k1 at c4 hm2 ⊢
    have cf := fail_c (c := 4) hm2
    have ch := l2Has_c (σ := upd τ ls (scO L k1)) (ns := L) (s := n) (by omega)
    have ca1 := adds_c (s := n) hm2 (by omega)
    have hm3 : upd τ ls (scO L (orK k1 4)) ls = some (scO L (orK k1 4)) := upd_same _ _ _
    have ca2 := adds_c (s := n) hm3 (by omega)
    rw [upd_upd] at cf ca1 ca2
    generalize upd τ ls (scO L (orK k1 4)) = τ3 at cf ca2
    generalize upd τ ls (scO L k1) = τ2 at c4 cf ch ca1 hm2
    unfold scO at hm2
    cases hb : hasB L n <;> rw [hb] at ch
    · have e0 : orK k1 (if false = true then 4 else 0) = k1 := orK_0 k1
      rw [e0]
      refine crun_of (X := X) X_ok X_sat (body := bodyOf Tryz.f57) Tryz.func57 rfl (by kernel_rfl) (by kernel_rfl) ?_
      rw [Tryz.ntmps57]
      conv => whnf
      repeat' (first | (refine CallN.one c4 ?_) | (refine CallN.one ch ?_) | (refine CallN.one ca1 ?_) | refine OrdN.one ?_ | refine Fork.yp ?_ | refine Fork.np ?_ | refine GetN.go ?_ | refine Need.draw ?_ | refine ExtN.ext ?_ | refine ExtN.wr ?_ | refine finGo ?_) <;> try (conv => whnf)
      all_goals rfl
    · skip
      refine crun_of (X := X) X_ok X_sat (body := bodyOf Tryz.f57) Tryz.func57 rfl (by kernel_rfl) (by kernel_rfl) ?_
      rw [Tryz.ntmps57]
      conv => whnf
      repeat' (first | (refine CallN.one c4 ?_) | (refine CallN.one ch ?_) | (refine CallN.one cf ?_) | (refine CallN.one ca2 ?_) | refine OrdN.one ?_ | refine Fork.yp ?_ | refine Fork.np ?_ | refine GetN.go ?_ | refine Need.draw ?_ | refine ExtN.ext ?_ | refine ExtN.wr ?_ | refine finGo ?_) <;> try (conv => whnf)
      all_goals rfl
  case inr.inr.inr.inr.inr.inr.inr.inl =>
    rw [if_neg (by omega), if_neg (by omega), if_pos rfl] at hE
    subst hE
    have e3 := tgs_len ts
    refine crun_of (X := X) X_ok X_sat (body := bodyOf Tryz.f57) Tryz.func57 rfl (by kernel_rfl) (by kernel_rfl) ?_
    rw [Tryz.ntmps57]
    conv => whnf
    repeat' (first | refine Fork.yp ?_ | refine Fork.np ?_) <;> try (conv => whnf)
    refine LoopN.rule (α := Nat) (fun i => ⟨123, [(0, .ptr (.g ls) 0), (3, .ptr (.f 3) 0), (6, i64 i)], [(3, .cells (Cl.cells ⟨8, ps, ⟨ek, ⟨vk, vn, vt, vl⟩, es, ec, ep⟩, n, is, di, os, sk, li, ts, ns, de⟩))]⟩)
      (fun i => upd τ ls (scO L (orK k (firstN (toN L) (ts.take i))))) (fun i => ts.length - i) (fun i => i ≤ ts.length) ?_ 0 (by omega) ?_
    rotate_left
    · have : orK k (firstN (toN L) (ts.take 0)) = k := orK_0 k
      rw [this, upd_self hm]
      (refine ⟨rfl, ?_, ?_, Sub.refl _⟩ <;> repeat' (first | exact EnvLe.nil | exact LocsLe.nil | refine EnvLe.cons _ _ _ ?_ ?_ | refine LocsLe.cons _ _ _ ?_ ?_ | exact CVle.same _ rfl | exact CVle.vec _ _ | exact CVle.nil | exact CVle.tok _ _ _ rfl rfl | exact ObLe.tok _ _ rfl | exact CVles.nil | refine CVles.cons ?_ ?_ | exact ObLe.same _ rfl rfl | refine ObLe.cells rfl ?_))
    rintro i K h1 hK
    have hK := hK (i + 1)
    dsimp only at h1 hK ⊢
    by_cases hi : i < ts.length
    · obtain ⟨⟨pn, pk, ⟨fk, ⟨wk, wn, wt, wl⟩, fs, fc, fp⟩⟩, hmm, hg, hg'⟩ := map_at (f := Tg.cv) hi
      have u1 := (q2 _ hmm).e
      have u2 := q3 _ hmm
      rw [firstN_succ hg] at hK
      have e : toN L ⟨pn, pk, .mk fk (.mk wk wn wt wl) fs fc fp⟩ = if hasB L pn then exprN L (.mk fk (.mk wk wn wt wl) fs fc fp) else 3 := rfl
      rw [e] at hK
      dsimp only at u1 u2
      generalize firstN (toN L) (ts.take i) = a at hK ⊢
      have hm2 : upd τ ls (scO L (orK k a)) ls = some (scO L (orK k a)) := upd_same _ _ _
      have c1 := asks_c hm2 (by omega) (N := [pn]) (by simp)
      rw [upd_upd, orK_orK] at c1
      have hm3 : upd τ ls (scO L (orK k (if a = 0 then (if missN L [pn] then 3 else 0) else a))) ls = some (scO L (orK k (if a = 0 then (if missN L [pn] then 3 else 0) else a))) := upd_same _ _ _
      have c2 := uses_c hm3 (by omega) u1 u2
      rw [upd_upd, orK_orK] at c2
      have e2 : (if (if a = 0 then (if missN L [pn] = true then (3 : Int) else 0) else a) = 0 then exprN L (.mk fk (.mk wk wn wt wl) fs fc fp) else (if a = 0 then (if missN L [pn] = true then (3 : Int) else 0) else a)) = if a = 0 then (if hasB L pn = true then exprN L (.mk fk (.mk wk wn wt wl) fs fc fp) else 3) else a := by
        have : missN L [pn] = !hasB L pn := by simp [missN]
        rw [this]
        by_cases h : a = 0
        · cases hasB L pn <;> simp [h]
        · simp [h]
      rw [e2] at c2
      clear e2 e
      have e9 : sts [pn] = [.sc (.string pn)] := rfl
      rw [e9] at c1
      generalize upd τ ls (scO L (orK k (if a = 0 then (if missN L [pn] then 3 else 0) else a))) = τ3 at c1 c2
      generalize upd τ ls (scO L (orK k a)) = τ2 at c1 ⊢
      conv => whnf
      repeat' (first | (refine CallN.one c1 ?_) | (refine CallN.one c2 ?_) | refine Fork.yp ?_ | refine Need.go ?_ | refine ElemN.go ?_ | refine ExtN.wr ?_) <;> try (conv => whnf)
      refine hK _ _ (by omega) (by omega) ?_
      (refine ⟨rfl, ?_, ?_, Sub.refl _⟩ <;> repeat' (first | exact EnvLe.nil | exact LocsLe.nil | refine EnvLe.cons _ _ _ ?_ ?_ | refine LocsLe.cons _ _ _ ?_ ?_ | exact CVle.same _ rfl | exact CVle.vec _ _ | exact CVle.nil | exact CVle.tok _ _ _ rfl rfl | exact ObLe.tok _ _ rfl | exact CVles.nil | refine CVles.cons ?_ ?_ | exact ObLe.same _ rfl rfl | refine ObLe.cells rfl ?_))
    · rw [List.take_of_length_le (by omega)]
      conv => whnf
      repeat' (first | refine Fork.np ?_ | refine finGo ?_) <;> try (conv => whnf)
      all_goals rfl
  case inr.inr.inr.inr.inr.inr.inr.inr =>
    rw [if_neg (by omega), if_neg (by omega), if_neg (by omega), if_pos rfl] at hE
    subst hE
    have c5 := asks_c hm (by omega) (N := ns) (by omega)
    refine crun_of (X := X) X_ok X_sat (body := bodyOf Tryz.f57) Tryz.func57 rfl (by kernel_rfl) (by kernel_rfl) ?_
    rw [Tryz.ntmps57]
    conv => whnf
    repeat' (first | (refine CallN.one c5 ?_) | refine Fork.yp ?_ | refine Fork.np ?_ | refine ExtN.wr ?_ | refine finGo ?_) <;> try (conv => whnf)
    all_goals rfl
  case inr.inr.inr.inr.inr.inl =>
    rw [if_neg (by omega), if_pos (by omega)] at hE
    subst hE
    have e3 := its_len is
    refine crun_of (X := X) X_ok X_sat (body := bodyOf Tryz.f57) Tryz.func57 rfl (by kernel_rfl) (by kernel_rfl) ?_
    rw [Tryz.ntmps57]
    conv => whnf
    repeat' (first | refine Fork.yp ?_ | refine Fork.np ?_) <;> try (conv => whnf)
    refine LoopN.rule (α := Nat) (fun i => ⟨123, [(0, .ptr (.g ls) 0), (3, .ptr (.f 3) 0), (4, .avec 50 (sts ((is.take i).map It.name))), (5, i64 i)], [(3, .cells (Cl.cells ⟨5, ps, ⟨ek, ⟨vk, vn, vt, vl⟩, es, ec, ep⟩, n, is, di, os, sk, li, ts, ns, de⟩)), (50, .tok 9 1 (sts ((is.take i).map It.name)).length)]⟩)
      (fun i => upd τ ls (scO L (orK k (firstN (itS L) (is.take i))))) (fun i => is.length - i) (fun i => i ≤ is.length) ?_ 0 (by omega) ?_
    rotate_left
    · have : orK k (firstN (itS L) (is.take 0)) = k := orK_0 k
      rw [this, upd_self hm]
      (refine ⟨rfl, ?_, ?_, Sub.refl _⟩ <;> repeat' (first | exact EnvLe.nil | exact LocsLe.nil | refine EnvLe.cons _ _ _ ?_ ?_ | refine LocsLe.cons _ _ _ ?_ ?_ | exact CVle.same _ rfl | exact CVle.vec _ _ | exact CVle.nil | exact CVle.tok _ _ _ rfl rfl | exact ObLe.tok _ _ rfl | exact CVles.nil | refine CVles.cons ?_ ?_ | exact ObLe.same _ rfl rfl | refine ObLe.cells rfl ?_))
    rintro i K h1 hK
    have hK := hK (i + 1)
    dsimp only at h1 hK ⊢
    by_cases hi : i < is.length
    · obtain ⟨⟨⟨fk, ⟨wk, wn, wt, wl⟩, fs, fc, fp⟩, pn⟩, hmm, hg, hg'⟩ := map_at (f := It.cv) hi
      have u1 := (i2 _ hmm).e
      have u2 := i3 _ hmm
      have u3 := i4 _ hmm
      rw [firstN_succ hg, take_map_succ hg, sts_app, List.length_append] at hK
      have e5 := sts_take_len (l := is) (i := i) (by omega)
      dsimp only at u1 u2 u3
      generalize firstN (itS L) (is.take i) = a at hK ⊢
      rw [← itS_step] at hK
      dsimp only at hK
      have hm2 : upd τ ls (scO L (orK k a)) ls = some (scO L (orK k a)) := upd_same _ _ _
      have c1 := top_c (σ := upd τ ls (scO L (orK k a))) u1 u3
      have cf := fail_c (c := 2) hm2
      rw [upd_upd, orK_orK] at cf
      have c3 := fun τ => l4Names_c u1 (out := []) (σ := τ) (by unfold Sh at u2; simpa using u2)
      have h3 := fold_len (namesOf (subsE (.mk fk (.mk wk wn wt wl) fs fc fp))) []
      have h4 := namesOf_len (subsE (.mk fk (.mk wk wn wt wl) fs fc fp))
      have hN : (namesX (.mk fk (.mk wk wn wt wl) fs fc fp)).length ≤ 1000000 := by unfold namesX; unfold Sh at u2; rw [List.length_nil] at h3; omega
      rw [show (namesOf (subsE (.mk fk (.mk wk wn wt wl) fs fc fp))).foldl ins [] = namesX (.mk fk (.mk wk wn wt wl) fs fc fp) from rfl] at c3
      obtain ⟨k1, hk1⟩ : ∃ k1, k1 = orK k (if a = 0 then (if topE (.mk fk (.mk wk wn wt wl) fs fc fp) then 0 else 2) else a) := ⟨_, rfl⟩
      have hm3 : upd τ ls (scO L k1) ls = some (scO L k1) := upd_same _ _ _
      have d1 := asks_c hm3 (by omega) hN
      rw [upd_upd] at d1
      rw [← hk1] at hK
      have c3 := c3 (upd τ ls (scO L k1))
      generalize namesX (.mk fk (.mk wk wn wt wl) fs fc fp) = N at c3 d1 hK
      clear h3 h4 hN
      cases ht : topE (.mk fk (.mk wk wn wt wl) fs fc fp) <;> rw [ht] at c1 hk1
      · have hk2 : k1 = orK k (if a = 0 then 2 else a) := by rw [hk1]; by_cases h : a = 0 <;> simp [h]
        rw [← hk2] at cf
        generalize upd τ ls (scO L k1) = τ3 at cf c3 d1
        generalize upd τ ls (scO L (orK k a)) = τ2 at cf c1 ⊢
        conv => whnf
        repeat' (first | (refine CallN.one c1 ?_) | (refine CallN.one cf ?_) | (refine CallN.one c3 ?_) | (refine CallN.one d1 ?_) | refine Fork.yp ?_ | refine Fork.nb ?_ | refine Need.ap1 ?_ | refine Need.go ?_ | refine ElemN.go ?_ | refine ExtN.ext ?_ | refine ExtN.wr ?_) <;> try (conv => whnf)
        refine hK _ _ (by omega) (by omega) ?_
        (refine ⟨rfl, ?_, ?_, Sub.refl _⟩ <;> repeat' (first | exact EnvLe.nil | exact LocsLe.nil | refine EnvLe.cons _ _ _ ?_ ?_ | refine LocsLe.cons _ _ _ ?_ ?_ | exact CVle.same _ rfl | exact CVle.vec _ _ | exact CVle.nil | exact CVle.tok _ _ _ rfl rfl | exact ObLe.tok _ _ rfl | exact CVles.nil | refine CVles.cons ?_ ?_ | exact ObLe.same _ rfl rfl | refine ObLe.cells rfl ?_))
      · have hk2 : k1 = orK k a := by rw [hk1]; by_cases h : a = 0 <;> simp [h]
        clear cf hk1
        subst hk2
        generalize upd τ ls (scO L (orK k a)) = τ2 at c1 c3 d1 ⊢
        conv => whnf
        repeat' (first | (refine CallN.one c1 ?_) | (refine CallN.one c3 ?_) | (refine CallN.one d1 ?_) | refine Fork.yp ?_ | refine Fork.nb ?_ | refine Need.ap1 ?_ | refine Need.go ?_ | refine ElemN.go ?_ | refine ExtN.ext ?_ | refine ExtN.wr ?_) <;> try (conv => whnf)
        refine hK _ _ (by omega) (by omega) ?_
        (refine ⟨rfl, ?_, ?_, Sub.refl _⟩ <;> repeat' (first | exact EnvLe.nil | exact LocsLe.nil | refine EnvLe.cons _ _ _ ?_ ?_ | refine LocsLe.cons _ _ _ ?_ ?_ | exact CVle.same _ rfl | exact CVle.vec _ _ | exact CVle.nil | exact CVle.tok _ _ _ rfl rfl | exact ObLe.tok _ _ rfl | exact CVles.nil | refine CVles.cons ?_ ?_ | exact ObLe.same _ rfl rfl | refine ObLe.cells rfl ?_))
    · rw [List.take_of_length_le (by omega)]
      have hm2 : upd τ ls (scO L (orK k (firstN (itS L) is))) ls = some (scO L (orK k (firstN (itS L) is))) := upd_same _ _ _
      have up := fun B => upd_upd τ ls (scO L (orK k (firstN (itS L) is))) B
      clear hK
      generalize upd τ ls (scO L (orK k (firstN (itS L) is))) = τ2 at hm2 up ⊢
      unfold scO at hm2
      conv => whnf
      repeat' (first | refine Fork.np ?_ | refine GetN.go ?_ | refine finGo ?_) <;> try (conv => whnf)
      all_goals (rw [up]; rfl)
  case inr.inr.inr.inr.inr.inr.inl =>
    rw [if_neg (by omega), if_pos (by omega)] at hE
    subst hE
    have e3 := its_len is
    refine crun_of (X := X) X_ok X_sat (body := bodyOf Tryz.f57) Tryz.func57 rfl (by kernel_rfl) (by kernel_rfl) ?_
    rw [Tryz.ntmps57]
    conv => whnf
    repeat' (first | refine Fork.yp ?_ | refine Fork.np ?_) <;> try (conv => whnf)
    refine LoopN.rule (α := Nat) (fun i => ⟨123, [(0, .ptr (.g ls) 0), (3, .ptr (.f 3) 0), (4, .avec 50 (sts ((is.take i).map It.name))), (5, i64 i)], [(3, .cells (Cl.cells ⟨6, ps, ⟨ek, ⟨vk, vn, vt, vl⟩, es, ec, ep⟩, n, is, di, os, sk, li, ts, ns, de⟩)), (50, .tok 9 1 (sts ((is.take i).map It.name)).length)]⟩)
      (fun i => upd τ ls (scO L (orK k (firstN (itS L) (is.take i))))) (fun i => is.length - i) (fun i => i ≤ is.length) ?_ 0 (by omega) ?_
    rotate_left
    · have : orK k (firstN (itS L) (is.take 0)) = k := orK_0 k
      rw [this, upd_self hm]
      (refine ⟨rfl, ?_, ?_, Sub.refl _⟩ <;> repeat' (first | exact EnvLe.nil | exact LocsLe.nil | refine EnvLe.cons _ _ _ ?_ ?_ | refine LocsLe.cons _ _ _ ?_ ?_ | exact CVle.same _ rfl | exact CVle.vec _ _ | exact CVle.nil | exact CVle.tok _ _ _ rfl rfl | exact ObLe.tok _ _ rfl | exact CVles.nil | refine CVles.cons ?_ ?_ | exact ObLe.same _ rfl rfl | refine ObLe.cells rfl ?_))
    rintro i K h1 hK
    have hK := hK (i + 1)
    dsimp only at h1 hK ⊢
    by_cases hi : i < is.length
    · obtain ⟨⟨⟨fk, ⟨wk, wn, wt, wl⟩, fs, fc, fp⟩, pn⟩, hmm, hg, hg'⟩ := map_at (f := It.cv) hi
      have u1 := (i2 _ hmm).e
      have u2 := i3 _ hmm
      have u3 := i4 _ hmm
      rw [firstN_succ hg, take_map_succ hg, sts_app, List.length_append] at hK
      have e5 := sts_take_len (l := is) (i := i) (by omega)
      dsimp only at u1 u2 u3
      generalize firstN (itS L) (is.take i) = a at hK ⊢
      rw [← itS_step] at hK
      dsimp only at hK
      have hm2 : upd τ ls (scO L (orK k a)) ls = some (scO L (orK k a)) := upd_same _ _ _
      have c1 := top_c (σ := upd τ ls (scO L (orK k a))) u1 u3
      have cf := fail_c (c := 2) hm2
      rw [upd_upd, orK_orK] at cf
      have c3 := fun τ => l4Names_c u1 (out := []) (σ := τ) (by unfold Sh at u2; simpa using u2)
      have h3 := fold_len (namesOf (subsE (.mk fk (.mk wk wn wt wl) fs fc fp))) []
      have h4 := namesOf_len (subsE (.mk fk (.mk wk wn wt wl) fs fc fp))
      have hN : (namesX (.mk fk (.mk wk wn wt wl) fs fc fp)).length ≤ 1000000 := by unfold namesX; unfold Sh at u2; rw [List.length_nil] at h3; omega
      rw [show (namesOf (subsE (.mk fk (.mk wk wn wt wl) fs fc fp))).foldl ins [] = namesX (.mk fk (.mk wk wn wt wl) fs fc fp) from rfl] at c3
      obtain ⟨k1, hk1⟩ : ∃ k1, k1 = orK k (if a = 0 then (if topE (.mk fk (.mk wk wn wt wl) fs fc fp) then 0 else 2) else a) := ⟨_, rfl⟩
      have hm3 : upd τ ls (scO L k1) ls = some (scO L k1) := upd_same _ _ _
      have d1 := asks_c hm3 (by omega) hN
      rw [upd_upd] at d1
      rw [← hk1] at hK
      have c3 := c3 (upd τ ls (scO L k1))
      generalize namesX (.mk fk (.mk wk wn wt wl) fs fc fp) = N at c3 d1 hK
      clear h3 h4 hN
      cases ht : topE (.mk fk (.mk wk wn wt wl) fs fc fp) <;> rw [ht] at c1 hk1
      · have hk2 : k1 = orK k (if a = 0 then 2 else a) := by rw [hk1]; by_cases h : a = 0 <;> simp [h]
        rw [← hk2] at cf
        generalize upd τ ls (scO L k1) = τ3 at cf c3 d1
        generalize upd τ ls (scO L (orK k a)) = τ2 at cf c1 ⊢
        conv => whnf
        repeat' (first | (refine CallN.one c1 ?_) | (refine CallN.one cf ?_) | (refine CallN.one c3 ?_) | (refine CallN.one d1 ?_) | refine Fork.yp ?_ | refine Fork.nb ?_ | refine Need.ap1 ?_ | refine Need.go ?_ | refine ElemN.go ?_ | refine ExtN.ext ?_ | refine ExtN.wr ?_) <;> try (conv => whnf)
        refine hK _ _ (by omega) (by omega) ?_
        (refine ⟨rfl, ?_, ?_, Sub.refl _⟩ <;> repeat' (first | exact EnvLe.nil | exact LocsLe.nil | refine EnvLe.cons _ _ _ ?_ ?_ | refine LocsLe.cons _ _ _ ?_ ?_ | exact CVle.same _ rfl | exact CVle.vec _ _ | exact CVle.nil | exact CVle.tok _ _ _ rfl rfl | exact ObLe.tok _ _ rfl | exact CVles.nil | refine CVles.cons ?_ ?_ | exact ObLe.same _ rfl rfl | refine ObLe.cells rfl ?_))
      · have hk2 : k1 = orK k a := by rw [hk1]; by_cases h : a = 0 <;> simp [h]
        clear cf hk1
        subst hk2
        generalize upd τ ls (scO L (orK k a)) = τ2 at c1 c3 d1 ⊢
        conv => whnf
        repeat' (first | (refine CallN.one c1 ?_) | (refine CallN.one c3 ?_) | (refine CallN.one d1 ?_) | refine Fork.yp ?_ | refine Fork.nb ?_ | refine Need.ap1 ?_ | refine Need.go ?_ | refine ElemN.go ?_ | refine ExtN.ext ?_ | refine ExtN.wr ?_) <;> try (conv => whnf)
        refine hK _ _ (by omega) (by omega) ?_
        (refine ⟨rfl, ?_, ?_, Sub.refl _⟩ <;> repeat' (first | exact EnvLe.nil | exact LocsLe.nil | refine EnvLe.cons _ _ _ ?_ ?_ | refine LocsLe.cons _ _ _ ?_ ?_ | exact CVle.same _ rfl | exact CVle.vec _ _ | exact CVle.nil | exact CVle.tok _ _ _ rfl rfl | exact ObLe.tok _ _ rfl | exact CVles.nil | refine CVles.cons ?_ ?_ | exact ObLe.same _ rfl rfl | refine ObLe.cells rfl ?_))
    · rw [List.take_of_length_le (by omega)]
      have hm2 : upd τ ls (scO L (orK k (firstN (itS L) is))) ls = some (scO L (orK k (firstN (itS L) is))) := upd_same _ _ _
      have up := fun B => upd_upd τ ls (scO L (orK k (firstN (itS L) is))) B
      clear hK
      generalize upd τ ls (scO L (orK k (firstN (itS L) is))) = τ2 at hm2 up ⊢
      unfold scO at hm2
      conv => whnf
      repeat' (first | refine Fork.np ?_ | refine GetN.go ?_ | refine finGo ?_) <;> try (conv => whnf)
      all_goals (rw [up]; rfl)
def ClArs (c : Cl) : Prop := ∀ x ∈ c.items, AR x.e
theorem qS_len : ∀ (q : List Cl) (a : SS), (∀ c ∈ q, ClT c) → (q.foldl clS a).1.length ≤ a.1.length + 2001000 * q.length
  | [], a, _ => by simp
  | c :: r, a, h => by
    have h1 := qS_len r (clS a c) fun x hx => h x (by simp [hx])
    have h2 := clS_len (a := a) (h c (by simp))
    simp only [List.foldl_cons, List.length_cons]
    omega
theorem sCheck_c {σ : Heap} {q : List Cl} (hk : q.length ≤ 1000) (ht : ∀ c ∈ q, ClT c) (ho : ∀ c ∈ q, ClO c) (hh : ∀ c ∈ q, clOk c = true → ClSh c ∧ ClArs c) : CRun Tryz.prog 19 [.vec (cls q)] σ (· = .ret (i64 (checkN q)) σ) := by
  have e3 := cls_len q
  have hE : checkN q = if clsOk q then (if endsOk q then (runN clN q []).1 else 2) else 1 := rfl
  have cin := in_c (σ := σ) (n := (q.length : Int)) (lo := 1) (hi := 8)
  rw [← e3] at cin
  refine crun_of (X := G [58]) (G_ok _) (G_sat _) (body := bodyOf Tryz.f19) Tryz.func19 rfl (by kernel_rfl) (by kernel_rfl) ?_
  rw [Tryz.ntmps19]
  by_cases hl : 1 ≤ q.length ∧ q.length ≤ 8
  case neg =>
    have h1 : clsOk q = false := by unfold clsOk; rw [decide_eq_false hl]; rfl
    rw [h1] at hE
    rw [decide_eq_false (by omega)] at cin
    conv => whnf
    repeat' (first | (refine CallN.one cin ?_) | refine ExtN.ext ?_ | refine finGo ?_) <;> try (conv => whnf)
    all_goals exact ansJ hE
  obtain ⟨hl1, hl2⟩ := hl
  rw [decide_eq_true (by omega)] at cin
  have no1 : ∀ c ∈ q, clOk c = false → COut.ret (i64 1) σ = .ret (i64 (checkN q)) σ := fun c hc h => ansJ (by
    have h1 : clsOk q = false := by unfold clsOk; rw [all_no hc h, Bool.and_false]
    rw [hE, h1]; rfl)
  conv => whnf
  repeat' (first | (refine CallN.one cin ?_) | refine ExtN.ext ?_) <;> try (conv => whnf)
  refine LoopN.rule (α := Nat) (fun i => ⟨75, [(0, .vec (cls q)), (2, i64 0), (3, i64 i)], []⟩)
    (fun _ => σ) (fun i => q.length - i) (fun i => i ≤ q.length ∧ (q.take i).all clOk = true) ?_ 0 ⟨by omega, by simp⟩ ?_
  rotate_left
  · (refine ⟨rfl, ?_, ?_, Sub.refl _⟩ <;> repeat' (first | exact EnvLe.nil | exact LocsLe.nil | refine EnvLe.cons _ _ _ ?_ ?_ | refine LocsLe.cons _ _ _ ?_ ?_ | exact CVle.same _ rfl | exact CVle.vec _ _ | exact CVle.nil | exact CVle.tok _ _ _ rfl rfl | exact ObLe.tok _ _ rfl | exact CVles.nil | refine CVles.cons ?_ ?_ | exact ObLe.same _ rfl rfl | refine ObLe.cells rfl ?_))
  rintro i K ⟨h1, h2⟩ hK
  dsimp only at h1 h2 hK ⊢
  by_cases hi : i < q.length
  · obtain ⟨⟨k, ps, ⟨ek, ⟨vk, vn, vt, vl⟩, es, ec, ep⟩, n, is, di, os, sk, li, ts, ns, de⟩, hmm, hg, hg'⟩ := map_at (f := Cl.cv) hi
    have no := no1 _ hmm
    have c1 := l5Form_c (σ := σ) (ht _ hmm) (ho _ hmm)
    cases hn : clOk ⟨k, ps, ⟨ek, ⟨vk, vn, vt, vl⟩, es, ec, ep⟩, n, is, di, os, sk, li, ts, ns, de⟩ <;> rw [hn] at c1
    · conv => whnf
      repeat' (first | (refine CallN.one c1 ?_) | refine Fork.yp ?_ | refine Need.go ?_ | refine ElemN.go ?_ | refine ExtN.ext ?_ | refine finGo ?_) <;> try (conv => whnf)
      all_goals exact no hn
    conv => whnf
    repeat' (first | (refine CallN.one c1 ?_) | refine Fork.yp ?_ | refine Need.go ?_ | refine ElemN.go ?_ | refine ExtN.ext ?_) <;> try (conv => whnf)
    refine hK (i + 1) _ _ ⟨by omega, all_take hg h2 hn⟩ (by omega) ?_
    (refine ⟨rfl, ?_, ?_, Sub.refl _⟩ <;> repeat' (first | exact EnvLe.nil | exact LocsLe.nil | refine EnvLe.cons _ _ _ ?_ ?_ | refine LocsLe.cons _ _ _ ?_ ?_ | exact CVle.same _ rfl | exact CVle.vec _ _ | exact CVle.nil | exact CVle.tok _ _ _ rfl rfl | exact ObLe.tok _ _ rfl | exact CVles.nil | refine CVles.cons ?_ ?_ | exact ObLe.same _ rfl rfl | refine ObLe.cells rfl ?_))
  rw [List.take_of_length_le (by omega)] at h2
  have hq : clsOk q = true := by unfold clsOk; rw [h2, decide_eq_true ⟨hl1, hl2⟩]; rfl
  have hall : ∀ c ∈ q, clOk c = true := List.all_eq_true.1 h2
  rw [hq, if_pos rfl] at hE
  clear no1 hK h2 hq cin
  have no : ∀ i, i < q.length → endAt q i = false → COut.ret (i64 2) σ = .ret (i64 (checkN q)) σ := fun i hi h => ansJ (by
    have h1 : endsOk q = false := by unfold endsOk; exact range_no hi h
    rw [hE, h1]; rfl)
  conv => whnf
  repeat' (first | refine Fork.np ?_) <;> try (conv => whnf)
  refine LoopN.rule (α := Nat) (fun i => ⟨75, [(0, .vec (cls q)), (2, i64 0), (4, i64 i)], []⟩)
    (fun _ => σ) (fun i => q.length - i) (fun i => i ≤ q.length ∧ ∀ j, j < i → endAt q j = true) ?_ 0 ⟨by omega, by omega⟩ ?_
  rotate_left
  · (refine ⟨rfl, ?_, ?_, Sub.refl _⟩ <;> repeat' (first | exact EnvLe.nil | exact LocsLe.nil | refine EnvLe.cons _ _ _ ?_ ?_ | refine LocsLe.cons _ _ _ ?_ ?_ | exact CVle.same _ rfl | exact CVle.vec _ _ | exact CVle.nil | exact CVle.tok _ _ _ rfl rfl | exact ObLe.tok _ _ rfl | exact CVles.nil | refine CVles.cons ?_ ?_ | exact ObLe.same _ rfl rfl | refine ObLe.cells rfl ?_))
  rintro i K ⟨h1, h2⟩ hK
  dsimp only at h1 h2 hK ⊢
  by_cases hi : i < q.length
  · obtain ⟨⟨k, ps, ⟨ek, ⟨vk, vn, vt, vl⟩, es, ec, ep⟩, n, is, di, os, sk, li, ts, ns, de⟩, hmm, hg, hg'⟩ := map_at (f := Cl.cv) hi
    have e := endAt_of hg
    dsimp only at e
    have no := no i hi
    have c1 := l5Ends_c (σ := σ) (k := k)
    by_cases hla : i + 1 = q.length
    · rw [if_pos hla] at e
      cases hb : decide (6 ≤ k ∧ k ≤ 9) <;> rw [hb] at e c1
      · conv => whnf
        repeat' (first | (refine CallN.one c1 ?_) | refine Fork.yp ?_ | refine Need.go ?_ | refine ElemN.go ?_ | refine ExtN.ext ?_ | refine finGo ?_) <;> try (conv => whnf)
        all_goals exact no e
      · conv => whnf
        repeat' (first | (refine CallN.one c1 ?_) | refine Fork.yp ?_ | refine Need.go ?_ | refine ElemN.go ?_ | refine ExtN.ext ?_) <;> try (conv => whnf)
        refine hK (i + 1) _ _ ⟨by omega, stepAll h2 e⟩ (by omega) ?_
        (refine ⟨rfl, ?_, ?_, Sub.refl _⟩ <;> repeat' (first | exact EnvLe.nil | exact LocsLe.nil | refine EnvLe.cons _ _ _ ?_ ?_ | refine LocsLe.cons _ _ _ ?_ ?_ | exact CVle.same _ rfl | exact CVle.vec _ _ | exact CVle.nil | exact CVle.tok _ _ _ rfl rfl | exact ObLe.tok _ _ rfl | exact CVles.nil | refine CVles.cons ?_ ?_ | exact ObLe.same _ rfl rfl | refine ObLe.cells rfl ?_))
    · rw [if_neg hla] at e
      by_cases h6 : k = 6
      · rw [decide_eq_true h6] at e
        conv => whnf
        repeat' (first | refine Fork.yp ?_ | refine Fork.np ?_ | refine Need.go ?_ | refine ElemN.go ?_ | refine finGo ?_) <;> try (conv => whnf)
        all_goals exact no e
      · rw [decide_eq_false h6] at e
        conv => whnf
        repeat' (first | refine Fork.yp ?_ | refine Fork.np ?_ | refine Need.go ?_ | refine ElemN.go ?_) <;> try (conv => whnf)
        refine hK (i + 1) _ _ ⟨by omega, stepAll h2 e⟩ (by omega) ?_
        (refine ⟨rfl, ?_, ?_, Sub.refl _⟩ <;> repeat' (first | exact EnvLe.nil | exact LocsLe.nil | refine EnvLe.cons _ _ _ ?_ ?_ | refine LocsLe.cons _ _ _ ?_ ?_ | exact CVle.same _ rfl | exact CVle.vec _ _ | exact CVle.nil | exact CVle.tok _ _ _ rfl rfl | exact ObLe.tok _ _ rfl | exact CVles.nil | refine CVles.cons ?_ ?_ | exact ObLe.same _ rfl rfl | refine ObLe.cells rfl ?_))
  have hr : endsOk q = true := range_yes fun j hj => h2 j (by omega)
  rw [hr, if_pos rfl] at hE
  clear no hK h2 hr
  conv => whnf
  repeat' (first | refine Fork.np ?_ | refine AllocN.go (fun l hl => ?_)) <;> try (conv => whnf)
  refine LoopN.rule (α := Nat) (fun i => ⟨75, [(0, .vec (cls q)), (2, i64 0), (6, .ptr (.g l) 0), (7, i64 i)], []⟩)
    (fun i => upd σ l (scS ((q.take i).foldl clS ([], 0)))) (fun i => q.length - i) (fun i => i ≤ q.length) ?_ 0 (by omega) ?_
  rotate_left
  · (refine ⟨rfl, ?_, ?_, Sub.refl _⟩ <;> repeat' (first | exact EnvLe.nil | exact LocsLe.nil | refine EnvLe.cons _ _ _ ?_ ?_ | refine LocsLe.cons _ _ _ ?_ ?_ | exact CVle.same _ rfl | exact CVle.vec _ _ | exact CVle.nil | exact CVle.tok _ _ _ rfl rfl | exact ObLe.tok _ _ rfl | exact CVles.nil | refine CVles.cons ?_ ?_ | exact ObLe.same _ rfl rfl | refine ObLe.cells rfl ?_))
  rintro i K h1 hK
  have hK := hK (i + 1)
  dsimp only at h1 hK ⊢
  by_cases hi : i < q.length
  · obtain ⟨⟨k, ps, ⟨ek, ⟨vk, vn, vt, vl⟩, es, ec, ep⟩, n, is, di, os, sk, li, ts, ns, de⟩, hmm, hg, hg'⟩ := map_at (f := Cl.cv) hi
    rw [foldl_succ hg] at hK
    have hlen := qS_len (q.take i) ([], 0) fun c hc => ht c (List.mem_of_mem_take hc)
    rw [List.length_take] at hlen
    have hl0 : (([], 0) : SS).1.length = 0 := rfl
    have hok := hall _ hmm
    have d1 : CRun Tryz.prog 57 [.ptr (.g l) 0, Cl.cv ⟨k, ps, ⟨ek, ⟨vk, vn, vt, vl⟩, es, ec, ep⟩, n, is, di, os, sk, li, ts, ns, de⟩] (upd σ l (scS ((q.take i).foldl clS ([], 0)))) (· = .ret (.tup []) (upd σ l (scS (clS ((q.take i).foldl clS ([], 0)) ⟨k, ps, ⟨ek, ⟨vk, vn, vt, vl⟩, es, ec, ep⟩, n, is, di, os, sk, li, ts, ns, de⟩)))) := by
      have d := sClause_c (τ := upd σ l (scS ((q.take i).foldl clS ([], 0)))) (ls := l) (L := ((q.take i).foldl clS ([], 0)).1) (k := ((q.take i).foldl clS ([], 0)).2) (upd_same _ _ _) (by omega) (ht _ hmm) (hh _ hmm hok).1 hok (hh _ hmm hok).2
      rw [upd_upd] at d
      exact d
    generalize upd σ l (scS ((q.take i).foldl clS ([], 0))) = τ2 at d1 ⊢
    conv => whnf
    repeat' (first | (refine CallN.one d1 ?_) | refine Fork.yp ?_ | refine Need.go ?_ | refine ElemN.go ?_ | refine ExtN.wr ?_) <;> try (conv => whnf)
    refine hK _ _ (by omega) (by omega) ?_
    (refine ⟨rfl, ?_, ?_, Sub.refl _⟩ <;> repeat' (first | exact EnvLe.nil | exact LocsLe.nil | refine EnvLe.cons _ _ _ ?_ ?_ | refine LocsLe.cons _ _ _ ?_ ?_ | exact CVle.same _ rfl | exact CVle.vec _ _ | exact CVle.nil | exact CVle.tok _ _ _ rfl rfl | exact ObLe.tok _ _ rfl | exact CVles.nil | refine CVles.cons ?_ ?_ | exact ObLe.same _ rfl rfl | refine ObLe.cells rfl ?_))
  · rw [List.take_of_length_le (by omega)]
    have hf := (fold_runN (f := clS) (g := clN) q (fun c hc L k => cl_rel (hall c hc) (hh c hc (hall c hc)).2) [] 0).1
    have h0 : orK 0 (runN clN q []).1 = (runN clN q []).1 := if_pos rfl
    rw [h0, ← hE] at hf
    have hs : scS (q.foldl clS ([], 0)) = .cells [.vec (sts (q.foldl clS ([], 0)).1), i64 (checkN q)] := by rw [← hf]; rfl
    rw [hs]
    have hm : upd σ l (.cells [.vec (sts (q.foldl clS ([], 0)).1), i64 (checkN q)]) l = some (.cells [.vec (sts (q.foldl clS ([], 0)).1), i64 (checkN q)]) := upd_same _ _ _
    have hsub : Sub σ (upd σ l (.cells [.vec (sts (q.foldl clS ([], 0)).1), i64 (checkN q)])) := (Sub.refl σ).upd hl
    generalize upd σ l (.cells [.vec (sts (q.foldl clS ([], 0)).1), i64 (checkN q)]) = τ2 at hm hsub ⊢
    clear hK
    conv => whnf
    repeat' (first | (refine finS0 hsub ?_) | refine Fork.np ?_ | refine GetN.go ?_) <;> try (conv => whnf)
    all_goals rfl
end Go.Proofs.YthllnbfkfobcjaaGreat
