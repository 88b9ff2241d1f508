/-
  Contracts of the functions that the law reaches.
-/
import Derived.Test.YthllnbfkfobcjaaGreatGPb
set_option linter.unusedVariables false
set_option linter.unusedSimpArgs false
namespace Go.Proofs.YthllnbfkfobcjaaGreat
open Go Go.CL
set_option maxRecDepth 10000
def exprI (c : Cl) : List Exp := if c.kind = 3 ∨ c.kind = 4 then [c.e] else []
def exprsI (c : Cl) : List Exp := pathsE c.paths ++ (exprI c ++ (c.items.map It.e ++ c.tos.map Tg.e))
structure ESt where
  i : Nat
  s : Heap
  L : List Exp
theorem app_T {a b r T : List Exp} (h : a ++ (b ++ r) = T) : (a ++ b) ++ r = T := by rw [← h]; simp
def EOut2 (σ : Heap) (T : List Exp) (out : COut) : Prop := (T = [] ∧ ∃ τ, Sub σ τ ∧ out = .ret (.vec []) τ) ∨ ∃ la cap τ, Sub σ τ ∧ σ la = none ∧ τ la = some (.arr 33 8 cap (Exp.cvs T)) ∧ out = .ret (.grow la T.length cap) τ
theorem eout2_fin {f : FuncId} {args : List CV} {σ : Heap} {T : List Exp} (h : CRun Tryz.prog f args σ (EOut2 σ T)) : CRun Tryz.prog f args σ (· = .ret (.vec (Exp.cvs T)) σ) := by
  refine h.freeze fun out h => ?_
  rcases h with ⟨h0, τ, hs, rfl⟩ | ⟨la, cap, τ, hs, hl, hla, rfl⟩
  · exact ⟨.ret (.vec (Exp.cvs T)) σ, ⟨hs, [], .inl (.one (by rw [h0]; exact .same _)), by simp⟩, rfl⟩
  · refine ⟨.ret (.vec (Exp.cvs T)) σ, ⟨hs, [la], .inl (.one ?_), fun l' h' => by rw [List.mem_singleton.1 h']; exact hl⟩, rfl⟩
    have := Frz.grow (σ := τ) la T.length cap _ _ _ hla (by rw [ecvs_length]; exact Nat.le_refl _)
    rwa [List.take_of_length_le (by rw [ecvs_length]; exact Nat.le_refl _)] at this
set_option maxHeartbeats 8000000 in
theorem exprsOf_c {σ : Heap} {c : Cl} (hs : ClT c) (hT : (exprsI c).length ≤ 100000) : CRun Tryz.prog 60 [c.cv] σ (· = .ret (.vec (Exp.cvs (exprsI c))) σ) := by
  refine eout2_fin ?_
  obtain ⟨k, ps, ⟨ek, ⟨vk, vn, vt, vl⟩, es, ec, ep⟩, n, is, di, os, sk, li, ts, ns, de⟩ := c
  obtain ⟨-, hp1, hp2, -, -, hi1, -, -, -, -, -, ht1, -, -, -⟩ := hs
  dsimp only at hp1 hp2 hi1 ht1
  have a1 := pths_len ps
  have a2 := its_len is
  have a3 := tgs_len ts
  have hE : exprsI ⟨k, ps, ⟨ek, ⟨vk, vn, vt, vl⟩, es, ec, ep⟩, n, is, di, os, sk, li, ts, ns, de⟩ = pathsE ps ++ ((if k = 3 ∨ k = 4 then [.mk ek (.mk vk vn vt vl) es ec ep] else []) ++ (is.map It.e ++ ts.map Tg.e)) := rfl
  generalize hTT : exprsI ⟨k, ps, ⟨ek, ⟨vk, vn, vt, vl⟩, es, ec, ep⟩, n, is, di, os, sk, li, ts, ns, de⟩ = T at hE hT ⊢
  clear hTT
  refine crun_of (X := (GM [3,51,65,80] fun n => match Nat.beq n 14 with | true => some [0,1,2,3,4,5,6,7,8] | false => (match Nat.beq n 100014 with | true => some [0,0,0,0,0,0] | false => (match Nat.beq n 18 with | true => some [0,1,2,3,4,5,6,7,8] | false => (match Nat.beq n 100018 with | true => some [0,0,0,0,0,0] | false => (match Nat.beq n 23 with | true => some [0,1,2,3,4,5,6,7,8] | false => (match Nat.beq n 100023 with | true => some [0,0,0,0,0,0] | false => (none)))))))) (GM_ok _ _) (GM_sat _ _) (body := bodyOf Tryz.f60) Tryz.func60 rfl (by kernel_rfl) (by kernel_rfl) ?_
  rw [Tryz.ntmps60]
  conv => whnf
  repeat' (first | (refine AllocN.go (fun lo hlo => ?_)) | refine OrdN.go ?_ | refine Fork.yp ?_ | refine Fork.np ?_ | refine Fork.ny ?_ | refine Fork.nn ?_ | refine Fork.yb ?_ | refine Fork.nb ?_ | refine Fork.dp (fun h => ?_) (fun h => ?_) | refine Fork.dn (fun h => ?_) (fun h => ?_) | (refine Fork.mk (fun h => ?_) (fun h => ?_) <;> simp only [decide_eq_true_eq, decide_eq_false_iff_not, Bool.not_eq_true', Bool.not_eq_false', Bool.or_eq_true, Bool.or_eq_false_iff] at h) | refine GetN.go ?_ | refine Need.ap1 ?_ | refine Need.ap0 ?_ | refine Need.go ?_ | refine Need.draw ?_ | refine ElemN.go ?_ | refine ExtN.ext ?_ | refine ExtN.wr ?_ | refine AllocN.go (fun l hl => ?_) | refine finGo ?_) <;> try (conv => whnf)
  have hst : EO σ (upd σ lo (.cells [.nil])) lo [] := ⟨(Sub.refl σ).upd hlo, hlo, .inl ⟨rfl, upd_same _ _ _⟩⟩
  apply share2
  focus {
  intro st
  refine LoopN.rule (α := ESt) (fun a => ⟨84, [(1, .ptr (.f 1) 0), (3, .ptr (.g lo) 0), (4, .fn (.func 138) [] [.ptr (.g lo) 0]), (15, .vec (pths ps)), (16, i64 (pths ps).length), (17, i64 a.i)], [(1, .cells [i64 k, .vec (pths ps), i64 ek, i64 vk, i64 vn, .sc (.string vt), .vec (Val.cvs vl), .sc (.string es), .sc (.string ec), .vec (Exp.cvs ep), .sc (.string n), .vec (its is), .sc (.bool di), .vec (ods os), i64 sk, i64 li, .vec (tgs ts), .vec (sts ns), .sc (.bool de)])]⟩) (fun a => a.s) (fun a => ps.length - a.i) (fun a => a.i ≤ ps.length ∧ EO σ a.s lo a.L ∧ a.L ++ (pathsE (ps.drop a.i) ++ ((if k = 3 ∨ k = 4 then [.mk ek (.mk vk vn vt vl) es ec ep] else []) ++ (is.map It.e ++ ts.map Tg.e))) = T) ?_ ⟨0, _, []⟩ ⟨by simp, hst, hE.symm⟩ ?_
  rotate_left
  · (refine ⟨rfl, ?_, ?_, Sub.refl _⟩ <;> repeat' (first | exact EnvLe.nil | exact LocsLe.nil | refine EnvLe.cons _ _ _ ?_ ?_ | refine LocsLe.cons _ _ _ ?_ ?_ | exact CVle.same _ rfl | exact CVle.vec _ _ | exact CVle.nil | exact CVle.tok _ _ _ rfl rfl | exact ObLe.tok _ _ rfl | exact CVles.nil | refine CVles.cons ?_ ?_ | exact ObLe.same _ rfl rfl | refine ObLe.cells rfl ?_))
  rintro ⟨i, s, L⟩ K1 ⟨i1, i2, j2⟩ hK1
  dsimp only at i1 i2 j2 ⊢
  have b2 := part_len j2 hT
  by_cases hi : i < ps.length
  · obtain ⟨sn, sl, pr, hs, hq, hx, hd⟩ := pths_at hi
    have hpt := hp2 _ (List.mem_of_getElem? hq)
    have a5 := hps_len hs
    have hl4 : pr.length ≤ 1000 := hpt.s.k
    have hl5 : hs.length ≤ 1000 := hpt.k
    have hht := hpt.h
    clear hpt hq
    rw [hd, List.append_assoc, List.append_assoc] at j2
    have j3 := app_T j2
    have c1 := spotEs_c (s := ⟨sn, sl, pr⟩) i2 hl4 (by omega)
    dsimp only at c1
    have hK1 := fun s L => hK1 ⟨i + 1, s, L⟩
    dsimp only at hK1
    generalize pathsE (ps.drop (i + 1)) ++ ((if k = 3 ∨ k = 4 then [.mk ek (.mk vk vn vt vl) es ec ep] else []) ++ (is.map It.e ++ ts.map Tg.e)) = R1 at j3 hK1
    generalize L ++ pr.map Pt.e = L2 at c1 j3
    clear i2 j2 b2
    conv => whnf
    repeat' (first | (refine ElemN.go ?_ (h := hx)) | ((refine CallN.many c1 ?_; rintro _ ⟨s2, hEO, rfl⟩)) | refine OrdN.go ?_ | refine Fork.yp ?_ | refine Fork.np ?_ | refine Fork.ny ?_ | refine Fork.nn ?_ | refine Fork.yb ?_ | refine Fork.nb ?_ | refine Fork.dp (fun h => ?_) (fun h => ?_) | refine Fork.dn (fun h => ?_) (fun h => ?_) | (refine Fork.mk (fun h => ?_) (fun h => ?_) <;> simp only [decide_eq_true_eq, decide_eq_false_iff_not, Bool.not_eq_true', Bool.not_eq_false', Bool.or_eq_true, Bool.or_eq_false_iff] at h) | refine GetN.go ?_ | refine Need.ap1 ?_ | refine Need.ap0 ?_ | refine Need.go ?_ | refine Need.draw ?_ | refine ElemN.go ?_ | refine ExtN.ext ?_ | refine ExtN.wr ?_ | refine AllocN.go (fun l hl => ?_) | refine finGo ?_) <;> try (conv => whnf)
    refine LoopN.rule (α := ESt) (fun a => ⟨84, [(1, .ptr (.f 1) 0), (3, .ptr (.g lo) 0), (4, .fn (.func 138) [] [.ptr (.g lo) 0]), (15, .vec (pths ps)), (16, i64 (pths ps).length), (17, i64 i), (26, .vec (hps hs)), (27, i64 (hps hs).length), (28, i64 a.i)], [(1, .cells [i64 k, .vec (pths ps), i64 ek, i64 vk, i64 vn, .sc (.string vt), .vec (Val.cvs vl), .sc (.string es), .sc (.string ec), .vec (Exp.cvs ep), .sc (.string n), .vec (its is), .sc (.bool di), .vec (ods os), i64 sk, i64 li, .vec (tgs ts), .vec (sts ns), .sc (.bool de)])]⟩) (fun a => a.s) (fun a => hs.length - a.i) (fun a => a.i ≤ hs.length ∧ EO σ a.s lo a.L ∧ a.L ++ (hopsE (hs.drop a.i) ++ R1) = T) ?_ ⟨0, s2, L2⟩ ⟨by simp, hEO, j3⟩ ?_
    rotate_left
    · (refine ⟨rfl, ?_, ?_, Sub.refl _⟩ <;> repeat' (first | exact EnvLe.nil | exact LocsLe.nil | refine EnvLe.cons _ _ _ ?_ ?_ | refine LocsLe.cons _ _ _ ?_ ?_ | exact CVle.same _ rfl | exact CVle.vec _ _ | exact CVle.nil | exact CVle.tok _ _ _ rfl rfl | exact ObLe.tok _ _ rfl | exact CVles.nil | refine CVles.cons ?_ ?_ | exact ObLe.same _ rfl rfl | refine ObLe.cells rfl ?_))
    rintro ⟨j, s, L⟩ K2 ⟨i1, i2, j2⟩ hK2
    dsimp only at i1 i2 j2 ⊢
    have b2 := part_len j2 hT
    by_cases hj : j < hs.length
    · obtain ⟨hn, hk, hw, sn2, sl2, pr2, hq, hy, hd2⟩ := hps_at' hj
      have hl6 : pr2.length ≤ 1000 := (hht _ (List.mem_of_getElem? hq)).s.k
      clear hq
      rw [hd2, List.append_assoc] at j2
      have j3 := app_T j2
      have c2 := spotEs_c (s := ⟨sn2, sl2, pr2⟩) i2 hl6 (by omega)
      dsimp only at c2
      conv => whnf
      repeat' (first | (refine ElemN.go ?_ (h := hy)) | ((refine CallN.many c2 ?_; rintro _ ⟨s3, hEO3, rfl⟩)) | refine OrdN.go ?_ | refine Fork.yp ?_ | refine Fork.np ?_ | refine Fork.ny ?_ | refine Fork.nn ?_ | refine Fork.yb ?_ | refine Fork.nb ?_ | refine Fork.dp (fun h => ?_) (fun h => ?_) | refine Fork.dn (fun h => ?_) (fun h => ?_) | (refine Fork.mk (fun h => ?_) (fun h => ?_) <;> simp only [decide_eq_true_eq, decide_eq_false_iff_not, Bool.not_eq_true', Bool.not_eq_false', Bool.or_eq_true, Bool.or_eq_false_iff] at h) | refine GetN.go ?_ | refine Need.ap1 ?_ | refine Need.ap0 ?_ | refine Need.go ?_ | refine Need.draw ?_ | refine ElemN.go ?_ | refine ExtN.ext ?_ | refine ExtN.wr ?_ | refine AllocN.go (fun l hl => ?_) | refine finGo ?_) <;> try (conv => whnf)
      refine hK2 ⟨j + 1, s3, _⟩ _ _ ⟨by dsimp only; omega, hEO3, j3⟩ (by dsimp only; omega) ?_
      (refine ⟨rfl, ?_, ?_, Sub.refl _⟩ <;> repeat' (first | exact EnvLe.nil | exact LocsLe.nil | refine EnvLe.cons _ _ _ ?_ ?_ | refine LocsLe.cons _ _ _ ?_ ?_ | exact CVle.same _ rfl | exact CVle.vec _ _ | exact CVle.nil | exact CVle.tok _ _ _ rfl rfl | exact ObLe.tok _ _ rfl | exact CVles.nil | refine CVles.cons ?_ ?_ | exact ObLe.same _ rfl rfl | refine ObLe.cells rfl ?_))
    · rw [show hopsE (hs.drop j) = [] by rw [List.drop_eq_nil_of_le (by omega)]; rfl, List.nil_append] at j2
      conv => whnf
      repeat' (first | refine OrdN.go ?_ | refine Fork.yp ?_ | refine Fork.np ?_ | refine Fork.ny ?_ | refine Fork.nn ?_ | refine Fork.yb ?_ | refine Fork.nb ?_ | refine Fork.dp (fun h => ?_) (fun h => ?_) | refine Fork.dn (fun h => ?_) (fun h => ?_) | (refine Fork.mk (fun h => ?_) (fun h => ?_) <;> simp only [decide_eq_true_eq, decide_eq_false_iff_not, Bool.not_eq_true', Bool.not_eq_false', Bool.or_eq_true, Bool.or_eq_false_iff] at h) | refine GetN.go ?_ | refine Need.ap1 ?_ | refine Need.ap0 ?_ | refine Need.go ?_ | refine Need.draw ?_ | refine ElemN.go ?_ | refine ExtN.ext ?_ | refine ExtN.wr ?_ | refine AllocN.go (fun l hl => ?_) | refine finGo ?_) <;> try (conv => whnf)
      refine hK1 _ _ _ _ ⟨by omega, i2, j2⟩ (by omega) ?_
      (refine ⟨rfl, ?_, ?_, Sub.refl _⟩ <;> repeat' (first | exact EnvLe.nil | exact LocsLe.nil | refine EnvLe.cons _ _ _ ?_ ?_ | refine LocsLe.cons _ _ _ ?_ ?_ | exact CVle.same _ rfl | exact CVle.vec _ _ | exact CVle.nil | exact CVle.tok _ _ _ rfl rfl | exact ObLe.tok _ _ rfl | exact CVles.nil | refine CVles.cons ?_ ?_ | exact ObLe.same _ rfl rfl | refine ObLe.cells rfl ?_))
  · clear hK1
    rw [show pathsE (ps.drop i) = [] by rw [List.drop_eq_nil_of_le (by omega)]; rfl, List.nil_append] at j2
    by_cases hk : k = 3 ∨ k = 4
    case neg =>
      rw [if_neg hk, List.nil_append] at j2
      conv => whnf
      repeat' (first | refine OrdN.one ?_ | refine Fork.yp ?_ | refine Fork.np ?_ | refine Fork.ny ?_ | refine Fork.nn ?_ | refine Fork.yb ?_ | refine Fork.nb ?_ | refine Fork.dp (fun h => ?_) (fun h => ?_) | refine Fork.dn (fun h => ?_) (fun h => ?_) | (refine Fork.mk (fun h => ?_) (fun h => ?_) <;> simp only [decide_eq_true_eq, decide_eq_false_iff_not, Bool.not_eq_true', Bool.not_eq_false', Bool.or_eq_true, Bool.or_eq_false_iff] at h) | refine GetN.go ?_ | refine Need.ap1 ?_ | refine Need.ap0 ?_ | refine Need.go ?_ | refine Need.draw ?_ | refine ElemN.go ?_ | refine ExtN.ext ?_ | refine ExtN.wr ?_ | refine AllocN.go (fun l hl => ?_) | refine finGo ?_) <;> try (conv => whnf)
      all_goals first
        | (exfalso; omega)
        | (refine LoopN.rule (α := ESt) (fun a => ⟨84, [(1, .ptr (.f 1) 0), (3, .ptr (.g lo) 0), (54, .vec (its is)), (55, i64 (its is).length), (56, i64 a.i)], [(1, .cells [i64 k, .vec (pths ps), i64 ek, i64 vk, i64 vn, .sc (.string vt), .vec (Val.cvs vl), .sc (.string es), .sc (.string ec), .vec (Exp.cvs ep), .sc (.string n), .vec (its is), .sc (.bool di), .vec (ods os), i64 sk, i64 li, .vec (tgs ts), .vec (sts ns), .sc (.bool de)])]⟩) (fun a => a.s) (fun a => is.length - a.i) (fun a => a.i ≤ is.length ∧ EO σ a.s lo a.L ∧ a.L ++ ((is.drop a.i).map It.e ++ ts.map Tg.e) = T) st.h ⟨0, s, L⟩ ⟨by simp, i2, j2⟩ ?_
           (refine ⟨rfl, ?_, ?_, Sub.refl _⟩ <;> repeat' (first | exact EnvLe.nil | exact LocsLe.nil | refine EnvLe.cons _ _ _ ?_ ?_ | refine LocsLe.cons _ _ _ ?_ ?_ | exact CVle.same _ rfl | exact CVle.vec _ _ | exact CVle.nil | exact CVle.tok _ _ _ rfl rfl | exact ObLe.tok _ _ rfl | exact CVles.nil | refine CVles.cons ?_ ?_ | exact ObLe.same _ rfl rfl | refine ObLe.cells rfl ?_))
           done)
    rw [if_pos hk] at j2
    have i3T := snoc_T j2
    obtain ⟨i3, i4, (⟨i5, i6⟩ | ⟨la, cap, i5, i6, i7, i8, i9⟩)⟩ := i2
    · subst i5
      conv => whnf
      repeat' (first | (refine AndN.mk ?_ ?_) | (refine needTail ?_) | (refine GetN.go ?_ (h := i6)) | (refine ElemN.go ?_ (h := at_in)) | (refine AllocC.go (fun l2 cap2 hl2 hcap2 => ?_)) | (refine Need.mk ⟨by simp only [List.length_cons, List.length_nil]; omega, by simp only [List.length_cons, List.length_nil]; omega, ElsOk.one rfl rfl⟩ ?_) | (refine ExtN.ext ?_) | (refine GetN.go ?_ (h := got2 i6 ‹_›)) | (refine GetN.go ?_ (h := gotB i6 ‹_›)) | (refine GetN.go ?_ (h := got3 (fun e => by subst e; rw [i6] at hl2; cases hl2))) | refine OrdN.go ?_ | refine Fork.yp ?_ | refine Fork.np ?_ | refine Fork.ny ?_ | refine Fork.nn ?_ | refine Fork.yb ?_ | refine Fork.nb ?_ | refine Fork.dp (fun h => ?_) (fun h => ?_) | refine Fork.dn (fun h => ?_) (fun h => ?_) | (refine Fork.mk (fun h => ?_) (fun h => ?_) <;> simp only [decide_eq_true_eq, decide_eq_false_iff_not, Bool.not_eq_true', Bool.not_eq_false', Bool.or_eq_true, Bool.or_eq_false_iff] at h) | refine GetN.go ?_ | refine Need.ap1 ?_ | refine Need.ap0 ?_ | refine Need.go ?_ | refine Need.draw ?_ | refine ElemN.go ?_ | refine ExtN.ext ?_ | refine ExtN.wr ?_ | refine AllocN.go (fun l hl => ?_) | refine finGo ?_) <;> try (conv => whnf)
      all_goals
        have fr := eo_fr i3 i6 hl2
        have hq := eo_put (L := []) (e := .mk ek (.mk vk vn vt vl) es ec ep) (n := 1) (cap := cap2) (Y := .arr 33 8 cap2 [zE]) (xs := [Exp.cv (.mk ek (.mk vk vn vt vl) es ec ep)]) i3 i4 fr.1 fr.2 rfl rfl
        have hq2 := eo_put2 (L := []) (e := .mk ek (.mk vk vn vt vl) es ec ep) (n := 1) (cap := cap2) (Y := .arr 33 8 cap2 [zE]) (xs := [Exp.cv (.mk ek (.mk vk vn vt vl) es ec ep)]) i3 i4 fr.1 fr.2 rfl rfl
        first
          | (refine LoopN.rule (α := ESt) (fun a => ⟨84, [(1, .ptr (.f 1) 0), (3, .ptr (.g lo) 0), (54, .vec (its is)), (55, i64 (its is).length), (56, i64 a.i)], [(1, .cells [i64 k, .vec (pths ps), i64 ek, i64 vk, i64 vn, .sc (.string vt), .vec (Val.cvs vl), .sc (.string es), .sc (.string ec), .vec (Exp.cvs ep), .sc (.string n), .vec (its is), .sc (.bool di), .vec (ods os), i64 sk, i64 li, .vec (tgs ts), .vec (sts ns), .sc (.bool de)])]⟩) (fun a => a.s) (fun a => is.length - a.i) (fun a => a.i ≤ is.length ∧ EO σ a.s lo a.L ∧ a.L ++ ((is.drop a.i).map It.e ++ ts.map Tg.e) = T) st.h ⟨0, _, _⟩ ⟨by simp, hq, i3T⟩ ?_
             (refine ⟨rfl, ?_, ?_, Sub.refl _⟩ <;> repeat' (first | exact EnvLe.nil | exact LocsLe.nil | refine EnvLe.cons _ _ _ ?_ ?_ | refine LocsLe.cons _ _ _ ?_ ?_ | exact CVle.same _ rfl | exact CVle.vec _ _ | exact CVle.nil | exact CVle.tok _ _ _ rfl rfl | exact ObLe.tok _ _ rfl | exact CVles.nil | refine CVles.cons ?_ ?_ | exact ObLe.same _ rfl rfl | refine ObLe.cells rfl ?_))
             done)
          | (refine LoopN.rule (α := ESt) (fun a => ⟨84, [(1, .ptr (.f 1) 0), (3, .ptr (.g lo) 0), (54, .vec (its is)), (55, i64 (its is).length), (56, i64 a.i)], [(1, .cells [i64 k, .vec (pths ps), i64 ek, i64 vk, i64 vn, .sc (.string vt), .vec (Val.cvs vl), .sc (.string es), .sc (.string ec), .vec (Exp.cvs ep), .sc (.string n), .vec (its is), .sc (.bool di), .vec (ods os), i64 sk, i64 li, .vec (tgs ts), .vec (sts ns), .sc (.bool de)])]⟩) (fun a => a.s) (fun a => is.length - a.i) (fun a => a.i ≤ is.length ∧ EO σ a.s lo a.L ∧ a.L ++ ((is.drop a.i).map It.e ++ ts.map Tg.e) = T) st.h ⟨0, _, _⟩ ⟨by simp, hq2, i3T⟩ ?_
             (refine ⟨rfl, ?_, ?_, Sub.refl _⟩ <;> repeat' (first | exact EnvLe.nil | exact LocsLe.nil | refine EnvLe.cons _ _ _ ?_ ?_ | refine LocsLe.cons _ _ _ ?_ ?_ | exact CVle.same _ rfl | exact CVle.vec _ _ | exact CVle.nil | exact CVle.tok _ _ _ rfl rfl | exact ObLe.tok _ _ rfl | exact CVles.nil | refine CVles.cons ?_ ?_ | exact ObLe.same _ rfl rfl | refine ObLe.cells rfl ?_))
             done)
    · have e6 := ecvs_length L
      conv => whnf
      repeat' (first | (refine AndN.mk ?_ ?_) | (refine needTail ?_) | (refine GetN.go ?_ (h := i8)) | (refine GetN.go ?_ (h := i9)) | (refine ElemN.go ?_ (h := at_in)) | (refine AllocC.go (fun l2 cap2 hl2 hcap2 => ?_)) | (refine Need.mk ⟨rfl, by omega, by simp only [List.length_cons, List.length_nil]; omega, by simp only [List.length_cons, List.length_nil]; omega, ElsOk.one rfl rfl⟩ ?_) | (refine ExtN.ext ?_) | (refine GetN.go ?_ (h := got2 i8 ‹_›)) | (refine GetN.go ?_ (h := gotB i8 ‹_›)) | (refine GetN.go ?_ (h := got3 (fun e => by subst e; rw [i8] at hl2; cases hl2))) | (refine GetN.go ?_ (h := got2c i6 i8)) | (refine GetN.go ?_ (h := gotC i6 i8)) | (refine GetN.go ?_ (h := got3 i6)) | (refine ElemN.go ?_ (h := at_in)) | (refine ElemN.go ?_ (h := at_new)) | refine OrdN.go ?_ | refine Fork.yp ?_ | refine Fork.np ?_ | refine Fork.ny ?_ | refine Fork.nn ?_ | refine Fork.yb ?_ | refine Fork.nb ?_ | refine Fork.dp (fun h => ?_) (fun h => ?_) | refine Fork.dn (fun h => ?_) (fun h => ?_) | (refine Fork.mk (fun h => ?_) (fun h => ?_) <;> simp only [decide_eq_true_eq, decide_eq_false_iff_not, Bool.not_eq_true', Bool.not_eq_false', Bool.or_eq_true, Bool.or_eq_false_iff] at h) | refine GetN.go ?_ | refine Need.ap1 ?_ | refine Need.ap0 ?_ | refine Need.go ?_ | refine Need.draw ?_ | refine ElemN.go ?_ | refine ExtN.ext ?_ | refine ExtN.wr ?_ | refine AllocN.go (fun l hl => ?_) | refine finGo ?_) <;> try (conv => whnf)
      all_goals first
        | (have hq := eo_put (L := L) (e := .mk ek (.mk vk vn vt vl) es ec ep) (n := L.length + 1) (cap := cap) (Y := .arr 33 8 cap ((Exp.cvs L).take L.length ++ [zE] ++ (Exp.cvs L).drop (L.length + 1))) (xs := ((Exp.cvs L).take L.length ++ [zE] ++ (Exp.cvs L).drop (L.length + 1)).set L.length (Exp.cv (.mk ek (.mk vk vn vt vl) es ec ep))) i3 i4 i7 i6 (set_in rfl) rfl
           have hq2 := eo_put2 (L := L) (e := .mk ek (.mk vk vn vt vl) es ec ep) (n := L.length + 1) (cap := cap) (Y := .arr 33 8 cap ((Exp.cvs L).take L.length ++ [zE] ++ (Exp.cvs L).drop (L.length + 1))) (xs := ((Exp.cvs L).take L.length ++ [zE] ++ (Exp.cvs L).drop (L.length + 1)).set L.length (Exp.cv (.mk ek (.mk vk vn vt vl) es ec ep))) i3 i4 i7 i6 (set_in rfl) rfl
           first
             | (refine LoopN.rule (α := ESt) (fun a => ⟨84, [(1, .ptr (.f 1) 0), (3, .ptr (.g lo) 0), (54, .vec (its is)), (55, i64 (its is).length), (56, i64 a.i)], [(1, .cells [i64 k, .vec (pths ps), i64 ek, i64 vk, i64 vn, .sc (.string vt), .vec (Val.cvs vl), .sc (.string es), .sc (.string ec), .vec (Exp.cvs ep), .sc (.string n), .vec (its is), .sc (.bool di), .vec (ods os), i64 sk, i64 li, .vec (tgs ts), .vec (sts ns), .sc (.bool de)])]⟩) (fun a => a.s) (fun a => is.length - a.i) (fun a => a.i ≤ is.length ∧ EO σ a.s lo a.L ∧ a.L ++ ((is.drop a.i).map It.e ++ ts.map Tg.e) = T) st.h ⟨0, _, _⟩ ⟨by simp, hq, i3T⟩ ?_
                (refine ⟨rfl, ?_, ?_, Sub.refl _⟩ <;> repeat' (first | exact EnvLe.nil | exact LocsLe.nil | refine EnvLe.cons _ _ _ ?_ ?_ | refine LocsLe.cons _ _ _ ?_ ?_ | exact CVle.same _ rfl | exact CVle.vec _ _ | exact CVle.nil | exact CVle.tok _ _ _ rfl rfl | exact ObLe.tok _ _ rfl | exact CVles.nil | refine CVles.cons ?_ ?_ | exact ObLe.same _ rfl rfl | refine ObLe.cells rfl ?_))
                done)
             | (refine LoopN.rule (α := ESt) (fun a => ⟨84, [(1, .ptr (.f 1) 0), (3, .ptr (.g lo) 0), (54, .vec (its is)), (55, i64 (its is).length), (56, i64 a.i)], [(1, .cells [i64 k, .vec (pths ps), i64 ek, i64 vk, i64 vn, .sc (.string vt), .vec (Val.cvs vl), .sc (.string es), .sc (.string ec), .vec (Exp.cvs ep), .sc (.string n), .vec (its is), .sc (.bool di), .vec (ods os), i64 sk, i64 li, .vec (tgs ts), .vec (sts ns), .sc (.bool de)])]⟩) (fun a => a.s) (fun a => is.length - a.i) (fun a => a.i ≤ is.length ∧ EO σ a.s lo a.L ∧ a.L ++ ((is.drop a.i).map It.e ++ ts.map Tg.e) = T) st.h ⟨0, _, _⟩ ⟨by simp, hq2, i3T⟩ ?_
                (refine ⟨rfl, ?_, ?_, Sub.refl _⟩ <;> repeat' (first | exact EnvLe.nil | exact LocsLe.nil | refine EnvLe.cons _ _ _ ?_ ?_ | refine LocsLe.cons _ _ _ ?_ ?_ | exact CVle.same _ rfl | exact CVle.vec _ _ | exact CVle.nil | exact CVle.tok _ _ _ rfl rfl | exact ObLe.tok _ _ rfl | exact CVles.nil | refine CVles.cons ?_ ?_ | exact ObLe.same _ rfl rfl | refine ObLe.cells rfl ?_))
                done))
        | (have fr := eo_fr i3 i8 hl2
           have hp := eo_put (L := L) (e := .mk ek (.mk vk vn vt vl) es ec ep) (n := L.length + 1) (cap := cap2) (Y := .arr 33 8 cap2 ((Exp.cvs L).take L.length ++ [zE])) (xs := ((Exp.cvs L).take L.length ++ [zE]).set L.length (Exp.cv (.mk ek (.mk vk vn vt vl) es ec ep))) i3 i4 fr.1 fr.2 (set_new rfl) rfl
           have hp2 := eo_put2 (L := L) (e := .mk ek (.mk vk vn vt vl) es ec ep) (n := L.length + 1) (cap := cap2) (Y := .arr 33 8 cap2 ((Exp.cvs L).take L.length ++ [zE])) (xs := ((Exp.cvs L).take L.length ++ [zE]).set L.length (Exp.cv (.mk ek (.mk vk vn vt vl) es ec ep))) i3 i4 fr.1 fr.2 (set_new rfl) rfl
           first
             | (refine LoopN.rule (α := ESt) (fun a => ⟨84, [(1, .ptr (.f 1) 0), (3, .ptr (.g lo) 0), (54, .vec (its is)), (55, i64 (its is).length), (56, i64 a.i)], [(1, .cells [i64 k, .vec (pths ps), i64 ek, i64 vk, i64 vn, .sc (.string vt), .vec (Val.cvs vl), .sc (.string es), .sc (.string ec), .vec (Exp.cvs ep), .sc (.string n), .vec (its is), .sc (.bool di), .vec (ods os), i64 sk, i64 li, .vec (tgs ts), .vec (sts ns), .sc (.bool de)])]⟩) (fun a => a.s) (fun a => is.length - a.i) (fun a => a.i ≤ is.length ∧ EO σ a.s lo a.L ∧ a.L ++ ((is.drop a.i).map It.e ++ ts.map Tg.e) = T) st.h ⟨0, _, _⟩ ⟨by simp, hp, i3T⟩ ?_
                (refine ⟨rfl, ?_, ?_, Sub.refl _⟩ <;> repeat' (first | exact EnvLe.nil | exact LocsLe.nil | refine EnvLe.cons _ _ _ ?_ ?_ | refine LocsLe.cons _ _ _ ?_ ?_ | exact CVle.same _ rfl | exact CVle.vec _ _ | exact CVle.nil | exact CVle.tok _ _ _ rfl rfl | exact ObLe.tok _ _ rfl | exact CVles.nil | refine CVles.cons ?_ ?_ | exact ObLe.same _ rfl rfl | refine ObLe.cells rfl ?_))
                done)
             | (refine LoopN.rule (α := ESt) (fun a => ⟨84, [(1, .ptr (.f 1) 0), (3, .ptr (.g lo) 0), (54, .vec (its is)), (55, i64 (its is).length), (56, i64 a.i)], [(1, .cells [i64 k, .vec (pths ps), i64 ek, i64 vk, i64 vn, .sc (.string vt), .vec (Val.cvs vl), .sc (.string es), .sc (.string ec), .vec (Exp.cvs ep), .sc (.string n), .vec (its is), .sc (.bool di), .vec (ods os), i64 sk, i64 li, .vec (tgs ts), .vec (sts ns), .sc (.bool de)])]⟩) (fun a => a.s) (fun a => is.length - a.i) (fun a => a.i ≤ is.length ∧ EO σ a.s lo a.L ∧ a.L ++ ((is.drop a.i).map It.e ++ ts.map Tg.e) = T) st.h ⟨0, _, _⟩ ⟨by simp, hp2, i3T⟩ ?_
                (refine ⟨rfl, ?_, ?_, Sub.refl _⟩ <;> repeat' (first | exact EnvLe.nil | exact LocsLe.nil | refine EnvLe.cons _ _ _ ?_ ?_ | refine LocsLe.cons _ _ _ ?_ ?_ | exact CVle.same _ rfl | exact CVle.vec _ _ | exact CVle.nil | exact CVle.tok _ _ _ rfl rfl | exact ObLe.tok _ _ rfl | exact CVles.nil | refine CVles.cons ?_ ?_ | exact ObLe.same _ rfl rfl | refine ObLe.cells rfl ?_))
                done))
  }
  rintro ⟨i, s, L⟩ K3 ⟨i1, i2, j2⟩ hK3
  dsimp only at i1 i2 j2 ⊢
  have b2 := part_len j2 hT
  by_cases hi : i < is.length
  · obtain ⟨xk, xvk, xvn, xvt, xvl, xs, xc, xp, xn, hx, hd⟩ := its_at' hi
    rw [hd] at j2
    have i3T := snoc_T j2
    obtain ⟨i3, i4, (⟨i5, i6⟩ | ⟨la, cap, i5, i6, i7, i8, i9⟩)⟩ := i2
    · subst i5
      conv => whnf
      repeat' (first | (refine AndN.mk ?_ ?_) | (refine needTail ?_) | (refine GetN.go ?_ (h := i6)) | (refine ElemN.go ?_ (h := hx)) | (refine AllocC.go (fun l2 cap2 hl2 hcap2 => ?_)) | (refine Need.mk ⟨by simp only [List.length_cons, List.length_nil]; omega, by simp only [List.length_cons, List.length_nil]; omega, ElsOk.one rfl rfl⟩ ?_) | (refine ExtN.ext ?_) | (refine GetN.go ?_ (h := got2 i6 ‹_›)) | (refine GetN.go ?_ (h := gotB i6 ‹_›)) | (refine GetN.go ?_ (h := got3 (fun e => by subst e; rw [i6] at hl2; cases hl2))) | refine OrdN.go ?_ | refine Fork.yp ?_ | refine Fork.np ?_ | refine Fork.ny ?_ | refine Fork.nn ?_ | refine Fork.yb ?_ | refine Fork.nb ?_ | refine Fork.dp (fun h => ?_) (fun h => ?_) | refine Fork.dn (fun h => ?_) (fun h => ?_) | (refine Fork.mk (fun h => ?_) (fun h => ?_) <;> simp only [decide_eq_true_eq, decide_eq_false_iff_not, Bool.not_eq_true', Bool.not_eq_false', Bool.or_eq_true, Bool.or_eq_false_iff] at h) | refine GetN.go ?_ | refine Need.ap1 ?_ | refine Need.ap0 ?_ | refine Need.go ?_ | refine Need.draw ?_ | refine ElemN.go ?_ | refine ExtN.ext ?_ | refine ExtN.wr ?_ | refine AllocN.go (fun l hl => ?_) | refine finGo ?_) <;> try (conv => whnf)
      all_goals
        have fr := eo_fr i3 i6 hl2
        have hq := eo_put (L := []) (e := .mk xk (.mk xvk xvn xvt xvl) xs xc xp) (n := 1) (cap := cap2) (Y := .arr 33 8 cap2 [zE]) (xs := [Exp.cv (.mk xk (.mk xvk xvn xvt xvl) xs xc xp)]) i3 i4 fr.1 fr.2 rfl rfl
        have hq2 := eo_put2 (L := []) (e := .mk xk (.mk xvk xvn xvt xvl) xs xc xp) (n := 1) (cap := cap2) (Y := .arr 33 8 cap2 [zE]) (xs := [Exp.cv (.mk xk (.mk xvk xvn xvt xvl) xs xc xp)]) i3 i4 fr.1 fr.2 rfl rfl
        first
          | (refine hK3 ⟨i + 1, _, _⟩ _ _ ⟨by dsimp only; omega, hq, i3T⟩ (by dsimp only; omega) ?_
             (refine ⟨rfl, ?_, ?_, Sub.refl _⟩ <;> repeat' (first | exact EnvLe.nil | exact LocsLe.nil | refine EnvLe.cons _ _ _ ?_ ?_ | refine LocsLe.cons _ _ _ ?_ ?_ | exact CVle.same _ rfl | exact CVle.vec _ _ | exact CVle.nil | exact CVle.tok _ _ _ rfl rfl | exact ObLe.tok _ _ rfl | exact CVles.nil | refine CVles.cons ?_ ?_ | exact ObLe.same _ rfl rfl | refine ObLe.cells rfl ?_))
             done)
          | (refine hK3 ⟨i + 1, _, _⟩ _ _ ⟨by dsimp only; omega, hq2, i3T⟩ (by dsimp only; omega) ?_
             (refine ⟨rfl, ?_, ?_, Sub.refl _⟩ <;> repeat' (first | exact EnvLe.nil | exact LocsLe.nil | refine EnvLe.cons _ _ _ ?_ ?_ | refine LocsLe.cons _ _ _ ?_ ?_ | exact CVle.same _ rfl | exact CVle.vec _ _ | exact CVle.nil | exact CVle.tok _ _ _ rfl rfl | exact ObLe.tok _ _ rfl | exact CVles.nil | refine CVles.cons ?_ ?_ | exact ObLe.same _ rfl rfl | refine ObLe.cells rfl ?_))
             done)
    · have e6 := ecvs_length L
      conv => whnf
      repeat' (first | (refine AndN.mk ?_ ?_) | (refine needTail ?_) | (refine GetN.go ?_ (h := i8)) | (refine GetN.go ?_ (h := i9)) | (refine ElemN.go ?_ (h := hx)) | (refine AllocC.go (fun l2 cap2 hl2 hcap2 => ?_)) | (refine Need.mk ⟨rfl, by omega, by simp only [List.length_cons, List.length_nil]; omega, by simp only [List.length_cons, List.length_nil]; omega, ElsOk.one rfl rfl⟩ ?_) | (refine ExtN.ext ?_) | (refine GetN.go ?_ (h := got2 i8 ‹_›)) | (refine GetN.go ?_ (h := gotB i8 ‹_›)) | (refine GetN.go ?_ (h := got3 (fun e => by subst e; rw [i8] at hl2; cases hl2))) | (refine GetN.go ?_ (h := got2c i6 i8)) | (refine GetN.go ?_ (h := gotC i6 i8)) | (refine GetN.go ?_ (h := got3 i6)) | (refine ElemN.go ?_ (h := at_in)) | (refine ElemN.go ?_ (h := at_new)) | refine OrdN.go ?_ | refine Fork.yp ?_ | refine Fork.np ?_ | refine Fork.ny ?_ | refine Fork.nn ?_ | refine Fork.yb ?_ | refine Fork.nb ?_ | refine Fork.dp (fun h => ?_) (fun h => ?_) | refine Fork.dn (fun h => ?_) (fun h => ?_) | (refine Fork.mk (fun h => ?_) (fun h => ?_) <;> simp only [decide_eq_true_eq, decide_eq_false_iff_not, Bool.not_eq_true', Bool.not_eq_false', Bool.or_eq_true, Bool.or_eq_false_iff] at h) | refine GetN.go ?_ | refine Need.ap1 ?_ | refine Need.ap0 ?_ | refine Need.go ?_ | refine Need.draw ?_ | refine ElemN.go ?_ | refine ExtN.ext ?_ | refine ExtN.wr ?_ | refine AllocN.go (fun l hl => ?_) | refine finGo ?_) <;> try (conv => whnf)
      all_goals first
        | (have hq := eo_put (L := L) (e := .mk xk (.mk xvk xvn xvt xvl) xs xc xp) (n := L.length + 1) (cap := cap) (Y := .arr 33 8 cap ((Exp.cvs L).take L.length ++ [zE] ++ (Exp.cvs L).drop (L.length + 1))) (xs := ((Exp.cvs L).take L.length ++ [zE] ++ (Exp.cvs L).drop (L.length + 1)).set L.length (Exp.cv (.mk xk (.mk xvk xvn xvt xvl) xs xc xp))) i3 i4 i7 i6 (set_in rfl) rfl
           have hq2 := eo_put2 (L := L) (e := .mk xk (.mk xvk xvn xvt xvl) xs xc xp) (n := L.length + 1) (cap := cap) (Y := .arr 33 8 cap ((Exp.cvs L).take L.length ++ [zE] ++ (Exp.cvs L).drop (L.length + 1))) (xs := ((Exp.cvs L).take L.length ++ [zE] ++ (Exp.cvs L).drop (L.length + 1)).set L.length (Exp.cv (.mk xk (.mk xvk xvn xvt xvl) xs xc xp))) i3 i4 i7 i6 (set_in rfl) rfl
           first
             | (refine hK3 ⟨i + 1, _, _⟩ _ _ ⟨by dsimp only; omega, hq, i3T⟩ (by dsimp only; omega) ?_
                (refine ⟨rfl, ?_, ?_, Sub.refl _⟩ <;> repeat' (first | exact EnvLe.nil | exact LocsLe.nil | refine EnvLe.cons _ _ _ ?_ ?_ | refine LocsLe.cons _ _ _ ?_ ?_ | exact CVle.same _ rfl | exact CVle.vec _ _ | exact CVle.nil | exact CVle.tok _ _ _ rfl rfl | exact ObLe.tok _ _ rfl | exact CVles.nil | refine CVles.cons ?_ ?_ | exact ObLe.same _ rfl rfl | refine ObLe.cells rfl ?_))
                done)
             | (refine hK3 ⟨i + 1, _, _⟩ _ _ ⟨by dsimp only; omega, hq2, i3T⟩ (by dsimp only; omega) ?_
                (refine ⟨rfl, ?_, ?_, Sub.refl _⟩ <;> repeat' (first | exact EnvLe.nil | exact LocsLe.nil | refine EnvLe.cons _ _ _ ?_ ?_ | refine LocsLe.cons _ _ _ ?_ ?_ | exact CVle.same _ rfl | exact CVle.vec _ _ | exact CVle.nil | exact CVle.tok _ _ _ rfl rfl | exact ObLe.tok _ _ rfl | exact CVles.nil | refine CVles.cons ?_ ?_ | exact ObLe.same _ rfl rfl | refine ObLe.cells rfl ?_))
                done))
        | (have fr := eo_fr i3 i8 hl2
           have hp := eo_put (L := L) (e := .mk xk (.mk xvk xvn xvt xvl) xs xc xp) (n := L.length + 1) (cap := cap2) (Y := .arr 33 8 cap2 ((Exp.cvs L).take L.length ++ [zE])) (xs := ((Exp.cvs L).take L.length ++ [zE]).set L.length (Exp.cv (.mk xk (.mk xvk xvn xvt xvl) xs xc xp))) i3 i4 fr.1 fr.2 (set_new rfl) rfl
           have hp2 := eo_put2 (L := L) (e := .mk xk (.mk xvk xvn xvt xvl) xs xc xp) (n := L.length + 1) (cap := cap2) (Y := .arr 33 8 cap2 ((Exp.cvs L).take L.length ++ [zE])) (xs := ((Exp.cvs L).take L.length ++ [zE]).set L.length (Exp.cv (.mk xk (.mk xvk xvn xvt xvl) xs xc xp))) i3 i4 fr.1 fr.2 (set_new rfl) rfl
           first
             | (refine hK3 ⟨i + 1, _, _⟩ _ _ ⟨by dsimp only; omega, hp, i3T⟩ (by dsimp only; omega) ?_
                (refine ⟨rfl, ?_, ?_, Sub.refl _⟩ <;> repeat' (first | exact EnvLe.nil | exact LocsLe.nil | refine EnvLe.cons _ _ _ ?_ ?_ | refine LocsLe.cons _ _ _ ?_ ?_ | exact CVle.same _ rfl | exact CVle.vec _ _ | exact CVle.nil | exact CVle.tok _ _ _ rfl rfl | exact ObLe.tok _ _ rfl | exact CVles.nil | refine CVles.cons ?_ ?_ | exact ObLe.same _ rfl rfl | refine ObLe.cells rfl ?_))
                done)
             | (refine hK3 ⟨i + 1, _, _⟩ _ _ ⟨by dsimp only; omega, hp2, i3T⟩ (by dsimp only; omega) ?_
                (refine ⟨rfl, ?_, ?_, Sub.refl _⟩ <;> repeat' (first | exact EnvLe.nil | exact LocsLe.nil | refine EnvLe.cons _ _ _ ?_ ?_ | refine LocsLe.cons _ _ _ ?_ ?_ | exact CVle.same _ rfl | exact CVle.vec _ _ | exact CVle.nil | exact CVle.tok _ _ _ rfl rfl | exact ObLe.tok _ _ rfl | exact CVles.nil | refine CVles.cons ?_ ?_ | exact ObLe.same _ rfl rfl | refine ObLe.cells rfl ?_))
                done))
  clear hK3
  rw [show (is.drop i).map It.e = [] by rw [List.drop_eq_nil_of_le (by omega)]; rfl, List.nil_append] at j2
  conv => whnf
  repeat' (first | refine OrdN.go ?_ | refine Fork.yp ?_ | refine Fork.np ?_ | refine Fork.ny ?_ | refine Fork.nn ?_ | refine Fork.yb ?_ | refine Fork.nb ?_ | refine Fork.dp (fun h => ?_) (fun h => ?_) | refine Fork.dn (fun h => ?_) (fun h => ?_) | (refine Fork.mk (fun h => ?_) (fun h => ?_) <;> simp only [decide_eq_true_eq, decide_eq_false_iff_not, Bool.not_eq_true', Bool.not_eq_false', Bool.or_eq_true, Bool.or_eq_false_iff] at h) | refine GetN.go ?_ | refine Need.ap1 ?_ | refine Need.ap0 ?_ | refine Need.go ?_ | refine Need.draw ?_ | refine ElemN.go ?_ | refine ExtN.ext ?_ | refine ExtN.wr ?_ | refine AllocN.go (fun l hl => ?_) | refine finGo ?_) <;> try (conv => whnf)
  refine LoopN.rule (α := ESt) (fun a => ⟨84, [(1, .ptr (.f 1) 0), (3, .ptr (.g lo) 0), (69, .vec (tgs ts)), (70, i64 (tgs ts).length), (71, i64 a.i)], [(1, .cells [i64 k, .vec (pths ps), i64 ek, i64 vk, i64 vn, .sc (.string vt), .vec (Val.cvs vl), .sc (.string es), .sc (.string ec), .vec (Exp.cvs ep), .sc (.string n), .vec (its is), .sc (.bool di), .vec (ods os), i64 sk, i64 li, .vec (tgs ts), .vec (sts ns), .sc (.bool de)])]⟩) (fun a => a.s) (fun a => ts.length - a.i) (fun a => a.i ≤ ts.length ∧ EO σ a.s lo a.L ∧ a.L ++ ((ts.drop a.i).map Tg.e) = T) ?_ ⟨0, s, L⟩ ⟨by simp, i2, j2⟩ ?_
  rotate_left
  · (refine ⟨rfl, ?_, ?_, Sub.refl _⟩ <;> repeat' (first | exact EnvLe.nil | exact LocsLe.nil | refine EnvLe.cons _ _ _ ?_ ?_ | refine LocsLe.cons _ _ _ ?_ ?_ | exact CVle.same _ rfl | exact CVle.vec _ _ | exact CVle.nil | exact CVle.tok _ _ _ rfl rfl | exact ObLe.tok _ _ rfl | exact CVles.nil | refine CVles.cons ?_ ?_ | exact ObLe.same _ rfl rfl | refine ObLe.cells rfl ?_))
  clear i1 i2 j2 b2 hi
  clear K3 L s i
  rintro ⟨i, s, L⟩ K4 ⟨i1, i2, j2⟩ hK4
  dsimp only at i1 i2 j2 ⊢
  have b2 := part_len j2 hT
  by_cases hi : i < ts.length
  · obtain ⟨xn, xy, xk, xvk, xvn, xvt, xvl, xs, xc, xp, hx, hd⟩ := tgs_at' hi
    rw [hd] at j2
    have i3T := snoc_T j2
    obtain ⟨i3, i4, (⟨i5, i6⟩ | ⟨la, cap, i5, i6, i7, i8, i9⟩)⟩ := i2
    · subst i5
      conv => whnf
      repeat' (first | (refine AndN.mk ?_ ?_) | (refine needTail ?_) | (refine GetN.go ?_ (h := i6)) | (refine ElemN.go ?_ (h := hx)) | (refine AllocC.go (fun l2 cap2 hl2 hcap2 => ?_)) | (refine Need.mk ⟨by simp only [List.length_cons, List.length_nil]; omega, by simp only [List.length_cons, List.length_nil]; omega, ElsOk.one rfl rfl⟩ ?_) | (refine ExtN.ext ?_) | (refine GetN.go ?_ (h := got2 i6 ‹_›)) | (refine GetN.go ?_ (h := gotB i6 ‹_›)) | (refine GetN.go ?_ (h := got3 (fun e => by subst e; rw [i6] at hl2; cases hl2))) | refine OrdN.go ?_ | refine Fork.yp ?_ | refine Fork.np ?_ | refine Fork.ny ?_ | refine Fork.nn ?_ | refine Fork.yb ?_ | refine Fork.nb ?_ | refine Fork.dp (fun h => ?_) (fun h => ?_) | refine Fork.dn (fun h => ?_) (fun h => ?_) | (refine Fork.mk (fun h => ?_) (fun h => ?_) <;> simp only [decide_eq_true_eq, decide_eq_false_iff_not, Bool.not_eq_true', Bool.not_eq_false', Bool.or_eq_true, Bool.or_eq_false_iff] at h) | refine GetN.go ?_ | refine Need.ap1 ?_ | refine Need.ap0 ?_ | refine Need.go ?_ | refine Need.draw ?_ | refine ElemN.go ?_ | refine ExtN.ext ?_ | refine ExtN.wr ?_ | refine AllocN.go (fun l hl => ?_) | refine finGo ?_) <;> try (conv => whnf)
      all_goals
        have fr := eo_fr i3 i6 hl2
        have hq := eo_put (L := []) (e := .mk xk (.mk xvk xvn xvt xvl) xs xc xp) (n := 1) (cap := cap2) (Y := .arr 33 8 cap2 [zE]) (xs := [Exp.cv (.mk xk (.mk xvk xvn xvt xvl) xs xc xp)]) i3 i4 fr.1 fr.2 rfl rfl
        have hq2 := eo_put2 (L := []) (e := .mk xk (.mk xvk xvn xvt xvl) xs xc xp) (n := 1) (cap := cap2) (Y := .arr 33 8 cap2 [zE]) (xs := [Exp.cv (.mk xk (.mk xvk xvn xvt xvl) xs xc xp)]) i3 i4 fr.1 fr.2 rfl rfl
        first
          | (refine hK4 ⟨i + 1, _, _⟩ _ _ ⟨by dsimp only; omega, hq, i3T⟩ (by dsimp only; omega) ?_
             (refine ⟨rfl, ?_, ?_, Sub.refl _⟩ <;> repeat' (first | exact EnvLe.nil | exact LocsLe.nil | refine EnvLe.cons _ _ _ ?_ ?_ | refine LocsLe.cons _ _ _ ?_ ?_ | exact CVle.same _ rfl | exact CVle.vec _ _ | exact CVle.nil | exact CVle.tok _ _ _ rfl rfl | exact ObLe.tok _ _ rfl | exact CVles.nil | refine CVles.cons ?_ ?_ | exact ObLe.same _ rfl rfl | refine ObLe.cells rfl ?_))
             done)
          | (refine hK4 ⟨i + 1, _, _⟩ _ _ ⟨by dsimp only; omega, hq2, i3T⟩ (by dsimp only; omega) ?_
             (refine ⟨rfl, ?_, ?_, Sub.refl _⟩ <;> repeat' (first | exact EnvLe.nil | exact LocsLe.nil | refine EnvLe.cons _ _ _ ?_ ?_ | refine LocsLe.cons _ _ _ ?_ ?_ | exact CVle.same _ rfl | exact CVle.vec _ _ | exact CVle.nil | exact CVle.tok _ _ _ rfl rfl | exact ObLe.tok _ _ rfl | exact CVles.nil | refine CVles.cons ?_ ?_ | exact ObLe.same _ rfl rfl | refine ObLe.cells rfl ?_))
             done)
    · have e6 := ecvs_length L
      conv => whnf
      repeat' (first | (refine AndN.mk ?_ ?_) | (refine needTail ?_) | (refine GetN.go ?_ (h := i8)) | (refine GetN.go ?_ (h := i9)) | (refine ElemN.go ?_ (h := hx)) | (refine AllocC.go (fun l2 cap2 hl2 hcap2 => ?_)) | (refine Need.mk ⟨rfl, by omega, by simp only [List.length_cons, List.length_nil]; omega, by simp only [List.length_cons, List.length_nil]; omega, ElsOk.one rfl rfl⟩ ?_) | (refine ExtN.ext ?_) | (refine GetN.go ?_ (h := got2 i8 ‹_›)) | (refine GetN.go ?_ (h := gotB i8 ‹_›)) | (refine GetN.go ?_ (h := got3 (fun e => by subst e; rw [i8] at hl2; cases hl2))) | (refine GetN.go ?_ (h := got2c i6 i8)) | (refine GetN.go ?_ (h := gotC i6 i8)) | (refine GetN.go ?_ (h := got3 i6)) | (refine ElemN.go ?_ (h := at_in)) | (refine ElemN.go ?_ (h := at_new)) | refine OrdN.go ?_ | refine Fork.yp ?_ | refine Fork.np ?_ | refine Fork.ny ?_ | refine Fork.nn ?_ | refine Fork.yb ?_ | refine Fork.nb ?_ | refine Fork.dp (fun h => ?_) (fun h => ?_) | refine Fork.dn (fun h => ?_) (fun h => ?_) | (refine Fork.mk (fun h => ?_) (fun h => ?_) <;> simp only [decide_eq_true_eq, decide_eq_false_iff_not, Bool.not_eq_true', Bool.not_eq_false', Bool.or_eq_true, Bool.or_eq_false_iff] at h) | refine GetN.go ?_ | refine Need.ap1 ?_ | refine Need.ap0 ?_ | refine Need.go ?_ | refine Need.draw ?_ | refine ElemN.go ?_ | refine ExtN.ext ?_ | refine ExtN.wr ?_ | refine AllocN.go (fun l hl => ?_) | refine finGo ?_) <;> try (conv => whnf)
      all_goals first
        | (have hq := eo_put (L := L) (e := .mk xk (.mk xvk xvn xvt xvl) xs xc xp) (n := L.length + 1) (cap := cap) (Y := .arr 33 8 cap ((Exp.cvs L).take L.length ++ [zE] ++ (Exp.cvs L).drop (L.length + 1))) (xs := ((Exp.cvs L).take L.length ++ [zE] ++ (Exp.cvs L).drop (L.length + 1)).set L.length (Exp.cv (.mk xk (.mk xvk xvn xvt xvl) xs xc xp))) i3 i4 i7 i6 (set_in rfl) rfl
           have hq2 := eo_put2 (L := L) (e := .mk xk (.mk xvk xvn xvt xvl) xs xc xp) (n := L.length + 1) (cap := cap) (Y := .arr 33 8 cap ((Exp.cvs L).take L.length ++ [zE] ++ (Exp.cvs L).drop (L.length + 1))) (xs := ((Exp.cvs L).take L.length ++ [zE] ++ (Exp.cvs L).drop (L.length + 1)).set L.length (Exp.cv (.mk xk (.mk xvk xvn xvt xvl) xs xc xp))) i3 i4 i7 i6 (set_in rfl) rfl
           first
             | (refine hK4 ⟨i + 1, _, _⟩ _ _ ⟨by dsimp only; omega, hq, i3T⟩ (by dsimp only; omega) ?_
                (refine ⟨rfl, ?_, ?_, Sub.refl _⟩ <;> repeat' (first | exact EnvLe.nil | exact LocsLe.nil | refine EnvLe.cons _ _ _ ?_ ?_ | refine LocsLe.cons _ _ _ ?_ ?_ | exact CVle.same _ rfl | exact CVle.vec _ _ | exact CVle.nil | exact CVle.tok _ _ _ rfl rfl | exact ObLe.tok _ _ rfl | exact CVles.nil | refine CVles.cons ?_ ?_ | exact ObLe.same _ rfl rfl | refine ObLe.cells rfl ?_))
                done)
             | (refine hK4 ⟨i + 1, _, _⟩ _ _ ⟨by dsimp only; omega, hq2, i3T⟩ (by dsimp only; omega) ?_
                (refine ⟨rfl, ?_, ?_, Sub.refl _⟩ <;> repeat' (first | exact EnvLe.nil | exact LocsLe.nil | refine EnvLe.cons _ _ _ ?_ ?_ | refine LocsLe.cons _ _ _ ?_ ?_ | exact CVle.same _ rfl | exact CVle.vec _ _ | exact CVle.nil | exact CVle.tok _ _ _ rfl rfl | exact ObLe.tok _ _ rfl | exact CVles.nil | refine CVles.cons ?_ ?_ | exact ObLe.same _ rfl rfl | refine ObLe.cells rfl ?_))
                done))
        | (have fr := eo_fr i3 i8 hl2
           have hp := eo_put (L := L) (e := .mk xk (.mk xvk xvn xvt xvl) xs xc xp) (n := L.length + 1) (cap := cap2) (Y := .arr 33 8 cap2 ((Exp.cvs L).take L.length ++ [zE])) (xs := ((Exp.cvs L).take L.length ++ [zE]).set L.length (Exp.cv (.mk xk (.mk xvk xvn xvt xvl) xs xc xp))) i3 i4 fr.1 fr.2 (set_new rfl) rfl
           have hp2 := eo_put2 (L := L) (e := .mk xk (.mk xvk xvn xvt xvl) xs xc xp) (n := L.length + 1) (cap := cap2) (Y := .arr 33 8 cap2 ((Exp.cvs L).take L.length ++ [zE])) (xs := ((Exp.cvs L).take L.length ++ [zE]).set L.length (Exp.cv (.mk xk (.mk xvk xvn xvt xvl) xs xc xp))) i3 i4 fr.1 fr.2 (set_new rfl) rfl
           first
             | (refine hK4 ⟨i + 1, _, _⟩ _ _ ⟨by dsimp only; omega, hp, i3T⟩ (by dsimp only; omega) ?_
                (refine ⟨rfl, ?_, ?_, Sub.refl _⟩ <;> repeat' (first | exact EnvLe.nil | exact LocsLe.nil | refine EnvLe.cons _ _ _ ?_ ?_ | refine LocsLe.cons _ _ _ ?_ ?_ | exact CVle.same _ rfl | exact CVle.vec _ _ | exact CVle.nil | exact CVle.tok _ _ _ rfl rfl | exact ObLe.tok _ _ rfl | exact CVles.nil | refine CVles.cons ?_ ?_ | exact ObLe.same _ rfl rfl | refine ObLe.cells rfl ?_))
                done)
             | (refine hK4 ⟨i + 1, _, _⟩ _ _ ⟨by dsimp only; omega, hp2, i3T⟩ (by dsimp only; omega) ?_
                (refine ⟨rfl, ?_, ?_, Sub.refl _⟩ <;> repeat' (first | exact EnvLe.nil | exact LocsLe.nil | refine EnvLe.cons _ _ _ ?_ ?_ | refine LocsLe.cons _ _ _ ?_ ?_ | exact CVle.same _ rfl | exact CVle.vec _ _ | exact CVle.nil | exact CVle.tok _ _ _ rfl rfl | exact ObLe.tok _ _ rfl | exact CVles.nil | refine CVles.cons ?_ ?_ | exact ObLe.same _ rfl rfl | refine ObLe.cells rfl ?_))
                done))
  · rw [show (ts.drop i).map Tg.e = [] by rw [List.drop_eq_nil_of_le (by omega)]; rfl, List.append_nil] at j2
    subst j2
    obtain ⟨i3, i4, (⟨i5, i6⟩ | ⟨la, cap, i5, i6, i7, i8, i9⟩)⟩ := i2
    · conv => whnf
      repeat' (first | (refine GetN.go ?_ (h := i6)) | refine OrdN.go ?_ | refine Fork.yp ?_ | refine Fork.np ?_ | refine Fork.ny ?_ | refine Fork.nn ?_ | refine Fork.yb ?_ | refine Fork.nb ?_ | refine Fork.dp (fun h => ?_) (fun h => ?_) | refine Fork.dn (fun h => ?_) (fun h => ?_) | (refine Fork.mk (fun h => ?_) (fun h => ?_) <;> simp only [decide_eq_true_eq, decide_eq_false_iff_not, Bool.not_eq_true', Bool.not_eq_false', Bool.or_eq_true, Bool.or_eq_false_iff] at h) | refine GetN.go ?_ | refine Need.ap1 ?_ | refine Need.ap0 ?_ | refine Need.go ?_ | refine Need.draw ?_ | refine ElemN.go ?_ | refine ExtN.ext ?_ | refine ExtN.wr ?_ | refine AllocN.go (fun l hl => ?_) | refine finGo ?_) <;> try (conv => whnf)
      exact .inl ⟨i5, s, i3, rfl⟩
    · conv => whnf
      repeat' (first | (refine GetN.go ?_ (h := i8)) | refine OrdN.go ?_ | refine Fork.yp ?_ | refine Fork.np ?_ | refine Fork.ny ?_ | refine Fork.nn ?_ | refine Fork.yb ?_ | refine Fork.nb ?_ | refine Fork.dp (fun h => ?_) (fun h => ?_) | refine Fork.dn (fun h => ?_) (fun h => ?_) | (refine Fork.mk (fun h => ?_) (fun h => ?_) <;> simp only [decide_eq_true_eq, decide_eq_false_iff_not, Bool.not_eq_true', Bool.not_eq_false', Bool.or_eq_true, Bool.or_eq_false_iff] at h) | refine GetN.go ?_ | refine Need.ap1 ?_ | refine Need.ap0 ?_ | refine Need.go ?_ | refine Need.draw ?_ | refine ElemN.go ?_ | refine ExtN.ext ?_ | refine ExtN.wr ?_ | refine AllocN.go (fun l hl => ?_) | refine finGo ?_) <;> try (conv => whnf)
      exact .inr ⟨la, cap, s, i3, i7, i9, rfl⟩
end Go.Proofs.YthllnbfkfobcjaaGreat
namespace Go.Proofs.YthllnbfkfobcjaaGreat
open Go Go.CL
def gOf (l : List Exp) : List ByteArray := givesOf ((l.map subsE).flatten)
theorem gOf_cons (e : Exp) (r : List Exp) : gOf (e :: r) = givesOf (subsE e) ++ gOf r := by simp [gOf, givesOf_app]
theorem gOf_app (a b : List Exp) : gOf (a ++ b) = gOf a ++ gOf b := by simp [gOf, givesOf_app]
def gC (l : List Cl) : List ByteArray := gOf ((l.map exprsI).flatten)
theorem gC_cons (c : Cl) (r : List Cl) : gC (c :: r) = gOf (exprsI c) ++ gC r := by simp [gC, gOf_app]
end Go.Proofs.YthllnbfkfobcjaaGreat
