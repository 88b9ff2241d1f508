/-
  Contracts of the functions that the law reaches.
-/
import Derived.Test.YthllnbfkfobcjaaGreatGPa
set_option linter.unusedVariables false
set_option linter.unusedSimpArgs false
namespace Go.Proofs.YthllnbfkfobcjaaGreat
open Go Go.CL
set_option maxRecDepth 10000
def spEs (s : Sp) : List Exp := s.props.map Pt.e
def hpEs (h : Hp) : List Exp := spEs h.spot
def pthEs (p : Pth) : List Exp := spEs p.spot ++ (p.hops.map hpEs).flatten
def pathsE (l : List Pth) : List Exp := (l.map pthEs).flatten
def hopsE (l : List Hp) : List Exp := (l.map hpEs).flatten
def exprsS (c : Cl) : List Exp := c.e :: (pathsE c.paths ++ (c.items.map It.e ++ c.tos.map Tg.e))
theorem drop_at {α : Type} {l : List α} {i : Nat} {x : α} (h : l[i]? = some x) : l.drop i = x :: l.drop (i + 1) := by
  obtain ⟨hi, rfl⟩ := List.getElem?_eq_some_iff.1 h
  exact List.drop_eq_getElem_cons hi
theorem pths_at {l : List Pth} {i : Nat} (hi : i < l.length) : ∃ sn sl pr hs, l[i]? = some ⟨⟨sn, sl, pr⟩, hs⟩ ∧ (pths l)[i]? = some (.agg [.sc (.string sn), .sc (.string sl), .vec (pts pr), .vec (hps hs)]) ∧ pathsE (l.drop i) = pr.map Pt.e ++ (hopsE hs ++ pathsE (l.drop (i + 1))) := by
  rcases h : l[i] with ⟨⟨sn, sl, pr⟩, hs⟩
  refine ⟨sn, sl, pr, hs, by rw [List.getElem?_eq_getElem hi, h], ?_, ?_⟩
  · unfold pths; rw [List.getElem?_map, List.getElem?_eq_getElem hi, h]; rfl
  · rw [drop_at (by rw [List.getElem?_eq_getElem hi, h])]; simp [pathsE, pthEs, spEs, hopsE]
theorem hps_at' {l : List Hp} {i : Nat} (hi : i < l.length) : ∃ hn hk hw sn sl pr, l[i]? = some ⟨hn, hk, hw, ⟨sn, sl, pr⟩⟩ ∧ (hps l)[i]? = some (.agg [.sc (.string hn), .sc (.string hk), i64 hw, .sc (.string sn), .sc (.string sl), .vec (pts pr)]) ∧ hopsE (l.drop i) = pr.map Pt.e ++ hopsE (l.drop (i + 1)) := by
  rcases h : l[i] with ⟨hn, hk, hw, ⟨sn, sl, pr⟩⟩
  refine ⟨hn, hk, hw, sn, sl, pr, by rw [List.getElem?_eq_getElem hi, h], ?_, ?_⟩
  · unfold hps; rw [List.getElem?_map, List.getElem?_eq_getElem hi, h]; rfl
  · rw [drop_at (by rw [List.getElem?_eq_getElem hi, h])]; simp [hopsE, hpEs, spEs]
theorem pts_at' {l : List Pt} {i : Nat} (hi : i < l.length) : ∃ t k vk vn vt vl s c ps, (pts l)[i]? = some (.agg [.sc (.string t), i64 k, i64 vk, i64 vn, .sc (.string vt), .vec (Val.cvs vl), .sc (.string s), .sc (.string c), .vec (Exp.cvs ps)]) ∧ (l.drop i).map Pt.e = .mk k (.mk vk vn vt vl) s c ps :: (l.drop (i + 1)).map Pt.e := by
  obtain ⟨t, k, vk, vn, vt, vl, s, c, ps, h1, h2, -⟩ := pts_get hi
  exact ⟨t, k, vk, vn, vt, vl, s, c, ps, h2, by rw [drop_at h1]; rfl⟩
theorem its_at' {l : List It} {i : Nat} (hi : i < l.length) : ∃ k vk vn vt vl s c ps n, (its l)[i]? = some (.agg [i64 k, i64 vk, i64 vn, .sc (.string vt), .vec (Val.cvs vl), .sc (.string s), .sc (.string c), .vec (Exp.cvs ps), .sc (.string n)]) ∧ (l.drop i).map It.e = .mk k (.mk vk vn vt vl) s c ps :: (l.drop (i + 1)).map It.e := by
  rcases h : l[i] with ⟨⟨k, ⟨vk, vn, vt, vl⟩, s, c, ps⟩, n⟩
  refine ⟨k, vk, vn, vt, vl, s, c, ps, n, ?_, ?_⟩
  · unfold its; rw [List.getElem?_map, List.getElem?_eq_getElem hi, h]; rfl
  · rw [drop_at (by rw [List.getElem?_eq_getElem hi, h])]; rfl
theorem tgs_at' {l : List Tg} {i : Nat} (hi : i < l.length) : ∃ n y k vk vn vt vl s c ps, (tgs l)[i]? = some (.agg [.sc (.string n), .sc (.string y), i64 k, i64 vk, i64 vn, .sc (.string vt), .vec (Val.cvs vl), .sc (.string s), .sc (.string c), .vec (Exp.cvs ps)]) ∧ (l.drop i).map Tg.e = .mk k (.mk vk vn vt vl) s c ps :: (l.drop (i + 1)).map Tg.e := by
  rcases h : l[i] with ⟨n, y, ⟨k, ⟨vk, vn, vt, vl⟩, s, c, ps⟩⟩
  refine ⟨n, y, k, vk, vn, vt, vl, s, c, ps, ?_, ?_⟩
  · unfold tgs; rw [List.getElem?_map, List.getElem?_eq_getElem hi, h]; rfl
  · rw [drop_at (by rw [List.getElem?_eq_getElem hi, h])]; rfl
theorem part_len {a b T : List Exp} (h : a ++ b = T) (hT : T.length ≤ 100000) : a.length ≤ 100000 := by
  rw [← h, List.length_append] at hT; omega
theorem snoc_T {a r T : List Exp} {e : Exp} (h : a ++ (e :: r) = T) : (a ++ [e]) ++ r = T := by rw [← h]; simp
set_option maxHeartbeats 4000000 in
theorem l5Exprs_c {σ : Heap} {c : Cl} (hs : ClT c) (hT : (exprsS c).length ≤ 100000) : CRun Tryz.prog 64 [c.cv] σ (· = .ret (.vec (Exp.cvs (exprsS c))) σ) := by
  obtain ⟨k, ps, ⟨ek, ⟨vk, vn, vt, vl⟩, es, ec, ep⟩, n, is, di, os, sk, li, ts, ns, de⟩ := c
  obtain ⟨-, hp1, hp2, -, -, hi1, -, -, -, -, -, ht1, -, -, -⟩ := hs
  dsimp only at hp1 hp2 hi1 ht1
  have a1 := pths_len ps
  have a2 := its_len is
  have a3 := tgs_len ts
  have hE : exprsS ⟨k, ps, ⟨ek, ⟨vk, vn, vt, vl⟩, es, ec, ep⟩, n, is, di, os, sk, li, ts, ns, de⟩ = .mk ek (.mk vk vn vt vl) es ec ep :: (pathsE ps ++ (is.map It.e ++ ts.map Tg.e)) := rfl
  generalize hTT : exprsS ⟨k, ps, ⟨ek, ⟨vk, vn, vt, vl⟩, es, ec, ep⟩, n, is, di, os, sk, li, ts, ns, de⟩ = T at hE hT ⊢
  clear hTT
  have sn1 : ∀ (a : List Exp) (k vk vn : Int) (vt : ByteArray) (vl : List Val) (s c : ByteArray) (ps : List Exp), Exp.cvs (a ++ [.mk k (.mk vk vn vt vl) s c ps]) = Exp.cvs a ++ [.agg [i64 k, i64 vk, i64 vn, .sc (.string vt), .vec (Val.cvs vl), .sc (.string s), .sc (.string c), .vec (Exp.cvs ps)]] := fun a k vk vn vt vl s c ps => ecvs_snoc a _
  refine crun_of (X := X) X_ok X_sat (body := bodyOf Tryz.f64) Tryz.func64 rfl (by kernel_rfl) (by kernel_rfl) ?_
  rw [Tryz.ntmps64]
  conv => whnf
  repeat' (first | refine OrdN.one ?_ | refine Fork.yp ?_ | refine Fork.np ?_ | refine Fork.ny ?_ | refine Fork.nn ?_ | refine Fork.yb ?_ | refine Fork.nb ?_ | refine Fork.dp (fun h => ?_) (fun h => ?_) | refine Fork.dn (fun h => ?_) (fun h => ?_) | (refine Fork.mk (fun h => ?_) (fun h => ?_) <;> simp only [decide_eq_true_eq, decide_eq_false_iff_not, Bool.not_eq_true', Bool.not_eq_false', Bool.or_eq_true, Bool.or_eq_false_iff] at h) | refine GetN.go ?_ | refine Need.ap1 ?_ | refine Need.ap0 ?_ | refine Need.go ?_ | refine Need.draw ?_ | refine ElemN.go ?_ | refine ExtN.ext ?_ | refine ExtN.wr ?_ | refine AllocN.go (fun l hl => ?_) | refine finGo ?_) <;> try (conv => whnf)
  refine LoopN.rule (α := Nat × List Exp) (fun a => ⟨124, [(1, .ptr (.f 1) 0), (3, .avec 12 (Exp.cvs a.2)), (4, i64 a.1)], [(1, .cells [i64 k, .vec (pths ps), i64 ek, i64 vk, i64 vn, .sc (.string vt), .vec (Val.cvs vl), .sc (.string es), .sc (.string ec), .vec (Exp.cvs ep), .sc (.string n), .vec (its is), .sc (.bool di), .vec (ods os), i64 sk, i64 li, .vec (tgs ts), .vec (sts ns), .sc (.bool de)]), (12, .tok 33 8 (Exp.cvs a.2).length)]⟩) (fun _ => σ) (fun a => ps.length - a.1) (fun a => a.1 ≤ ps.length ∧ a.2 ++ (pathsE (ps.drop a.1) ++ (is.map It.e ++ ts.map Tg.e)) = T) ?_ (0, [.mk ek (.mk vk vn vt vl) es ec ep]) ⟨by simp, hE.symm⟩ ?_
  rotate_left
  · (refine ⟨rfl, ?_, ?_, Sub.refl _⟩ <;> repeat' (first | exact EnvLe.nil | exact LocsLe.nil | refine EnvLe.cons _ _ _ ?_ ?_ | refine LocsLe.cons _ _ _ ?_ ?_ | exact CVle.same _ rfl | exact CVle.vec _ _ | exact CVle.nil | exact CVle.tok _ _ _ rfl rfl | exact ObLe.tok _ _ rfl | exact CVles.nil | refine CVles.cons ?_ ?_ | exact ObLe.same _ rfl rfl | refine ObLe.cells rfl ?_))
  rintro ⟨i, L⟩ K1 ⟨i1, i2⟩ hK1
  dsimp only at i1 i2 ⊢
  have b1 := ecvs_length L
  have b2 := part_len i2 hT
  by_cases hi : i < ps.length
  case neg =>
    clear hK1
    rw [show pathsE (ps.drop i) = [] by rw [List.drop_eq_nil_of_le (by omega)]; rfl, List.nil_append] at i2
    conv => whnf
    repeat' (first | refine OrdN.one ?_ | refine Fork.yp ?_ | refine Fork.np ?_ | refine Fork.ny ?_ | refine Fork.nn ?_ | refine Fork.yb ?_ | refine Fork.nb ?_ | refine Fork.dp (fun h => ?_) (fun h => ?_) | refine Fork.dn (fun h => ?_) (fun h => ?_) | (refine Fork.mk (fun h => ?_) (fun h => ?_) <;> simp only [decide_eq_true_eq, decide_eq_false_iff_not, Bool.not_eq_true', Bool.not_eq_false', Bool.or_eq_true, Bool.or_eq_false_iff] at h) | refine GetN.go ?_ | refine Need.ap1 ?_ | refine Need.ap0 ?_ | refine Need.go ?_ | refine Need.draw ?_ | refine ElemN.go ?_ | refine ExtN.ext ?_ | refine ExtN.wr ?_ | refine AllocN.go (fun l hl => ?_) | refine finGo ?_) <;> try (conv => whnf)
    refine LoopN.rule (α := Nat × List Exp) (fun a => ⟨124, [(1, .ptr (.f 1) 0), (3, .avec 12 (Exp.cvs a.2)), (8, i64 a.1)], [(1, .cells [i64 k, .vec (pths ps), i64 ek, i64 vk, i64 vn, .sc (.string vt), .vec (Val.cvs vl), .sc (.string es), .sc (.string ec), .vec (Exp.cvs ep), .sc (.string n), .vec (its is), .sc (.bool di), .vec (ods os), i64 sk, i64 li, .vec (tgs ts), .vec (sts ns), .sc (.bool de)]), (12, .tok 33 8 (Exp.cvs a.2).length)]⟩) (fun _ => σ) (fun a => is.length - a.1) (fun a => a.1 ≤ is.length ∧ a.2 ++ ((is.drop a.1).map It.e ++ ts.map Tg.e) = T) ?_ (0, L) ⟨by simp, i2⟩ ?_
    rotate_left
    · (refine ⟨rfl, ?_, ?_, Sub.refl _⟩ <;> repeat' (first | exact EnvLe.nil | exact LocsLe.nil | refine EnvLe.cons _ _ _ ?_ ?_ | refine LocsLe.cons _ _ _ ?_ ?_ | exact CVle.same _ rfl | exact CVle.vec _ _ | exact CVle.nil | exact CVle.tok _ _ _ rfl rfl | exact ObLe.tok _ _ rfl | exact CVles.nil | refine CVles.cons ?_ ?_ | exact ObLe.same _ rfl rfl | refine ObLe.cells rfl ?_))
    rintro ⟨i, L⟩ K5 ⟨i1, i2⟩ hK5
    dsimp only at i1 i2 ⊢
    have b1 := ecvs_length L
    have b2 := part_len i2 hT
    by_cases hi : i < is.length
    case neg =>
      clear hK5
      rw [show (is.drop i).map It.e = [] by rw [List.drop_eq_nil_of_le (by omega)]; rfl, List.nil_append] at i2
      conv => whnf
      repeat' (first | refine OrdN.one ?_ | refine Fork.yp ?_ | refine Fork.np ?_ | refine Fork.ny ?_ | refine Fork.nn ?_ | refine Fork.yb ?_ | refine Fork.nb ?_ | refine Fork.dp (fun h => ?_) (fun h => ?_) | refine Fork.dn (fun h => ?_) (fun h => ?_) | (refine Fork.mk (fun h => ?_) (fun h => ?_) <;> simp only [decide_eq_true_eq, decide_eq_false_iff_not, Bool.not_eq_true', Bool.not_eq_false', Bool.or_eq_true, Bool.or_eq_false_iff] at h) | refine GetN.go ?_ | refine Need.ap1 ?_ | refine Need.ap0 ?_ | refine Need.go ?_ | refine Need.draw ?_ | refine ElemN.go ?_ | refine ExtN.ext ?_ | refine ExtN.wr ?_ | refine AllocN.go (fun l hl => ?_) | refine finGo ?_) <;> try (conv => whnf)
      refine LoopN.rule (α := Nat × List Exp) (fun a => ⟨124, [(1, .ptr (.f 1) 0), (3, .avec 12 (Exp.cvs a.2)), (9, i64 a.1)], [(1, .cells [i64 k, .vec (pths ps), i64 ek, i64 vk, i64 vn, .sc (.string vt), .vec (Val.cvs vl), .sc (.string es), .sc (.string ec), .vec (Exp.cvs ep), .sc (.string n), .vec (its is), .sc (.bool di), .vec (ods os), i64 sk, i64 li, .vec (tgs ts), .vec (sts ns), .sc (.bool de)]), (12, .tok 33 8 (Exp.cvs a.2).length)]⟩) (fun _ => σ) (fun a => ts.length - a.1) (fun a => a.1 ≤ ts.length ∧ a.2 ++ ((ts.drop a.1).map Tg.e) = T) ?_ (0, L) ⟨by simp, i2⟩ ?_
      rotate_left
      · (refine ⟨rfl, ?_, ?_, Sub.refl _⟩ <;> repeat' (first | exact EnvLe.nil | exact LocsLe.nil | refine EnvLe.cons _ _ _ ?_ ?_ | refine LocsLe.cons _ _ _ ?_ ?_ | exact CVle.same _ rfl | exact CVle.vec _ _ | exact CVle.nil | exact CVle.tok _ _ _ rfl rfl | exact ObLe.tok _ _ rfl | exact CVles.nil | refine CVles.cons ?_ ?_ | exact ObLe.same _ rfl rfl | refine ObLe.cells rfl ?_))
      rintro ⟨i, L⟩ K6 ⟨i1, i2⟩ hK6
      dsimp only at i1 i2 ⊢
      have b1 := ecvs_length L
      have b2 := part_len i2 hT
      by_cases hi : i < ts.length
      case neg =>
        rw [show (ts.drop i).map Tg.e = [] by rw [List.drop_eq_nil_of_le (by omega)]; rfl, List.append_nil] at i2
        subst i2
        conv => whnf
        repeat' (first | refine OrdN.one ?_ | refine Fork.yp ?_ | refine Fork.np ?_ | refine Fork.ny ?_ | refine Fork.nn ?_ | refine Fork.yb ?_ | refine Fork.nb ?_ | refine Fork.dp (fun h => ?_) (fun h => ?_) | refine Fork.dn (fun h => ?_) (fun h => ?_) | (refine Fork.mk (fun h => ?_) (fun h => ?_) <;> simp only [decide_eq_true_eq, decide_eq_false_iff_not, Bool.not_eq_true', Bool.not_eq_false', Bool.or_eq_true, Bool.or_eq_false_iff] at h) | refine GetN.go ?_ | refine Need.ap1 ?_ | refine Need.ap0 ?_ | refine Need.go ?_ | refine Need.draw ?_ | refine ElemN.go ?_ | refine ExtN.ext ?_ | refine ExtN.wr ?_ | refine AllocN.go (fun l hl => ?_) | refine finGo ?_) <;> try (conv => whnf)
        all_goals rfl
      obtain ⟨xn, xy, xk, xvk, xvn, xvt, xvl, xs, xc, xp, hx, hd⟩ := tgs_at' hi
      rw [hd] at i2
      have i3 := snoc_T i2
      have hK6 := hK6 (i + 1, L ++ [.mk xk (.mk xvk xvn xvt xvl) xs xc xp])
      dsimp only at hK6
      rw [sn1, List.length_append] at hK6
      conv => whnf
      repeat' (first | (refine Need.ap1 ?_ (h1 := by simp only []; omega)) | (refine ElemN.go ?_ (h := hx)) | refine OrdN.one ?_ | refine Fork.yp ?_ | refine Fork.np ?_ | refine Fork.ny ?_ | refine Fork.nn ?_ | refine Fork.yb ?_ | refine Fork.nb ?_ | refine Fork.dp (fun h => ?_) (fun h => ?_) | refine Fork.dn (fun h => ?_) (fun h => ?_) | (refine Fork.mk (fun h => ?_) (fun h => ?_) <;> simp only [decide_eq_true_eq, decide_eq_false_iff_not, Bool.not_eq_true', Bool.not_eq_false', Bool.or_eq_true, Bool.or_eq_false_iff] at h) | refine GetN.go ?_ | refine Need.ap1 ?_ | refine Need.ap0 ?_ | refine Need.go ?_ | refine Need.draw ?_ | refine ElemN.go ?_ | refine ExtN.ext ?_ | refine ExtN.wr ?_ | refine AllocN.go (fun l hl => ?_) | refine finGo ?_) <;> try (conv => whnf)
      refine hK6 _ _ ⟨by omega, i3⟩ (by omega) ?_
      (refine ⟨rfl, ?_, ?_, Sub.refl _⟩ <;> repeat' (first | exact EnvLe.nil | exact LocsLe.nil | refine EnvLe.cons _ _ _ ?_ ?_ | refine LocsLe.cons _ _ _ ?_ ?_ | exact CVle.same _ rfl | exact CVle.vec _ _ | exact CVle.nil | exact CVle.tok _ _ _ rfl rfl | exact ObLe.tok _ _ rfl | exact CVles.nil | refine CVles.cons ?_ ?_ | exact ObLe.same _ rfl rfl | refine ObLe.cells rfl ?_))
    obtain ⟨xk, xvk, xvn, xvt, xvl, xs, xc, xp, xn, hx, hd⟩ := its_at' hi
    rw [hd] at i2
    have i3 := snoc_T i2
    have hK5 := hK5 (i + 1, L ++ [.mk xk (.mk xvk xvn xvt xvl) xs xc xp])
    dsimp only at hK5
    rw [sn1, List.length_append] at hK5
    conv => whnf
    repeat' (first | (refine Need.ap1 ?_ (h1 := by simp only []; omega)) | (refine ElemN.go ?_ (h := hx)) | refine OrdN.one ?_ | refine Fork.yp ?_ | refine Fork.np ?_ | refine Fork.ny ?_ | refine Fork.nn ?_ | refine Fork.yb ?_ | refine Fork.nb ?_ | refine Fork.dp (fun h => ?_) (fun h => ?_) | refine Fork.dn (fun h => ?_) (fun h => ?_) | (refine Fork.mk (fun h => ?_) (fun h => ?_) <;> simp only [decide_eq_true_eq, decide_eq_false_iff_not, Bool.not_eq_true', Bool.not_eq_false', Bool.or_eq_true, Bool.or_eq_false_iff] at h) | refine GetN.go ?_ | refine Need.ap1 ?_ | refine Need.ap0 ?_ | refine Need.go ?_ | refine Need.draw ?_ | refine ElemN.go ?_ | refine ExtN.ext ?_ | refine ExtN.wr ?_ | refine AllocN.go (fun l hl => ?_) | refine finGo ?_) <;> try (conv => whnf)
    refine hK5 _ _ ⟨by omega, i3⟩ (by omega) ?_
    (refine ⟨rfl, ?_, ?_, Sub.refl _⟩ <;> repeat' (first | exact EnvLe.nil | exact LocsLe.nil | refine EnvLe.cons _ _ _ ?_ ?_ | refine LocsLe.cons _ _ _ ?_ ?_ | exact CVle.same _ rfl | exact CVle.vec _ _ | exact CVle.nil | exact CVle.tok _ _ _ rfl rfl | exact ObLe.tok _ _ rfl | exact CVles.nil | refine CVles.cons ?_ ?_ | exact ObLe.same _ rfl rfl | refine ObLe.cells rfl ?_))
  obtain ⟨sn, sl, pr, hs, hq, hx, hd⟩ := pths_at hi
  have hpt := hp2 _ (List.mem_of_getElem? hq)
  have a4 := pts_len pr
  have a5 := hps_len hs
  have hl4 : pr.length ≤ 1000 := hpt.s.k
  have hl5 : hs.length ≤ 1000 := hpt.k
  have hht := hpt.h
  clear hpt hq hp2
  rw [hd, List.append_assoc, List.append_assoc] at i2
  have hK1 := fun L => hK1 (i + 1, L)
  dsimp only at hK1
  generalize pathsE (ps.drop (i + 1)) ++ (is.map It.e ++ ts.map Tg.e) = R1 at i2 hK1
  conv => whnf
  repeat' (first | (refine ElemN.go ?_ (h := hx)) | refine OrdN.one ?_ | refine Fork.yp ?_ | refine Fork.np ?_ | refine Fork.ny ?_ | refine Fork.nn ?_ | refine Fork.yb ?_ | refine Fork.nb ?_ | refine Fork.dp (fun h => ?_) (fun h => ?_) | refine Fork.dn (fun h => ?_) (fun h => ?_) | (refine Fork.mk (fun h => ?_) (fun h => ?_) <;> simp only [decide_eq_true_eq, decide_eq_false_iff_not, Bool.not_eq_true', Bool.not_eq_false', Bool.or_eq_true, Bool.or_eq_false_iff] at h) | refine GetN.go ?_ | refine Need.ap1 ?_ | refine Need.ap0 ?_ | refine Need.go ?_ | refine Need.draw ?_ | refine ElemN.go ?_ | refine ExtN.ext ?_ | refine ExtN.wr ?_ | refine AllocN.go (fun l hl => ?_) | refine finGo ?_) <;> try (conv => whnf)
  refine LoopN.rule (α := Nat × List Exp) (fun a => ⟨124, [(1, .ptr (.f 1) 0), (3, .avec 12 (Exp.cvs a.2)), (4, i64 i), (5, i64 a.1)], [(1, .cells [i64 k, .vec (pths ps), i64 ek, i64 vk, i64 vn, .sc (.string vt), .vec (Val.cvs vl), .sc (.string es), .sc (.string ec), .vec (Exp.cvs ep), .sc (.string n), .vec (its is), .sc (.bool di), .vec (ods os), i64 sk, i64 li, .vec (tgs ts), .vec (sts ns), .sc (.bool de)]), (12, .tok 33 8 (Exp.cvs a.2).length)]⟩) (fun _ => σ) (fun a => pr.length - a.1) (fun a => a.1 ≤ pr.length ∧ a.2 ++ ((pr.drop a.1).map Pt.e ++ (hopsE hs ++ R1)) = T) ?_ (0, L) ⟨by simp, i2⟩ ?_
  rotate_left
  · (refine ⟨rfl, ?_, ?_, Sub.refl _⟩ <;> repeat' (first | exact EnvLe.nil | exact LocsLe.nil | refine EnvLe.cons _ _ _ ?_ ?_ | refine LocsLe.cons _ _ _ ?_ ?_ | exact CVle.same _ rfl | exact CVle.vec _ _ | exact CVle.nil | exact CVle.tok _ _ _ rfl rfl | exact ObLe.tok _ _ rfl | exact CVles.nil | refine CVles.cons ?_ ?_ | exact ObLe.same _ rfl rfl | refine ObLe.cells rfl ?_))
  rintro ⟨j, L⟩ K2 ⟨j1, j2⟩ hK2
  dsimp only at j1 j2 ⊢
  have b1 := ecvs_length L
  have b2 := part_len j2 hT
  by_cases hj : j < pr.length
  · obtain ⟨xt, xk, xvk, xvn, xvt, xvl, xs, xc, xp, hy, hd2⟩ := pts_at' hj
    rw [hd2] at j2
    have i3 := snoc_T j2
    have hK2 := hK2 (j + 1, L ++ [.mk xk (.mk xvk xvn xvt xvl) xs xc xp])
    dsimp only at hK2
    rw [sn1, List.length_append] at hK2
    conv => whnf
    repeat' (first | (refine Need.ap1 ?_ (h1 := by simp only []; omega)) | (refine ElemN.go ?_ (h := hx)) | (refine ElemN.go ?_ (h := hy)) | refine OrdN.one ?_ | refine Fork.yp ?_ | refine Fork.np ?_ | refine Fork.ny ?_ | refine Fork.nn ?_ | refine Fork.yb ?_ | refine Fork.nb ?_ | refine Fork.dp (fun h => ?_) (fun h => ?_) | refine Fork.dn (fun h => ?_) (fun h => ?_) | (refine Fork.mk (fun h => ?_) (fun h => ?_) <;> simp only [decide_eq_true_eq, decide_eq_false_iff_not, Bool.not_eq_true', Bool.not_eq_false', Bool.or_eq_true, Bool.or_eq_false_iff] at h) | refine GetN.go ?_ | refine Need.ap1 ?_ | refine Need.ap0 ?_ | refine Need.go ?_ | refine Need.draw ?_ | refine ElemN.go ?_ | refine ExtN.ext ?_ | refine ExtN.wr ?_ | refine AllocN.go (fun l hl => ?_) | refine finGo ?_) <;> try (conv => whnf)
    refine hK2 _ _ ⟨by omega, i3⟩ (by omega) ?_
    (refine ⟨rfl, ?_, ?_, Sub.refl _⟩ <;> repeat' (first | exact EnvLe.nil | exact LocsLe.nil | refine EnvLe.cons _ _ _ ?_ ?_ | refine LocsLe.cons _ _ _ ?_ ?_ | exact CVle.same _ rfl | exact CVle.vec _ _ | exact CVle.nil | exact CVle.tok _ _ _ rfl rfl | exact ObLe.tok _ _ rfl | exact CVles.nil | refine CVles.cons ?_ ?_ | exact ObLe.same _ rfl rfl | refine ObLe.cells rfl ?_))
  clear hK2
  rw [show (pr.drop j).map Pt.e = [] by rw [List.drop_eq_nil_of_le (by omega)]; rfl, List.nil_append] at j2
  conv => whnf
  repeat' (first | (refine ElemN.go ?_ (h := hx)) | refine OrdN.one ?_ | refine Fork.yp ?_ | refine Fork.np ?_ | refine Fork.ny ?_ | refine Fork.nn ?_ | refine Fork.yb ?_ | refine Fork.nb ?_ | refine Fork.dp (fun h => ?_) (fun h => ?_) | refine Fork.dn (fun h => ?_) (fun h => ?_) | (refine Fork.mk (fun h => ?_) (fun h => ?_) <;> simp only [decide_eq_true_eq, decide_eq_false_iff_not, Bool.not_eq_true', Bool.not_eq_false', Bool.or_eq_true, Bool.or_eq_false_iff] at h) | refine GetN.go ?_ | refine Need.ap1 ?_ | refine Need.ap0 ?_ | refine Need.go ?_ | refine Need.draw ?_ | refine ElemN.go ?_ | refine ExtN.ext ?_ | refine ExtN.wr ?_ | refine AllocN.go (fun l hl => ?_) | refine finGo ?_) <;> try (conv => whnf)
  refine LoopN.rule (α := Nat × List Exp) (fun a => ⟨124, [(1, .ptr (.f 1) 0), (3, .avec 12 (Exp.cvs a.2)), (4, i64 i), (6, i64 a.1)], [(1, .cells [i64 k, .vec (pths ps), i64 ek, i64 vk, i64 vn, .sc (.string vt), .vec (Val.cvs vl), .sc (.string es), .sc (.string ec), .vec (Exp.cvs ep), .sc (.string n), .vec (its is), .sc (.bool di), .vec (ods os), i64 sk, i64 li, .vec (tgs ts), .vec (sts ns), .sc (.bool de)]), (12, .tok 33 8 (Exp.cvs a.2).length)]⟩) (fun _ => σ) (fun a => hs.length - a.1) (fun a => a.1 ≤ hs.length ∧ a.2 ++ (hopsE (hs.drop a.1) ++ R1) = T) ?_ (0, L) ⟨by simp, j2⟩ ?_
  rotate_left
  · (refine ⟨rfl, ?_, ?_, Sub.refl _⟩ <;> repeat' (first | exact EnvLe.nil | exact LocsLe.nil | refine EnvLe.cons _ _ _ ?_ ?_ | refine LocsLe.cons _ _ _ ?_ ?_ | exact CVle.same _ rfl | exact CVle.vec _ _ | exact CVle.nil | exact CVle.tok _ _ _ rfl rfl | exact ObLe.tok _ _ rfl | exact CVles.nil | refine CVles.cons ?_ ?_ | exact ObLe.same _ rfl rfl | refine ObLe.cells rfl ?_))
  rintro ⟨j, L⟩ K3 ⟨j1, j2⟩ hK3
  dsimp only at j1 j2 ⊢
  have b1 := ecvs_length L
  have b2 := part_len j2 hT
  by_cases hj : j < hs.length
  case neg =>
    rw [show hopsE (hs.drop j) = [] by rw [List.drop_eq_nil_of_le (by omega)]; rfl, List.nil_append] at j2
    conv => whnf
    repeat' (first | (refine ElemN.go ?_ (h := hx)) | refine OrdN.one ?_ | refine Fork.yp ?_ | refine Fork.np ?_ | refine Fork.ny ?_ | refine Fork.nn ?_ | refine Fork.yb ?_ | refine Fork.nb ?_ | refine Fork.dp (fun h => ?_) (fun h => ?_) | refine Fork.dn (fun h => ?_) (fun h => ?_) | (refine Fork.mk (fun h => ?_) (fun h => ?_) <;> simp only [decide_eq_true_eq, decide_eq_false_iff_not, Bool.not_eq_true', Bool.not_eq_false', Bool.or_eq_true, Bool.or_eq_false_iff] at h) | refine GetN.go ?_ | refine Need.ap1 ?_ | refine Need.ap0 ?_ | refine Need.go ?_ | refine Need.draw ?_ | refine ElemN.go ?_ | refine ExtN.ext ?_ | refine ExtN.wr ?_ | refine AllocN.go (fun l hl => ?_) | refine finGo ?_) <;> try (conv => whnf)
    refine hK1 L _ _ ⟨by omega, j2⟩ (by omega) ?_
    (refine ⟨rfl, ?_, ?_, Sub.refl _⟩ <;> repeat' (first | exact EnvLe.nil | exact LocsLe.nil | refine EnvLe.cons _ _ _ ?_ ?_ | refine LocsLe.cons _ _ _ ?_ ?_ | exact CVle.same _ rfl | exact CVle.vec _ _ | exact CVle.nil | exact CVle.tok _ _ _ rfl rfl | exact ObLe.tok _ _ rfl | exact CVles.nil | refine CVles.cons ?_ ?_ | exact ObLe.same _ rfl rfl | refine ObLe.cells rfl ?_))
  obtain ⟨hn, hk, hw, sn2, sl2, pr2, hq, hy, hd2⟩ := hps_at' hj
  have hl6 : pr2.length ≤ 1000 := (hht _ (List.mem_of_getElem? hq)).s.k
  have a6 := pts_len pr2
  clear hq
  rw [hd2, List.append_assoc] at j2
  have hK3 := fun L => hK3 (j + 1, L)
  dsimp only at hK3
  generalize hopsE (hs.drop (j + 1)) ++ R1 = R2 at j2 hK3
  conv => whnf
  repeat' (first | (refine ElemN.go ?_ (h := hx)) | (refine ElemN.go ?_ (h := hy)) | refine OrdN.one ?_ | refine Fork.yp ?_ | refine Fork.np ?_ | refine Fork.ny ?_ | refine Fork.nn ?_ | refine Fork.yb ?_ | refine Fork.nb ?_ | refine Fork.dp (fun h => ?_) (fun h => ?_) | refine Fork.dn (fun h => ?_) (fun h => ?_) | (refine Fork.mk (fun h => ?_) (fun h => ?_) <;> simp only [decide_eq_true_eq, decide_eq_false_iff_not, Bool.not_eq_true', Bool.not_eq_false', Bool.or_eq_true, Bool.or_eq_false_iff] at h) | refine GetN.go ?_ | refine Need.ap1 ?_ | refine Need.ap0 ?_ | refine Need.go ?_ | refine Need.draw ?_ | refine ElemN.go ?_ | refine ExtN.ext ?_ | refine ExtN.wr ?_ | refine AllocN.go (fun l hl => ?_) | refine finGo ?_) <;> try (conv => whnf)
  refine LoopN.rule (α := Nat × List Exp) (fun a => ⟨124, [(1, .ptr (.f 1) 0), (3, .avec 12 (Exp.cvs a.2)), (4, i64 i), (6, i64 j), (7, i64 a.1)], [(1, .cells [i64 k, .vec (pths ps), i64 ek, i64 vk, i64 vn, .sc (.string vt), .vec (Val.cvs vl), .sc (.string es), .sc (.string ec), .vec (Exp.cvs ep), .sc (.string n), .vec (its is), .sc (.bool di), .vec (ods os), i64 sk, i64 li, .vec (tgs ts), .vec (sts ns), .sc (.bool de)]), (12, .tok 33 8 (Exp.cvs a.2).length)]⟩) (fun _ => σ) (fun a => pr2.length - a.1) (fun a => a.1 ≤ pr2.length ∧ a.2 ++ ((pr2.drop a.1).map Pt.e ++ R2) = T) ?_ (0, L) ⟨by simp, j2⟩ ?_
  rotate_left
  · (refine ⟨rfl, ?_, ?_, Sub.refl _⟩ <;> repeat' (first | exact EnvLe.nil | exact LocsLe.nil | refine EnvLe.cons _ _ _ ?_ ?_ | refine LocsLe.cons _ _ _ ?_ ?_ | exact CVle.same _ rfl | exact CVle.vec _ _ | exact CVle.nil | exact CVle.tok _ _ _ rfl rfl | exact ObLe.tok _ _ rfl | exact CVles.nil | refine CVles.cons ?_ ?_ | exact ObLe.same _ rfl rfl | refine ObLe.cells rfl ?_))
  rintro ⟨m, L⟩ K4 ⟨m1, m2⟩ hK4
  dsimp only at m1 m2 ⊢
  have b1 := ecvs_length L
  have b2 := part_len m2 hT
  by_cases hm : m < pr2.length
  · obtain ⟨xt, xk, xvk, xvn, xvt, xvl, xs, xc, xp, hz, hd3⟩ := pts_at' hm
    rw [hd3] at m2
    have i3 := snoc_T m2
    have hK4 := hK4 (m + 1, L ++ [.mk xk (.mk xvk xvn xvt xvl) xs xc xp])
    dsimp only at hK4
    rw [sn1, List.length_append] at hK4
    conv => whnf
    repeat' (first | (refine Need.ap1 ?_ (h1 := by simp only []; omega)) | (refine ElemN.go ?_ (h := hx)) | (refine ElemN.go ?_ (h := hy)) | (refine ElemN.go ?_ (h := hz)) | refine OrdN.one ?_ | refine Fork.yp ?_ | refine Fork.np ?_ | refine Fork.ny ?_ | refine Fork.nn ?_ | refine Fork.yb ?_ | refine Fork.nb ?_ | refine Fork.dp (fun h => ?_) (fun h => ?_) | refine Fork.dn (fun h => ?_) (fun h => ?_) | (refine Fork.mk (fun h => ?_) (fun h => ?_) <;> simp only [decide_eq_true_eq, decide_eq_false_iff_not, Bool.not_eq_true', Bool.not_eq_false', Bool.or_eq_true, Bool.or_eq_false_iff] at h) | refine GetN.go ?_ | refine Need.ap1 ?_ | refine Need.ap0 ?_ | refine Need.go ?_ | refine Need.draw ?_ | refine ElemN.go ?_ | refine ExtN.ext ?_ | refine ExtN.wr ?_ | refine AllocN.go (fun l hl => ?_) | refine finGo ?_) <;> try (conv => whnf)
    refine hK4 _ _ ⟨by omega, i3⟩ (by omega) ?_
    (refine ⟨rfl, ?_, ?_, Sub.refl _⟩ <;> repeat' (first | exact EnvLe.nil | exact LocsLe.nil | refine EnvLe.cons _ _ _ ?_ ?_ | refine LocsLe.cons _ _ _ ?_ ?_ | exact CVle.same _ rfl | exact CVle.vec _ _ | exact CVle.nil | exact CVle.tok _ _ _ rfl rfl | exact ObLe.tok _ _ rfl | exact CVles.nil | refine CVles.cons ?_ ?_ | exact ObLe.same _ rfl rfl | refine ObLe.cells rfl ?_))
  · rw [show (pr2.drop m).map Pt.e = [] by rw [List.drop_eq_nil_of_le (by omega)]; rfl, List.nil_append] at m2
    conv => whnf
    repeat' (first | (refine ElemN.go ?_ (h := hx)) | (refine ElemN.go ?_ (h := hy)) | refine OrdN.one ?_ | refine Fork.yp ?_ | refine Fork.np ?_ | refine Fork.ny ?_ | refine Fork.nn ?_ | refine Fork.yb ?_ | refine Fork.nb ?_ | refine Fork.dp (fun h => ?_) (fun h => ?_) | refine Fork.dn (fun h => ?_) (fun h => ?_) | (refine Fork.mk (fun h => ?_) (fun h => ?_) <;> simp only [decide_eq_true_eq, decide_eq_false_iff_not, Bool.not_eq_true', Bool.not_eq_false', Bool.or_eq_true, Bool.or_eq_false_iff] at h) | refine GetN.go ?_ | refine Need.ap1 ?_ | refine Need.ap0 ?_ | refine Need.go ?_ | refine Need.draw ?_ | refine ElemN.go ?_ | refine ExtN.ext ?_ | refine ExtN.wr ?_ | refine AllocN.go (fun l hl => ?_) | refine finGo ?_) <;> try (conv => whnf)
    refine hK3 L _ _ ⟨by omega, m2⟩ (by omega) ?_
    (refine ⟨rfl, ?_, ?_, Sub.refl _⟩ <;> repeat' (first | exact EnvLe.nil | exact LocsLe.nil | refine EnvLe.cons _ _ _ ?_ ?_ | refine LocsLe.cons _ _ _ ?_ ?_ | exact CVle.same _ rfl | exact CVle.vec _ _ | exact CVle.nil | exact CVle.tok _ _ _ rfl rfl | exact ObLe.tok _ _ rfl | exact CVles.nil | refine CVles.cons ?_ ?_ | exact ObLe.same _ rfl rfl | refine ObLe.cells rfl ?_))
end Go.Proofs.YthllnbfkfobcjaaGreat
