/-
  Contracts of the functions that the law reaches.
-/
import Derived.Test.YthllnbfkfobcjaaGreatGPc
set_option linter.unusedVariables false
set_option linter.unusedSimpArgs false
namespace Go.Proofs.YthllnbfkfobcjaaGreat
open Go Go.CL Go.Proofs
set_option maxRecDepth 10000
structure GJ (σ : Heap) (lo : Nat) (N : List ByteArray) (τ : Heap) : Prop where
  sub : Sub σ τ
  z0 : σ lo = none
  out : (N = [] ∧ τ lo = some (.cells [.nil])) ∨ ∃ la cap, N ≠ [] ∧ la ≠ lo ∧ σ la = none ∧ τ lo = some (.cells [.grow la N.length cap]) ∧ τ la = some (.arr 9 1 cap (strs N)) ∧ N.length ≤ cap
theorem GJ.put {σ τ : Heap} {lo l : Nat} {N : List ByteArray} {B : Ob} (h : GJ σ lo N τ) (hl : τ l = none) : GJ σ lo N (upd τ l B) := by
  have zl : σ l = none := by
    cases e : σ l with
    | none => rfl
    | some ob => rw [h.sub _ _ e] at hl; cases hl
  refine ⟨h.sub.upd zl, h.z0, ?_⟩
  rcases h.out with ⟨h1, h2⟩ | ⟨la, cap, h1, m1, m3, h2, h3, h4⟩
  · exact .inl ⟨h1, by rw [upd_ne _ _ (fun e => by subst e; rw [h2] at hl; cases hl)]; exact h2⟩
  · exact .inr ⟨la, cap, h1, m1, m3, by rw [upd_ne _ _ (fun e => by subst e; rw [h2] at hl; cases hl)]; exact h2, by rw [upd_ne _ _ (fun e => by subst e; rw [h3] at hl; cases hl)]; exact h3, h4⟩
theorem GJ.del {σ τ τ' : Heap} {lo lr : Nat} {N : List ByteArray} {B : Ob} (h : GJ σ lo N τ) (hd : τ' = del τ lr) (z2 : σ lr = none) (n5 : lr ≠ lo) (hr : τ lr = some B) (hB : ∀ e n c xs, B ≠ .arr e n c xs) : GJ σ lo N τ' := by
  have d0 : ∀ y, y ≠ lr → τ' y = τ y := fun y hy => by rw [hd, del_ne _ hy]
  refine ⟨fun y o hy => ?_, h.z0, ?_⟩
  · have : y ≠ lr := fun e => by subst e; rw [z2] at hy; cases hy
    rw [d0 y this]; exact h.sub y o hy
  · rcases h.out with ⟨h1, h2⟩ | ⟨la, cap, h1, m1, m3, h2, h3, h4⟩
    · exact .inl ⟨h1, by rw [d0 _ (Ne.symm n5)]; exact h2⟩
    · have m2 : la ≠ lr := fun e => by subst e; rw [h3] at hr; cases hr; exact hB _ _ _ _ rfl
      exact .inr ⟨la, cap, h1, m1, m3, by rw [d0 _ (Ne.symm n5)]; exact h2, by rw [d0 _ m2]; exact h3, h4⟩
structure NJ2 (σ : Heap) (lo lr : Nat) (ob : Ob) (N : List ByteArray) (τ : Heap) : Prop where
  rec_ : τ lr = some ob
  g : GJ σ lo N τ
theorem nj2_put {σ τ2 : Heap} {lo lr l2 : Nat} {ob X B : Ob} {N : List ByteArray} {cap n : Nat} {arr : List CV} (bs : Sub σ τ2) (z0 : σ lo = none) (z2 : σ lr = none) (zl : σ l2 = none) (a1 : l2 ≠ lo) (a2 : l2 ≠ lr) (a3 : lr ≠ lo)
    (hB : τ2 lr = some B) (hn : n = N.length) (ha : arr = strs N) (h0 : N ≠ []) (hc : n ≤ cap) (hX : ob = X) :
    (upd (upd τ2 l2 (.arr 9 1 cap arr)) lo (.cells [.grow l2 n cap])) lr = some B ∧ NJ2 σ lo lr ob N (upd (upd (upd τ2 l2 (.arr 9 1 cap arr)) lo (.cells [.grow l2 n cap])) lr X) := by
  subst hn ha hX
  refine ⟨by rw [upd_ne _ _ a3, upd_ne _ _ (Ne.symm a2)]; exact hB, upd_same _ _ _, ((bs.upd zl).upd z0).upd z2, z0, .inr ⟨l2, cap, h0, a1, zl, ?_, ?_, hc⟩⟩
  · rw [upd_ne _ _ (Ne.symm a3)]; exact upd_same _ _ _
  · rw [upd_ne _ _ a2, upd_ne _ _ a1]; exact upd_same _ _ _
theorem nj2_same {σ τ2 τ : Heap} {lo lr : Nat} {ob X B : Ob} {N : List ByteArray} (bs : Sub σ τ2) (z0 : σ lo = none) (z2 : σ lr = none) (a3 : lr ≠ lo) (hX : ob = X) (b0 : ∀ y, y ≠ lr → τ2 y = τ y) (hr : τ lr = some B) (hB : ∀ e n c xs, B ≠ .arr e n c xs)
    (hJ : (N = [] ∧ τ lo = some (.cells [.nil])) ∨ ∃ la cap, N ≠ [] ∧ la ≠ lo ∧ σ la = none ∧ τ lo = some (.cells [.grow la N.length cap]) ∧ τ la = some (.arr 9 1 cap (strs N)) ∧ N.length ≤ cap) : NJ2 σ lo lr ob N (upd τ2 lr X) := by
  subst hX
  refine ⟨upd_same _ _ _, bs.upd z2, z0, ?_⟩
  rcases hJ with ⟨h1, h2⟩ | ⟨la, cap, h1, m1, m3, h2, h3, h4⟩
  · exact .inl ⟨h1, by rw [upd_ne _ _ (Ne.symm a3), b0 _ (Ne.symm a3)]; exact h2⟩
  · have m2 : la ≠ lr := fun e => by subst e; rw [h3] at hr; cases hr; exact hB _ _ _ _ rfl
    exact .inr ⟨la, cap, h1, m1, m3, by rw [upd_ne _ _ (Ne.symm a3), b0 _ (Ne.symm a3)]; exact h2, by rw [upd_ne _ _ m2, b0 _ m2]; exact h3, h4⟩
structure QSt where
  i : Nat
  s : Heap
  N : List ByteArray
theorem exprsI_t {c : Cl} (h : ClT c) : ∀ e ∈ exprsI c, ETame e := by
  intro e he
  have hsp : ∀ {s : Sp}, SpT s → ∀ e ∈ spEs s, ETame e := fun hs e he => by
    obtain ⟨p, hp, rfl⟩ := List.mem_map.1 he
    exact (hs.p p hp).e
  unfold exprsI at he
  simp only [List.mem_append] at he
  rcases he with he | he | he | he
  · obtain ⟨l, hl, he⟩ := List.mem_flatten.1 he
    obtain ⟨p, hp, rfl⟩ := List.mem_map.1 hl
    have hpt := h.pt p hp
    unfold pthEs at he
    rcases List.mem_append.1 he with he | he
    · exact hsp hpt.s e he
    · obtain ⟨l, hl, he⟩ := List.mem_flatten.1 he
      obtain ⟨x, hx, rfl⟩ := List.mem_map.1 hl
      exact hsp (hpt.h x hx).s e he
  · unfold exprI at he
    split at he
    · rw [List.mem_singleton.1 he]; exact h.e
    · simp at he
  · obtain ⟨x, hx, rfl⟩ := List.mem_map.1 he
    exact (h.it x hx).e
  · obtain ⟨x, hx, rfl⟩ := List.mem_map.1 he
    exact (h.tt x hx).e
def SOut (σ : Heap) (N : List ByteArray) (out : COut) : Prop := (N = [] ∧ ∃ τ, Sub σ τ ∧ out = .ret (.vec []) τ) ∨ ∃ la cap τ, Sub σ τ ∧ σ la = none ∧ τ la = some (.arr 9 1 cap (strs N)) ∧ out = .ret (.grow la (strs N).length cap) τ
theorem sout_fin {f : FuncId} {args : List CV} {σ : Heap} {N : List ByteArray} (h : CRun Tryz.prog f args σ (SOut σ N)) : CRun Tryz.prog f args σ (· = .ret (.vec (strs N)) σ) := by
  refine h.freeze fun out h => ?_
  rcases h with ⟨h0, τ, hs, rfl⟩ | ⟨la, cap, τ, hs, hl, hla, rfl⟩
  · exact ⟨.ret (.vec (strs N)) σ, ⟨hs, [], .inl (.one (by rw [h0]; exact .same _)), by simp⟩, rfl⟩
  · refine ⟨.ret (.vec (strs N)) σ, ⟨hs, [la], .inl (.one ?_), fun l' h' => by rw [List.mem_singleton.1 h']; exact hl⟩, rfl⟩
    have := Frz.grow (σ := τ) la (strs N).length cap _ _ _ hla (Nat.le_refl _)
    rwa [List.take_of_length_le (Nat.le_refl _)] at this
set_option maxHeartbeats 8000000 in
theorem iGiven_o {σ : Heap} {q : List Cl} (h9 : q.length ≤ 100) (ht : ∀ c ∈ q, ClT c) (hl : ∀ c ∈ q, (exprsI c).length ≤ 100000) (hT : (gC q).length ≤ 900000) (ck : ∀ τ, CRun Tryz.prog 18 [.vec (cls q)] τ (· = .ret (i64 0) τ)) :
    CRun Tryz.prog 28 [.vec (cls q)] σ (SOut σ ((gC q).foldl ins [])) := by
  have e3 := cls_len q
  obtain ⟨N, hN⟩ : ∃ N, N = (gC q).foldl ins [] := ⟨_, rfl⟩
  rw [← hN]
  generalize hTT : gC q = T at hN hT
  refine crun_ofF (X := G [3,5,7,35]) (G_ok _) (G_sat _) (body := bodyOf Tryz.f28) Tryz.func28 rfl (by kernel_rfl) (by kernel_rfl) ?_
  rw [Tryz.ntmps28]
  conv => whnf
  repeat' (first | (refine CallN.one (ck _) ?_) | (refine AllocN.go (fun lo hlo => ?_)) | refine OrdN.one ?_ | refine Fork.yp ?_ | refine Fork.np ?_ | refine Fork.ny ?_ | refine Fork.nn ?_ | refine Fork.yb ?_ | refine Fork.nb ?_ | refine Fork.dp (fun h => ?_) (fun h => ?_) | refine Fork.dn (fun h => ?_) (fun h => ?_) | (refine Fork.mk (fun h => ?_) (fun h => ?_) <;> simp only [decide_eq_true_eq, decide_eq_false_iff_not, Bool.not_eq_true', Bool.not_eq_false', Bool.or_eq_true, Bool.or_eq_false_iff] at h) | refine GetN.go ?_ | refine Need.ap1 ?_ | refine Need.ap0 ?_ | refine Need.go ?_ | refine Need.draw ?_ | refine ElemN.go ?_ | refine ExtN.ext ?_ | refine ExtN.wr ?_ | refine AllocN.go (fun l hl => ?_) | refine finGo ?_) <;> try (conv => whnf)
  refine LoopN.rule (α := QSt) (fun a => ⟨42, [(3, .ptr (.g lo) 0), (12, .vec (cls q)), (13, i64 (cls q).length), (14, i64 a.i)], []⟩) (fun a => a.s) (fun a => q.length - a.i) (fun a => a.i ≤ q.length ∧ GJ σ lo a.N a.s ∧ a.N ++ gC (q.drop a.i) = T) ?_ ⟨0, upd σ lo (.cells [.nil]), []⟩ ⟨by simp, ⟨(Sub.refl σ).upd hlo, hlo, .inl ⟨rfl, upd_same _ _ _⟩⟩, hTT⟩ ?_
  rotate_left
  · (refine ⟨rfl, ?_, ?_, Sub.refl _⟩ <;> repeat' (first | exact EnvLe.nil | exact LocsLe.nil | refine EnvLe.cons _ _ _ ?_ ?_ | refine LocsLe.cons _ _ _ ?_ ?_ | exact CVle.same _ rfl | exact CVle.vec _ _ | exact CVle.nil | exact CVle.tok _ _ _ rfl rfl | exact ObLe.tok _ _ rfl | exact CVles.nil | refine CVles.cons ?_ ?_ | exact ObLe.same _ rfl rfl | refine ObLe.cells rfl ?_))
  clear hTT
  rintro ⟨i, s, M⟩ K1 ⟨i1, i2, j2⟩ hK1
  dsimp only at i1 i2 j2 ⊢
  by_cases hi : i < q.length
  · obtain ⟨c, hc, hm, hx⟩ := show ∃ c, q[i]? = some c ∧ c ∈ q ∧ (cls q)[i]? = some c.cv from ⟨q[i], List.getElem?_eq_getElem hi, List.getElem_mem hi, by unfold cls; rw [List.getElem?_map, List.getElem?_eq_getElem hi]; rfl⟩
    rw [drop_at hc, gC_cons] at j2
    have c1 := fun τ => exprsOf_c (σ := τ) (ht c hm) (hl c hm)
    have he := exprsI_t (ht c hm)
    have hl2 := hl c hm
    have hK1 := fun s N => hK1 ⟨i + 1, s, N⟩
    dsimp only at hK1
    generalize gC (q.drop (i + 1)) = R1 at j2 hK1
    generalize exprsI c = es at c1 he j2 hl2
    obtain ⟨k, ps, ⟨ek, ⟨vk, vn, vt, vl⟩, es', ec, ep⟩, n, is, di, os, sk, li, ts, ns, de⟩ := c
    have a1 := ecvs_length es
    conv => whnf
    repeat' (first | (refine ElemN.go ?_ (h := hx)) | (refine AllocN.go (fun l5 hl5 => ?_)) | (refine GetN.go ?_ (h := upd_same _ _ _)) | (refine CallN.one (c1 _) ?_) | refine OrdN.go ?_ | refine Fork.yp ?_ | refine Fork.np ?_ | refine Fork.ny ?_ | refine Fork.nn ?_ | refine Fork.yb ?_ | refine Fork.nb ?_ | refine Fork.dp (fun h => ?_) (fun h => ?_) | refine Fork.dn (fun h => ?_) (fun h => ?_) | (refine Fork.mk (fun h => ?_) (fun h => ?_) <;> simp only [decide_eq_true_eq, decide_eq_false_iff_not, Bool.not_eq_true', Bool.not_eq_false', Bool.or_eq_true, Bool.or_eq_false_iff] at h) | refine GetN.go ?_ | refine Need.ap1 ?_ | refine Need.ap0 ?_ | refine Need.go ?_ | refine Need.draw ?_ | refine ElemN.go ?_ | refine ExtN.ext ?_ | refine ExtN.wr ?_ | refine AllocN.go (fun l hl => ?_) | refine finGo ?_) <;> try (conv => whnf)
    refine LoopN.rule (α := QSt) (fun a => ⟨42, [(3, .ptr (.g lo) 0), (12, .vec (cls q)), (13, i64 (cls q).length), (14, i64 i), (19, .vec (Exp.cvs es)), (20, i64 (Exp.cvs es).length), (21, i64 a.i)], []⟩) (fun a => a.s) (fun a => es.length - a.i) (fun a => a.i ≤ es.length ∧ GJ σ lo a.N a.s ∧ a.N ++ (gOf (es.drop a.i) ++ R1) = T) ?_ ⟨0, upd s l5 (.cells (Cl.cells ⟨k, ps, .mk ek (.mk vk vn vt vl) es' ec ep, n, is, di, os, sk, li, ts, ns, de⟩)), M⟩ ⟨by simp, i2.put hl5, by simpa using j2⟩ ?_
    rotate_left
    · refine ⟨rfl, ?_, ?_, sub_eq (upd_upd _ _ _ _)⟩
      all_goals repeat' (first | exact EnvLe.nil | exact LocsLe.nil | refine EnvLe.cons _ _ _ ?_ ?_ | exact CVle.same _ rfl | exact CVle.vec _ _)
    clear i2 j2 hl5
    rintro ⟨j, s, M⟩ K2 ⟨i1', i2, j2⟩ hK2
    dsimp only at i1' i2 j2 ⊢
    by_cases hj : j < es.length
    · obtain ⟨e, hem, heq, hy⟩ := ecvs_at hj
      have het := he e hem
      rw [drop_at heq, gOf_cons, List.append_assoc] at j2
      have hK2 := fun s N => hK2 ⟨j + 1, s, N⟩
      dsimp only at hK2
      generalize gOf (es.drop (j + 1)) ++ R1 = R2 at j2 hK2
      clear hem heq he
      obtain ⟨yk, ⟨y1, y2, y3, y4⟩, ys, yc, yp⟩ := e
      conv => whnf
      repeat' (first | (refine ElemN.go ?_ (h := hy)) | (refine AllocN.go (fun l7 hl7 => ?_)) | (refine GetN.go ?_ (h := upd_same _ _ _)) | (refine CallN.many (eachExpr_c) ?_; rintro _ ⟨lb, hlb, rfl⟩) | refine OrdN.one ?_ | refine Fork.yp ?_ | refine Fork.np ?_ | refine Fork.ny ?_ | refine Fork.nn ?_ | refine Fork.yb ?_ | refine Fork.nb ?_ | refine Fork.dp (fun h => ?_) (fun h => ?_) | refine Fork.dn (fun h => ?_) (fun h => ?_) | (refine Fork.mk (fun h => ?_) (fun h => ?_) <;> simp only [decide_eq_true_eq, decide_eq_false_iff_not, Bool.not_eq_true', Bool.not_eq_false', Bool.or_eq_true, Bool.or_eq_false_iff] at h) | refine GetN.go ?_ | refine Need.ap1 ?_ | refine Need.ap0 ?_ | refine Need.go ?_ | refine Need.draw ?_ | refine ElemN.go ?_ | refine ExtN.ext ?_ | refine ExtN.wr ?_ | refine AllocN.go (fun l hl => ?_) | refine finGo ?_) <;> try (conv => whnf)
      refine RngN.all rfl fun f lr ob hob hlr => ?_
      have gX := GJ.put (B := .cells (eCells (.mk yk (.mk y1 y2 y3 y4) ys yc yp))) (l := lb) (show GJ σ lo M (upd (upd s l7 _) l7 (.cells (eCells (.mk yk (.mk y1 y2 y3 y4) ys yc yp)))) by rw [upd_upd]; exact i2.put hl7) hlb
      have z2 : σ lr = none := subNone gX.sub hlr
      have n5 : lr ≠ lo := fun e => by
        subst e
        rcases gX.out with ⟨_, h⟩ | ⟨_, _, _, _, _, h, _⟩ <;> exact absurd (h.symm.trans hlr) (by simp)
      have n4 : lr ≠ lb := fun e => by subst e; rw [upd_same] at hlr; cases hlr
      refine ⟨NJ2 σ lo lr ob (M ++ givesOf (subsE (.mk yk (.mk y1 y2 y3 y4) ys yc yp))), ?_, fun τ hJ => hJ.rec_, ?_⟩
      · have start : NJ2 σ lo lr ob (M ++ givesOf []) (upd (upd (upd (upd s l7 _) l7 (.cells (eCells (.mk yk (.mk y1 y2 y3 y4) ys yc yp)))) lb (.cells (eCells (.mk yk (.mk y1 y2 y3 y4) ys yc yp)))) lr ob) :=
          ⟨upd_same _ _ _, by rw [show M ++ givesOf [] = M by simp [givesOf]]; exact gX.put hlr⟩
        refine CRun.mono (eachIter_c (l := lr) (lb := lb) (J := fun pre τ => NJ2 σ lo lr ob (M ++ givesOf pre) τ) (K := fun _ => False) ?_ het rfl start (by rw [upd_ne _ _ (Ne.symm n4)]; exact upd_same _ _ _)) ?_
        · intro pre x r τ hall hJ
          obtain ⟨hrec, hsub, hz0, hout⟩ := hJ
          rw [hob] at hrec
          have hPl : (M ++ givesOf pre).length ≤ 900000 := by
            rw [← j2, ← hall, givesOf_app] at hT
            simp only [List.length_append] at hT ⊢
            omega
          obtain ⟨xk, ⟨x1, x2, x3, x4⟩, xs, xc, xp⟩ := x
          refine yrun_of (X := G [3,5,7,35]) (G_ok _) (G_sat _) hrec rfl rfl rfl ?_
          conv => whnf
          repeat' (first | refine OrdN.one ?_ | refine Fork.yp ?_ | refine Fork.np ?_ | refine Fork.ny ?_ | refine Fork.nn ?_ | refine Fork.yb ?_ | refine Fork.nb ?_ | refine Fork.dp (fun h => ?_) (fun h => ?_) | refine Fork.dn (fun h => ?_) (fun h => ?_) | (refine Fork.mk (fun h => ?_) (fun h => ?_) <;> simp only [decide_eq_true_eq, decide_eq_false_iff_not, Bool.not_eq_true', Bool.not_eq_false', Bool.or_eq_true, Bool.or_eq_false_iff] at h) | refine GetN.go ?_ | refine Need.ap1 ?_ | refine Need.ap0 ?_ | refine Need.go ?_ | refine Need.draw ?_ | refine ElemN.go ?_ | refine ExtN.ext ?_ | refine ExtN.wr ?_ | refine AllocN.go (fun l hl => ?_) | refine finGo ?_) <;> try (conv => whnf)
          refine AsgN.mk hrec fun τ2 hτ2 => ?_
          have b0 : ∀ y, y ≠ lr → τ2 y = τ y := fun y hy => by rw [hτ2, upd_ne _ _ hy]
          have bl := hτ2 ▸ upd_same τ lr _
          have bs : Sub σ τ2 := by rw [hτ2]; exact hsub.upd z2
          have b3 := b0 lo (Ne.symm n5)
          have nm : M ++ givesOf (pre ++ [.mk xk (.mk x1 x2 x3 x4) xs xc xp]) = (M ++ givesOf pre) ++ giveIf (.mk xk (.mk x1 x2 x3 x4) xs xc xp) := by rw [givesOf_app, givesOf_cons]; simp [givesOf]
          by_cases hx : xk = 4
          · rw [show giveIf (.mk xk (.mk x1 x2 x3 x4) xs xc xp) = [xs] from if_pos hx] at nm
            have nm0 : (M ++ givesOf (pre ++ [.mk xk (.mk x1 x2 x3 x4) xs xc xp])) ≠ [] := by rw [nm]; simp
            have nml : (M ++ givesOf (pre ++ [.mk xk (.mk x1 x2 x3 x4) xs xc xp])).length = (M ++ givesOf pre).length + 1 := by rw [nm, List.length_append]; rfl
            rcases hout with ⟨e0, h4⟩ | ⟨la, cap, e0, m1, m3, h4, h5, h6⟩
            · rw [← b3] at h4
              have arr0 : [CV.sc (.string xs)] = strs (M ++ givesOf (pre ++ [.mk xk (.mk x1 x2 x3 x4) xs xc xp])) := by rw [nm, e0]; rfl
              have len0 : 1 = (M ++ givesOf (pre ++ [.mk xk (.mk x1 x2 x3 x4) xs xc xp])).length := by rw [nml, e0]; rfl
              clear hτ2 hall
              conv => whnf
              repeat' (first | (refine Need.mk ⟨by simp only [List.length_cons, List.length_nil]; omega, by simp only [List.length_cons, List.length_nil]; omega, ElsOk.one rfl rfl⟩ ?_) | (refine AllocC.go (fun l2 cap2 hl2 hcap2 => ?_)) | (refine GetN.go ?_ (h := by exact gotB h4 ‹_›)) | refine OrdN.one ?_ | refine Fork.yp ?_ | refine Fork.np ?_ | refine Fork.ny ?_ | refine Fork.nn ?_ | refine Fork.yb ?_ | refine Fork.nb ?_ | refine Fork.dp (fun h => ?_) (fun h => ?_) | refine Fork.dn (fun h => ?_) (fun h => ?_) | (refine Fork.mk (fun h => ?_) (fun h => ?_) <;> simp only [decide_eq_true_eq, decide_eq_false_iff_not, Bool.not_eq_true', Bool.not_eq_false', Bool.or_eq_true, Bool.or_eq_false_iff] at h) | refine GetN.go ?_ | refine Need.ap1 ?_ | refine Need.ap0 ?_ | refine Need.go ?_ | refine Need.draw ?_ | refine ElemN.go ?_ | refine ExtN.ext ?_ | refine ExtN.wr ?_ | refine AllocN.go (fun l hl => ?_) | refine finGo ?_) <;> try (conv => whnf)
              all_goals
                have q := fun X (hX : ob = X) => nj2_put (ob := ob) (X := X) (n := 1) (cap := cap2) (l2 := l2) bs hz0 z2 (subNone bs hl2) (fun e => by subst e; rw [h4] at hl2; cases hl2) (fun e => by subst e; rw [bl] at hl2; cases hl2) n5 bl len0 arr0 nm0 hcap2 hX
                exact RndN.mk (q _ hob).1 ⟨_, Sub.refl _, .inl ⟨_, (q _ hob).2, rfl⟩⟩
            · have m2 : la ≠ lr := fun e => by subst e; rw [h5] at hrec; cases hrec
              have b4 := b0 la m2
              rw [← b3] at h4
              rw [← b4] at h5
              have et : List.take (M ++ givesOf pre).length (strs (M ++ givesOf pre)) = strs (M ++ givesOf pre) := List.take_of_length_le (by rw [strs_len]; omega)
              have ed : List.drop ((M ++ givesOf pre).length + [CV.sc (.string xs)].length) (strs (M ++ givesOf pre)) = [] := List.drop_eq_nil_of_le (by rw [strs_len]; simp)
              have arrN : List.take (M ++ givesOf pre).length (strs (M ++ givesOf pre)) ++ [CV.sc (.string xs)] = strs (M ++ givesOf (pre ++ [.mk xk (.mk x1 x2 x3 x4) xs xc xp])) := by rw [et, nm, strs_app (M ++ givesOf pre) [xs]]; rfl
              have arrI : List.take (M ++ givesOf pre).length (strs (M ++ givesOf pre)) ++ [CV.sc (.string xs)] ++ List.drop ((M ++ givesOf pre).length + [CV.sc (.string xs)].length) (strs (M ++ givesOf pre)) = strs (M ++ givesOf (pre ++ [.mk xk (.mk x1 x2 x3 x4) xs xc xp])) := by rw [ed, List.append_nil]; exact arrN
              clear hτ2 hall et ed
              generalize (M ++ givesOf pre) = PP at *
              conv => whnf
              repeat' (first | (refine Need.mk ⟨rfl, by rw [strs_len]; omega, by simp only [List.length_cons, List.length_nil]; omega, by simp only [List.length_cons, List.length_nil]; omega, ElsOk.one rfl rfl⟩ ?_) | (refine AllocC.go (fun l2 cap2 hl2 hcap2 => ?_)) | (refine GetN.go ?_ (h := by first | exact gotB h4 ‹_› | exact gotC m1 h4)) | refine OrdN.one ?_ | refine Fork.yp ?_ | refine Fork.np ?_ | refine Fork.ny ?_ | refine Fork.nn ?_ | refine Fork.yb ?_ | refine Fork.nb ?_ | refine Fork.dp (fun h => ?_) (fun h => ?_) | refine Fork.dn (fun h => ?_) (fun h => ?_) | (refine Fork.mk (fun h => ?_) (fun h => ?_) <;> simp only [decide_eq_true_eq, decide_eq_false_iff_not, Bool.not_eq_true', Bool.not_eq_false', Bool.or_eq_true, Bool.or_eq_false_iff] at h) | refine GetN.go ?_ | refine Need.ap1 ?_ | refine Need.ap0 ?_ | refine Need.go ?_ | refine Need.draw ?_ | refine ElemN.go ?_ | refine ExtN.ext ?_ | refine ExtN.wr ?_ | refine AllocN.go (fun l hl => ?_) | refine finGo ?_) <;> try (conv => whnf)
              all_goals first
                | exact RndN.mk (nj2_put (ob := ob) (n := PP.length + 1) (cap := cap) (l2 := la) bs hz0 z2 m3 m1 m2 n5 bl nml.symm arrI nm0 (by simpa using h) hob).1
                    ⟨_, Sub.refl _, .inl ⟨_, (nj2_put (ob := ob) (n := PP.length + 1) (cap := cap) (l2 := la) bs hz0 z2 m3 m1 m2 n5 bl nml.symm arrI nm0 (by simpa using h) hob).2, rfl⟩⟩
                | exact RndN.mk (nj2_put (ob := ob) (n := PP.length + 1) (cap := cap2) (l2 := l2) bs hz0 z2 (subNone bs hl2) (fun e => by subst e; rw [h4] at hl2; cases hl2) (fun e => by subst e; rw [bl] at hl2; cases hl2) n5 bl nml.symm arrN nm0 hcap2 hob).1
                    ⟨_, Sub.refl _, .inl ⟨_, (nj2_put (ob := ob) (n := PP.length + 1) (cap := cap2) (l2 := l2) bs hz0 z2 (subNone bs hl2) (fun e => by subst e; rw [h4] at hl2; cases hl2) (fun e => by subst e; rw [bl] at hl2; cases hl2) n5 bl nml.symm arrN nm0 hcap2 hob).2, rfl⟩⟩
          · rw [show giveIf (.mk xk (.mk x1 x2 x3 x4) xs xc xp) = [] from if_neg hx, List.append_nil] at nm
            rw [← nm] at hout
            have q := fun X hX => nj2_same (ob := ob) (X := X) bs hz0 z2 n5 hX b0 hrec (fun _ _ _ _ h => by cases h) hout
            clear hτ2 hall
            conv => whnf
            repeat' (first | refine OrdN.one ?_ | refine Fork.yp ?_ | refine Fork.np ?_ | refine Fork.ny ?_ | refine Fork.nn ?_ | refine Fork.yb ?_ | refine Fork.nb ?_ | refine Fork.dp (fun h => ?_) (fun h => ?_) | refine Fork.dn (fun h => ?_) (fun h => ?_) | (refine Fork.mk (fun h => ?_) (fun h => ?_) <;> simp only [decide_eq_true_eq, decide_eq_false_iff_not, Bool.not_eq_true', Bool.not_eq_false', Bool.or_eq_true, Bool.or_eq_false_iff] at h) | refine GetN.go ?_ | refine Need.ap1 ?_ | refine Need.ap0 ?_ | refine Need.go ?_ | refine Need.draw ?_ | refine ElemN.go ?_ | refine ExtN.ext ?_ | refine ExtN.wr ?_ | refine AllocN.go (fun l hl => ?_) | refine finGo ?_) <;> try (conv => whnf)
            all_goals exact RndN.mk bl ⟨_, Sub.refl _, .inl ⟨_, q _ hob, rfl⟩⟩
        · rintro out (⟨τ, hJ, rfl⟩ | ⟨τ, hK, rfl⟩)
          · exact ⟨_, _, hJ, rfl⟩
          · exact hK.elim
      · rintro τ τ' ⟨hrec, g⟩ hd
        have g2 := g.del (τ' := τ') hd z2 n5 (by rw [hob] at hrec; exact hrec) (fun _ _ _ _ h => by cases h)
        rw [← List.append_assoc] at j2
        conv => whnf
        repeat' (first | refine OrdN.one ?_ | refine Fork.yp ?_ | refine Fork.np ?_ | refine Fork.ny ?_ | refine Fork.nn ?_ | refine Fork.yb ?_ | refine Fork.nb ?_ | refine Fork.dp (fun h => ?_) (fun h => ?_) | refine Fork.dn (fun h => ?_) (fun h => ?_) | (refine Fork.mk (fun h => ?_) (fun h => ?_) <;> simp only [decide_eq_true_eq, decide_eq_false_iff_not, Bool.not_eq_true', Bool.not_eq_false', Bool.or_eq_true, Bool.or_eq_false_iff] at h) | refine GetN.go ?_ | refine Need.ap1 ?_ | refine Need.ap0 ?_ | refine Need.go ?_ | refine Need.draw ?_ | refine ElemN.go ?_ | refine ExtN.ext ?_ | refine ExtN.wr ?_ | refine AllocN.go (fun l hl => ?_) | refine finGo ?_) <;> try (conv => whnf)
        refine hK2 _ _ _ _ ⟨by omega, g2, j2⟩ (by omega) ?_
        (refine ⟨rfl, ?_, ?_, Sub.refl _⟩ <;> repeat' (first | exact EnvLe.nil | exact LocsLe.nil | refine EnvLe.cons _ _ _ ?_ ?_ | refine LocsLe.cons _ _ _ ?_ ?_ | exact CVle.same _ rfl | exact CVle.vec _ _ | exact CVle.nil | exact CVle.tok _ _ _ rfl rfl | exact ObLe.tok _ _ rfl | exact CVles.nil | refine CVles.cons ?_ ?_ | exact ObLe.same _ rfl rfl | refine ObLe.cells rfl ?_))
    · rw [show gOf (es.drop j) = [] by rw [List.drop_eq_nil_of_le (by omega)]; rfl, List.nil_append] at j2
      conv => whnf
      repeat' (first | refine OrdN.one ?_ | refine Fork.yp ?_ | refine Fork.np ?_ | refine Fork.ny ?_ | refine Fork.nn ?_ | refine Fork.yb ?_ | refine Fork.nb ?_ | refine Fork.dp (fun h => ?_) (fun h => ?_) | refine Fork.dn (fun h => ?_) (fun h => ?_) | (refine Fork.mk (fun h => ?_) (fun h => ?_) <;> simp only [decide_eq_true_eq, decide_eq_false_iff_not, Bool.not_eq_true', Bool.not_eq_false', Bool.or_eq_true, Bool.or_eq_false_iff] at h) | refine GetN.go ?_ | refine Need.ap1 ?_ | refine Need.ap0 ?_ | refine Need.go ?_ | refine Need.draw ?_ | refine ElemN.go ?_ | refine ExtN.ext ?_ | refine ExtN.wr ?_ | refine AllocN.go (fun l hl => ?_) | refine finGo ?_) <;> try (conv => whnf)
      refine hK1 _ _ _ _ ⟨by omega, i2, j2⟩ (by omega) ?_
      (refine ⟨rfl, ?_, ?_, Sub.refl _⟩ <;> repeat' (first | exact EnvLe.nil | exact LocsLe.nil | refine EnvLe.cons _ _ _ ?_ ?_ | refine LocsLe.cons _ _ _ ?_ ?_ | exact CVle.same _ rfl | exact CVle.vec _ _ | exact CVle.nil | exact CVle.tok _ _ _ rfl rfl | exact ObLe.tok _ _ rfl | exact CVles.nil | refine CVles.cons ?_ ?_ | exact ObLe.same _ rfl rfl | refine ObLe.cells rfl ?_))
  · rw [show gC (q.drop i) = [] by rw [List.drop_eq_nil_of_le (by omega)]; rfl, List.append_nil] at j2
    subst j2
    have hs' := i2.sub
    rcases i2.out with ⟨e0, h4⟩ | ⟨la, cap, e0, m1, m3, h4, h5, h6⟩
    · have hN : N = [] := by rw [hN, e0]; rfl
      have c1 := sort_nil (σ := s)
      have c2 : CRun Tryz.prog 63 [.vec []] s (· = .ret (.vec []) s) := crun_compact_nil lays194 (by kernel_rfl) (by kernel_rfl)
      clear hK1 i2
      conv => whnf
      repeat' (first | (refine CallN.one c1 ?_) | (refine CallN.one c2 ?_) | (refine GetN.go ?_ (h := h4)) | refine OrdN.one ?_ | refine Fork.yp ?_ | refine Fork.np ?_ | refine Fork.ny ?_ | refine Fork.nn ?_ | refine Fork.yb ?_ | refine Fork.nb ?_ | refine Fork.dp (fun h => ?_) (fun h => ?_) | refine Fork.dn (fun h => ?_) (fun h => ?_) | (refine Fork.mk (fun h => ?_) (fun h => ?_) <;> simp only [decide_eq_true_eq, decide_eq_false_iff_not, Bool.not_eq_true', Bool.not_eq_false', Bool.or_eq_true, Bool.or_eq_false_iff] at h) | refine GetN.go ?_ | refine Need.ap1 ?_ | refine Need.ap0 ?_ | refine Need.go ?_ | refine Need.draw ?_ | refine ElemN.go ?_ | refine ExtN.ext ?_ | refine ExtN.wr ?_ | refine AllocN.go (fun l hl => ?_) | refine finGo ?_) <;> try (conv => whnf)
      all_goals exact .inl ⟨hN, s, hs', rfl⟩
    · rw [strs_bl] at h5
      have so := sort_once M
      rw [← hN] at so
      have lb1 : (M.map bl).length = M.length := List.length_map ..
      have lb2 : ((M.map bl).mergeSort fun x y => decide (x ≤ y)).length = M.length := by rw [List.length_mergeSort, lb1]
      have c1 : CRun Tryz.prog 62 [.grow la M.length cap] s (· = .ret (.tup []) (upd s la (.arr 9 1 cap (((M.map bl).mergeSort fun x y => decide (x ≤ y)).map strV)))) :=
        crun_sort lays190 (by kernel_rfl) (by kernel_rfl) h5 lb1.symm (by omega)
      have c2 : CRun Tryz.prog 63 [.grow la M.length cap] (upd s la (.arr 9 1 cap (((M.map bl).mergeSort fun x y => decide (x ≤ y)).map strV))) _ :=
        crun_compact lays194 (by kernel_rfl) (by kernel_rfl) (upd_same _ _ _) lb2.symm (by omega) (compact_len _)
      rw [so, ← strs_bl, upd_upd, List.length_map] at c2
      have h4' : (upd s la (.arr 9 1 cap (((M.map bl).mergeSort fun x y => decide (x ≤ y)).map strV))) lo = some (.cells [.grow la M.length cap]) := gotC m1 h4
      have hlN : N.length = (strs N).length := (strs_len N).symm
      rw [hlN] at c2
      have hsf : Sub σ (upd s la (.arr 9 1 cap (strs N))) := hs'.upd m3
      clear so lb1 lb2 hN h5 hK1 i2
      generalize upd s la (.arr 9 1 cap (((M.map bl).mergeSort fun x y => decide (x ≤ y)).map strV)) = τ2 at c1 c2 h4'
      conv => whnf
      repeat' (first | (refine CallN.one c1 ?_) | (refine CallN.one c2 ?_) | (refine GetN.go ?_ (h := h4)) | (refine GetN.go ?_ (h := h4')) | refine OrdN.one ?_ | refine Fork.yp ?_ | refine Fork.np ?_ | refine Fork.ny ?_ | refine Fork.nn ?_ | refine Fork.yb ?_ | refine Fork.nb ?_ | refine Fork.dp (fun h => ?_) (fun h => ?_) | refine Fork.dn (fun h => ?_) (fun h => ?_) | (refine Fork.mk (fun h => ?_) (fun h => ?_) <;> simp only [decide_eq_true_eq, decide_eq_false_iff_not, Bool.not_eq_true', Bool.not_eq_false', Bool.or_eq_true, Bool.or_eq_false_iff] at h) | refine GetN.go ?_ | refine Need.ap1 ?_ | refine Need.ap0 ?_ | refine Need.go ?_ | refine Need.draw ?_ | refine ElemN.go ?_ | refine ExtN.ext ?_ | refine ExtN.wr ?_ | refine AllocN.go (fun l hl => ?_) | refine finGo ?_) <;> try (conv => whnf)
      all_goals exact .inr ⟨la, cap, _, hsf, m3, upd_same _ _ _, rfl⟩
end Go.Proofs.YthllnbfkfobcjaaGreat
