/-
  Contracts of the functions that the law reaches.
-/
import Derived.Test.YtlamgfimgadnmaaGreatB
import Derived.Test.YtlamgfimgadnmaaGreatC
import Derived.Test.YtlamgfimgadnmaaGreatFwd
import Derived.Test.YtlamgfimgadnmaaGreatJ
import Derived.Test.YtlamgfimgadnmaaGreatN
set_option linter.unusedVariables false
set_option linter.unusedSimpArgs false
namespace Go.Proofs.YtlamgfimgadnmaaGreat
open Go Go.CL
set_option maxRecDepth 10000
def chk (v : Val) : Rs := if okV 3 v = true then .ok v else .err 2
def addR : Val → Val → Rs
  | .mk k n t l, .mk k' n' t' l' => if k = 0 ∨ k' = 0 then .ok nullV else if k = 2 ∧ k' = 2 then chk (.mk 2 (n + n') ⟨#[]⟩ []) else if k = 3 ∧ k' = 3 then chk (.mk 3 0 (t ++ t') []) else if k = 4 ∧ k' = 4 then chk (.mk 4 0 ⟨#[]⟩ (l ++ l')) else .err 1
def twoR (kind : Int) (a b : Val) : Rs := if kind = 5 then .ok (eq3 a b).v else if kind = 6 then .ok (lessF a b) else if kind = 10 then addR a b else if kind = 12 then memR a b else if kind = 7 then and2R a b else or2R a b
def zeroC : CV := .agg [i64 0, i64 0, .sc (.string ⟨#[]⟩), .vec []]
theorem okV_mono : ∀ (v : Val) {d d' : Int}, d ≤ d' → okV d v = true → okV d' v = true
  | .mk k n t l, d, d', hd, h => by
    simp only [okV, Bool.and_eq_true, decide_eq_true_eq] at h ⊢
    obtain ⟨h1, h2⟩ := h
    refine ⟨by omega, ?_⟩
    by_cases c : k = 4
    · subst c
      simp only [okL_all] at h2 ⊢
      simp at h2 ⊢
      exact ⟨h2.1, fun v hv => okV_mono v (by omega) (h2.2 v hv)⟩
    · simp only [c, if_false] at h2 ⊢
      exact h2
  termination_by v => SizeOf.sizeOf v
theorem set_step (a : List CV) (b z : CV) (m : Nat) : (a ++ List.replicate (m + 1) z).set a.length b = (a ++ [b]) ++ List.replicate m z := by
  rw [List.set_append_right _ _ (Nat.le_refl _), Nat.sub_self, List.replicate_succ, List.set_cons_zero]; simp
theorem cloneVs_c {vl : List Val} (ih : ∀ w ∈ vl, ∀ σ, CRun Tryz.prog 78 [w.cv] σ (· = .ret w.cv σ)) (hlen : vl.length ≤ 100) {σ : Heap} : CRun Tryz.prog 108 [.vec (Val.cvs vl)] σ (· = .ret (.vec (Val.cvs vl)) σ) := by
  have e3 := cvs_length vl
  by_cases hz : vl = []
  · subst hz
    refine crun_of (X := X) X_ok X_sat (body := bodyOf Tryz.f108) Tryz.func108 rfl (by kernel_rfl) (by kernel_rfl) ?_
    rw [Tryz.ntmps108]
    conv => whnf
    repeat' (first | refine Fork.yb ?_ | refine finGo ?_) <;> try (conv => whnf)
    all_goals rfl
  have hpos : ¬ vl.length = 0 := fun e => hz (List.eq_nil_of_length_eq_zero e)
  suffices hs : CRun Tryz.prog 108 [.vec (Val.cvs vl)] σ (fun out => ∃ l, σ l = none ∧ out = .ret (.grow l (Val.cvs vl).length (Val.cvs vl).length) (upd σ l (.arr 55 4 (Val.cvs vl).length (Val.cvs vl)))) by
    refine hs.freeze fun out ⟨l, hl, e⟩ => ?_
    subst e
    refine ⟨.ret (.vec (Val.cvs vl)) σ, ⟨(Sub.refl σ).upd hl, [l], .inl (.one ?_), fun l' h' => by rw [List.mem_singleton.1 h']; exact hl⟩, rfl⟩
    have := Frz.grow (σ := upd σ l (.arr 55 4 (Val.cvs vl).length (Val.cvs vl))) l (Val.cvs vl).length (Val.cvs vl).length _ _ _ (upd_same _ _ _) (Nat.le_refl _)
    rwa [List.take_of_length_le (Nat.le_refl _)] at this
  refine crun_of (X := G [11]) (G_ok _) (G_sat _) (body := bodyOf Tryz.f108) Tryz.func108 rfl (by kernel_rfl) (by kernel_rfl) ?_
  rw [Tryz.ntmps108]
  conv => whnf
  repeat' (first | refine Fork.np ?_ | refine Need.go ?_ | refine AllocN.go (fun l hl => ?_)) <;> try (conv => whnf)
  refine LoopN.rule (α := Nat) (fun i => ⟨26, [(2, .nil), (3, .grow l (Val.cvs vl).length (Val.cvs vl).length), (12, .vec (Val.cvs vl)), (13, i64 (Val.cvs vl).length), (14, i64 i)], []⟩)
    (fun i => upd σ l (.arr 55 4 (Val.cvs vl).length (Val.cvs (vl.take i) ++ List.replicate ((Val.cvs vl).length - i) zeroC))) (fun i => vl.length - i) (fun i => i ≤ vl.length) ?_ 0 (by omega) ?_
  · intro i K hi0 hK
    try dsimp only at hi0 ⊢
    have hgl : (upd σ l (.arr 55 4 (Val.cvs vl).length (Val.cvs (vl.take i) ++ List.replicate ((Val.cvs vl).length - i) zeroC))) l = some (.arr 55 4 (Val.cvs vl).length (Val.cvs (vl.take i) ++ List.replicate ((Val.cvs vl).length - i) zeroC)) := upd_same _ _ _
    have eH : ∀ B, upd σ l B = upd (upd σ l (.arr 55 4 (Val.cvs vl).length (Val.cvs (vl.take i) ++ List.replicate ((Val.cvs vl).length - i) zeroC))) l B := fun B => (upd_upd _ _ _ _).symm
    have e4 := cvs_length (vl.take i)
    rw [List.length_take, Nat.min_eq_left hi0] at e4
    by_cases hi : i < vl.length
    · obtain ⟨⟨wk, wn, wt, wl⟩, hm, hg, htk⟩ := cvs_get hi
      have key := set_step (Val.cvs (vl.take i)) (Val.cv (.mk wk wn wt wl)) zeroC ((Val.cvs vl).length - (i + 1))
      rw [show (Val.cvs vl).length - (i + 1) + 1 = (Val.cvs vl).length - i by omega, e4] at key
      have hx : (Val.cvs (vl.take i) ++ List.replicate ((Val.cvs vl).length - i) zeroC)[(i : Int).toNat]? = some zeroC := by
        rw [Int.toNat_natCast, List.getElem?_append_right (by omega), e4, Nat.sub_self, List.getElem?_replicate, if_pos (by omega)]
      have hK := hK (i + 1)
      try dsimp only at hK
      rw [htk, cvs_append, show Val.cvs [.mk wk wn wt wl] = [Val.cv (.mk wk wn wt wl)] from rfl, ← key, eH] at hK
      clear key eH
      have c1 := fun τ => ih _ hm τ
      generalize upd σ l (.arr 55 4 (Val.cvs vl).length (Val.cvs (vl.take i) ++ List.replicate ((Val.cvs vl).length - i) zeroC)) = τ at hgl hK ⊢
      generalize Val.cvs (vl.take i) ++ List.replicate ((Val.cvs vl).length - i) zeroC = xs at hgl hK hx
      conv => whnf
      repeat' (first | (refine CallN.one (c1 τ) ?_) | refine Fork.yp ?_ | refine GetN.go ?_ | refine Need.go ?_ | refine ElemN.go ?_ | refine ExtN.ext ?_) <;> try (conv => whnf)
      refine hK _ _ (by omega) (by omega) ?_
      (refine ⟨rfl, ?_, ?_, Sub.refl _⟩ <;> repeat' (first | exact EnvLe.nil | exact LocsLe.nil | refine EnvLe.cons _ _ _ ?_ ?_ | refine LocsLe.cons _ _ _ ?_ ?_ | exact CVle.same _ rfl | exact CVle.vec _ _ | exact CVle.nil | exact CVle.tok _ _ _ rfl rfl | exact ObLe.tok _ _ rfl | exact CVles.nil | refine CVles.cons ?_ ?_ | exact ObLe.same _ rfl rfl | refine ObLe.cells rfl ?_))
    · have e6 : vl.take i = vl := List.take_of_length_le (by omega)
      rw [e6, show (Val.cvs vl).length - i = 0 by omega, List.replicate_zero, List.append_nil]
      conv => whnf
      repeat' (first | refine Fork.np ?_ | refine finGo ?_) <;> try (conv => whnf)
      exact ⟨l, hl, rfl⟩
  · (refine ⟨rfl, ?_, ?_, Sub.refl _⟩ <;> repeat' (first | exact EnvLe.nil | exact LocsLe.nil | refine EnvLe.cons _ _ _ ?_ ?_ | refine LocsLe.cons _ _ _ ?_ ?_ | exact CVle.same _ rfl | exact CVle.vec _ _ | exact CVle.nil | exact CVle.tok _ _ _ rfl rfl | exact ObLe.tok _ _ rfl | exact CVles.nil | refine CVles.cons ?_ ?_ | exact ObLe.same _ rfl rfl | refine ObLe.cells rfl ?_))
theorem cloneV_c : ∀ (v : Val), Tame v → okV 3 v = true → ∀ (σ : Heap), CRun Tryz.prog 78 [v.cv] σ (· = .ret v.cv σ)
  | .mk k n t l, hv, ho, σ => by
    have c0 := implOk_c (σ := σ) hv
    rw [ho] at c0
    have hl : ∀ w ∈ l, okV 3 w = true := by
      by_cases h4 : k = 4
      · subst h4
        have := okV_list ho
        exact fun v hv => okV_mono v (by omega) (this v hv)
      · by_cases h3 : k = 3
        · subst h3
          rw [(okV_text ho).2]; simp
        · rw [(okV_num ho h3 h4).2]; simp
    have c1 := cloneVs_c (vl := l) (fun w hw => cloneV_c w (hv.inv.2.2.2.2 w hw) (hl w hw)) hv.inv.2.2.2.1 (σ := σ)
    refine crun_of (X := X) X_ok X_sat (body := bodyOf Tryz.f78) Tryz.func78 rfl (by kernel_rfl) (by kernel_rfl) ?_
    rw [Tryz.ntmps78]
    conv => whnf
    repeat' (first | (refine CallN.one c0 ?_) | (refine CallN.one c1 ?_) | refine OrdN.one ?_ | refine Need.draw ?_ | refine ExtN.ext ?_ | refine finGo ?_) <;> try (conv => whnf)
    all_goals rfl
  termination_by v => SizeOf.sizeOf v
def seenOf (l : List Pr) : List (MK × Value) := l.map fun p => (.s p.name, .int .i64 1)
theorem seen_none : ∀ {l : List Pr} {s : ByteArray} {k : Nat}, (∀ p ∈ l, ¬ p.name = s) → mpFind (.s s) (seenOf l) k = none
  | [], _, _, _ => rfl
  | p :: r, s, k, h => by
    have h1 := h p (by simp)
    show (if MK.s s = MK.s p.name then _ else mpFind (.s s) (seenOf r) (k + 1)) = none
    rw [if_neg (fun e => h1 (by cases e; rfl)), seen_none fun q hq => h q (by simp [hq])]
theorem seen_some : ∀ {l : List Pr} {s : ByteArray} {k : Nat}, (¬ ∀ p ∈ l, ¬ p.name = s) → ∃ j, mpFind (.s s) (seenOf l) k = some (j, .int .i64 1)
  | [], _, _, h => absurd (by simp) h
  | p :: r, s, k, h => by
    show ∃ j, (if MK.s s = MK.s p.name then some (k, Value.int .i64 1) else mpFind (.s s) (seenOf r) (k + 1)) = _
    by_cases hp : p.name = s
    · exact ⟨k, by rw [if_pos (by rw [hp])]⟩
    · obtain ⟨j, hj⟩ := seen_some (l := r) (s := s) (k := k + 1) (fun hr => h (fun q hq => by
        rcases List.mem_cons.1 hq with rfl | hq
        · exact hp
        · exact hr q hq))
      exact ⟨j, by rw [if_neg (fun e => hp (by cases e; rfl)), hj]⟩
theorem placeS_first : ∀ {l : List Pr} {i k : Nat} {p : Pr}, l[i]? = some p → (placeS l p.name k = ((k + i : Nat) : Int) ↔ ∀ q ∈ l.take i, ¬ q.name = p.name)
  | [], _, _, _, h => by simp at h
  | x :: r, 0, k, p, h => by simp at h; subst h; simp [placeS]
  | x :: r, i + 1, k, p, h => by
    have ih := placeS_first (l := r) (i := i) (k := k + 1) (p := p) (by simpa using h)
    simp only [placeS, List.take_succ_cons, List.mem_cons, forall_eq_or_imp]
    by_cases hx : x.name = p.name
    · simp only [hx, if_true, not_true, false_and, iff_false]
      omega
    · rw [if_neg hx]
      constructor
      · intro e; exact ⟨hx, ih.1 (by rw [e]; omega)⟩
      · intro e; rw [ih.2 e.2]; omega
theorem seen_take {l : List Pr} {i : Nat} {p : Pr} (h : l[i]? = some p) : seenOf (l.take (i + 1)) = seenOf (l.take i) ++ [(.s p.name, .int .i64 1)] := by
  unfold seenOf
  rw [List.take_add_one, h]; simp
theorem finS {raw : List CV} {v : CV} {σ τ : Heap} {post : COut → Prop} (hs : Sub σ τ) (h : post (.ret v σ)) : Fin raw v τ post := .ret σ hs h
theorem cellsOk_c {σ : Heap} {ps : List Pr} (hlen : ps.length ≤ 1000) (ht : ∀ s ∈ ps, PrTame s) : CRun Tryz.prog 37 [.vec (prs ps)] σ (· = .ret (.sc (.bool (cellsOk ps))) σ) := by
  have e3 := prs_len ps
  have no : ∀ i, i < ps.length → cellAt ps i = false → COut.ret (.sc (.bool false)) σ = .ret (.sc (.bool (cellsOk ps))) σ := fun i hi h => ansB (by unfold cellsOk; rw [range_no hi h])
  refine crun_of (X := X) X_ok X_sat (body := bodyOf Tryz.f37) Tryz.func37 rfl (by kernel_rfl) (by kernel_rfl) ?_
  rw [Tryz.ntmps37]
  conv => whnf
  repeat' (first | refine AllocN.go (fun l hl => ?_)) <;> try (conv => whnf)
  refine LoopN.rule (α := Nat) (fun i => ⟨36, [(0, .vec (prs ps)), (2, .sc (.bool false)), (3, .map l), (7, .vec (prs ps)), (8, i64 (prs ps).length), (9, i64 i)], []⟩)
    (fun i => upd σ l (.mp true (seenOf (ps.take i)))) (fun i => ps.length - i) (fun i => i ≤ ps.length ∧ ∀ j, j < i → cellAt ps j = true) ?_ 0 ⟨by omega, by omega⟩ ?_
  · rintro i K ⟨h1, h2⟩ hK
    try dsimp only at h1 h2 ⊢
    have hsub : Sub σ (upd σ l (.mp true (seenOf (ps.take i)))) := (Sub.refl σ).upd hl
    have hgl : (upd σ l (.mp true (seenOf (ps.take i)))) l = some (.mp true (seenOf (ps.take i))) := upd_same _ _ _
    have eH : ∀ B, upd σ l B = upd (upd σ l (.mp true (seenOf (ps.take i)))) l B := fun B => (upd_upd _ _ _ _).symm
    have hK := hK (i + 1)
    try dsimp only at hK
    rw [eH] at hK
    clear eH
    generalize upd σ l (.mp true (seenOf (ps.take i))) = τ at hsub hgl hK ⊢
    by_cases hi : i < ps.length
    · obtain ⟨s, vk, vn, vt, vl, hm, hg, hg'⟩ := prs_at hi
      rw [seen_take hg] at hK
      have c1 := nameOk_c (σ := τ) (t := s) (by have := (ht _ hm).name; dsimp only at this; omega)
      have c2 := implOk_c (σ := τ) (ht _ hm).val
      have no := no i hi
      have e := cellAt_of hg
      try dsimp only at e hK
      cases hn : nameOk s <;> rw [hn] at c1 e
      · conv => whnf
        repeat' (first | (refine CallN.one c1 ?_) | (refine finS hsub ?_) | refine Fork.yp ?_ | refine Need.go ?_ | refine ElemN.go ?_ | refine ExtN.ext ?_) <;> try (conv => whnf)
        exact no e
      cases hv : okV 3 (.mk vk vn vt vl) <;> rw [hv] at c2 e
      · conv => whnf
        repeat' (first | (refine CallN.one c1 ?_) | (refine CallN.one c2 ?_) | (refine finS hsub ?_) | refine Fork.yp ?_ | refine Need.go ?_ | refine ElemN.go ?_ | refine ExtN.ext ?_) <;> try (conv => whnf)
        exact no e
      have hp := placeS_first (k := 0) hg
      rw [Nat.zero_add] at hp
      dsimp only at hp
      by_cases hq : ∀ q ∈ ps.take i, ¬ q.name = s
      · rw [decide_eq_true (hp.2 hq)] at e
        have hf := seen_none (k := 0) hq
        conv => whnf
        repeat' (first | (refine CallN.one c1 ?_) | (refine CallN.one c2 ?_) | (refine MapN.go ?_ hf) | refine Fork.yp ?_ | refine Fork.np ?_ | refine GetN.go ?_ | refine Need.go ?_ | refine ElemN.go ?_ | refine ExtN.ext ?_) <;> try (conv => whnf)
        refine hK _ _ ⟨by omega, stepAll h2 e⟩ (by omega) ?_
        (refine ⟨rfl, ?_, ?_, Sub.refl _⟩ <;> repeat' (first | exact EnvLe.nil | exact LocsLe.nil | refine EnvLe.cons _ _ _ ?_ ?_ | refine LocsLe.cons _ _ _ ?_ ?_ | exact CVle.same _ rfl | exact CVle.vec _ _ | exact CVle.nil | exact CVle.tok _ _ _ rfl rfl | exact ObLe.tok _ _ rfl | exact CVles.nil | refine CVles.cons ?_ ?_ | exact ObLe.same _ rfl rfl | refine ObLe.cells rfl ?_))
      · rw [decide_eq_false (fun x => hq (hp.1 x))] at e
        obtain ⟨j, hf⟩ := seen_some (k := 0) hq
        conv => whnf
        repeat' (first | (refine CallN.one c1 ?_) | (refine CallN.one c2 ?_) | (refine finS hsub ?_) | (refine MapN.go ?_ hf) | refine Fork.yp ?_ | refine GetN.go ?_ | refine Need.go ?_ | refine ElemN.go ?_ | refine ExtN.ext ?_) <;> try (conv => whnf)
        exact no e
    · have hall : ∀ i, i < ps.length → cellAt ps i = true := fun j hj => h2 j (by omega)
      conv => whnf
      repeat' (first | (refine finS hsub ?_) | refine Fork.np ?_) <;> try (conv => whnf)
      exact ansB (by unfold cellsOk; rw [range_yes hall])
  · (refine ⟨rfl, ?_, ?_, Sub.refl _⟩ <;> repeat' (first | exact EnvLe.nil | exact LocsLe.nil | refine EnvLe.cons _ _ _ ?_ ?_ | refine LocsLe.cons _ _ _ ?_ ?_ | exact CVle.same _ rfl | exact CVle.vec _ _ | exact CVle.nil | exact CVle.tok _ _ _ rfl rfl | exact ObLe.tok _ _ rfl | exact CVles.nil | refine CVles.cons ?_ ?_ | exact ObLe.same _ rfl rfl | refine ObLe.cells rfl ?_))
theorem caught_nil {σ : Heap} : CRun Tryz.prog 42 [.sc .nilIface] σ (· = .ret (i64 0) σ) := by
  refine crun_of (X := X) X_ok X_sat (body := bodyOf Tryz.f42) Tryz.func42 rfl (by kernel_rfl) (by kernel_rfl) ?_
  rw [Tryz.ntmps42]
  conv => whnf
  repeat' (first | refine finGo ?_) <;> try (conv => whnf)
  all_goals rfl
theorem caught_tr {σ : Heap} {c : Int} : CRun Tryz.prog 42 [.iface 120 (i64 c)] σ (· = .ret (i64 c) σ) := by
  refine crun_of (X := X) X_ok X_sat (body := bodyOf Tryz.f42) Tryz.func42 rfl (by kernel_rfl) (by kernel_rfl) ?_
  rw [Tryz.ntmps42]
  conv => whnf
  repeat' (first | refine finGo ?_) <;> try (conv => whnf)
  all_goals rfl
def leafR (g : Gr) (row given : List Pr) : Exp → Rs
  | .mk k v s c _ => if k = 1 then .ok v else match lookP (if k = 4 then given else row) s with
    | none => .err 3
    | some w => if k = 3 then askR g w c else .ok w
def CellsOk (l : List Pr) : Prop := ∀ p ∈ l, okV 3 p.val = true
theorem pred_at {α : Type} {l : List α} {j : Nat} {x : α} (h : l[j]? = some x) : l[(((j + 1 : Nat) : Int) - 1).toNat]? = some x := by rw [toNat_pred]; exact h
theorem l1In_v {σ : Heap} {n lo hi : Int} {b : Bool} (h : decide (lo ≤ n ∧ n ≤ hi) = b) : CRun Tryz.prog 32 [i64 n, i64 lo, i64 hi] σ (· = .ret (.sc (.bool b)) σ) := h ▸ in_c
set_option maxHeartbeats 2000000 in
theorem specGraph_c {σ : Heap} {g : Gr} (hg : GrTame g) : CRun Tryz.prog 9 [g.cv] σ (· = .ret (.sc (.bool (graphOk g))) σ) := by
  obtain ⟨hnl, hel, hnn, hne, hns, hes⟩ := hg
  have e1 := nds_len g.nodes
  have e2 := eds_len g.edges
  have e3 := nids_len g.nodes
  have e4 := eids_len g.edges
  refine crun_of (X := X) X_ok X_sat (body := bodyOf Tryz.f9) Tryz.func9 rfl (by kernel_rfl) (by kernel_rfl) ?_
  rw [Tryz.ntmps9]
  conv => whnf
  repeat' (first | refine OrdN.one ?_ | refine Fork.yp ?_ | refine Fork.np ?_ | refine Fork.ny ?_ | refine Fork.nn ?_ | refine Fork.yb ?_ | refine Fork.nb ?_ | refine Fork.dp (fun h => ?_) (fun h => ?_) | refine Fork.dn (fun h => ?_) (fun h => ?_) | (refine Fork.mk (fun h => ?_) (fun h => ?_) <;> simp only [decide_eq_true_eq, decide_eq_false_iff_not, Bool.not_eq_true', Bool.not_eq_false', Bool.or_eq_true, Bool.or_eq_false_iff] at h) | refine GetN.go ?_ | refine Need.ap1 ?_ | refine Need.ap0 ?_ | refine Need.go ?_ | refine Need.draw ?_ | refine ElemN.go ?_ | refine ExtN.ext ?_ | refine ExtN.wr ?_ | refine AllocN.go (fun l hl => ?_) | refine finGo ?_) <;> try (conv => whnf)
  refine LoopN.rule (α := Nat) (fun i => ⟨135, [(1, .ptr (.f 1) 0), (2, .sc (.bool false)), (3, i64 i)],
      [(1, .cells [.vec (nds g.nodes), .vec (eds g.edges), i64 g.nn, i64 g.ne])]⟩)
    (fun _ => σ) (fun i => g.nodes.length - i) (fun i => i ≤ g.nodes.length ∧ (∀ j, j < i → idAt (nids g.nodes) g.nn j = true) ∧ ∀ j v, j < i → g.nodes[j]? = some v → nodeOkB v = true) ?_ 0 ⟨by omega, by omega, by omega⟩ ?_
  rotate_left
  · (refine ⟨rfl, ?_, ?_, Sub.refl _⟩ <;> repeat' (first | exact EnvLe.nil | exact LocsLe.nil | refine EnvLe.cons _ _ _ ?_ ?_ | refine LocsLe.cons _ _ _ ?_ ?_ | exact CVle.same _ rfl | exact CVle.vec _ _ | exact CVle.nil | exact CVle.tok _ _ _ rfl rfl | exact ObLe.tok _ _ rfl | exact CVles.nil | refine CVles.cons ?_ ?_ | exact ObLe.same _ rfl rfl | refine ObLe.cells rfl ?_))
  rintro i K ⟨h1, h0, h2⟩ hK
  dsimp only at h1 h0 h2 ⊢
  by_cases hi : i < g.nodes.length
  · obtain ⟨d, ls, ps, hm, hgg, hg', hd⟩ := nds_at hi
    obtain ⟨t1, t2, t3, t4⟩ := hns _ hm
    have c1 := l2Labels_c (σ := σ) t1 t2
    have c2 := l2Props_c (σ := σ) t3 t4
    dsimp only at c1 c2
    have noI : idAt (nids g.nodes) g.nn i = false → graphOk g = false := fun h => g_nasc (by unfold ascOk; exact range_no (by omega) h)
    by_cases m0 : 0 ≤ d ∧ d ≤ g.nn - 1
    case neg =>
      have ci := l1In_v (σ := σ) (decide_eq_false m0)
      have hno : idAt (nids g.nodes) g.nn i = false := by
        cases i with
        | zero => rw [idAt_zero hd, decide_eq_false m0]
        | succ j =>
          obtain ⟨d2, ls2, ps2, hm2, hgg2, hg2', hd2⟩ := nds_at (l := g.nodes) (i := j) (by omega)
          rw [idAt_succ hd hd2, decide_eq_false m0]; rfl
      conv => whnf
      repeat' (first | (refine CallN.one ci ?_) | refine OrdN.one ?_ | refine Fork.yp ?_ | refine Need.go ?_ | refine Need.draw ?_ | refine ElemN.go ?_ | refine ExtN.ext ?_ | refine finGo ?_) <;> try (conv => whnf)
      exact ansB (noI hno)
    have ci := l1In_v (σ := σ) (decide_eq_true m0)
    cases m1 : labelsOk ls <;> rw [m1] at c1
    · conv => whnf
      repeat' (first | (refine CallN.one ci ?_) | (refine CallN.one c1 ?_) | refine OrdN.one ?_ | refine Fork.yp ?_ | refine Need.go ?_ | refine Need.draw ?_ | refine ElemN.go ?_ | refine ExtN.ext ?_ | refine finGo ?_) <;> try (conv => whnf)
      exact ansB (g_node hm (by simp only [nodeOkB]; rw [m1]; rfl))
    cases m2 : propsOk ps <;> rw [m2] at c2
    · conv => whnf
      repeat' (first | (refine CallN.one ci ?_) | (refine CallN.one c1 ?_) | (refine CallN.one c2 ?_) | refine OrdN.one ?_ | refine Fork.yp ?_ | refine Need.go ?_ | refine Need.draw ?_ | refine ElemN.go ?_ | refine ExtN.ext ?_ | refine finGo ?_) <;> try (conv => whnf)
      exact ansB (g_node hm (by simp only [nodeOkB]; rw [m1, m2]; rfl))
    have hnode : nodeOkB ⟨d, ls, ps⟩ = true := by simp only [nodeOkB]; rw [m1, m2]; rfl
    cases i with
    | zero =>
      conv => whnf
      repeat' (first | (refine CallN.one ci ?_) | (refine CallN.one c1 ?_) | (refine CallN.one c2 ?_) | refine OrdN.one ?_ | refine Fork.yp ?_ | refine Fork.np ?_ | refine Need.go ?_ | refine Need.draw ?_ | refine ElemN.go ?_ | refine ExtN.ext ?_) <;> try (conv => whnf)
      refine hK 1 _ _ ⟨by omega, stepAll h0 (by rw [idAt_zero hd, decide_eq_true m0]), stepG h2 hgg hnode⟩ (by omega) ?_
      (refine ⟨rfl, ?_, ?_, Sub.refl _⟩ <;> repeat' (first | exact EnvLe.nil | exact LocsLe.nil | refine EnvLe.cons _ _ _ ?_ ?_ | refine LocsLe.cons _ _ _ ?_ ?_ | exact CVle.same _ rfl | exact CVle.vec _ _ | exact CVle.nil | exact CVle.tok _ _ _ rfl rfl | exact ObLe.tok _ _ rfl | exact CVles.nil | refine CVles.cons ?_ ?_ | exact ObLe.same _ rfl rfl | refine ObLe.cells rfl ?_))
    | succ j =>
      obtain ⟨d2, ls2, ps2, hm2, hgg2, hg2', hd2⟩ := nds_at (l := g.nodes) (i := j) (by omega)
      have hg3 := pred_at hg2'
      have key := idAt_succ (e := g.nn) hd hd2
      rw [decide_eq_true m0] at key
      by_cases m3 : d2 < d
      · rw [decide_eq_true m3] at key
        conv => whnf
        repeat' (first | (refine CallN.one ci ?_) | (refine CallN.one c1 ?_) | (refine CallN.one c2 ?_) | refine OrdN.one ?_ | refine Fork.yp ?_ | refine Fork.np ?_ | refine Need.go ?_ | refine Need.draw ?_ | refine ElemN.go ?_ | refine ExtN.ext ?_) <;> try (conv => whnf)
        refine hK (j + 2) _ _ ⟨by omega, stepAll h0 key, stepG h2 hgg hnode⟩ (by omega) ?_
        (refine ⟨rfl, ?_, ?_, Sub.refl _⟩ <;> repeat' (first | exact EnvLe.nil | exact LocsLe.nil | refine EnvLe.cons _ _ _ ?_ ?_ | refine LocsLe.cons _ _ _ ?_ ?_ | exact CVle.same _ rfl | exact CVle.vec _ _ | exact CVle.nil | exact CVle.tok _ _ _ rfl rfl | exact ObLe.tok _ _ rfl | exact CVles.nil | refine CVles.cons ?_ ?_ | exact ObLe.same _ rfl rfl | refine ObLe.cells rfl ?_))
      · rw [decide_eq_false m3] at key
        conv => whnf
        repeat' (first | (refine CallN.one ci ?_) | (refine CallN.one c1 ?_) | (refine CallN.one c2 ?_) | refine OrdN.one ?_ | refine Fork.yp ?_ | refine Need.go ?_ | refine Need.draw ?_ | refine ElemN.go ?_ | refine ExtN.ext ?_ | refine finGo ?_) <;> try (conv => whnf)
        exact ansB (noI key)
  have hasc : ascOk (nids g.nodes) g.nn = true := by unfold ascOk; exact range_yes fun j hj => h0 j (by omega)
  have hall : g.nodes.all nodeOkB = true := all_of fun j v hj => h2 j v (by omega)
  conv => whnf
  repeat' (first | refine Fork.np ?_) <;> try (conv => whnf)
  refine LoopN.rule (α := Nat) (fun i => ⟨135, [(1, .ptr (.f 1) 0), (2, .sc (.bool false)), (5, i64 i)],
      [(1, .cells [.vec (nds g.nodes), .vec (eds g.edges), i64 g.nn, i64 g.ne])]⟩)
    (fun _ => σ) (fun i => g.edges.length - i) (fun i => i ≤ g.edges.length ∧ (∀ j, j < i → idAt (eids g.edges) g.ne j = true) ∧ ∀ j v, j < i → g.edges[j]? = some v → edgeOkB (nids g.nodes) v = true) ?_ 0 ⟨by omega, by omega, by omega⟩ ?_
  rotate_left
  · (refine ⟨rfl, ?_, ?_, Sub.refl _⟩ <;> repeat' (first | exact EnvLe.nil | exact LocsLe.nil | refine EnvLe.cons _ _ _ ?_ ?_ | refine LocsLe.cons _ _ _ ?_ ?_ | exact CVle.same _ rfl | exact CVle.vec _ _ | exact CVle.nil | exact CVle.tok _ _ _ rfl rfl | exact ObLe.tok _ _ rfl | exact CVles.nil | refine CVles.cons ?_ ?_ | exact ObLe.same _ rfl rfl | refine ObLe.cells rfl ?_))
  clear hK h1 h2 hi K h0
  clear i
  rintro i K ⟨h1, h0, h2⟩ hK
  dsimp only at h1 h0 h2 ⊢
  by_cases hi : i < g.edges.length
  · obtain ⟨d, k, a, b, ps, hm, hgg, hg', hd⟩ := eds_at hi
    obtain ⟨t1, t3, t4⟩ := hes _ hm
    dsimp only at t1 t3 t4
    have c1 := l2Name_c (σ := σ) (t := k) (by omega)
    have c2 := l2Props_c (σ := σ) t3 t4
    have c3 := fun d' => nl2_c (σ := σ) (g := g) (d' := d') hnl
    have noI : idAt (eids g.edges) g.ne i = false → graphOk g = false := fun h => g_easc (by unfold ascOk; exact range_no (by omega) h)
    by_cases m0 : 0 ≤ d ∧ d ≤ g.ne - 1
    case neg =>
      have ci := l1In_v (σ := σ) (decide_eq_false m0)
      have hno : idAt (eids g.edges) g.ne i = false := by
        cases i with
        | zero => rw [idAt_zero hd, decide_eq_false m0]
        | succ j =>
          obtain ⟨d2, k2, a2, b2, ps2, hm2, hgg2, hg2', hd2⟩ := eds_at (l := g.edges) (i := j) (by omega)
          rw [idAt_succ hd hd2, decide_eq_false m0]; rfl
      conv => whnf
      repeat' (first | (refine CallN.one ci ?_) | refine OrdN.one ?_ | refine Fork.yp ?_ | refine Need.go ?_ | refine Need.draw ?_ | refine ElemN.go ?_ | refine ExtN.ext ?_ | refine finGo ?_) <;> try (conv => whnf)
      exact ansB (noI hno)
    have ci := l1In_v (σ := σ) (decide_eq_true m0)
    cases m1 : nameOk k <;> rw [m1] at c1
    · conv => whnf
      repeat' (first | (refine CallN.one ci ?_) | (refine CallN.one c1 ?_) | refine OrdN.one ?_ | refine Fork.yp ?_ | refine Need.go ?_ | refine Need.draw ?_ | refine ElemN.go ?_ | refine ExtN.ext ?_ | refine finGo ?_) <;> try (conv => whnf)
      exact ansB (g_edge hm (by simp only [edgeOkB]; rw [m1]; rfl))
    cases m2 : propsOk ps <;> rw [m2] at c2
    · conv => whnf
      repeat' (first | (refine CallN.one ci ?_) | (refine CallN.one c1 ?_) | (refine CallN.one c2 ?_) | refine OrdN.one ?_ | refine Fork.yp ?_ | refine Need.go ?_ | refine Need.draw ?_ | refine ElemN.go ?_ | refine ExtN.ext ?_ | refine finGo ?_) <;> try (conv => whnf)
      exact ansB (g_edge hm (by simp only [edgeOkB]; rw [m1, m2]; rfl))
    by_cases m3 : 0 ≤ placeF (nids g.nodes) a 0
    case neg =>
      conv => whnf
      repeat' (first | (refine CallN.one ci ?_) | (refine CallN.one c1 ?_) | (refine CallN.one c2 ?_) | (refine CallN.one (c3 _) ?_) | refine OrdN.one ?_ | refine Fork.yp ?_ | refine Need.go ?_ | refine Need.draw ?_ | refine ElemN.go ?_ | refine ExtN.ext ?_ | refine finGo ?_) <;> try (conv => whnf)
      exact ansB (g_edge hm (by simp only [edgeOkB]; rw [m1, m2, decide_eq_false m3]; rfl))
    by_cases m4 : 0 ≤ placeF (nids g.nodes) b 0
    case neg =>
      conv => whnf
      repeat' (first | (refine CallN.one ci ?_) | (refine CallN.one c1 ?_) | (refine CallN.one c2 ?_) | (refine CallN.one (c3 _) ?_) | refine OrdN.one ?_ | refine Fork.yp ?_ | refine Fork.np ?_ | refine Need.go ?_ | refine Need.draw ?_ | refine ElemN.go ?_ | refine ExtN.ext ?_ | refine finGo ?_) <;> try (conv => whnf)
      exact ansB (g_edge hm (by simp only [edgeOkB]; rw [m1, m2, decide_eq_true m3, decide_eq_false m4]; rfl))
    have hedge : edgeOkB (nids g.nodes) ⟨d, k, a, b, ps⟩ = true := by simp only [edgeOkB]; rw [m1, m2, decide_eq_true m3, decide_eq_true m4]; rfl
    cases i with
    | zero =>
      conv => whnf
      repeat' (first | (refine CallN.one ci ?_) | (refine CallN.one c1 ?_) | (refine CallN.one c2 ?_) | (refine CallN.one (c3 _) ?_) | refine OrdN.one ?_ | refine Fork.yp ?_ | refine Fork.np ?_ | refine Need.go ?_ | refine Need.draw ?_ | refine ElemN.go ?_ | refine ExtN.ext ?_) <;> try (conv => whnf)
      refine hK 1 _ _ ⟨by omega, stepAll h0 (by rw [idAt_zero hd, decide_eq_true m0]), stepG h2 hgg hedge⟩ (by omega) ?_
      (refine ⟨rfl, ?_, ?_, Sub.refl _⟩ <;> repeat' (first | exact EnvLe.nil | exact LocsLe.nil | refine EnvLe.cons _ _ _ ?_ ?_ | refine LocsLe.cons _ _ _ ?_ ?_ | exact CVle.same _ rfl | exact CVle.vec _ _ | exact CVle.nil | exact CVle.tok _ _ _ rfl rfl | exact ObLe.tok _ _ rfl | exact CVles.nil | refine CVles.cons ?_ ?_ | exact ObLe.same _ rfl rfl | refine ObLe.cells rfl ?_))
    | succ j =>
      obtain ⟨d2, k2, a2, b2, ps2, hm2, hgg2, hg2', hd2⟩ := eds_at (l := g.edges) (i := j) (by omega)
      have hg3 := pred_at hg2'
      have key := idAt_succ (e := g.ne) hd hd2
      rw [decide_eq_true m0] at key
      by_cases m5 : d2 < d
      · rw [decide_eq_true m5] at key
        conv => whnf
        repeat' (first | (refine CallN.one ci ?_) | (refine CallN.one c1 ?_) | (refine CallN.one c2 ?_) | (refine CallN.one (c3 _) ?_) | refine OrdN.one ?_ | refine Fork.yp ?_ | refine Fork.np ?_ | refine Need.go ?_ | refine Need.draw ?_ | refine ElemN.go ?_ | refine ExtN.ext ?_) <;> try (conv => whnf)
        refine hK (j + 2) _ _ ⟨by omega, stepAll h0 key, stepG h2 hgg hedge⟩ (by omega) ?_
        (refine ⟨rfl, ?_, ?_, Sub.refl _⟩ <;> repeat' (first | exact EnvLe.nil | exact LocsLe.nil | refine EnvLe.cons _ _ _ ?_ ?_ | refine LocsLe.cons _ _ _ ?_ ?_ | exact CVle.same _ rfl | exact CVle.vec _ _ | exact CVle.nil | exact CVle.tok _ _ _ rfl rfl | exact ObLe.tok _ _ rfl | exact CVles.nil | refine CVles.cons ?_ ?_ | exact ObLe.same _ rfl rfl | refine ObLe.cells rfl ?_))
      · rw [decide_eq_false m5] at key
        conv => whnf
        repeat' (first | (refine CallN.one ci ?_) | (refine CallN.one c1 ?_) | (refine CallN.one c2 ?_) | (refine CallN.one (c3 _) ?_) | refine OrdN.one ?_ | refine Fork.yp ?_ | refine Fork.np ?_ | refine Need.go ?_ | refine Need.draw ?_ | refine ElemN.go ?_ | refine ExtN.ext ?_ | refine finGo ?_) <;> try (conv => whnf)
        exact ansB (noI key)
  have hasce : ascOk (eids g.edges) g.ne = true := by unfold ascOk; exact range_yes fun j hj => h0 j (by omega)
  have halle : g.edges.all (edgeOkB (nids g.nodes)) = true := all_of fun j v hj => h2 j v (by omega)
  by_cases hb : (0 ≤ g.nn ∧ g.nn ≤ 1000000000) ∧ (0 ≤ g.ne ∧ g.ne ≤ 1000000000) ∧ g.nodes.length ≤ 12 ∧ g.edges.length ≤ 16
  · have b1 := l1In_v (σ := σ) (decide_eq_true hb.1)
    have b2 := l1In_v (σ := σ) (decide_eq_true hb.2.1)
    conv => whnf
    repeat' (first | (refine CallN.one b1 ?_) | (refine CallN.one b2 ?_) | refine Fork.yp ?_ | refine Fork.np ?_ | refine ExtN.ext ?_ | refine finGo ?_) <;> try (conv => whnf)
    exact ansB (g_yes hb hasc hasce hall halle)
  · have no := ansB (σ := σ) (g_bounds hb)
    have b1 := fun n lo hi => in_n (σ := σ) (n := n) (lo := lo) (hi := hi)
    conv => whnf
    repeat' (first | (refine CallN.many (b1 _ _ _) ?_; rintro _ (⟨hr, rfl⟩ | ⟨hr, rfl⟩)) | refine Fork.np ?_ | refine Fork.dp (fun h => ?_) (fun h => ?_) | refine ExtN.ext ?_ | refine finGo ?_) <;> try (conv => whnf)
    all_goals first
      | exact no
      | (exfalso; omega)
def joinR (k : Int) (leaf : Rs) : List Rs → Rs
  | [] => leaf
  | [a] => match a with
    | .ok x => oneR k x
    | .err e => .err e
  | a :: b :: _ => match a with
    | .err e => .err e
    | .ok x => match b with
      | .err e => .err e
      | .ok y => twoR k x y
mutual
def evR (g : Gr) (row given : List Pr) : Exp → Rs
  | .mk k v s c ps => if k = 14 ∨ k = 15 then .err 1 else joinR k (leafR g row given (.mk k v s c [])) (evL g row given ps)
def evL (g : Gr) (row given : List Pr) : List Exp → List Rs
  | [] => []
  | e :: r => evR g row given e :: evL g row given r
end
structure SceneOk (g : Gr) (row given : List Pr) : Prop where
  gt : GrTame g
  go : graphOk g = true
  rl : row.length ≤ 1000
  rt : ∀ p ∈ row, PrTame p
  ro : CellsOk row
  vl : given.length ≤ 1000
  vt : ∀ p ∈ given, PrTame p
  vo : CellsOk given
def sceneC (g : Gr) (row given : List Pr) : CV := .agg [.vec (nds g.nodes), .vec (eds g.edges), i64 g.nn, i64 g.ne, .vec (prs row), .vec (prs given)]
def AskOk (e : Exp) (c : CV) (τ : Heap) : Prop := ∀ τ', Sub τ τ' → ∀ g row given, SceneOk g row given → VRun Tryz.prog c [sceneC g row given] τ' (· = outI τ' (evR g row given e))
theorem sub_trans {a b c : Heap} (h : Sub a b) (k : Sub b c) : Sub a c := fun l o e => k l o (h l o e)
theorem AskOk.mono {e : Exp} {c : CV} {τ τ' : Heap} (h : AskOk e c τ) (hs : Sub τ τ') : AskOk e c τ' := fun τ'' h' => h τ'' (sub_trans hs h')
def AskAll (ps : List Exp) (cs : List CV) (τ : Heap) : Prop := ∀ (j : Nat) c e, cs[j]? = some c → ps[j]? = some e → AskOk e c τ
theorem AskAll.mono {ps : List Exp} {cs : List CV} {τ τ' : Heap} (h : AskAll ps cs τ) (hs : Sub τ τ') : AskAll ps cs τ' := fun j c e h1 h2 => (h j c e h1 h2).mono hs
theorem AskAll.snoc {ps : List Exp} {cs : List CV} {τ : Heap} {e : Exp} {c : CV} (h : AskAll ps cs τ) (he : ps[cs.length]? = some e) (hc : AskOk e c τ) : AskAll ps (cs ++ [c]) τ := by
  intro j c' e' h1 h2
  by_cases hj : j < cs.length
  · rw [List.getElem?_append_left hj] at h1; exact h j c' e' h1 h2
  · rw [List.getElem?_append_right (by omega)] at h1
    have : j = cs.length := by
      have := (List.getElem?_eq_some_iff.1 h1).1
      simp at this; omega
    subst this
    simp at h1
    rw [he] at h2; cases h2
    rw [← h1]; exact hc
section
variable {σ τ : Heap} {l8 l9 : Nat} {Z Y V W : Ob}
theorem ne_of (h : upd σ l8 Z l9 = none) : l9 ≠ l8 := fun e => by subst e; rw [upd_same] at h; cases h
theorem none_of (h : upd σ l8 Z l9 = none) : σ l9 = none := by rw [upd_ne _ _ (ne_of h)] at h; exact h
theorem gE (hs : Sub (upd (upd σ l8 Z) l9 Y) τ) : τ l9 = some Y := hs _ _ (upd_same _ _ _)
theorem gF (h : upd σ l8 Z l9 = none) (hs : Sub (upd (upd σ l8 Z) l9 Y) τ) : upd τ l8 V l9 = some Y := by rw [upd_ne _ _ (ne_of h)]; exact gE hs
end
theorem panFr_look {ops : Array Oper} {fr : Fr} {t : Nat} (h : givesB ops t = false) : CL.look (panFr ops fr).env t = CL.look fr.env t := by
  unfold panFr
  rw [look_filter (fun s => !givesB ops s) t, h]; rfl
def AnyF (σ : Heap) (l0 : Nat) (bs : List CV) (p : Int) (out : COut) : Prop := ∃ ns es nn ne q', GrTame ⟨ns, es, nn, ne⟩ ∧ p ≤ q' ∧ q' ≤ p + 20000 ∧ out = .ret (.agg [.vec (nds ns), .vec (eds es), i64 nn, i64 ne]) (rd σ l0 bs q')
theorem any_frz {f : FuncId} {args : List CV} {σ0 σ : Heap} {l0 : Nat} {bs : List CV} {p : Int} (h : CRun Tryz.prog f args σ0 (AnyO σ l0 bs p)) : CRun Tryz.prog f args σ0 (AnyF σ l0 bs p) := by
  have h1 : CRun Tryz.prog f args σ0 (fun out => ∃ a b ns es nn ne q', NilW a (.vec (nds ns)) ∧ NilW b (.vec (eds es)) ∧ GrTame ⟨ns, es, nn, ne⟩ ∧ p ≤ q' ∧ q' ≤ p + 20000 ∧ out = .ret (.agg [a, b, i64 nn, i64 ne]) (rd σ l0 bs q')) := by
    refine h.freeze fun out ⟨s', cN, cE, ns, es, nn, ne, q', hG, b1, b2, b3, b4, b5, b6, b7, b8, e⟩ => ?_
    subst e
    obtain ⟨a, la, fa, ha, wa⟩ := oc_frz (bs := bs) (q := q') hG.oN hG.fN
    obtain ⟨b, lb, fb, hb, wb⟩ := oc_frz (bs := bs) (q := q') hG.oE hG.fE
    refine ⟨.ret (.agg [a, b, i64 nn, i64 ne]) (rd σ l0 bs q'), ⟨rd_sub hG.sub, _, .inl (.agg (.cons fa (.cons fb (.cons (.same _) (.cons (.same _) .nil))))), fun l hl => ?_⟩, a, b, ns, es, nn, ne, q', wa, wb, ⟨by simp only; omega, by simp only; omega, by simp only; omega, by simp only; omega, hG.tn, hG.te⟩, b7, b8, rfl⟩
    simp only [List.append_nil, List.mem_append] at hl
    rcases hl with hl | hl
    · exact ha l hl
    · exact hb l hl
  refine h1.weak fun out ⟨a, b, ns, es, nn, ne, q', wa, wb, t, b7, b8, e⟩ => ?_
  subst e
  exact ⟨.ret (.agg [.vec (nds ns), .vec (eds es), i64 nn, i64 ne]) (rd σ l0 bs q'), ⟨rfl, NilWs.agg (.cons wa (.cons wb (.cons (.inl rfl) (.cons (.inl rfl) .nil))))⟩, ns, es, nn, ne, q', t, b7, b8, rfl⟩
end Go.Proofs.YtlamgfimgadnmaaGreat
