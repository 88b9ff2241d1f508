/-
  Contracts of the functions that the law reaches.
-/
import Derived.Test.YtlamgfimgadnmaaGreatR
set_option linter.unusedVariables false
set_option linter.unusedSimpArgs false
namespace Go.Proofs.YtlamgfimgadnmaaGreat
open Go Go.CL
set_option maxRecDepth 10000
theorem UsedI.add {us : List Int} {m : List (MK × Value)} {d : Int} (h : UsedI us m) (hf : mpFind (.i d) m 0 = none) : UsedI (d :: us) (m ++ [(.i d, .int .i64 1)]) := by
  intro x
  by_cases hx : x = d
  · subst hx
    exact .inr (.inl ⟨_, mp_app_same hf, by simp⟩)
  · rw [mp_app_other (mk_ne hx)]
    simpa [hx] using h x
theorem UsedI.set1 {us : List Int} {m : List (MK × Value)} {d : Int} {j : Nat} {v : Value} (h : UsedI us m) (hf : mpFind (.i d) m 0 = some (j, v)) : UsedI (d :: us) (m.set j (.i d, .int .i64 1)) := by
  intro x
  by_cases hx : x = d
  · subst hx
    have := mp_set_same (v := .int .i64 1) hf
    rw [Nat.sub_zero] at this
    exact .inr (.inl ⟨_, this, by simp⟩)
  · have := mp_set_other (v := .int .i64 1) (mk_ne hx) hf
    rw [Nat.sub_zero] at this
    rw [this]
    simpa [hx] using h x
theorem UsedI.set0 {us : List Int} {m : List (MK × Value)} {d : Int} {j : Nat} {v : Value} (h : UsedI (d :: us) m) (hn : ¬ d ∈ us) (hf : mpFind (.i d) m 0 = some (j, v)) : UsedI us (m.set j (.i d, .int .i64 0)) := by
  intro x
  by_cases hx : x = d
  · subst hx
    have := mp_set_same (v := .int .i64 0) hf
    rw [Nat.sub_zero] at this
    exact .inr (.inr ⟨_, this, hn⟩)
  · have := mp_set_other (v := .int .i64 0) (mk_ne hx) hf
    rw [Nat.sub_zero] at this
    rw [this]
    simpa [hx] using h x
theorem UsedI.has {us : List Int} {m : List (MK × Value)} {d : Int} (h : UsedI (d :: us) m) : ∃ j, mpFind (.i d) m 0 = some (j, .int .i64 1) := by
  rcases h d with ⟨_, h2⟩ | ⟨j, h1, _⟩ | ⟨j, _, h2⟩
  · exact (h2 (by simp)).elim
  · exact ⟨j, h1⟩
  · exact (h2 (by simp)).elim
theorem place_at {d : Int} : ∀ (l : List Int) (k : Nat), placeF l d k = -1 ∨ ∃ i : Nat, l[i]? = some d ∧ placeF l d k = (k : Int) + i
  | [], k => .inl rfl
  | x :: r, k => by
    unfold placeF
    by_cases hx : x = d
    · rw [if_pos hx]; exact .inr ⟨0, by simp [hx], by simp⟩
    · rw [if_neg hx]
      rcases place_at r (k + 1) with h | ⟨i, h1, h2⟩
      · exact .inl h
      · exact .inr ⟨i + 1, by simpa using h1, by rw [h2]; omega⟩
theorem node_at {ns : List Nd} {d : Int} (h : 0 ≤ placeF (nids ns) d 0) : ∃ (i : Nat) (n : Nd), placeF (nids ns) d 0 = i ∧ ns[i]? = some n ∧ n.id = d := by
  rcases place_at (d := d) (nids ns) 0 with h1 | ⟨i, h1, h2⟩
  · omega
  · unfold nids at h1
    rw [List.getElem?_map] at h1
    cases hn : ns[i]? with
    | none => rw [hn] at h1; cases h1
    | some n =>
      rw [hn] at h1
      exact ⟨i, n, by rw [h2]; simp, hn, by simpa using h1⟩
theorem edge_ends {g : Gr} (h : graphOk g = true) {e : Ed} (he : e ∈ g.edges) : 0 ≤ placeF (nids g.nodes) e.src 0 ∧ 0 ≤ placeF (nids g.nodes) e.dst 0 := by
  unfold graphOk at h
  simp only [Bool.and_eq_true, decide_eq_true_eq] at h
  obtain ⟨_, _, _, _, h6⟩ := h
  have := List.all_eq_true.1 h6 e he
  unfold edgeOkB at this
  simp only [Bool.and_eq_true, decide_eq_true_eq] at this
  exact ⟨this.2.2.1, this.2.2.2⟩
theorem far_at {g : Gr} (h : graphOk g = true) {e : Ed} (he : e ∈ g.edges) (d : Int) : ∃ (i : Nat) (n : Nd), placeF (nids g.nodes) (farE e d) 0 = i ∧ g.nodes[i]? = some n ∧ n.id = farE e d := by
  obtain ⟨h1, h2⟩ := edge_ends h he
  refine node_at ?_
  unfold farE
  split
  · exact h2
  · exact h1
theorem WStat.arr {g : Gr} {given : List Pr} {S : List Stp} {lx ln lu : Nat} {ms : List (MK × Value)} {τ : Heap} (h : WStat g given S lx ln lu ms τ) {d : Int} {j l n cap : Nat} (hf : mpFind (.i d) ms 0 = some (j, slV l n cap)) : τ l = some (.arr 3 1 cap (natsC (besF g.edges d))) := by
  rcases h.e d with ⟨h1, _⟩ | ⟨j', l', n', cap', h1, _, _, _, h5⟩
  · rw [h1] at hf; cases hf
  · rw [h1] at hf
    obtain ⟨e1, -, e3⟩ := slV_inj (Prod.mk.inj (Option.some.inj hf)).2
    subst e1; subst e3
    exact h5
theorem natsC_at {l : List Nat} {k i : Nat} (h : l[k]? = some i) : (natsC l)[k]? = some (i64 i) := by unfold natsC; rw [List.getElem?_map, h]; rfl
section
variable {g : Gr} {given : List Pr} {S : List Stp} {lx ln lu : Nat} {ms : List (MK × Value)} {l : Nat} {all : List (List Pr)} {J : List (List Pr) → Heap → Prop} {KP : Heap → Prop}
def flowM (g : Gr) (R : List Stp) (us : List Int) : Option (Int × Int × List Pr) → List (List Pr)
  | some (n, e, next) => waysM g R n next (e :: us)
  | none => []
theorem waysM_hop {g : Gr} {s : Stp} {R : List Stp} {d : Int} {row : List Pr} {us : List Int} (h : s.hop = true) : waysM g (s :: R) d row us = (besF g.edges d).flatMap fun i => flowM g R us (hopM g s d row us i) := by
  have : waysM g (s :: R) d row us = (match s.hop with
    | false => g.nodes.flatMap fun n => if fitsM s.spot n (bindM row s.spot.name (nodeV n.id)) then waysM g R n.id (bindM row s.spot.name (nodeV n.id)) us else []
    | true => (besF g.edges d).flatMap fun i => match hopM g s d row us i with
      | some (n, e, next) => waysM g R n next (e :: us)
      | none => []) := rfl
  rw [this, h]
  dsimp only
  refine congrArg (fun F => (besF g.edges d).flatMap F) (funext fun i => ?_)
  cases hopM g s d row us i with
  | none => rfl
  | some p => obtain ⟨a, b, c⟩ := p; rfl
theorem len3 (s1 s2 : ByteArray) (row : List Pr) (v w : Val) : (bindM (bindM row s1 v) s2 w).length ≤ row.length + 2 := by
  have h1 := bindM_len (row := row) (s := s1) (v := v)
  have h2 := bindM_len (row := bindM row s1 v) (s := s2) (v := w)
  omega
set_option maxHeartbeats 40000000 in
theorem walkH (hJ : WJ g given S lx ln lu ms l all J KP) (hg : GrTame g) (hgk : graphOk g = true) {i : Nat} {s : Stp} {R : List Stp} (hs : S[i]? = some s) (hS : S.length ≤ 100) (hh : s.hop = true) (hp : s.spot.props = []) (ih : WalkC g lx lu l all J KP R (i + 1)) : WalkC g lx lu l all J KP (s :: R) i := by
  intro d row us m pre rest τ hl hall h1 h2 h3
  have e3 := stps_len S
  have e4 := nds_len g.nodes
  have e5 := eds_len g.edges
  have hgl := hg.nl
  have st0 := hJ.st h1
  have hx := st0.x
  have hi := (List.getElem?_eq_some_iff.1 hs).1
  have hs' := stps_at hs
  unfold WalkP
  rw [waysM_hop hh] at hall ⊢
  obtain ⟨h, nm, kd, w, ⟨sn, sl, ps⟩⟩ := s
  dsimp only at hh hp
  subst hh; subst hp
  obtain ⟨f, hfd⟩ : ∃ f : Nat → List (List Pr), f = fun i => flowM g R us (hopM g ⟨true, nm, kd, w, ⟨sn, sl, []⟩⟩ d row us i) := ⟨_, rfl⟩
  rw [← hfd] at hall ⊢
  simp only [List.length_cons] at hl
  have hbl : (besF g.edges d).length ≤ 1000 := Nat.le_trans besN_le hg.el
  rcases st0.e d with ⟨hf, hb⟩ | ⟨j0, l0, n, cap, hf, hn, hb, hlu, ha⟩
  · rw [hb]
    refine crun_ofF (X := X) X_ok X_sat (body := bodyOf Tryz.f77) Tryz.func77 rfl (by kernel_rfl) (by kernel_rfl) ?_
    rw [Tryz.ntmps77]
    conv => whnf
    repeat' (first | (refine GetN.go ?_ (h := hx)) | (refine ElemN.go ?_ (h := hs')) | (refine GetN.go ?_ (h := st0.n)) | (refine MapN.go ?_ hf) | (refine LoopN.once (by rfl) (by repeat' (first | exact LocsLe.nil | refine LocsLe.cons _ _ _ ?_ ?_ | exact ObLe.same _ rfl rfl)) ?_) | refine OrdN.one ?_ | refine Fork.yp ?_ | refine Fork.np ?_ | refine Fork.ny ?_ | refine Fork.nn ?_ | refine Fork.yb ?_ | refine Fork.nb ?_ | refine Fork.dp (fun h => ?_) (fun h => ?_) | refine Fork.dn (fun h => ?_) (fun h => ?_) | (refine Fork.mk (fun h => ?_) (fun h => ?_) <;> simp only [decide_eq_true_eq, decide_eq_false_iff_not, Bool.not_eq_true', Bool.not_eq_false', Bool.or_eq_true, Bool.or_eq_false_iff] at h) | refine GetN.go ?_ | refine Need.ap1 ?_ | refine Need.ap0 ?_ | refine Need.go ?_ | refine Need.draw ?_ | refine ElemN.go ?_ | refine ExtN.ext ?_ | refine ExtN.wr ?_ | refine AllocN.go (fun l hl => ?_) | refine finGo ?_) <;> try (conv => whnf)
    all_goals exact .inl ⟨τ, m, by simpa using h1, h2, h3, rfl⟩
  refine crun_ofF (X := X) X_ok X_sat (body := bodyOf Tryz.f77) Tryz.func77 rfl (by kernel_rfl) (by kernel_rfl) ?_
  rw [Tryz.ntmps77]
  conv => whnf
  repeat' (first | (refine GetN.go ?_ (h := hx)) | (refine ElemN.go ?_ (h := hs')) | (refine GetN.go ?_ (h := st0.n)) | (refine MapN.go ?_ hf) | refine OrdN.one ?_ | refine Fork.yp ?_ | refine Fork.np ?_ | refine Fork.ny ?_ | refine Fork.nn ?_ | refine Fork.yb ?_ | refine Fork.nb ?_ | refine Fork.dp (fun h => ?_) (fun h => ?_) | refine Fork.dn (fun h => ?_) (fun h => ?_) | (refine Fork.mk (fun h => ?_) (fun h => ?_) <;> simp only [decide_eq_true_eq, decide_eq_false_iff_not, Bool.not_eq_true', Bool.not_eq_false', Bool.or_eq_true, Bool.or_eq_false_iff] at h) | refine GetN.go ?_ | refine Need.ap1 ?_ | refine Need.ap0 ?_ | refine Need.go ?_ | refine Need.draw ?_ | refine ElemN.go ?_ | refine ExtN.ext ?_ | refine ExtN.wr ?_ | refine AllocN.go (fun l hl => ?_) | refine finGo ?_) <;> try (conv => whnf)
  refine LoopN.rule (α := WSt) (fun a => ⟨179, [(0, .ptr (.g lx) 0), (1, i64 i), (2, i64 d), (3, .vec (prs row)), (4, .fn (.yield l) [] []), (10, .sc (.bool false)), (11, .ptr (.f 11) 0), (82, .grow l0 n cap), (83, i64 n), (84, i64 a.k)], [(11, .cells (Stp.cv ⟨true, nm, kd, w, ⟨sn, sl, []⟩⟩).cells)]⟩)
    (fun a => a.t) (fun a => n - a.k) (fun a => a.k ≤ n ∧ J (pre ++ ((besF g.edges d).take a.k).flatMap f) a.t ∧ a.t lu = some (.mp false a.m) ∧ UsedI us a.m) ?_ ⟨0, τ, m⟩ ⟨by dsimp only; omega, by simpa using h1, h2, h3⟩ ?_
  rotate_left
  · (refine ⟨rfl, ?_, ?_, Sub.refl _⟩ <;> repeat' (first | exact EnvLe.nil | exact LocsLe.nil | refine EnvLe.cons _ _ _ ?_ ?_ | refine LocsLe.cons _ _ _ ?_ ?_ | exact CVle.same _ rfl | exact CVle.vec _ _ | exact CVle.nil | exact CVle.tok _ _ _ rfl rfl | exact ObLe.tok _ _ rfl | exact CVles.nil | refine CVles.cons ?_ ?_ | exact ObLe.same _ rfl rfl | refine ObLe.cells rfl ?_))
  rintro ⟨k, τ1, m1⟩ K ⟨i1, i2, i3, i4⟩ hK
  dsimp only at i1 i2 i3 i4 hK ⊢
  have st1 := hJ.st i2
  have hx1 := st1.x
  have ha1 := st1.arr hf
  by_cases hk : k < n
  · obtain ⟨pl, hpl⟩ : ∃ pl, (besF g.edges d)[k]? = some pl := ⟨_, List.getElem?_eq_getElem (by omega)⟩
    have hplc := natsC_at hpl
    have hplt := besF_lt (List.mem_of_getElem? hpl)
    obtain ⟨ed, kd', es, et, eps, hm, hge, hxe, -⟩ := eds_at hplt
    have htk := fm_take (f := f) hpl
    have hop : hopM g ⟨true, nm, kd, w, ⟨sn, sl, []⟩⟩ d row us pl = if us.contains ed || !goesF ⟨ed, kd', es, et, eps⟩ d w kd then none else match g.nodes[(placeF (nids g.nodes) (farE ⟨ed, kd', es, et, eps⟩ d) 0).toNat]? with
      | none => none
      | some n => if fitsM ⟨sn, sl, []⟩ n (nextH ⟨true, nm, kd, w, ⟨sn, sl, []⟩⟩ ⟨ed, kd', es, et, eps⟩ n row) then some (n.id, ed, nextH ⟨true, nm, kd, w, ⟨sn, sl, []⟩⟩ ⟨ed, kd', es, et, eps⟩ n row) else none := by
      unfold hopM; rw [hge]; rfl
    have hfp : f pl = flowM g R us (hopM g ⟨true, nm, kd, w, ⟨sn, sl, []⟩⟩ d row us pl) := by rw [hfd]
    have skip : hopM g ⟨true, nm, kd, w, ⟨sn, sl, []⟩⟩ d row us pl = none → J (pre ++ ((besF g.edges d).take (k + 1)).flatMap f) τ1 := fun e => by
      rw [htk, hfp, e]
      show J (pre ++ (_ ++ [])) τ1
      rw [List.append_nil]; exact i2
    rcases i4 ed with ⟨f0, hnu⟩ | ⟨j, f0, hnu⟩ | ⟨j, f0, hnu⟩
    · have hcn : us.contains ed = false := by rw [← Bool.not_eq_true]; intro e; exact hnu (List.contains_iff_mem.1 e)
      rw [hcn, Bool.false_or] at hop
      have cg : CRun Tryz.prog 105 [.agg [i64 ed, .sc (.string kd'), i64 es, i64 et, .vec (prs eps)], i64 d, i64 w, .sc (.string kd)] τ1 (· = .ret (.sc (.bool (goesF ⟨ed, kd', es, et, eps⟩ d w kd))) τ1) := goesFrom_x
      cases hgo : goesF ⟨ed, kd', es, et, eps⟩ d w kd <;> rw [hgo] at cg hop
      · have hsk := skip (by rw [hop]; rfl)
        conv => whnf
        repeat' (first | (refine CallN.one cg ?_) | (refine GetN.go ?_ (h := hx1)) | (refine GetN.go ?_ (h := i3)) | (refine GetN.go ?_ (h := ha1)) | (refine ElemN.go ?_ (h := hplc)) | (refine ElemN.go ?_ (h := hxe)) | (refine MapN.go ?_ f0) | refine OrdN.one ?_ | refine Fork.yp ?_ | refine Fork.np ?_ | refine Fork.ny ?_ | refine Fork.nn ?_ | refine Fork.yb ?_ | refine Fork.nb ?_ | refine Fork.dp (fun h => ?_) (fun h => ?_) | refine Fork.dn (fun h => ?_) (fun h => ?_) | (refine Fork.mk (fun h => ?_) (fun h => ?_) <;> simp only [decide_eq_true_eq, decide_eq_false_iff_not, Bool.not_eq_true', Bool.not_eq_false', Bool.or_eq_true, Bool.or_eq_false_iff] at h) | refine GetN.go ?_ | refine Need.ap1 ?_ | refine Need.ap0 ?_ | refine Need.go ?_ | refine Need.draw ?_ | refine ElemN.go ?_ | refine ExtN.ext ?_ | refine ExtN.wr ?_ | refine AllocN.go (fun l hl => ?_) | refine finGo ?_) <;> try (conv => whnf)
        all_goals
          refine hK ⟨k + 1, τ1, m1⟩ _ _ ⟨by dsimp only; omega, hsk, i3, i4⟩ (by dsimp only; omega) ?_
          (refine ⟨rfl, ?_, ?_, Sub.refl _⟩ <;> repeat' (first | exact EnvLe.nil | exact LocsLe.nil | refine EnvLe.cons _ _ _ ?_ ?_ | refine LocsLe.cons _ _ _ ?_ ?_ | exact CVle.same _ rfl | exact CVle.vec _ _ | exact CVle.nil | exact CVle.tok _ _ _ rfl rfl | exact ObLe.tok _ _ rfl | exact CVles.nil | refine CVles.cons ?_ ?_ | exact ObLe.same _ rfl rfl | refine ObLe.cells rfl ?_))
      · rw [if_neg (by simp)] at hop
        obtain ⟨ni, nd, hpi, hnd, hid⟩ := far_at hgk hm d
        rw [hpi, Int.toNat_natCast, hnd] at hop
        dsimp only at hop
        have hni := (List.getElem?_eq_some_iff.1 hnd).1
        have hnm : nd ∈ g.nodes := List.mem_of_getElem? hnd
        have hll := (hg.ns _ hnm).ll
        have hxn : (nds g.nodes)[ni]? = some nd.cv := by unfold nds; rw [List.getElem?_map, hnd]; rfl
        have cp := nplace_c (σ := τ1) (l := g.nodes) (d' := farE ⟨ed, kd', es, et, eps⟩ d) hgl
        rw [hpi] at cp
        have c1 := edgeValue_c (σ := τ1) (d := ed)
        have b1 := bind_c (σ := τ1) (row := row) (s := nm) (v := edgeV ed) (by omega)
        have c2 := nodeValue_c (σ := τ1) (d := nd.id)
        have b2 := bind_c (σ := τ1) (row := bindM row nm (edgeV ed)) (s := sn) (v := nodeV nd.id) (by have := bindM_len (row := row) (s := nm) (v := edgeV ed); omega)
        have hl3 := len3 nm sn row (edgeV ed) (nodeV nd.id)
        have c3 := mfits_c (σ := τ1) (lx := lx) (s := ⟨true, nm, kd, w, ⟨sn, sl, []⟩⟩) (n := nd) (row := bindM (bindM row nm (edgeV ed)) sn (nodeV nd.id)) rfl (by omega) hll
        dsimp only at c3
        have hnx : nextH ⟨true, nm, kd, w, ⟨sn, sl, []⟩⟩ ⟨ed, kd', es, et, eps⟩ nd row = bindM (bindM row nm (edgeV ed)) sn (nodeV nd.id) := rfl
        rw [hnx] at hop
        generalize hnext : bindM (bindM row nm (edgeV ed)) sn (nodeV nd.id) = next at hop b2 c3 hl3
        have hfar : (es = d ∧ farE ⟨ed, kd', es, et, eps⟩ d = et) ∨ (¬ es = d ∧ farE ⟨ed, kd', es, et, eps⟩ d = es) := by
          unfold farE
          by_cases hsd : es = d
          · exact .inl ⟨hsd, if_pos hsd⟩
          · exact .inr ⟨hsd, if_neg hsd⟩
        have hu1 : UsedI (ed :: us) (m1 ++ [(.i ed, .int .i64 1)]) := i4.add f0
        have J1 := hJ.put (m' := m1 ++ [(.i ed, .int .i64 1)]) i2 i3
        cases hq : fitsM ⟨sn, sl, []⟩ nd next <;> rw [hq] at c3 hop
        · have hsk := skip (by rw [hop]; rfl)
          obtain ⟨nid, nls, nps⟩ := nd
          rcases hfar with ⟨hsd, hfe⟩ | ⟨hsd, hfe⟩ <;> rw [hfe] at cp
          all_goals
            conv => whnf
            repeat' (first | (refine CallN.one cg ?_) | (refine CallN.one nidof_c ?_) | (refine CallN.one cp ?_) | (refine CallN.one c1 ?_) | (refine CallN.one b1 ?_) | (refine CallN.one c2 ?_) | (refine CallN.one b2 ?_) | (refine CallN.one c3 ?_) | (refine GetN.go ?_ (h := hx1)) | (refine GetN.go ?_ (h := i3)) | (refine GetN.go ?_ (h := ha1)) | (refine ElemN.go ?_ (h := hplc)) | (refine ElemN.go ?_ (h := hxe)) | (refine MapN.go ?_ f0) | (refine ElemN.go ?_ (h := hxn)) | refine OrdN.one ?_ | refine Fork.yp ?_ | refine Fork.np ?_ | refine Fork.ny ?_ | refine Fork.nn ?_ | refine Fork.yb ?_ | refine Fork.nb ?_ | refine Fork.dp (fun h => ?_) (fun h => ?_) | refine Fork.dn (fun h => ?_) (fun h => ?_) | (refine Fork.mk (fun h => ?_) (fun h => ?_) <;> simp only [decide_eq_true_eq, decide_eq_false_iff_not, Bool.not_eq_true', Bool.not_eq_false', Bool.or_eq_true, Bool.or_eq_false_iff] at h) | refine GetN.go ?_ | refine Need.ap1 ?_ | refine Need.ap0 ?_ | refine Need.go ?_ | refine Need.draw ?_ | refine ElemN.go ?_ | refine ExtN.ext ?_ | refine ExtN.wr ?_ | refine AllocN.go (fun l hl => ?_) | refine finGo ?_) <;> try (conv => whnf)
            all_goals
              refine hK ⟨k + 1, τ1, m1⟩ _ _ ⟨by dsimp only; omega, hsk, i3, i4⟩ (by dsimp only; omega) ?_
              (refine ⟨rfl, ?_, ?_, Sub.refl _⟩ <;> repeat' (first | exact EnvLe.nil | exact LocsLe.nil | refine EnvLe.cons _ _ _ ?_ ?_ | refine LocsLe.cons _ _ _ ?_ ?_ | exact CVle.same _ rfl | exact CVle.vec _ _ | exact CVle.nil | exact CVle.tok _ _ _ rfl rfl | exact ObLe.tok _ _ rfl | exact CVles.nil | refine CVles.cons ?_ ?_ | exact ObLe.same _ rfl rfl | refine ObLe.cells rfl ?_))
        · rw [if_pos rfl] at hop
          have hfp2 : f pl = waysM g R nd.id next (ed :: us) := by rw [hfp, hop]; rfl
          rw [hfp2] at htk
          have c4 := ih (d := nd.id) (row := next) (us := ed :: us) (m := m1 ++ [(.i ed, .int .i64 1)]) (pre := pre ++ ((besF g.edges d).take k).flatMap f) (rest := ((besF g.edges d).drop (k + 1)).flatMap f ++ rest) (τ := upd τ1 lu (.mp false (m1 ++ [(.i ed, .int .i64 1)]))) (by omega) (by
            rw [← hall]
            have : (besF g.edges d).flatMap f = ((besF g.edges d).take k).flatMap f ++ waysM g R nd.id next (ed :: us) ++ ((besF g.edges d).drop (k + 1)).flatMap f := by
              conv => lhs; rw [← List.take_append_drop (k + 1) (besF g.edges d), List.flatMap_append, htk]
            rw [this]; simp) J1 (upd_same _ _ _) hu1
          have c5 := CRun.mono c4 (q := fun out => (∃ τ2 m2 jj, J ((pre ++ ((besF g.edges d).take k).flatMap f) ++ waysM g R nd.id next (ed :: us)) τ2 ∧ τ2 lu = some (.mp false m2) ∧ UsedI (ed :: us) m2 ∧ mpFind (.i ed) m2 0 = some (jj, .int .i64 1) ∧ τ2 lx = some (.cells [.vec (nds g.nodes), .vec (eds g.edges), i64 g.nn, i64 g.ne, .map ln, .vec (prs given), .vec (stps S), .map lu]) ∧ out = .ret (.sc (.bool true)) τ2) ∨ ∃ τ2, KP τ2 ∧ out = .pan mPan τ2) (by
            rintro _ (⟨τ2, m2, j1, j2, j3, rfl⟩ | ⟨τ2, j1, rfl⟩)
            · obtain ⟨jj, hjj⟩ := j3.has
              exact .inl ⟨τ2, m2, jj, j1, j2, j3, hjj, (hJ.st j1).x, rfl⟩
            · exact .inr ⟨τ2, j1, rfl⟩)
          clear hop hfp hfp2 skip hall hnd hnm hpi c4
          obtain ⟨nid, nls, nps⟩ := nd
          have hxJ := (hJ.st J1).x
          rcases hfar with ⟨hsd, hfe⟩ | ⟨hsd, hfe⟩ <;> rw [hfe] at cp
          all_goals
            conv => whnf
            repeat' (first | (refine CallN.one cg ?_) | (refine CallN.one nidof_c ?_) | (refine CallN.one cp ?_) | (refine CallN.one c1 ?_) | (refine CallN.one b1 ?_) | (refine CallN.one c2 ?_) | (refine CallN.one b2 ?_) | (refine CallN.one c3 ?_) | (refine GetN.go ?_ (h := hx1)) | (refine GetN.go ?_ (h := i3)) | (refine GetN.go ?_ (h := ha1)) | (refine ElemN.go ?_ (h := hplc)) | (refine ElemN.go ?_ (h := hxe)) | (refine GetN.go ?_ (h := hxJ)) | ((refine CallN.many c5 ?_; rintro _ (⟨τ2, m2, jj, j1, j2, j3, hjj, j4, rfl⟩ | ⟨τ2, j1, rfl⟩))) | (refine GetN.go ?_ (h := j4)) | (refine GetN.go ?_ (h := j2)) | (refine MapN.go ?_ f0) | (refine MapN.go ?_ hjj) | (refine ElemN.go ?_ (h := hxn)) | refine OrdN.one ?_ | refine Fork.yp ?_ | refine Fork.np ?_ | refine Fork.ny ?_ | refine Fork.nn ?_ | refine Fork.yb ?_ | refine Fork.nb ?_ | refine Fork.dp (fun h => ?_) (fun h => ?_) | refine Fork.dn (fun h => ?_) (fun h => ?_) | (refine Fork.mk (fun h => ?_) (fun h => ?_) <;> simp only [decide_eq_true_eq, decide_eq_false_iff_not, Bool.not_eq_true', Bool.not_eq_false', Bool.or_eq_true, Bool.or_eq_false_iff] at h) | refine GetN.go ?_ | refine Need.ap1 ?_ | refine Need.ap0 ?_ | refine Need.go ?_ | refine Need.draw ?_ | refine ElemN.go ?_ | refine ExtN.ext ?_ | refine ExtN.wr ?_ | refine AllocN.go (fun l hl => ?_) | refine finGo ?_) <;> try (conv => whnf)
            all_goals try (exact FinP.pan _ (Sub.refl _) (.inr ⟨_, j1, rfl⟩))
            all_goals
              refine hK ⟨k + 1, upd τ2 lu (.mp false (m2.set jj (.i ed, .int .i64 0))), m2.set jj (.i ed, .int .i64 0)⟩ _ _ ⟨by dsimp only; omega, by dsimp only; rw [htk, ← List.append_assoc]; exact hJ.put j1 j2, upd_same _ _ _, j3.set0 hnu hjj⟩ (by dsimp only; omega) ?_
              (refine ⟨rfl, ?_, ?_, Sub.refl _⟩ <;> repeat' (first | exact EnvLe.nil | exact LocsLe.nil | refine EnvLe.cons _ _ _ ?_ ?_ | refine LocsLe.cons _ _ _ ?_ ?_ | exact CVle.same _ rfl | exact CVle.vec _ _ | exact CVle.nil | exact CVle.tok _ _ _ rfl rfl | exact ObLe.tok _ _ rfl | exact CVles.nil | refine CVles.cons ?_ ?_ | exact ObLe.same _ rfl rfl | refine ObLe.cells rfl ?_))
    · have hcn : us.contains ed = true := List.contains_iff_mem.2 hnu
      rw [hcn, Bool.true_or, if_pos rfl] at hop
      have hsk := skip hop
      conv => whnf
      repeat' (first | (refine GetN.go ?_ (h := hx1)) | (refine GetN.go ?_ (h := i3)) | (refine GetN.go ?_ (h := ha1)) | (refine ElemN.go ?_ (h := hplc)) | (refine ElemN.go ?_ (h := hxe)) | (refine MapN.go ?_ f0) | refine OrdN.one ?_ | refine Fork.yp ?_ | refine Fork.np ?_ | refine Fork.ny ?_ | refine Fork.nn ?_ | refine Fork.yb ?_ | refine Fork.nb ?_ | refine Fork.dp (fun h => ?_) (fun h => ?_) | refine Fork.dn (fun h => ?_) (fun h => ?_) | (refine Fork.mk (fun h => ?_) (fun h => ?_) <;> simp only [decide_eq_true_eq, decide_eq_false_iff_not, Bool.not_eq_true', Bool.not_eq_false', Bool.or_eq_true, Bool.or_eq_false_iff] at h) | refine GetN.go ?_ | refine Need.ap1 ?_ | refine Need.ap0 ?_ | refine Need.go ?_ | refine Need.draw ?_ | refine ElemN.go ?_ | refine ExtN.ext ?_ | refine ExtN.wr ?_ | refine AllocN.go (fun l hl => ?_) | refine finGo ?_) <;> try (conv => whnf)
      all_goals
        refine hK ⟨k + 1, τ1, m1⟩ _ _ ⟨by dsimp only; omega, hsk, i3, i4⟩ (by dsimp only; omega) ?_
        (refine ⟨rfl, ?_, ?_, Sub.refl _⟩ <;> repeat' (first | exact EnvLe.nil | exact LocsLe.nil | refine EnvLe.cons _ _ _ ?_ ?_ | refine LocsLe.cons _ _ _ ?_ ?_ | exact CVle.same _ rfl | exact CVle.vec _ _ | exact CVle.nil | exact CVle.tok _ _ _ rfl rfl | exact ObLe.tok _ _ rfl | exact CVles.nil | refine CVles.cons ?_ ?_ | exact ObLe.same _ rfl rfl | refine ObLe.cells rfl ?_))
    · have hcn : us.contains ed = false := by rw [← Bool.not_eq_true]; intro e; exact hnu (List.contains_iff_mem.1 e)
      rw [hcn, Bool.false_or] at hop
      have cg : CRun Tryz.prog 105 [.agg [i64 ed, .sc (.string kd'), i64 es, i64 et, .vec (prs eps)], i64 d, i64 w, .sc (.string kd)] τ1 (· = .ret (.sc (.bool (goesF ⟨ed, kd', es, et, eps⟩ d w kd))) τ1) := goesFrom_x
      cases hgo : goesF ⟨ed, kd', es, et, eps⟩ d w kd <;> rw [hgo] at cg hop
      · have hsk := skip (by rw [hop]; rfl)
        conv => whnf
        repeat' (first | (refine CallN.one cg ?_) | (refine GetN.go ?_ (h := hx1)) | (refine GetN.go ?_ (h := i3)) | (refine GetN.go ?_ (h := ha1)) | (refine ElemN.go ?_ (h := hplc)) | (refine ElemN.go ?_ (h := hxe)) | (refine MapN.go ?_ f0) | refine OrdN.one ?_ | refine Fork.yp ?_ | refine Fork.np ?_ | refine Fork.ny ?_ | refine Fork.nn ?_ | refine Fork.yb ?_ | refine Fork.nb ?_ | refine Fork.dp (fun h => ?_) (fun h => ?_) | refine Fork.dn (fun h => ?_) (fun h => ?_) | (refine Fork.mk (fun h => ?_) (fun h => ?_) <;> simp only [decide_eq_true_eq, decide_eq_false_iff_not, Bool.not_eq_true', Bool.not_eq_false', Bool.or_eq_true, Bool.or_eq_false_iff] at h) | refine GetN.go ?_ | refine Need.ap1 ?_ | refine Need.ap0 ?_ | refine Need.go ?_ | refine Need.draw ?_ | refine ElemN.go ?_ | refine ExtN.ext ?_ | refine ExtN.wr ?_ | refine AllocN.go (fun l hl => ?_) | refine finGo ?_) <;> try (conv => whnf)
        all_goals
          refine hK ⟨k + 1, τ1, m1⟩ _ _ ⟨by dsimp only; omega, hsk, i3, i4⟩ (by dsimp only; omega) ?_
          (refine ⟨rfl, ?_, ?_, Sub.refl _⟩ <;> repeat' (first | exact EnvLe.nil | exact LocsLe.nil | refine EnvLe.cons _ _ _ ?_ ?_ | refine LocsLe.cons _ _ _ ?_ ?_ | exact CVle.same _ rfl | exact CVle.vec _ _ | exact CVle.nil | exact CVle.tok _ _ _ rfl rfl | exact ObLe.tok _ _ rfl | exact CVles.nil | refine CVles.cons ?_ ?_ | exact ObLe.same _ rfl rfl | refine ObLe.cells rfl ?_))
      · rw [if_neg (by simp)] at hop
        obtain ⟨ni, nd, hpi, hnd, hid⟩ := far_at hgk hm d
        rw [hpi, Int.toNat_natCast, hnd] at hop
        dsimp only at hop
        have hni := (List.getElem?_eq_some_iff.1 hnd).1
        have hnm : nd ∈ g.nodes := List.mem_of_getElem? hnd
        have hll := (hg.ns _ hnm).ll
        have hxn : (nds g.nodes)[ni]? = some nd.cv := by unfold nds; rw [List.getElem?_map, hnd]; rfl
        have cp := nplace_c (σ := τ1) (l := g.nodes) (d' := farE ⟨ed, kd', es, et, eps⟩ d) hgl
        rw [hpi] at cp
        have c1 := edgeValue_c (σ := τ1) (d := ed)
        have b1 := bind_c (σ := τ1) (row := row) (s := nm) (v := edgeV ed) (by omega)
        have c2 := nodeValue_c (σ := τ1) (d := nd.id)
        have b2 := bind_c (σ := τ1) (row := bindM row nm (edgeV ed)) (s := sn) (v := nodeV nd.id) (by have := bindM_len (row := row) (s := nm) (v := edgeV ed); omega)
        have hl3 := len3 nm sn row (edgeV ed) (nodeV nd.id)
        have c3 := mfits_c (σ := τ1) (lx := lx) (s := ⟨true, nm, kd, w, ⟨sn, sl, []⟩⟩) (n := nd) (row := bindM (bindM row nm (edgeV ed)) sn (nodeV nd.id)) rfl (by omega) hll
        dsimp only at c3
        have hnx : nextH ⟨true, nm, kd, w, ⟨sn, sl, []⟩⟩ ⟨ed, kd', es, et, eps⟩ nd row = bindM (bindM row nm (edgeV ed)) sn (nodeV nd.id) := rfl
        rw [hnx] at hop
        generalize hnext : bindM (bindM row nm (edgeV ed)) sn (nodeV nd.id) = next at hop b2 c3 hl3
        have hfar : (es = d ∧ farE ⟨ed, kd', es, et, eps⟩ d = et) ∨ (¬ es = d ∧ farE ⟨ed, kd', es, et, eps⟩ d = es) := by
          unfold farE
          by_cases hsd : es = d
          · exact .inl ⟨hsd, if_pos hsd⟩
          · exact .inr ⟨hsd, if_neg hsd⟩
        have hu1 : UsedI (ed :: us) (m1.set j (.i ed, .int .i64 1)) := i4.set1 f0
        have J1 := hJ.put (m' := m1.set j (.i ed, .int .i64 1)) i2 i3
        cases hq : fitsM ⟨sn, sl, []⟩ nd next <;> rw [hq] at c3 hop
        · have hsk := skip (by rw [hop]; rfl)
          obtain ⟨nid, nls, nps⟩ := nd
          rcases hfar with ⟨hsd, hfe⟩ | ⟨hsd, hfe⟩ <;> rw [hfe] at cp
          all_goals
            conv => whnf
            repeat' (first | (refine CallN.one cg ?_) | (refine CallN.one nidof_c ?_) | (refine CallN.one cp ?_) | (refine CallN.one c1 ?_) | (refine CallN.one b1 ?_) | (refine CallN.one c2 ?_) | (refine CallN.one b2 ?_) | (refine CallN.one c3 ?_) | (refine GetN.go ?_ (h := hx1)) | (refine GetN.go ?_ (h := i3)) | (refine GetN.go ?_ (h := ha1)) | (refine ElemN.go ?_ (h := hplc)) | (refine ElemN.go ?_ (h := hxe)) | (refine MapN.go ?_ f0) | (refine ElemN.go ?_ (h := hxn)) | refine OrdN.one ?_ | refine Fork.yp ?_ | refine Fork.np ?_ | refine Fork.ny ?_ | refine Fork.nn ?_ | refine Fork.yb ?_ | refine Fork.nb ?_ | refine Fork.dp (fun h => ?_) (fun h => ?_) | refine Fork.dn (fun h => ?_) (fun h => ?_) | (refine Fork.mk (fun h => ?_) (fun h => ?_) <;> simp only [decide_eq_true_eq, decide_eq_false_iff_not, Bool.not_eq_true', Bool.not_eq_false', Bool.or_eq_true, Bool.or_eq_false_iff] at h) | refine GetN.go ?_ | refine Need.ap1 ?_ | refine Need.ap0 ?_ | refine Need.go ?_ | refine Need.draw ?_ | refine ElemN.go ?_ | refine ExtN.ext ?_ | refine ExtN.wr ?_ | refine AllocN.go (fun l hl => ?_) | refine finGo ?_) <;> try (conv => whnf)
            all_goals
              refine hK ⟨k + 1, τ1, m1⟩ _ _ ⟨by dsimp only; omega, hsk, i3, i4⟩ (by dsimp only; omega) ?_
              (refine ⟨rfl, ?_, ?_, Sub.refl _⟩ <;> repeat' (first | exact EnvLe.nil | exact LocsLe.nil | refine EnvLe.cons _ _ _ ?_ ?_ | refine LocsLe.cons _ _ _ ?_ ?_ | exact CVle.same _ rfl | exact CVle.vec _ _ | exact CVle.nil | exact CVle.tok _ _ _ rfl rfl | exact ObLe.tok _ _ rfl | exact CVles.nil | refine CVles.cons ?_ ?_ | exact ObLe.same _ rfl rfl | refine ObLe.cells rfl ?_))
        · rw [if_pos rfl] at hop
          have hfp2 : f pl = waysM g R nd.id next (ed :: us) := by rw [hfp, hop]; rfl
          rw [hfp2] at htk
          have c4 := ih (d := nd.id) (row := next) (us := ed :: us) (m := m1.set j (.i ed, .int .i64 1)) (pre := pre ++ ((besF g.edges d).take k).flatMap f) (rest := ((besF g.edges d).drop (k + 1)).flatMap f ++ rest) (τ := upd τ1 lu (.mp false (m1.set j (.i ed, .int .i64 1)))) (by omega) (by
            rw [← hall]
            have : (besF g.edges d).flatMap f = ((besF g.edges d).take k).flatMap f ++ waysM g R nd.id next (ed :: us) ++ ((besF g.edges d).drop (k + 1)).flatMap f := by
              conv => lhs; rw [← List.take_append_drop (k + 1) (besF g.edges d), List.flatMap_append, htk]
            rw [this]; simp) J1 (upd_same _ _ _) hu1
          have c5 := CRun.mono c4 (q := fun out => (∃ τ2 m2 jj, J ((pre ++ ((besF g.edges d).take k).flatMap f) ++ waysM g R nd.id next (ed :: us)) τ2 ∧ τ2 lu = some (.mp false m2) ∧ UsedI (ed :: us) m2 ∧ mpFind (.i ed) m2 0 = some (jj, .int .i64 1) ∧ τ2 lx = some (.cells [.vec (nds g.nodes), .vec (eds g.edges), i64 g.nn, i64 g.ne, .map ln, .vec (prs given), .vec (stps S), .map lu]) ∧ out = .ret (.sc (.bool true)) τ2) ∨ ∃ τ2, KP τ2 ∧ out = .pan mPan τ2) (by
            rintro _ (⟨τ2, m2, j1, j2, j3, rfl⟩ | ⟨τ2, j1, rfl⟩)
            · obtain ⟨jj, hjj⟩ := j3.has
              exact .inl ⟨τ2, m2, jj, j1, j2, j3, hjj, (hJ.st j1).x, rfl⟩
            · exact .inr ⟨τ2, j1, rfl⟩)
          clear hop hfp hfp2 skip hall hnd hnm hpi c4
          obtain ⟨nid, nls, nps⟩ := nd
          have hxJ := (hJ.st J1).x
          rcases hfar with ⟨hsd, hfe⟩ | ⟨hsd, hfe⟩ <;> rw [hfe] at cp
          all_goals
            conv => whnf
            repeat' (first | (refine CallN.one cg ?_) | (refine CallN.one nidof_c ?_) | (refine CallN.one cp ?_) | (refine CallN.one c1 ?_) | (refine CallN.one b1 ?_) | (refine CallN.one c2 ?_) | (refine CallN.one b2 ?_) | (refine CallN.one c3 ?_) | (refine GetN.go ?_ (h := hx1)) | (refine GetN.go ?_ (h := i3)) | (refine GetN.go ?_ (h := ha1)) | (refine ElemN.go ?_ (h := hplc)) | (refine ElemN.go ?_ (h := hxe)) | (refine GetN.go ?_ (h := hxJ)) | ((refine CallN.many c5 ?_; rintro _ (⟨τ2, m2, jj, j1, j2, j3, hjj, j4, rfl⟩ | ⟨τ2, j1, rfl⟩))) | (refine GetN.go ?_ (h := j4)) | (refine GetN.go ?_ (h := j2)) | (refine MapN.go ?_ f0) | (refine MapN.go ?_ hjj) | (refine ElemN.go ?_ (h := hxn)) | refine OrdN.one ?_ | refine Fork.yp ?_ | refine Fork.np ?_ | refine Fork.ny ?_ | refine Fork.nn ?_ | refine Fork.yb ?_ | refine Fork.nb ?_ | refine Fork.dp (fun h => ?_) (fun h => ?_) | refine Fork.dn (fun h => ?_) (fun h => ?_) | (refine Fork.mk (fun h => ?_) (fun h => ?_) <;> simp only [decide_eq_true_eq, decide_eq_false_iff_not, Bool.not_eq_true', Bool.not_eq_false', Bool.or_eq_true, Bool.or_eq_false_iff] at h) | refine GetN.go ?_ | refine Need.ap1 ?_ | refine Need.ap0 ?_ | refine Need.go ?_ | refine Need.draw ?_ | refine ElemN.go ?_ | refine ExtN.ext ?_ | refine ExtN.wr ?_ | refine AllocN.go (fun l hl => ?_) | refine finGo ?_) <;> try (conv => whnf)
            all_goals try (exact FinP.pan _ (Sub.refl _) (.inr ⟨_, j1, rfl⟩))
            all_goals
              refine hK ⟨k + 1, upd τ2 lu (.mp false (m2.set jj (.i ed, .int .i64 0))), m2.set jj (.i ed, .int .i64 0)⟩ _ _ ⟨by dsimp only; omega, by dsimp only; rw [htk, ← List.append_assoc]; exact hJ.put j1 j2, upd_same _ _ _, j3.set0 hnu hjj⟩ (by dsimp only; omega) ?_
              (refine ⟨rfl, ?_, ?_, Sub.refl _⟩ <;> repeat' (first | exact EnvLe.nil | exact LocsLe.nil | refine EnvLe.cons _ _ _ ?_ ?_ | refine LocsLe.cons _ _ _ ?_ ?_ | exact CVle.same _ rfl | exact CVle.vec _ _ | exact CVle.nil | exact CVle.tok _ _ _ rfl rfl | exact ObLe.tok _ _ rfl | exact CVles.nil | refine CVles.cons ?_ ?_ | exact ObLe.same _ rfl rfl | refine ObLe.cells rfl ?_))
  · rw [List.take_of_length_le (by omega)] at i2
    conv => whnf
    repeat' (first | refine OrdN.one ?_ | refine Fork.yp ?_ | refine Fork.np ?_ | refine Fork.ny ?_ | refine Fork.nn ?_ | refine Fork.yb ?_ | refine Fork.nb ?_ | refine Fork.dp (fun h => ?_) (fun h => ?_) | refine Fork.dn (fun h => ?_) (fun h => ?_) | (refine Fork.mk (fun h => ?_) (fun h => ?_) <;> simp only [decide_eq_true_eq, decide_eq_false_iff_not, Bool.not_eq_true', Bool.not_eq_false', Bool.or_eq_true, Bool.or_eq_false_iff] at h) | refine GetN.go ?_ | refine Need.ap1 ?_ | refine Need.ap0 ?_ | refine Need.go ?_ | refine Need.draw ?_ | refine ElemN.go ?_ | refine ExtN.ext ?_ | refine ExtN.wr ?_ | refine AllocN.go (fun l hl => ?_) | refine finGo ?_) <;> try (conv => whnf)
    all_goals exact .inl ⟨τ1, m1, i2, i3, i4, rfl⟩
end
end Go.Proofs.YtlamgfimgadnmaaGreat
