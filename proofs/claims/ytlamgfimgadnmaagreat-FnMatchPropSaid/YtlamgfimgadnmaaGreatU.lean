/-
  Contracts of the functions that the law reaches.
-/
import Derived.Test.YtlamgfimgadnmaaGreatT
import Derived.Test.YtlamgfimgadnmaaGreatS
set_option linter.unusedVariables false
set_option linter.unusedSimpArgs false
namespace Go.Proofs.YtlamgfimgadnmaaGreat
open Go Go.CL
set_option maxRecDepth 10000
theorem WS2.arr {g : Gr} {given : List Pr} {S : List StA} {lx ln lu : Nat} {ms : List (MK × Value)} {τ0 τ : Heap} (st : WS2 g given S lx ln lu ms τ0 τ) {d : Int} {j l n cap : Nat} (h : ze (.i d) ms 0 = some (j, slV l n cap)) : τ l = some (.arr 3 1 cap (qy (zgu g.edges d))) := by
  rcases st.e d with ⟨h1, _⟩ | ⟨j', l', n', cap', h1, _, _, _, h2⟩
  · rw [h] at h1; cases h1
  · rw [h] at h1
    cases h1
    exact h2
def zv1 (g : Gr) (given : List Pr) (s : Stp) (R : List Stp) (d : Int) (row : List Pr) (us : List Int) (i : Nat) : List Ev := match g.edges[i]? with
  | none => []
  | some e => match us.contains e.id || !zpr e d s.way s.kind with
    | true => []
    | false => match g.nodes[(zq (ve g.nodes) (zoc e d) 0).toNat]? with
      | none => []
      | some n => (zfi g given s.spot n (zd6 s e n row)).evs (zef g given R n.id (zd6 s e n row) (e.id :: us))
theorem zrr {g : Gr} {given : List Pr} {s : Stp} {R : List Stp} {d : Int} {row : List Pr} {us : List Int} (h : s.hop = true) : zef g given (s :: R) d row us = (zgu g.edges d).flatMap (zv1 g given s R d row us) := by
  have : zef g given (s :: R) d row us = (match s.hop with
    | false => g.nodes.flatMap fun n => (zfi g given s.spot n (yg row s.spot.name (yd n.id))).evs (zef g given R n.id (yg row s.spot.name (yd n.id)) us)
    | true => (zgu g.edges d).flatMap (zv1 g given s R d row us)) := rfl
  rw [this, h]
section
variable {g : Gr} {given : List Pr} {S : List StA} {lx ln lu : Nat} {ms : List (MK × Value)} {τ0 : Heap} {l : Nat} {all : List Ev} {J : List (List Pr) → Heap → Prop} {KP : Int → Heap → Prop}
set_option maxHeartbeats 40000000 in
theorem z4a (hJ : WJ2 g given S lx ln lu ms τ0 l all J KP) {i : Nat} {s : StA} {R : List Stp} (hs : S[i]? = some s) (hh : s.s.hop = true) (hz : s.s.name.size ≤ 1000 ∧ s.s.spot.name.size ≤ 1000) (ih : zib g given lx lu l all J KP R (i + 1)) : zib g given lx lu l all J KP (s.s :: R) i := by
  intro d row us m pre rest τ hsc hl hall h1 h2 h3
  have e3 := zcx S
  have hS := hJ.len
  have e4 := ym g.nodes
  have e5 := ye g.edges
  have hg := hsc.gt
  have hgk := hsc.go
  have hgl := hg.nl
  have st0 := hJ.st h1
  have hx := st0.x
  have hi := (List.getElem?_eq_some_iff.1 hs).1
  have hso := hJ.ok s (List.mem_of_getElem? hs)
  have hs' := zt7 hs
  unfold zn5
  rw [zrr hh] at hall ⊢
  obtain ⟨⟨h, nm, kd, w, ⟨sn, sl, ps⟩⟩, cs⟩ := s
  dsimp only at hh hz
  subst hh
  obtain ⟨hz1, hz2⟩ := hz
  obtain ⟨f, hfd⟩ : ∃ f : Nat → List Ev, f = zv1 g given ⟨true, nm, kd, w, ⟨sn, sl, ps⟩⟩ R d row us := ⟨_, rfl⟩
  dsimp only at hall ⊢
  rw [← hfd] at hall ⊢
  simp only [List.length_cons] at hl
  have hbl : (zgu g.edges d).length ≤ 1000 := Nat.le_trans zp6 hg.el
  rcases st0.e d with ⟨hf, hb⟩ | ⟨j0, l0, n, cap, hf, hn, hb, hlu, ha⟩
  · rw [hb]
    refine jq (X := X) zr5 zg9 (body := yz Tryz.f77) Tryz.func77 rfl (by kernel_rfl) (by kernel_rfl) ?_
    rw [Tryz.ntmps77]
    conv => whnf
    repeat' (first | (refine GetN.go ?_ (h := hx)) | (refine ElemN.go ?_ (h := hs')) | (refine GetN.go ?_ (h := st0.n)) | (refine MapN.go ?_ hf) | (refine LoopN.once (by rfl) (by repeat' (first | exact LocsLe.nil | refine LocsLe.cons _ _ _ ?_ ?_ | exact ObLe.same _ rfl rfl)) ?_) | refine Zb ?_ | refine Zg ?_ | refine Zm ?_ | refine Zr ?_) <;> try (conv => whnf)
    all_goals exact .inl ⟨[], τ, m, rfl, by simpa using h1, h2, h3, rfl⟩
  refine jq (X := X) zr5 zg9 (body := yz Tryz.f77) Tryz.func77 rfl (by kernel_rfl) (by kernel_rfl) ?_
  rw [Tryz.ntmps77]
  conv => whnf
  repeat' (first | (refine GetN.go ?_ (h := hx)) | (refine ElemN.go ?_ (h := hs')) | (refine GetN.go ?_ (h := st0.n)) | (refine MapN.go ?_ hf) | refine Zb ?_ | refine Zm ?_) <;> try (conv => whnf)
  refine LoopN.rule (α := WSt2) (fun a => ⟨179, [(0, .ptr (.g lx) 0), (1, i64 i), (2, i64 d), (3, .vec (prs row)), (4, .fn (.yield l) [] []), (10, .sc (.bool false)), (11, .ptr (.f 11) 0), (82, .grow l0 n cap), (83, i64 n), (84, i64 a.k)], [(11, .cells (StA.cv ⟨⟨true, nm, kd, w, ⟨sn, sl, ps⟩⟩, cs⟩).cells)]⟩)
    (fun a => a.t) (fun a => n - a.k) (fun a => a.k ≤ n ∧ ((zgu g.edges d).take a.k).flatMap f = a.r.map .inl ∧ J (pre ++ a.r) a.t ∧ a.t lu = some (.mp false a.m) ∧ UsedI us a.m) ?_ ⟨0, τ, m, []⟩ ⟨by dsimp only; omega, rfl, by simpa using h1, h2, h3⟩ ?_
  rotate_left
  · exact ZW
  rintro ⟨k, τ1, m1, rs⟩ K ⟨i1, i0, i2, i3, i4⟩ hK
  dsimp only at i0 i1 i2 i3 i4 hK ⊢
  have st1 := hJ.st i2
  have hx1 := st1.x
  have ha1 := st1.arr hf
  by_cases hk : k < n
  · obtain ⟨pl, hpl⟩ : ∃ pl, (zgu g.edges d)[k]? = some pl := ⟨_, List.getElem?_eq_getElem (by omega)⟩
    have hplc := zyt hpl
    have hplt := z3g (List.mem_of_getElem? hpl)
    obtain ⟨ed, kd', es, et, eps, hm, hge, hxe, -⟩ := qp hplt
    have hide := zv0 hgk _ hm
    dsimp only at hide
    have hsp := zrs hpl i0 hall
    have htk := zwu hpl i0
    have hop : f pl = match us.contains ed || !zpr ⟨ed, kd', es, et, eps⟩ d w kd with
      | true => []
      | false => match g.nodes[(zq (ve g.nodes) (zoc ⟨ed, kd', es, et, eps⟩ d) 0).toNat]? with
        | none => []
        | some n => (zfi g given ⟨sn, sl, ps⟩ n (zd6 ⟨true, nm, kd, w, ⟨sn, sl, ps⟩⟩ ⟨ed, kd', es, et, eps⟩ n row)).evs (zef g given R n.id (zd6 ⟨true, nm, kd, w, ⟨sn, sl, ps⟩⟩ ⟨ed, kd', es, et, eps⟩ n row) (ed :: us)) := by
      rw [hfd]; unfold zv1; rw [hge]
    have skip : f pl = [] → ((zgu g.edges d).take (k + 1)).flatMap f = rs.map .inl := fun e => by
      have := htk [] e
      rwa [List.append_nil] at this
    rcases i4 ed with ⟨f0, hnu⟩ | ⟨j, f0, hnu⟩ | ⟨j, f0, hnu⟩
    · have hcn : us.contains ed = false := by rw [← Bool.not_eq_true]; intro e; exact hnu (List.contains_iff_mem.1 e)
      rw [hcn, Bool.false_or] at hop
      have cg : CRun Tryz.prog 105 [.agg [i64 ed, .sc (.string kd'), i64 es, i64 et, .vec (prs eps)], i64 d, i64 w, .sc (.string kd)] τ1 (· = .ret (.sc (.bool (zpr ⟨ed, kd', es, et, eps⟩ d w kd))) τ1) := zh1
      cases hgo : zpr ⟨ed, kd', es, et, eps⟩ d w kd <;> rw [hgo] at cg hop
      · have hsk := skip hop
        conv => whnf
        repeat' (first | (refine ZC cg ?_) | (refine GetN.go ?_ (h := hx1)) | (refine GetN.go ?_ (h := i3)) | (refine GetN.go ?_ (h := ha1)) | (refine ElemN.go ?_ (h := hplc)) | (refine ElemN.go ?_ (h := hxe)) | (refine MapN.go ?_ f0) | refine Zh ?_ | refine Za ?_ | refine Zb ?_ | refine Zm ?_ | refine Zn ?_ | refine Zp ?_) <;> try (conv => whnf)
        all_goals
          refine hK ⟨k + 1, τ1, m1, rs⟩ _ _ ⟨by dsimp only; omega, hsk, i2, i3, i4⟩ (by dsimp only; omega) ?_
          exact ZW
      · obtain ⟨ni, nd, hpi, hnd, hid⟩ := z03 hgk hm d
        replace hop : f pl = match g.nodes[(zq (ve g.nodes) (zoc ⟨ed, kd', es, et, eps⟩ d) 0).toNat]? with
          | none => []
          | some n => (zfi g given ⟨sn, sl, ps⟩ n (zd6 ⟨true, nm, kd, w, ⟨sn, sl, ps⟩⟩ ⟨ed, kd', es, et, eps⟩ n row)).evs (zef g given R n.id (zd6 ⟨true, nm, kd, w, ⟨sn, sl, ps⟩⟩ ⟨ed, kd', es, et, eps⟩ n row) (ed :: us)) := hop
        rw [hpi, Int.toNat_natCast, hnd] at hop
        dsimp only at hop
        have hni := (List.getElem?_eq_some_iff.1 hnd).1
        have hnm : nd ∈ g.nodes := List.mem_of_getElem? hnd
        have hidn := zgd hgk _ hnm
        have hxn : (nds g.nodes)[ni]? = some nd.cv := by unfold nds; rw [List.getElem?_map, hnd]; rfl
        have cp := zff (σ := τ1) (l := g.nodes) (d' := zoc ⟨ed, kd', es, et, eps⟩ d) hgl
        rw [hpi] at cp
        have hl1 := jz (row := row) (s := nm) (v := zam ed)
        have c1 := zgm (σ := τ1) (d := ed)
        have b1 := zn1 (σ := τ1) (row := row) (s := nm) (v := zam ed) (by omega)
        have c2 := zcj (σ := τ1) (d := nd.id)
        have b2 := zn1 (σ := τ1) (row := yg row nm (zam ed)) (s := sn) (v := yd nd.id) (by omega)
        have hl3 := z68 nm sn row (zam ed) (yd nd.id)
        have hsc2 := vb (s := sn) (vb (s := nm) hsc (by omega) hz1 (z2a hide)) (by omega) hz2 (zu3 hidn)
        have c3 := zqb (s := ⟨⟨true, nm, kd, w, ⟨sn, sl, ps⟩⟩, cs⟩) (n := nd) st1.s hso hsc2 (hg.ns _ hnm) hx1
        dsimp only at c3
        have hnx : zd6 ⟨true, nm, kd, w, ⟨sn, sl, ps⟩⟩ ⟨ed, kd', es, et, eps⟩ nd row = yg (yg row nm (zam ed)) sn (yd nd.id) := rfl
        rw [hnx] at hop
        generalize hnext : yg (yg row nm (zam ed)) sn (yd nd.id) = next at hop b2 c3 hl3 hsc2
        have hfar : (es = d ∧ zoc ⟨ed, kd', es, et, eps⟩ d = et) ∨ (¬ es = d ∧ zoc ⟨ed, kd', es, et, eps⟩ d = es) := by
          unfold zoc
          by_cases hsd : es = d
          · exact .inl ⟨hsd, if_pos hsd⟩
          · exact .inr ⟨hsd, if_neg hsd⟩
        have hu1 : UsedI (ed :: us) (m1 ++ [(.i ed, .int .i64 1)]) := i4.add f0
        have J1 := hJ.put (m' := m1 ++ [(.i ed, .int .i64 1)]) i2 i3
        clear hall hnx hnext hnd
        cases hq : zfi g given ⟨sn, sl, ps⟩ nd next with
        | no =>
          rw [hq] at c3 hop
          have c3 : CRun Tryz.prog 104 _ τ1 (· = .ret (.sc (.bool false)) τ1) := c3
          have hsk := skip hop
          clear hsp htk
          obtain ⟨nid, nls, nps⟩ := nd
          rcases hfar with ⟨hsd, hfe⟩ | ⟨hsd, hfe⟩ <;> rw [hfe] at cp
          all_goals
            conv => whnf
            repeat' (first | (refine ZC cg ?_) | (refine ZC ku ?_) | (refine ZC cp ?_) | (refine ZC c1 ?_) | (refine ZC b1 ?_) | (refine ZC c2 ?_) | (refine ZC b2 ?_) | (refine ZC c3 ?_) | (refine GetN.go ?_ (h := hx1)) | (refine GetN.go ?_ (h := i3)) | (refine GetN.go ?_ (h := ha1)) | (refine ElemN.go ?_ (h := hplc)) | (refine ElemN.go ?_ (h := hxe)) | (refine MapN.go ?_ f0) | (refine ElemN.go ?_ (h := hxn)) | refine Zh ?_ | refine Za ?_ | refine Zb ?_ | refine Zc ?_ | refine Zd ?_ | refine Zm ?_ | refine Zn ?_ | refine Zp ?_) <;> try (conv => whnf)
            all_goals
              refine hK ⟨k + 1, τ1, m1, rs⟩ _ _ ⟨by dsimp only; omega, hsk, i2, i3, i4⟩ (by dsimp only; omega) ?_
              exact ZW
        | bad c =>
          rw [hq] at c3 hop
          have c3 : CRun Tryz.prog 104 _ τ1 (· = .pan (trP c) τ1) := c3
          rw [hop] at hsp
          have hbd := hJ.bad hsp i2
          clear hsp htk skip
          obtain ⟨nid, nls, nps⟩ := nd
          rcases hfar with ⟨hsd, hfe⟩ | ⟨hsd, hfe⟩ <;> rw [hfe] at cp
          all_goals
            conv => whnf
            repeat' (first | (refine ZC cg ?_) | (refine ZC ku ?_) | (refine ZC cp ?_) | (refine ZC c1 ?_) | (refine ZC b1 ?_) | (refine ZC c2 ?_) | (refine ZC b2 ?_) | (refine ZC c3 ?_) | (refine GetN.go ?_ (h := hx1)) | (refine GetN.go ?_ (h := i3)) | (refine GetN.go ?_ (h := ha1)) | (refine ElemN.go ?_ (h := hplc)) | (refine ElemN.go ?_ (h := hxe)) | (refine MapN.go ?_ f0) | (refine ElemN.go ?_ (h := hxn)) | refine Zh ?_ | refine Za ?_ | refine Zb ?_ | refine Zc ?_ | refine Zd ?_ | refine Zm ?_ | refine Zn ?_ | refine Zp ?_) <;> try (conv => whnf)
            all_goals exact FinP.pan _ (Sub.refl _) (.inr ⟨_, _, hbd, rfl⟩)
        | yes =>
          rw [hq] at c3 hop
          have c3 : CRun Tryz.prog 104 _ τ1 (· = .ret (.sc (.bool true)) τ1) := c3
          rw [hop] at hsp
          have c4 := ih (d := nd.id) (row := next) (us := ed :: us) (m := m1 ++ [(.i ed, .int .i64 1)]) (pre := pre ++ rs) (τ := upd τ1 lu (.mp false (m1 ++ [(.i ed, .int .i64 1)]))) hsc2 (by omega) hsp J1 (za _ _ _) hu1
          have htk2 := fun (r2 : List (List Pr)) (e : zef g given R nd.id next (ed :: us) = r2.map .inl) => htk r2 (hop.trans e)
          have c5 := CRun.mono c4 (q := fun out => (∃ r2 τ2 m2 jj, ((zgu g.edges d).take (k + 1)).flatMap f = (rs ++ r2).map .inl ∧ J ((pre ++ rs) ++ r2) τ2 ∧ τ2 lu = some (.mp false m2) ∧ UsedI (ed :: us) m2 ∧ ze (.i ed) m2 0 = some (jj, .int .i64 1) ∧ τ2 lx = some (.cells [.vec (nds g.nodes), .vec (eds g.edges), i64 g.nn, i64 g.ne, .map ln, .vec (prs given), .vec (zhj S), .map lu]) ∧ out = .ret (.sc (.bool true)) τ2) ∨ ∃ c τ2, KP c τ2 ∧ out = .pan (trP c) τ2) (by
            rintro _ (⟨r2, τ2, m2, j0, j1, j2, j3, rfl⟩ | ⟨c, τ2, j1, rfl⟩)
            · obtain ⟨jj, hjj⟩ := j3.has
              exact .inl ⟨r2, τ2, m2, jj, htk2 r2 j0, j1, j2, j3, hjj, (hJ.st j1).x, rfl⟩
            · exact .inr ⟨c, τ2, j1, rfl⟩)
          clear hop skip hpi c4 hsp htk htk2
          obtain ⟨nid, nls, nps⟩ := nd
          have hxJ := (hJ.st J1).x
          rcases hfar with ⟨hsd, hfe⟩ | ⟨hsd, hfe⟩ <;> rw [hfe] at cp
          all_goals
            conv => whnf
            repeat' (first | (refine ZC cg ?_) | (refine ZC ku ?_) | (refine ZC cp ?_) | (refine ZC c1 ?_) | (refine ZC b1 ?_) | (refine ZC c2 ?_) | (refine ZC b2 ?_) | (refine ZC c3 ?_) | (refine GetN.go ?_ (h := hx1)) | (refine GetN.go ?_ (h := i3)) | (refine GetN.go ?_ (h := ha1)) | (refine ElemN.go ?_ (h := hplc)) | (refine ElemN.go ?_ (h := hxe)) | ((refine CallN.many c5 ?_; rintro _ (⟨r2, τ2, m2, jj, j0, j1, j2, j3, hjj, j4, rfl⟩ | ⟨c, τ2, j1, rfl⟩))) | (refine GetN.go ?_ (h := j4)) | (refine GetN.go ?_ (h := j2)) | (refine MapN.go ?_ f0) | (refine MapN.go ?_ hjj) | (refine ElemN.go ?_ (h := hxn)) | refine Zh ?_ | refine Za ?_ | refine Zb ?_ | refine Zc ?_ | refine Zd ?_ | refine Zm ?_ | refine Zn ?_ | refine Zp ?_ | refine Zq ?_) <;> try (conv => whnf)
            all_goals try (exact FinP.pan _ (Sub.refl _) (.inr ⟨_, _, j1, rfl⟩))
            all_goals
              refine hK ⟨k + 1, upd τ2 lu (.mp false (m2.set jj (.i ed, .int .i64 0))), m2.set jj (.i ed, .int .i64 0), rs ++ r2⟩ _ _ ⟨by dsimp only; omega, j0, by dsimp only; rw [← List.append_assoc]; exact hJ.put j1 j2, za _ _ _, j3.set0 hnu hjj⟩ (by dsimp only; omega) ?_
              exact ZW
    · have hcn : us.contains ed = true := List.contains_iff_mem.2 hnu
      rw [hcn, Bool.true_or] at hop
      have hsk := skip hop
      conv => whnf
      repeat' (first | (refine GetN.go ?_ (h := hx1)) | (refine GetN.go ?_ (h := i3)) | (refine GetN.go ?_ (h := ha1)) | (refine ElemN.go ?_ (h := hplc)) | (refine ElemN.go ?_ (h := hxe)) | (refine MapN.go ?_ f0) | refine Za ?_ | refine Zm ?_ | refine Zn ?_) <;> try (conv => whnf)
      all_goals
        refine hK ⟨k + 1, τ1, m1, rs⟩ _ _ ⟨by dsimp only; omega, hsk, i2, i3, i4⟩ (by dsimp only; omega) ?_
        exact ZW
    · have hcn : us.contains ed = false := by rw [← Bool.not_eq_true]; intro e; exact hnu (List.contains_iff_mem.1 e)
      rw [hcn, Bool.false_or] at hop
      have cg : CRun Tryz.prog 105 [.agg [i64 ed, .sc (.string kd'), i64 es, i64 et, .vec (prs eps)], i64 d, i64 w, .sc (.string kd)] τ1 (· = .ret (.sc (.bool (zpr ⟨ed, kd', es, et, eps⟩ d w kd))) τ1) := zh1
      cases hgo : zpr ⟨ed, kd', es, et, eps⟩ d w kd <;> rw [hgo] at cg hop
      · have hsk := skip hop
        conv => whnf
        repeat' (first | (refine ZC cg ?_) | (refine GetN.go ?_ (h := hx1)) | (refine GetN.go ?_ (h := i3)) | (refine GetN.go ?_ (h := ha1)) | (refine ElemN.go ?_ (h := hplc)) | (refine ElemN.go ?_ (h := hxe)) | (refine MapN.go ?_ f0) | refine Zh ?_ | refine Za ?_ | refine Zb ?_ | refine Zm ?_ | refine Zn ?_ | refine Zp ?_) <;> try (conv => whnf)
        all_goals
          refine hK ⟨k + 1, τ1, m1, rs⟩ _ _ ⟨by dsimp only; omega, hsk, i2, i3, i4⟩ (by dsimp only; omega) ?_
          exact ZW
      · obtain ⟨ni, nd, hpi, hnd, hid⟩ := z03 hgk hm d
        replace hop : f pl = match g.nodes[(zq (ve g.nodes) (zoc ⟨ed, kd', es, et, eps⟩ d) 0).toNat]? with
          | none => []
          | some n => (zfi g given ⟨sn, sl, ps⟩ n (zd6 ⟨true, nm, kd, w, ⟨sn, sl, ps⟩⟩ ⟨ed, kd', es, et, eps⟩ n row)).evs (zef g given R n.id (zd6 ⟨true, nm, kd, w, ⟨sn, sl, ps⟩⟩ ⟨ed, kd', es, et, eps⟩ n row) (ed :: us)) := hop
        rw [hpi, Int.toNat_natCast, hnd] at hop
        dsimp only at hop
        have hni := (List.getElem?_eq_some_iff.1 hnd).1
        have hnm : nd ∈ g.nodes := List.mem_of_getElem? hnd
        have hidn := zgd hgk _ hnm
        have hxn : (nds g.nodes)[ni]? = some nd.cv := by unfold nds; rw [List.getElem?_map, hnd]; rfl
        have cp := zff (σ := τ1) (l := g.nodes) (d' := zoc ⟨ed, kd', es, et, eps⟩ d) hgl
        rw [hpi] at cp
        have hl1 := jz (row := row) (s := nm) (v := zam ed)
        have c1 := zgm (σ := τ1) (d := ed)
        have b1 := zn1 (σ := τ1) (row := row) (s := nm) (v := zam ed) (by omega)
        have c2 := zcj (σ := τ1) (d := nd.id)
        have b2 := zn1 (σ := τ1) (row := yg row nm (zam ed)) (s := sn) (v := yd nd.id) (by omega)
        have hl3 := z68 nm sn row (zam ed) (yd nd.id)
        have hsc2 := vb (s := sn) (vb (s := nm) hsc (by omega) hz1 (z2a hide)) (by omega) hz2 (zu3 hidn)
        have c3 := zqb (s := ⟨⟨true, nm, kd, w, ⟨sn, sl, ps⟩⟩, cs⟩) (n := nd) st1.s hso hsc2 (hg.ns _ hnm) hx1
        dsimp only at c3
        have hnx : zd6 ⟨true, nm, kd, w, ⟨sn, sl, ps⟩⟩ ⟨ed, kd', es, et, eps⟩ nd row = yg (yg row nm (zam ed)) sn (yd nd.id) := rfl
        rw [hnx] at hop
        generalize hnext : yg (yg row nm (zam ed)) sn (yd nd.id) = next at hop b2 c3 hl3 hsc2
        have hfar : (es = d ∧ zoc ⟨ed, kd', es, et, eps⟩ d = et) ∨ (¬ es = d ∧ zoc ⟨ed, kd', es, et, eps⟩ d = es) := by
          unfold zoc
          by_cases hsd : es = d
          · exact .inl ⟨hsd, if_pos hsd⟩
          · exact .inr ⟨hsd, if_neg hsd⟩
        have hu1 : UsedI (ed :: us) (m1.set j (.i ed, .int .i64 1)) := i4.set1 f0
        have J1 := hJ.put (m' := m1.set j (.i ed, .int .i64 1)) i2 i3
        clear hall hnx hnext hnd
        cases hq : zfi g given ⟨sn, sl, ps⟩ nd next with
        | no =>
          rw [hq] at c3 hop
          have c3 : CRun Tryz.prog 104 _ τ1 (· = .ret (.sc (.bool false)) τ1) := c3
          have hsk := skip hop
          clear hsp htk
          obtain ⟨nid, nls, nps⟩ := nd
          rcases hfar with ⟨hsd, hfe⟩ | ⟨hsd, hfe⟩ <;> rw [hfe] at cp
          all_goals
            conv => whnf
            repeat' (first | (refine ZC cg ?_) | (refine ZC ku ?_) | (refine ZC cp ?_) | (refine ZC c1 ?_) | (refine ZC b1 ?_) | (refine ZC c2 ?_) | (refine ZC b2 ?_) | (refine ZC c3 ?_) | (refine GetN.go ?_ (h := hx1)) | (refine GetN.go ?_ (h := i3)) | (refine GetN.go ?_ (h := ha1)) | (refine ElemN.go ?_ (h := hplc)) | (refine ElemN.go ?_ (h := hxe)) | (refine MapN.go ?_ f0) | (refine ElemN.go ?_ (h := hxn)) | refine Zh ?_ | refine Za ?_ | refine Zb ?_ | refine Zc ?_ | refine Zd ?_ | refine Zm ?_ | refine Zn ?_ | refine Zp ?_) <;> try (conv => whnf)
            all_goals
              refine hK ⟨k + 1, τ1, m1, rs⟩ _ _ ⟨by dsimp only; omega, hsk, i2, i3, i4⟩ (by dsimp only; omega) ?_
              exact ZW
        | bad c =>
          rw [hq] at c3 hop
          have c3 : CRun Tryz.prog 104 _ τ1 (· = .pan (trP c) τ1) := c3
          rw [hop] at hsp
          have hbd := hJ.bad hsp i2
          clear hsp htk skip
          obtain ⟨nid, nls, nps⟩ := nd
          rcases hfar with ⟨hsd, hfe⟩ | ⟨hsd, hfe⟩ <;> rw [hfe] at cp
          all_goals
            conv => whnf
            repeat' (first | (refine ZC cg ?_) | (refine ZC ku ?_) | (refine ZC cp ?_) | (refine ZC c1 ?_) | (refine ZC b1 ?_) | (refine ZC c2 ?_) | (refine ZC b2 ?_) | (refine ZC c3 ?_) | (refine GetN.go ?_ (h := hx1)) | (refine GetN.go ?_ (h := i3)) | (refine GetN.go ?_ (h := ha1)) | (refine ElemN.go ?_ (h := hplc)) | (refine ElemN.go ?_ (h := hxe)) | (refine MapN.go ?_ f0) | (refine ElemN.go ?_ (h := hxn)) | refine Zh ?_ | refine Za ?_ | refine Zb ?_ | refine Zc ?_ | refine Zd ?_ | refine Zm ?_ | refine Zn ?_ | refine Zp ?_) <;> try (conv => whnf)
            all_goals exact FinP.pan _ (Sub.refl _) (.inr ⟨_, _, hbd, rfl⟩)
        | yes =>
          rw [hq] at c3 hop
          have c3 : CRun Tryz.prog 104 _ τ1 (· = .ret (.sc (.bool true)) τ1) := c3
          rw [hop] at hsp
          have c4 := ih (d := nd.id) (row := next) (us := ed :: us) (m := m1.set j (.i ed, .int .i64 1)) (pre := pre ++ rs) (τ := upd τ1 lu (.mp false (m1.set j (.i ed, .int .i64 1)))) hsc2 (by omega) hsp J1 (za _ _ _) hu1
          have htk2 := fun (r2 : List (List Pr)) (e : zef g given R nd.id next (ed :: us) = r2.map .inl) => htk r2 (hop.trans e)
          have c5 := CRun.mono c4 (q := fun out => (∃ r2 τ2 m2 jj, ((zgu g.edges d).take (k + 1)).flatMap f = (rs ++ r2).map .inl ∧ J ((pre ++ rs) ++ r2) τ2 ∧ τ2 lu = some (.mp false m2) ∧ UsedI (ed :: us) m2 ∧ ze (.i ed) m2 0 = some (jj, .int .i64 1) ∧ τ2 lx = some (.cells [.vec (nds g.nodes), .vec (eds g.edges), i64 g.nn, i64 g.ne, .map ln, .vec (prs given), .vec (zhj S), .map lu]) ∧ out = .ret (.sc (.bool true)) τ2) ∨ ∃ c τ2, KP c τ2 ∧ out = .pan (trP c) τ2) (by
            rintro _ (⟨r2, τ2, m2, j0, j1, j2, j3, rfl⟩ | ⟨c, τ2, j1, rfl⟩)
            · obtain ⟨jj, hjj⟩ := j3.has
              exact .inl ⟨r2, τ2, m2, jj, htk2 r2 j0, j1, j2, j3, hjj, (hJ.st j1).x, rfl⟩
            · exact .inr ⟨c, τ2, j1, rfl⟩)
          clear hop skip hpi c4 hsp htk htk2
          obtain ⟨nid, nls, nps⟩ := nd
          have hxJ := (hJ.st J1).x
          rcases hfar with ⟨hsd, hfe⟩ | ⟨hsd, hfe⟩ <;> rw [hfe] at cp
          all_goals
            conv => whnf
            repeat' (first | (refine ZC cg ?_) | (refine ZC ku ?_) | (refine ZC cp ?_) | (refine ZC c1 ?_) | (refine ZC b1 ?_) | (refine ZC c2 ?_) | (refine ZC b2 ?_) | (refine ZC c3 ?_) | (refine GetN.go ?_ (h := hx1)) | (refine GetN.go ?_ (h := i3)) | (refine GetN.go ?_ (h := ha1)) | (refine ElemN.go ?_ (h := hplc)) | (refine ElemN.go ?_ (h := hxe)) | ((refine CallN.many c5 ?_; rintro _ (⟨r2, τ2, m2, jj, j0, j1, j2, j3, hjj, j4, rfl⟩ | ⟨c, τ2, j1, rfl⟩))) | (refine GetN.go ?_ (h := j4)) | (refine GetN.go ?_ (h := j2)) | (refine MapN.go ?_ f0) | (refine MapN.go ?_ hjj) | (refine ElemN.go ?_ (h := hxn)) | refine Zh ?_ | refine Za ?_ | refine Zb ?_ | refine Zc ?_ | refine Zd ?_ | refine Zm ?_ | refine Zn ?_ | refine Zp ?_ | refine Zq ?_) <;> try (conv => whnf)
            all_goals try (exact FinP.pan _ (Sub.refl _) (.inr ⟨_, _, j1, rfl⟩))
            all_goals
              refine hK ⟨k + 1, upd τ2 lu (.mp false (m2.set jj (.i ed, .int .i64 0))), m2.set jj (.i ed, .int .i64 0), rs ++ r2⟩ _ _ ⟨by dsimp only; omega, j0, by dsimp only; rw [← List.append_assoc]; exact hJ.put j1 j2, za _ _ _, j3.set0 hnu hjj⟩ (by dsimp only; omega) ?_
              exact ZW
  · rw [List.take_of_length_le (by omega)] at i0
    conv => whnf
    repeat' (first | refine Zb ?_ | refine Zr ?_) <;> try (conv => whnf)
    all_goals exact .inl ⟨rs, τ1, m1, i0, i2, i3, i4, rfl⟩
end
end Go.Proofs.YtlamgfimgadnmaaGreat
