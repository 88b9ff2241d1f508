/-
  Contracts of the functions that the law reaches.
-/
import Derived.Test.YtlamgfimgadnmaaGreatS
import Derived.Test.YtlamgfimgadnmaaGreatR
import Derived.Test.YtlamgfimgadnmaaGreatO
import Derived.Test.YtlamgfimgadnmaaGreatQ
set_option linter.unusedVariables false
set_option linter.unusedSimpArgs false
namespace Go.Proofs.YtlamgfimgadnmaaGreat
open Go Go.CL
set_option maxRecDepth 10000
theorem z0a {ids : List Int} {e : Int} (h : kc ids e = true) : ids.Pairwise (· < ·) := by
  have step : ∀ j (hj : j + 1 < ids.length), ids[j]'(by omega) < ids[j + 1] := fun j hj => by
    have := List.all_eq_true.1 h (j + 1) (List.mem_range.2 hj)
    rw [kx (List.getElem?_eq_getElem hj) (List.getElem?_eq_getElem (by omega))] at this
    simp only [Bool.and_eq_true, decide_eq_true_eq] at this
    exact this.2
  have far : ∀ k i (hk : i + 1 + k < ids.length), ids[i]'(by omega) < ids[i + 1 + k] := by
    intro k
    induction k with
    | zero => intro i hk; exact step i hk
    | succ k ih =>
      intro i hk
      have h1 := ih i (by omega)
      have h2 := step (i + 1 + k) (by omega)
      exact Int.lt_trans h1 h2
  refine List.pairwise_iff_getElem.2 fun i j hi hj hij => ?_
  have := far (j - i - 1) i (by omega)
  have e : i + 1 + (j - i - 1) = j := by omega
  simp only [e] at this
  exact this
theorem zy9 {g : Gr} (h : zn g = true) : (g.nodes.map Nd.id).Pairwise (· < ·) := by
  unfold zn at h
  simp only [Bool.and_eq_true, decide_eq_true_eq] at h
  exact z0a h.2.1
theorem z0x : ∀ (l : List Nd), (l.map Nd.id).Pairwise (· < ·) → ∀ n ∈ l, ∀ m ∈ l, n.id = m.id → n = m
  | [], _, n, hn, _, _, _ => by simp at hn
  | x :: r, hp, n, hn, m, hm, h => by
    rw [List.map_cons, List.pairwise_cons] at hp
    rcases List.mem_cons.1 hn with rfl | hn'
    · rcases List.mem_cons.1 hm with rfl | hm'
      · rfl
      · have := hp.1 m.id (List.mem_map.2 ⟨m, hm', rfl⟩); omega
    · rcases List.mem_cons.1 hm with rfl | hm'
      · have := hp.1 n.id (List.mem_map.2 ⟨n, hn', rfl⟩); omega
      · exact z0x r hp.2 n hn' m hm' h
section
variable {g : Gr} {k C : ByteArray} {w d : Int} {us : List Int} {R : List Stp}
end
inductive Fit where
  | yes | no | bad (c : Int)
def zxw (g : Gr) (given row : List Pr) (ns : List Pr) : List Pt → Fit
  | [] => .yes
  | p :: r => match evR g row given p.e with
    | .err c => .bad c
    | .ok v => match eq3 v ((zx ns p.name).getD nullV) with
      | .yes => zxw g given row ns r
      | _ => .no
def zfi (g : Gr) (given : List Pr) (s : Sp) (n : Nd) (row : List Pr) : Fit := match zva n.id s.name row && zj7 n s.label with
  | true => zxw g given row n.props s.props
  | false => .no
abbrev Ev := Sum (List Pr) Int
def Fit.evs (f : Fit) (l : List Ev) : List Ev := match f with
  | .yes => l
  | .no => []
  | .bad c => [.inr c]
def zef (g : Gr) (given : List Pr) : List Stp → Int → List Pr → List Int → List Ev
  | [], _, row, _ => [.inl row]
  | s :: r, d, row, us => match s.hop with
    | false => g.nodes.flatMap fun n => (zfi g given s.spot n (yg row s.spot.name (yd n.id))).evs (zef g given r n.id (yg row s.spot.name (yd n.id)) us)
    | true => (zgu g.edges d).flatMap fun i => match g.edges[i]? with
      | none => []
      | some e => match us.contains e.id || !zpr e d s.way s.kind with
        | true => []
        | false => match g.nodes[(zq (ve g.nodes) (zoc e d) 0).toNat]? with
          | none => []
          | some n => (zfi g given s.spot n (zd6 s e n row)).evs (zef g given r n.id (zd6 s e n row) (e.id :: us))
def trP (c : Int) : CV := .iface 120 (i64 c)
structure StA where
  s : Stp
  cs : List CV
def zb9 (ps : List Pt) (cs : List CV) : List CV := List.zipWith (fun p c => .agg [.sc (.string p.name), .opq c]) ps cs
def StA.cv : StA → CV
  | ⟨⟨h, n, k, w, ⟨sn, sl, ps⟩⟩, cs⟩ => .agg [.sc (.bool h), .sc (.string n), .sc (.string k), i64 w, .sc (.string sn), .sc (.string sl), .vec (pts ps), .vec (zb9 ps cs)]
def zhj (l : List StA) : List CV := l.map StA.cv
theorem zcx (l : List StA) : (zhj l).length = l.length := by simp [zhj]
theorem zt7 {S : List StA} {i : Nat} {s : StA} (h : S[i]? = some s) : (zhj S)[i]? = some s.cv := by unfold zhj; rw [List.getElem?_map, h]; rfl
structure StOk (s : StA) (τ : Heap) : Prop where
  k : s.cs.length = s.s.spot.props.length
  b : s.s.spot.props.length ≤ 1000
  a : ∀ (j : Nat) c p, s.cs[j]? = some c → s.s.spot.props[j]? = some p → AskOk p.e c τ
  o : ∀ p ∈ s.s.spot.props, okE 4 p.e = true
theorem StOk.mono {s : StA} {τ τ' : Heap} (h : StOk s τ) (hs : Sub τ τ') : StOk s τ' := ⟨h.k, h.b, fun j c p h1 h2 => (h.a j c p h1 h2).mono hs, h.o⟩
theorem zus {ps : List Pt} {cs : List CV} (h : cs.length = ps.length) : (zb9 ps cs).length = ps.length := by unfold zb9; rw [List.length_zipWith, h, Nat.min_self]
theorem zyl {ps : List Pt} {cs : List CV} {i : Nat} (h : cs.length = ps.length) (hi : i < ps.length) : ∃ p c, ps[i]? = some p ∧ cs[i]? = some c ∧ (zb9 ps cs)[i]? = some (.agg [.sc (.string p.name), .opq c]) := by
  refine ⟨ps[i], cs[i]'(by omega), List.getElem?_eq_getElem hi, List.getElem?_eq_getElem (by omega), ?_⟩
  unfold zb9
  rw [List.getElem?_zipWith, List.getElem?_eq_getElem hi, List.getElem?_eq_getElem (by omega : i < cs.length)]
def z7w (σ : Heap) : Fit → COut
  | .yes => .ret (.sc (.bool true)) σ
  | .no => .ret (.sc (.bool false)) σ
  | .bad c => .pan (trP c) σ
theorem zuu {g : Gr} {given row ns : List Pr} {ps : List Pt} {i : Nat} {p : Pt} (h : ps[i]? = some p) : zxw g given row ns (ps.drop i) = match evR g row given p.e with
    | .err c => .bad c
    | .ok v => match eq3 v ((zx ns p.name).getD nullV) with
      | .yes => zxw g given row ns (ps.drop (i + 1))
      | _ => .no := by
  rw [zan h]; rfl
theorem z4z : Tame nullV := by unfold nullV; exact zcg _ (d := 3) (by decide)
theorem z4p {n : Nd} (ht : NdTame n) (s : ByteArray) : Tame ((zx n.props s).getD nullV) := by
  cases h : zx n.props s with
  | none => exact z4z
  | some v =>
    obtain ⟨p, hp, rfl⟩ := zb3 h
    exact (ht.ps p hp).val
theorem z4f (t : T3) : (∃ k m, t.v = .mk k m ⟨#[]⟩ [] ∧ decide (k = 1 ∧ m = 1) = (match t with | .yes => true | _ => false)) := by cases t <;> exact ⟨_, _, rfl, rfl⟩
set_option maxHeartbeats 4000000 in
theorem zqb {τ0 σ : Heap} {lx ln lu : Nat} {g : Gr} {given : List Pr} {ss : List CV} {s : StA} {n : Nd} {row : List Pr} (hsub : Sub τ0 σ) (hs : StOk s τ0) (hsc : SceneOk g row given) (hn : NdTame n)
    (hx0 : σ lx = some (.cells [.vec (nds g.nodes), .vec (eds g.edges), i64 g.nn, i64 g.ne, .map ln, .vec (prs given), .vec ss, .map lu])) :
    CRun Tryz.prog 104 [.ptr (.g lx) 0, s.cv, n.cv, .vec (prs row)] σ (· = z7w σ (zfi g given s.s.spot n row)) := by
  have c1 := zj6 (σ := σ) (l := row) (s := s.s.spot.name) hsc.rl
  have c2 := zh0 (σ := σ) (n := n) (s := s.s.spot.label) hn.ll
  have hpl := fun s => z4p hn s
  have hnl := hn.pl
  obtain ⟨⟨sh, nm, kd, w, ⟨sn, sl, ps⟩⟩, cs⟩ := s
  obtain ⟨hk, hb, ha, ho⟩ := hs
  obtain ⟨d, ls, nps⟩ := n
  dsimp only at c1 c2 hk hb ha ho hpl hnl
  have hpc := zus hk
  have e : zfi g given ⟨sn, sl, ps⟩ ⟨d, ls, nps⟩ row = match zva d sn row && zj7 ⟨d, ls, nps⟩ sl with
    | true => zxw g given row nps ps
    | false => .no := rfl
  show CRun Tryz.prog 104 [_, _, _, _] σ (· = z7w σ (zfi g given ⟨sn, sl, ps⟩ ⟨d, ls, nps⟩ row))
  rw [e]
  clear e
  cases hf : (zva d sn row && zj7 ⟨d, ls, nps⟩ sl)
  · dsimp only
    by_cases h0 : sn = ⟨#[]⟩
    · have e2 : zva d sn row = true := by unfold zva; rw [decide_eq_true h0]; rfl
      rw [e2, Bool.true_and] at hf
      rw [hf] at c2
      refine ZX Tryz.func104 Tryz.ntmps104 ?_
      conv => whnf
      repeat' (first | (refine ZC c2 ?_) | refine Zd ?_ | refine Zp ?_ | refine Zr ?_) <;> try (conv => whnf)
      all_goals rfl
    · have e2 : zva d sn row = z44 d (zx row sn) := by unfold zva; rw [decide_eq_false h0]; rfl
      rw [e2] at hf
      cases hq : zx row sn with
      | none =>
        rw [hq] at c1
        refine ZX Tryz.func104 Tryz.ntmps104 ?_
        conv => whnf
        repeat' (first | (refine ZC c1 ?_) | refine Zc ?_ | refine Zp ?_ | refine Zr ?_) <;> try (conv => whnf)
        all_goals rfl
      | some v =>
        obtain ⟨vk, vn, vt, vl⟩ := v
        rw [hq] at c1 hf
        by_cases hk5 : vk = 5 ∧ vn = d
        · rw [show z44 d (some (.mk vk vn vt vl)) = true from decide_eq_true hk5, Bool.true_and] at hf
          obtain ⟨hk1, hk2⟩ := hk5
          rw [hf] at c2
          refine ZX Tryz.func104 Tryz.ntmps104 ?_
          conv => whnf
          repeat' (first | (refine ZC c1 ?_) | (refine ZC c2 ?_) | refine Zc ?_ | refine Zd ?_ | refine Zp ?_ | refine Zr ?_) <;> try (conv => whnf)
          all_goals rfl
        · have hk2 : vk = 5 → ¬ vn = d := fun e1 e2 => hk5 ⟨e1, e2⟩
          by_cases hk1 : vk = 5
          · have hk3 := hk2 hk1
            refine ZX Tryz.func104 Tryz.ntmps104 ?_
            conv => whnf
            repeat' (first | (refine ZC c1 ?_) | refine Zc ?_ | refine Zd ?_ | refine Zp ?_ | refine Zr ?_) <;> try (conv => whnf)
            all_goals rfl
          · have hk3 := hk1
            refine ZX Tryz.func104 Tryz.ntmps104 ?_
            conv => whnf
            repeat' (first | (refine ZC c1 ?_) | refine Zc ?_ | refine Zp ?_ | refine Zr ?_) <;> try (conv => whnf)
            all_goals rfl
  · dsimp only
    rw [Bool.and_eq_true] at hf
    rw [hf.2] at c2
    have hh : sn = ⟨#[]⟩ ∨ (¬ sn = ⟨#[]⟩ ∧ ∃ vt vl, zx row sn = some (.mk 5 d vt vl)) := by
      by_cases h0 : sn = ⟨#[]⟩
      · exact .inl h0
      · refine .inr ⟨h0, ?_⟩
        have e2 : zva d sn row = z44 d (zx row sn) := by unfold zva; rw [decide_eq_false h0]; rfl
        have h1 := hf.1
        rw [e2] at h1
        cases hq : zx row sn with
        | none => rw [hq] at h1; cases h1
        | some v =>
          obtain ⟨vk, vn, vt, vl⟩ := v
          rw [hq] at h1
          have := of_decide_eq_true (show decide (vk = 5 ∧ vn = d) = true from h1)
          rw [this.1, this.2]; exact ⟨_, _, rfl⟩
    have hh2 : sn = ⟨#[]⟩ ∨ (¬ sn = ⟨#[]⟩ ∧ ∃ vt vl, CRun Tryz.prog 120 [.vec (prs row), .sc (.string sn)] σ (· = .ret (z02 (some (.mk 5 d vt vl))) σ)) := by
      rcases hh with h0 | ⟨h0, vt, vl, hq⟩
      · exact .inl h0
      · rw [hq] at c1; exact .inr ⟨h0, vt, vl, c1⟩
    clear c1 hh
    have e3 := zis ps
    have hdd : d = (⟨d, ls, nps⟩ : Nd).id := rfl
    rcases hh2 with h0 | ⟨h0, vt, vl, c1⟩
    all_goals
      refine jh (X := (O 10 [0,1,2,3,4,5,6,7,8,9,10,11,13,12,14])) (z0g _ _) (zn6 _ _) (body := yz Tryz.f104) Tryz.func104 rfl (by kernel_rfl) (by kernel_rfl) ?_
      rw [Tryz.ntmps104]
      conv => whnf
      repeat' (first | (refine ZC c1 ?_) | (refine ZC c2 ?_) | refine Zc ?_ | refine Zd ?_ | refine Zp ?_) <;> try (conv => whnf)
      refine LoopN.rule (α := Nat) (fun i => ⟨72, [(0, .ptr (.g lx) 0), (3, .vec (prs row)), (5, .ptr (.f 5) 0), (6, .ptr (.f 6) 0), (8, .sc (.bool false)), (43, .vec (zb9 ps cs)), (44, i64 (zb9 ps cs).length), (45, i64 i)], [(5, .cells (StA.cv ⟨⟨sh, nm, kd, w, ⟨sn, sl, ps⟩⟩, cs⟩).cells), (6, .cells (Nd.cv ⟨d, ls, nps⟩).cells)]⟩)
        (fun _ => σ) (fun i => ps.length - i) (fun i => i ≤ ps.length ∧ zxw g given row nps (ps.drop i) = zxw g given row nps ps) ?_ 0 ⟨by omega, rfl⟩ ?_
      rotate_left
      · exact ZW
      rintro i K ⟨i1, i2⟩ hK
      dsimp only at i1 i2 hK ⊢
      by_cases hi : i < ps.length
      · obtain ⟨p, c, hp, hc, hx⟩ := zyl hk hi
        have stp := zuu (g := g) (given := given) (row := row) (ns := nps) hp
        rw [i2] at stp
        have hv := ha i c p hc hp σ hsub g row given hsc
        have rok := ztm hsc p.e (ho p (List.mem_of_getElem? hp))
        have cp := ze8 (σ := σ) (s := p.name) hnl
        have hpt := hpl p.name
        generalize (zx nps p.name).getD nullV = pv at stp cp hpt
        clear ha hp hc c2
        cases hr : evR g row given p.e with
        | err e =>
          rw [hr, jo] at hv
          rw [hr] at stp
          dsimp only at stp
          rw [stp]
          conv => whnf
          repeat' (first | (refine CallVN.one hv ?_) | (refine ElemN.go ?_ (h := hx)) | (refine GetN.go ?_ (h := hx0)) | ((refine ⟨⟨by kernel_rfl, by kernel_rfl⟩, ?_⟩)) | (refine yx ?_) | refine Zh ?_ | refine Za ?_ | refine Zm ?_) <;> try (conv => whnf)
          all_goals rfl
        | ok v =>
          rw [hr] at rok
          rw [hr, qw] at hv
          rw [hr] at stp
          have ce := zgj (σ := σ) (zcg v rok) hpt
          dsimp only at stp
          obtain ⟨vk, vn, vt, vl⟩ := v
          obtain ⟨qk, qn, qt, ql⟩ := pv
          generalize eq3 (.mk vk vn vt vl) (.mk qk qn qt ql) = t at ce stp
          obtain ⟨ek, en, et, hd⟩ := z4f t
          rw [et] at ce
          have cy := zka (σ := σ) (t := ⟨#[]⟩) (l := []) hd
          have hK1 := hK (i + 1)
          clear hK
          cases t
          all_goals
            dsimp only at cy stp
            try dsimp only at hK1
            first | rw [← stp] at hK1 | rw [stp]
            conv => whnf
            repeat' (first | (refine CallVN.one hv ?_) | (refine ElemN.go ?_ (h := hx)) | (refine GetN.go ?_ (h := hx0)) | (refine ZC cp ?_) | (refine ZC ce ?_) | (refine ZC cy ?_) | refine Zh ?_ | refine Za ?_ | refine Zm ?_ | refine Zn ?_ | refine Zp ?_ | refine Zr ?_) <;> try (conv => whnf)
            all_goals first
              | rfl
              | (refine hK1 _ _ ⟨by omega, rfl⟩ (by omega) ?_
                 exact ZW)
      · have hie : i = ps.length := by omega
        rw [← i2, List.drop_eq_nil_of_le (by omega)]
        conv => whnf
        repeat' (first | refine Zb ?_ | refine Zr ?_) <;> try (conv => whnf)
        all_goals rfl
structure WS2 (g : Gr) (given : List Pr) (S : List StA) (lx ln lu : Nat) (ms : List (MK × Value)) (τ0 τ : Heap) : Prop where
  x : τ lx = some (.cells [.vec (nds g.nodes), .vec (eds g.edges), i64 g.nn, i64 g.ne, .map ln, .vec (prs given), .vec (zhj S), .map lu])
  n : τ ln = some (.mp false ms)
  e : ∀ d, (ze (.i d) ms 0 = none ∧ zgu g.edges d = []) ∨ ∃ j l n cap, ze (.i d) ms 0 = some (j, slV l n cap) ∧ n = (zgu g.edges d).length ∧ zgu g.edges d ≠ [] ∧ l ≠ lu ∧ τ l = some (.arr 3 1 cap (qy (zgu g.edges d)))
  s : Sub τ0 τ
structure WJ2 (g : Gr) (given : List Pr) (S : List StA) (lx ln lu : Nat) (ms : List (MK × Value)) (τ0 : Heap) (l : Nat) (all : List Ev) (J : List (List Pr) → Heap → Prop) (KP : Int → Heap → Prop) : Prop where
  st : ∀ {rows τ}, J rows τ → WS2 g given S lx ln lu ms τ0 τ
  put : ∀ {rows τ m m'}, J rows τ → τ lu = some (.mp false m) → J rows (upd τ lu (.mp false m'))
  y : ∀ {pre : List (List Pr)} {x r τ}, pre.map .inl ++ .inl x :: r = all → J pre τ → z35 Tryz.prog l [.vec (prs x)] τ (fun out => (∃ τ', J (pre ++ [x]) τ' ∧ τ' lu = τ lu ∧ out = .ret (.sc (.bool true)) τ') ∨ ∃ c τ', KP c τ' ∧ out = .pan (trP c) τ')
  bad : ∀ {pre : List (List Pr)} {c r τ}, pre.map .inl ++ .inr c :: r = all → J pre τ → KP c τ
  ok : ∀ s ∈ S, StOk s τ0
  len : S.length ≤ 100
def zn5 (g : Gr) (given : List Pr) (lu : Nat) (J : List (List Pr) → Heap → Prop) (KP : Int → Heap → Prop) (R : List Stp) (d : Int) (row : List Pr) (us : List Int) (pre : List (List Pr)) (out : COut) : Prop :=
  (∃ rows τ' m', zef g given R d row us = rows.map .inl ∧ J (pre ++ rows) τ' ∧ τ' lu = some (.mp false m') ∧ UsedI us m' ∧ out = .ret (.sc (.bool true)) τ') ∨ ∃ c τ', KP c τ' ∧ out = .pan (trP c) τ'
def zib (g : Gr) (given : List Pr) (lx lu l : Nat) (all : List Ev) (J : List (List Pr) → Heap → Prop) (KP : Int → Heap → Prop) (R : List Stp) (i : Nat) : Prop :=
  ∀ {d : Int} {row : List Pr} {us : List Int} {m : List (MK × Value)} {pre : List (List Pr)} {rest : List Ev} {τ : Heap}, SceneOk g row given → row.length + 2 * R.length ≤ 500 → pre.map .inl ++ (zef g given R d row us ++ rest) = all → J pre τ → τ lu = some (.mp false m) → UsedI us m →
    CRun Tryz.prog 77 [.ptr (.g lx) 0, i64 i, i64 d, .vec (prs row), .fn (.yield l) [] []] τ (zn5 g given lu J KP R d row us pre)
theorem zn2 {ids : List Int} {e : Int} (h : kc ids e = true) : ∀ d ∈ ids, 0 ≤ d ∧ d ≤ e - 1 := by
  intro d hd
  obtain ⟨i, hi, rfl⟩ := List.getElem_of_mem hd
  have := List.all_eq_true.1 h i (List.mem_range.2 hi)
  unfold zg4 at this
  rw [List.getElem?_eq_getElem hi] at this
  simp only [Bool.and_eq_true, decide_eq_true_eq] at this
  exact this.1
theorem zgd {g : Gr} (h : zn g = true) : ∀ n ∈ g.nodes, 0 ≤ n.id ∧ n.id ≤ 1000000000 := by
  unfold zn at h
  simp only [Bool.and_eq_true, decide_eq_true_eq] at h
  obtain ⟨⟨h1, h2, h3, h4⟩, h5, h6, _⟩ := h
  intro n hn
  have := zn2 h5 n.id (List.mem_map.2 ⟨n, hn, rfl⟩)
  omega
theorem zv0 {g : Gr} (h : zn g = true) : ∀ e ∈ g.edges, 0 ≤ e.id ∧ e.id ≤ 1000000000 := by
  unfold zn at h
  simp only [Bool.and_eq_true, decide_eq_true_eq] at h
  obtain ⟨⟨h1, h2, h3, h4⟩, h5, h6, _⟩ := h
  intro n hn
  have := zn2 h6 n.id (List.mem_map.2 ⟨n, hn, rfl⟩)
  omega
theorem zu3 {d : Int} (h : 0 ≤ d ∧ d ≤ 1000000000) : okV 3 (yd d) = true := by
  unfold yd
  simp only [okV]
  simp [h.1, h.2]
theorem z2a {d : Int} (h : 0 ≤ d ∧ d ≤ 1000000000) : okV 3 (zam d) = true := by
  unfold zam
  simp only [okV]
  simp [h.1, h.2]
theorem vb {g : Gr} {row given : List Pr} {s : ByteArray} {v : Val} (h : SceneOk g row given) (hl : row.length ≤ 900) (hs : s.size ≤ 1000) (ho : okV 3 v = true) : SceneOk g (yg row s v) given := by
  refine ⟨h.gt, h.go, ?_, z3f h.rt hs (zcg v ho), ?_, h.vl, h.vt, h.vo⟩
  · have := jz (row := row) (s := s) (v := v); omega
  · unfold yg; split
    · exact h.ro
    · split
      · exact h.ro
      · intro q hq
        rcases List.mem_append.1 hq with hq | hq
        · exact h.ro q hq
        · rw [List.mem_singleton.1 hq]; exact ho
theorem zwu {α : Type} {f : α → List Ev} {l : List α} {i : Nat} {x : α} {rs : List (List Pr)} (hx : l[i]? = some x) (h : (l.take i).flatMap f = rs.map .inl) (r2 : List (List Pr)) (h2 : f x = r2.map .inl) : (l.take (i + 1)).flatMap f = (rs ++ r2).map .inl := by
  rw [zpt hx, h, h2, List.map_append]
theorem zrs {α : Type} {f : α → List Ev} {l : List α} {i : Nat} {x : α} {rs pre : List (List Pr)} {rest all : List Ev} (hx : l[i]? = some x) (h : (l.take i).flatMap f = rs.map .inl) (hall : pre.map .inl ++ (l.flatMap f ++ rest) = all) :
    (pre ++ rs).map .inl ++ (f x ++ ((l.drop (i + 1)).flatMap f ++ rest)) = all := by
  rw [← hall, List.map_append, ← h]
  have : l.flatMap f = (l.take i).flatMap f ++ f x ++ (l.drop (i + 1)).flatMap f := by
    conv => lhs; rw [← List.take_append_drop (i + 1) l, List.flatMap_append, zpt hx]
  rw [this]; simp
section
variable {g : Gr} {given : List Pr} {S : List StA} {lx ln lu : Nat} {ms : List (MK × Value)} {τ0 : Heap} {l : Nat} {all : List Ev} {J : List (List Pr) → Heap → Prop} {KP : Int → Heap → Prop}
theorem z4b (hJ : WJ2 g given S lx ln lu ms τ0 l all J KP) {i : Nat} (hi : i = S.length) : zib g given lx lu l all J KP [] i := by
  intro d row us m pre rest τ hsc hl hall h1 h2 h3
  have e3 := zcx S
  have hS := hJ.len
  have hx := (hJ.st h1).x
  have y1 := hJ.y (pre := pre) (x := row) (r := rest) (by rw [← hall]; rfl) h1
  refine jq (X := X) zr5 zg9 (body := yz Tryz.f77) Tryz.func77 rfl (by kernel_rfl) (by kernel_rfl) ?_
  rw [Tryz.ntmps77]
  conv => whnf
  repeat' (first | (refine GetN.go ?_ (h := hx)) | ((refine YN.many y1 ?_; rintro _ (⟨τ', k1, k2, rfl⟩ | ⟨c, τ', k1, rfl⟩))) | refine Za ?_ | refine Zr ?_) <;> try (conv => whnf)
  all_goals first
    | exact FinP.pan _ (Sub.refl _) (.inr ⟨_, _, k1, rfl⟩)
    | exact .inl ⟨[row], τ', m, rfl, k1, by rw [k2]; exact h2, h3, rfl⟩
structure WSt2 where
  k : Nat
  t : Heap
  m : List (MK × Value)
  r : List (List Pr)
set_option maxHeartbeats 4000000 in
theorem z39 (hJ : WJ2 g given S lx ln lu ms τ0 l all J KP) {i : Nat} {s : StA} {R : List Stp} (hs : S[i]? = some s) (hh : s.s.hop = false) (hz : s.s.spot.name.size ≤ 1000) (ih : zib g given lx lu l all J KP R (i + 1)) : zib g given lx lu l all J KP (s.s :: R) i := by
  intro d row us m pre rest τ hsc hl hall h1 h2 h3
  have e3 := zcx S
  have hS := hJ.len
  have e4 := ym g.nodes
  have hgl := hsc.gt.nl
  have hx := (hJ.st h1).x
  have hi := (List.getElem?_eq_some_iff.1 hs).1
  have hso := hJ.ok s (List.mem_of_getElem? hs)
  have hs' := zt7 hs
  obtain ⟨⟨h, nm, kd, w, ⟨sn, sl, ps⟩⟩, cs⟩ := s
  dsimp only at hh hz
  subst hh
  let f : Nd → List Ev := fun n => (zfi g given ⟨sn, sl, ps⟩ n (yg row sn (yd n.id))).evs (zef g given R n.id (yg row sn (yd n.id)) us)
  have hw : zef g given (⟨false, nm, kd, w, ⟨sn, sl, ps⟩⟩ :: R) d row us = g.nodes.flatMap f := rfl
  unfold zn5
  rw [hw] at hall ⊢
  simp only [List.length_cons] at hl
  refine jq (X := X) zr5 zg9 (body := yz Tryz.f77) Tryz.func77 rfl (by kernel_rfl) (by kernel_rfl) ?_
  rw [Tryz.ntmps77]
  conv => whnf
  repeat' (first | (refine GetN.go ?_ (h := hx)) | (refine ElemN.go ?_ (h := hs')) | refine Zb ?_ | refine Zm ?_) <;> try (conv => whnf)
  refine LoopN.rule (α := WSt2) (fun a => ⟨179, [(0, .ptr (.g lx) 0), (1, i64 i), (3, .vec (prs row)), (4, .fn (.yield l) [] []), (10, .sc (.bool false)), (11, .ptr (.f 11) 0), (46, .vec (nds g.nodes)), (47, i64 (nds g.nodes).length), (48, i64 a.k)], [(11, .cells (StA.cv ⟨⟨false, nm, kd, w, ⟨sn, sl, ps⟩⟩, cs⟩).cells)]⟩)
    (fun a => a.t) (fun a => g.nodes.length - a.k) (fun a => a.k ≤ g.nodes.length ∧ (g.nodes.take a.k).flatMap f = a.r.map .inl ∧ J (pre ++ a.r) a.t ∧ a.t lu = some (.mp false a.m) ∧ UsedI us a.m) ?_ ⟨0, τ, m, []⟩ ⟨by dsimp only; omega, rfl, by simpa using h1, h2, h3⟩ ?_
  rotate_left
  · exact ZW
  rintro ⟨k, τ1, m1, rs⟩ K ⟨i1, i0, i2, i3, i4⟩ hK
  dsimp only at i0 i1 i2 i3 i4 hK ⊢
  by_cases hk : k < g.nodes.length
  · obtain ⟨nd, ls, nps, hm, hgk, hx2, -⟩ := kf hk
    have ht := hsc.gt.ns _ hm
    have hid := zgd hsc.go _ hm
    dsimp only at hid
    have hlb := jz (row := row) (s := sn) (v := yd nd)
    have hsc2 := vb (s := sn) hsc (by omega) hz (zu3 hid)
    have hW1 := hJ.st i2
    have c1 := zcj (σ := τ1) (d := nd)
    have c2 := zn1 (σ := τ1) (row := row) (s := sn) (v := yd nd) (by omega)
    have c3 := zqb (s := ⟨⟨false, nm, kd, w, ⟨sn, sl, ps⟩⟩, cs⟩) (n := ⟨nd, ls, nps⟩) hW1.s hso hsc2 ht hW1.x
    dsimp only at c3
    have hf : f ⟨nd, ls, nps⟩ = (zfi g given ⟨sn, sl, ps⟩ ⟨nd, ls, nps⟩ (yg row sn (yd nd))).evs (zef g given R nd (yg row sn (yd nd)) us) := rfl
    have hsp := zrs hgk i0 hall
    have htk := zwu hgk i0
    clear hall hw hW1
    cases hq : zfi g given ⟨sn, sl, ps⟩ ⟨nd, ls, nps⟩ (yg row sn (yd nd)) with
    | no =>
      rw [hq] at c3 hf
      have c3 : CRun Tryz.prog 104 _ τ1 (· = .ret (.sc (.bool false)) τ1) := c3
      have htk := htk [] hf
      rw [List.append_nil] at htk
      conv => whnf
      repeat' (first | (refine ElemN.go ?_ (h := hx2)) | (refine ZC c1 ?_) | (refine ZC c2 ?_) | (refine ZC c3 ?_) | refine Zh ?_ | refine Za ?_ | refine Zm ?_ | refine Zn ?_ | refine Zp ?_) <;> try (conv => whnf)
      all_goals
        refine hK ⟨k + 1, τ1, m1, rs⟩ _ _ ⟨by dsimp only; omega, htk, i2, i3, i4⟩ (by dsimp only; omega) ?_
        exact ZW
    | bad c =>
      rw [hq] at c3 hf
      have c3 : CRun Tryz.prog 104 _ τ1 (· = .pan (trP c) τ1) := c3
      rw [hf] at hsp
      have hb := hJ.bad hsp i2
      conv => whnf
      repeat' (first | (refine ElemN.go ?_ (h := hx2)) | (refine ZC c1 ?_) | (refine ZC c2 ?_) | (refine ZC c3 ?_) | refine Zh ?_ | refine Za ?_ | refine Zm ?_ | refine Zn ?_ | refine Zp ?_) <;> try (conv => whnf)
      all_goals exact FinP.pan _ (Sub.refl _) (.inr ⟨_, _, hb, rfl⟩)
    | yes =>
      rw [hq] at c3 hf
      have c3 : CRun Tryz.prog 104 _ τ1 (· = .ret (.sc (.bool true)) τ1) := c3
      rw [hf] at hsp
      have c4 := ih (d := nd) (row := yg row sn (yd nd)) (us := us) (pre := pre ++ rs) (rest := (g.nodes.drop (k + 1)).flatMap f ++ rest) hsc2 (by omega) hsp i2 i3 i4
      unfold zn5 at c4
      conv => whnf
      repeat' (first | (refine ElemN.go ?_ (h := hx2)) | (refine ZC c1 ?_) | (refine ZC c2 ?_) | (refine ZC c3 ?_) | ((refine CallN.many c4 ?_; rintro _ (⟨r2, τ2, m2, j0, j1, j2, j3, rfl⟩ | ⟨c, τ2, j1, rfl⟩))) | refine Zh ?_ | refine Za ?_ | refine Zm ?_ | refine Zn ?_ | refine Zp ?_ | refine Zq ?_) <;> try (conv => whnf)
      all_goals try (exact FinP.pan _ (Sub.refl _) (.inr ⟨_, _, j1, rfl⟩))
      all_goals
        refine hK ⟨k + 1, τ2, m2, rs ++ r2⟩ _ _ ⟨by dsimp only; omega, htk r2 (hf.trans j0), by dsimp only; rw [← List.append_assoc]; exact j1, j2, j3⟩ (by dsimp only; omega) ?_
        exact ZW
  · rw [List.take_of_length_le (by omega)] at i0
    conv => whnf
    repeat' (first | refine Zb ?_ | refine Zr ?_) <;> try (conv => whnf)
    all_goals exact .inl ⟨rs, τ1, m1, i0, i2, i3, i4, rfl⟩
end
def PatsOk (ps : List Pt) (cs : List CV) (τ : Heap) : Prop := cs.length ≤ ps.length ∧ ∀ (j : Nat) c p, cs[j]? = some c → ps[j]? = some p → AskOk p.e c τ
theorem PatsOk.mono {ps : List Pt} {cs : List CV} {τ τ' : Heap} (h : PatsOk ps cs τ) (hs : Sub τ τ') : PatsOk ps cs τ' := ⟨h.1, fun j c p h1 h2 => (h.2 j c p h1 h2).mono hs⟩
theorem PatsOk.snoc {ps : List Pt} {cs : List CV} {τ : Heap} {p : Pt} {c : CV} (h : PatsOk ps cs τ) (he : ps[cs.length]? = some p) (hc : AskOk p.e c τ) : PatsOk ps (cs ++ [c]) τ := by
  refine ⟨?_, ?_⟩
  · have := (List.getElem?_eq_some_iff.1 he).1
    rw [List.length_append]; simp; omega
  intro j c' p' h1 h2
  by_cases hj : j < cs.length
  · rw [List.getElem?_append_left hj] at h1; exact h.2 j c' p' h1 h2
  · rw [List.getElem?_append_right (by omega)] at h1
    have : j = cs.length := by
      have := (List.getElem?_eq_some_iff.1 h1).1
      simp at this; omega
    subst this
    simp at h1
    rw [he] at h2; cases h2
    rw [← h1]; exact hc
theorem zsi {ps : List Pt} {cs : List CV} {p : Pt} {c : CV} (he : ps[cs.length]? = some p) : zb9 ps (cs ++ [c]) = zb9 ps cs ++ [.agg [.sc (.string p.name), .opq c]] := by
  unfold zb9
  apply List.ext_getElem?
  intro j
  have hl := (List.getElem?_eq_some_iff.1 he).1
  have hz : (List.zipWith (fun (p : Pt) c => CV.agg [.sc (.string p.name), .opq c]) ps cs).length = cs.length := by rw [List.length_zipWith]; omega
  by_cases hj : j < cs.length
  · rw [List.getElem?_append_left (by omega), List.getElem?_zipWith, List.getElem?_zipWith, List.getElem?_append_left hj]
  · by_cases e : j = cs.length
    · subst e
      rw [List.getElem?_append_right (by omega), hz, List.getElem?_zipWith, he, List.getElem?_append_right (by omega)]; simp
    · have q : (List.zipWith (fun (p : Pt) c => CV.agg [.sc (.string p.name), .opq c]) ps (cs ++ [c])).length ≤ j := by rw [List.length_zipWith, List.length_append]; simp; omega
      rw [List.getElem?_eq_none q, List.getElem?_eq_none (by rw [List.length_append, hz]; simp; omega)]
theorem zyk {ps : List Pt} {cs : List CV} (h : cs.length ≤ ps.length) : (zb9 ps cs).length = cs.length := by unfold zb9; rw [List.length_zipWith]; omega
def z3t (s : Stp) (σ : Heap) (out : COut) : Prop := ∃ cs τ, Sub σ τ ∧ StOk ⟨s, cs⟩ τ ∧ out = .ret (StA.cv ⟨s, cs⟩) τ
def z1w (s : Sp) : Stp := ⟨false, ⟨#[]⟩, ⟨#[]⟩, 0, s⟩
set_option maxHeartbeats 2000000 in
theorem zlb {σ : Heap} {s : Sp} (hs : SpT s) (ho : ∀ p ∈ s.props, okE 4 p.e = true) : CRun Tryz.prog 101 [s.cv] σ (z3t (z1w s) σ) := by
  have hE := hs.p
  have hk := hs.k
  obtain ⟨sn, sl, ps⟩ := s
  dsimp only at hE hk ho
  have e3 := zis ps
  refine ZX Tryz.func101 Tryz.ntmps101 ?_
  conv => whnf
  repeat' (first | refine Zh ?_ | refine Za ?_ | refine Zb ?_ | refine Zc ?_ | refine Zd ?_ | refine Ze ?_ | refine Zg ?_ | refine Zv (fun h => ?_) (fun h => ?_) | refine Zj ?_ | refine Zk ?_ | refine Zl ?_ | refine Zm ?_ | refine Zn ?_ | refine Zo ?_ | refine Zp ?_ | refine Zq ?_ | refine Zu (fun l hl => ?_) | refine Zr ?_) <;> try (conv => whnf)
  refine LoopN.rule (α := Nat × Heap × List CV) (fun a => ⟨28, [(1, .ptr (.f 1) 0), (2, .ptr (.f 2) 0), (3, .ptr (.f 3) 0), (9, .vec (pts ps)), (10, i64 (pts ps).length), (11, i64 a.1)], [(1, .cells (Sp.cv ⟨sn, sl, ps⟩).cells), (2, .cells [.sc (.bool false), .sc (.string ⟨#[]⟩), .sc (.string ⟨#[]⟩), i64 0, .sc (.string ⟨#[]⟩), .sc (.string ⟨#[]⟩), .nil, .nil]), (3, .cells [.sc (.bool false), .sc (.string ⟨#[]⟩), .sc (.string ⟨#[]⟩), i64 0, .sc (.string sn), .sc (.string sl), .vec (pts ps), .avec 24 (zb9 ps a.2.2)]), (24, .tok 164 2 (zb9 ps a.2.2).length)]⟩)
    (fun a => a.2.1) (fun a => ps.length - a.1) (fun a => a.1 ≤ ps.length ∧ a.2.2.length = a.1 ∧ Sub σ a.2.1 ∧ PatsOk ps a.2.2 a.2.1) ?_ (0, σ, []) ⟨by dsimp only; omega, rfl, Sub.refl _, ⟨by simp, by simp⟩⟩ ?_
  rotate_left
  · have z : zb9 ps [] = [] := List.zipWith_nil_right
    dsimp only
    rw [z]
    exact ZW
  rintro ⟨i, τ, cs⟩ K ⟨i1, i2, i3, i4⟩ hK
  dsimp only at i1 i2 i3 i4 hK ⊢
  by_cases hi : i < ps.length
  · obtain ⟨⟨pn, ⟨ek, ⟨vk, vn, vt, vl⟩, es, ec, ep⟩⟩, hm, hg, hx⟩ := za5 (f := Pt.cv) hi
    have hx' : (pts ps)[i]? = some (.agg [.sc (.string pn), i64 ek, i64 vk, i64 vn, .sc (.string vt), .vec (Val.cvs vl), .sc (.string es), .sc (.string ec), .vec (Exp.cvs ep)]) := hx
    have ca : CRun Tryz.prog 119 [.agg [i64 ek, i64 vk, i64 vn, .sc (.string vt), .vec (Val.cvs vl), .sc (.string es), .sc (.string ec), .vec (Exp.cvs ep)]] τ _ := zxf (hE _ hm).e (ho _ hm) τ
    have stp := fun c => zsi (cs := cs) (c := c) (by rw [i2]; exact hg)
    have hln := zyk i4.1
    generalize zb9 ps cs = X at stp hln ⊢
    conv => whnf
    repeat' (first | ((refine CallN.many ca ?_; rintro _ ⟨c, τ2, rfl, hs2, hc⟩)) | (refine ElemN.go ?_ (h := hx')) | (refine Need.ap1 ?_ (h1 := by simp only [List.length_cons, List.length_nil]; omega)) | refine Zi ?_ | refine Za ?_ | refine Zg ?_ | refine Zm ?_ | refine Zn ?_ | refine Zp ?_) <;> try (conv => whnf)
    all_goals
      refine hK (i + 1, τ2, cs ++ [c]) _ _ ⟨by dsimp only; omega, by simp [i2], fun x o h => hs2 x o (i3 x o h), (i4.mono hs2).snoc (by rw [i2]; exact hg) hc⟩ (by dsimp only; omega) ?_
      dsimp only
      rw [stp, List.length_append]
      exact ZW
  · have hie : i = ps.length := by omega
    conv => whnf
    repeat' (first | (refine ZT ?_) | refine Zb ?_) <;> try (conv => whnf)
    all_goals exact ⟨cs, τ, i3, ⟨by show cs.length = ps.length; omega, hk, i4.2, ho⟩, rfl⟩
def z6b (ps : List Pth) (σ : Heap) (out : COut) : Prop := ∃ S τ, Sub σ τ ∧ S.map StA.s = zfb ps ps.length ∧ (∀ s ∈ S, StOk s τ) ∧ out = .ret (.vec (zhj S)) τ
structure PthA (p : Pth) : Prop where
  s : SpT p.spot
  so : ∀ q ∈ p.spot.props, okE 4 q.e = true
  k : p.hops.length ≤ 100
  h : ∀ h ∈ p.hops, SpT h.spot ∧ ∀ q ∈ h.spot.props, okE 4 q.e = true
theorem zlc (l : List StA) (s : StA) : zhj (l ++ [s]) = zhj l ++ [s.cv] := by simp [zhj]
theorem zsl {ps : List Pth} {i : Nat} {sp : Sp} {hs : List Hp} : zxx ps i sp hs 0 = zfb ps i ++ [z1w sp] := by unfold zxx; rfl
theorem zsm {ps : List Pth} {i j : Nat} {sp : Sp} {hs : List Hp} {h : Hp} (hh : hs[j]? = some h) : zxx ps i sp hs (j + 1) = zxx ps i sp hs j ++ [z4i h] := by
  unfold zxx
  rw [List.take_add_one, hh]; simp
theorem zlq {ps : List Pth} (ht : ∀ p ∈ ps, PthA p) : ∀ i, (zfb ps i).length ≤ 101 * i := by
  intro i
  induction i with
  | zero => simp [zfb]
  | succ i ih =>
    unfold zfb at ih ⊢
    rw [List.take_add_one]
    cases hq : ps[i]? with
    | none => simp; simp at ih; omega
    | some p =>
      have := (ht p (List.mem_of_getElem? hq)).k
      have := zla p
      simp at ih ⊢
      omega
theorem StOk.hop {s : Sp} {cs : List CV} {τ : Heap} {a : Bool} {n k : ByteArray} {w : Int} (h : StOk ⟨z1w s, cs⟩ τ) : StOk ⟨⟨a, n, k, w, s⟩, cs⟩ τ := ⟨h.k, h.b, h.a, h.o⟩
theorem zhh {S : List StA} {s : StA} {τ τ' : Heap} (h : ∀ s ∈ S, StOk s τ) (hs : Sub τ τ') (h1 : StOk s τ') : ∀ x ∈ S ++ [s], StOk x τ' := by
  intro x hx
  rcases List.mem_append.1 hx with hx | hx
  · exact (h x hx).mono hs
  · rw [List.mem_singleton.1 hx]; exact h1
set_option maxHeartbeats 2000000 in
theorem zhi {σ : Heap} {ps : List Pth} (hk : ps.length ≤ 100) (ht : ∀ p ∈ ps, PthA p) : CRun Tryz.prog 75 [.vec (ze7 ps)] σ (z6b ps σ) := by
  have e3 := zit ps
  refine ZX Tryz.func75 Tryz.ntmps75 ?_
  conv => whnf
  repeat' (first | refine Zh ?_ | refine Za ?_ | refine Zb ?_ | refine Zc ?_ | refine Zd ?_ | refine Ze ?_ | refine Zg ?_ | refine Zv (fun h => ?_) (fun h => ?_) | refine Zj ?_ | refine Zk ?_ | refine Zl ?_ | refine Zm ?_ | refine Zn ?_ | refine Zo ?_ | refine Zp ?_ | refine Zq ?_ | refine Zu (fun l hl => ?_) | refine Zr ?_) <;> try (conv => whnf)
  refine LoopN.rule (α := Nat × Heap × List StA) (fun a => ⟨48, [(3, .avec 20 (zhj a.2.2)), (9, .vec (ze7 ps)), (10, i64 (ze7 ps).length), (11, i64 a.1)], [(20, .tok 146 8 (zhj a.2.2).length)]⟩)
    (fun a => a.2.1) (fun a => ps.length - a.1) (fun a => a.1 ≤ ps.length ∧ Sub σ a.2.1 ∧ a.2.2.map StA.s = zfb ps a.1 ∧ ∀ s ∈ a.2.2, StOk s a.2.1) ?_ (0, σ, []) ⟨by dsimp only; omega, Sub.refl _, rfl, by simp⟩ ?_
  rotate_left
  · exact ZW
  rintro ⟨i, τ, S⟩ K ⟨i1, i2, i3, i4⟩ hK
  dsimp only at i1 i2 i3 i4 hK ⊢
  by_cases hi : i < ps.length
  · obtain ⟨⟨⟨sn, sl, pr⟩, hs⟩, hm, hg, hx⟩ := za5 (f := Pth.cv) hi
    have hp := ht _ hm
    have hpk := hp.k
    dsimp only at hpk
    have c1 : CRun Tryz.prog 101 [.agg [.sc (.string sn), .sc (.string sl), .vec (pts pr)]] τ (z3t (z1w ⟨sn, sl, pr⟩) τ) := zlb hp.s hp.so
    have hl := zlq ht i
    rw [← i3, List.length_map] at hl
    have hl2 := zcx S
    have z := zsl (ps := ps) (i := i) (sp := ⟨sn, sl, pr⟩) (hs := hs)
    have hstep := zuw hg
    have e5 := zpl hs
    have hx' : (ze7 ps)[i]? = some (.agg [.sc (.string sn), .sc (.string sl), .vec (pts pr), .vec (hps hs)]) := hx
    have sx := fun cs => zlc S ⟨z1w ⟨sn, sl, pr⟩, cs⟩
    generalize hX : zhj S = X at hl2 sx ⊢
    conv => whnf
    repeat' (first | ((refine CallN.many c1 ?_; rintro _ ⟨cs, τ2, hs2, hst, rfl⟩)) | (refine ElemN.go ?_ (h := hx')) | (refine Need.ap1 ?_ (h1 := by simp only [List.length_cons, List.length_nil]; omega)) | refine Za ?_ | refine Zg ?_ | refine Zm ?_ | refine Zp ?_) <;> try (conv => whnf)
    refine LoopN.rule (α := Nat × Heap × List StA) (fun a => ⟨48, [(3, .avec 20 (zhj a.2.2)), (9, .vec (ze7 ps)), (10, i64 (ze7 ps).length), (11, i64 i), (22, .vec (hps hs)), (23, i64 (hps hs).length), (24, i64 a.1)], [(20, .tok 146 8 (zhj a.2.2).length)]⟩)
      (fun a => a.2.1) (fun a => hs.length - a.1) (fun a => a.1 ≤ hs.length ∧ Sub σ a.2.1 ∧ a.2.2.map StA.s = zxx ps i ⟨sn, sl, pr⟩ hs a.1 ∧ ∀ s ∈ a.2.2, StOk s a.2.1) ?_ (0, τ2, S ++ [⟨z1w ⟨sn, sl, pr⟩, cs⟩]) ⟨by dsimp only; omega, fun x o h => hs2 x o (i2 x o h), by rw [List.map_append, i3, z]; rfl, zhh i4 hs2 hst⟩ ?_
    rotate_left
    · dsimp only
      rw [sx, List.length_append]
      exact ZW
    clear i3 i4 hst sx hX hl2 hs2 cs S X hl i2
    rintro ⟨j, τ3, S⟩ K2 ⟨j1, j2, j3, j4⟩ hK2
    dsimp only at j1 j2 j3 j4 hK2 ⊢
    by_cases hj : j < hs.length
    · obtain ⟨⟨hn, hkd, hw, ⟨bn, bl, bp⟩⟩, hm2, hg2, hx2⟩ := za5 (f := Hp.cv) hj
      obtain ⟨b1, b2⟩ := hp.h _ hm2
      dsimp only at b1 b2
      have hx2' : (hps hs)[j]? = some (.agg [.sc (.string hn), .sc (.string hkd), i64 hw, .sc (.string bn), .sc (.string bl), .vec (pts bp)]) := hx2
      have c2 : CRun Tryz.prog 101 [.agg [.sc (.string bn), .sc (.string bl), .vec (pts bp)]] τ3 (z3t (z1w ⟨bn, bl, bp⟩) τ3) := zlb b1 b2
      have z2 := zsm (ps := ps) (i := i) (sp := ⟨sn, sl, pr⟩) hg2
      have hl3 : S.length ≤ 20000 := by
        have : S.length = (zxx ps i ⟨sn, sl, pr⟩ hs j).length := by rw [← j3, List.length_map]
        have q := zlq ht i
        rw [this]; unfold zxx; rw [List.length_append, List.length_cons, List.length_map, List.length_take]; omega
      have hl4 := zcx S
      have sx := fun cs => zlc S ⟨z4i ⟨hn, hkd, hw, ⟨bn, bl, bp⟩⟩, cs⟩
      generalize zhj S = Y at hl4 sx ⊢
      conv => whnf
      repeat' (first | ((refine CallN.many c2 ?_; rintro _ ⟨cs, τ4, hs4, hst, rfl⟩)) | (refine ElemN.go ?_ (h := hx2')) | (refine Need.ap1 ?_ (h1 := by simp only [List.length_cons, List.length_nil]; omega)) | refine Za ?_ | refine Zg ?_ | refine Zm ?_ | refine Zn ?_ | refine Zp ?_) <;> try (conv => whnf)
      all_goals
        refine hK2 (j + 1, τ4, S ++ [⟨z4i ⟨hn, hkd, hw, ⟨bn, bl, bp⟩⟩, cs⟩]) _ _ ⟨by dsimp only; omega, fun x o h => hs4 x o (j2 x o h), by rw [List.map_append, j3, z2]; rfl, zhh j4 hs4 hst.hop⟩ (by dsimp only; omega) ?_
        dsimp only
        rw [sx, List.length_append]
        exact ZW
    · have hje : j = hs.length := by omega
      subst hje
      rw [← hstep] at j3
      conv => whnf
      repeat' (first | refine Zb ?_ | refine Zm ?_) <;> try (conv => whnf)
      all_goals
        refine hK (i + 1, τ3, S) _ _ ⟨by dsimp only; omega, j2, j3, j4⟩ (by dsimp only; omega) ?_
        exact ZW
  · have hie : i = ps.length := by omega
    subst hie
    conv => whnf
    repeat' (first | refine Zb ?_ | refine Zr ?_) <;> try (conv => whnf)
    all_goals exact ⟨S, τ, i2, i3, i4, rfl⟩
theorem zsf {τ : Heap} {lu : Nat} {ob : Ob} {ps : List Pth} (h : τ lu = some ob) (hk : ps.length ≤ 100) (ht : ∀ p ∈ ps, PthA p) : CRun Tryz.prog 75 [.vec (ze7 ps)] τ (fun out => ∃ S τ0, τ0 lu = none ∧ Sub (del τ lu) τ0 ∧ S.map StA.s = zfb ps ps.length ∧ (∀ s ∈ S, StOk s τ0) ∧ out = .ret (.vec (zhj S)) (upd τ0 lu ob)) := by
  have e : upd (del τ lu) lu ob = τ := by
    funext x
    by_cases hx : x = lu
    · subst hx; rw [za, h]
    · rw [zb _ _ hx, zbr _ hx]
  have c := (zhi (σ := del τ lu) hk ht).frame (ob := ob) (za1 τ lu)
  rw [e] at c
  refine c.mono fun out ho => ?_
  cases out with
  | ret v τ2 =>
    obtain ⟨τ0, rfl, h0, S, τ1, q1, q2, q3, q4⟩ := ho
    cases q4
    exact ⟨S, τ0, h0, q1, q2, q3, rfl⟩
  | pan v τ2 =>
    obtain ⟨τ0, rfl, h0, S, τ1, q1, q2, q3, q4⟩ := ho
    cases q4
structure MatI2 (g : Gr) (given : List Pr) (S : List StA) (τ0 σ τ : Heap) (lx ln lu : Nat) (ms : List (MK × Value)) : Prop where
  sub : Sub σ τ
  st : WS2 g given S lx ln lu ms τ0 τ
  us : τ lu = some (.mp false [])
  zu : τ0 lu = none
  xu : lx ≠ lu
  nu : ln ≠ lu
  fu : σ lu = none
  ok : ∀ s ∈ S, StOk s τ0
structure BesT (T : Heap) (ln lu : Nat) (F : Int → List Nat) (ms : List (MK × Value)) : Prop where
  n : T ln = some (.mp false ms)
  nu : ln ≠ lu
  e : ∀ d, (ze (.i d) ms 0 = none ∧ F d = []) ∨ ∃ j l n cap, ze (.i d) ms 0 = some (j, slV l n cap) ∧ n = (F d).length ∧ F d ≠ [] ∧ l ≠ lu ∧ T l = some (.arr 3 1 cap (qy (F d)))
theorem zfp {τ τ0 : Heap} {lu : Nat} {ob : Ob} (h : Sub (del τ lu) τ0) (hu : τ lu = some ob) : Sub τ (upd τ0 lu ob) := fun x o hx => by
  by_cases e : x = lu
  · subst e; rw [za, ← hx, hu]
  · rw [zb _ _ e]; exact h x o (by rw [zbr _ e]; exact hx)
theorem wi {τ : Heap} {lu : Nat} {ob : Ob} (h : τ lu = none) : Sub τ (upd τ lu ob) := (Sub.refl τ).upd h
section
variable {g : Gr} {given : List Pr} {S : List StA} {τ0 σ τb τ1 T : Heap} {lx ln lu : Nat} {ms : List (MK × Value)} {F : Int → List Nat}
theorem z56 (hB : BesI τb ln F τ1 ms) (hs : Sub τ1 T) (hd : ∀ x o, τb x = none → τ1 x = some o → x ≠ lu) : BesT T ln lu F ms :=
  ⟨hs _ _ hB.at_, hd _ _ hB.fr hB.at_, fun d => by
    rcases hB.ent d with h | ⟨j, l, n, cap, h1, h2, h3, h4, h5, h6⟩
    · exact .inl h
    · exact .inr ⟨j, l, n, cap, h1, h2, h3, hd _ _ h4 h6, hs _ _ h6⟩⟩
theorem zgr (hB : BesI τb ln F τ1 ms) (hs : Sub τ1 T) (h : τ1 lu = none) : BesT T ln lu F ms := z56 hB hs fun x o _ hx e => by subst e; rw [h] at hx; cases hx
theorem zgs {ob : Ob} (hB : BesI τb ln F τ1 ms) (hs : Sub τ1 T) (h : τb lu = some ob) : BesT T ln lu F ms := z56 hB hs fun x o hx _ e => by subst e; rw [h] at hx; cases hx
theorem zd7 (hB : BesT T ln lu (zgu g.edges) ms) (hs : Sub σ T) (hu : T lu = some (.mp false [])) (h0 : Sub τ0 T) (zu : τ0 lu = none) (fu : σ lu = none) (ok : ∀ s ∈ S, StOk s τ0) (hlx : T lx = none) :
    MatI2 g given S τ0 σ (upd T lx (.cells [.vec (nds g.nodes), .vec (eds g.edges), i64 g.nn, i64 g.ne, .map ln, .vec (prs given), .vec (zhj S), .map lu])) lx ln lu ms := by
  have hsx := wi (ob := .cells [.vec (nds g.nodes), .vec (eds g.edges), i64 g.nn, i64 g.ne, .map ln, .vec (prs given), .vec (zhj S), .map lu]) hlx
  refine ⟨zp hs hsx, ⟨za _ _ _, hsx _ _ hB.n, fun d => ?_, zp h0 hsx⟩, hsx _ _ hu, zu, fun e => ?_, hB.nu, fu, ok⟩
  · rcases hB.e d with h | ⟨j, l, n, cap, h1, h2, h3, h4, h6⟩
    · exact .inl h
    · exact .inr ⟨j, l, n, cap, h1, h2, h3, h4, hsx _ _ h6⟩
  · subst e; rw [hu] at hlx; cases hlx
end
set_option maxHeartbeats 1000000 in
theorem zm7 {σ : Heap} {g : Gr} {given : List Pr} {ps : List Pth} (hg : GrTame g) (hk : ps.length ≤ 100) (ht : ∀ p ∈ ps, PthA p) : CRun Tryz.prog 44 [g.cv, .vec (prs given), .vec (ze7 ps)] σ (fun out => ∃ S τ0 τ lx ln lu ms, MatI2 g given S τ0 σ τ lx ln lu ms ∧ S.map StA.s = zfb ps ps.length ∧ out = .ret (.ptr (.g lx) 0) τ) := by
  obtain ⟨ns, es, nn, ne⟩ := g
  have hel := hg.el
  dsimp only at hel
  refine jh (X := (GM [15] fun n => match Nat.beq n 200001 with | true => some [0,1,3,4] | false => (none))) (z0i _ _) (zxr _ _) (body := yz Tryz.f44) Tryz.func44 rfl (by kernel_rfl) (by kernel_rfl) ?_
  rw [Tryz.ntmps44]
  conv => whnf
  repeat' (first | (refine z62 ?_) | (refine AndN.mk ?_ ?_) | ((have hlu' := hlu; refine AllocN.go (fun lx hlx => ?_))) | (refine AllocN.go (fun lu hlu => ?_)) | ((refine CallN.many (zsf (lu := lu) (by first | exact za _ _ _ | exact hB.sub _ _ (za _ _ _)) hk ht) ?_; rintro _ ⟨S, τ0, q1, q2, q3, q4, rfl⟩)) | ((refine CallN.many (zhi hk ht) ?_; rintro _ ⟨S, τ0, q2, q3, q4, rfl⟩)) | ((refine CallN.many (zz1 hel) ?_; rintro _ ⟨ln, τ1, ms, hB, rfl⟩)) | refine Zp ?_ | refine Zq ?_ | refine Zr ?_) <;> try (conv => whnf)
  all_goals first
    | exact ⟨S, τ0, _, lx, ln, lu, ms, zd7 (g := ⟨ns, es, nn, ne⟩) (zgr hB (wi hlu) hlu) (zp q2 (zp hB.sub (wi hlu))) (za _ _ _) (zp hB.sub (wi hlu)) (zdv hB.sub hlu) (zdv q2 (zdv hB.sub hlu)) q4 hlx, q3, rfl⟩
    | exact ⟨S, τ0, _, lx, ln, lu, ms, zd7 (g := ⟨ns, es, nn, ne⟩) (zgs hB (Sub.refl _) (za _ _ _)) (zp q2 (zp (wi hlu) hB.sub)) (hB.sub _ _ (za _ _ _)) (zp (wi hlu) hB.sub) hlu (zdv q2 hlu) q4 hlx, q3, rfl⟩
    | exact ⟨S, τ0, _, lx, ln, lu, ms, zd7 (g := ⟨ns, es, nn, ne⟩) (zgr hB (zp q2 (wi hlu)) (zdv q2 hlu)) (zp hB.sub (zp q2 (wi hlu))) (za _ _ _) (wi hlu) hlu (zdv hB.sub (zdv q2 hlu)) q4 hlx, q3, rfl⟩
    | exact ⟨S, τ0, _, lx, ln, lu, ms, zd7 (g := ⟨ns, es, nn, ne⟩) (zgr hB (zp (wi hlu) (zfp q2 (za _ _ _))) hlu) (zp hB.sub (zp (wi hlu) (zfp q2 (za _ _ _)))) (za _ _ _) (wi q1) q1 (zdv hB.sub hlu) q4 hlx, q3, rfl⟩
    | exact ⟨S, τ0, _, lx, ln, lu, ms, zd7 (g := ⟨ns, es, nn, ne⟩) (zgs hB (Sub.refl _) (za _ _ _)) (zp (zp (wi hlu) (zfp q2 (za _ _ _))) hB.sub) (hB.sub _ _ (za _ _ _)) (zp (wi q1) hB.sub) q1 hlu q4 hlx, q3, rfl⟩
    | exact ⟨S, τ0, _, lx, ln, lu, ms, zd7 (g := ⟨ns, es, nn, ne⟩) (zgs hB (zfp q2 (hB.sub _ _ (za _ _ _))) (za _ _ _)) (zp (wi hlu) (zp hB.sub (zfp q2 (hB.sub _ _ (za _ _ _))))) (za _ _ _) (wi q1) q1 hlu q4 hlx, q3, rfl⟩
end Go.Proofs.YtlamgfimgadnmaaGreat
