/-
  Contracts of the functions that the law reaches.
-/
import Derived.Test.YtlamgfimgadnmaaGreatK
import Derived.Test.YtlamgfimgadnmaaGreatB
import Derived.Test.YtlamgfimgadnmaaGreatA
import Derived.Test.YtlamgfimgadnmaaGreatR
import Derived.Test.YtlamgfimgadnmaaGreatT
import Derived.Test.YtlamgfimgadnmaaGreatO
import Derived.Test.YtlamgfimgadnmaaGreatV
set_option linter.unusedVariables false
set_option linter.unusedSimpArgs false
namespace Go.Proofs.YtlamgfimgadnmaaGreat
open Go Go.CL
set_option maxRecDepth 10000
def zza (n : Nd) (s : ByteArray) (v : Val) : Bool := xf ((zx n.props s).getD nullV) v
def zbl (ns : List Nd) (l s : ByteArray) (v : Val) : List Int := (ns.filter fun n => zj7 n l && zza n s v).map Nd.id
theorem zwi {ns : List Nd} {i : Nat} {n : Nd} {l s : ByteArray} {v : Val} (h : ns[i]? = some n) (hb : (zj7 n l && zza n s v) = true) : zbl (ns.take (i + 1)) l s v = zbl (ns.take i) l s v ++ [n.id] := by
  unfold zbl; rw [List.take_add_one, h, List.filter_append]; simp [hb]
theorem zrp {ns : List Nd} {i : Nat} {n : Nd} {l s : ByteArray} {v : Val} (h : ns[i]? = some n) (hb : (zj7 n l && zza n s v) = false) : zbl (ns.take (i + 1)) l s v = zbl (ns.take i) l s v := by
  unfold zbl; rw [List.take_add_one, h, List.filter_append]; simp [hb]
theorem ztc {ns : List Nd} {l s : ByteArray} {v : Val} {i : Nat} : (zbl (ns.take i) l s v).length ≤ i := by
  unfold zbl; rw [List.length_map]
  refine Nat.le_trans (List.length_filter_le _ _) ?_
  rw [List.length_take]; omega
def zcv : Val → Int
  | .mk k _ _ _ => k
def zdi (g : Gr) (l s : ByteArray) (v : Val) : List Int := if (zn g && (okV 3 v && (!decide (l = ⟨#[]⟩) && !decide (zcv v = 0)))) = true then zbl g.nodes l s v else []
theorem zu5 : Tame nullV := by unfold nullV; exact .mk (by omega) (by omega) (by decide) (by decide) (by simp)
theorem zup {n : Nd} (ht : NdTame n) (s : ByteArray) : Tame ((zx n.props s).getD nullV) := by
  cases h : zx n.props s with
  | none => exact zu5
  | some v =>
    obtain ⟨p, hp, rfl⟩ := zb3 h
    exact (ht.ps p hp).val
theorem z2s {σ : Heap} {g : Gr} {l s : ByteArray} {v : Val} (hg : GrTame g) (hv : Tame v) : CRun Tryz.prog 17 [g.cv, .sc (.string l), .sc (.string s), v.cv] σ (· = .ret (.vec (zaw (zdi g l s v))) σ) := by
  have c1 := zgc (σ := σ) hg
  have c2 := qj (σ := σ) hv
  have hnl := hg.nl
  have hns := hg.ns
  have so := fun {w : Val} (hw : Tame w) => zql (σ := σ) hw hv
  unfold zdi
  obtain ⟨ns, es, nn, ne⟩ := g
  dsimp only at hnl hns ⊢
  have e3 := ym ns
  by_cases hall : (zn ⟨ns, es, nn, ne⟩ && (okV 3 v && (!decide (l = ⟨#[]⟩) && !decide (zcv v = 0)))) = true
  case neg =>
    rw [if_neg hall]
    have hz : (zn ⟨ns, es, nn, ne⟩ = false) ∨ (zn ⟨ns, es, nn, ne⟩ = true ∧ okV 3 v = false) ∨ (zn ⟨ns, es, nn, ne⟩ = true ∧ okV 3 v = true ∧ (l = ⟨#[]⟩ ∨ (¬ l = ⟨#[]⟩ ∧ zcv v = 0))) := by
      cases hk : zn ⟨ns, es, nn, ne⟩
      · exact .inl rfl
      cases ho : okV 3 v
      · exact .inr (.inl ⟨rfl, rfl⟩)
      refine .inr (.inr ⟨rfl, rfl, ?_⟩)
      by_cases h1 : l = ⟨#[]⟩
      · exact .inl h1
      · by_cases h2 : zcv v = 0
        · exact .inr ⟨h1, h2⟩
        · refine absurd ?_ hall
          rw [hk, ho, decide_eq_false h1, decide_eq_false h2]; rfl
    clear so hall
    obtain ⟨vk, vn, vt, vl⟩ := v
    rcases hz with hk | ⟨hk, ho⟩ | ⟨hk, ho, hz⟩
    · rw [hk] at c1
      refine ZX Tryz.func17 Tryz.ntmps17 ?_
      conv => whnf
      repeat' (first | (refine ZC c1 ?_) | refine Zp ?_ | refine Zr ?_) <;> try (conv => whnf)
      all_goals rfl
    · rw [hk] at c1; rw [ho] at c2
      refine ZX Tryz.func17 Tryz.ntmps17 ?_
      conv => whnf
      repeat' (first | (refine ZC c1 ?_) | (refine ZC c2 ?_) | refine Zp ?_ | refine Zr ?_) <;> try (conv => whnf)
      all_goals rfl
    · rw [hk] at c1; rw [ho] at c2
      rcases hz with hz | ⟨hz, hz2⟩
      ·
        refine ZX Tryz.func17 Tryz.ntmps17 ?_
        conv => whnf
        repeat' (first | (refine ZC c1 ?_) | (refine ZC c2 ?_) | refine Za ?_ | refine Zp ?_ | refine Zr ?_) <;> try (conv => whnf)
        all_goals rfl
      · replace hz2 : vk = 0 := hz2
        refine ZX Tryz.func17 Tryz.ntmps17 ?_
        conv => whnf
        repeat' (first | (refine ZC c1 ?_) | (refine ZC c2 ?_) | refine Za ?_ | refine Zb ?_ | refine Zp ?_ | refine Zr ?_) <;> try (conv => whnf)
        all_goals rfl
  rw [if_pos hall]
  simp only [Bool.and_eq_true, Bool.not_eq_true', decide_eq_false_iff_not] at hall
  obtain ⟨hk, ho, hl0, hv0⟩ := hall
  rw [hk] at c1
  rw [ho] at c2
  have hitE : ∀ n : Nd, zza n s v = xf ((zx n.props s).getD nullV) v := fun n => rfl
  obtain ⟨vk, vn, vt, vl⟩ := v
  replace hv0 : ¬ vk = 0 := hv0
  refine ZX Tryz.func17 Tryz.ntmps17 ?_
  conv => whnf
  repeat' (first | (refine ZC c1 ?_) | (refine ZC c2 ?_) | refine Zb ?_ | refine Zp ?_) <;> try (conv => whnf)
  refine LoopN.rule (α := Nat) (fun i => ⟨54, [(1, .sc (.string l)), (2, .sc (.string s)), (7, .ptr (.f 7) 0), (9, .avec 51 (zaw (zbl (ns.take i) l s (.mk vk vn vt vl)))), (30, .vec (nds ns)), (31, i64 (nds ns).length), (32, i64 i)], [(7, .cells [i64 vk, i64 vn, .sc (.string vt), .vec (Val.cvs vl)]), (51, .tok 3 1 (zaw (zbl (ns.take i) l s (.mk vk vn vt vl))).length)]⟩)
    (fun _ => σ) (fun i => ns.length - i) (fun i => i ≤ ns.length) ?_ 0 (by omega) ?_
  rotate_left
  · exact ZW
  rintro i K i1 hK
  have e4 := qi (zbl (ns.take i) l s (.mk vk vn vt vl))
  have e5 := ztc (ns := ns) (l := l) (s := s) (v := .mk vk vn vt vl) (i := i)
  by_cases hi : i < ns.length
  · obtain ⟨d, ls, ps, hm, hg', hx, -⟩ := kf hi
    have ht := hns _ hm
    have c3 := zh0 (σ := σ) (n := ⟨d, ls, ps⟩) (s := l) ht.ll
    have c4 := ze8 (σ := σ) (l := ps) (s := s) ht.pl
    have c5 := so (zup ht s)
    have hE := hitE ⟨d, ls, ps⟩
    dsimp only at c5 hE
    generalize (zx ps s).getD nullV = pv at c4 c5 hE
    obtain ⟨pk, pn, pt, pl⟩ := pv
    have hK1 := hK (i + 1)
    try dsimp only at hK1
    clear so hitE
    cases hb : zj7 ⟨d, ls, ps⟩ l <;> rw [hb] at c3
    · rw [zrp hg' (by rw [hb]; rfl)] at hK1
      conv => whnf
      repeat' (first | (refine ZC c3 ?_) | (refine ElemN.go ?_ (h := hx)) | refine Zh ?_ | refine Za ?_ | refine Zm ?_ | refine Zn ?_ | refine Zp ?_) <;> try (conv => whnf)
      all_goals
        refine hK1 _ _ (by omega) (by omega) ?_
        exact ZW
    · rw [← hE] at c5
      cases hh : zza ⟨d, ls, ps⟩ s (.mk vk vn vt vl) <;> rw [hh] at c5
      · rw [zrp hg' (by rw [hb, hh]; rfl)] at hK1
        conv => whnf
        repeat' (first | (refine ZC c3 ?_) | (refine ZC c4 ?_) | (refine ZC c5 ?_) | (refine ElemN.go ?_ (h := hx)) | refine Zh ?_ | refine Za ?_ | refine Zm ?_ | refine Zn ?_ | refine Zp ?_) <;> try (conv => whnf)
        all_goals
          refine hK1 _ _ (by omega) (by omega) ?_
          exact ZW
      · rw [zwi hg' (by rw [hb, hh]; rfl), zbk, List.length_append] at hK1
        dsimp only at hK1
        generalize zaw (zbl (ns.take i) l s (.mk vk vn vt vl)) = X at hK1 e4 ⊢
        conv => whnf
        repeat' (first | (refine ZC c3 ?_) | (refine ZC c4 ?_) | (refine ZC c5 ?_) | (refine ElemN.go ?_ (h := hx)) | (refine Need.ap1 ?_ (h1 := by simp only [List.length_cons, List.length_nil]; omega)) | refine Zh ?_ | refine Za ?_ | refine Zg ?_ | refine Zm ?_ | refine Zn ?_ | refine Zp ?_) <;> try (conv => whnf)
        all_goals
          refine hK1 _ _ (by omega) (by omega) ?_
          exact ZW
  · have e : ns.take i = ns := List.take_of_length_le (by omega)
    rw [e]
    conv => whnf
    repeat' (first | refine Zb ?_ | refine Zr ?_) <;> try (conv => whnf)
    all_goals rfl
theorem zqv {d : Int} : ∀ (l : List Int) (k : Nat), d ∈ l → 0 ≤ zq l d k
  | x :: r, k, h => by
    unfold zq
    by_cases hx : x = d
    · rw [if_pos hx]; omega
    · rw [if_neg hx]
      refine zqv r (k + 1) ?_
      rcases List.mem_cons.1 h with h | h
      · exact absurd h.symm hx
      · exact h
theorem z23 {g : Gr} (hk : zn g = true) {n : Nd} (hn : n ∈ g.nodes) (s : ByteArray) : zkl g (yd n.id) s = (zx n.props s).getD nullV := by
  have hp := zqv (d := n.id) (ve g.nodes) 0 (List.mem_map.2 ⟨n, hn, rfl⟩)
  obtain ⟨i, m, h1, h2, h3⟩ := zu6 hp
  have hm := List.mem_of_getElem? h2
  have hmn : m = n := z0x g.nodes (zy9 hk) m hm n hn h3
  have e : qf g (yd n.id) = some n.props := by
    unfold yd
    rw [zfy, if_pos rfl, if_pos hp, h1, Int.toNat_natCast, h2, hmn]; rfl
  unfold zkl
  rw [e]
theorem z0z {g : Gr} (hg : GrTame g) {d : Int} {s : ByteArray} : Tame (zkl g (yd d) s) := by
  unfold zkl
  cases h : qf g (yd d) with
  | none => exact zu5
  | some l =>
    unfold yd at h
    rw [zfy, if_pos rfl] at h
    split at h
    · cases hq : g.nodes[(zq (ve g.nodes) d 0).toNat]? with
      | none => rw [hq] at h; cases h
      | some n =>
        rw [hq] at h; cases h
        exact zup (hg.ns _ (List.mem_of_getElem? hq)) s
    · cases h
def byD (g : Gr) (s : ByteArray) (v : Val) (d : Int) : Bool := !decide (zcv (zkl g (yd d) s) = 0) && xf (zkl g (yd d) s) v
theorem z50 {g : Gr} {l s : ByteArray} {v : Val} (hk : zn g = true) (h0 : ¬ zcv v = 0) : (qz g.nodes l).filter (byD g s v) = zbl g.nodes l s v := by
  unfold qz zbl
  rw [List.filter_map]
  refine congrArg _ ?_
  rw [List.filter_filter]
  refine List.filter_congr fun n hn => ?_
  simp only [Function.comp, byD, z23 hk hn, zza]
  generalize (zx n.props s).getD nullV = w
  cases hs : xf w v
  · simp
  · have := zcz w v hs
    subst this
    simp [h0]
theorem z5z {g : Gr} {s : ByteArray} {v : Val} (h0 : zcv v = 0) (l : List Int) : l.filter (byD g s v) = [] := by
  refine List.filter_eq_nil_iff.2 fun d _ => ?_
  unfold byD
  generalize zkl g (yd d) s = w
  cases hs : xf w v
  · simp
  · have := zcz w v hs
    subst this
    simp [h0]
theorem z5c {σ : Heap} {g : Gr} {l s : ByteArray} {v : Val} (hg : GrTame g) (hv : Tame v) : CRun Tryz.prog 55 [g.cv, .sc (.string l), .sc (.string s), v.cv] σ (· = .ret (.vec (zaw ((qz g.nodes l).filter (byD g s v)))) σ) := by
  have c1 := zy3 (σ := σ) (s := l) hg
  have c2 := fun d => zvt (σ := σ) (v := yd d) (s := s) hg
  have so := fun d => zq8 (σ := σ) (z0z (d := d) (s := s) hg) hv
  have hE : ∀ d, byD g s v d = (!decide (zcv (zkl g (yd d) s) = 0) && xf (zkl g (yd d) s) v) := fun d => rfl
  have hwl := Nat.le_trans (zk6 (ns := g.nodes) (s := l)) hg.nl
  generalize qz g.nodes l = W at c1 hwl ⊢
  generalize byD g s v = p at hE ⊢
  obtain ⟨ns, es, nn, ne⟩ := g
  obtain ⟨vk, vn, vt, vl⟩ := v
  have e3 := qi W
  refine ZX Tryz.func55 Tryz.ntmps55 ?_
  conv => whnf
  repeat' (first | (refine ZC c1 ?_) | refine Zp ?_) <;> try (conv => whnf)
  refine LoopN.rule (α := Nat) (fun i => ⟨47, [(2, .sc (.string s)), (4, .ptr (.f 4) 0), (7, .ptr (.f 7) 0), (9, .avec 13 (zaw ((W.take i).filter p))), (10, .vec (zaw W)), (11, i64 i)], [(4, .cells [.vec (nds ns), .vec (eds es), i64 nn, i64 ne]), (7, .cells [i64 vk, i64 vn, .sc (.string vt), .vec (Val.cvs vl)]), (13, .tok 3 1 (zaw ((W.take i).filter p)).length)]⟩)
    (fun _ => σ) (fun i => W.length - i) (fun i => i ≤ W.length) ?_ 0 (by omega) ?_
  rotate_left
  · exact ZW
  rintro i K i1 hK
  have e4 := qi ((W.take i).filter p)
  have e5 : ((W.take i).filter p).length ≤ i := Nat.le_trans (List.length_filter_le _ _) (by rw [List.length_take]; omega)
  by_cases hi : i < W.length
  · have hx : (zaw W)[i]? = some (i64 W[i]) := by unfold zaw; rw [List.getElem?_map, List.getElem?_eq_getElem hi]; rfl
    have hW : W.take (i + 1) = W.take i ++ [W[i]] := by rw [List.take_add_one, List.getElem?_eq_getElem hi]; rfl
    generalize W[i] = d at hx hW
    have c2 := c2 d
    have c5 := so d
    have hE := hE d
    generalize zkl ⟨ns, es, nn, ne⟩ (yd d) s = w at c2 c5 hE
    obtain ⟨wk, wn, wt, wl⟩ := w
    have hE : p d = (!decide (wk = 0) && xf (.mk wk wn wt wl) (.mk vk vn vt vl)) := hE
    have hK1 := hK (i + 1)
    try dsimp only at hK1
    rw [hW, List.filter_append] at hK1
    clear so
    by_cases h0 : wk = 0
    · have hp : [d].filter p = [] := by
        rw [decide_eq_true h0] at hE
        simp [List.filter, hE]
      rw [hp, List.append_nil] at hK1
      conv => whnf
      repeat' (first | (refine ZC c2 ?_) | (refine ElemN.go ?_ (h := hx)) | refine Zh ?_ | refine Za ?_ | refine Zd ?_ | refine Zm ?_ | refine Zn ?_ | refine Zp ?_) <;> try (conv => whnf)
      all_goals
        refine hK1 _ _ (by omega) (by omega) ?_
        exact ZW
    · rw [decide_eq_false h0] at hE
      cases hh : xf (.mk wk wn wt wl) (.mk vk vn vt vl) <;> rw [hh] at c5 hE
      · have hp : [d].filter p = [] := by simp [List.filter, hE]
        rw [hp, List.append_nil] at hK1
        conv => whnf
        repeat' (first | (refine ZC c2 ?_) | (refine ZC c5 ?_) | (refine ElemN.go ?_ (h := hx)) | refine Zh ?_ | refine Za ?_ | refine Zc ?_ | refine Zm ?_ | refine Zn ?_ | refine Zp ?_) <;> try (conv => whnf)
        all_goals
          refine hK1 _ _ (by omega) (by omega) ?_
          exact ZW
      · have hp : [d].filter p = [d] := by simp [List.filter, hE]
        rw [hp, zbk, List.length_append] at hK1
        generalize zaw ((W.take i).filter p) = X at hK1 e4 ⊢
        conv => whnf
        repeat' (first | (refine ZC c2 ?_) | (refine ZC c5 ?_) | (refine ElemN.go ?_ (h := hx)) | (refine Need.ap1 ?_ (h1 := by simp only [List.length_cons, List.length_nil]; omega)) | refine Zh ?_ | refine Za ?_ | refine Zc ?_ | refine Zg ?_ | refine Zm ?_ | refine Zn ?_ | refine Zp ?_) <;> try (conv => whnf)
        all_goals
          refine hK1 _ _ (by omega) (by omega) ?_
          exact ZW
  · have e : W.take i = W := List.take_of_length_le (by omega)
    rw [e]
    conv => whnf
    repeat' (first | refine Zb ?_ | refine Zr ?_) <;> try (conv => whnf)
    all_goals rfl
theorem z10 {σ : Heap} {g : Gr} {l s : ByteArray} {v : Val} (hg : GrTame g) (hv : Tame v) : CRun Tryz.prog 18 [g.cv, .sc (.string l), .sc (.string s), v.cv] σ (· = .ret (.vec (zaw (zdi g l s v))) σ) := by
  have c1 := zfs (σ := σ) hg
  have c2 := zij (σ := σ) hv
  have c3 := z5c (σ := σ) (l := l) (s := s) hg hv
  have key : (zn g = false ∧ zdi g l s v = []) ∨ (zn g = true ∧ okV 3 v = false ∧ zdi g l s v = []) ∨ (zn g = true ∧ okV 3 v = true ∧ ((l = ⟨#[]⟩ ∧ zdi g l s v = []) ∨ (¬ l = ⟨#[]⟩ ∧ zdi g l s v = (qz g.nodes l).filter (byD g s v)))) := by
    unfold zdi
    cases hk : zn g
    · exact .inl ⟨rfl, rfl⟩
    cases ho : okV 3 v
    · exact .inr (.inl ⟨rfl, rfl, rfl⟩)
    refine .inr (.inr ⟨rfl, rfl, ?_⟩)
    by_cases h1 : l = ⟨#[]⟩
    · exact .inl ⟨h1, by rw [decide_eq_true h1]; rfl⟩
    · refine .inr ⟨h1, ?_⟩
      rw [decide_eq_false h1]
      by_cases h2 : zcv v = 0
      · rw [z5z h2, decide_eq_true h2]; rfl
      · rw [z50 hk h2, decide_eq_false h2]; rfl
  obtain ⟨ns, es, nn, ne⟩ := g
  obtain ⟨vk, vn, vt, vl⟩ := v
  rcases key with ⟨hk, he⟩ | ⟨hk, ho, he⟩ | ⟨hk, ho, ⟨hz, he⟩ | ⟨hz, he⟩⟩
  · rw [he]; rw [hk] at c1
    refine ZX Tryz.func18 Tryz.ntmps18 ?_
    conv => whnf
    repeat' (first | (refine ZC c1 ?_) | refine Zp ?_ | refine Zr ?_) <;> try (conv => whnf)
    all_goals rfl
  · rw [he]; rw [hk] at c1; rw [ho] at c2
    refine ZX Tryz.func18 Tryz.ntmps18 ?_
    conv => whnf
    repeat' (first | (refine ZC c1 ?_) | (refine ZC c2 ?_) | refine Zp ?_ | refine Zr ?_) <;> try (conv => whnf)
    all_goals rfl
  · rw [he]; rw [hk] at c1; rw [ho] at c2
    refine ZX Tryz.func18 Tryz.ntmps18 ?_
    conv => whnf
    repeat' (first | (refine ZC c1 ?_) | (refine ZC c2 ?_) | refine Za ?_ | refine Zp ?_ | refine Zr ?_) <;> try (conv => whnf)
    all_goals rfl
  · rw [he]; rw [hk] at c1; rw [ho] at c2
    refine ZX Tryz.func18 Tryz.ntmps18 ?_
    conv => whnf
    repeat' (first | (refine ZC c1 ?_) | (refine ZC c2 ?_) | (refine ZC c3 ?_) | refine Zb ?_ | refine Zp ?_ | refine Zr ?_) <;> try (conv => whnf)
    all_goals rfl
mutual
def hasN : Val → Bool
  | .mk k n t l => zkd l || decide (k = 0)
def zkd : List Val → Bool
  | [] => false
  | v :: r => hasN v || zkd r
end
theorem zv2 (l : List Val) : zkd l = l.any hasN := by
  induction l with
  | nil => rfl
  | cons v r ih => simp [zkd, ih]
mutual
theorem zrv : ∀ (v : Val) {d : Int}, okV d v = true → eq3 v v = if hasN v then .unk else .yes
  | .mk k n t l, d, h => by
    by_cases k0 : k = 0
    · simp [eq3, hasN, k0]
    · by_cases k4 : k = 4
      · subst k4
        have := zru l (kh h)
        simp only [eq3, hasN]
        simp only [this, ne_eq, not_true_eq_false, or_self, if_false]
        simp
      · have hl : l = [] := by
          by_cases h3 : k = 3
          · subst h3; exact (zb0 h).2
          · exact (j9 h h3 k4).2
        subst hl
        simp only [eq3, hasN, zkd, zdx]
        simp [k0, k4, T3.of]
theorem zru : ∀ (l : List Val) {d : Int}, (∀ v ∈ l, okV d v = true) → eqL l l = if zkd l then .unk else .yes
  | [], _, _ => by simp [eqL, zkd]
  | v :: r, d, h => by
    have h1 := zrv v (h v (by simp))
    have h2 := zru r fun w hw => h w (by simp [hw])
    simp only [eqL, zkd, h1, h2]
    by_cases a : hasN v = true <;> by_cases b : zkd r = true <;> simp [a, b, z08]
end
section
variable {σ : Heap} {ns : List Nd} {es : List Ed} {nn ne k vk vn : Int} {vt s c : ByteArray} {vl : List Val} {ps : List Exp} {row given : List Pr}
end
mutual
theorem zwy : ∀ (v w : Val) {d d' : Int}, okV d v = true → okV d' w = true → eq3 v w = .yes → v = w
  | .mk k n t l, .mk k' n' t' l', d, d', h, h', e => by
    rw [eq3] at e
    split at e
    · cases e
    split at e
    · cases hs : xf (.mk k n t l) (.mk k' n' t' l')
      · rw [hs] at e; cases e
      · exact zcz _ _ hs
    rename_i k4
    split at e
    · cases e
    rename_i hl
    obtain rfl : k = 4 := by omega
    obtain rfl : k' = 4 := by omega
    have := zwx l l' (kh h) (kh h') (by omega) e
    subst this
    obtain ⟨a1, a2⟩ := zf2 h
    obtain ⟨b1, b2⟩ := zf2 h'
    rw [a1, a2, b1, b2]
theorem zwx : ∀ (l l' : List Val) {d d' : Int}, (∀ v ∈ l, okV d v = true) → (∀ v ∈ l', okV d' v = true) → l.length = l'.length → eqL l l' = .yes → l = l'
  | [], [], _, _, _, _, _, _ => rfl
  | [], _ :: _, _, _, _, _, hl, _ => by simp at hl
  | _ :: _, [], _, _, _, _, hl, _ => by simp at hl
  | v :: r, w :: s, d, d', h, h', hl, e => by
    rw [eqL] at e
    cases hq : eq3 v w with
    | no => rw [hq] at e; cases e
    | unk => rw [hq] at e; dsimp only at e; cases hr : eqL r s <;> rw [hr] at e <;> cases e
    | yes =>
      rw [hq] at e
      rw [zwy v w (h v (by simp)) (h' w (by simp)) hq, zwx r s (fun x hx => h x (by simp [hx])) (fun x hx => h' x (by simp [hx])) (by simpa using hl) e]
end
def zc6 (l s : ByteArray) (v : Val) : Pth := ⟨⟨⟨#[97]⟩, l, [⟨s, .mk 1 v ⟨#[]⟩ ⟨#[]⟩ []⟩]⟩, []⟩
def eqB : T3 → Bool
  | .yes => true
  | _ => false
theorem zur : ∀ (v : Val), plainV v = true → hasN v = false
  | .mk k n t l, h => by
    simp only [plainV, Bool.and_eq_true, decide_eq_true_eq] at h
    rw [zd2] at h
    simp only [hasN, zv2, Bool.or_eq_false_iff, decide_eq_false_iff_not]
    refine ⟨List.any_eq_false.2 fun w hw => ?_, by omega⟩
    rw [zur w (List.all_eq_true.1 h.1 w hw)]; simp
  termination_by v => SizeOf.sizeOf v
theorem zyh {l : List Pr} (h : yi l = true) {p : Pr} (hp : p ∈ l) : zad p.val = true := by
  unfold yi at h
  rw [Bool.and_eq_true] at h
  obtain ⟨j, hj, e⟩ := List.getElem_of_mem hp
  have h2 := List.all_eq_true.1 h.2 j (List.mem_range.2 hj)
  unfold zai at h2
  rw [List.getElem?_eq_getElem hj, e] at h2
  simp only [zc7, Bool.and_eq_true] at h2
  exact h2.1.2
theorem z28 {g : Gr} (hk : zn g = true) {n : Nd} (hn : n ∈ g.nodes) (s : ByteArray) {v : Val} (hv : okV 3 v = true) : eqB (eq3 v ((zx n.props s).getD nullV)) = (zza n s v && !decide (zcv v = 0)) := by
  unfold zza
  have hps : yi n.props = true := by
    unfold zn at hk
    simp only [Bool.and_eq_true] at hk
    obtain ⟨_, _, _, h3, h4⟩ := hk
    have := List.all_eq_true.1 h3 _ hn
    simp only [xj, Bool.and_eq_true] at this
    exact this.2
  have hw : okV 3 ((zx n.props s).getD nullV) = true ∧ (hasN ((zx n.props s).getD nullV) = true → zcv ((zx n.props s).getD nullV) = 0) := by
    cases h : zx n.props s with
    | none => exact ⟨by decide, fun _ => rfl⟩
    | some w =>
      obtain ⟨p, hp, rfl⟩ := zb3 h
      have := zyh hps hp
      unfold zad at this
      rw [Bool.and_eq_true] at this
      refine ⟨this.1, fun e => ?_⟩
      have e2 : hasN p.val = true := e
      rw [zur _ this.2] at e2
      cases e2
  generalize (zx n.props s).getD nullV = w at hw
  cases hs : xf w v
  · cases hq : eq3 v w with
    | yes =>
      have := zwy v w hv hw.1 hq
      subst this
      rw [zdx] at hs; cases hs
    | no => rfl
    | unk => rfl
  · have := zcz w v hs
    subst this
    rw [zrv w hv]
    by_cases h0 : zcv w = 0
    · have : hasN w = true := by
        obtain ⟨k, m, t, l⟩ := w
        replace h0 : k = 0 := h0
        simp [hasN, h0]
      rw [if_pos this, decide_eq_true h0]; rfl
    · have : ¬ hasN w = true := fun e => h0 (hw.2 e)
      rw [if_neg this, decide_eq_false h0]; rfl
theorem z05 {p : Nd → Bool} {f : Nd → List Pr} : ∀ (l : List Nd), (l.flatMap fun n => (match p n with | true => Fit.yes | false => Fit.no).evs [Sum.inl (f n)]) = ((l.filter p).map f).map Sum.inl
  | [] => rfl
  | x :: r => by
    rw [List.flatMap_cons, z05 r, List.filter_cons]
    cases p x <;> rfl
theorem zrn {α β : Type} {f h : α → List β} : ∀ (l : List α), (∀ x ∈ l, f x = h x) → l.flatMap f = l.flatMap h
  | [], _ => rfl
  | x :: r, e => by rw [List.flatMap_cons, List.flatMap_cons, e x (by simp), zrn r fun y hy => e y (by simp [hy])]
theorem z7c {g : Gr} {n : Nd} {l s : ByteArray} {v : Val} : zfi g [] ⟨⟨#[97]⟩, l, [⟨s, .mk 1 v ⟨#[]⟩ ⟨#[]⟩ []⟩]⟩ n (zd5 n.id) = match (zj7 n l && eqB (eq3 v ((zx n.props s).getD nullV))) with
    | true => .yes
    | false => .no := by
  unfold zfi
  have : zva n.id ⟨#[97]⟩ (zd5 n.id) = true := by
    unfold zva zd5
    rw [show zx [⟨⟨#[97]⟩, yd n.id⟩] ⟨#[97]⟩ = some (yd n.id) from by simp [zx]]
    simp [z44, yd]
  dsimp only
  rw [this, Bool.true_and]
  cases zj7 n l
  · rfl
  · rw [Bool.true_and]
    dsimp only [zxw]
    have ev : evR g (zd5 n.id) [] (.mk 1 v ⟨#[]⟩ ⟨#[]⟩ []) = .ok v := by
      simp only [evR, evL, zy7, zb5]
      rfl
    rw [ev]
    dsimp only
    cases eq3 v ((zx n.props s).getD nullV) <;> rfl
theorem z7f {g : Gr} (hk : zn g = true) {l s : ByteArray} {v : Val} (hv : okV 3 v = true) (hl : ¬ l = ⟨#[]⟩) : zef g [] (zfb [zc6 l s v] [zc6 l s v].length) 0 [] [] = ((zdi g l s v).map zd5).map .inl := by
  have e : zfb [zc6 l s v] [zc6 l s v].length = [⟨false, ⟨#[]⟩, ⟨#[]⟩, 0, ⟨⟨#[97]⟩, l, [⟨s, .mk 1 v ⟨#[]⟩ ⟨#[]⟩ []⟩]⟩⟩] := rfl
  rw [e]
  have e2 : zef g [] [⟨false, ⟨#[]⟩, ⟨#[]⟩, 0, ⟨⟨#[97]⟩, l, [⟨s, .mk 1 v ⟨#[]⟩ ⟨#[]⟩ []⟩]⟩⟩] 0 [] [] = g.nodes.flatMap fun n => (zfi g [] ⟨⟨#[97]⟩, l, [⟨s, .mk 1 v ⟨#[]⟩ ⟨#[]⟩ []⟩]⟩ n (yg [] ⟨#[97]⟩ (yd n.id))).evs [.inl (yg [] ⟨#[97]⟩ (yd n.id))] := rfl
  rw [e2]
  have e3 : ∀ n ∈ g.nodes, (zfi g [] ⟨⟨#[97]⟩, l, [⟨s, .mk 1 v ⟨#[]⟩ ⟨#[]⟩ []⟩]⟩ n (yg [] ⟨#[97]⟩ (yd n.id))).evs [.inl (yg [] ⟨#[97]⟩ (yd n.id))] = (match (zj7 n l && (zza n s v && !decide (zcv v = 0))) with | true => Fit.yes | false => Fit.no).evs [Sum.inl (zd5 n.id)] := fun n hn => by
    rw [z55, show [⟨⟨#[97]⟩, yd n.id⟩] = zd5 n.id from rfl, z7c, z28 hk hn s hv]
  rw [zrn _ e3, z05]
  refine congrArg _ ?_
  unfold zdi
  rw [hk, hv, decide_eq_false hl]
  by_cases h0 : zcv v = 0
  · rw [decide_eq_true h0]
    simp
  · rw [decide_eq_false h0]
    simp only [zbl, Bool.not_false, Bool.and_true, Bool.and_self, if_true, List.map_map]
    rfl
def NmT (t : ByteArray) : Prop := ya t = true ∧ t.size ≤ 7
theorem z6x {g : Gr} (hg : GrTame g) {l s : ByteArray} {v : Val} (hl : z3u l) (hs : NmT s) (hv : Tame v) : MatsT g [] [] [zc6 l s v] := by
  refine ⟨hg, by simp, by simp, by simp, by simp, by simp, fun p hp => ?_⟩
  rw [List.mem_singleton.1 hp]
  refine ⟨⟨by show 1 ≤ 1000; omega, by have := hl.2; show l.size ≤ 1000; omega, by simp [zc6], ?_⟩, by simp [zc6], by simp [zc6]⟩
  intro q hq
  rw [show q = ⟨s, .mk 1 v ⟨#[]⟩ ⟨#[]⟩ []⟩ from by simpa [zc6] using hq]
  exact ⟨by have := hs.2; show s.size ≤ 1000; omega, .mk hv (by decide) (by decide) (by simp) (by simp)⟩
theorem z6y {g : Gr} (hk : zn g = true) {l s : ByteArray} {v : Val} (hl : z3u l) (hs : NmT s) (he : okE 4 (.mk 1 v ⟨#[]⟩ ⟨#[]⟩ []) = true) : z1g g [] [] [zc6 l s v] := by
  refine ⟨hk, rfl, rfl, ?_, ?_⟩
  · have h1 : zg3 [⟨s, .mk 1 v ⟨#[]⟩ ⟨#[]⟩ []⟩] = true := by
      unfold zg3
      simp [z0o, hs.1, he, zax, List.range, List.range.loop]
    simp [zah, pthOk, zc6, zom, hl.1, h1, (show zoa ⟨#[97]⟩ = true from by decide)]
  · have h1 : zb8 false (nmR []) (zc6 l s v).spot = (0, zk2 (nmR []) ⟨#[97]⟩) := by
      unfold zb8
      have : v6 (zxv (nmR [])) (zc6 l s v).spot.props = 0 := rfl
      rw [if_pos this]; rfl
    show (zex (zf1 false) [zc6 l s v] (nmR [])).1 = 0
    unfold zex zf1
    rw [h1]; rfl
def DrawnFB (out : COut) : Prop := ∃ ns es nn ne l s v τ, GrTame ⟨ns, es, nn, ne⟩ ∧ z3u l ∧ NmT s ∧ Tame v ∧ out = .ret (.tup [.agg [.vec (nds ns), .vec (eds es), i64 nn, i64 ne], .sc (.string l), .sc (.string s), v.cv]) τ
theorem z75 : NmT ⟨#[110]⟩ := ⟨by decide, by decide⟩
theorem z2e : NmT ⟨#[110, 97, 109, 101]⟩ := ⟨by decide, by decide⟩
theorem z2g (ns : List Nd) : ∀ x ∈ nds ns, ∃ n : Nd, x = n.cv := fun x hx => by
  obtain ⟨n, _, rfl⟩ := List.mem_map.1 hx
  exact ⟨n, rfl⟩
theorem z7b {σ : Heap} {g : Gr} {d : Int} {s : ByteArray} (hg : GrTame g) : CRun Tryz.prog 50 [g.cv, (yd d).cv, .sc (.string s)] σ (fun out => ∃ v : Val, Tame v ∧ out = .ret v.cv σ) :=
  (zvt (σ := σ) (v := yd d) (s := s) hg).mono fun out h => ⟨_, z0z hg, h⟩
set_option maxHeartbeats 4000000 in
theorem ztp {σ : Heap} {bs : List CV} (hb : BytesOk bs) (h2 : bs.length ≤ 1048576) : CRun Tryz.prog 16 [.vec bs] σ DrawnFB := by
  refine jh (X := (O 6 [0,1,2,4,5,7,3,6,8,9,10,11])) (z0g _ _) (zn6 _ _) (body := yz Tryz.f16) Tryz.func16 rfl (by kernel_rfl) (by kernel_rfl) ?_
  rw [Tryz.ntmps16]
  conv => whnf
  repeat' (first | (refine CallN.many (z4w hb h2) ?_; rintro _ ⟨l, bs', hb', hl', rfl⟩) | ((refine CallN.many (z3m (z7i hb' hl' (by omega) (by omega))) ?_; rintro _ ⟨ns, es, nn, ne, q1, gt, a1, a2, rfl⟩; have e3 := ym ns)) | ((refine CallN.many (z59 hb' hl' (by omega) (by omega)) ?_; rintro _ ⟨⟨vk, vn, vt, vl⟩, p', hv, hp1, hp2, rfl⟩)) | ((have hk0 := hk1; refine CallN.many (yq hb' hl' (by omega) (by omega)) ?_; rintro _ ⟨k2, hk3, hk4, rfl⟩)) | ((refine CallN.many (yq hb' hl' (by omega) (by omega)) ?_; rintro _ ⟨k, hk1, hk2, rfl⟩)) | ((refine ElemN.any (z2g ns) (by omega) ?_; rintro _ ⟨⟨d, ls, ps⟩, rfl⟩)) | ((refine CallN.many (z7b gt) ?_; rintro _ ⟨⟨wk, wn, wt, wl⟩, hw, rfl⟩)) | ((refine CallN.many (z7r (Q := z3u) hb' hl' (by omega) (by omega) ⟨⟨_, rfl, z64⟩, ⟨_, rfl, z63⟩, ⟨_, rfl, z65⟩, trivial⟩ (Nat.le_of_ble_eq_true rfl) (Nat.le_of_ble_eq_true rfl)) ?_; rintro _ ⟨t, ht, rfl⟩)) | ((refine CallN.many (z7r (Q := NmT) hb' hl' (by omega) (by omega) ⟨⟨_, rfl, z75⟩, ⟨_, rfl, z2e⟩, trivial⟩ (Nat.le_of_ble_eq_true rfl) (Nat.le_of_ble_eq_true rfl)) ?_; rintro _ ⟨s, hs, rfl⟩)) | refine Zi ?_ | refine Zv (fun h => ?_) (fun h => ?_) | refine Zm ?_ | refine Zn ?_ | refine Zp ?_ | refine Zq ?_ | refine Zr ?_) <;> try (conv => whnf)
  all_goals first
    | exact ⟨ns, es, nn, ne, t, s, .mk wk wn wt wl, _, gt, ht, hs, hw, rfl⟩
    | exact ⟨ns, es, nn, ne, t, s, .mk vk vn vt vl, _, gt, ht, hs, hv, rfl⟩
theorem znj {g : Gr} {l s : ByteArray} {v : Val} : (zdi g l s v).length ≤ g.nodes.length := by
  unfold zdi
  split
  · unfold zbl; rw [List.length_map]; exact List.length_filter_le _ _
  · simp
theorem z12 {W : List Int} {i : Nat} (hi : i < W.length) : ∃ d, (vj (W.map zd5))[i]? = some (.vec [.agg [.sc (.string ⟨#[97]⟩), i64 5, i64 d, .sc (.string ⟨#[]⟩), .vec []]]) ∧ (zaw W)[i]? = some (i64 d) := by
  refine ⟨W[i], ?_, ?_⟩
  · unfold vj; rw [List.map_map, List.getElem?_map, List.getElem?_eq_getElem hi]; rfl
  · unfold zaw; rw [List.getElem?_map, List.getElem?_eq_getElem hi]; rfl
set_option maxHeartbeats 4000000 in
theorem z6q {σ : Heap} {bs : List CV} (hb : BytesOk bs) : CRun Tryz.prog 6 [.vec bs] σ (fun out => ∃ τ, out = .ret (.sc (.bool true)) τ) := by
  by_cases h2 : bs.length ≤ 1048576
  case neg =>
    refine ZX Tryz.func6 Tryz.ntmps6 ?_
    conv => whnf
    repeat' (first | refine Za ?_ | refine Zr ?_) <;> try (conv => whnf)
    all_goals exact ⟨_, rfl⟩
  have d := ztp (σ := σ) hb h2
  refine ZX Tryz.func6 Tryz.ntmps6 ?_
  conv => whnf
  repeat' (first | (refine CallN.many d ?_; rintro _ ⟨ns, es, nn, ne, l, s, ⟨vk, vn, vt, vl⟩, τ, gt, ht, hs, hv, rfl⟩) | refine Zb ?_ | refine Zq ?_) <;> try (conv => whnf)
  have c1 := z2s (σ := τ) (l := l) (s := s) gt hv
  have c2 := z10 (σ := τ) (l := l) (s := s) gt hv
  have c3 := zfs (σ := τ) gt
  have he : ETame (.mk 1 (.mk vk vn vt vl) ⟨#[]⟩ ⟨#[]⟩ []) := .mk hv (by decide) (by decide) (by simp) (by simp)
  have c4 : CRun Tryz.prog 19 [.agg [i64 1, i64 vk, i64 vn, .sc (.string vt), .vec (Val.cvs vl), .sc (.string ⟨#[]⟩), .sc (.string ⟨#[]⟩), .vec []]] τ (· = .ret (.sc (.bool (okE 4 (.mk 1 (.mk vk vn vt vl) ⟨#[]⟩ ⟨#[]⟩ [])))) τ) := zld he
  have hwl := Nat.le_trans (znj (g := ⟨ns, es, nn, ne⟩) (l := l) (s := s) (v := .mk vk vn vt vl)) gt.nl
  have c5 := z0b (σ := τ) (a := zdi ⟨ns, es, nn, ne⟩ l s (.mk vk vn vt vl)) hwl
  cases hk : zn ⟨ns, es, nn, ne⟩ <;> rw [hk] at c3
  · conv => whnf
    repeat' (first | (refine ZC c1 ?_) | (refine ZC c2 ?_) | (refine ZC c3 ?_) | (refine ZC c5 ?_) | refine Zp ?_ | refine Zr ?_) <;> try (conv => whnf)
    all_goals exact ⟨_, rfl⟩
  cases hq : okE 4 (.mk 1 (.mk vk vn vt vl) ⟨#[]⟩ ⟨#[]⟩ []) <;> rw [hq] at c4
  · conv => whnf
    repeat' (first | (refine ZC c1 ?_) | (refine ZC c2 ?_) | (refine ZC c3 ?_) | (refine ZC c4 ?_) | (refine ZC c5 ?_) | refine Zp ?_ | refine Zr ?_) <;> try (conv => whnf)
    all_goals exact ⟨_, rfl⟩
  by_cases h0 : l = ⟨#[]⟩
  · conv => whnf
    repeat' (first | (refine ZC c1 ?_) | (refine ZC c2 ?_) | (refine ZC c3 ?_) | (refine ZC c4 ?_) | (refine ZC c5 ?_) | refine Za ?_ | refine Zp ?_ | refine Zr ?_) <;> try (conv => whnf)
    all_goals exact ⟨_, rfl⟩
  have hvo : okV 3 (.mk vk vn vt vl) = true := by
    obtain ⟨h1, _⟩ := zf3 hq
    exact h1.vl rfl
  have c6 := zs0 (σ := τ) (z6x gt ht hs hv) (z6y hk ht hs hq)
  rw [z7f hk hvo h0] at c6
  have h12 := znj (g := ⟨ns, es, nn, ne⟩) (l := l) (s := s) (v := .mk vk vn vt vl)
  have n12 : ns.length ≤ 12 := (zv4 hk).1
  dsimp only at h12
  generalize zdi ⟨ns, es, nn, ne⟩ l s (.mk vk vn vt vl) = W at c1 c2 c5 c6 h12
  have hm : zvh ((W.map zd5).map .inl) = .tup [.vec (vj (W.map zd5)), i64 0] := by
    unfold zvh
    rw [zkq (by rw [List.length_map]; omega), zho]
  rw [hm] at c6
  have c6 : CRun Tryz.prog 10 [.agg [.vec (nds ns), .vec (eds es), i64 nn, i64 ne], .vec [], .vec [], .vec [.agg [.sc (.string ⟨#[97]⟩), .sc (.string l), .vec [.agg [.sc (.string s), i64 1, i64 vk, i64 vn, .sc (.string vt), .vec (Val.cvs vl), .sc (.string ⟨#[]⟩), .sc (.string ⟨#[]⟩), .vec []]], .vec []]]] τ (· = .ret (.tup [.vec (vj (W.map zd5)), i64 0]) τ) := c6
  have e3 : (vj (W.map zd5)).length = W.length := by rw [kr, List.length_map]
  have e4 := qi W
  clear hm hvo hq he d hv gt
  conv => whnf
  repeat' (first | (refine ZC c1 ?_) | (refine ZC c2 ?_) | (refine ZC c3 ?_) | (refine ZC c4 ?_) | (refine ZC c5 ?_) | (refine ZC c6 ?_) | refine Zb ?_ | refine Zp ?_) <;> try (conv => whnf)
  refine LoopN.rule (α := Nat) (fun i => ⟨99, [(2, .sc (.bool false)), (7, .vec (zaw W)), (9, .vec (vj (W.map zd5))), (10, i64 0), (11, i64 i)], []⟩)
    (fun _ => τ) (fun i => W.length - i) (fun i => i ≤ W.length) ?_ 0 (by omega) ?_
  rotate_left
  · exact ZW
  rintro i K i1 hK
  by_cases hi : i < W.length
  · obtain ⟨d, hx1, hx2⟩ := z12 hi
    conv => whnf
    repeat' (first | (refine ElemN.go ?_ (h := hx1)) | (refine ElemN.go ?_ (h := hx2)) | refine Za ?_ | refine Zd ?_ | refine Zm ?_ | refine Zn ?_ | refine Zo ?_) <;> try (conv => whnf)
    all_goals first
      | (refine hK (i + 1) _ _ (by omega) (by omega) ?_; exact ZW)
      | (exfalso; omega)
  · conv => whnf
    repeat' (first | refine Za ?_ | refine Zb ?_ | refine Zr ?_) <;> try (conv => whnf)
    all_goals exact ⟨_, rfl⟩
end Go.Proofs.YtlamgfimgadnmaaGreat
