/-
  Contracts of the functions that the law reaches.
-/
import Derived.Test.YtlamgfimgadnmaaGreatH
import Derived.Test.YtlamgfimgadnmaaGreatI
import Derived.Test.YtlamgfimgadnmaaGreatO
import Derived.Test.YtlamgfimgadnmaaGreatB
import Derived.Test.YtlamgfimgadnmaaGreatN
import Derived.Test.YtlamgfimgadnmaaGreatD
set_option linter.unusedVariables false
set_option linter.unusedSimpArgs false
namespace Go.Proofs.YtlamgfimgadnmaaGreat
open Go Go.CL
set_option maxRecDepth 10000
structure Stp where
  hop : Bool
  name : ByteArray
  kind : ByteArray
  way : Int
  spot : Sp
def Stp.cv : Stp → CV
  | ⟨h, n, k, w, ⟨sn, sl, ps⟩⟩ => .agg [.sc (.bool h), .sc (.string n), .sc (.string k), i64 w, .sc (.string sn), .sc (.string sl), .vec (pts ps), .vec []]
def z72 (l : List Stp) : List CV := l.map Stp.cv
def z4i : Hp → Stp
  | ⟨n, k, w, s⟩ => ⟨true, n, k, w, s⟩
def zya (p : Pth) : List Stp := ⟨false, ⟨#[]⟩, ⟨#[]⟩, 0, p.spot⟩ :: p.hops.map z4i
def zpr (e : Ed) (d w : Int) (k : ByteArray) : Bool := (decide (k = ⟨#[]⟩) || decide (e.kind = k)) && ((decide (0 ≤ w) && decide (e.src = d)) || (decide (w ≤ 0) && decide (e.dst = d)))
def yd (d : Int) : Val := .mk 5 d ⟨#[]⟩ []
def zam (d : Int) : Val := .mk 6 d ⟨#[]⟩ []
def yg (row : List Pr) (s : ByteArray) (v : Val) : List Pr := if s = ⟨#[]⟩ then row else if (zx row s).isSome then row else row ++ [⟨s, v⟩]
def zj7 (n : Nd) (l : ByteArray) : Bool := decide (l = ⟨#[]⟩) || zax n.labels l
def z44 (d : Int) : Option Val → Bool
  | some (.mk k m _ _) => decide (k = 5 ∧ m = d)
  | none => false
def zva (d : Int) (s : ByteArray) (row : List Pr) : Bool := decide (s = ⟨#[]⟩) || z44 d (zx row s)
def zoc (e : Ed) (d : Int) : Int := if e.src = d then e.dst else e.src
def zd6 (s : Stp) (e : Ed) (n : Nd) (row : List Pr) : List Pr := yg (yg row s.name (zam e.id)) s.spot.name (yd n.id)
theorem zpt {α β : Type} {l : List α} {f : α → List β} {i : Nat} {x : α} (h : l[i]? = some x) : (l.take (i + 1)).flatMap f = (l.take i).flatMap f ++ f x := by
  rw [List.take_add_one, h]; simp
structure RowT (row : List Pr) : Prop where
  l : row.length ≤ 100
  t : ∀ q ∈ row, PrTame q
theorem RowT.nil : RowT [] := ⟨by simp, by simp⟩
theorem jz {row : List Pr} {s : ByteArray} {v : Val} : (yg row s v).length ≤ row.length + 1 := by
  unfold yg; split
  · omega
  · split
    · omega
    · simp
theorem z3f {row : List Pr} {s : ByteArray} {v : Val} (h : ∀ q ∈ row, PrTame q) (hs : s.size ≤ 1000) (hv : Tame v) : ∀ q ∈ yg row s v, PrTame q := by
  unfold yg; split
  · exact h
  · split
    · exact h
    · intro q hq
      rcases List.mem_append.1 hq with hq | hq
      · exact h q hq
      · rw [List.mem_singleton.1 hq]; exact ⟨hs, hv⟩
theorem z5i {σ : Heap} {l : List ByteArray} {s : ByteArray} (hl : l.length ≤ 1000) : CRun Tryz.prog 109 [.vec (wq l), .sc (.string s)] σ (fun out => ∃ k : Int, ((0 ≤ k ∧ zax l s = true) ∨ (k < 0 ∧ zax l s = false)) ∧ out = .ret (i64 k) σ) := by
  have e3 : (wq l).length = l.length := by simp [wq]
  refine ZX Tryz.func109 Tryz.ntmps109 ?_
  conv => whnf
  repeat' (first | refine Zh ?_ | refine Za ?_ | refine Zb ?_ | refine Zc ?_ | refine Zd ?_ | refine Ze ?_ | refine Zg ?_ | refine Zv (fun h => ?_) (fun h => ?_) | refine Zj ?_ | refine Zk ?_ | refine Zl ?_ | refine Zm ?_ | refine Zn ?_ | refine Zo ?_ | refine Zp ?_ | refine Zq ?_ | refine Zu (fun l hl => ?_) | refine Zr ?_) <;> try (conv => whnf)
  refine LoopN.rule (α := Nat) (fun i => ⟨19, [(0, .vec (wq l)), (1, .sc (.string s)), (4, i64 0), (6, .vec (wq l)), (7, i64 (wq l).length), (8, i64 i)], []⟩)
    (fun _ => σ) (fun i => l.length - i) (fun i => i ≤ l.length ∧ ∀ x ∈ l.take i, ¬ x = s) ?_ 0 ⟨by omega, by simp⟩ ?_
  rotate_left
  · exact ZW
  rintro i K ⟨h1, h2⟩ hK
  dsimp only at h1 h2 hK ⊢
  by_cases hi : i < l.length
  · obtain ⟨pn, hm, hg, hg'⟩ := za5 (f := fun s : ByteArray => CV.sc (.string s)) hi
    by_cases he : pn = s
    · have hh : zax l s = true := hasB_iff.2 (he ▸ hm)
      have he' : s = pn := he.symm
      conv => whnf
      repeat' (first | refine Za ?_ | refine Zm ?_ | refine Zo ?_ | refine Zr ?_) <;> try (conv => whnf)
      all_goals exact ⟨_, .inl ⟨by omega, hh⟩, rfl⟩
    · have he' : ¬ s = pn := fun e => he e.symm
      have h3 : ∀ x ∈ l.take (i + 1), ¬ x = s := fun x hx => by
        rw [List.take_add_one, hg] at hx
        rcases List.mem_append.1 hx with hx | hx
        · exact h2 x hx
        · simp at hx; rw [hx]; exact he
      conv => whnf
      repeat' (first | refine Za ?_ | refine Zb ?_ | refine Zm ?_ | refine Zo ?_) <;> try (conv => whnf)
      all_goals (refine hK (i + 1) _ _ ⟨by omega, h3⟩ (by omega) ?_; exact ZW)
  · have hh : zax l s = false := by
      cases hq : zax l s with
      | false => rfl
      | true => exact (h2 s (by rw [List.take_of_length_le (by omega)]; exact hasB_iff.1 hq) rfl).elim
    conv => whnf
    repeat' (first | refine Zb ?_ | refine Zr ?_) <;> try (conv => whnf)
    all_goals exact ⟨_, .inr ⟨by omega, hh⟩, rfl⟩
theorem z5j {σ : Heap} {l : List ByteArray} {s : ByteArray} (hl : l.length ≤ 1000) : CRun Tryz.prog 79 [.vec (wq l), .sc (.string s)] σ (· = .ret (.sc (.bool (zax l s))) σ) := by
  have c1 := z5i (σ := σ) (s := s) hl
  refine ZX Tryz.func79 Tryz.ntmps79 ?_
  conv => whnf
  repeat' (first | ((refine CallN.many c1 ?_; rintro _ ⟨k, (⟨hk, hw⟩ | ⟨hk, hw⟩), rfl⟩)) | refine Za ?_ | refine Zb ?_ | refine Zp ?_ | refine Zr ?_) <;> try (conv => whnf)
  all_goals first
    | (exfalso; omega)
    | exact z7 hw.symm
    | exact z7 hw
theorem zh0 {σ : Heap} {n : Nd} {s : ByteArray} (hl : n.labels.length ≤ 1000) : CRun Tryz.prog 47 [n.cv, .sc (.string s)] σ (· = .ret (.sc (.bool (zj7 n s))) σ) := by
  have c1 := z5j (σ := σ) (s := s) hl
  obtain ⟨d, ls, ps⟩ := n
  dsimp only at hl c1
  unfold zj7
  dsimp only
  by_cases h0 : s = ⟨#[]⟩
  · rw [decide_eq_true h0]
    refine ZX Tryz.func47 Tryz.ntmps47 ?_
    conv => whnf
    repeat' (first | refine Za ?_ | refine Zr ?_) <;> try (conv => whnf)
    all_goals rfl
  · rw [decide_eq_false h0]
    cases hq : zax ls s <;> rw [hq] at c1
    all_goals
      refine ZX Tryz.func47 Tryz.ntmps47 ?_
      conv => whnf
      repeat' (first | (refine ZC c1 ?_) | refine Zb ?_ | refine Zp ?_ | refine Zr ?_) <;> try (conv => whnf)
      all_goals rfl
theorem zh1 {σ : Heap} {id a b : Int} {kd : ByteArray} {ps : List Pr} {d w : Int} {k : ByteArray} : CRun Tryz.prog 105 [.agg [i64 id, .sc (.string kd), i64 a, i64 b, .vec (prs ps)], i64 d, i64 w, .sc (.string k)] σ (· = .ret (.sc (.bool ((decide (k = ⟨#[]⟩) || decide (kd = k)) && ((decide (0 ≤ w) && decide (a = d)) || (decide (w ≤ 0) && decide (b = d)))))) σ) := by
  by_cases h0 : k = ⟨#[]⟩
  · rw [decide_eq_true h0]
    refine ZX Tryz.func105 Tryz.ntmps105 ?_
    conv => whnf
    repeat' (first | refine Za ?_ | refine Zd ?_ | refine Zv (fun h => ?_) (fun h => ?_) | refine Zr ?_) <;> try (conv => whnf)
    all_goals exact z7 (by simp only [Bool.true_or, Bool.true_and, Bool.or_eq_true, Bool.and_eq_true, Bool.or_eq_false_iff, Bool.and_eq_false_iff, decide_eq_true_eq, decide_eq_false_iff_not]; omega)
  · rw [decide_eq_false h0]
    by_cases h1 : kd = k
    · rw [decide_eq_true h1]
      refine ZX Tryz.func105 Tryz.ntmps105 ?_
      conv => whnf
      repeat' (first | refine Za ?_ | refine Zc ?_ | refine Zd ?_ | refine Zv (fun h => ?_) (fun h => ?_) | refine Zr ?_) <;> try (conv => whnf)
      all_goals exact z7 (by simp only [Bool.false_or, Bool.true_and, Bool.or_eq_true, Bool.and_eq_true, Bool.or_eq_false_iff, Bool.and_eq_false_iff, decide_eq_true_eq, decide_eq_false_iff_not]; omega)
    · rw [decide_eq_false h1]
      refine ZX Tryz.func105 Tryz.ntmps105 ?_
      conv => whnf
      repeat' (first | refine Zc ?_ | refine Zr ?_) <;> try (conv => whnf)
      all_goals rfl
theorem zqs (l : List Pr) (p : Pr) : prs (l ++ [p]) = prs l ++ [p.cv] := by simp [prs]
theorem z3a (l : List Pr) : ElsOk 5 (prs l) := fun x hx => by
  obtain ⟨⟨s, ⟨k, n, t, v⟩⟩, _, rfl⟩ := List.mem_map.1 hx
  exact ⟨rfl, rfl⟩
def zP : CV := .agg [.sc (.string ⟨#[]⟩), i64 0, i64 0, .sc (.string ⟨#[]⟩), .vec []]
def z8a (T sz : Nat) (σ : Heap) (ys : List CV) (out : COut) : Prop := ∃ l n cap xs τ, σ l = none ∧ Sub σ τ ∧ τ l = some (.arr T sz cap xs) ∧ n = xs.length ∧ xs = ys ∧ out = .ret (.grow l n cap) τ
theorem z7v {f : FuncId} {args : List CV} {T sz : Nat} {σ : Heap} {ys : List CV} (hs : CRun Tryz.prog f args σ (z8a T sz σ ys)) : CRun Tryz.prog f args σ (· = .ret (.vec ys) σ) := by
  refine hs.freeze fun out ⟨l, n, cap, xs, τ, hl, hsub, hg, hn, hx, e⟩ => ?_
  subst e; subst hn; subst hx
  refine ⟨.ret (.vec xs) σ, ⟨hsub, [l], .inl (.one ?_), fun l' h' => by rw [List.mem_singleton.1 h']; exact hl⟩, rfl⟩
  have := Frz.grow (σ := τ) l xs.length cap _ _ _ hg (Nat.le_refl _)
  rwa [List.take_of_length_le (Nat.le_refl _)] at this
theorem zr1 {row : List Pr} {p : Pr} {n k : Nat} {z : CV} (hn : n = (prs row).length) (hk : k = n + 1) :
    (prs row ++ (List.replicate n z).drop (prs row).length).take n ++ [p.cv] ++ (prs row ++ (List.replicate n z).drop (prs row).length).drop k = prs (row ++ [p]) := by
  subst hn hk
  rw [List.drop_eq_nil_of_le (by simp), List.append_nil, List.take_of_length_le (Nat.le_refl _), List.drop_eq_nil_of_le (by omega), List.append_nil, zqs]
theorem zn1 {σ : Heap} {row : List Pr} {s : ByteArray} {v : Val} (hl : row.length ≤ 900) : CRun Tryz.prog 102 [.vec (prs row), .sc (.string s), v.cv] σ (· = .ret (.vec (prs (yg row s v))) σ) := by
  have c1 := zj6 (σ := σ) (l := row) (s := s) (by omega)
  have e3 := vw row
  obtain ⟨vk, vn, vt, vl⟩ := v
  by_cases h0 : s = ⟨#[]⟩
  · have e : yg row s (.mk vk vn vt vl) = row := if_pos h0
    rw [e]
    refine ZX Tryz.func102 Tryz.ntmps102 ?_
    conv => whnf
    repeat' (first | refine Za ?_ | refine Zr ?_) <;> try (conv => whnf)
    all_goals rfl
  cases hq : zx row s with
  | some w =>
    have e : yg row s (.mk vk vn vt vl) = row := by unfold yg; rw [if_neg h0, hq]; rfl
    rw [e]
    rw [hq] at c1
    obtain ⟨wk, wn, wt, wl⟩ := w
    refine ZX Tryz.func102 Tryz.ntmps102 ?_
    conv => whnf
    repeat' (first | (refine ZC c1 ?_) | refine Zb ?_ | refine Zp ?_ | refine Zr ?_) <;> try (conv => whnf)
    all_goals rfl
  | none =>
    have e : yg row s (.mk vk vn vt vl) = row ++ [⟨s, .mk vk vn vt vl⟩] := by unfold yg; rw [if_neg h0, hq]; rfl
    rw [e]
    rw [hq] at c1
    refine z7v (T := 57) (sz := 5) ?_
    by_cases hr : row = []
    · subst hr
      refine ZG [26] Tryz.func102 Tryz.ntmps102 ?_
      conv => whnf
      repeat' (first | (refine ZC c1 ?_) | (refine AllocN.go (fun lx hlx => ?_)) | (refine Need.go ?_ (h := ⟨rfl, Nat.le_of_ble_eq_true rfl, Nat.le_of_ble_eq_true rfl, Nat.le_of_ble_eq_true rfl, ElsOk.one rfl rfl⟩)) | refine Zb ?_ | refine Ze ?_ | refine Zg ?_ | refine Zj ?_ | refine Zm ?_ | refine Zp ?_ | refine Zr ?_) <;> try (conv => whnf)
      all_goals exact ⟨lx, _, _, _, _, hlx, ((Sub.refl σ).upd hlx).upd hlx, za _ _ _, rfl, rfl, rfl⟩
    · have hp : 1 ≤ (prs row).length := by rw [e3]; exact List.length_pos_iff.2 hr
      have hem : (prs row).isEmpty = false := by cases hq : prs row with | nil => rw [hq] at hp; simp at hp | cons a b => rfl
      refine ZG [26] Tryz.func102 Tryz.ntmps102 ?_
      conv => whnf
      repeat' (first | (refine ZC c1 ?_) | (refine AllocN.go (fun lx hlx => ?_)) | (refine Need.go ?_ (h := ⟨rfl, Nat.le_refl _, Nat.le_of_eq (by simp), z3a _⟩)) | (refine Need.go ?_ (h := ⟨rfl, by simp, by show ((prs row).length + 1) * 72 ≤ 140737488355328; omega, by show (prs row).length + 1 ≤ 9223372036854775807; omega, ElsOk.one rfl rfl⟩)) | (refine Fork.yp ?_ (h := by simp only [List.length_cons, List.length_nil]; omega)) | refine Zb ?_ | refine Zg ?_ | refine Zj ?_ | refine Zm ?_ | refine Zp ?_ | refine Zr ?_) <;> try (conv => whnf)
      all_goals exact ⟨lx, _, _, _, _, hlx, (((Sub.refl σ).upd hlx).upd hlx).upd hlx, za _ _ _, by rw [zr1 rfl rfl]; simp [prs], zr1 rfl rfl, rfl⟩
theorem znu {σ : Heap} {vl : List Pr} (ih : ∀ q ∈ vl, Tame q.val ∧ okV 3 q.val = true) (hlen : vl.length ≤ 100) : CRun Tryz.prog 46 [.vec (prs vl)] σ (· = .ret (.vec (prs vl)) σ) := by
  have e3 := vw vl
  by_cases hz : vl = []
  · subst hz
    refine ZX Tryz.func46 Tryz.ntmps46 ?_
    conv => whnf
    repeat' (first | refine Ze ?_ | refine Zr ?_) <;> try (conv => whnf)
    all_goals rfl
  have hpos : ¬ vl.length = 0 := fun e => hz (List.eq_nil_of_length_eq_zero e)
  refine z7v (T := 57) (sz := 5) ?_
  refine ZG [11] Tryz.func46 Tryz.ntmps46 ?_
  conv => whnf
  repeat' (first | (refine AllocN.go (fun l hl => ?_)) | refine Zb ?_ | refine Zm ?_) <;> try (conv => whnf)
  refine LoopN.rule (α := Nat) (fun i => ⟨30, [(2, .nil), (3, .grow l (prs vl).length (prs vl).length), (12, .vec (prs vl)), (13, i64 (prs vl).length), (14, i64 i)], []⟩)
    (fun i => upd σ l (.arr 57 5 (prs vl).length (prs (vl.take i) ++ List.replicate ((prs vl).length - i) zP))) (fun i => vl.length - i) (fun i => i ≤ vl.length) ?_ 0 (by omega) ?_
  rotate_left
  · exact ZW
  intro i K hi0 hK
  try dsimp only at hi0 ⊢
  have hgl : (upd σ l (.arr 57 5 (prs vl).length (prs (vl.take i) ++ List.replicate ((prs vl).length - i) zP))) l = some (.arr 57 5 (prs vl).length (prs (vl.take i) ++ List.replicate ((prs vl).length - i) zP)) := za _ _ _
  have eH : ∀ B, upd σ l B = upd (upd σ l (.arr 57 5 (prs vl).length (prs (vl.take i) ++ List.replicate ((prs vl).length - i) zP))) l B := fun B => (xe _ _ _ _).symm
  have e4 := vw (vl.take i)
  rw [List.length_take, Nat.min_eq_left hi0] at e4
  by_cases hi : i < vl.length
  · obtain ⟨ws, wk, wn, wt, wl, hm, hg, hg'⟩ := zcd hi
    have htk : prs (vl.take (i + 1)) = prs (vl.take i) ++ [Pr.cv ⟨ws, .mk wk wn wt wl⟩] := by rw [List.take_add_one, hg]; exact zqs _ _
    have key := zik (prs (vl.take i)) (Pr.cv ⟨ws, .mk wk wn wt wl⟩) zP ((prs vl).length - (i + 1))
    rw [show (prs vl).length - (i + 1) + 1 = (prs vl).length - i by omega, e4] at key
    have hx : (prs (vl.take i) ++ List.replicate ((prs vl).length - i) zP)[(i : Int).toNat]? = some zP := by
      rw [Int.toNat_natCast, List.getElem?_append_right (by omega), e4, Nat.sub_self, List.getElem?_replicate, if_pos (by omega)]
    have hK := hK (i + 1)
    try dsimp only at hK
    rw [htk, ← key, eH] at hK
    clear key eH
    have c1 := fun τ => zrz (.mk wk wn wt wl) (ih _ hm).1 (ih _ hm).2 τ
    generalize upd σ l (.arr 57 5 (prs vl).length (prs (vl.take i) ++ List.replicate ((prs vl).length - i) zP)) = τ at hgl hK ⊢
    generalize prs (vl.take i) ++ List.replicate ((prs vl).length - i) zP = xs at hgl hK hx
    conv => whnf
    repeat' (first | (refine ZC (c1 τ) ?_) | refine Zh ?_ | refine Za ?_ | refine Zj ?_ | refine Zm ?_ | refine Zn ?_ | refine Zo ?_ | refine Zp ?_) <;> try (conv => whnf)
    all_goals
      refine hK _ _ (by omega) (by omega) ?_
      exact ZW
  · have e6 : vl.take i = vl := List.take_of_length_le (by omega)
    rw [e6, show (prs vl).length - i = 0 by omega, List.replicate_zero, List.append_nil]
    conv => whnf
    repeat' (first | refine Zb ?_ | refine Zr ?_) <;> try (conv => whnf)
    all_goals exact ⟨l, _, _, _, _, hl, (Sub.refl σ).upd hl, za _ _ _, rfl, rfl, rfl⟩
def z09 (env : List (Nat × CV)) : List (Nat × CV) := env.map fun p => (p.1, Go.CL.look env p.1)
theorem znv {l : List (Nat × Ob)} {env : List (Nat × CV)} : ∀ (r : List (Nat × CV)), (r.all fun p => CV.only (z32 l) (Go.CL.look env p.1)) = true → EnvLe l l env (r.map fun p => (p.1, Go.CL.look env p.1))
  | [], _ => .nil
  | p :: r, h => by
    rw [List.all_cons, Bool.and_eq_true] at h
    exact .cons _ _ _ (.same _ h.1) (znv r h.2)
theorem LoopN.once {body : Fr → Heap → (Xt → Fr → Heap → Prop) → Prop} {Q : Xt → Fr → Heap → Prop} {fr : Fr} {σ : Heap} (hE : (fr.env.all fun p => CV.only (z32 fr.locs) (Go.CL.look fr.env p.1)) = true) (hL : LocsLe fr.locs fr.locs fr.locs)
    (h : body ⟨fr.n, z09 fr.env, fr.locs⟩ σ (fun e fr σ => match e with
      | .normal => False
      | e => Q e fr σ)) : LoopN body Q fr σ :=
  ⟨⟨1, ⟨fr.n, z09 fr.env, fr.locs⟩, σ, ⟨rfl, znv fr.env hE, hL, Sub.refl _⟩, h⟩⟩
theorem Wk.sub {fr fr' : Fr} {σ τ : Heap} (h : Wk fr τ fr' τ) (hs : Sub σ τ) : Wk fr τ fr' σ := ⟨h.n, h.env, h.locs, hs⟩
theorem zqh {σ : Heap} {a x : Nat} {o : Ob} (h : upd σ a o x = none) : σ x = none := by
  unfold upd at h; split at h
  · cases h
  · exact h
theorem zcj {σ : Heap} {d : Int} : CRun Tryz.prog 103 [i64 d] σ (· = .ret (yd d).cv σ) := by
  refine ZX Tryz.func103 Tryz.ntmps103 ?_
  conv => whnf
  repeat' (first | refine Zr ?_) <;> try (conv => whnf)
  all_goals rfl
theorem zgm {σ : Heap} {d : Int} : CRun Tryz.prog 106 [i64 d] σ (· = .ret (zam d).cv σ) := by
  refine ZX Tryz.func106 Tryz.ntmps106 ?_
  conv => whnf
  repeat' (first | refine Zr ?_) <;> try (conv => whnf)
  all_goals rfl
structure WStat (g : Gr) (given : List Pr) (S : List Stp) (lx ln lu : Nat) (ms : List (MK × Value)) (τ : Heap) : Prop where
  x : τ lx = some (.cells [.vec (nds g.nodes), .vec (eds g.edges), i64 g.nn, i64 g.ne, .map ln, .vec (prs given), .vec (z72 S), .map lu])
  n : τ ln = some (.mp false ms)
  e : ∀ d, (ze (.i d) ms 0 = none ∧ zgu g.edges d = []) ∨ ∃ j l n cap, ze (.i d) ms 0 = some (j, slV l n cap) ∧ n = (zgu g.edges d).length ∧ zgu g.edges d ≠ [] ∧ l ≠ lu ∧ τ l = some (.arr 3 1 cap (qy (zgu g.edges d)))
def UsedI (us : List Int) (m : List (MK × Value)) : Prop := ∀ d : Int, (ze (.i d) m 0 = none ∧ ¬ d ∈ us) ∨ (∃ j, ze (.i d) m 0 = some (j, .int .i64 1) ∧ d ∈ us) ∨ (∃ j, ze (.i d) m 0 = some (j, .int .i64 0) ∧ ¬ d ∈ us)
theorem UsedI.nil : UsedI [] [] := fun d => .inl ⟨rfl, by simp⟩
section
variable {g : Gr} {given : List Pr} {S : List Stp} {lx ln lu : Nat} {ms : List (MK × Value)} {l : Nat} {all : List (List Pr)} {J : List (List Pr) → Heap → Prop} {KP : Heap → Prop}
end
theorem zla (p : Pth) : (zya p).length = p.hops.length + 1 := by simp [zya]
def zfb (ps : List Pth) (i : Nat) : List Stp := (ps.take i).flatMap zya
def zxx (ps : List Pth) (i : Nat) (sp : Sp) (hs : List Hp) (j : Nat) : List Stp := zfb ps i ++ (⟨false, ⟨#[]⟩, ⟨#[]⟩, 0, sp⟩ :: (hs.take j).map z4i)
theorem zuw {ps : List Pth} {i : Nat} {sp : Sp} {hs : List Hp} (h : ps[i]? = some ⟨sp, hs⟩) : zfb ps (i + 1) = zxx ps i sp hs hs.length := by
  unfold zfb zxx
  rw [zpt h, List.take_of_length_le (Nat.le_refl _)]; rfl
theorem z62 {ops : Array Oper} {q : List Nat} {T : Prop} (t : T) (h : zch ops q = true := by kernel_rfl) : Need (zch ops q = true) T := ⟨h, t⟩
section
variable {g : Gr} {given : List Pr} {S : List Stp} {σ τ1 : Heap} {lx ln lu : Nat} {ms : List (MK × Value)}
end
theorem z38 {σ : Heap} {lx : Nat} {row : List Pr} : CRun Tryz.prog 45 [.ptr (.g lx) 0, .vec (prs row)] σ (fun out => ∃ l2 l3 τ, Sub σ τ ∧ τ l2 = some (.cells [.ptr (.g lx) 0]) ∧ τ l3 = some (.cells [.vec (prs row)]) ∧ out = .ret (.fn (.func 76) [] [.ptr (.g l2) 0, .ptr (.g l3) 0]) τ) := by
  refine ZG [2,3] Tryz.func45 Tryz.ntmps45 ?_
  conv => whnf
  repeat' (first | ((have hl2' := hl2; refine AllocN.go (fun l3 hl3 => ?_))) | (refine AllocN.go (fun l2 hl2 => ?_)) | refine Zr ?_) <;> try (conv => whnf)
  all_goals exact ⟨l2, l3, _, ((Sub.refl σ).upd hl2).upd (zqh hl3), zrf (za _ _ _) hl3, za _ _ _, rfl⟩
section
variable {g : Gr} {given : List Pr} {S : List Stp} {lx ln lu : Nat} {ms : List (MK × Value)}
end
end Go.Proofs.YtlamgfimgadnmaaGreat
