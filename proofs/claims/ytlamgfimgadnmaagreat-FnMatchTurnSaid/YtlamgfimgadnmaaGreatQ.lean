/-
  Contracts of the functions that the law reaches.
-/
import Derived.Test.YtlamgfimgadnmaaGreatH
import Derived.Test.YtlamgfimgadnmaaGreatI
import Derived.Test.YtlamgfimgadnmaaGreatO
import Derived.Test.YtlamgfimgadnmaaGreatB
import Derived.Test.YtlamgfimgadnmaaGreatN
import Derived.Test.YtlamgfimgadnmaaGreatD
set_option linter.unusedVariables false
set_option linter.unusedSimpArgs false
namespace Go.Proofs.YtlamgfimgadnmaaGreat
open Go Go.CL
set_option maxRecDepth 10000
structure Stp where
  hop : Bool
  name : ByteArray
  kind : ByteArray
  way : Int
  spot : Sp
def Stp.cv : Stp → CV
  | ⟨h, n, k, w, ⟨sn, sl, ps⟩⟩ => .agg [.sc (.bool h), .sc (.string n), .sc (.string k), i64 w, .sc (.string sn), .sc (.string sl), .vec (pts ps), .vec []]
def stps (l : List Stp) : List CV := l.map Stp.cv
theorem stps_len (l : List Stp) : (stps l).length = l.length := by simp [stps]
def stpH : Hp → Stp
  | ⟨n, k, w, s⟩ => ⟨true, n, k, w, s⟩
def stpsP (p : Pth) : List Stp := ⟨false, ⟨#[]⟩, ⟨#[]⟩, 0, p.spot⟩ :: p.hops.map stpH
def goesF (e : Ed) (d w : Int) (k : ByteArray) : Bool := (decide (k = ⟨#[]⟩) || decide (e.kind = k)) && ((decide (0 ≤ w) && decide (e.src = d)) || (decide (w ≤ 0) && decide (e.dst = d)))
def nodeV (d : Int) : Val := .mk 5 d ⟨#[]⟩ []
def edgeV (d : Int) : Val := .mk 6 d ⟨#[]⟩ []
def bindM (row : List Pr) (s : ByteArray) (v : Val) : List Pr := if s = ⟨#[]⟩ then row else if (lookP row s).isSome then row else row ++ [⟨s, v⟩]
def labB (n : Nd) (l : ByteArray) : Bool := decide (l = ⟨#[]⟩) || hasB n.labels l
def namV (d : Int) : Option Val → Bool
  | some (.mk k m _ _) => decide (k = 5 ∧ m = d)
  | none => false
def namB (d : Int) (s : ByteArray) (row : List Pr) : Bool := decide (s = ⟨#[]⟩) || namV d (lookP row s)
def fitsM (s : Sp) (n : Nd) (row : List Pr) : Bool := namB n.id s.name row && labB n s.label
def farE (e : Ed) (d : Int) : Int := if e.src = d then e.dst else e.src
def nextH (s : Stp) (e : Ed) (n : Nd) (row : List Pr) : List Pr := bindM (bindM row s.name (edgeV e.id)) s.spot.name (nodeV n.id)
def hopM (g : Gr) (s : Stp) (d : Int) (row : List Pr) (us : List Int) (i : Nat) : Option (Int × Int × List Pr) := match g.edges[i]? with
  | none => none
  | some e => if us.contains e.id || !goesF e d s.way s.kind then none else match g.nodes[(placeF (nids g.nodes) (farE e d) 0).toNat]? with
    | none => none
    | some n => if fitsM s.spot n (nextH s e n row) then some (n.id, e.id, nextH s e n row) else none
def waysM (g : Gr) : List Stp → Int → List Pr → List Int → List (List Pr)
  | [], _, row, _ => [row]
  | s :: r, d, row, us => match s.hop with
    | false => g.nodes.flatMap fun n => if fitsM s.spot n (bindM row s.spot.name (nodeV n.id)) then waysM g r n.id (bindM row s.spot.name (nodeV n.id)) us else []
    | true => (besF g.edges d).flatMap fun i => match hopM g s d row us i with
      | some (n, e, next) => waysM g r n next (e :: us)
      | none => []
theorem fm_take {α β : Type} {l : List α} {f : α → List β} {i : Nat} {x : α} (h : l[i]? = some x) : (l.take (i + 1)).flatMap f = (l.take i).flatMap f ++ f x := by
  rw [List.take_add_one, h]; simp
structure RowT (row : List Pr) : Prop where
  l : row.length ≤ 100
  t : ∀ q ∈ row, PrTame q
theorem RowT.nil : RowT [] := ⟨by simp, by simp⟩
theorem bindM_len {row : List Pr} {s : ByteArray} {v : Val} : (bindM row s v).length ≤ row.length + 1 := by
  unfold bindM; split
  · omega
  · split
    · omega
    · simp
theorem idxS_c {σ : Heap} {l : List ByteArray} {s : ByteArray} (hl : l.length ≤ 1000) : CRun Tryz.prog 109 [.vec (strs l), .sc (.string s)] σ (fun out => ∃ k : Int, ((0 ≤ k ∧ hasB l s = true) ∨ (k < 0 ∧ hasB l s = false)) ∧ out = .ret (i64 k) σ) := by
  have e3 : (strs l).length = l.length := by simp [strs]
  refine crun_of (X := X) X_ok X_sat (body := bodyOf Tryz.f109) Tryz.func109 rfl (by kernel_rfl) (by kernel_rfl) ?_
  rw [Tryz.ntmps109]
  conv => whnf
  repeat' (first | refine OrdN.one ?_ | refine Fork.yp ?_ | refine Fork.np ?_ | refine Fork.ny ?_ | refine Fork.nn ?_ | refine Fork.yb ?_ | refine Fork.nb ?_ | refine Fork.dp (fun h => ?_) (fun h => ?_) | refine Fork.dn (fun h => ?_) (fun h => ?_) | (refine Fork.mk (fun h => ?_) (fun h => ?_) <;> simp only [decide_eq_true_eq, decide_eq_false_iff_not, Bool.not_eq_true', Bool.not_eq_false', Bool.or_eq_true, Bool.or_eq_false_iff] at h) | refine GetN.go ?_ | refine Need.ap1 ?_ | refine Need.ap0 ?_ | refine Need.go ?_ | refine Need.draw ?_ | refine ElemN.go ?_ | refine ExtN.ext ?_ | refine ExtN.wr ?_ | refine AllocN.go (fun l hl => ?_) | refine finGo ?_) <;> try (conv => whnf)
  refine LoopN.rule (α := Nat) (fun i => ⟨19, [(0, .vec (strs l)), (1, .sc (.string s)), (4, i64 0), (6, .vec (strs l)), (7, i64 (strs l).length), (8, i64 i)], []⟩)
    (fun _ => σ) (fun i => l.length - i) (fun i => i ≤ l.length ∧ ∀ x ∈ l.take i, ¬ x = s) ?_ 0 ⟨by omega, by simp⟩ ?_
  rotate_left
  · (refine ⟨rfl, ?_, ?_, Sub.refl _⟩ <;> repeat' (first | exact EnvLe.nil | exact LocsLe.nil | refine EnvLe.cons _ _ _ ?_ ?_ | refine LocsLe.cons _ _ _ ?_ ?_ | exact CVle.same _ rfl | exact CVle.vec _ _ | exact CVle.nil | exact CVle.tok _ _ _ rfl rfl | exact ObLe.tok _ _ rfl | exact CVles.nil | refine CVles.cons ?_ ?_ | exact ObLe.same _ rfl rfl | refine ObLe.cells rfl ?_))
  rintro i K ⟨h1, h2⟩ hK
  dsimp only at h1 h2 hK ⊢
  by_cases hi : i < l.length
  · obtain ⟨pn, hm, hg, hg'⟩ := map_at (f := fun s : ByteArray => CV.sc (.string s)) hi
    by_cases he : pn = s
    · have hh : hasB l s = true := hasB_iff.2 (he ▸ hm)
      have he' : s = pn := he.symm
      conv => whnf
      repeat' (first | refine OrdN.one ?_ | refine Fork.yp ?_ | refine Fork.np ?_ | refine Fork.ny ?_ | refine Fork.nn ?_ | refine Fork.yb ?_ | refine Fork.nb ?_ | refine Fork.dp (fun h => ?_) (fun h => ?_) | refine Fork.dn (fun h => ?_) (fun h => ?_) | (refine Fork.mk (fun h => ?_) (fun h => ?_) <;> simp only [decide_eq_true_eq, decide_eq_false_iff_not, Bool.not_eq_true', Bool.not_eq_false', Bool.or_eq_true, Bool.or_eq_false_iff] at h) | refine GetN.go ?_ | refine Need.ap1 ?_ | refine Need.ap0 ?_ | refine Need.go ?_ | refine Need.draw ?_ | refine ElemN.go ?_ | refine ExtN.ext ?_ | refine ExtN.wr ?_ | refine AllocN.go (fun l hl => ?_) | refine finGo ?_) <;> try (conv => whnf)
      all_goals exact ⟨_, .inl ⟨by omega, hh⟩, rfl⟩
    · have he' : ¬ s = pn := fun e => he e.symm
      have h3 : ∀ x ∈ l.take (i + 1), ¬ x = s := fun x hx => by
        rw [List.take_add_one, hg] at hx
        rcases List.mem_append.1 hx with hx | hx
        · exact h2 x hx
        · simp at hx; rw [hx]; exact he
      conv => whnf
      repeat' (first | refine OrdN.one ?_ | refine Fork.yp ?_ | refine Fork.np ?_ | refine Fork.ny ?_ | refine Fork.nn ?_ | refine Fork.yb ?_ | refine Fork.nb ?_ | refine Fork.dp (fun h => ?_) (fun h => ?_) | refine Fork.dn (fun h => ?_) (fun h => ?_) | (refine Fork.mk (fun h => ?_) (fun h => ?_) <;> simp only [decide_eq_true_eq, decide_eq_false_iff_not, Bool.not_eq_true', Bool.not_eq_false', Bool.or_eq_true, Bool.or_eq_false_iff] at h) | refine GetN.go ?_ | refine Need.ap1 ?_ | refine Need.ap0 ?_ | refine Need.go ?_ | refine Need.draw ?_ | refine ElemN.go ?_ | refine ExtN.ext ?_ | refine ExtN.wr ?_ | refine AllocN.go (fun l hl => ?_) | refine finGo ?_) <;> try (conv => whnf)
      all_goals (refine hK (i + 1) _ _ ⟨by omega, h3⟩ (by omega) ?_; (refine ⟨rfl, ?_, ?_, Sub.refl _⟩ <;> repeat' (first | exact EnvLe.nil | exact LocsLe.nil | refine EnvLe.cons _ _ _ ?_ ?_ | refine LocsLe.cons _ _ _ ?_ ?_ | exact CVle.same _ rfl | exact CVle.vec _ _ | exact CVle.nil | exact CVle.tok _ _ _ rfl rfl | exact ObLe.tok _ _ rfl | exact CVles.nil | refine CVles.cons ?_ ?_ | exact ObLe.same _ rfl rfl | refine ObLe.cells rfl ?_)))
  · have hh : hasB l s = false := by
      cases hq : hasB l s with
      | false => rfl
      | true => exact (h2 s (by rw [List.take_of_length_le (by omega)]; exact hasB_iff.1 hq) rfl).elim
    conv => whnf
    repeat' (first | refine OrdN.one ?_ | refine Fork.yp ?_ | refine Fork.np ?_ | refine Fork.ny ?_ | refine Fork.nn ?_ | refine Fork.yb ?_ | refine Fork.nb ?_ | refine Fork.dp (fun h => ?_) (fun h => ?_) | refine Fork.dn (fun h => ?_) (fun h => ?_) | (refine Fork.mk (fun h => ?_) (fun h => ?_) <;> simp only [decide_eq_true_eq, decide_eq_false_iff_not, Bool.not_eq_true', Bool.not_eq_false', Bool.or_eq_true, Bool.or_eq_false_iff] at h) | refine GetN.go ?_ | refine Need.ap1 ?_ | refine Need.ap0 ?_ | refine Need.go ?_ | refine Need.draw ?_ | refine ElemN.go ?_ | refine ExtN.ext ?_ | refine ExtN.wr ?_ | refine AllocN.go (fun l hl => ?_) | refine finGo ?_) <;> try (conv => whnf)
    all_goals exact ⟨_, .inr ⟨by omega, hh⟩, rfl⟩
theorem hasS_c {σ : Heap} {l : List ByteArray} {s : ByteArray} (hl : l.length ≤ 1000) : CRun Tryz.prog 79 [.vec (strs l), .sc (.string s)] σ (· = .ret (.sc (.bool (hasB l s))) σ) := by
  have c1 := idxS_c (σ := σ) (s := s) hl
  refine crun_of (X := X) X_ok X_sat (body := bodyOf Tryz.f79) Tryz.func79 rfl (by kernel_rfl) (by kernel_rfl) ?_
  rw [Tryz.ntmps79]
  conv => whnf
  repeat' (first | ((refine CallN.many c1 ?_; rintro _ ⟨k, (⟨hk, hw⟩ | ⟨hk, hw⟩), rfl⟩)) | refine OrdN.go ?_ | refine Fork.yp ?_ | refine Fork.np ?_ | refine Fork.ny ?_ | refine Fork.nn ?_ | refine Fork.yb ?_ | refine Fork.nb ?_ | refine Fork.dp (fun h => ?_) (fun h => ?_) | refine Fork.dn (fun h => ?_) (fun h => ?_) | (refine Fork.mk (fun h => ?_) (fun h => ?_) <;> simp only [decide_eq_true_eq, decide_eq_false_iff_not, Bool.not_eq_true', Bool.not_eq_false', Bool.or_eq_true, Bool.or_eq_false_iff] at h) | refine GetN.go ?_ | refine Need.ap1 ?_ | refine Need.ap0 ?_ | refine Need.go ?_ | refine Need.draw ?_ | refine ElemN.go ?_ | refine ExtN.ext ?_ | refine ExtN.wr ?_ | refine AllocN.go (fun l hl => ?_) | refine finGo ?_) <;> try (conv => whnf)
  all_goals first
    | (exfalso; omega)
    | exact ansB hw.symm
    | exact ansB hw
theorem hasLabel_c {σ : Heap} {n : Nd} {s : ByteArray} (hl : n.labels.length ≤ 1000) : CRun Tryz.prog 47 [n.cv, .sc (.string s)] σ (· = .ret (.sc (.bool (labB n s))) σ) := by
  have c1 := hasS_c (σ := σ) (s := s) hl
  obtain ⟨d, ls, ps⟩ := n
  dsimp only at hl c1
  unfold labB
  dsimp only
  by_cases h0 : s = ⟨#[]⟩
  · rw [decide_eq_true h0]
    refine crun_of (X := X) X_ok X_sat (body := bodyOf Tryz.f47) Tryz.func47 rfl (by kernel_rfl) (by kernel_rfl) ?_
    rw [Tryz.ntmps47]
    conv => whnf
    repeat' (first | (refine CallN.one c1 ?_) | refine OrdN.one ?_ | refine Fork.yp ?_ | refine Fork.np ?_ | refine Fork.ny ?_ | refine Fork.nn ?_ | refine Fork.yb ?_ | refine Fork.nb ?_ | refine Fork.dp (fun h => ?_) (fun h => ?_) | refine Fork.dn (fun h => ?_) (fun h => ?_) | (refine Fork.mk (fun h => ?_) (fun h => ?_) <;> simp only [decide_eq_true_eq, decide_eq_false_iff_not, Bool.not_eq_true', Bool.not_eq_false', Bool.or_eq_true, Bool.or_eq_false_iff] at h) | refine GetN.go ?_ | refine Need.ap1 ?_ | refine Need.ap0 ?_ | refine Need.go ?_ | refine Need.draw ?_ | refine ElemN.go ?_ | refine ExtN.ext ?_ | refine ExtN.wr ?_ | refine AllocN.go (fun l hl => ?_) | refine finGo ?_) <;> try (conv => whnf)
    all_goals rfl
  · rw [decide_eq_false h0]
    cases hq : hasB ls s <;> rw [hq] at c1
    all_goals
      refine crun_of (X := X) X_ok X_sat (body := bodyOf Tryz.f47) Tryz.func47 rfl (by kernel_rfl) (by kernel_rfl) ?_
      rw [Tryz.ntmps47]
      conv => whnf
      repeat' (first | (refine CallN.one c1 ?_) | refine OrdN.one ?_ | refine Fork.yp ?_ | refine Fork.np ?_ | refine Fork.ny ?_ | refine Fork.nn ?_ | refine Fork.yb ?_ | refine Fork.nb ?_ | refine Fork.dp (fun h => ?_) (fun h => ?_) | refine Fork.dn (fun h => ?_) (fun h => ?_) | (refine Fork.mk (fun h => ?_) (fun h => ?_) <;> simp only [decide_eq_true_eq, decide_eq_false_iff_not, Bool.not_eq_true', Bool.not_eq_false', Bool.or_eq_true, Bool.or_eq_false_iff] at h) | refine GetN.go ?_ | refine Need.ap1 ?_ | refine Need.ap0 ?_ | refine Need.go ?_ | refine Need.draw ?_ | refine ElemN.go ?_ | refine ExtN.ext ?_ | refine ExtN.wr ?_ | refine AllocN.go (fun l hl => ?_) | refine finGo ?_) <;> try (conv => whnf)
      all_goals rfl
theorem goesFrom_x {σ : Heap} {id a b : Int} {kd : ByteArray} {ps : List Pr} {d w : Int} {k : ByteArray} : CRun Tryz.prog 105 [.agg [i64 id, .sc (.string kd), i64 a, i64 b, .vec (prs ps)], i64 d, i64 w, .sc (.string k)] σ (· = .ret (.sc (.bool ((decide (k = ⟨#[]⟩) || decide (kd = k)) && ((decide (0 ≤ w) && decide (a = d)) || (decide (w ≤ 0) && decide (b = d)))))) σ) := by
  by_cases h0 : k = ⟨#[]⟩
  · rw [decide_eq_true h0]
    refine crun_of (X := X) X_ok X_sat (body := bodyOf Tryz.f105) Tryz.func105 rfl (by kernel_rfl) (by kernel_rfl) ?_
    rw [Tryz.ntmps105]
    conv => whnf
    repeat' (first | refine OrdN.one ?_ | refine Fork.yp ?_ | refine Fork.np ?_ | refine Fork.ny ?_ | refine Fork.nn ?_ | refine Fork.yb ?_ | refine Fork.nb ?_ | refine Fork.dp (fun h => ?_) (fun h => ?_) | refine Fork.dn (fun h => ?_) (fun h => ?_) | (refine Fork.mk (fun h => ?_) (fun h => ?_) <;> simp only [decide_eq_true_eq, decide_eq_false_iff_not, Bool.not_eq_true', Bool.not_eq_false', Bool.or_eq_true, Bool.or_eq_false_iff] at h) | refine GetN.go ?_ | refine Need.ap1 ?_ | refine Need.ap0 ?_ | refine Need.go ?_ | refine Need.draw ?_ | refine ElemN.go ?_ | refine ExtN.ext ?_ | refine ExtN.wr ?_ | refine AllocN.go (fun l hl => ?_) | refine finGo ?_) <;> try (conv => whnf)
    all_goals exact ansB (by simp only [Bool.true_or, Bool.true_and, Bool.or_eq_true, Bool.and_eq_true, Bool.or_eq_false_iff, Bool.and_eq_false_iff, decide_eq_true_eq, decide_eq_false_iff_not]; omega)
  · rw [decide_eq_false h0]
    by_cases h1 : kd = k
    · rw [decide_eq_true h1]
      refine crun_of (X := X) X_ok X_sat (body := bodyOf Tryz.f105) Tryz.func105 rfl (by kernel_rfl) (by kernel_rfl) ?_
      rw [Tryz.ntmps105]
      conv => whnf
      repeat' (first | refine OrdN.one ?_ | refine Fork.yp ?_ | refine Fork.np ?_ | refine Fork.ny ?_ | refine Fork.nn ?_ | refine Fork.yb ?_ | refine Fork.nb ?_ | refine Fork.dp (fun h => ?_) (fun h => ?_) | refine Fork.dn (fun h => ?_) (fun h => ?_) | (refine Fork.mk (fun h => ?_) (fun h => ?_) <;> simp only [decide_eq_true_eq, decide_eq_false_iff_not, Bool.not_eq_true', Bool.not_eq_false', Bool.or_eq_true, Bool.or_eq_false_iff] at h) | refine GetN.go ?_ | refine Need.ap1 ?_ | refine Need.ap0 ?_ | refine Need.go ?_ | refine Need.draw ?_ | refine ElemN.go ?_ | refine ExtN.ext ?_ | refine ExtN.wr ?_ | refine AllocN.go (fun l hl => ?_) | refine finGo ?_) <;> try (conv => whnf)
      all_goals exact ansB (by simp only [Bool.false_or, Bool.true_and, Bool.or_eq_true, Bool.and_eq_true, Bool.or_eq_false_iff, Bool.and_eq_false_iff, decide_eq_true_eq, decide_eq_false_iff_not]; omega)
    · rw [decide_eq_false h1]
      refine crun_of (X := X) X_ok X_sat (body := bodyOf Tryz.f105) Tryz.func105 rfl (by kernel_rfl) (by kernel_rfl) ?_
      rw [Tryz.ntmps105]
      conv => whnf
      repeat' (first | refine OrdN.one ?_ | refine Fork.yp ?_ | refine Fork.np ?_ | refine Fork.ny ?_ | refine Fork.nn ?_ | refine Fork.yb ?_ | refine Fork.nb ?_ | refine Fork.dp (fun h => ?_) (fun h => ?_) | refine Fork.dn (fun h => ?_) (fun h => ?_) | (refine Fork.mk (fun h => ?_) (fun h => ?_) <;> simp only [decide_eq_true_eq, decide_eq_false_iff_not, Bool.not_eq_true', Bool.not_eq_false', Bool.or_eq_true, Bool.or_eq_false_iff] at h) | refine GetN.go ?_ | refine Need.ap1 ?_ | refine Need.ap0 ?_ | refine Need.go ?_ | refine Need.draw ?_ | refine ElemN.go ?_ | refine ExtN.ext ?_ | refine ExtN.wr ?_ | refine AllocN.go (fun l hl => ?_) | refine finGo ?_) <;> try (conv => whnf)
      all_goals rfl
theorem prs_snoc (l : List Pr) (p : Pr) : prs (l ++ [p]) = prs l ++ [p.cv] := by simp [prs]
theorem els_prs (l : List Pr) : ElsOk 5 (prs l) := fun x hx => by
  obtain ⟨⟨s, ⟨k, n, t, v⟩⟩, _, rfl⟩ := List.mem_map.1 hx
  exact ⟨rfl, rfl⟩
def zP : CV := .agg [.sc (.string ⟨#[]⟩), i64 0, i64 0, .sc (.string ⟨#[]⟩), .vec []]
def FrzA (T sz : Nat) (σ : Heap) (ys : List CV) (out : COut) : Prop := ∃ l n cap xs τ, σ l = none ∧ Sub σ τ ∧ τ l = some (.arr T sz cap xs) ∧ n = xs.length ∧ xs = ys ∧ out = .ret (.grow l n cap) τ
theorem frzA {f : FuncId} {args : List CV} {T sz : Nat} {σ : Heap} {ys : List CV} (hs : CRun Tryz.prog f args σ (FrzA T sz σ ys)) : CRun Tryz.prog f args σ (· = .ret (.vec ys) σ) := by
  refine hs.freeze fun out ⟨l, n, cap, xs, τ, hl, hsub, hg, hn, hx, e⟩ => ?_
  subst e; subst hn; subst hx
  refine ⟨.ret (.vec xs) σ, ⟨hsub, [l], .inl (.one ?_), fun l' h' => by rw [List.mem_singleton.1 h']; exact hl⟩, rfl⟩
  have := Frz.grow (σ := τ) l xs.length cap _ _ _ hg (Nat.le_refl _)
  rwa [List.take_of_length_le (Nat.le_refl _)] at this
theorem bind_arr {row : List Pr} {p : Pr} {n k : Nat} {z : CV} (hn : n = (prs row).length) (hk : k = n + 1) :
    (prs row ++ (List.replicate n z).drop (prs row).length).take n ++ [p.cv] ++ (prs row ++ (List.replicate n z).drop (prs row).length).drop k = prs (row ++ [p]) := by
  subst hn hk
  rw [List.drop_eq_nil_of_le (by simp), List.append_nil, List.take_of_length_le (Nat.le_refl _), List.drop_eq_nil_of_le (by omega), List.append_nil, prs_snoc]
theorem bind_c {σ : Heap} {row : List Pr} {s : ByteArray} {v : Val} (hl : row.length ≤ 900) : CRun Tryz.prog 102 [.vec (prs row), .sc (.string s), v.cv] σ (· = .ret (.vec (prs (bindM row s v))) σ) := by
  have c1 := lookUp_c (σ := σ) (l := row) (s := s) (by omega)
  have e3 := prs_len row
  obtain ⟨vk, vn, vt, vl⟩ := v
  by_cases h0 : s = ⟨#[]⟩
  · have e : bindM row s (.mk vk vn vt vl) = row := if_pos h0
    rw [e]
    refine crun_of (X := X) X_ok X_sat (body := bodyOf Tryz.f102) Tryz.func102 rfl (by kernel_rfl) (by kernel_rfl) ?_
    rw [Tryz.ntmps102]
    conv => whnf
    repeat' (first | refine OrdN.one ?_ | refine Fork.yp ?_ | refine Fork.np ?_ | refine Fork.ny ?_ | refine Fork.nn ?_ | refine Fork.yb ?_ | refine Fork.nb ?_ | refine Fork.dp (fun h => ?_) (fun h => ?_) | refine Fork.dn (fun h => ?_) (fun h => ?_) | (refine Fork.mk (fun h => ?_) (fun h => ?_) <;> simp only [decide_eq_true_eq, decide_eq_false_iff_not, Bool.not_eq_true', Bool.not_eq_false', Bool.or_eq_true, Bool.or_eq_false_iff] at h) | refine GetN.go ?_ | refine Need.ap1 ?_ | refine Need.ap0 ?_ | refine Need.go ?_ | refine Need.draw ?_ | refine ElemN.go ?_ | refine ExtN.ext ?_ | refine ExtN.wr ?_ | refine AllocN.go (fun l hl => ?_) | refine finGo ?_) <;> try (conv => whnf)
    all_goals rfl
  cases hq : lookP row s with
  | some w =>
    have e : bindM row s (.mk vk vn vt vl) = row := by unfold bindM; rw [if_neg h0, hq]; rfl
    rw [e]
    rw [hq] at c1
    obtain ⟨wk, wn, wt, wl⟩ := w
    refine crun_of (X := X) X_ok X_sat (body := bodyOf Tryz.f102) Tryz.func102 rfl (by kernel_rfl) (by kernel_rfl) ?_
    rw [Tryz.ntmps102]
    conv => whnf
    repeat' (first | (refine CallN.one c1 ?_) | refine OrdN.one ?_ | refine Fork.yp ?_ | refine Fork.np ?_ | refine Fork.ny ?_ | refine Fork.nn ?_ | refine Fork.yb ?_ | refine Fork.nb ?_ | refine Fork.dp (fun h => ?_) (fun h => ?_) | refine Fork.dn (fun h => ?_) (fun h => ?_) | (refine Fork.mk (fun h => ?_) (fun h => ?_) <;> simp only [decide_eq_true_eq, decide_eq_false_iff_not, Bool.not_eq_true', Bool.not_eq_false', Bool.or_eq_true, Bool.or_eq_false_iff] at h) | refine GetN.go ?_ | refine Need.ap1 ?_ | refine Need.ap0 ?_ | refine Need.go ?_ | refine Need.draw ?_ | refine ElemN.go ?_ | refine ExtN.ext ?_ | refine ExtN.wr ?_ | refine AllocN.go (fun l hl => ?_) | refine finGo ?_) <;> try (conv => whnf)
    all_goals rfl
  | none =>
    have e : bindM row s (.mk vk vn vt vl) = row ++ [⟨s, .mk vk vn vt vl⟩] := by unfold bindM; rw [if_neg h0, hq]; rfl
    rw [e]
    rw [hq] at c1
    refine frzA (T := 57) (sz := 5) ?_
    by_cases hr : row = []
    · subst hr
      refine crun_of (X := G [26]) (G_ok _) (G_sat _) (body := bodyOf Tryz.f102) Tryz.func102 rfl (by kernel_rfl) (by kernel_rfl) ?_
      rw [Tryz.ntmps102]
      conv => whnf
      repeat' (first | (refine CallN.one c1 ?_) | (refine AllocN.go (fun lx hlx => ?_)) | (refine Need.go ?_ (h := ⟨rfl, Nat.le_of_ble_eq_true rfl, Nat.le_of_ble_eq_true rfl, Nat.le_of_ble_eq_true rfl, ElsOk.one rfl rfl⟩)) | refine OrdN.one ?_ | refine Fork.yp ?_ | refine Fork.np ?_ | refine Fork.ny ?_ | refine Fork.nn ?_ | refine Fork.yb ?_ | refine Fork.nb ?_ | refine Fork.dp (fun h => ?_) (fun h => ?_) | refine Fork.dn (fun h => ?_) (fun h => ?_) | (refine Fork.mk (fun h => ?_) (fun h => ?_) <;> simp only [decide_eq_true_eq, decide_eq_false_iff_not, Bool.not_eq_true', Bool.not_eq_false', Bool.or_eq_true, Bool.or_eq_false_iff] at h) | refine GetN.go ?_ | refine Need.ap1 ?_ | refine Need.ap0 ?_ | refine Need.go ?_ | refine Need.draw ?_ | refine ElemN.go ?_ | refine ExtN.ext ?_ | refine ExtN.wr ?_ | refine AllocN.go (fun l hl => ?_) | refine finGo ?_) <;> try (conv => whnf)
      all_goals exact ⟨lx, _, _, _, _, hlx, ((Sub.refl σ).upd hlx).upd hlx, upd_same _ _ _, rfl, rfl, rfl⟩
    · have hp : 1 ≤ (prs row).length := by rw [e3]; exact List.length_pos_iff.2 hr
      have hem : (prs row).isEmpty = false := by cases hq : prs row with | nil => rw [hq] at hp; simp at hp | cons a b => rfl
      refine crun_of (X := G [26]) (G_ok _) (G_sat _) (body := bodyOf Tryz.f102) Tryz.func102 rfl (by kernel_rfl) (by kernel_rfl) ?_
      rw [Tryz.ntmps102]
      conv => whnf
      repeat' (first | (refine CallN.one c1 ?_) | (refine AllocN.go (fun lx hlx => ?_)) | (refine Need.go ?_ (h := ⟨rfl, Nat.le_refl _, Nat.le_of_eq (by simp), els_prs _⟩)) | (refine Need.go ?_ (h := ⟨rfl, by simp, by show ((prs row).length + 1) * 72 ≤ 140737488355328; omega, by show (prs row).length + 1 ≤ 9223372036854775807; omega, ElsOk.one rfl rfl⟩)) | (refine Fork.yp ?_ (h := by simp only [List.length_cons, List.length_nil]; omega)) | refine OrdN.one ?_ | refine Fork.yp ?_ | refine Fork.np ?_ | refine Fork.ny ?_ | refine Fork.nn ?_ | refine Fork.yb ?_ | refine Fork.nb ?_ | refine Fork.dp (fun h => ?_) (fun h => ?_) | refine Fork.dn (fun h => ?_) (fun h => ?_) | (refine Fork.mk (fun h => ?_) (fun h => ?_) <;> simp only [decide_eq_true_eq, decide_eq_false_iff_not, Bool.not_eq_true', Bool.not_eq_false', Bool.or_eq_true, Bool.or_eq_false_iff] at h) | refine GetN.go ?_ | refine Need.ap1 ?_ | refine Need.ap0 ?_ | refine Need.go ?_ | refine Need.draw ?_ | refine ElemN.go ?_ | refine ExtN.ext ?_ | refine ExtN.wr ?_ | refine AllocN.go (fun l hl => ?_) | refine finGo ?_) <;> try (conv => whnf)
      all_goals exact ⟨lx, _, _, _, _, hlx, (((Sub.refl σ).upd hlx).upd hlx).upd hlx, upd_same _ _ _, by rw [bind_arr rfl rfl]; simp [prs], bind_arr rfl rfl, rfl⟩
theorem cloneCells_c {σ : Heap} {vl : List Pr} (ih : ∀ q ∈ vl, Tame q.val ∧ okV 3 q.val = true) (hlen : vl.length ≤ 100) : CRun Tryz.prog 46 [.vec (prs vl)] σ (· = .ret (.vec (prs vl)) σ) := by
  have e3 := prs_len vl
  by_cases hz : vl = []
  · subst hz
    refine crun_of (X := X) X_ok X_sat (body := bodyOf Tryz.f46) Tryz.func46 rfl (by kernel_rfl) (by kernel_rfl) ?_
    rw [Tryz.ntmps46]
    conv => whnf
    repeat' (first | refine OrdN.one ?_ | refine Fork.yp ?_ | refine Fork.np ?_ | refine Fork.ny ?_ | refine Fork.nn ?_ | refine Fork.yb ?_ | refine Fork.nb ?_ | refine Fork.dp (fun h => ?_) (fun h => ?_) | refine Fork.dn (fun h => ?_) (fun h => ?_) | (refine Fork.mk (fun h => ?_) (fun h => ?_) <;> simp only [decide_eq_true_eq, decide_eq_false_iff_not, Bool.not_eq_true', Bool.not_eq_false', Bool.or_eq_true, Bool.or_eq_false_iff] at h) | refine GetN.go ?_ | refine Need.ap1 ?_ | refine Need.ap0 ?_ | refine Need.go ?_ | refine Need.draw ?_ | refine ElemN.go ?_ | refine ExtN.ext ?_ | refine ExtN.wr ?_ | refine AllocN.go (fun l hl => ?_) | refine finGo ?_) <;> try (conv => whnf)
    all_goals rfl
  have hpos : ¬ vl.length = 0 := fun e => hz (List.eq_nil_of_length_eq_zero e)
  refine frzA (T := 57) (sz := 5) ?_
  refine crun_of (X := G [11]) (G_ok _) (G_sat _) (body := bodyOf Tryz.f46) Tryz.func46 rfl (by kernel_rfl) (by kernel_rfl) ?_
  rw [Tryz.ntmps46]
  conv => whnf
  repeat' (first | (refine AllocN.go (fun l hl => ?_)) | refine OrdN.one ?_ | refine Fork.yp ?_ | refine Fork.np ?_ | refine Fork.ny ?_ | refine Fork.nn ?_ | refine Fork.yb ?_ | refine Fork.nb ?_ | refine Fork.dp (fun h => ?_) (fun h => ?_) | refine Fork.dn (fun h => ?_) (fun h => ?_) | (refine Fork.mk (fun h => ?_) (fun h => ?_) <;> simp only [decide_eq_true_eq, decide_eq_false_iff_not, Bool.not_eq_true', Bool.not_eq_false', Bool.or_eq_true, Bool.or_eq_false_iff] at h) | refine GetN.go ?_ | refine Need.ap1 ?_ | refine Need.ap0 ?_ | refine Need.go ?_ | refine Need.draw ?_ | refine ElemN.go ?_ | refine ExtN.ext ?_ | refine ExtN.wr ?_ | refine AllocN.go (fun l hl => ?_) | refine finGo ?_) <;> try (conv => whnf)
  refine LoopN.rule (α := Nat) (fun i => ⟨30, [(2, .nil), (3, .grow l (prs vl).length (prs vl).length), (12, .vec (prs vl)), (13, i64 (prs vl).length), (14, i64 i)], []⟩)
    (fun i => upd σ l (.arr 57 5 (prs vl).length (prs (vl.take i) ++ List.replicate ((prs vl).length - i) zP))) (fun i => vl.length - i) (fun i => i ≤ vl.length) ?_ 0 (by omega) ?_
  rotate_left
  · (refine ⟨rfl, ?_, ?_, Sub.refl _⟩ <;> repeat' (first | exact EnvLe.nil | exact LocsLe.nil | refine EnvLe.cons _ _ _ ?_ ?_ | refine LocsLe.cons _ _ _ ?_ ?_ | exact CVle.same _ rfl | exact CVle.vec _ _ | exact CVle.nil | exact CVle.tok _ _ _ rfl rfl | exact ObLe.tok _ _ rfl | exact CVles.nil | refine CVles.cons ?_ ?_ | exact ObLe.same _ rfl rfl | refine ObLe.cells rfl ?_))
  intro i K hi0 hK
  try dsimp only at hi0 ⊢
  have hgl : (upd σ l (.arr 57 5 (prs vl).length (prs (vl.take i) ++ List.replicate ((prs vl).length - i) zP))) l = some (.arr 57 5 (prs vl).length (prs (vl.take i) ++ List.replicate ((prs vl).length - i) zP)) := upd_same _ _ _
  have eH : ∀ B, upd σ l B = upd (upd σ l (.arr 57 5 (prs vl).length (prs (vl.take i) ++ List.replicate ((prs vl).length - i) zP))) l B := fun B => (upd_upd _ _ _ _).symm
  have e4 := prs_len (vl.take i)
  rw [List.length_take, Nat.min_eq_left hi0] at e4
  by_cases hi : i < vl.length
  · obtain ⟨ws, wk, wn, wt, wl, hm, hg, hg'⟩ := prs_at hi
    have htk : prs (vl.take (i + 1)) = prs (vl.take i) ++ [Pr.cv ⟨ws, .mk wk wn wt wl⟩] := by rw [List.take_add_one, hg]; exact prs_snoc _ _
    have key := set_step (prs (vl.take i)) (Pr.cv ⟨ws, .mk wk wn wt wl⟩) zP ((prs vl).length - (i + 1))
    rw [show (prs vl).length - (i + 1) + 1 = (prs vl).length - i by omega, e4] at key
    have hx : (prs (vl.take i) ++ List.replicate ((prs vl).length - i) zP)[(i : Int).toNat]? = some zP := by
      rw [Int.toNat_natCast, List.getElem?_append_right (by omega), e4, Nat.sub_self, List.getElem?_replicate, if_pos (by omega)]
    have hK := hK (i + 1)
    try dsimp only at hK
    rw [htk, ← key, eH] at hK
    clear key eH
    have c1 := fun τ => cloneV_c (.mk wk wn wt wl) (ih _ hm).1 (ih _ hm).2 τ
    generalize upd σ l (.arr 57 5 (prs vl).length (prs (vl.take i) ++ List.replicate ((prs vl).length - i) zP)) = τ at hgl hK ⊢
    generalize prs (vl.take i) ++ List.replicate ((prs vl).length - i) zP = xs at hgl hK hx
    conv => whnf
    repeat' (first | (refine CallN.one (c1 τ) ?_) | refine OrdN.one ?_ | refine Fork.yp ?_ | refine Fork.np ?_ | refine Fork.ny ?_ | refine Fork.nn ?_ | refine Fork.yb ?_ | refine Fork.nb ?_ | refine Fork.dp (fun h => ?_) (fun h => ?_) | refine Fork.dn (fun h => ?_) (fun h => ?_) | (refine Fork.mk (fun h => ?_) (fun h => ?_) <;> simp only [decide_eq_true_eq, decide_eq_false_iff_not, Bool.not_eq_true', Bool.not_eq_false', Bool.or_eq_true, Bool.or_eq_false_iff] at h) | refine GetN.go ?_ | refine Need.ap1 ?_ | refine Need.ap0 ?_ | refine Need.go ?_ | refine Need.draw ?_ | refine ElemN.go ?_ | refine ExtN.ext ?_ | refine ExtN.wr ?_ | refine AllocN.go (fun l hl => ?_) | refine finGo ?_) <;> try (conv => whnf)
    all_goals
      refine hK _ _ (by omega) (by omega) ?_
      (refine ⟨rfl, ?_, ?_, Sub.refl _⟩ <;> repeat' (first | exact EnvLe.nil | exact LocsLe.nil | refine EnvLe.cons _ _ _ ?_ ?_ | refine LocsLe.cons _ _ _ ?_ ?_ | exact CVle.same _ rfl | exact CVle.vec _ _ | exact CVle.nil | exact CVle.tok _ _ _ rfl rfl | exact ObLe.tok _ _ rfl | exact CVles.nil | refine CVles.cons ?_ ?_ | exact ObLe.same _ rfl rfl | refine ObLe.cells rfl ?_))
  · have e6 : vl.take i = vl := List.take_of_length_le (by omega)
    rw [e6, show (prs vl).length - i = 0 by omega, List.replicate_zero, List.append_nil]
    conv => whnf
    repeat' (first | refine OrdN.one ?_ | refine Fork.yp ?_ | refine Fork.np ?_ | refine Fork.ny ?_ | refine Fork.nn ?_ | refine Fork.yb ?_ | refine Fork.nb ?_ | refine Fork.dp (fun h => ?_) (fun h => ?_) | refine Fork.dn (fun h => ?_) (fun h => ?_) | (refine Fork.mk (fun h => ?_) (fun h => ?_) <;> simp only [decide_eq_true_eq, decide_eq_false_iff_not, Bool.not_eq_true', Bool.not_eq_false', Bool.or_eq_true, Bool.or_eq_false_iff] at h) | refine GetN.go ?_ | refine Need.ap1 ?_ | refine Need.ap0 ?_ | refine Need.go ?_ | refine Need.draw ?_ | refine ElemN.go ?_ | refine ExtN.ext ?_ | refine ExtN.wr ?_ | refine AllocN.go (fun l hl => ?_) | refine finGo ?_) <;> try (conv => whnf)
    all_goals exact ⟨l, _, _, _, _, hl, (Sub.refl σ).upd hl, upd_same _ _ _, rfl, rfl, rfl⟩
def cleanE (env : List (Nat × CV)) : List (Nat × CV) := env.map fun p => (p.1, Go.CL.look env p.1)
theorem cleanE_le {l : List (Nat × Ob)} {env : List (Nat × CV)} : ∀ (r : List (Nat × CV)), (r.all fun p => CV.only (hasO l) (Go.CL.look env p.1)) = true → EnvLe l l env (r.map fun p => (p.1, Go.CL.look env p.1))
  | [], _ => .nil
  | p :: r, h => by
    rw [List.all_cons, Bool.and_eq_true] at h
    exact .cons _ _ _ (.same _ h.1) (cleanE_le r h.2)
theorem LoopN.once {body : Fr → Heap → (Xt → Fr → Heap → Prop) → Prop} {Q : Xt → Fr → Heap → Prop} {fr : Fr} {σ : Heap} (hE : (fr.env.all fun p => CV.only (hasO fr.locs) (Go.CL.look fr.env p.1)) = true) (hL : LocsLe fr.locs fr.locs fr.locs)
    (h : body ⟨fr.n, cleanE fr.env, fr.locs⟩ σ (fun e fr σ => match e with
      | .normal => False
      | e => Q e fr σ)) : LoopN body Q fr σ :=
  ⟨⟨1, ⟨fr.n, cleanE fr.env, fr.locs⟩, σ, ⟨rfl, cleanE_le fr.env hE, hL, Sub.refl _⟩, h⟩⟩
theorem Wk.sub {fr fr' : Fr} {σ τ : Heap} (h : Wk fr τ fr' τ) (hs : Sub σ τ) : Wk fr τ fr' σ := ⟨h.n, h.env, h.locs, hs⟩
theorem un_upd {σ : Heap} {a x : Nat} {o : Ob} (h : upd σ a o x = none) : σ x = none := by
  unfold upd at h; split at h
  · cases h
  · exact h
theorem nodeValue_c {σ : Heap} {d : Int} : CRun Tryz.prog 103 [i64 d] σ (· = .ret (nodeV d).cv σ) := by
  refine crun_of (X := X) X_ok X_sat (body := bodyOf Tryz.f103) Tryz.func103 rfl (by kernel_rfl) (by kernel_rfl) ?_
  rw [Tryz.ntmps103]
  conv => whnf
  repeat' (first | refine OrdN.one ?_ | refine Fork.yp ?_ | refine Fork.np ?_ | refine Fork.ny ?_ | refine Fork.nn ?_ | refine Fork.yb ?_ | refine Fork.nb ?_ | refine Fork.dp (fun h => ?_) (fun h => ?_) | refine Fork.dn (fun h => ?_) (fun h => ?_) | (refine Fork.mk (fun h => ?_) (fun h => ?_) <;> simp only [decide_eq_true_eq, decide_eq_false_iff_not, Bool.not_eq_true', Bool.not_eq_false', Bool.or_eq_true, Bool.or_eq_false_iff] at h) | refine GetN.go ?_ | refine Need.ap1 ?_ | refine Need.ap0 ?_ | refine Need.go ?_ | refine Need.draw ?_ | refine ElemN.go ?_ | refine ExtN.ext ?_ | refine ExtN.wr ?_ | refine AllocN.go (fun l hl => ?_) | refine finGo ?_) <;> try (conv => whnf)
  all_goals rfl
theorem edgeValue_c {σ : Heap} {d : Int} : CRun Tryz.prog 106 [i64 d] σ (· = .ret (edgeV d).cv σ) := by
  refine crun_of (X := X) X_ok X_sat (body := bodyOf Tryz.f106) Tryz.func106 rfl (by kernel_rfl) (by kernel_rfl) ?_
  rw [Tryz.ntmps106]
  conv => whnf
  repeat' (first | refine OrdN.one ?_ | refine Fork.yp ?_ | refine Fork.np ?_ | refine Fork.ny ?_ | refine Fork.nn ?_ | refine Fork.yb ?_ | refine Fork.nb ?_ | refine Fork.dp (fun h => ?_) (fun h => ?_) | refine Fork.dn (fun h => ?_) (fun h => ?_) | (refine Fork.mk (fun h => ?_) (fun h => ?_) <;> simp only [decide_eq_true_eq, decide_eq_false_iff_not, Bool.not_eq_true', Bool.not_eq_false', Bool.or_eq_true, Bool.or_eq_false_iff] at h) | refine GetN.go ?_ | refine Need.ap1 ?_ | refine Need.ap0 ?_ | refine Need.go ?_ | refine Need.draw ?_ | refine ElemN.go ?_ | refine ExtN.ext ?_ | refine ExtN.wr ?_ | refine AllocN.go (fun l hl => ?_) | refine finGo ?_) <;> try (conv => whnf)
  all_goals rfl
theorem stepOf_c {σ : Heap} {sn sl : ByteArray} : CRun Tryz.prog 101 [.agg [.sc (.string sn), .sc (.string sl), .vec []]] σ (· = .ret (.agg [.sc (.bool false), .sc (.string ⟨#[]⟩), .sc (.string ⟨#[]⟩), i64 0, .sc (.string sn), .sc (.string sl), .vec [], .vec []]) σ) := by
  refine crun_of (X := X) X_ok X_sat (body := bodyOf Tryz.f101) Tryz.func101 rfl (by kernel_rfl) (by kernel_rfl) ?_
  rw [Tryz.ntmps101]
  conv => whnf
  repeat' (first | (refine LoopN.once (by rfl) (by repeat' (first | exact LocsLe.nil | refine LocsLe.cons _ _ _ ?_ ?_ | exact ObLe.same _ rfl rfl)) ?_) | refine OrdN.one ?_ | refine Fork.yp ?_ | refine Fork.np ?_ | refine Fork.ny ?_ | refine Fork.nn ?_ | refine Fork.yb ?_ | refine Fork.nb ?_ | refine Fork.dp (fun h => ?_) (fun h => ?_) | refine Fork.dn (fun h => ?_) (fun h => ?_) | (refine Fork.mk (fun h => ?_) (fun h => ?_) <;> simp only [decide_eq_true_eq, decide_eq_false_iff_not, Bool.not_eq_true', Bool.not_eq_false', Bool.or_eq_true, Bool.or_eq_false_iff] at h) | refine GetN.go ?_ | refine Need.ap1 ?_ | refine Need.ap0 ?_ | refine Need.go ?_ | refine Need.draw ?_ | refine ElemN.go ?_ | refine ExtN.ext ?_ | refine ExtN.wr ?_ | refine AllocN.go (fun l hl => ?_) | refine finGo ?_) <;> try (conv => whnf)
  all_goals rfl
theorem mfits_c {σ : Heap} {lx : Nat} {s : Stp} {n : Nd} {row : List Pr} (hp : s.spot.props = []) (hl : row.length ≤ 1000) (hn : n.labels.length ≤ 1000) : CRun Tryz.prog 104 [.ptr (.g lx) 0, s.cv, n.cv, .vec (prs row)] σ (· = .ret (.sc (.bool (fitsM s.spot n row))) σ) := by
  have c1 := lookUp_c (σ := σ) (l := row) (s := s.spot.name) hl
  have c2 := hasLabel_c (σ := σ) (n := n) (s := s.spot.label) hn
  obtain ⟨h, nm, kd, w, ⟨sn, sl, ps⟩⟩ := s
  obtain ⟨d, ls, nps⟩ := n
  dsimp only at hp c1 c2
  subst hp
  have e : fitsM ⟨sn, sl, []⟩ ⟨d, ls, nps⟩ row = (namB d sn row && labB ⟨d, ls, nps⟩ sl) := rfl
  rw [e]
  clear e
  by_cases h0 : sn = ⟨#[]⟩
  · have e2 : namB d sn row = true := by unfold namB; rw [decide_eq_true h0]; rfl
    rw [e2, Bool.true_and]
    cases hb : labB ⟨d, ls, nps⟩ sl <;> rw [hb] at c2
    all_goals
      refine crun_of (X := X) X_ok X_sat (body := bodyOf Tryz.f104) Tryz.func104 rfl (by kernel_rfl) (by kernel_rfl) ?_
      rw [Tryz.ntmps104]
      conv => whnf
      repeat' (first | (refine CallN.one c2 ?_) | (refine LoopN.once (by rfl) (by repeat' (first | exact LocsLe.nil | refine LocsLe.cons _ _ _ ?_ ?_ | exact ObLe.same _ rfl rfl)) ?_) | refine OrdN.one ?_ | refine Fork.yp ?_ | refine Fork.np ?_ | refine Fork.ny ?_ | refine Fork.nn ?_ | refine Fork.yb ?_ | refine Fork.nb ?_ | refine Fork.dp (fun h => ?_) (fun h => ?_) | refine Fork.dn (fun h => ?_) (fun h => ?_) | (refine Fork.mk (fun h => ?_) (fun h => ?_) <;> simp only [decide_eq_true_eq, decide_eq_false_iff_not, Bool.not_eq_true', Bool.not_eq_false', Bool.or_eq_true, Bool.or_eq_false_iff] at h) | refine GetN.go ?_ | refine Need.ap1 ?_ | refine Need.ap0 ?_ | refine Need.go ?_ | refine Need.draw ?_ | refine ElemN.go ?_ | refine ExtN.ext ?_ | refine ExtN.wr ?_ | refine AllocN.go (fun l hl => ?_) | refine finGo ?_) <;> try (conv => whnf)
      all_goals rfl
  · have e2 : namB d sn row = namV d (lookP row sn) := by unfold namB; rw [decide_eq_false h0]; rfl
    rw [e2]
    clear e2
    cases hq : lookP row sn with
    | none =>
      rw [hq] at c1
      refine crun_of (X := X) X_ok X_sat (body := bodyOf Tryz.f104) Tryz.func104 rfl (by kernel_rfl) (by kernel_rfl) ?_
      rw [Tryz.ntmps104]
      conv => whnf
      repeat' (first | (refine CallN.one c1 ?_) | refine OrdN.one ?_ | refine Fork.yp ?_ | refine Fork.np ?_ | refine Fork.ny ?_ | refine Fork.nn ?_ | refine Fork.yb ?_ | refine Fork.nb ?_ | refine Fork.dp (fun h => ?_) (fun h => ?_) | refine Fork.dn (fun h => ?_) (fun h => ?_) | (refine Fork.mk (fun h => ?_) (fun h => ?_) <;> simp only [decide_eq_true_eq, decide_eq_false_iff_not, Bool.not_eq_true', Bool.not_eq_false', Bool.or_eq_true, Bool.or_eq_false_iff] at h) | refine GetN.go ?_ | refine Need.ap1 ?_ | refine Need.ap0 ?_ | refine Need.go ?_ | refine Need.draw ?_ | refine ElemN.go ?_ | refine ExtN.ext ?_ | refine ExtN.wr ?_ | refine AllocN.go (fun l hl => ?_) | refine finGo ?_) <;> try (conv => whnf)
      all_goals rfl
    | some v =>
      obtain ⟨vk, vn, vt, vl⟩ := v
      rw [hq] at c1
      by_cases hk : vk = 5 ∧ vn = d
      · rw [show namV d (some (.mk vk vn vt vl)) = true from decide_eq_true hk, Bool.true_and]
        obtain ⟨hk1, hk2⟩ := hk
        cases hb : labB ⟨d, ls, nps⟩ sl <;> rw [hb] at c2
        all_goals
          refine crun_of (X := X) X_ok X_sat (body := bodyOf Tryz.f104) Tryz.func104 rfl (by kernel_rfl) (by kernel_rfl) ?_
          rw [Tryz.ntmps104]
          conv => whnf
          repeat' (first | (refine CallN.one c1 ?_) | (refine CallN.one c2 ?_) | (refine LoopN.once (by rfl) (by repeat' (first | exact LocsLe.nil | refine LocsLe.cons _ _ _ ?_ ?_ | exact ObLe.same _ rfl rfl)) ?_) | refine OrdN.one ?_ | refine Fork.yp ?_ | refine Fork.np ?_ | refine Fork.ny ?_ | refine Fork.nn ?_ | refine Fork.yb ?_ | refine Fork.nb ?_ | refine Fork.dp (fun h => ?_) (fun h => ?_) | refine Fork.dn (fun h => ?_) (fun h => ?_) | (refine Fork.mk (fun h => ?_) (fun h => ?_) <;> simp only [decide_eq_true_eq, decide_eq_false_iff_not, Bool.not_eq_true', Bool.not_eq_false', Bool.or_eq_true, Bool.or_eq_false_iff] at h) | refine GetN.go ?_ | refine Need.ap1 ?_ | refine Need.ap0 ?_ | refine Need.go ?_ | refine Need.draw ?_ | refine ElemN.go ?_ | refine ExtN.ext ?_ | refine ExtN.wr ?_ | refine AllocN.go (fun l hl => ?_) | refine finGo ?_) <;> try (conv => whnf)
          all_goals rfl
      · rw [show namV d (some (.mk vk vn vt vl)) = false from decide_eq_false hk, Bool.false_and]
        have hk2 : vk = 5 → ¬ vn = d := fun e1 e2 => hk ⟨e1, e2⟩
        by_cases hk1 : vk = 5
        · have hk3 := hk2 hk1
          refine crun_of (X := X) X_ok X_sat (body := bodyOf Tryz.f104) Tryz.func104 rfl (by kernel_rfl) (by kernel_rfl) ?_
          rw [Tryz.ntmps104]
          conv => whnf
          repeat' (first | (refine CallN.one c1 ?_) | refine OrdN.one ?_ | refine Fork.yp ?_ | refine Fork.np ?_ | refine Fork.ny ?_ | refine Fork.nn ?_ | refine Fork.yb ?_ | refine Fork.nb ?_ | refine Fork.dp (fun h => ?_) (fun h => ?_) | refine Fork.dn (fun h => ?_) (fun h => ?_) | (refine Fork.mk (fun h => ?_) (fun h => ?_) <;> simp only [decide_eq_true_eq, decide_eq_false_iff_not, Bool.not_eq_true', Bool.not_eq_false', Bool.or_eq_true, Bool.or_eq_false_iff] at h) | refine GetN.go ?_ | refine Need.ap1 ?_ | refine Need.ap0 ?_ | refine Need.go ?_ | refine Need.draw ?_ | refine ElemN.go ?_ | refine ExtN.ext ?_ | refine ExtN.wr ?_ | refine AllocN.go (fun l hl => ?_) | refine finGo ?_) <;> try (conv => whnf)
          all_goals rfl
        · have hk3 := hk1
          refine crun_of (X := X) X_ok X_sat (body := bodyOf Tryz.f104) Tryz.func104 rfl (by kernel_rfl) (by kernel_rfl) ?_
          rw [Tryz.ntmps104]
          conv => whnf
          repeat' (first | (refine CallN.one c1 ?_) | refine OrdN.one ?_ | refine Fork.yp ?_ | refine Fork.np ?_ | refine Fork.ny ?_ | refine Fork.nn ?_ | refine Fork.yb ?_ | refine Fork.nb ?_ | refine Fork.dp (fun h => ?_) (fun h => ?_) | refine Fork.dn (fun h => ?_) (fun h => ?_) | (refine Fork.mk (fun h => ?_) (fun h => ?_) <;> simp only [decide_eq_true_eq, decide_eq_false_iff_not, Bool.not_eq_true', Bool.not_eq_false', Bool.or_eq_true, Bool.or_eq_false_iff] at h) | refine GetN.go ?_ | refine Need.ap1 ?_ | refine Need.ap0 ?_ | refine Need.go ?_ | refine Need.draw ?_ | refine ElemN.go ?_ | refine ExtN.ext ?_ | refine ExtN.wr ?_ | refine AllocN.go (fun l hl => ?_) | refine finGo ?_) <;> try (conv => whnf)
          all_goals rfl
structure WStat (g : Gr) (given : List Pr) (S : List Stp) (lx ln lu : Nat) (ms : List (MK × Value)) (τ : Heap) : Prop where
  x : τ lx = some (.cells [.vec (nds g.nodes), .vec (eds g.edges), i64 g.nn, i64 g.ne, .map ln, .vec (prs given), .vec (stps S), .map lu])
  n : τ ln = some (.mp false ms)
  e : ∀ d, (mpFind (.i d) ms 0 = none ∧ besF g.edges d = []) ∨ ∃ j l n cap, mpFind (.i d) ms 0 = some (j, slV l n cap) ∧ n = (besF g.edges d).length ∧ besF g.edges d ≠ [] ∧ l ≠ lu ∧ τ l = some (.arr 3 1 cap (natsC (besF g.edges d)))
def UsedI (us : List Int) (m : List (MK × Value)) : Prop := ∀ d : Int, (mpFind (.i d) m 0 = none ∧ ¬ d ∈ us) ∨ (∃ j, mpFind (.i d) m 0 = some (j, .int .i64 1) ∧ d ∈ us) ∨ (∃ j, mpFind (.i d) m 0 = some (j, .int .i64 0) ∧ ¬ d ∈ us)
theorem UsedI.nil : UsedI [] [] := fun d => .inl ⟨rfl, by simp⟩
def mPan : CV := .iface 120 (i64 5)
structure WJ (g : Gr) (given : List Pr) (S : List Stp) (lx ln lu : Nat) (ms : List (MK × Value)) (l : Nat) (all : List (List Pr)) (J : List (List Pr) → Heap → Prop) (KP : Heap → Prop) : Prop where
  st : ∀ {rows τ}, J rows τ → WStat g given S lx ln lu ms τ
  put : ∀ {rows τ m m'}, J rows τ → τ lu = some (.mp false m) → J rows (upd τ lu (.mp false m'))
  y : ∀ {pre x r τ}, pre ++ x :: r = all → J pre τ → YRun Tryz.prog l [.vec (prs x)] τ (fun out => (∃ τ', J (pre ++ [x]) τ' ∧ τ' lu = τ lu ∧ out = .ret (.sc (.bool true)) τ') ∨ ∃ τ', KP τ' ∧ out = .pan mPan τ')
def WalkP (g : Gr) (lu : Nat) (J : List (List Pr) → Heap → Prop) (KP : Heap → Prop) (R : List Stp) (d : Int) (row : List Pr) (us : List Int) (pre : List (List Pr)) (out : COut) : Prop :=
  (∃ τ' m', J (pre ++ waysM g R d row us) τ' ∧ τ' lu = some (.mp false m') ∧ UsedI us m' ∧ out = .ret (.sc (.bool true)) τ') ∨ ∃ τ', KP τ' ∧ out = .pan mPan τ'
def WalkC (g : Gr) (lx lu l : Nat) (all : List (List Pr)) (J : List (List Pr) → Heap → Prop) (KP : Heap → Prop) (R : List Stp) (i : Nat) : Prop :=
  ∀ {d : Int} {row : List Pr} {us : List Int} {m : List (MK × Value)} {pre rest : List (List Pr)} {τ : Heap}, row.length + 2 * R.length ≤ 500 → pre ++ (waysM g R d row us ++ rest) = all → J pre τ → τ lu = some (.mp false m) → UsedI us m →
    CRun Tryz.prog 77 [.ptr (.g lx) 0, i64 i, i64 d, .vec (prs row), .fn (.yield l) [] []] τ (WalkP g lu J KP R d row us pre)
theorem stps_at {S : List Stp} {i : Nat} {s : Stp} (h : S[i]? = some s) : (stps S)[i]? = some s.cv := by unfold stps; rw [List.getElem?_map, h]; rfl
section
variable {g : Gr} {given : List Pr} {S : List Stp} {lx ln lu : Nat} {ms : List (MK × Value)} {l : Nat} {all : List (List Pr)} {J : List (List Pr) → Heap → Prop} {KP : Heap → Prop}
theorem walkB (hJ : WJ g given S lx ln lu ms l all J KP) {i : Nat} (hi : i = S.length) (hS : S.length ≤ 100) : WalkC g lx lu l all J KP [] i := by
  intro d row us m pre rest τ hl hall h1 h2 h3
  have e3 := stps_len S
  have hx := (hJ.st h1).x
  have y1 := hJ.y (pre := pre) (x := row) (r := rest) (by rw [← hall]; rfl) h1
  refine crun_ofF (X := X) X_ok X_sat (body := bodyOf Tryz.f77) Tryz.func77 rfl (by kernel_rfl) (by kernel_rfl) ?_
  rw [Tryz.ntmps77]
  conv => whnf
  repeat' (first | (refine GetN.go ?_ (h := hx)) | ((refine YN.many y1 ?_; rintro _ (⟨τ', k1, k2, rfl⟩ | ⟨τ', k1, rfl⟩))) | refine OrdN.one ?_ | refine Fork.yp ?_ | refine Fork.np ?_ | refine Fork.ny ?_ | refine Fork.nn ?_ | refine Fork.yb ?_ | refine Fork.nb ?_ | refine Fork.dp (fun h => ?_) (fun h => ?_) | refine Fork.dn (fun h => ?_) (fun h => ?_) | (refine Fork.mk (fun h => ?_) (fun h => ?_) <;> simp only [decide_eq_true_eq, decide_eq_false_iff_not, Bool.not_eq_true', Bool.not_eq_false', Bool.or_eq_true, Bool.or_eq_false_iff] at h) | refine GetN.go ?_ | refine Need.ap1 ?_ | refine Need.ap0 ?_ | refine Need.go ?_ | refine Need.draw ?_ | refine ElemN.go ?_ | refine ExtN.ext ?_ | refine ExtN.wr ?_ | refine AllocN.go (fun l hl => ?_) | refine finGo ?_) <;> try (conv => whnf)
  all_goals first
    | exact FinP.pan _ (Sub.refl _) (.inr ⟨_, k1, rfl⟩)
    | exact .inl ⟨τ', m, k1, by rw [k2]; exact h2, h3, rfl⟩
structure WSt where
  k : Nat
  t : Heap
  m : List (MK × Value)
theorem walkN (hJ : WJ g given S lx ln lu ms l all J KP) (hg : GrTame g) {i : Nat} {s : Stp} {R : List Stp} (hs : S[i]? = some s) (hS : S.length ≤ 100) (hh : s.hop = false) (hp : s.spot.props = []) (ih : WalkC g lx lu l all J KP R (i + 1)) : WalkC g lx lu l all J KP (s :: R) i := by
  intro d row us m pre rest τ hl hall h1 h2 h3
  have e3 := stps_len S
  have e4 := nds_len g.nodes
  have hgl := hg.nl
  have hx := (hJ.st h1).x
  have hi := (List.getElem?_eq_some_iff.1 hs).1
  have hs' := stps_at hs
  obtain ⟨h, nm, kd, w, ⟨sn, sl, ps⟩⟩ := s
  dsimp only at hh hp
  subst hh; subst hp
  let f : Nd → List (List Pr) := fun n => if fitsM ⟨sn, sl, []⟩ n (bindM row sn (nodeV n.id)) then waysM g R n.id (bindM row sn (nodeV n.id)) us else []
  have hw : waysM g (⟨false, nm, kd, w, ⟨sn, sl, []⟩⟩ :: R) d row us = g.nodes.flatMap f := rfl
  unfold WalkP
  rw [hw] at hall ⊢
  simp only [List.length_cons] at hl
  refine crun_ofF (X := X) X_ok X_sat (body := bodyOf Tryz.f77) Tryz.func77 rfl (by kernel_rfl) (by kernel_rfl) ?_
  rw [Tryz.ntmps77]
  conv => whnf
  repeat' (first | (refine GetN.go ?_ (h := hx)) | (refine ElemN.go ?_ (h := hs')) | refine OrdN.one ?_ | refine Fork.yp ?_ | refine Fork.np ?_ | refine Fork.ny ?_ | refine Fork.nn ?_ | refine Fork.yb ?_ | refine Fork.nb ?_ | refine Fork.dp (fun h => ?_) (fun h => ?_) | refine Fork.dn (fun h => ?_) (fun h => ?_) | (refine Fork.mk (fun h => ?_) (fun h => ?_) <;> simp only [decide_eq_true_eq, decide_eq_false_iff_not, Bool.not_eq_true', Bool.not_eq_false', Bool.or_eq_true, Bool.or_eq_false_iff] at h) | refine GetN.go ?_ | refine Need.ap1 ?_ | refine Need.ap0 ?_ | refine Need.go ?_ | refine Need.draw ?_ | refine ElemN.go ?_ | refine ExtN.ext ?_ | refine ExtN.wr ?_ | refine AllocN.go (fun l hl => ?_) | refine finGo ?_) <;> try (conv => whnf)
  refine LoopN.rule (α := WSt) (fun a => ⟨179, [(0, .ptr (.g lx) 0), (1, i64 i), (3, .vec (prs row)), (4, .fn (.yield l) [] []), (10, .sc (.bool false)), (11, .ptr (.f 11) 0), (46, .vec (nds g.nodes)), (47, i64 (nds g.nodes).length), (48, i64 a.k)], [(11, .cells (Stp.cv ⟨false, nm, kd, w, ⟨sn, sl, []⟩⟩).cells)]⟩)
    (fun a => a.t) (fun a => g.nodes.length - a.k) (fun a => a.k ≤ g.nodes.length ∧ J (pre ++ (g.nodes.take a.k).flatMap f) a.t ∧ a.t lu = some (.mp false a.m) ∧ UsedI us a.m) ?_ ⟨0, τ, m⟩ ⟨by dsimp only; omega, by simpa using h1, h2, h3⟩ ?_
  rotate_left
  · (refine ⟨rfl, ?_, ?_, Sub.refl _⟩ <;> repeat' (first | exact EnvLe.nil | exact LocsLe.nil | refine EnvLe.cons _ _ _ ?_ ?_ | refine LocsLe.cons _ _ _ ?_ ?_ | exact CVle.same _ rfl | exact CVle.vec _ _ | exact CVle.nil | exact CVle.tok _ _ _ rfl rfl | exact ObLe.tok _ _ rfl | exact CVles.nil | refine CVles.cons ?_ ?_ | exact ObLe.same _ rfl rfl | refine ObLe.cells rfl ?_))
  rintro ⟨k, τ1, m1⟩ K ⟨i1, i2, i3, i4⟩ hK
  dsimp only at i1 i2 i3 i4 hK ⊢
  by_cases hk : k < g.nodes.length
  · obtain ⟨nd, ls, nps, hm, hgk, hx2, -⟩ := nds_at hk
    have ht := hg.ns _ hm
    have c1 := nodeValue_c (σ := τ1) (d := nd)
    have c2 := bind_c (σ := τ1) (row := row) (s := sn) (v := nodeV nd) (by omega)
    have c3 := mfits_c (σ := τ1) (lx := lx) (s := ⟨false, nm, kd, w, ⟨sn, sl, []⟩⟩) (n := ⟨nd, ls, nps⟩) (row := bindM row sn (nodeV nd)) rfl (by have := bindM_len (row := row) (s := sn) (v := nodeV nd); omega) (by have := ht.ll; dsimp only at this; omega)
    dsimp only at c3
    have hf : f ⟨nd, ls, nps⟩ = if fitsM ⟨sn, sl, []⟩ ⟨nd, ls, nps⟩ (bindM row sn (nodeV nd)) then waysM g R nd (bindM row sn (nodeV nd)) us else [] := rfl
    have htk := fm_take (f := f) hgk
    cases hq : fitsM ⟨sn, sl, []⟩ ⟨nd, ls, nps⟩ (bindM row sn (nodeV nd))
    · rw [hq] at c3 hf
      rw [if_neg (by simp)] at hf
      rw [hf, List.append_nil] at htk
      conv => whnf
      repeat' (first | (refine ElemN.go ?_ (h := hx2)) | (refine CallN.one c1 ?_) | (refine CallN.one c2 ?_) | (refine CallN.one c3 ?_) | refine OrdN.one ?_ | refine Fork.yp ?_ | refine Fork.np ?_ | refine Fork.ny ?_ | refine Fork.nn ?_ | refine Fork.yb ?_ | refine Fork.nb ?_ | refine Fork.dp (fun h => ?_) (fun h => ?_) | refine Fork.dn (fun h => ?_) (fun h => ?_) | (refine Fork.mk (fun h => ?_) (fun h => ?_) <;> simp only [decide_eq_true_eq, decide_eq_false_iff_not, Bool.not_eq_true', Bool.not_eq_false', Bool.or_eq_true, Bool.or_eq_false_iff] at h) | refine GetN.go ?_ | refine Need.ap1 ?_ | refine Need.ap0 ?_ | refine Need.go ?_ | refine Need.draw ?_ | refine ElemN.go ?_ | refine ExtN.ext ?_ | refine ExtN.wr ?_ | refine AllocN.go (fun l hl => ?_) | refine finGo ?_) <;> try (conv => whnf)
      all_goals
        refine hK ⟨k + 1, τ1, m1⟩ _ _ ⟨by dsimp only; omega, by dsimp only; rw [htk]; exact i2, i3, i4⟩ (by dsimp only; omega) ?_
        (refine ⟨rfl, ?_, ?_, Sub.refl _⟩ <;> repeat' (first | exact EnvLe.nil | exact LocsLe.nil | refine EnvLe.cons _ _ _ ?_ ?_ | refine LocsLe.cons _ _ _ ?_ ?_ | exact CVle.same _ rfl | exact CVle.vec _ _ | exact CVle.nil | exact CVle.tok _ _ _ rfl rfl | exact ObLe.tok _ _ rfl | exact CVles.nil | refine CVles.cons ?_ ?_ | exact ObLe.same _ rfl rfl | refine ObLe.cells rfl ?_))
    · rw [hq] at c3 hf
      rw [if_pos rfl] at hf
      rw [hf] at htk
      have c4 := ih (d := nd) (row := bindM row sn (nodeV nd)) (us := us) (pre := pre ++ (g.nodes.take k).flatMap f) (rest := (g.nodes.drop (k + 1)).flatMap f ++ rest) (by have := bindM_len (row := row) (s := sn) (v := nodeV nd); omega) (by
        rw [← hall]
        have : g.nodes.flatMap f = (g.nodes.take k).flatMap f ++ f ⟨nd, ls, nps⟩ ++ (g.nodes.drop (k + 1)).flatMap f := by
          conv => lhs; rw [← List.take_append_drop (k + 1) g.nodes, List.flatMap_append, htk, ← hf]
        rw [this, hf]; simp) i2 i3 i4
      unfold WalkP at c4
      conv => whnf
      repeat' (first | (refine ElemN.go ?_ (h := hx2)) | (refine CallN.one c1 ?_) | (refine CallN.one c2 ?_) | (refine CallN.one c3 ?_) | ((refine CallN.many c4 ?_; rintro _ (⟨τ2, m2, j1, j2, j3, rfl⟩ | ⟨τ2, j1, rfl⟩))) | refine OrdN.one ?_ | refine Fork.yp ?_ | refine Fork.np ?_ | refine Fork.ny ?_ | refine Fork.nn ?_ | refine Fork.yb ?_ | refine Fork.nb ?_ | refine Fork.dp (fun h => ?_) (fun h => ?_) | refine Fork.dn (fun h => ?_) (fun h => ?_) | (refine Fork.mk (fun h => ?_) (fun h => ?_) <;> simp only [decide_eq_true_eq, decide_eq_false_iff_not, Bool.not_eq_true', Bool.not_eq_false', Bool.or_eq_true, Bool.or_eq_false_iff] at h) | refine GetN.go ?_ | refine Need.ap1 ?_ | refine Need.ap0 ?_ | refine Need.go ?_ | refine Need.draw ?_ | refine ElemN.go ?_ | refine ExtN.ext ?_ | refine ExtN.wr ?_ | refine AllocN.go (fun l hl => ?_) | refine finGo ?_) <;> try (conv => whnf)
      all_goals try (exact FinP.pan _ (Sub.refl _) (.inr ⟨_, j1, rfl⟩))
      all_goals
        refine hK ⟨k + 1, τ2, m2⟩ _ _ ⟨by dsimp only; omega, by dsimp only; rw [htk, ← List.append_assoc]; exact j1, j2, j3⟩ (by dsimp only; omega) ?_
        (refine ⟨rfl, ?_, ?_, Sub.refl _⟩ <;> repeat' (first | exact EnvLe.nil | exact LocsLe.nil | refine EnvLe.cons _ _ _ ?_ ?_ | refine LocsLe.cons _ _ _ ?_ ?_ | exact CVle.same _ rfl | exact CVle.vec _ _ | exact CVle.nil | exact CVle.tok _ _ _ rfl rfl | exact ObLe.tok _ _ rfl | exact CVles.nil | refine CVles.cons ?_ ?_ | exact ObLe.same _ rfl rfl | refine ObLe.cells rfl ?_))
  · rw [List.take_of_length_le (by omega)] at i2
    conv => whnf
    repeat' (first | refine OrdN.one ?_ | refine Fork.yp ?_ | refine Fork.np ?_ | refine Fork.ny ?_ | refine Fork.nn ?_ | refine Fork.yb ?_ | refine Fork.nb ?_ | refine Fork.dp (fun h => ?_) (fun h => ?_) | refine Fork.dn (fun h => ?_) (fun h => ?_) | (refine Fork.mk (fun h => ?_) (fun h => ?_) <;> simp only [decide_eq_true_eq, decide_eq_false_iff_not, Bool.not_eq_true', Bool.not_eq_false', Bool.or_eq_true, Bool.or_eq_false_iff] at h) | refine GetN.go ?_ | refine Need.ap1 ?_ | refine Need.ap0 ?_ | refine Need.go ?_ | refine Need.draw ?_ | refine ElemN.go ?_ | refine ExtN.ext ?_ | refine ExtN.wr ?_ | refine AllocN.go (fun l hl => ?_) | refine finGo ?_) <;> try (conv => whnf)
    all_goals exact .inl ⟨τ1, m1, i2, i3, i4, rfl⟩
end
structure NoP (p : Pth) : Prop where
  s : p.spot.props = []
  k : p.hops.length ≤ 100
  h : ∀ h ∈ p.hops, h.spot.props = []
theorem stps_snoc (l : List Stp) (s : Stp) : stps (l ++ [s]) = stps l ++ [s.cv] := by simp [stps]
theorem stpsP_len (p : Pth) : (stpsP p).length = p.hops.length + 1 := by simp [stpsP]
def outP (ps : List Pth) (i : Nat) : List Stp := (ps.take i).flatMap stpsP
def outH (ps : List Pth) (i : Nat) (sp : Sp) (hs : List Hp) (j : Nat) : List Stp := outP ps i ++ (⟨false, ⟨#[]⟩, ⟨#[]⟩, 0, sp⟩ :: (hs.take j).map stpH)
theorem outP_step {ps : List Pth} {i : Nat} {sp : Sp} {hs : List Hp} (h : ps[i]? = some ⟨sp, hs⟩) : outP ps (i + 1) = outH ps i sp hs hs.length := by
  unfold outP outH
  rw [fm_take h, List.take_of_length_le (Nat.le_refl _)]; rfl
theorem outH_zero {ps : List Pth} {i : Nat} {sp : Sp} {hs : List Hp} : stps (outH ps i sp hs 0) = stps (outP ps i) ++ [Stp.cv ⟨false, ⟨#[]⟩, ⟨#[]⟩, 0, sp⟩] := by unfold outH; rw [← stps_snoc]; rfl
theorem outH_step {ps : List Pth} {i j : Nat} {sp : Sp} {hs : List Hp} {h : Hp} (hh : hs[j]? = some h) : stps (outH ps i sp hs (j + 1)) = stps (outH ps i sp hs j) ++ [(stpH h).cv] := by
  unfold outH
  rw [← stps_snoc, List.take_add_one, hh]; simp
theorem outP_len {ps : List Pth} (ht : ∀ p ∈ ps, NoP p) : ∀ i, (outP ps i).length ≤ 101 * i := by
  intro i
  induction i with
  | zero => simp [outP]
  | succ i ih =>
    unfold outP at ih ⊢
    rw [List.take_add_one]
    cases hq : ps[i]? with
    | none => simp; simp at ih; omega
    | some p =>
      have := (ht p (List.mem_of_getElem? hq)).k
      have := stpsP_len p
      simp at ih ⊢
      omega
set_option maxHeartbeats 1000000 in
theorem stepsOf_c {σ : Heap} {ps : List Pth} (hk : ps.length ≤ 100) (ht : ∀ p ∈ ps, NoP p) : CRun Tryz.prog 75 [.vec (pths ps)] σ (· = .ret (.vec (stps (outP ps ps.length))) σ) := by
  have e3 := pths_len ps
  refine crun_of (X := X) X_ok X_sat (body := bodyOf Tryz.f75) Tryz.func75 rfl (by kernel_rfl) (by kernel_rfl) ?_
  rw [Tryz.ntmps75]
  conv => whnf
  repeat' (first | refine OrdN.one ?_ | refine Fork.yp ?_ | refine Fork.np ?_ | refine Fork.ny ?_ | refine Fork.nn ?_ | refine Fork.yb ?_ | refine Fork.nb ?_ | refine Fork.dp (fun h => ?_) (fun h => ?_) | refine Fork.dn (fun h => ?_) (fun h => ?_) | (refine Fork.mk (fun h => ?_) (fun h => ?_) <;> simp only [decide_eq_true_eq, decide_eq_false_iff_not, Bool.not_eq_true', Bool.not_eq_false', Bool.or_eq_true, Bool.or_eq_false_iff] at h) | refine GetN.go ?_ | refine Need.ap1 ?_ | refine Need.ap0 ?_ | refine Need.go ?_ | refine Need.draw ?_ | refine ElemN.go ?_ | refine ExtN.ext ?_ | refine ExtN.wr ?_ | refine AllocN.go (fun l hl => ?_) | refine finGo ?_) <;> try (conv => whnf)
  refine LoopN.rule (α := Nat) (fun i => ⟨48, [(3, .avec 20 (stps (outP ps i))), (9, .vec (pths ps)), (10, i64 (pths ps).length), (11, i64 i)], [(20, .tok 146 8 (stps (outP ps i)).length)]⟩)
    (fun _ => σ) (fun i => ps.length - i) (fun i => i ≤ ps.length) ?_ 0 (by omega) ?_
  rotate_left
  · (refine ⟨rfl, ?_, ?_, Sub.refl _⟩ <;> repeat' (first | exact EnvLe.nil | exact LocsLe.nil | refine EnvLe.cons _ _ _ ?_ ?_ | refine LocsLe.cons _ _ _ ?_ ?_ | exact CVle.same _ rfl | exact CVle.vec _ _ | exact CVle.nil | exact CVle.tok _ _ _ rfl rfl | exact ObLe.tok _ _ rfl | exact CVles.nil | refine CVles.cons ?_ ?_ | exact ObLe.same _ rfl rfl | refine ObLe.cells rfl ?_))
  rintro i K i1 hK
  by_cases hi : i < ps.length
  · obtain ⟨⟨⟨sn, sl, pr⟩, hs⟩, hm, hg, hx⟩ := map_at (f := Pth.cv) hi
    have hp := ht _ hm
    have hpr := hp.s
    have hpk := hp.k
    dsimp only at hpr hpk
    subst hpr
    have c1 := stepOf_c (σ := σ) (sn := sn) (sl := sl)
    have hl := outP_len ht i
    have hl2 := stps_len (outP ps i)
    have z := outH_zero (ps := ps) (i := i) (sp := ⟨sn, sl, []⟩) (hs := hs)
    have hstep := outP_step hg
    have e5 := hps_len hs
    have hx' : (pths ps)[i]? = some (.agg [.sc (.string sn), .sc (.string sl), .vec [], .vec (hps hs)]) := hx
    generalize stps (outP ps i) = X at z hl2 ⊢
    conv => whnf
    repeat' (first | (refine CallN.one c1 ?_) | (refine ElemN.go ?_ (h := hx')) | (refine Need.ap1 ?_ (h1 := by simp only [List.length_cons, List.length_nil]; omega)) | refine OrdN.one ?_ | refine Fork.yp ?_ | refine Fork.np ?_ | refine Fork.ny ?_ | refine Fork.nn ?_ | refine Fork.yb ?_ | refine Fork.nb ?_ | refine Fork.dp (fun h => ?_) (fun h => ?_) | refine Fork.dn (fun h => ?_) (fun h => ?_) | (refine Fork.mk (fun h => ?_) (fun h => ?_) <;> simp only [decide_eq_true_eq, decide_eq_false_iff_not, Bool.not_eq_true', Bool.not_eq_false', Bool.or_eq_true, Bool.or_eq_false_iff] at h) | refine GetN.go ?_ | refine Need.ap1 ?_ | refine Need.ap0 ?_ | refine Need.go ?_ | refine Need.draw ?_ | refine ElemN.go ?_ | refine ExtN.ext ?_ | refine ExtN.wr ?_ | refine AllocN.go (fun l hl => ?_) | refine finGo ?_) <;> try (conv => whnf)
    refine LoopN.rule (α := Nat) (fun j => ⟨48, [(3, .avec 20 (stps (outH ps i ⟨sn, sl, []⟩ hs j))), (9, .vec (pths ps)), (10, i64 (pths ps).length), (11, i64 i), (22, .vec (hps hs)), (23, i64 (hps hs).length), (24, i64 j)], [(20, .tok 146 8 (stps (outH ps i ⟨sn, sl, []⟩ hs j)).length)]⟩)
      (fun _ => σ) (fun j => hs.length - j) (fun j => j ≤ hs.length) ?_ 0 (by omega) ?_
    rotate_left
    · rw [z, List.length_append]
      (refine ⟨rfl, ?_, ?_, Sub.refl _⟩ <;> repeat' (first | exact EnvLe.nil | exact LocsLe.nil | refine EnvLe.cons _ _ _ ?_ ?_ | refine LocsLe.cons _ _ _ ?_ ?_ | exact CVle.same _ rfl | exact CVle.vec _ _ | exact CVle.nil | exact CVle.tok _ _ _ rfl rfl | exact ObLe.tok _ _ rfl | exact CVles.nil | refine CVles.cons ?_ ?_ | exact ObLe.same _ rfl rfl | refine ObLe.cells rfl ?_))
    rintro j K2 j1 hK2
    by_cases hj : j < hs.length
    · obtain ⟨⟨hn, hkd, hw, ⟨bn, bl, bp⟩⟩, hm2, hg2, hx2⟩ := map_at (f := Hp.cv) hj
      have hbp := hp.h _ hm2
      dsimp only at hbp
      subst hbp
      have hx2' : (hps hs)[j]? = some (.agg [.sc (.string hn), .sc (.string hkd), i64 hw, .sc (.string bn), .sc (.string bl), .vec []]) := hx2
      have c2 := stepOf_c (σ := σ) (sn := bn) (sl := bl)
      have z2 := outH_step (ps := ps) (i := i) (sp := ⟨sn, sl, []⟩) hg2
      have hl3 : (stps (outH ps i ⟨sn, sl, []⟩ hs j)).length ≤ 20000 := by
        rw [stps_len]; unfold outH; rw [List.length_append, List.length_cons, List.length_map, List.length_take]; omega
      have hK3 := hK2 (j + 1)
      try dsimp only at hK3
      rw [z2, List.length_append] at hK3
      generalize stps (outH ps i ⟨sn, sl, []⟩ hs j) = Y at hl3 hK3 ⊢
      conv => whnf
      repeat' (first | (refine CallN.one c2 ?_) | (refine ElemN.go ?_ (h := hx2')) | (refine Need.ap1 ?_ (h1 := by simp only [List.length_cons, List.length_nil]; omega)) | refine OrdN.one ?_ | refine Fork.yp ?_ | refine Fork.np ?_ | refine Fork.ny ?_ | refine Fork.nn ?_ | refine Fork.yb ?_ | refine Fork.nb ?_ | refine Fork.dp (fun h => ?_) (fun h => ?_) | refine Fork.dn (fun h => ?_) (fun h => ?_) | (refine Fork.mk (fun h => ?_) (fun h => ?_) <;> simp only [decide_eq_true_eq, decide_eq_false_iff_not, Bool.not_eq_true', Bool.not_eq_false', Bool.or_eq_true, Bool.or_eq_false_iff] at h) | refine GetN.go ?_ | refine Need.ap1 ?_ | refine Need.ap0 ?_ | refine Need.go ?_ | refine Need.draw ?_ | refine ElemN.go ?_ | refine ExtN.ext ?_ | refine ExtN.wr ?_ | refine AllocN.go (fun l hl => ?_) | refine finGo ?_) <;> try (conv => whnf)
      all_goals
        refine hK3 _ _ (by omega) (by omega) ?_
        (refine ⟨rfl, ?_, ?_, Sub.refl _⟩ <;> repeat' (first | exact EnvLe.nil | exact LocsLe.nil | refine EnvLe.cons _ _ _ ?_ ?_ | refine LocsLe.cons _ _ _ ?_ ?_ | exact CVle.same _ rfl | exact CVle.vec _ _ | exact CVle.nil | exact CVle.tok _ _ _ rfl rfl | exact ObLe.tok _ _ rfl | exact CVles.nil | refine CVles.cons ?_ ?_ | exact ObLe.same _ rfl rfl | refine ObLe.cells rfl ?_))
    · have hje : j = hs.length := by omega
      subst hje
      rw [← hstep]
      conv => whnf
      repeat' (first | refine OrdN.one ?_ | refine Fork.yp ?_ | refine Fork.np ?_ | refine Fork.ny ?_ | refine Fork.nn ?_ | refine Fork.yb ?_ | refine Fork.nb ?_ | refine Fork.dp (fun h => ?_) (fun h => ?_) | refine Fork.dn (fun h => ?_) (fun h => ?_) | (refine Fork.mk (fun h => ?_) (fun h => ?_) <;> simp only [decide_eq_true_eq, decide_eq_false_iff_not, Bool.not_eq_true', Bool.not_eq_false', Bool.or_eq_true, Bool.or_eq_false_iff] at h) | refine GetN.go ?_ | refine Need.ap1 ?_ | refine Need.ap0 ?_ | refine Need.go ?_ | refine Need.draw ?_ | refine ElemN.go ?_ | refine ExtN.ext ?_ | refine ExtN.wr ?_ | refine AllocN.go (fun l hl => ?_) | refine finGo ?_) <;> try (conv => whnf)
      all_goals
        refine hK (i + 1) _ _ (by omega) (by omega) ?_
        (refine ⟨rfl, ?_, ?_, Sub.refl _⟩ <;> repeat' (first | exact EnvLe.nil | exact LocsLe.nil | refine EnvLe.cons _ _ _ ?_ ?_ | refine LocsLe.cons _ _ _ ?_ ?_ | exact CVle.same _ rfl | exact CVle.vec _ _ | exact CVle.nil | exact CVle.tok _ _ _ rfl rfl | exact ObLe.tok _ _ rfl | exact CVles.nil | refine CVles.cons ?_ ?_ | exact ObLe.same _ rfl rfl | refine ObLe.cells rfl ?_))
  · have hie : i = ps.length := by omega
    subst hie
    conv => whnf
    repeat' (first | refine OrdN.one ?_ | refine Fork.yp ?_ | refine Fork.np ?_ | refine Fork.ny ?_ | refine Fork.nn ?_ | refine Fork.yb ?_ | refine Fork.nb ?_ | refine Fork.dp (fun h => ?_) (fun h => ?_) | refine Fork.dn (fun h => ?_) (fun h => ?_) | (refine Fork.mk (fun h => ?_) (fun h => ?_) <;> simp only [decide_eq_true_eq, decide_eq_false_iff_not, Bool.not_eq_true', Bool.not_eq_false', Bool.or_eq_true, Bool.or_eq_false_iff] at h) | refine GetN.go ?_ | refine Need.ap1 ?_ | refine Need.ap0 ?_ | refine Need.go ?_ | refine Need.draw ?_ | refine ElemN.go ?_ | refine ExtN.ext ?_ | refine ExtN.wr ?_ | refine AllocN.go (fun l hl => ?_) | refine finGo ?_) <;> try (conv => whnf)
    all_goals rfl
structure MatI (g : Gr) (given : List Pr) (S : List Stp) (σ τ : Heap) (lx ln lu : Nat) (ms : List (MK × Value)) : Prop where
  sub : Sub σ τ
  st : WStat g given S lx ln lu ms τ
  us : τ lu = some (.mp false [])
  xu : lx ≠ lu
  nu : ln ≠ lu
  fu : σ lu = none
theorem needQ {ops : Array Oper} {q : List Nat} {T : Prop} (t : T) (h : quietOk ops q = true := by kernel_rfl) : Need (quietOk ops q = true) T := ⟨h, t⟩
section
variable {g : Gr} {given : List Pr} {S : List Stp} {σ τ1 : Heap} {lx ln lu : Nat} {ms : List (MK × Value)}
theorem mat_a (hB : BesI (upd σ lu (.mp false [])) ln (besF g.edges) τ1 ms) (hlu : σ lu = none) (hlx : τ1 lx = none) :
    MatI g given S σ (upd τ1 lx (.cells [.vec (nds g.nodes), .vec (eds g.edges), i64 g.nn, i64 g.ne, .map ln, .vec (prs given), .vec (stps S), .map lu])) lx ln lu ms := by
  have hu : τ1 lu = some (.mp false []) := hB.sub _ _ (upd_same _ _ _)
  have hsx : Sub σ τ1 := fun x o h => hB.sub x o (by rw [upd_ne _ _ (fun e => by subst e; rw [hlu] at h; cases h)]; exact h)
  have hxu : lx ≠ lu := fun e => by subst e; rw [hu] at hlx; cases hlx
  have hxn : ln ≠ lx := fun e => by subst e; rw [hB.at_] at hlx; cases hlx
  have hnu : ln ≠ lu := fun e => by have := hB.fr; rw [e, upd_same] at this; cases this
  refine ⟨hsx.upd (subNo hsx hlx), ⟨upd_same _ _ _, by rw [upd_ne _ _ hxn]; exact hB.at_, fun d => ?_⟩, by rw [upd_ne _ _ (Ne.symm hxu)]; exact hu, hxu, hnu, hlu⟩
  rcases hB.ent d with h | ⟨j, l, n, cap, h1, h2, h3, h4, h5, h6⟩
  · exact .inl h
  · refine .inr ⟨j, l, n, cap, h1, h2, h3, (fun e => by rw [e, upd_same] at h4; cases h4), ?_⟩
    rw [upd_ne _ _ (fun e => by subst e; rw [h6] at hlx; cases hlx)]; exact h6
theorem mat_b (hB : BesI σ ln (besF g.edges) τ1 ms) (hlu : τ1 lu = none) (hlx : upd τ1 lu (.mp false []) lx = none) :
    MatI g given S σ (upd (upd τ1 lu (.mp false [])) lx (.cells [.vec (nds g.nodes), .vec (eds g.edges), i64 g.nn, i64 g.ne, .map ln, .vec (prs given), .vec (stps S), .map lu])) lx ln lu ms := by
  have hxu : lx ≠ lu := fun e => by subst e; rw [upd_same] at hlx; cases hlx
  have hlx1 : τ1 lx = none := by rw [upd_ne _ _ hxu] at hlx; exact hlx
  have hxn : ln ≠ lx := fun e => by subst e; rw [hB.at_] at hlx1; cases hlx1
  have hnu : ln ≠ lu := fun e => by subst e; rw [hB.at_] at hlu; cases hlu
  refine ⟨(hB.sub.upd (subNo hB.sub hlu)).upd (subNo hB.sub hlx1), ⟨upd_same _ _ _, by rw [upd_ne _ _ hxn, upd_ne _ _ hnu]; exact hB.at_, fun d => ?_⟩, by rw [upd_ne _ _ (Ne.symm hxu)]; exact upd_same _ _ _, hxu, hnu, subNo hB.sub hlu⟩
  rcases hB.ent d with h | ⟨j, l, n, cap, h1, h2, h3, h4, h5, h6⟩
  · exact .inl h
  · have n1 : l ≠ lu := fun e => by subst e; rw [h6] at hlu; cases hlu
    refine .inr ⟨j, l, n, cap, h1, h2, h3, n1, ?_⟩
    rw [upd_ne _ _ (fun e => by subst e; rw [h6] at hlx1; cases hlx1), upd_ne _ _ n1]; exact h6
end
set_option maxHeartbeats 1000000 in
theorem matcherOf_c {σ : Heap} {g : Gr} {given : List Pr} {ps : List Pth} (hg : GrTame g) (hk : ps.length ≤ 100) (ht : ∀ p ∈ ps, NoP p) : CRun Tryz.prog 44 [g.cv, .vec (prs given), .vec (pths ps)] σ (fun out => ∃ τ lx ln lu ms, MatI g given (outP ps ps.length) σ τ lx ln lu ms ∧ out = .ret (.ptr (.g lx) 0) τ) := by
  obtain ⟨ns, es, nn, ne⟩ := g
  have hel := hg.el
  dsimp only at hel
  have c1 := fun σ => stepsOf_c (σ := σ) hk ht
  refine crun_of (X := (GM [15] fun n => match Nat.beq n 200001 with | true => some [0,1,3,4] | false => (none))) (GM_ok _ _) (GM_sat _ _) (body := bodyOf Tryz.f44) Tryz.func44 rfl (by kernel_rfl) (by kernel_rfl) ?_
  rw [Tryz.ntmps44]
  conv => whnf
  repeat' (first | (refine needQ ?_) | (refine AndN.mk ?_ ?_) | ((have hlu' := hlu; refine AllocN.go (fun lx hlx => ?_))) | (refine AllocN.go (fun lu hlu => ?_)) | (refine CallN.one (c1 _) ?_) | ((refine CallN.many (beside_c hel) ?_; rintro _ ⟨ln, τ1, ms, hB, rfl⟩)) | refine OrdN.go ?_ | refine Fork.yp ?_ | refine Fork.np ?_ | refine Fork.ny ?_ | refine Fork.nn ?_ | refine Fork.yb ?_ | refine Fork.nb ?_ | refine Fork.dp (fun h => ?_) (fun h => ?_) | refine Fork.dn (fun h => ?_) (fun h => ?_) | (refine Fork.mk (fun h => ?_) (fun h => ?_) <;> simp only [decide_eq_true_eq, decide_eq_false_iff_not, Bool.not_eq_true', Bool.not_eq_false', Bool.or_eq_true, Bool.or_eq_false_iff] at h) | refine GetN.go ?_ | refine Need.ap1 ?_ | refine Need.ap0 ?_ | refine Need.go ?_ | refine Need.draw ?_ | refine ElemN.go ?_ | refine ExtN.ext ?_ | refine ExtN.wr ?_ | refine AllocN.go (fun l hl => ?_) | refine finGo ?_) <;> try (conv => whnf)
  all_goals first
    | exact ⟨_, lx, ln, lu, ms, mat_a (g := ⟨ns, es, nn, ne⟩) hB hlu hlx, rfl⟩
    | exact ⟨_, lx, ln, lu, ms, mat_b (g := ⟨ns, es, nn, ne⟩) hB hlu hlx, rfl⟩
theorem ways_c {σ : Heap} {lx : Nat} {row : List Pr} : CRun Tryz.prog 45 [.ptr (.g lx) 0, .vec (prs row)] σ (fun out => ∃ l2 l3 τ, Sub σ τ ∧ τ l2 = some (.cells [.ptr (.g lx) 0]) ∧ τ l3 = some (.cells [.vec (prs row)]) ∧ out = .ret (.fn (.func 76) [] [.ptr (.g l2) 0, .ptr (.g l3) 0]) τ) := by
  refine crun_of (X := G [2,3]) (G_ok _) (G_sat _) (body := bodyOf Tryz.f45) Tryz.func45 rfl (by kernel_rfl) (by kernel_rfl) ?_
  rw [Tryz.ntmps45]
  conv => whnf
  repeat' (first | ((have hl2' := hl2; refine AllocN.go (fun l3 hl3 => ?_))) | (refine AllocN.go (fun l2 hl2 => ?_)) | refine OrdN.one ?_ | refine Fork.yp ?_ | refine Fork.np ?_ | refine Fork.ny ?_ | refine Fork.nn ?_ | refine Fork.yb ?_ | refine Fork.nb ?_ | refine Fork.dp (fun h => ?_) (fun h => ?_) | refine Fork.dn (fun h => ?_) (fun h => ?_) | (refine Fork.mk (fun h => ?_) (fun h => ?_) <;> simp only [decide_eq_true_eq, decide_eq_false_iff_not, Bool.not_eq_true', Bool.not_eq_false', Bool.or_eq_true, Bool.or_eq_false_iff] at h) | refine GetN.go ?_ | refine Need.ap1 ?_ | refine Need.ap0 ?_ | refine Need.go ?_ | refine Need.draw ?_ | refine ElemN.go ?_ | refine ExtN.ext ?_ | refine ExtN.wr ?_ | refine AllocN.go (fun l hl => ?_) | refine finGo ?_) <;> try (conv => whnf)
  all_goals exact ⟨l2, l3, _, ((Sub.refl σ).upd hl2).upd (un_upd hl3), gotX (upd_same _ _ _) hl3, upd_same _ _ _, rfl⟩
section
variable {g : Gr} {given : List Pr} {S : List Stp} {lx ln lu : Nat} {ms : List (MK × Value)}
theorem waysIter_c {l l2 l3 : Nat} {row : List Pr} {J : List (List Pr) → Heap → Prop} {KP : Heap → Prop} {τ : Heap} (hW : WalkC g lx lu l (waysM g S 0 row []) J KP S 0) (hl : row.length + 2 * S.length ≤ 500)
    (h2 : τ l2 = some (.cells [.ptr (.g lx) 0])) (h3 : τ l3 = some (.cells [.vec (prs row)])) (hJ : J [] τ) (hu : τ lu = some (.mp false [])) :
    CRun Tryz.prog 76 [.fn (.yield l) [] [], .ptr (.g l2) 0, .ptr (.g l3) 0] τ (fun out => (∃ τ', J (waysM g S 0 row []) τ' ∧ out = .ret (.tup []) τ') ∨ ∃ τ', KP τ' ∧ out = .pan mPan τ') := by
  have c1 := hW (d := 0) (row := row) (us := []) (m := []) (pre := []) (rest := []) (τ := τ) hl (by simp) hJ hu UsedI.nil
  unfold WalkP at c1
  rw [List.nil_append] at c1
  refine crun_ofF (X := X) X_ok X_sat (body := bodyOf Tryz.f76) Tryz.func76 rfl (by kernel_rfl) (by kernel_rfl) ?_
  rw [Tryz.ntmps76]
  conv => whnf
  repeat' (first | (refine GetN.go ?_ (h := h2)) | (refine GetN.go ?_ (h := h3)) | ((refine CallN.many c1 ?_; rintro _ (⟨τ', m', k1, k2, k3, rfl⟩ | ⟨τ', k1, rfl⟩))) | refine OrdN.one ?_ | refine Fork.yp ?_ | refine Fork.np ?_ | refine Fork.ny ?_ | refine Fork.nn ?_ | refine Fork.yb ?_ | refine Fork.nb ?_ | refine Fork.dp (fun h => ?_) (fun h => ?_) | refine Fork.dn (fun h => ?_) (fun h => ?_) | (refine Fork.mk (fun h => ?_) (fun h => ?_) <;> simp only [decide_eq_true_eq, decide_eq_false_iff_not, Bool.not_eq_true', Bool.not_eq_false', Bool.or_eq_true, Bool.or_eq_false_iff] at h) | refine GetN.go ?_ | refine Need.ap1 ?_ | refine Need.ap0 ?_ | refine Need.go ?_ | refine Need.draw ?_ | refine ElemN.go ?_ | refine ExtN.ext ?_ | refine ExtN.wr ?_ | refine AllocN.go (fun l hl => ?_) | refine finGo ?_) <;> try (conv => whnf)
  all_goals first
    | exact FinP.pan _ (Sub.refl _) (.inr ⟨_, k1, rfl⟩)
    | exact .inl ⟨_, k1, rfl⟩
end
end Go.Proofs.YtlamgfimgadnmaaGreat
