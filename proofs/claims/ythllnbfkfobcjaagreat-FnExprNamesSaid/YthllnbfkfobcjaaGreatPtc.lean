/-
  Contracts of the functions that the law reaches.
-/
import Derived.Test.YthllnbfkfobcjaaGreatPtb
set_option linter.unusedVariables false
set_option linter.unusedSimpArgs false
namespace Go.Proofs.YthllnbfkfobcjaaGreat
open Go Go.CL
set_option maxRecDepth 10000
theorem props_d {l : Nat} {σ : Heap} {bs : List CV} (hb : BytesOk bs) (hl : bs.length ≤ 2000) {p : Int} (hp : 0 ≤ p) (hp' : p < 274877906944) : CRun Tryz.prog 146 [.ptr (.g l) 0] (rd σ l bs p) (LDraw (fun xs => PropG xs ∧ xs.length ≤ 3) σ l bs p 100) := lopen_draw (props_o hb hl hp hp')
theorem PropG.snoc {xs : List CV} {s : ByteArray} {k n : Int} {t : ByteArray} {l : List Val} (h : PropG xs) (hl : xs.length ≤ 5) (hs : s.size ≤ 7) (hv : Tame (.mk k n t l)) : PropG (xs ++ [.agg [.sc (.string s), i64 k, i64 n, .sc (.string t), .vec (Val.cvs l)]]) :=
  ⟨h.h.snoc hs hv, by simp; omega⟩
theorem PropG.snoc2 {xs : List CV} {s s' : ByteArray} {k n k' n' : Int} {t t' : ByteArray} {l l' : List Val} (h : PropG xs) (hl : xs.length ≤ 4) (hs : s.size ≤ 7) (hv : Tame (.mk k n t l)) (hs' : s'.size ≤ 7) (hv' : Tame (.mk k' n' t' l')) :
    PropG (xs ++ [.agg [.sc (.string s), i64 k, i64 n, .sc (.string t), .vec (Val.cvs l)], .agg [.sc (.string s'), i64 k', i64 n', .sc (.string t'), .vec (Val.cvs l')]]) := by
  have := (h.snoc (by omega) hs hv).snoc (by simp; omega) hs' hv'
  rwa [List.append_assoc] at this
set_option maxHeartbeats 1000000 in
theorem anyProps_o {l : Nat} {σ : Heap} {bs : List CV} (hb : BytesOk bs) (hl : bs.length ≤ 2000) {p : Int} (hp : 0 ≤ p) (hp' : p < 137438953472) : CRun Tryz.prog 72 [.ptr (.g l) 0] (rd σ l bs p) (LOpen 178 5 PropG σ l bs p 700) := by
  have c1 : cost 0 = 4 := rfl
  refine crun_of (X := X) X_ok X_sat (body := bodyOf Tryz.f72) Tryz.func72 rfl (by kernel_rfl) (by kernel_rfl) ?_
  rw [Tryz.ntmps72]
  conv => whnf
  repeat' (first | ((refine CallN.many (props_o hb hl (by omega) (by omega)) ?_; rintro _ ⟨xs, n, l1, cap, σ', p', ⟨g, gl⟩, hn, q1, q2, hs, n1, n2, n3, rfl⟩)) | (refine CallN.many (pick_n hb hl (by omega) (by omega)) ?_; rintro _ ⟨k, hk1, hk2, rfl⟩) | (refine CallN.many (of_c (m := 7) hb hl (by omega) (by omega) ?_ (Nat.le_of_ble_eq_true rfl) (Nat.le_of_ble_eq_true rfl)) ?_; (repeat' (first | exact (trivial : True) | refine And.intro ?_ ?_ | refine ⟨_, rfl, ?_⟩ | omega | decide)); rintro _ ⟨t, ht, rfl⟩) | (refine CallN.many (any_c hb hl (by omega) (by omega)) ?_; rintro _ ⟨⟨vk, vn, vt, vl⟩, p2, hv, hp1, hp2, rfl⟩) | ((have hv' := hv; refine CallN.many (plain_c hb hl 0 (by omega) (by omega) (by omega) (by omega) (by omega)) ?_; rintro _ ⟨⟨wk, wn, wt, wl⟩, p3, hw, hp3, hp4, rfl⟩)) | (refine CallN.many (plain_c hb hl 0 (by omega) (by omega) (by omega) (by omega) (by omega)) ?_; rintro _ ⟨⟨vk, vn, vt, vl⟩, p2, hv, hp1, hp2, rfl⟩) | (refine AllocC.go (fun l2 cap2 hl2 hcap2 => ?_)) | (refine GetN.go ?_ (h := get_rd2 ‹_› ‹_›)) | (refine Need.go ?_ (h := ⟨rfl, by omega, by simp only [List.length_cons, List.length_nil]; omega, by simp only [List.length_cons, List.length_nil]; omega, ElsOk.one rfl rfl⟩)) | (refine Need.go ?_ (h := ⟨rfl, by omega, by simp only [List.length_cons, List.length_nil]; omega, by simp only [List.length_cons, List.length_nil]; omega, ElsOk.cons rfl rfl (ElsOk.one rfl rfl)⟩)) | refine Fork.nb ?_ | refine Fork.dp (fun h => ?_) (fun h => ?_) | refine ExtN.wr ?_ | refine finGo ?_) <;> try (conv => whnf)
  all_goals first
    | exact lo_a g hn (by omega) (by omega) hs n1 n2 n3
    | exact lo_b (by rw [grow_in hn]; exact g.snoc (by omega) ht hv) (by rw [grow_in hn, List.length_append]; simp only [List.length_cons, List.length_nil]; omega) (by omega) (by omega) hs n1 n2
    | exact lo_b (by rw [grow_in hn]; exact g.snoc2 (by omega) (by decide) hv (by decide) hw) (by rw [grow_in hn, List.length_append]; simp only [List.length_cons, List.length_nil]; omega) (by omega) (by omega) hs n1 n2
    | exact lo_c (by rw [grow_new hn]; exact g.snoc (by omega) ht hv) (by rw [grow_new hn, List.length_append]; simp only [List.length_cons, List.length_nil]; omega) (by omega) (by omega) hs hl2
    | exact lo_c (by rw [grow_new hn]; exact g.snoc2 (by omega) (by decide) hv (by decide) hw) (by rw [grow_new hn, List.length_append]; simp only [List.length_cons, List.length_nil]; omega) (by omega) (by omega) hs hl2
theorem anyProps_d {l : Nat} {σ : Heap} {bs : List CV} (hb : BytesOk bs) (hl : bs.length ≤ 2000) {p : Int} (hp : 0 ≤ p) (hp' : p < 137438953472) : CRun Tryz.prog 72 [.ptr (.g l) 0] (rd σ l bs p) (LDraw PropG σ l bs p 700) := lopen_draw (anyProps_o hb hl hp hp')
theorem prs_take {ps : List Pr} {i : Nat} {q : Pr} (h : ps[i]? = some q) : prs (ps.take (i + 1)) = prs (ps.take i) ++ [q.cv] := by
  unfold prs
  rw [List.take_add_one, h]; simp
theorem l2Ps_c {σ : Heap} {ps : List Pr} (hlen : ps.length ≤ 1000) (ht : ∀ q ∈ ps, Tame q.val) : CRun Tryz.prog 143 [.vec (prs ps)] σ (· = .ret (.vec (prs ps)) σ) := by
  have e3 := prs_len ps
  refine crun_of (X := X) X_ok X_sat (body := bodyOf Tryz.f143) Tryz.func143 rfl (by kernel_rfl) (by kernel_rfl) ?_
  rw [Tryz.ntmps143]
  conv => whnf
  repeat' (first | refine OrdN.one ?_ | refine Fork.yp ?_ | refine Fork.np ?_ | refine Fork.ny ?_ | refine Fork.nn ?_ | refine Fork.yb ?_ | refine Fork.nb ?_ | refine Fork.dp (fun h => ?_) (fun h => ?_) | refine Fork.dn (fun h => ?_) (fun h => ?_) | (refine Fork.mk (fun h => ?_) (fun h => ?_) <;> simp only [decide_eq_true_eq, decide_eq_false_iff_not, Bool.not_eq_true', Bool.not_eq_false', Bool.or_eq_true, Bool.or_eq_false_iff] at h) | refine GetN.go ?_ | refine Need.ap1 ?_ | refine Need.ap0 ?_ | refine Need.go ?_ | refine Need.draw ?_ | refine ElemN.go ?_ | refine ExtN.ext ?_ | refine ExtN.wr ?_ | refine AllocN.go (fun l hl => ?_) | refine finGo ?_) <;> try (conv => whnf)
  refine LoopN.rule (α := Nat) (fun i => ⟨28, [(0, .vec (prs ps)), (3, .avec 5 (prs (ps.take i))), (4, i64 i)], [(5, .tok 178 5 (prs (ps.take i)).length)]⟩)
    (fun _ => σ) (fun i => ps.length - i) (fun i => i ≤ ps.length) ?_ 0 (by omega) ?_
  · intro i K hi0 hK
    try dsimp only at hi0 ⊢
    by_cases hi : i < ps.length
    · obtain ⟨s, vk, vn, vt, vl, hm, hg', hg⟩ := prs_at hi
      have e4 : (prs (ps.take i)).length = i := by rw [prs_len, List.length_take]; omega
      have c1 := copy_c (σ := σ) (ht _ hm)
      dsimp only at c1
      have hK := hK (i + 1)
      try dsimp only at hK
      rw [prs_take hg', List.length_append] at hK
      conv => whnf
      repeat' (first | (refine CallN.one c1 ?_) | refine OrdN.one ?_ | refine Fork.yp ?_ | refine Fork.nb ?_ | refine Need.ap1 ?_ | refine Need.go ?_ | refine Need.draw ?_ | refine ElemN.go ?_ | refine ExtN.ext ?_) <;> try (conv => whnf)
      refine hK _ _ (by omega) (by omega) ?_
      (refine ⟨rfl, ?_, ?_, Sub.refl _⟩ <;> repeat' (first | exact EnvLe.nil | exact LocsLe.nil | refine EnvLe.cons _ _ _ ?_ ?_ | refine LocsLe.cons _ _ _ ?_ ?_ | exact CVle.same _ rfl | exact CVle.vec _ _ | exact CVle.nil | exact CVle.tok _ _ _ rfl rfl | exact ObLe.tok _ _ rfl | exact CVles.nil | refine CVles.cons ?_ ?_ | exact ObLe.same _ rfl rfl | refine ObLe.cells rfl ?_))
    · have e5 : ps.take i = ps := List.take_of_length_le (by omega)
      rw [e5]
      conv => whnf
      repeat' (first | refine Fork.np ?_ | refine finGo ?_) <;> try (conv => whnf)
      all_goals rfl
  · (refine ⟨rfl, ?_, ?_, Sub.refl _⟩ <;> repeat' (first | exact EnvLe.nil | exact LocsLe.nil | refine EnvLe.cons _ _ _ ?_ ?_ | refine LocsLe.cons _ _ _ ?_ ?_ | exact CVle.same _ rfl | exact CVle.vec _ _ | exact CVle.nil | exact CVle.tok _ _ _ rfl rfl | exact ObLe.tok _ _ rfl | exact CVles.nil | refine CVles.cons ?_ ?_ | exact ObLe.same _ rfl rfl | refine ObLe.cells rfl ?_))
theorem st_nil : CV.strips0 [] = some [] := by simp [CV.strips0]
theorem st_cons {x x' : CV} {r r' : List CV} (h : CV.strip0 x = some x') (hr : CV.strips0 r = some r') : CV.strips0 (x :: r) = some (x' :: r') := by simp [CV.strips0, h, hr]
theorem s0_agg {cs cs' : List CV} (h : CV.strips0 cs = some cs') : CV.strip0 (.agg cs) = some (.agg cs') := by simp [CV.strip0, h]
theorem s0_nil : CV.strip0 .nil = some .nil := by simp [CV.strip0]
theorem s0_sc {v : Value} : CV.strip0 (.sc v) = some (.sc v) := by simp [CV.strip0, CV.strip]
theorem s0_grow {l n c : Nat} : CV.strip0 (.grow l n c) = some (.grow l n c) := by simp [CV.strip0, CV.strip]
theorem s0_vec {xs : List CV} : CV.strip0 (.vec xs) = some (.vec xs) := by simp [CV.strip0, CV.strip]
theorem s0_avec {d : Nat} {xs : List CV} : CV.strip0 (.avec d xs) = some (.vec xs) := by simp [CV.strip0, CV.strip]
theorem s0_ptr {l off : Nat} : CV.strip0 (.ptr (.g l) off) = some (.ptr (.g l) off) := by simp [CV.strip0, CV.strip]
inductive OC (H : Heap) (T sz : Nat) : CV → List CV → Prop
  | nil : OC H T sz .nil []
  | vec (xs : List CV) : OC H T sz (.vec xs) xs
  | grow (l n cap : Nat) (xs : List CV) (hn : n = xs.length) (h : H l = some (.arr T sz cap xs)) : OC H T sz (.grow l n cap) xs
structure GI (σ : Heap) (l0 : Nat) (s : Heap) (cN cE : CV) (ns : List Nd) (es : List Ed) : Prop where
  sub : Sub σ s
  oN : OC s 110 3 cN (nds ns)
  oE : OC s 107 5 cE (eds es)
  fN : ∀ l n cap, cN = .grow l n cap → σ l = none ∧ l ≠ l0
  fE : ∀ l n cap, cE = .grow l n cap → σ l = none ∧ l ≠ l0
  vN : ∀ xs, cN = .vec xs → False
  dj : ∀ l n cap n' cap', cN = .grow l n cap → cE = .grow l n' cap' → False
  tn : ∀ n ∈ ns, NdTame n
  te : ∀ e ∈ es, EdTame e
theorem OC.put {s : Heap} {T sz T' sz' l cap : Nat} {c : CV} {xs ys : List CV} (h : OC s T sz c xs) (hd : ∀ n cap', c = .grow l n cap' → False) : OC (upd s l (.arr T' sz' cap ys)) T sz c xs := by
  cases h with
  | nil => exact .nil
  | vec _ => exact .vec _
  | grow l' n cap' _ hn h =>
    have : l' ≠ l := fun e => by subst e; exact hd _ _ rfl
    exact .grow l' n cap' _ hn (by rw [upd_ne _ _ this]; exact h)
theorem OC.sub {s s' : Heap} {T sz : Nat} {c : CV} {xs : List CV} (h : OC s T sz c xs) (hs : Sub s s') : OC s' T sz c xs := by
  cases h with
  | nil => exact .nil
  | vec _ => exact .vec _
  | grow l' n cap' _ hn h => exact .grow l' n cap' _ hn (hs _ _ h)
section
variable {σ s : Heap} {l0 lx n cap : Nat} {cN cE : CV} {ns : List Nd} {es : List Ed}
theorem GI.putN (h : GI σ l0 s cN cE ns es) {x : Nd} {xs : List CV} (hx : NdTame x) (hxs : xs = nds ns ++ [x.cv]) (hn : n = xs.length) (f1 : σ lx = none) (f2 : lx ≠ l0) (hd : ∀ n cap, cE = .grow lx n cap → False) : GI σ l0 (upd s lx (.arr 110 3 cap xs)) (.grow lx n cap) cE (ns ++ [x]) es := by
  have e : nds (ns ++ [x]) = xs := by rw [hxs]; simp [nds]
  refine ⟨h.sub.upd f1, by rw [e]; exact .grow _ _ _ _ hn (upd_same _ _ _), h.oE.put hd, fun l n cap e => by cases e; exact ⟨f1, f2⟩, h.fE, fun xs e => (by cases e), fun l n cap n' cap' e1 e2 => by cases e1; exact hd _ _ e2, fun y hy => ?_, h.te⟩
  rcases List.mem_append.1 hy with hy | hy
  · exact h.tn y hy
  · rw [List.mem_singleton.1 hy]; exact hx
theorem GI.putE (h : GI σ l0 s cN cE ns es) {x : Ed} {xs : List CV} (hx : EdTame x) (hxs : xs = eds es ++ [x.cv]) (hn : n = xs.length) (f1 : σ lx = none) (f2 : lx ≠ l0) (hd : ∀ n cap, cN = .grow lx n cap → False) : GI σ l0 (upd s lx (.arr 107 5 cap xs)) cN (.grow lx n cap) ns (es ++ [x]) := by
  have e : eds (es ++ [x]) = xs := by rw [hxs]; simp [eds]
  refine ⟨h.sub.upd f1, h.oN.put hd, by rw [e]; exact .grow _ _ _ _ hn (upd_same _ _ _), h.fN, fun l n cap e => by cases e; exact ⟨f1, f2⟩, h.vN, fun l n cap n' cap' e1 e2 => by cases e2; exact hd _ _ e1, h.tn, fun y hy => ?_⟩
  rcases List.mem_append.1 hy with hy | hy
  · exact h.te y hy
  · rw [List.mem_singleton.1 hy]; exact hx
theorem GI.freshE (h : GI σ l0 s cN cE ns es) (hl : s lx = none) : ∀ n cap, cE = .grow lx n cap → False := by
  intro n cap e
  have := h.oE
  subst e
  cases this with
  | grow _ _ _ _ _ h' => rw [hl] at h'; cases h'
theorem GI.freshN (h : GI σ l0 s cN cE ns es) (hl : s lx = none) : ∀ n cap, cN = .grow lx n cap → False := by
  intro n cap e
  have := h.oN
  subst e
  cases this with
  | grow _ _ _ _ _ h' => rw [hl] at h'; cases h'
end
theorem strs_els (ls : List ByteArray) : ElsOk 1 (strs ls) := by
  intro x hx
  unfold strs at hx
  obtain ⟨t, _, rfl⟩ := List.mem_map.1 hx
  exact ⟨rfl, rfl⟩
theorem nodeO_c {H : Heap} {cN cE : CV} {ns : List Nd} {es : List Ed} {nn ne d : Int} (oN : OC H 110 3 cN (nds ns)) (oE : OC H 107 5 cE (eds es)) (hl : ns.length ≤ 1000) (hv : ∀ xs, cN ≠ .vec xs) :
    CRun Tryz.prog 104 [.agg [cN, cE, i64 nn, i64 ne], i64 d] H (fun out => ∃ k, out = .ret (i64 k) H) := by
  have e3 := nds_len ns
  generalize hxs : nds ns = xs at oN e3
  generalize hys : eds es = ys at oE
  cases oN with
  | nil =>
    cases oE with
    | nil =>
      refine crun_of (X := X) X_ok X_sat (body := bodyOf Tryz.f104) Tryz.func104 rfl (by kernel_rfl) (by kernel_rfl) ?_
      rw [Tryz.ntmps104]
      conv => whnf
      repeat' (first | refine OrdN.one ?_ | refine Fork.yp ?_ | refine Fork.np ?_ | refine Fork.ny ?_ | refine Fork.nn ?_ | refine Fork.yb ?_ | refine Fork.nb ?_ | refine Fork.dp (fun h => ?_) (fun h => ?_) | refine Fork.dn (fun h => ?_) (fun h => ?_) | (refine Fork.mk (fun h => ?_) (fun h => ?_) <;> simp only [decide_eq_true_eq, decide_eq_false_iff_not, Bool.not_eq_true', Bool.not_eq_false', Bool.or_eq_true, Bool.or_eq_false_iff] at h) | refine GetN.go ?_ | refine Need.ap1 ?_ | refine Need.ap0 ?_ | refine Need.go ?_ | refine Need.draw ?_ | refine ElemN.go ?_ | refine ExtN.ext ?_ | refine ExtN.wr ?_ | refine AllocN.go (fun l hl => ?_) | refine finGo ?_) <;> try (conv => whnf)
      refine LoopN.rule (α := Nat) (fun i => ⟨22, [(2, .ptr (.f 2) 0), (5, i64 0)], [(2, .cells [.nil, .nil, i64 nn, i64 ne])]⟩) (fun _ => H) (fun i => 0) (fun i => True) ?_ 0 trivial ?_
      · intro i K _ hK
        conv => whnf
        repeat' (first | refine Fork.nb ?_ | refine finGo ?_) <;> try (conv => whnf)
        exact ⟨_, rfl⟩
      · (refine ⟨rfl, ?_, ?_, Sub.refl _⟩ <;> repeat' (first | exact EnvLe.nil | exact LocsLe.nil | refine EnvLe.cons _ _ _ ?_ ?_ | refine LocsLe.cons _ _ _ ?_ ?_ | exact CVle.same _ rfl | exact CVle.vec _ _ | exact CVle.nil | exact CVle.tok _ _ _ rfl rfl | exact ObLe.tok _ _ rfl | exact CVles.nil | refine CVles.cons ?_ ?_ | exact ObLe.same _ rfl rfl | refine ObLe.cells rfl ?_))
    | vec _ =>
      refine crun_of (X := X) X_ok X_sat (body := bodyOf Tryz.f104) Tryz.func104 rfl (by kernel_rfl) (by kernel_rfl) ?_
      rw [Tryz.ntmps104]
      conv => whnf
      repeat' (first | refine OrdN.one ?_ | refine Fork.yp ?_ | refine Fork.np ?_ | refine Fork.ny ?_ | refine Fork.nn ?_ | refine Fork.yb ?_ | refine Fork.nb ?_ | refine Fork.dp (fun h => ?_) (fun h => ?_) | refine Fork.dn (fun h => ?_) (fun h => ?_) | (refine Fork.mk (fun h => ?_) (fun h => ?_) <;> simp only [decide_eq_true_eq, decide_eq_false_iff_not, Bool.not_eq_true', Bool.not_eq_false', Bool.or_eq_true, Bool.or_eq_false_iff] at h) | refine GetN.go ?_ | refine Need.ap1 ?_ | refine Need.ap0 ?_ | refine Need.go ?_ | refine Need.draw ?_ | refine ElemN.go ?_ | refine ExtN.ext ?_ | refine ExtN.wr ?_ | refine AllocN.go (fun l hl => ?_) | refine finGo ?_) <;> try (conv => whnf)
      refine LoopN.rule (α := Nat) (fun i => ⟨22, [(2, .ptr (.f 2) 0), (5, i64 0)], [(2, .cells [.nil, .vec ys, i64 nn, i64 ne])]⟩) (fun _ => H) (fun i => 0) (fun i => True) ?_ 0 trivial ?_
      · intro i K _ hK
        conv => whnf
        repeat' (first | refine Fork.nb ?_ | refine finGo ?_) <;> try (conv => whnf)
        exact ⟨_, rfl⟩
      · (refine ⟨rfl, ?_, ?_, Sub.refl _⟩ <;> repeat' (first | exact EnvLe.nil | exact LocsLe.nil | refine EnvLe.cons _ _ _ ?_ ?_ | refine LocsLe.cons _ _ _ ?_ ?_ | exact CVle.same _ rfl | exact CVle.vec _ _ | exact CVle.nil | exact CVle.tok _ _ _ rfl rfl | exact ObLe.tok _ _ rfl | exact CVles.nil | refine CVles.cons ?_ ?_ | exact ObLe.same _ rfl rfl | refine ObLe.cells rfl ?_))
    | grow lE mE capE _ hmE gE =>
      refine crun_of (X := X) X_ok X_sat (body := bodyOf Tryz.f104) Tryz.func104 rfl (by kernel_rfl) (by kernel_rfl) ?_
      rw [Tryz.ntmps104]
      conv => whnf
      repeat' (first | refine OrdN.one ?_ | refine Fork.yp ?_ | refine Fork.np ?_ | refine Fork.ny ?_ | refine Fork.nn ?_ | refine Fork.yb ?_ | refine Fork.nb ?_ | refine Fork.dp (fun h => ?_) (fun h => ?_) | refine Fork.dn (fun h => ?_) (fun h => ?_) | (refine Fork.mk (fun h => ?_) (fun h => ?_) <;> simp only [decide_eq_true_eq, decide_eq_false_iff_not, Bool.not_eq_true', Bool.not_eq_false', Bool.or_eq_true, Bool.or_eq_false_iff] at h) | refine GetN.go ?_ | refine Need.ap1 ?_ | refine Need.ap0 ?_ | refine Need.go ?_ | refine Need.draw ?_ | refine ElemN.go ?_ | refine ExtN.ext ?_ | refine ExtN.wr ?_ | refine AllocN.go (fun l hl => ?_) | refine finGo ?_) <;> try (conv => whnf)
      refine LoopN.rule (α := Nat) (fun i => ⟨22, [(2, .ptr (.f 2) 0), (5, i64 0)], [(2, .cells [.nil, .grow lE mE capE, i64 nn, i64 ne])]⟩) (fun _ => H) (fun i => 0) (fun i => True) ?_ 0 trivial ?_
      · intro i K _ hK
        conv => whnf
        repeat' (first | refine Fork.nb ?_ | refine finGo ?_) <;> try (conv => whnf)
        exact ⟨_, rfl⟩
      · (refine ⟨rfl, ?_, ?_, Sub.refl _⟩ <;> repeat' (first | exact EnvLe.nil | exact LocsLe.nil | refine EnvLe.cons _ _ _ ?_ ?_ | refine LocsLe.cons _ _ _ ?_ ?_ | exact CVle.same _ rfl | exact CVle.vec _ _ | exact CVle.nil | exact CVle.tok _ _ _ rfl rfl | exact ObLe.tok _ _ rfl | exact CVles.nil | refine CVles.cons ?_ ?_ | exact ObLe.same _ rfl rfl | refine ObLe.cells rfl ?_))
  | vec _ => exact absurd rfl (hv _)
  | grow lN n cap _ hn gN =>
    cases oE with
    | nil =>
      refine crun_of (X := X) X_ok X_sat (body := bodyOf Tryz.f104) Tryz.func104 rfl (by kernel_rfl) (by kernel_rfl) ?_
      rw [Tryz.ntmps104]
      conv => whnf
      repeat' (first | refine OrdN.one ?_ | refine Fork.yp ?_ | refine Fork.np ?_ | refine Fork.ny ?_ | refine Fork.nn ?_ | refine Fork.yb ?_ | refine Fork.nb ?_ | refine Fork.dp (fun h => ?_) (fun h => ?_) | refine Fork.dn (fun h => ?_) (fun h => ?_) | (refine Fork.mk (fun h => ?_) (fun h => ?_) <;> simp only [decide_eq_true_eq, decide_eq_false_iff_not, Bool.not_eq_true', Bool.not_eq_false', Bool.or_eq_true, Bool.or_eq_false_iff] at h) | refine GetN.go ?_ | refine Need.ap1 ?_ | refine Need.ap0 ?_ | refine Need.go ?_ | refine Need.draw ?_ | refine ElemN.go ?_ | refine ExtN.ext ?_ | refine ExtN.wr ?_ | refine AllocN.go (fun l hl => ?_) | refine finGo ?_) <;> try (conv => whnf)
      refine LoopN.rule (α := Nat) (fun i => ⟨22, [(1, i64 d), (2, .ptr (.f 2) 0), (5, i64 i)], [(2, .cells [.grow lN n cap, .nil, i64 nn, i64 ne])]⟩)
        (fun _ => H) (fun i => n - i) (fun i => i ≤ n) ?_ 0 (by omega) ?_
      · intro i K h1 hK
        try dsimp only at h1 ⊢
        by_cases hi : i < n
        · obtain ⟨d', ls, ps, hm, hg', hg, hd⟩ := nds_at (l := ns) (i := i) (by omega)
          rw [hxs] at hg
          have hg : xs[(i : Int).toNat]? = some (.agg [i64 d', .vec (strs ls), .vec (prs ps)]) := hg
          conv => whnf
          repeat' (first | refine Fork.yp ?_ | refine Fork.dp (fun h => ?_) (fun h => ?_) | refine GetN.go ?_ | refine Need.go ?_ | refine ElemN.go ?_ | refine finGo ?_) <;> try (conv => whnf)
          all_goals first
            | exact ⟨_, rfl⟩
            | (refine hK (i + 1) _ _ (by omega) (by omega) ?_; (refine ⟨rfl, ?_, ?_, Sub.refl _⟩ <;> repeat' (first | exact EnvLe.nil | exact LocsLe.nil | refine EnvLe.cons _ _ _ ?_ ?_ | refine LocsLe.cons _ _ _ ?_ ?_ | exact CVle.same _ rfl | exact CVle.vec _ _ | exact CVle.nil | exact CVle.tok _ _ _ rfl rfl | exact ObLe.tok _ _ rfl | exact CVles.nil | refine CVles.cons ?_ ?_ | exact ObLe.same _ rfl rfl | refine ObLe.cells rfl ?_)))
        · conv => whnf
          repeat' (first | refine Fork.np ?_ | refine finGo ?_) <;> try (conv => whnf)
          exact ⟨_, rfl⟩
      · (refine ⟨rfl, ?_, ?_, Sub.refl _⟩ <;> repeat' (first | exact EnvLe.nil | exact LocsLe.nil | refine EnvLe.cons _ _ _ ?_ ?_ | refine LocsLe.cons _ _ _ ?_ ?_ | exact CVle.same _ rfl | exact CVle.vec _ _ | exact CVle.nil | exact CVle.tok _ _ _ rfl rfl | exact ObLe.tok _ _ rfl | exact CVles.nil | refine CVles.cons ?_ ?_ | exact ObLe.same _ rfl rfl | refine ObLe.cells rfl ?_))
    | vec _ =>
      refine crun_of (X := X) X_ok X_sat (body := bodyOf Tryz.f104) Tryz.func104 rfl (by kernel_rfl) (by kernel_rfl) ?_
      rw [Tryz.ntmps104]
      conv => whnf
      repeat' (first | refine OrdN.one ?_ | refine Fork.yp ?_ | refine Fork.np ?_ | refine Fork.ny ?_ | refine Fork.nn ?_ | refine Fork.yb ?_ | refine Fork.nb ?_ | refine Fork.dp (fun h => ?_) (fun h => ?_) | refine Fork.dn (fun h => ?_) (fun h => ?_) | (refine Fork.mk (fun h => ?_) (fun h => ?_) <;> simp only [decide_eq_true_eq, decide_eq_false_iff_not, Bool.not_eq_true', Bool.not_eq_false', Bool.or_eq_true, Bool.or_eq_false_iff] at h) | refine GetN.go ?_ | refine Need.ap1 ?_ | refine Need.ap0 ?_ | refine Need.go ?_ | refine Need.draw ?_ | refine ElemN.go ?_ | refine ExtN.ext ?_ | refine ExtN.wr ?_ | refine AllocN.go (fun l hl => ?_) | refine finGo ?_) <;> try (conv => whnf)
      refine LoopN.rule (α := Nat) (fun i => ⟨22, [(1, i64 d), (2, .ptr (.f 2) 0), (5, i64 i)], [(2, .cells [.grow lN n cap, .vec ys, i64 nn, i64 ne])]⟩)
        (fun _ => H) (fun i => n - i) (fun i => i ≤ n) ?_ 0 (by omega) ?_
      · intro i K h1 hK
        try dsimp only at h1 ⊢
        by_cases hi : i < n
        · obtain ⟨d', ls, ps, hm, hg', hg, hd⟩ := nds_at (l := ns) (i := i) (by omega)
          rw [hxs] at hg
          have hg : xs[(i : Int).toNat]? = some (.agg [i64 d', .vec (strs ls), .vec (prs ps)]) := hg
          conv => whnf
          repeat' (first | refine Fork.yp ?_ | refine Fork.dp (fun h => ?_) (fun h => ?_) | refine GetN.go ?_ | refine Need.go ?_ | refine ElemN.go ?_ | refine finGo ?_) <;> try (conv => whnf)
          all_goals first
            | exact ⟨_, rfl⟩
            | (refine hK (i + 1) _ _ (by omega) (by omega) ?_; (refine ⟨rfl, ?_, ?_, Sub.refl _⟩ <;> repeat' (first | exact EnvLe.nil | exact LocsLe.nil | refine EnvLe.cons _ _ _ ?_ ?_ | refine LocsLe.cons _ _ _ ?_ ?_ | exact CVle.same _ rfl | exact CVle.vec _ _ | exact CVle.nil | exact CVle.tok _ _ _ rfl rfl | exact ObLe.tok _ _ rfl | exact CVles.nil | refine CVles.cons ?_ ?_ | exact ObLe.same _ rfl rfl | refine ObLe.cells rfl ?_)))
        · conv => whnf
          repeat' (first | refine Fork.np ?_ | refine finGo ?_) <;> try (conv => whnf)
          exact ⟨_, rfl⟩
      · (refine ⟨rfl, ?_, ?_, Sub.refl _⟩ <;> repeat' (first | exact EnvLe.nil | exact LocsLe.nil | refine EnvLe.cons _ _ _ ?_ ?_ | refine LocsLe.cons _ _ _ ?_ ?_ | exact CVle.same _ rfl | exact CVle.vec _ _ | exact CVle.nil | exact CVle.tok _ _ _ rfl rfl | exact ObLe.tok _ _ rfl | exact CVles.nil | refine CVles.cons ?_ ?_ | exact ObLe.same _ rfl rfl | refine ObLe.cells rfl ?_))
    | grow lE mE capE _ hmE gE =>
      refine crun_of (X := X) X_ok X_sat (body := bodyOf Tryz.f104) Tryz.func104 rfl (by kernel_rfl) (by kernel_rfl) ?_
      rw [Tryz.ntmps104]
      conv => whnf
      repeat' (first | refine OrdN.one ?_ | refine Fork.yp ?_ | refine Fork.np ?_ | refine Fork.ny ?_ | refine Fork.nn ?_ | refine Fork.yb ?_ | refine Fork.nb ?_ | refine Fork.dp (fun h => ?_) (fun h => ?_) | refine Fork.dn (fun h => ?_) (fun h => ?_) | (refine Fork.mk (fun h => ?_) (fun h => ?_) <;> simp only [decide_eq_true_eq, decide_eq_false_iff_not, Bool.not_eq_true', Bool.not_eq_false', Bool.or_eq_true, Bool.or_eq_false_iff] at h) | refine GetN.go ?_ | refine Need.ap1 ?_ | refine Need.ap0 ?_ | refine Need.go ?_ | refine Need.draw ?_ | refine ElemN.go ?_ | refine ExtN.ext ?_ | refine ExtN.wr ?_ | refine AllocN.go (fun l hl => ?_) | refine finGo ?_) <;> try (conv => whnf)
      refine LoopN.rule (α := Nat) (fun i => ⟨22, [(1, i64 d), (2, .ptr (.f 2) 0), (5, i64 i)], [(2, .cells [.grow lN n cap, .grow lE mE capE, i64 nn, i64 ne])]⟩)
        (fun _ => H) (fun i => n - i) (fun i => i ≤ n) ?_ 0 (by omega) ?_
      · intro i K h1 hK
        try dsimp only at h1 ⊢
        by_cases hi : i < n
        · obtain ⟨d', ls, ps, hm, hg', hg, hd⟩ := nds_at (l := ns) (i := i) (by omega)
          rw [hxs] at hg
          have hg : xs[(i : Int).toNat]? = some (.agg [i64 d', .vec (strs ls), .vec (prs ps)]) := hg
          conv => whnf
          repeat' (first | refine Fork.yp ?_ | refine Fork.dp (fun h => ?_) (fun h => ?_) | refine GetN.go ?_ | refine Need.go ?_ | refine ElemN.go ?_ | refine finGo ?_) <;> try (conv => whnf)
          all_goals first
            | exact ⟨_, rfl⟩
            | (refine hK (i + 1) _ _ (by omega) (by omega) ?_; (refine ⟨rfl, ?_, ?_, Sub.refl _⟩ <;> repeat' (first | exact EnvLe.nil | exact LocsLe.nil | refine EnvLe.cons _ _ _ ?_ ?_ | refine LocsLe.cons _ _ _ ?_ ?_ | exact CVle.same _ rfl | exact CVle.vec _ _ | exact CVle.nil | exact CVle.tok _ _ _ rfl rfl | exact ObLe.tok _ _ rfl | exact CVles.nil | refine CVles.cons ?_ ?_ | exact ObLe.same _ rfl rfl | refine ObLe.cells rfl ?_)))
        · conv => whnf
          repeat' (first | refine Fork.np ?_ | refine finGo ?_) <;> try (conv => whnf)
          exact ⟨_, rfl⟩
      · (refine ⟨rfl, ?_, ?_, Sub.refl _⟩ <;> repeat' (first | exact EnvLe.nil | exact LocsLe.nil | refine EnvLe.cons _ _ _ ?_ ?_ | refine LocsLe.cons _ _ _ ?_ ?_ | exact CVle.same _ rfl | exact CVle.vec _ _ | exact CVle.nil | exact CVle.tok _ _ _ rfl rfl | exact ObLe.tok _ _ rfl | exact CVles.nil | refine CVles.cons ?_ ?_ | exact ObLe.same _ rfl rfl | refine ObLe.cells rfl ?_))
def AddNP (σ : Heap) (l0 : Nat) (bs : List CV) (q : Int) (cE : CV) (ns : List Nd) (es : List Ed) (nn ne : Int) (F : Prop) (out : COut) : Prop := ∃ s' cN' ns' nn' b, GI σ l0 s' cN' cE ns' es ∧ ((ns'.length = ns.length ∧ nn' = nn ∧ F) ∨ (ns'.length = ns.length + 1 ∧ nn' = nn + 1)) ∧
  out = .ret (.tup [.agg [cN', cE, i64 nn', i64 ne], .sc (.bool b)]) (rd s' l0 bs q)
section
variable {σ s : Heap} {l0 lx n cap : Nat} {bs : List CV} {q : Int} {cN cE : CV} {ns : List Nd} {es : List Ed} {nn ne : Int} {F : Prop} {b : Bool} {ls : List ByteArray} {ps : List Pr} {xs : List CV}
theorem addN_same (h : GI σ l0 s cN cE ns es) (hF : F) : AddNP σ l0 bs q cE ns es nn ne F (.ret (.tup [.agg [cN, cE, i64 nn, i64 ne], .sc (.bool b)]) (rd s l0 bs q)) :=
  ⟨s, cN, ns, nn, b, h, .inl ⟨rfl, rfl, hF⟩, rfl⟩
theorem addN_at (h : GI σ l0 s cN cE ns es) (hx : NdTame ⟨nn, ls, ps⟩) (f1 : σ lx = none) (f2 : lx ≠ l0) (hd : ∀ n cap, cE = .grow lx n cap → False) (hxs : xs = nds ns ++ [Nd.cv ⟨nn, ls, ps⟩]) (hn : n = ns.length + 1) :
    AddNP σ l0 bs q cE ns es nn ne F (.ret (.tup [.agg [.grow lx n cap, cE, i64 (nn + 1), i64 ne], .sc (.bool b)]) (upd (rd s l0 bs q) lx (.arr 110 3 cap xs))) := by
  rw [rd_upd' f2]
  exact ⟨_, _, _, nn + 1, b, h.putN hx hxs (by rw [hn, hxs, List.length_append, nds_len]; rfl) f1 f2 hd, .inr ⟨by simp, rfl⟩, rfl⟩
theorem addN_new (h : GI σ l0 s cN cE ns es) (hx : NdTame ⟨nn, ls, ps⟩) (hl : rd s l0 bs q lx = none) (hxs : xs = nds ns ++ [Nd.cv ⟨nn, ls, ps⟩]) (hn : n = ns.length + 1) :
    AddNP σ l0 bs q cE ns es nn ne F (.ret (.tup [.agg [.grow lx n cap, cE, i64 (nn + 1), i64 ne], .sc (.bool b)]) (upd (rd s l0 bs q) lx (.arr 110 3 cap xs))) :=
  addN_at h hx (fresh_sub h.sub hl) (ne_rd hl) (h.freshE (no_rd hl)) hxs hn
end
set_option maxHeartbeats 4000000 in
theorem addNode_c {σ s : Heap} {l0 : Nat} {bs : List CV} {q : Int} {cN cE : CV} {ns : List Nd} {es : List Ed} {nn ne : Int} {ls : List ByteArray} {ps : List Pr} (hG : GI σ l0 s cN cE ns es) (hx : NdTame ⟨nn, ls, ps⟩) (hln : ns.length ≤ 100) (hnn : 0 ≤ nn ∧ nn ≤ 1000000) :
    CRun Tryz.prog 144 [.agg [cN, cE, i64 nn, i64 ne], .vec (strs ls), .vec (prs ps)] (rd s l0 bs q) (AddNP σ l0 bs q cE ns es nn ne (labelsOk ls = true → propsOk ps = true → 12 ≤ ns.length)) := by
  have c1 := split (l2Labels_c (σ := rd s l0 bs q) hx.ll hx.ls)
  have c2 := split (l2Props_c (σ := rd s l0 bs q) hx.pl hx.ps)
  have c3 := l2Ps_c (σ := rd s l0 bs q) hx.pl (fun p hp => (hx.ps p hp).val)
  have e3 := nds_len ns
  have oN := hG.oN
  have oE := hG.oE
  have els := strs_els ls
  have esl := strs_len ls
  have hll := hx.ll
  dsimp only at c1 c2 c3 hll
  generalize hxs : nds ns = xs at oN e3
  generalize hys : eds es = ys at oE
  have z0 : ([] : List CV).length = 0 := rfl
  cases oN with
  | nil =>
    cases oE with
    | nil =>
      cases ls with
      | nil =>
        refine crun_of (X := G [39]) (G_ok _) (G_sat _) (body := bodyOf Tryz.f144) Tryz.func144 rfl (by kernel_rfl) (by kernel_rfl) ?_
        rw [Tryz.ntmps144]
        conv => whnf
        repeat' (first | (refine CallN.many c1 ?_; rintro _ (⟨hla, rfl⟩ | ⟨hla, rfl⟩)) | (refine CallN.many c2 ?_; rintro _ (⟨hpr, rfl⟩ | ⟨hpr, rfl⟩)) | (refine CallN.one c3 ?_) | (refine AllocC.go (fun l2 cap2 hl2 hcap2 => ?_)) | (refine Need.go ?_ (h := ⟨by simp only [List.length_cons, List.length_nil]; omega, by simp only [List.length_cons, List.length_nil]; omega, ElsOk.one rfl rfl⟩)) | (apply fin0; (case hs => (repeat' (first | with_reducible exact st_nil | with_reducible apply st_cons | ((conv => enter [1, 1]; whnf); first | with_reducible exact st_nil | with_reducible apply st_cons | ((with_reducible refine Eq.trans s0_sc ?_); rfl) | ((with_reducible refine Eq.trans s0_nil ?_); rfl) | ((with_reducible refine Eq.trans s0_grow ?_); rfl) | ((with_reducible refine Eq.trans s0_vec ?_); rfl) | ((with_reducible refine Eq.trans s0_avec ?_); rfl) | ((with_reducible refine Eq.trans s0_ptr ?_); rfl) | with_reducible apply s0_agg))))) | refine OrdN.go ?_ | refine Fork.np ?_ | refine Fork.yb ?_ | refine Fork.nb ?_ | refine Need.go ?_ | refine Need.draw ?_ | refine ExtN.ext ?_) <;> try (conv => whnf)
        all_goals first
          | exact addN_same hG (fun a b => by first | (rw [hla] at a; exact Bool.noConfusion a) | (rw [hpr] at b; exact Bool.noConfusion b) | omega)
          | exact addN_new hG hx hl2 (by rw [hxs]; rfl) (by have := e3; rw [z0] at this; simp only [List.length_cons, List.length_nil]; omega)
          | (exfalso; omega)
      | cons s0 r =>
        refine crun_of (X := G [39]) (G_ok _) (G_sat _) (body := bodyOf Tryz.f144) Tryz.func144 rfl (by kernel_rfl) (by kernel_rfl) ?_
        rw [Tryz.ntmps144]
        conv => whnf
        repeat' (first | (refine CallN.many c1 ?_; rintro _ (⟨hla, rfl⟩ | ⟨hla, rfl⟩)) | (refine CallN.many c2 ?_; rintro _ (⟨hpr, rfl⟩ | ⟨hpr, rfl⟩)) | (refine CallN.one c3 ?_) | (refine AllocC.go (fun l2 cap2 hl2 hcap2 => ?_)) | (refine Need.ap2 ?_ (h := els) (h1 := by simp only [List.length_replicate]; omega) (h3 := by rw [esl]; simp) (h2 := rfl)) | (refine Need.go ?_ (h := ⟨by simp only [List.length_cons, List.length_nil]; omega, by simp only [List.length_cons, List.length_nil]; omega, ElsOk.one rfl rfl⟩)) | (apply fin0; (case hs => (repeat' (first | with_reducible exact st_nil | with_reducible apply st_cons | ((conv => enter [1, 1]; whnf); first | with_reducible exact st_nil | with_reducible apply st_cons | ((with_reducible refine Eq.trans s0_sc ?_); rfl) | ((with_reducible refine Eq.trans s0_nil ?_); rfl) | ((with_reducible refine Eq.trans s0_grow ?_); rfl) | ((with_reducible refine Eq.trans s0_vec ?_); rfl) | ((with_reducible refine Eq.trans s0_avec ?_); rfl) | ((with_reducible refine Eq.trans s0_ptr ?_); rfl) | with_reducible apply s0_agg))))) | refine OrdN.go ?_ | refine Fork.np ?_ | refine Fork.nb ?_ | refine Need.go ?_ | refine Need.draw ?_ | refine ExtN.ext ?_) <;> try (conv => whnf)
        all_goals first
          | exact addN_same hG (fun a b => by first | (rw [hla] at a; exact Bool.noConfusion a) | (rw [hpr] at b; exact Bool.noConfusion b) | omega)
          | exact addN_new hG hx hl2 (by rw [hxs]; rfl) (by have := e3; rw [z0] at this; simp only [List.length_cons, List.length_nil]; omega)
          | (exfalso; omega)
    | vec _ =>
      cases ls with
      | nil =>
        refine crun_of (X := G [39]) (G_ok _) (G_sat _) (body := bodyOf Tryz.f144) Tryz.func144 rfl (by kernel_rfl) (by kernel_rfl) ?_
        rw [Tryz.ntmps144]
        conv => whnf
        repeat' (first | (refine CallN.many c1 ?_; rintro _ (⟨hla, rfl⟩ | ⟨hla, rfl⟩)) | (refine CallN.many c2 ?_; rintro _ (⟨hpr, rfl⟩ | ⟨hpr, rfl⟩)) | (refine CallN.one c3 ?_) | (refine AllocC.go (fun l2 cap2 hl2 hcap2 => ?_)) | (refine Need.go ?_ (h := ⟨by simp only [List.length_cons, List.length_nil]; omega, by simp only [List.length_cons, List.length_nil]; omega, ElsOk.one rfl rfl⟩)) | (apply fin0; (case hs => (repeat' (first | with_reducible exact st_nil | with_reducible apply st_cons | ((conv => enter [1, 1]; whnf); first | with_reducible exact st_nil | with_reducible apply st_cons | ((with_reducible refine Eq.trans s0_sc ?_); rfl) | ((with_reducible refine Eq.trans s0_nil ?_); rfl) | ((with_reducible refine Eq.trans s0_grow ?_); rfl) | ((with_reducible refine Eq.trans s0_vec ?_); rfl) | ((with_reducible refine Eq.trans s0_avec ?_); rfl) | ((with_reducible refine Eq.trans s0_ptr ?_); rfl) | with_reducible apply s0_agg))))) | refine OrdN.go ?_ | refine Fork.np ?_ | refine Fork.yb ?_ | refine Fork.nb ?_ | refine Need.go ?_ | refine Need.draw ?_ | refine ExtN.ext ?_) <;> try (conv => whnf)
        all_goals first
          | exact addN_same hG (fun a b => by first | (rw [hla] at a; exact Bool.noConfusion a) | (rw [hpr] at b; exact Bool.noConfusion b) | omega)
          | exact addN_new hG hx hl2 (by rw [hxs]; rfl) (by have := e3; rw [z0] at this; simp only [List.length_cons, List.length_nil]; omega)
          | (exfalso; omega)
      | cons s0 r =>
        refine crun_of (X := G [39]) (G_ok _) (G_sat _) (body := bodyOf Tryz.f144) Tryz.func144 rfl (by kernel_rfl) (by kernel_rfl) ?_
        rw [Tryz.ntmps144]
        conv => whnf
        repeat' (first | (refine CallN.many c1 ?_; rintro _ (⟨hla, rfl⟩ | ⟨hla, rfl⟩)) | (refine CallN.many c2 ?_; rintro _ (⟨hpr, rfl⟩ | ⟨hpr, rfl⟩)) | (refine CallN.one c3 ?_) | (refine AllocC.go (fun l2 cap2 hl2 hcap2 => ?_)) | (refine Need.ap2 ?_ (h := els) (h1 := by simp only [List.length_replicate]; omega) (h3 := by rw [esl]; simp) (h2 := rfl)) | (refine Need.go ?_ (h := ⟨by simp only [List.length_cons, List.length_nil]; omega, by simp only [List.length_cons, List.length_nil]; omega, ElsOk.one rfl rfl⟩)) | (apply fin0; (case hs => (repeat' (first | with_reducible exact st_nil | with_reducible apply st_cons | ((conv => enter [1, 1]; whnf); first | with_reducible exact st_nil | with_reducible apply st_cons | ((with_reducible refine Eq.trans s0_sc ?_); rfl) | ((with_reducible refine Eq.trans s0_nil ?_); rfl) | ((with_reducible refine Eq.trans s0_grow ?_); rfl) | ((with_reducible refine Eq.trans s0_vec ?_); rfl) | ((with_reducible refine Eq.trans s0_avec ?_); rfl) | ((with_reducible refine Eq.trans s0_ptr ?_); rfl) | with_reducible apply s0_agg))))) | refine OrdN.go ?_ | refine Fork.np ?_ | refine Fork.nb ?_ | refine Need.go ?_ | refine Need.draw ?_ | refine ExtN.ext ?_) <;> try (conv => whnf)
        all_goals first
          | exact addN_same hG (fun a b => by first | (rw [hla] at a; exact Bool.noConfusion a) | (rw [hpr] at b; exact Bool.noConfusion b) | omega)
          | exact addN_new hG hx hl2 (by rw [hxs]; rfl) (by have := e3; rw [z0] at this; simp only [List.length_cons, List.length_nil]; omega)
          | (exfalso; omega)
    | grow lE mE capE _ hmE gE =>
      cases ls with
      | nil =>
        refine crun_of (X := G [39]) (G_ok _) (G_sat _) (body := bodyOf Tryz.f144) Tryz.func144 rfl (by kernel_rfl) (by kernel_rfl) ?_
        rw [Tryz.ntmps144]
        conv => whnf
        repeat' (first | (refine CallN.many c1 ?_; rintro _ (⟨hla, rfl⟩ | ⟨hla, rfl⟩)) | (refine CallN.many c2 ?_; rintro _ (⟨hpr, rfl⟩ | ⟨hpr, rfl⟩)) | (refine CallN.one c3 ?_) | (refine AllocC.go (fun l2 cap2 hl2 hcap2 => ?_)) | (refine Need.go ?_ (h := ⟨by simp only [List.length_cons, List.length_nil]; omega, by simp only [List.length_cons, List.length_nil]; omega, ElsOk.one rfl rfl⟩)) | (apply fin0; (case hs => (repeat' (first | with_reducible exact st_nil | with_reducible apply st_cons | ((conv => enter [1, 1]; whnf); first | with_reducible exact st_nil | with_reducible apply st_cons | ((with_reducible refine Eq.trans s0_sc ?_); rfl) | ((with_reducible refine Eq.trans s0_nil ?_); rfl) | ((with_reducible refine Eq.trans s0_grow ?_); rfl) | ((with_reducible refine Eq.trans s0_vec ?_); rfl) | ((with_reducible refine Eq.trans s0_avec ?_); rfl) | ((with_reducible refine Eq.trans s0_ptr ?_); rfl) | with_reducible apply s0_agg))))) | refine OrdN.go ?_ | refine Fork.np ?_ | refine Fork.yb ?_ | refine Fork.nb ?_ | refine Need.go ?_ | refine Need.draw ?_ | refine ExtN.ext ?_) <;> try (conv => whnf)
        all_goals first
          | exact addN_same hG (fun a b => by first | (rw [hla] at a; exact Bool.noConfusion a) | (rw [hpr] at b; exact Bool.noConfusion b) | omega)
          | exact addN_new hG hx hl2 (by rw [hxs]; rfl) (by have := e3; rw [z0] at this; simp only [List.length_cons, List.length_nil]; omega)
          | (exfalso; omega)
      | cons s0 r =>
        refine crun_of (X := G [39]) (G_ok _) (G_sat _) (body := bodyOf Tryz.f144) Tryz.func144 rfl (by kernel_rfl) (by kernel_rfl) ?_
        rw [Tryz.ntmps144]
        conv => whnf
        repeat' (first | (refine CallN.many c1 ?_; rintro _ (⟨hla, rfl⟩ | ⟨hla, rfl⟩)) | (refine CallN.many c2 ?_; rintro _ (⟨hpr, rfl⟩ | ⟨hpr, rfl⟩)) | (refine CallN.one c3 ?_) | (refine AllocC.go (fun l2 cap2 hl2 hcap2 => ?_)) | (refine Need.ap2 ?_ (h := els) (h1 := by simp only [List.length_replicate]; omega) (h3 := by rw [esl]; simp) (h2 := rfl)) | (refine Need.go ?_ (h := ⟨by simp only [List.length_cons, List.length_nil]; omega, by simp only [List.length_cons, List.length_nil]; omega, ElsOk.one rfl rfl⟩)) | (apply fin0; (case hs => (repeat' (first | with_reducible exact st_nil | with_reducible apply st_cons | ((conv => enter [1, 1]; whnf); first | with_reducible exact st_nil | with_reducible apply st_cons | ((with_reducible refine Eq.trans s0_sc ?_); rfl) | ((with_reducible refine Eq.trans s0_nil ?_); rfl) | ((with_reducible refine Eq.trans s0_grow ?_); rfl) | ((with_reducible refine Eq.trans s0_vec ?_); rfl) | ((with_reducible refine Eq.trans s0_avec ?_); rfl) | ((with_reducible refine Eq.trans s0_ptr ?_); rfl) | with_reducible apply s0_agg))))) | refine OrdN.go ?_ | refine Fork.np ?_ | refine Fork.nb ?_ | refine Need.go ?_ | refine Need.draw ?_ | refine ExtN.ext ?_) <;> try (conv => whnf)
        all_goals first
          | exact addN_same hG (fun a b => by first | (rw [hla] at a; exact Bool.noConfusion a) | (rw [hpr] at b; exact Bool.noConfusion b) | omega)
          | exact addN_new hG hx hl2 (by rw [hxs]; rfl) (by have := e3; rw [z0] at this; simp only [List.length_cons, List.length_nil]; omega)
          | (exfalso; omega)
  | vec _ => exact (hG.vN _ rfl).elim
  | grow lN n cap _ hn gN =>
    cases oE with
    | nil =>
      have hN := hG.fN lN n cap rfl
      have hdj := hG.dj lN n cap
      have gN' := get_rd2 (q := q) (bs := bs) gN hN.2
      cases ls with
      | nil =>
        refine crun_of (X := G [39]) (G_ok _) (G_sat _) (body := bodyOf Tryz.f144) Tryz.func144 rfl (by kernel_rfl) (by kernel_rfl) ?_
        rw [Tryz.ntmps144]
        conv => whnf
        repeat' (first | (refine CallN.many c1 ?_; rintro _ (⟨hla, rfl⟩ | ⟨hla, rfl⟩)) | (refine CallN.many c2 ?_; rintro _ (⟨hpr, rfl⟩ | ⟨hpr, rfl⟩)) | (refine CallN.one c3 ?_) | (refine AllocC.go (fun l2 cap2 hl2 hcap2 => ?_)) | (refine Need.go ?_ (h := ⟨rfl, by omega, by simp only [List.length_cons, List.length_nil]; omega, by simp only [List.length_cons, List.length_nil]; omega, ElsOk.one rfl rfl⟩)) | (apply fin0; (case hs => (repeat' (first | with_reducible exact st_nil | with_reducible apply st_cons | ((conv => enter [1, 1]; whnf); first | with_reducible exact st_nil | with_reducible apply st_cons | ((with_reducible refine Eq.trans s0_sc ?_); rfl) | ((with_reducible refine Eq.trans s0_nil ?_); rfl) | ((with_reducible refine Eq.trans s0_grow ?_); rfl) | ((with_reducible refine Eq.trans s0_vec ?_); rfl) | ((with_reducible refine Eq.trans s0_avec ?_); rfl) | ((with_reducible refine Eq.trans s0_ptr ?_); rfl) | with_reducible apply s0_agg))))) | refine OrdN.go ?_ | refine Fork.np ?_ | refine Fork.yb ?_ | refine Fork.nb ?_ | refine Fork.dp (fun h => ?_) (fun h => ?_) | refine GetN.go ?_ | refine Need.go ?_ | refine Need.draw ?_ | refine ExtN.ext ?_) <;> try (conv => whnf)
        all_goals first
          | exact addN_same hG (fun a b => by first | (rw [hla] at a; exact Bool.noConfusion a) | (rw [hpr] at b; exact Bool.noConfusion b) | omega)
          | exact addN_at hG hx hN.1 hN.2 (fun n' cap' e => hdj n' cap' rfl e) ((grow_in hn _ _).trans (by rw [hxs]; rfl)) (by simp only [List.length_cons, List.length_nil]; omega)
          | exact addN_new hG hx hl2 ((grow_new hn _).trans (by rw [hxs]; rfl)) (by simp only [List.length_cons, List.length_nil]; omega)
      | cons s0 r =>
        refine crun_of (X := G [39]) (G_ok _) (G_sat _) (body := bodyOf Tryz.f144) Tryz.func144 rfl (by kernel_rfl) (by kernel_rfl) ?_
        rw [Tryz.ntmps144]
        conv => whnf
        repeat' (first | (refine CallN.many c1 ?_; rintro _ (⟨hla, rfl⟩ | ⟨hla, rfl⟩)) | (refine CallN.many c2 ?_; rintro _ (⟨hpr, rfl⟩ | ⟨hpr, rfl⟩)) | (refine CallN.one c3 ?_) | (refine AllocC.go (fun l2 cap2 hl2 hcap2 => ?_)) | (refine Need.ap2 ?_ (h := els) (h1 := by simp only [List.length_replicate]; omega) (h3 := by rw [esl]; simp) (h2 := rfl)) | (refine Need.go ?_ (h := ⟨rfl, by omega, by simp only [List.length_cons, List.length_nil]; omega, by simp only [List.length_cons, List.length_nil]; omega, ElsOk.one rfl rfl⟩)) | (apply fin0; (case hs => (repeat' (first | with_reducible exact st_nil | with_reducible apply st_cons | ((conv => enter [1, 1]; whnf); first | with_reducible exact st_nil | with_reducible apply st_cons | ((with_reducible refine Eq.trans s0_sc ?_); rfl) | ((with_reducible refine Eq.trans s0_nil ?_); rfl) | ((with_reducible refine Eq.trans s0_grow ?_); rfl) | ((with_reducible refine Eq.trans s0_vec ?_); rfl) | ((with_reducible refine Eq.trans s0_avec ?_); rfl) | ((with_reducible refine Eq.trans s0_ptr ?_); rfl) | with_reducible apply s0_agg))))) | refine OrdN.go ?_ | refine Fork.np ?_ | refine Fork.nb ?_ | refine Fork.dp (fun h => ?_) (fun h => ?_) | refine GetN.go ?_ | refine Need.go ?_ | refine Need.draw ?_ | refine ExtN.ext ?_) <;> try (conv => whnf)
        all_goals first
          | exact addN_same hG (fun a b => by first | (rw [hla] at a; exact Bool.noConfusion a) | (rw [hpr] at b; exact Bool.noConfusion b) | omega)
          | exact addN_at hG hx hN.1 hN.2 (fun n' cap' e => hdj n' cap' rfl e) ((grow_in hn _ _).trans (by rw [hxs]; rfl)) (by simp only [List.length_cons, List.length_nil]; omega)
          | exact addN_new hG hx hl2 ((grow_new hn _).trans (by rw [hxs]; rfl)) (by simp only [List.length_cons, List.length_nil]; omega)
    | vec _ =>
      have hN := hG.fN lN n cap rfl
      have hdj := hG.dj lN n cap
      have gN' := get_rd2 (q := q) (bs := bs) gN hN.2
      cases ls with
      | nil =>
        refine crun_of (X := G [39]) (G_ok _) (G_sat _) (body := bodyOf Tryz.f144) Tryz.func144 rfl (by kernel_rfl) (by kernel_rfl) ?_
        rw [Tryz.ntmps144]
        conv => whnf
        repeat' (first | (refine CallN.many c1 ?_; rintro _ (⟨hla, rfl⟩ | ⟨hla, rfl⟩)) | (refine CallN.many c2 ?_; rintro _ (⟨hpr, rfl⟩ | ⟨hpr, rfl⟩)) | (refine CallN.one c3 ?_) | (refine AllocC.go (fun l2 cap2 hl2 hcap2 => ?_)) | (refine Need.go ?_ (h := ⟨rfl, by omega, by simp only [List.length_cons, List.length_nil]; omega, by simp only [List.length_cons, List.length_nil]; omega, ElsOk.one rfl rfl⟩)) | (apply fin0; (case hs => (repeat' (first | with_reducible exact st_nil | with_reducible apply st_cons | ((conv => enter [1, 1]; whnf); first | with_reducible exact st_nil | with_reducible apply st_cons | ((with_reducible refine Eq.trans s0_sc ?_); rfl) | ((with_reducible refine Eq.trans s0_nil ?_); rfl) | ((with_reducible refine Eq.trans s0_grow ?_); rfl) | ((with_reducible refine Eq.trans s0_vec ?_); rfl) | ((with_reducible refine Eq.trans s0_avec ?_); rfl) | ((with_reducible refine Eq.trans s0_ptr ?_); rfl) | with_reducible apply s0_agg))))) | refine OrdN.go ?_ | refine Fork.np ?_ | refine Fork.yb ?_ | refine Fork.nb ?_ | refine Fork.dp (fun h => ?_) (fun h => ?_) | refine GetN.go ?_ | refine Need.go ?_ | refine Need.draw ?_ | refine ExtN.ext ?_) <;> try (conv => whnf)
        all_goals first
          | exact addN_same hG (fun a b => by first | (rw [hla] at a; exact Bool.noConfusion a) | (rw [hpr] at b; exact Bool.noConfusion b) | omega)
          | exact addN_at hG hx hN.1 hN.2 (fun n' cap' e => hdj n' cap' rfl e) ((grow_in hn _ _).trans (by rw [hxs]; rfl)) (by simp only [List.length_cons, List.length_nil]; omega)
          | exact addN_new hG hx hl2 ((grow_new hn _).trans (by rw [hxs]; rfl)) (by simp only [List.length_cons, List.length_nil]; omega)
      | cons s0 r =>
        refine crun_of (X := G [39]) (G_ok _) (G_sat _) (body := bodyOf Tryz.f144) Tryz.func144 rfl (by kernel_rfl) (by kernel_rfl) ?_
        rw [Tryz.ntmps144]
        conv => whnf
        repeat' (first | (refine CallN.many c1 ?_; rintro _ (⟨hla, rfl⟩ | ⟨hla, rfl⟩)) | (refine CallN.many c2 ?_; rintro _ (⟨hpr, rfl⟩ | ⟨hpr, rfl⟩)) | (refine CallN.one c3 ?_) | (refine AllocC.go (fun l2 cap2 hl2 hcap2 => ?_)) | (refine Need.ap2 ?_ (h := els) (h1 := by simp only [List.length_replicate]; omega) (h3 := by rw [esl]; simp) (h2 := rfl)) | (refine Need.go ?_ (h := ⟨rfl, by omega, by simp only [List.length_cons, List.length_nil]; omega, by simp only [List.length_cons, List.length_nil]; omega, ElsOk.one rfl rfl⟩)) | (apply fin0; (case hs => (repeat' (first | with_reducible exact st_nil | with_reducible apply st_cons | ((conv => enter [1, 1]; whnf); first | with_reducible exact st_nil | with_reducible apply st_cons | ((with_reducible refine Eq.trans s0_sc ?_); rfl) | ((with_reducible refine Eq.trans s0_nil ?_); rfl) | ((with_reducible refine Eq.trans s0_grow ?_); rfl) | ((with_reducible refine Eq.trans s0_vec ?_); rfl) | ((with_reducible refine Eq.trans s0_avec ?_); rfl) | ((with_reducible refine Eq.trans s0_ptr ?_); rfl) | with_reducible apply s0_agg))))) | refine OrdN.go ?_ | refine Fork.np ?_ | refine Fork.nb ?_ | refine Fork.dp (fun h => ?_) (fun h => ?_) | refine GetN.go ?_ | refine Need.go ?_ | refine Need.draw ?_ | refine ExtN.ext ?_) <;> try (conv => whnf)
        all_goals first
          | exact addN_same hG (fun a b => by first | (rw [hla] at a; exact Bool.noConfusion a) | (rw [hpr] at b; exact Bool.noConfusion b) | omega)
          | exact addN_at hG hx hN.1 hN.2 (fun n' cap' e => hdj n' cap' rfl e) ((grow_in hn _ _).trans (by rw [hxs]; rfl)) (by simp only [List.length_cons, List.length_nil]; omega)
          | exact addN_new hG hx hl2 ((grow_new hn _).trans (by rw [hxs]; rfl)) (by simp only [List.length_cons, List.length_nil]; omega)
    | grow lE mE capE _ hmE gE =>
      have hN := hG.fN lN n cap rfl
      have hdj := hG.dj lN n cap
      have gN' := get_rd2 (q := q) (bs := bs) gN hN.2
      cases ls with
      | nil =>
        refine crun_of (X := G [39]) (G_ok _) (G_sat _) (body := bodyOf Tryz.f144) Tryz.func144 rfl (by kernel_rfl) (by kernel_rfl) ?_
        rw [Tryz.ntmps144]
        conv => whnf
        repeat' (first | (refine CallN.many c1 ?_; rintro _ (⟨hla, rfl⟩ | ⟨hla, rfl⟩)) | (refine CallN.many c2 ?_; rintro _ (⟨hpr, rfl⟩ | ⟨hpr, rfl⟩)) | (refine CallN.one c3 ?_) | (refine AllocC.go (fun l2 cap2 hl2 hcap2 => ?_)) | (refine Need.go ?_ (h := ⟨rfl, by omega, by simp only [List.length_cons, List.length_nil]; omega, by simp only [List.length_cons, List.length_nil]; omega, ElsOk.one rfl rfl⟩)) | (apply fin0; (case hs => (repeat' (first | with_reducible exact st_nil | with_reducible apply st_cons | ((conv => enter [1, 1]; whnf); first | with_reducible exact st_nil | with_reducible apply st_cons | ((with_reducible refine Eq.trans s0_sc ?_); rfl) | ((with_reducible refine Eq.trans s0_nil ?_); rfl) | ((with_reducible refine Eq.trans s0_grow ?_); rfl) | ((with_reducible refine Eq.trans s0_vec ?_); rfl) | ((with_reducible refine Eq.trans s0_avec ?_); rfl) | ((with_reducible refine Eq.trans s0_ptr ?_); rfl) | with_reducible apply s0_agg))))) | refine OrdN.go ?_ | refine Fork.np ?_ | refine Fork.yb ?_ | refine Fork.nb ?_ | refine Fork.dp (fun h => ?_) (fun h => ?_) | refine GetN.go ?_ | refine Need.go ?_ | refine Need.draw ?_ | refine ExtN.ext ?_) <;> try (conv => whnf)
        all_goals first
          | exact addN_same hG (fun a b => by first | (rw [hla] at a; exact Bool.noConfusion a) | (rw [hpr] at b; exact Bool.noConfusion b) | omega)
          | exact addN_at hG hx hN.1 hN.2 (fun n' cap' e => hdj n' cap' rfl e) ((grow_in hn _ _).trans (by rw [hxs]; rfl)) (by simp only [List.length_cons, List.length_nil]; omega)
          | exact addN_new hG hx hl2 ((grow_new hn _).trans (by rw [hxs]; rfl)) (by simp only [List.length_cons, List.length_nil]; omega)
      | cons s0 r =>
        refine crun_of (X := G [39]) (G_ok _) (G_sat _) (body := bodyOf Tryz.f144) Tryz.func144 rfl (by kernel_rfl) (by kernel_rfl) ?_
        rw [Tryz.ntmps144]
        conv => whnf
        repeat' (first | (refine CallN.many c1 ?_; rintro _ (⟨hla, rfl⟩ | ⟨hla, rfl⟩)) | (refine CallN.many c2 ?_; rintro _ (⟨hpr, rfl⟩ | ⟨hpr, rfl⟩)) | (refine CallN.one c3 ?_) | (refine AllocC.go (fun l2 cap2 hl2 hcap2 => ?_)) | (refine Need.ap2 ?_ (h := els) (h1 := by simp only [List.length_replicate]; omega) (h3 := by rw [esl]; simp) (h2 := rfl)) | (refine Need.go ?_ (h := ⟨rfl, by omega, by simp only [List.length_cons, List.length_nil]; omega, by simp only [List.length_cons, List.length_nil]; omega, ElsOk.one rfl rfl⟩)) | (apply fin0; (case hs => (repeat' (first | with_reducible exact st_nil | with_reducible apply st_cons | ((conv => enter [1, 1]; whnf); first | with_reducible exact st_nil | with_reducible apply st_cons | ((with_reducible refine Eq.trans s0_sc ?_); rfl) | ((with_reducible refine Eq.trans s0_nil ?_); rfl) | ((with_reducible refine Eq.trans s0_grow ?_); rfl) | ((with_reducible refine Eq.trans s0_vec ?_); rfl) | ((with_reducible refine Eq.trans s0_avec ?_); rfl) | ((with_reducible refine Eq.trans s0_ptr ?_); rfl) | with_reducible apply s0_agg))))) | refine OrdN.go ?_ | refine Fork.np ?_ | refine Fork.nb ?_ | refine Fork.dp (fun h => ?_) (fun h => ?_) | refine GetN.go ?_ | refine Need.go ?_ | refine Need.draw ?_ | refine ExtN.ext ?_) <;> try (conv => whnf)
        all_goals first
          | exact addN_same hG (fun a b => by first | (rw [hla] at a; exact Bool.noConfusion a) | (rw [hpr] at b; exact Bool.noConfusion b) | omega)
          | exact addN_at hG hx hN.1 hN.2 (fun n' cap' e => hdj n' cap' rfl e) ((grow_in hn _ _).trans (by rw [hxs]; rfl)) (by simp only [List.length_cons, List.length_nil]; omega)
          | exact addN_new hG hx hl2 ((grow_new hn _).trans (by rw [hxs]; rfl)) (by simp only [List.length_cons, List.length_nil]; omega)
theorem OC.rd {s : Heap} {T sz l0 : Nat} {bs : List CV} {q : Int} {c : CV} {xs : List CV} (h : OC s T sz c xs) (hf : ∀ l n cap, c = .grow l n cap → l ≠ l0) : OC (rd s l0 bs q) T sz c xs := by
  cases h with
  | nil => exact .nil
  | vec _ => exact .vec _
  | grow l' n cap' _ hn h => exact .grow l' n cap' _ hn (get_rd2 h (hf _ _ _ rfl))
def AddEP (σ : Heap) (l0 : Nat) (bs : List CV) (q : Int) (cN : CV) (ns : List Nd) (es : List Ed) (nn ne : Int) (out : COut) : Prop := ∃ s' cE' es' ne' b, GI σ l0 s' cN cE' ns es' ∧ (∀ xs, cE' = .vec xs → False) ∧ es'.length ≤ es.length + 1 ∧ ne ≤ ne' ∧ ne' ≤ ne + 1 ∧
  out = .ret (.tup [.agg [cN, cE', i64 nn, i64 ne'], .sc (.bool b)]) (rd s' l0 bs q)
section
variable {σ s : Heap} {l0 lx n cap : Nat} {bs : List CV} {q : Int} {cN cE : CV} {ns : List Nd} {es : List Ed} {nn ne a b' : Int} {b : Bool} {kd : ByteArray} {ps : List Pr} {xs : List CV}
theorem addE_same (h : GI σ l0 s cN cE ns es) (hv : ∀ xs, cE = .vec xs → False) : AddEP σ l0 bs q cN ns es nn ne (.ret (.tup [.agg [cN, cE, i64 nn, i64 ne], .sc (.bool b)]) (rd s l0 bs q)) :=
  ⟨s, cE, es, ne, b, h, hv, by omega, by omega, by omega, rfl⟩
theorem addE_at (h : GI σ l0 s cN cE ns es) (hx : EdTame ⟨ne, kd, a, b', ps⟩) (f1 : σ lx = none) (f2 : lx ≠ l0) (hd : ∀ n cap, cN = .grow lx n cap → False) (hxs : xs = eds es ++ [Ed.cv ⟨ne, kd, a, b', ps⟩]) (hn : n = es.length + 1) :
    AddEP σ l0 bs q cN ns es nn ne (.ret (.tup [.agg [cN, .grow lx n cap, i64 nn, i64 (ne + 1)], .sc (.bool b)]) (upd (rd s l0 bs q) lx (.arr 107 5 cap xs))) := by
  rw [rd_upd' f2]
  exact ⟨_, _, _, ne + 1, b, h.putE hx hxs (by rw [hn, hxs, List.length_append, eds_len]; rfl) f1 f2 hd, fun xs e => (by cases e), by simp, by omega, by omega, rfl⟩
theorem addE_new (h : GI σ l0 s cN cE ns es) (hx : EdTame ⟨ne, kd, a, b', ps⟩) (hl : rd s l0 bs q lx = none) (hxs : xs = eds es ++ [Ed.cv ⟨ne, kd, a, b', ps⟩]) (hn : n = es.length + 1) :
    AddEP σ l0 bs q cN ns es nn ne (.ret (.tup [.agg [cN, .grow lx n cap, i64 nn, i64 (ne + 1)], .sc (.bool b)]) (upd (rd s l0 bs q) lx (.arr 107 5 cap xs))) :=
  addE_at h hx (fresh_sub h.sub hl) (ne_rd hl) (h.freshN (no_rd hl)) hxs hn
end
set_option maxHeartbeats 8000000 in
theorem addEdge_c {σ s : Heap} {l0 : Nat} {bs : List CV} {q : Int} {cN cE : CV} {ns : List Nd} {es : List Ed} {nn ne a b' : Int} {kd : ByteArray} {ps : List Pr} (hG : GI σ l0 s cN cE ns es) (hx : EdTame ⟨ne, kd, a, b', ps⟩) (hln : ns.length ≤ 100) (hle : es.length ≤ 100) (hne : 0 ≤ ne ∧ ne ≤ 1000000) (hv : ∀ xs, cE = .vec xs → False) :
    CRun Tryz.prog 147 [.agg [cN, cE, i64 nn, i64 ne], .sc (.string kd), i64 a, i64 b', .vec (prs ps)] (rd s l0 bs q) (AddEP σ l0 bs q cN ns es nn ne) := by
  have c1 := split (l2Name_c (σ := rd s l0 bs q) (t := kd) (by have := hx.kind; dsimp only at this; omega))
  have c2 := split (l2Props_c (σ := rd s l0 bs q) hx.pl hx.ps)
  have c3 := l2Ps_c (σ := rd s l0 bs q) hx.pl (fun p hp => (hx.ps p hp).val)
  have e3 := eds_len es
  have oN := hG.oN
  have oE := hG.oE
  have c4 := fun d => nodeO_c (H := rd s l0 bs q) (nn := nn) (ne := ne) (d := d) (oN.rd fun l n cap e => (hG.fN l n cap e).2) (oE.rd fun l n cap e => (hG.fE l n cap e).2) (by omega) (fun xs e => hG.vN xs e)
  dsimp only at c1 c2 c3
  generalize hxs : nds ns = xs at oN
  generalize hys : eds es = ys at oE e3
  have z0 : ([] : List CV).length = 0 := rfl
  cases oE with
  | nil =>
    cases oN with
    | vec _ => exact (hG.vN _ rfl).elim
    | nil =>
      refine crun_of (X := G [55]) (G_ok _) (G_sat _) (body := bodyOf Tryz.f147) Tryz.func147 rfl (by kernel_rfl) (by kernel_rfl) ?_
      rw [Tryz.ntmps147]
      conv => whnf
      repeat' (first | (refine CallN.many c1 ?_; rintro _ (⟨hla, rfl⟩ | ⟨hla, rfl⟩)) | (refine CallN.many c2 ?_; rintro _ (⟨hpr, rfl⟩ | ⟨hpr, rfl⟩)) | ((refine CallN.many0 (c4 ?_) ?_ (hs := ?hs); (case hs => (repeat' (first | with_reducible exact st_nil | with_reducible apply st_cons | ((conv => enter [1, 1]; whnf); first | with_reducible exact st_nil | with_reducible apply st_cons | ((with_reducible refine Eq.trans s0_sc ?_); rfl) | ((with_reducible refine Eq.trans s0_nil ?_); rfl) | ((with_reducible refine Eq.trans s0_grow ?_); rfl) | ((with_reducible refine Eq.trans s0_vec ?_); rfl) | ((with_reducible refine Eq.trans s0_avec ?_); rfl) | ((with_reducible refine Eq.trans s0_ptr ?_); rfl) | with_reducible apply s0_agg)))); rintro _ ⟨kk, rfl⟩)) | (refine CallN.one c3 ?_) | (refine AllocC.go (fun l2 cap2 hl2 hcap2 => ?_)) | (refine Need.go ?_ (h := ⟨by simp only [List.length_cons, List.length_nil]; omega, by simp only [List.length_cons, List.length_nil]; omega, ElsOk.one rfl rfl⟩)) | (apply fin0; (case hs => (repeat' (first | with_reducible exact st_nil | with_reducible apply st_cons | ((conv => enter [1, 1]; whnf); first | with_reducible exact st_nil | with_reducible apply st_cons | ((with_reducible refine Eq.trans s0_sc ?_); rfl) | ((with_reducible refine Eq.trans s0_nil ?_); rfl) | ((with_reducible refine Eq.trans s0_grow ?_); rfl) | ((with_reducible refine Eq.trans s0_vec ?_); rfl) | ((with_reducible refine Eq.trans s0_avec ?_); rfl) | ((with_reducible refine Eq.trans s0_ptr ?_); rfl) | with_reducible apply s0_agg))))) | refine OrdN.go ?_ | refine Fork.np ?_ | refine Fork.nb ?_ | refine Fork.dp (fun h => ?_) (fun h => ?_) | refine Need.go ?_ | refine Need.draw ?_ | refine ExtN.ext ?_) <;> try (conv => whnf)
      all_goals first
        | exact addE_same hG hv
        | exact addE_new hG hx hl2 (by rw [hys]; rfl) (by have := e3; rw [z0] at this; simp only [List.length_cons, List.length_nil]; omega)
        | (exfalso; omega)
    | grow lN n capN _ hn gN =>
      refine crun_of (X := G [55]) (G_ok _) (G_sat _) (body := bodyOf Tryz.f147) Tryz.func147 rfl (by kernel_rfl) (by kernel_rfl) ?_
      rw [Tryz.ntmps147]
      conv => whnf
      repeat' (first | (refine CallN.many c1 ?_; rintro _ (⟨hla, rfl⟩ | ⟨hla, rfl⟩)) | (refine CallN.many c2 ?_; rintro _ (⟨hpr, rfl⟩ | ⟨hpr, rfl⟩)) | ((refine CallN.many0 (c4 ?_) ?_ (hs := ?hs); (case hs => (repeat' (first | with_reducible exact st_nil | with_reducible apply st_cons | ((conv => enter [1, 1]; whnf); first | with_reducible exact st_nil | with_reducible apply st_cons | ((with_reducible refine Eq.trans s0_sc ?_); rfl) | ((with_reducible refine Eq.trans s0_nil ?_); rfl) | ((with_reducible refine Eq.trans s0_grow ?_); rfl) | ((with_reducible refine Eq.trans s0_vec ?_); rfl) | ((with_reducible refine Eq.trans s0_avec ?_); rfl) | ((with_reducible refine Eq.trans s0_ptr ?_); rfl) | with_reducible apply s0_agg)))); rintro _ ⟨kk, rfl⟩)) | (refine CallN.one c3 ?_) | (refine AllocC.go (fun l2 cap2 hl2 hcap2 => ?_)) | (refine Need.go ?_ (h := ⟨by simp only [List.length_cons, List.length_nil]; omega, by simp only [List.length_cons, List.length_nil]; omega, ElsOk.one rfl rfl⟩)) | (apply fin0; (case hs => (repeat' (first | with_reducible exact st_nil | with_reducible apply st_cons | ((conv => enter [1, 1]; whnf); first | with_reducible exact st_nil | with_reducible apply st_cons | ((with_reducible refine Eq.trans s0_sc ?_); rfl) | ((with_reducible refine Eq.trans s0_nil ?_); rfl) | ((with_reducible refine Eq.trans s0_grow ?_); rfl) | ((with_reducible refine Eq.trans s0_vec ?_); rfl) | ((with_reducible refine Eq.trans s0_avec ?_); rfl) | ((with_reducible refine Eq.trans s0_ptr ?_); rfl) | with_reducible apply s0_agg))))) | refine OrdN.go ?_ | refine Fork.np ?_ | refine Fork.nb ?_ | refine Fork.dp (fun h => ?_) (fun h => ?_) | refine Need.go ?_ | refine Need.draw ?_ | refine ExtN.ext ?_) <;> try (conv => whnf)
      all_goals first
        | exact addE_same hG hv
        | exact addE_new hG hx hl2 (by rw [hys]; rfl) (by have := e3; rw [z0] at this; simp only [List.length_cons, List.length_nil]; omega)
        | (exfalso; omega)
  | vec _ => exact (hv _ rfl).elim
  | grow lE m cap _ hm gE =>
    cases oN with
    | vec _ => exact (hG.vN _ rfl).elim
    | nil =>
      have hE := hG.fE lE m cap rfl
      have hdj := fun lN n cap' => hG.dj lN n cap' m cap
      have gE' := get_rd2 (q := q) (bs := bs) gE hE.2
      refine crun_of (X := G [55]) (G_ok _) (G_sat _) (body := bodyOf Tryz.f147) Tryz.func147 rfl (by kernel_rfl) (by kernel_rfl) ?_
      rw [Tryz.ntmps147]
      conv => whnf
      repeat' (first | (refine CallN.many c1 ?_; rintro _ (⟨hla, rfl⟩ | ⟨hla, rfl⟩)) | (refine CallN.many c2 ?_; rintro _ (⟨hpr, rfl⟩ | ⟨hpr, rfl⟩)) | ((refine CallN.many0 (c4 ?_) ?_ (hs := ?hs); (case hs => (repeat' (first | with_reducible exact st_nil | with_reducible apply st_cons | ((conv => enter [1, 1]; whnf); first | with_reducible exact st_nil | with_reducible apply st_cons | ((with_reducible refine Eq.trans s0_sc ?_); rfl) | ((with_reducible refine Eq.trans s0_nil ?_); rfl) | ((with_reducible refine Eq.trans s0_grow ?_); rfl) | ((with_reducible refine Eq.trans s0_vec ?_); rfl) | ((with_reducible refine Eq.trans s0_avec ?_); rfl) | ((with_reducible refine Eq.trans s0_ptr ?_); rfl) | with_reducible apply s0_agg)))); rintro _ ⟨kk, rfl⟩)) | (refine CallN.one c3 ?_) | (refine AllocC.go (fun l2 cap2 hl2 hcap2 => ?_)) | (refine Need.go ?_ (h := ⟨rfl, by omega, by simp only [List.length_cons, List.length_nil]; omega, by simp only [List.length_cons, List.length_nil]; omega, ElsOk.one rfl rfl⟩)) | (apply fin0; (case hs => (repeat' (first | with_reducible exact st_nil | with_reducible apply st_cons | ((conv => enter [1, 1]; whnf); first | with_reducible exact st_nil | with_reducible apply st_cons | ((with_reducible refine Eq.trans s0_sc ?_); rfl) | ((with_reducible refine Eq.trans s0_nil ?_); rfl) | ((with_reducible refine Eq.trans s0_grow ?_); rfl) | ((with_reducible refine Eq.trans s0_vec ?_); rfl) | ((with_reducible refine Eq.trans s0_avec ?_); rfl) | ((with_reducible refine Eq.trans s0_ptr ?_); rfl) | with_reducible apply s0_agg))))) | refine OrdN.go ?_ | refine Fork.np ?_ | refine Fork.nb ?_ | refine Fork.dp (fun h => ?_) (fun h => ?_) | refine GetN.go ?_ | refine Need.go ?_ | refine Need.draw ?_ | refine ExtN.ext ?_) <;> try (conv => whnf)
      all_goals first
        | exact addE_same hG hv
        | exact addE_at hG hx hE.1 hE.2 (fun n' cap' e => hdj lE n' cap' e rfl) ((grow_in hm _ _).trans (by rw [hys]; rfl)) (by simp only [List.length_cons, List.length_nil]; omega)
        | exact addE_new hG hx hl2 ((grow_new hm _).trans (by rw [hys]; rfl)) (by simp only [List.length_cons, List.length_nil]; omega)
    | grow lN n capN _ hn gN =>
      have hE := hG.fE lE m cap rfl
      have hdj := fun lN n cap' => hG.dj lN n cap' m cap
      have gE' := get_rd2 (q := q) (bs := bs) gE hE.2
      refine crun_of (X := G [55]) (G_ok _) (G_sat _) (body := bodyOf Tryz.f147) Tryz.func147 rfl (by kernel_rfl) (by kernel_rfl) ?_
      rw [Tryz.ntmps147]
      conv => whnf
      repeat' (first | (refine CallN.many c1 ?_; rintro _ (⟨hla, rfl⟩ | ⟨hla, rfl⟩)) | (refine CallN.many c2 ?_; rintro _ (⟨hpr, rfl⟩ | ⟨hpr, rfl⟩)) | ((refine CallN.many0 (c4 ?_) ?_ (hs := ?hs); (case hs => (repeat' (first | with_reducible exact st_nil | with_reducible apply st_cons | ((conv => enter [1, 1]; whnf); first | with_reducible exact st_nil | with_reducible apply st_cons | ((with_reducible refine Eq.trans s0_sc ?_); rfl) | ((with_reducible refine Eq.trans s0_nil ?_); rfl) | ((with_reducible refine Eq.trans s0_grow ?_); rfl) | ((with_reducible refine Eq.trans s0_vec ?_); rfl) | ((with_reducible refine Eq.trans s0_avec ?_); rfl) | ((with_reducible refine Eq.trans s0_ptr ?_); rfl) | with_reducible apply s0_agg)))); rintro _ ⟨kk, rfl⟩)) | (refine CallN.one c3 ?_) | (refine AllocC.go (fun l2 cap2 hl2 hcap2 => ?_)) | (refine Need.go ?_ (h := ⟨rfl, by omega, by simp only [List.length_cons, List.length_nil]; omega, by simp only [List.length_cons, List.length_nil]; omega, ElsOk.one rfl rfl⟩)) | (apply fin0; (case hs => (repeat' (first | with_reducible exact st_nil | with_reducible apply st_cons | ((conv => enter [1, 1]; whnf); first | with_reducible exact st_nil | with_reducible apply st_cons | ((with_reducible refine Eq.trans s0_sc ?_); rfl) | ((with_reducible refine Eq.trans s0_nil ?_); rfl) | ((with_reducible refine Eq.trans s0_grow ?_); rfl) | ((with_reducible refine Eq.trans s0_vec ?_); rfl) | ((with_reducible refine Eq.trans s0_avec ?_); rfl) | ((with_reducible refine Eq.trans s0_ptr ?_); rfl) | with_reducible apply s0_agg))))) | refine OrdN.go ?_ | refine Fork.np ?_ | refine Fork.nb ?_ | refine Fork.dp (fun h => ?_) (fun h => ?_) | refine GetN.go ?_ | refine Need.go ?_ | refine Need.draw ?_ | refine ExtN.ext ?_) <;> try (conv => whnf)
      all_goals first
        | exact addE_same hG hv
        | exact addE_at hG hx hE.1 hE.2 (fun n' cap' e => hdj lE n' cap' e rfl) ((grow_in hm _ _).trans (by rw [hys]; rfl)) (by simp only [List.length_cons, List.length_nil]; omega)
        | exact addE_new hG hx hl2 ((grow_new hm _).trans (by rw [hys]; rfl)) (by simp only [List.length_cons, List.length_nil]; omega)
def ints (l : List Int) : List CV := l.map i64
theorem ints_len (l : List Int) : (ints l).length = l.length := by simp [ints]
theorem ints_snoc (l : List Int) (x : Int) : ints (l ++ [x]) = ints l ++ [i64 x] := by simp [ints]
theorem eds_snoc (l : List Ed) (x : Ed) : eds (l ++ [x]) = eds l ++ [x.cv] := by simp [eds]
theorem l2EdgesF_c {σ : Heap} {nsC : List CV} {es : List Ed} {nn ne d : Int} (hl : es.length ≤ 100) :
    CRun Tryz.prog 213 [.agg [.vec nsC, .vec (eds es), i64 nn, i64 ne], i64 d, i64 0, .sc (.string ⟨#[]⟩)] σ (fun out => ∃ ids, ids.length ≤ es.length ∧ out = .ret (.vec (ints ids)) σ) := by
  have e3 := eds_len es
  refine crun_of (X := X) X_ok X_sat (body := bodyOf Tryz.f213) Tryz.func213 rfl (by kernel_rfl) (by kernel_rfl) ?_
  rw [Tryz.ntmps213]
  conv => whnf
  repeat' (first | refine OrdN.one ?_ | refine Fork.yp ?_ | refine Fork.np ?_ | refine Fork.ny ?_ | refine Fork.nn ?_ | refine Fork.yb ?_ | refine Fork.nb ?_ | refine Fork.dp (fun h => ?_) (fun h => ?_) | refine Fork.dn (fun h => ?_) (fun h => ?_) | (refine Fork.mk (fun h => ?_) (fun h => ?_) <;> simp only [decide_eq_true_eq, decide_eq_false_iff_not, Bool.not_eq_true', Bool.not_eq_false', Bool.or_eq_true, Bool.or_eq_false_iff] at h) | refine GetN.go ?_ | refine Need.ap1 ?_ | refine Need.ap0 ?_ | refine Need.go ?_ | refine Need.draw ?_ | refine ElemN.go ?_ | refine ExtN.ext ?_ | refine ExtN.wr ?_ | refine AllocN.go (fun l hl => ?_) | refine finGo ?_) <;> try (conv => whnf)
  refine LoopN.rule (α := Nat × List Int) (fun a => ⟨61, [(1, i64 d), (2, i64 0), (3, .sc (.string ⟨#[]⟩)), (4, .ptr (.f 4) 0), (9, .avec 13 (ints a.2)), (10, i64 a.1)], [(4, .cells [.vec nsC, .vec (eds es), i64 nn, i64 ne]), (13, .tok 3 1 (ints a.2).length)]⟩)
    (fun _ => σ) (fun a => es.length - a.1) (fun a => a.1 ≤ es.length ∧ a.2.length ≤ a.1) ?_ (0, []) ⟨by simp, by simp⟩ ?_
  · rintro ⟨i, acc⟩ K ⟨i1, i2⟩ hK
    dsimp only at i1 i2 ⊢
    have e4 := ints_len acc
    by_cases hi : i < es.length
    · obtain ⟨d', kd, a, b, ps, hm, hg', hg, _⟩ := eds_at hi
      have hK1 := hK (i + 1, acc ++ [d'])
      have hK0 := hK (i + 1, acc)
      dsimp only at hK0 hK1
      have eL : (ints acc ++ [i64 d']).length = (ints acc).length + [i64 d'].length := List.length_append
      rw [ints_snoc, eL] at hK1
      conv => whnf
      repeat' (first | refine Fork.yp ?_ | refine Fork.yb ?_ | refine Fork.nb ?_ | refine Fork.dp (fun h => ?_) (fun h => ?_) | refine Need.ap1 ?_ | refine Need.go ?_ | refine ElemN.go ?_) <;> try (conv => whnf)
      all_goals first
        | (refine hK1 _ _ ⟨by omega, by simp; omega⟩ (by omega) ?_; (refine ⟨rfl, ?_, ?_, Sub.refl _⟩ <;> repeat' (first | exact EnvLe.nil | exact LocsLe.nil | refine EnvLe.cons _ _ _ ?_ ?_ | refine LocsLe.cons _ _ _ ?_ ?_ | exact CVle.same _ rfl | exact CVle.vec _ _ | exact CVle.nil | exact CVle.tok _ _ _ rfl rfl | exact ObLe.tok _ _ rfl | exact CVles.nil | refine CVles.cons ?_ ?_ | exact ObLe.same _ rfl rfl | refine ObLe.cells rfl ?_)); done)
        | (refine hK0 _ _ ⟨by omega, by omega⟩ (by omega) ?_; (refine ⟨rfl, ?_, ?_, Sub.refl _⟩ <;> repeat' (first | exact EnvLe.nil | exact LocsLe.nil | refine EnvLe.cons _ _ _ ?_ ?_ | refine LocsLe.cons _ _ _ ?_ ?_ | exact CVle.same _ rfl | exact CVle.vec _ _ | exact CVle.nil | exact CVle.tok _ _ _ rfl rfl | exact ObLe.tok _ _ rfl | exact CVles.nil | refine CVles.cons ?_ ?_ | exact ObLe.same _ rfl rfl | refine ObLe.cells rfl ?_)); done)
    · conv => whnf
      repeat' (first | refine Fork.np ?_ | refine finGo ?_) <;> try (conv => whnf)
      exact ⟨acc, by omega, rfl⟩
  · (refine ⟨rfl, ?_, ?_, Sub.refl _⟩ <;> repeat' (first | exact EnvLe.nil | exact LocsLe.nil | refine EnvLe.cons _ _ _ ?_ ?_ | refine LocsLe.cons _ _ _ ?_ ?_ | exact CVle.same _ rfl | exact CVle.vec _ _ | exact CVle.nil | exact CVle.tok _ _ _ rfl rfl | exact ObLe.tok _ _ rfl | exact CVles.nil | refine CVles.cons ?_ ?_ | exact ObLe.same _ rfl rfl | refine ObLe.cells rfl ?_))
theorem dropEdgeF_c {σ : Heap} {nsC : List CV} {es : List Ed} {nn ne d : Int} (hl : es.length ≤ 100) (ht : ∀ e ∈ es, EdTame e) :
    CRun Tryz.prog 214 [.agg [.vec nsC, .vec (eds es), i64 nn, i64 ne], i64 d] σ (fun out => ∃ es', es'.length ≤ es.length ∧ (∀ e ∈ es', EdTame e) ∧ out = .ret (.agg [.vec nsC, .vec (eds es'), i64 nn, i64 ne]) σ) := by
  have e3 := eds_len es
  refine crun_of (X := X) X_ok X_sat (body := bodyOf Tryz.f214) Tryz.func214 rfl (by kernel_rfl) (by kernel_rfl) ?_
  rw [Tryz.ntmps214]
  conv => whnf
  repeat' (first | refine OrdN.one ?_ | refine Fork.yp ?_ | refine Fork.np ?_ | refine Fork.ny ?_ | refine Fork.nn ?_ | refine Fork.yb ?_ | refine Fork.nb ?_ | refine Fork.dp (fun h => ?_) (fun h => ?_) | refine Fork.dn (fun h => ?_) (fun h => ?_) | (refine Fork.mk (fun h => ?_) (fun h => ?_) <;> simp only [decide_eq_true_eq, decide_eq_false_iff_not, Bool.not_eq_true', Bool.not_eq_false', Bool.or_eq_true, Bool.or_eq_false_iff] at h) | refine GetN.go ?_ | refine Need.ap1 ?_ | refine Need.ap0 ?_ | refine Need.go ?_ | refine Need.draw ?_ | refine ElemN.go ?_ | refine ExtN.ext ?_ | refine ExtN.wr ?_ | refine AllocN.go (fun l hl => ?_) | refine finGo ?_) <;> try (conv => whnf)
  refine LoopN.rule (α := Nat × List Ed) (fun a => ⟨34, [(1, i64 d), (2, .ptr (.f 2) 0), (4, .ptr (.f 4) 0), (5, .avec 7 (eds a.2)), (6, i64 a.1)], [(2, .cells [.vec nsC, .vec (eds es), i64 nn, i64 ne]), (4, .cells [.nil, .nil, i64 0, i64 0]), (7, .tok 107 5 (eds a.2).length)]⟩)
    (fun _ => σ) (fun a => es.length - a.1) (fun a => a.1 ≤ es.length ∧ a.2.length ≤ a.1 ∧ ∀ e ∈ a.2, EdTame e) ?_ (0, []) ⟨by simp, by simp, by simp⟩ ?_
  · rintro ⟨i, acc⟩ K ⟨i1, i2, i3⟩ hK
    dsimp only at i1 i2 i3 ⊢
    have e4 := eds_len acc
    by_cases hi : i < es.length
    · obtain ⟨d', kd, a, b, ps, hm, hg', hg, _⟩ := eds_at hi
      have hK1 := hK (i + 1, acc ++ [⟨d', kd, a, b, ps⟩])
      have hK0 := hK (i + 1, acc)
      dsimp only at hK0 hK1
      have eL : (eds acc ++ [Ed.cv ⟨d', kd, a, b, ps⟩]).length = (eds acc).length + [Ed.cv ⟨d', kd, a, b, ps⟩].length := List.length_append
      rw [eds_snoc, eL] at hK1
      have ht' : ∀ e ∈ acc ++ [⟨d', kd, a, b, ps⟩], EdTame e := fun e he => by
        rcases List.mem_append.1 he with he | he
        · exact i3 e he
        · rw [List.mem_singleton.1 he]; exact ht _ hm
      conv => whnf
      repeat' (first | refine Fork.yp ?_ | refine Fork.nb ?_ | refine Fork.dn (fun h => ?_) (fun h => ?_) | refine Need.ap1 ?_ | refine Need.go ?_ | refine ElemN.go ?_) <;> try (conv => whnf)
      all_goals first
        | (refine hK1 _ _ ⟨by omega, by simp; omega, ht'⟩ (by omega) ?_; (refine ⟨rfl, ?_, ?_, Sub.refl _⟩ <;> repeat' (first | exact EnvLe.nil | exact LocsLe.nil | refine EnvLe.cons _ _ _ ?_ ?_ | refine LocsLe.cons _ _ _ ?_ ?_ | exact CVle.same _ rfl | exact CVle.vec _ _ | exact CVle.nil | exact CVle.tok _ _ _ rfl rfl | exact ObLe.tok _ _ rfl | exact CVles.nil | refine CVles.cons ?_ ?_ | exact ObLe.same _ rfl rfl | refine ObLe.cells rfl ?_)); done)
        | (refine hK0 _ _ ⟨by omega, by omega, i3⟩ (by omega) ?_; (refine ⟨rfl, ?_, ?_, Sub.refl _⟩ <;> repeat' (first | exact EnvLe.nil | exact LocsLe.nil | refine EnvLe.cons _ _ _ ?_ ?_ | refine LocsLe.cons _ _ _ ?_ ?_ | exact CVle.same _ rfl | exact CVle.vec _ _ | exact CVle.nil | exact CVle.tok _ _ _ rfl rfl | exact ObLe.tok _ _ rfl | exact CVles.nil | refine CVles.cons ?_ ?_ | exact ObLe.same _ rfl rfl | refine ObLe.cells rfl ?_)); done)
    · conv => whnf
      repeat' (first | refine Fork.np ?_ | refine finGo ?_) <;> try (conv => whnf)
      exact ⟨acc, by omega, i3, rfl⟩
  · (refine ⟨rfl, ?_, ?_, Sub.refl _⟩ <;> repeat' (first | exact EnvLe.nil | exact LocsLe.nil | refine EnvLe.cons _ _ _ ?_ ?_ | refine LocsLe.cons _ _ _ ?_ ?_ | exact CVle.same _ rfl | exact CVle.vec _ _ | exact CVle.nil | exact CVle.tok _ _ _ rfl rfl | exact ObLe.tok _ _ rfl | exact CVles.nil | refine CVles.cons ?_ ?_ | exact ObLe.same _ rfl rfl | refine ObLe.cells rfl ?_))
theorem int_at {ids : List Int} {i : Nat} (hi : i < ids.length) : ∃ d, (ints ids)[(i : Int).toNat]? = some (i64 d) := by
  refine ⟨ids[i], ?_⟩
  rw [Int.toNat_natCast]; unfold ints; rw [List.getElem?_map, List.getElem?_eq_getElem hi]; rfl
theorem nds_snoc (l : List Nd) (x : Nd) : nds (l ++ [x]) = nds l ++ [x.cv] := by simp [nds]
structure NSt where
  i : Nat
  n : Nat
  acc : List Nd
  s : Heap
  l : Nat
  cap : Nat
def DropP (σ : Heap) (es : List Ed) (ns : List Nd) (nn ne : Int) (out : COut) : Prop := ∃ (es' : List Ed) (ns' : List Nd) (n l1 cap : Nat) (σ' : Heap), es'.length ≤ es.length ∧ (∀ e ∈ es', EdTame e) ∧ ns'.length ≤ ns.length ∧ (∀ n ∈ ns', NdTame n) ∧ n = (nds ns').length ∧ Sub σ σ' ∧ σ l1 = none ∧ σ' l1 = some (.arr 110 3 cap (nds ns')) ∧
  out = .ret (.tup [.agg [.grow l1 n cap, .vec (eds es'), i64 nn, i64 ne], .sc (.bool true)]) σ'
set_option maxHeartbeats 1000000 in
theorem dropNodeF_c {σ : Heap} {ns : List Nd} {es : List Ed} {nn ne d : Int} (hln : ns.length ≤ 100) (hl : es.length ≤ 100) (htn : ∀ n ∈ ns, NdTame n) (ht : ∀ e ∈ es, EdTame e) :
    CRun Tryz.prog 148 [.agg [.vec (nds ns), .vec (eds es), i64 nn, i64 ne], i64 d, .sc (.bool true)] σ (DropP σ es ns nn ne) := by
  have e3 := nds_len ns
  have c1 := l2EdgesF_c (σ := σ) (nsC := nds ns) (nn := nn) (ne := ne) (d := d) hl
  refine crun_of (X := G [35,58]) (G_ok _) (G_sat _) (body := bodyOf Tryz.f148) Tryz.func148 rfl (by kernel_rfl) (by kernel_rfl) ?_
  rw [Tryz.ntmps148]
  conv => whnf
  repeat' (first | (refine CallN.many c1 ?_; rintro _ ⟨ids, hid, rfl⟩) | refine Fork.dp (fun h => ?_) (fun h => ?_) | refine ExtN.ext ?_) <;> try (conv => whnf)
  all_goals
    have e5 := ints_len ids
    refine LoopN.rule (α := Nat × List Ed) (fun a => ⟨62, [(1, i64 d), (3, .ptr (.f 3) 0), (6, .ptr (.f 6) 0), (8, .vec (ints ids)), (9, i64 a.1)], [(3, .cells [.vec (nds ns), .vec (eds a.2), i64 nn, i64 ne]), (6, .cells [.nil, .nil, i64 0, i64 0])]⟩)
      (fun _ => σ) (fun a => ids.length - a.1) (fun a => a.1 ≤ ids.length ∧ a.2.length ≤ es.length ∧ ∀ e ∈ a.2, EdTame e) ?_ (0, es) ⟨by simp, Nat.le_refl _, ht⟩ ?_
    · rintro ⟨i, es1⟩ K ⟨i1, i2, i3⟩ hK
      dsimp only at i1 i2 i3 ⊢
      by_cases hi : i < ids.length
      · obtain ⟨d', hg⟩ := int_at hi
        have c2 := fun d => dropEdgeF_c (σ := σ) (nsC := nds ns) (es := es1) (nn := nn) (ne := ne) (d := d) (by omega) i3
        conv => whnf
        repeat' (first | (refine CallN.many (c2 _) ?_; rintro _ ⟨es2, j1, j2, rfl⟩) | refine OrdN.go ?_ | refine Fork.yp ?_ | refine Need.go ?_ | refine Need.draw ?_ | refine ElemN.go ?_ | refine ExtN.ext ?_) <;> try (conv => whnf)
        refine hK (i + 1, es2) _ _ ⟨by simp only; omega, by simp only; omega, j2⟩ (by simp only; omega) ?_
        (refine ⟨rfl, ?_, ?_, Sub.refl _⟩ <;> repeat' (first | exact EnvLe.nil | exact LocsLe.nil | refine EnvLe.cons _ _ _ ?_ ?_ | refine LocsLe.cons _ _ _ ?_ ?_ | exact CVle.same _ rfl | exact CVle.vec _ _ | exact CVle.nil | exact CVle.tok _ _ _ rfl rfl | exact ObLe.tok _ _ rfl | exact CVles.nil | refine CVles.cons ?_ ?_ | exact ObLe.same _ rfl rfl | refine ObLe.cells rfl ?_))
      · conv => whnf
        repeat' (first | (refine AllocN.go (fun l1 hl1 => ?_)) | refine Fork.np ?_) <;> try (conv => whnf)
        refine LoopN.rule (α := NSt) (fun a => ⟨62, [(1, i64 d), (3, .ptr (.f 3) 0), (6, .ptr (.f 6) 0), (10, .grow a.l a.n a.cap), (11, i64 a.i)], [(3, .cells [.vec (nds ns), .vec (eds es1), i64 nn, i64 ne]), (6, .cells [.nil, .nil, i64 0, i64 0])]⟩)
          (fun a => a.s) (fun a => ns.length - a.i) (fun a => a.i ≤ ns.length ∧ a.n = (nds a.acc).length ∧ a.n ≤ a.i ∧ (∀ n ∈ a.acc, NdTame n) ∧ Sub σ a.s ∧ σ a.l = none ∧ a.s a.l = some (.arr 110 3 a.cap (nds a.acc))) ?_
          ⟨0, 0, [], upd σ l1 (.arr 110 3 0 []), l1, 0⟩ ⟨Nat.zero_le _, rfl, Nat.le_refl _, by simp, (Sub.refl σ).upd hl1, hl1, upd_same _ _ _⟩ ?_
        · rintro ⟨j, n, acc, s, lx, cap⟩ K ⟨q1, q2, q3, q4, q5, q6, q7⟩ hK
          dsimp only at q1 q2 q3 q4 q5 q6 q7 ⊢
          by_cases hj : j < ns.length
          · obtain ⟨d', ls, ps, hm, hg', hg, _⟩ := nds_at hj
            have hg : (nds ns)[(j : Int).toNat]? = some (.agg [i64 d', .vec (strs ls), .vec (prs ps)]) := hg
            have ht' : ∀ e ∈ acc ++ [⟨d', ls, ps⟩], NdTame e := fun e he => by
              rcases List.mem_append.1 he with he | he
              · exact q4 e he
              · rw [List.mem_singleton.1 he]; exact htn _ hm
            have eA : (nds acc).take n ++ [.agg [i64 d', .vec (strs ls), .vec (prs ps)]] ++ (nds acc).drop (n + 1) = nds (acc ++ [⟨d', ls, ps⟩]) := (grow_in q2 _ _).trans (by rw [nds_snoc]; rfl)
            have eB : (nds acc).take n ++ [.agg [i64 d', .vec (strs ls), .vec (prs ps)]] = nds (acc ++ [⟨d', ls, ps⟩]) := (grow_new q2 _).trans (by rw [nds_snoc]; rfl)
            have eN : n + 1 = (nds (acc ++ [⟨d', ls, ps⟩])).length := by rw [nds_snoc, List.length_append, q2]; rfl
            clear hl1
            conv => whnf
            repeat' (first | (refine AllocC.go (fun l2 cap2 hl2 hcap2 => ?_)) | (refine Need.go ?_ (h := ⟨rfl, by omega, by simp only [List.length_cons, List.length_nil]; omega, by simp only [List.length_cons, List.length_nil]; omega, ElsOk.one rfl rfl⟩)) | refine Fork.yp ?_ | refine Fork.nb ?_ | refine Fork.dp (fun h => ?_) (fun h => ?_) | refine Fork.dn (fun h => ?_) (fun h => ?_) | refine GetN.go ?_ | refine Need.go ?_ | refine ElemN.go ?_) <;> try (conv => whnf)
            · refine hK ⟨j + 1, n + 1, acc ++ [⟨d', ls, ps⟩], upd s lx (.arr 110 3 cap (nds (acc ++ [⟨d', ls, ps⟩]))), lx, cap⟩ _ _ ⟨by simp only; omega, eN, by simp only; omega, ht', q5.upd q6, q6, upd_same _ _ _⟩ (by simp only; omega) ?_
              dsimp only
              rw [← eA]
              (refine ⟨rfl, ?_, ?_, Sub.refl _⟩ <;> repeat' (first | exact EnvLe.nil | exact LocsLe.nil | refine EnvLe.cons _ _ _ ?_ ?_ | refine LocsLe.cons _ _ _ ?_ ?_ | exact CVle.same _ rfl | exact CVle.vec _ _ | exact CVle.nil | exact CVle.tok _ _ _ rfl rfl | exact ObLe.tok _ _ rfl | exact CVles.nil | refine CVles.cons ?_ ?_ | exact ObLe.same _ rfl rfl | refine ObLe.cells rfl ?_))
            · have hσ : σ l2 = none := by
                cases e : σ l2 with
                | none => rfl
                | some ob => rw [q5 _ _ e] at hl2; cases hl2
              refine hK ⟨j + 1, n + 1, acc ++ [⟨d', ls, ps⟩], upd s l2 (.arr 110 3 cap2 (nds (acc ++ [⟨d', ls, ps⟩]))), l2, cap2⟩ _ _ ⟨by simp only; omega, eN, by simp only; omega, ht', q5.upd hσ, hσ, upd_same _ _ _⟩ (by simp only; omega) ?_
              dsimp only
              rw [← eB]
              (refine ⟨rfl, ?_, ?_, Sub.refl _⟩ <;> repeat' (first | exact EnvLe.nil | exact LocsLe.nil | refine EnvLe.cons _ _ _ ?_ ?_ | refine LocsLe.cons _ _ _ ?_ ?_ | exact CVle.same _ rfl | exact CVle.vec _ _ | exact CVle.nil | exact CVle.tok _ _ _ rfl rfl | exact ObLe.tok _ _ rfl | exact CVles.nil | refine CVles.cons ?_ ?_ | exact ObLe.same _ rfl rfl | refine ObLe.cells rfl ?_))
            · refine hK ⟨j + 1, n, acc, s, lx, cap⟩ _ _ ⟨by simp only; omega, q2, by simp only; omega, q4, q5, q6, q7⟩ (by simp only; omega) ?_
              (refine ⟨rfl, ?_, ?_, Sub.refl _⟩ <;> repeat' (first | exact EnvLe.nil | exact LocsLe.nil | refine EnvLe.cons _ _ _ ?_ ?_ | refine LocsLe.cons _ _ _ ?_ ?_ | exact CVle.same _ rfl | exact CVle.vec _ _ | exact CVle.nil | exact CVle.tok _ _ _ rfl rfl | exact ObLe.tok _ _ rfl | exact CVles.nil | refine CVles.cons ?_ ?_ | exact ObLe.same _ rfl rfl | refine ObLe.cells rfl ?_))
          · conv => whnf
            repeat' (first | refine Fork.np ?_ | refine finGo ?_) <;> try (conv => whnf)
            exact ⟨es1, acc, n, lx, cap, s, i2, i3, by rw [nds_len] at q2; omega, q4, q2, q5, q6, q7, rfl⟩
        · (refine ⟨rfl, ?_, ?_, Sub.refl _⟩ <;> repeat' (first | exact EnvLe.nil | exact LocsLe.nil | refine EnvLe.cons _ _ _ ?_ ?_ | refine LocsLe.cons _ _ _ ?_ ?_ | exact CVle.same _ rfl | exact CVle.vec _ _ | exact CVle.nil | exact CVle.tok _ _ _ rfl rfl | exact ObLe.tok _ _ rfl | exact CVles.nil | refine CVles.cons ?_ ?_ | exact ObLe.same _ rfl rfl | refine ObLe.cells rfl ?_))
    · (refine ⟨rfl, ?_, ?_, Sub.refl _⟩ <;> repeat' (first | exact EnvLe.nil | exact LocsLe.nil | refine EnvLe.cons _ _ _ ?_ ?_ | refine LocsLe.cons _ _ _ ?_ ?_ | exact CVle.same _ rfl | exact CVle.vec _ _ | exact CVle.nil | exact CVle.tok _ _ _ rfl rfl | exact ObLe.tok _ _ rfl | exact CVles.nil | refine CVles.cons ?_ ?_ | exact ObLe.same _ rfl rfl | refine ObLe.cells rfl ?_))
def opn (n l cap : Nat) : CV := match n with
  | 0 => .nil
  | k + 1 => .grow l (k + 1) cap
structure CSt where
  i : Nat
  s : Heap
  l : Nat
  cap : Nat
def CopyP (H : Heap) (ns : List Nd) (es : List Ed) (nn ne : Int) (out : COut) : Prop := ∃ s' cN cE, OC s' 110 3 cN (nds ns) ∧ OC s' 107 5 cE (eds es) ∧ (∀ l n cap, cN = .grow l n cap → H l = none) ∧ (∀ l n cap, cE = .grow l n cap → H l = none) ∧
  (∀ xs, cN = .vec xs → False) ∧ (∀ xs, cE = .vec xs → False) ∧ (∀ l n cap n' cap', cN = .grow l n cap → cE = .grow l n' cap' → False) ∧ Sub H s' ∧ out = .ret (.agg [cN, cE, i64 nn, i64 ne]) s'
theorem sub_tr {a b c : Heap} (h : Sub a b) (k : Sub b c) : Sub a c := fun l o e => k l o (h l o e)
theorem opn_oc {s : Heap} {T sz n l cap : Nat} {xs : List CV} (hn : n = xs.length) (h : n ≠ 0 → s l = some (.arr T sz cap xs)) : OC s T sz (opn n l cap) xs := by
  cases n with
  | zero =>
    have : xs = [] := List.eq_nil_of_length_eq_zero hn.symm
    subst this; exact .nil
  | succ k => exact .grow _ _ _ _ hn (h (by omega))
theorem opn_grow {n l cap l' n' cap' : Nat} (h : opn n l cap = .grow l' n' cap') : n ≠ 0 ∧ l = l' := by
  cases n with
  | zero => cases h
  | succ k => cases h; exact ⟨by omega, rfl⟩
theorem opn_vec {n l cap : Nat} {xs : List CV} (h : opn n l cap = .vec xs) : False := by
  cases n <;> cases h
theorem copy_end {H s1 s2 : Heap} {ns : List Nd} {es : List Ed} {nn ne : Int} {i lN capN j lE capE : Nat} (hi : i = ns.length) (hj : j = es.length) (h1 : Sub H s1) (h2 : Sub s1 s2) (hN : i ≠ 0 → H lN = none ∧ s1 lN = some (.arr 110 3 capN (nds ns))) (hE : j ≠ 0 → s1 lE = none ∧ s2 lE = some (.arr 107 5 capE (eds es))) :
    CopyP H ns es nn ne (.ret (.agg [opn i lN capN, opn j lE capE, i64 nn, i64 ne]) s2) := by
  refine ⟨s2, _, _, opn_oc (by rw [nds_len]; exact hi) (fun h => h2 _ _ (hN h).2), opn_oc (by rw [eds_len]; exact hj) (fun h => (hE h).2), fun l n cap e => ?_, fun l n cap e => ?_, fun xs e => opn_vec e, fun xs e => opn_vec e, fun l n cap n' cap' e1 e2 => ?_, sub_tr h1 h2, rfl⟩
  · obtain ⟨h0, rfl⟩ := opn_grow e; exact (hN h0).1
  · obtain ⟨h0, rfl⟩ := opn_grow e
    cases e : H lE with
    | none => rfl
    | some ob => have := h1 _ _ e; rw [(hE h0).1] at this; cases this
  · obtain ⟨h0, rfl⟩ := opn_grow e1
    obtain ⟨h3, h4⟩ := opn_grow e2
    subst h4
    have := (hN h0).2
    rw [(hE h3).1] at this; cases this
theorem sub_none {H s : Heap} (h : Sub H s) {l : Nat} (hl : s l = none) : H l = none := by
  cases e : H l with
  | none => rfl
  | some ob => rw [h _ _ e] at hl; cases hl
theorem take_one {α : Type} {l : List α} {i : Nat} {x : α} (h : l[i]? = some x) : l.take (i + 1) = l.take i ++ [x] := by rw [List.take_add_one, h]; rfl
set_option maxHeartbeats 4000000 in
theorem l2Copy_c {H : Heap} {ns : List Nd} {es : List Ed} {nn ne : Int} (hln : ns.length ≤ 100) (hle : es.length ≤ 100) (htn : ∀ n ∈ ns, NdTame n) (hte : ∀ e ∈ es, EdTame e) :
    CRun Tryz.prog 68 [.agg [.vec (nds ns), .vec (eds es), i64 nn, i64 ne]] H (CopyP H ns es nn ne) := by
  have e3 := nds_len ns
  have e4 := eds_len es
  refine crun_of (X := G [38,60]) (G_ok _) (G_sat _) (body := bodyOf Tryz.f68) Tryz.func68 rfl (by kernel_rfl) (by kernel_rfl) ?_
  rw [Tryz.ntmps68]
  conv => whnf
  repeat' (first | refine OrdN.one ?_ | refine Fork.yp ?_ | refine Fork.np ?_ | refine Fork.ny ?_ | refine Fork.nn ?_ | refine Fork.yb ?_ | refine Fork.nb ?_ | refine Fork.dp (fun h => ?_) (fun h => ?_) | refine Fork.dn (fun h => ?_) (fun h => ?_) | (refine Fork.mk (fun h => ?_) (fun h => ?_) <;> simp only [decide_eq_true_eq, decide_eq_false_iff_not, Bool.not_eq_true', Bool.not_eq_false', Bool.or_eq_true, Bool.or_eq_false_iff] at h) | refine GetN.go ?_ | refine Need.ap1 ?_ | refine Need.ap0 ?_ | refine Need.go ?_ | refine Need.draw ?_ | refine ElemN.go ?_ | refine ExtN.ext ?_ | refine ExtN.wr ?_ | refine AllocN.go (fun l hl => ?_) | refine finGo ?_) <;> try (conv => whnf)
  refine LoopN.rule (α := CSt) (fun a => ⟨63, [(1, .ptr (.f 1) 0), (2, .ptr (.f 2) 0), (3, .ptr (.f 3) 0), (4, i64 a.i)], [(1, .cells [.vec (nds ns), .vec (eds es), i64 nn, i64 ne]), (2, .cells [.nil, .nil, i64 0, i64 0]), (3, .cells [opn a.i a.l a.cap, .nil, i64 nn, i64 ne])]⟩)
    (fun a => a.s) (fun a => ns.length - a.i) (fun a => a.i ≤ ns.length ∧ Sub H a.s ∧ (a.i ≠ 0 → H a.l = none ∧ a.s a.l = some (.arr 110 3 a.cap (nds (ns.take a.i))))) ?_ ⟨0, H, 0, 0⟩ ⟨Nat.zero_le _, Sub.refl _, fun h => absurd rfl h⟩ ?_
  · rintro ⟨i, s, lx, cap⟩ K ⟨i1, i2, i3⟩ hK
    dsimp only at i1 i2 i3 ⊢
    by_cases hi : i < ns.length
    · obtain ⟨d', ls, ps, hm, hg', hg, _⟩ := nds_at hi
      have hg : (nds ns)[(i : Int).toNat]? = some (.agg [i64 d', .vec (strs ls), .vec (prs ps)]) := hg
      have ht := htn _ hm
      have c1 := l2Ps_c (σ := s) ht.pl (fun p hp => (ht.ps p hp).val)
      have els := strs_els ls
      have esl := strs_len ls
      have hll := ht.ll
      dsimp only at c1 hll
      have eT : nds (ns.take (i + 1)) = nds (ns.take i) ++ [Nd.cv ⟨d', ls, ps⟩] := by rw [take_one hg', nds_snoc]
      have eL : i = (nds (ns.take i)).length := by rw [nds_len, List.length_take]; omega
      clear ht
      cases i with
      | zero =>
        cases ls
        all_goals
          conv => whnf
          repeat' (first | (refine CallN.one c1 ?_) | (refine AllocC.go (fun l2 cap2 hl2 hcap2 => ?_)) | (refine Need.ap2 ?_ (h := els) (h1 := by simp only [List.length_replicate]; omega) (h3 := by rw [esl]; simp) (h2 := rfl)) | (refine Need.go ?_ (h := ⟨by simp only [List.length_cons, List.length_nil]; omega, by simp only [List.length_cons, List.length_nil]; omega, ElsOk.one rfl rfl⟩)) | refine OrdN.go ?_ | refine Fork.yp ?_ | refine Fork.yb ?_ | refine Fork.nb ?_ | refine Need.go ?_ | refine Need.draw ?_ | refine ElemN.go ?_ | refine ExtN.ext ?_) <;> try (conv => whnf)
          refine hK ⟨1, upd s l2 (.arr 110 3 cap2 (nds (ns.take (0 + 1)))), l2, cap2⟩ _ _ ⟨by simp only; omega, i2.upd (sub_none i2 hl2), fun _ => ⟨sub_none i2 hl2, upd_same _ _ _⟩⟩ (by simp only; omega) ?_
          dsimp only
          rw [eT]
          (refine ⟨rfl, ?_, ?_, Sub.refl _⟩ <;> repeat' (first | exact EnvLe.nil | exact LocsLe.nil | refine EnvLe.cons _ _ _ ?_ ?_ | refine LocsLe.cons _ _ _ ?_ ?_ | exact CVle.same _ rfl | exact CVle.vec _ _ | exact CVle.nil | exact CVle.tok _ _ _ rfl rfl | exact ObLe.tok _ _ rfl | exact CVles.nil | refine CVles.cons ?_ ?_ | exact ObLe.same _ rfl rfl | refine ObLe.cells rfl ?_))
      | succ k =>
        obtain ⟨j1, j2⟩ := i3 (by omega)
        have eN := eL
        generalize nds (ns.take (k + 1)) = xs at j2 eT eL eN
        cases ls
        all_goals
          conv => whnf
          repeat' (first | (refine CallN.one c1 ?_) | (refine AllocC.go (fun l2 cap2 hl2 hcap2 => ?_)) | (refine Need.ap2 ?_ (h := els) (h1 := by simp only [List.length_replicate]; omega) (h3 := by rw [esl]; simp) (h2 := rfl)) | (refine Need.go ?_ (h := ⟨rfl, by omega, by simp only [List.length_cons, List.length_nil]; omega, by simp only [List.length_cons, List.length_nil]; omega, ElsOk.one rfl rfl⟩)) | refine OrdN.go ?_ | refine Fork.yp ?_ | refine Fork.yb ?_ | refine Fork.nb ?_ | refine Fork.dp (fun h => ?_) (fun h => ?_) | refine GetN.go ?_ | refine Need.go ?_ | refine Need.draw ?_ | refine ElemN.go ?_ | refine ExtN.ext ?_) <;> try (conv => whnf)
          · refine hK ⟨k + 1 + 1, upd s lx (.arr 110 3 cap (nds (ns.take (k + 1 + 1)))), lx, cap⟩ _ _ ⟨by simp only; omega, i2.upd j1, fun _ => ⟨j1, upd_same _ _ _⟩⟩ (by simp only; omega) ?_
            dsimp only
            rw [eT, ← grow_in eN _ 1]
            (refine ⟨rfl, ?_, ?_, Sub.refl _⟩ <;> repeat' (first | exact EnvLe.nil | exact LocsLe.nil | refine EnvLe.cons _ _ _ ?_ ?_ | refine LocsLe.cons _ _ _ ?_ ?_ | exact CVle.same _ rfl | exact CVle.vec _ _ | exact CVle.nil | exact CVle.tok _ _ _ rfl rfl | exact ObLe.tok _ _ rfl | exact CVles.nil | refine CVles.cons ?_ ?_ | exact ObLe.same _ rfl rfl | refine ObLe.cells rfl ?_))
          · refine hK ⟨k + 1 + 1, upd s l2 (.arr 110 3 cap2 (nds (ns.take (k + 1 + 1)))), l2, cap2⟩ _ _ ⟨by simp only; omega, i2.upd (sub_none i2 hl2), fun _ => ⟨sub_none i2 hl2, upd_same _ _ _⟩⟩ (by simp only; omega) ?_
            dsimp only
            rw [eT, ← grow_new eN]
            (refine ⟨rfl, ?_, ?_, Sub.refl _⟩ <;> repeat' (first | exact EnvLe.nil | exact LocsLe.nil | refine EnvLe.cons _ _ _ ?_ ?_ | refine LocsLe.cons _ _ _ ?_ ?_ | exact CVle.same _ rfl | exact CVle.vec _ _ | exact CVle.nil | exact CVle.tok _ _ _ rfl rfl | exact ObLe.tok _ _ rfl | exact CVles.nil | refine CVles.cons ?_ ?_ | exact ObLe.same _ rfl rfl | refine ObLe.cells rfl ?_))
    · have hiN : i = ns.length := by omega
      have eT : ns.take i = ns := List.take_of_length_le (by omega)
      rw [eT] at i3
      cases i with
      | zero =>
        conv => whnf
        repeat' (first | refine Fork.np ?_) <;> try (conv => whnf)
        refine LoopN.rule (α := CSt) (fun a => ⟨63, [(1, .ptr (.f 1) 0), (2, .ptr (.f 2) 0), (3, .ptr (.f 3) 0), (6, i64 a.i)], [(1, .cells [.vec (nds ns), .vec (eds es), i64 nn, i64 ne]), (2, .cells [.nil, .nil, i64 0, i64 0]), (3, .cells [opn 0 lx cap, opn a.i a.l a.cap, i64 nn, i64 ne])]⟩)
          (fun a => a.s) (fun a => es.length - a.i) (fun a => a.i ≤ es.length ∧ Sub s a.s ∧ (a.i ≠ 0 → s a.l = none ∧ a.s a.l = some (.arr 107 5 a.cap (eds (es.take a.i))))) ?_ ⟨0, s, 0, 0⟩ ⟨Nat.zero_le _, Sub.refl _, fun h => absurd rfl h⟩ ?_
        · rintro ⟨j, s1, ly, capy⟩ K ⟨p1, p2, p3⟩ hK
          dsimp only at p1 p2 p3 ⊢
          by_cases hj : j < es.length
          · obtain ⟨d', kd, a, b, ps, hm, hg', hg, _⟩ := eds_at hj
            have hg : (eds es)[(j : Int).toNat]? = some (.agg [i64 d', .sc (.string kd), i64 a, i64 b, .vec (prs ps)]) := hg
            have ht := hte _ hm
            have c1 := l2Ps_c (σ := s1) ht.pl (fun p hp => (ht.ps p hp).val)
            dsimp only at c1
            have eT : eds (es.take (j + 1)) = eds (es.take j) ++ [Ed.cv ⟨d', kd, a, b, ps⟩] := by rw [take_one hg', eds_snoc]
            have eL : j = (eds (es.take j)).length := by rw [eds_len, List.length_take]; omega
            clear ht
            cases j with
            | zero =>
              conv => whnf
              repeat' (first | (refine CallN.one c1 ?_) | (refine AllocC.go (fun l2 cap2 hl2 hcap2 => ?_)) | (refine Need.go ?_ (h := ⟨by simp only [List.length_cons, List.length_nil]; omega, by simp only [List.length_cons, List.length_nil]; omega, ElsOk.one rfl rfl⟩)) | refine Fork.yp ?_ | refine Fork.nn ?_ | refine Need.go ?_ | refine ElemN.go ?_ | refine ExtN.ext ?_) <;> try (conv => whnf)
              refine hK ⟨1, upd s1 l2 (.arr 107 5 cap2 (eds (es.take (0 + 1)))), l2, cap2⟩ _ _ ⟨by simp only; omega, p2.upd (sub_none p2 hl2), fun _ => ⟨sub_none p2 hl2, upd_same _ _ _⟩⟩ (by simp only; omega) ?_
              dsimp only
              rw [eT]
              (refine ⟨rfl, ?_, ?_, Sub.refl _⟩ <;> repeat' (first | exact EnvLe.nil | exact LocsLe.nil | refine EnvLe.cons _ _ _ ?_ ?_ | refine LocsLe.cons _ _ _ ?_ ?_ | exact CVle.same _ rfl | exact CVle.vec _ _ | exact CVle.nil | exact CVle.tok _ _ _ rfl rfl | exact ObLe.tok _ _ rfl | exact CVles.nil | refine CVles.cons ?_ ?_ | exact ObLe.same _ rfl rfl | refine ObLe.cells rfl ?_))
            | succ m =>
              obtain ⟨j1, j2⟩ := p3 (by omega)
              have eN := eL
              generalize eds (es.take (m + 1)) = xs at j2 eT eL eN
              conv => whnf
              repeat' (first | (refine CallN.one c1 ?_) | (refine AllocC.go (fun l2 cap2 hl2 hcap2 => ?_)) | (refine Need.go ?_ (h := ⟨rfl, by omega, by simp only [List.length_cons, List.length_nil]; omega, by simp only [List.length_cons, List.length_nil]; omega, ElsOk.one rfl rfl⟩)) | refine Fork.yp ?_ | refine Fork.nb ?_ | refine Fork.dp (fun h => ?_) (fun h => ?_) | refine GetN.go ?_ | refine Need.go ?_ | refine ElemN.go ?_ | refine ExtN.ext ?_) <;> try (conv => whnf)
              · refine hK ⟨m + 1 + 1, upd s1 ly (.arr 107 5 capy (eds (es.take (m + 1 + 1)))), ly, capy⟩ _ _ ⟨by simp only; omega, p2.upd j1, fun _ => ⟨j1, upd_same _ _ _⟩⟩ (by simp only; omega) ?_
                dsimp only
                rw [eT, ← grow_in eN _ 1]
                (refine ⟨rfl, ?_, ?_, Sub.refl _⟩ <;> repeat' (first | exact EnvLe.nil | exact LocsLe.nil | refine EnvLe.cons _ _ _ ?_ ?_ | refine LocsLe.cons _ _ _ ?_ ?_ | exact CVle.same _ rfl | exact CVle.vec _ _ | exact CVle.nil | exact CVle.tok _ _ _ rfl rfl | exact ObLe.tok _ _ rfl | exact CVles.nil | refine CVles.cons ?_ ?_ | exact ObLe.same _ rfl rfl | refine ObLe.cells rfl ?_))
              · refine hK ⟨m + 1 + 1, upd s1 l2 (.arr 107 5 cap2 (eds (es.take (m + 1 + 1)))), l2, cap2⟩ _ _ ⟨by simp only; omega, p2.upd (sub_none p2 hl2), fun _ => ⟨sub_none p2 hl2, upd_same _ _ _⟩⟩ (by simp only; omega) ?_
                dsimp only
                rw [eT, ← grow_new eN]
                (refine ⟨rfl, ?_, ?_, Sub.refl _⟩ <;> repeat' (first | exact EnvLe.nil | exact LocsLe.nil | refine EnvLe.cons _ _ _ ?_ ?_ | refine LocsLe.cons _ _ _ ?_ ?_ | exact CVle.same _ rfl | exact CVle.vec _ _ | exact CVle.nil | exact CVle.tok _ _ _ rfl rfl | exact ObLe.tok _ _ rfl | exact CVles.nil | refine CVles.cons ?_ ?_ | exact ObLe.same _ rfl rfl | refine ObLe.cells rfl ?_))
          · have hjN : j = es.length := by omega
            have eT' : es.take j = es := List.take_of_length_le (by omega)
            rw [eT'] at p3
            cases j
            all_goals
              conv => whnf
              repeat' (first | (apply fin0; (case hs => (repeat' (first | with_reducible exact st_nil | with_reducible apply st_cons | ((conv => enter [1, 1]; whnf); first | with_reducible exact st_nil | with_reducible apply st_cons | ((with_reducible refine Eq.trans s0_sc ?_); rfl) | ((with_reducible refine Eq.trans s0_nil ?_); rfl) | ((with_reducible refine Eq.trans s0_grow ?_); rfl) | ((with_reducible refine Eq.trans s0_vec ?_); rfl) | ((with_reducible refine Eq.trans s0_avec ?_); rfl) | ((with_reducible refine Eq.trans s0_ptr ?_); rfl) | with_reducible apply s0_agg))))) | refine Fork.np ?_) <;> try (conv => whnf)
              exact copy_end (nn := nn) (ne := ne) hiN hjN i2 p2 i3 p3
        · (refine ⟨rfl, ?_, ?_, Sub.refl _⟩ <;> repeat' (first | exact EnvLe.nil | exact LocsLe.nil | refine EnvLe.cons _ _ _ ?_ ?_ | refine LocsLe.cons _ _ _ ?_ ?_ | exact CVle.same _ rfl | exact CVle.vec _ _ | exact CVle.nil | exact CVle.tok _ _ _ rfl rfl | exact ObLe.tok _ _ rfl | exact CVles.nil | refine CVles.cons ?_ ?_ | exact ObLe.same _ rfl rfl | refine ObLe.cells rfl ?_))
      | succ k =>
        conv => whnf
        repeat' (first | refine Fork.np ?_) <;> try (conv => whnf)
        refine LoopN.rule (α := CSt) (fun a => ⟨63, [(1, .ptr (.f 1) 0), (2, .ptr (.f 2) 0), (3, .ptr (.f 3) 0), (6, i64 a.i)], [(1, .cells [.vec (nds ns), .vec (eds es), i64 nn, i64 ne]), (2, .cells [.nil, .nil, i64 0, i64 0]), (3, .cells [opn (k + 1) lx cap, opn a.i a.l a.cap, i64 nn, i64 ne])]⟩)
          (fun a => a.s) (fun a => es.length - a.i) (fun a => a.i ≤ es.length ∧ Sub s a.s ∧ (a.i ≠ 0 → s a.l = none ∧ a.s a.l = some (.arr 107 5 a.cap (eds (es.take a.i))))) ?_ ⟨0, s, 0, 0⟩ ⟨Nat.zero_le _, Sub.refl _, fun h => absurd rfl h⟩ ?_
        · rintro ⟨j, s1, ly, capy⟩ K ⟨p1, p2, p3⟩ hK
          dsimp only at p1 p2 p3 ⊢
          by_cases hj : j < es.length
          · obtain ⟨d', kd, a, b, ps, hm, hg', hg, _⟩ := eds_at hj
            have hg : (eds es)[(j : Int).toNat]? = some (.agg [i64 d', .sc (.string kd), i64 a, i64 b, .vec (prs ps)]) := hg
            have ht := hte _ hm
            have c1 := l2Ps_c (σ := s1) ht.pl (fun p hp => (ht.ps p hp).val)
            dsimp only at c1
            have eT : eds (es.take (j + 1)) = eds (es.take j) ++ [Ed.cv ⟨d', kd, a, b, ps⟩] := by rw [take_one hg', eds_snoc]
            have eL : j = (eds (es.take j)).length := by rw [eds_len, List.length_take]; omega
            clear ht
            cases j with
            | zero =>
              conv => whnf
              repeat' (first | (refine CallN.one c1 ?_) | (refine AllocC.go (fun l2 cap2 hl2 hcap2 => ?_)) | (refine Need.go ?_ (h := ⟨by simp only [List.length_cons, List.length_nil]; omega, by simp only [List.length_cons, List.length_nil]; omega, ElsOk.one rfl rfl⟩)) | refine Fork.yp ?_ | refine Fork.nn ?_ | refine Need.go ?_ | refine ElemN.go ?_ | refine ExtN.ext ?_) <;> try (conv => whnf)
              refine hK ⟨1, upd s1 l2 (.arr 107 5 cap2 (eds (es.take (0 + 1)))), l2, cap2⟩ _ _ ⟨by simp only; omega, p2.upd (sub_none p2 hl2), fun _ => ⟨sub_none p2 hl2, upd_same _ _ _⟩⟩ (by simp only; omega) ?_
              dsimp only
              rw [eT]
              (refine ⟨rfl, ?_, ?_, Sub.refl _⟩ <;> repeat' (first | exact EnvLe.nil | exact LocsLe.nil | refine EnvLe.cons _ _ _ ?_ ?_ | refine LocsLe.cons _ _ _ ?_ ?_ | exact CVle.same _ rfl | exact CVle.vec _ _ | exact CVle.nil | exact CVle.tok _ _ _ rfl rfl | exact ObLe.tok _ _ rfl | exact CVles.nil | refine CVles.cons ?_ ?_ | exact ObLe.same _ rfl rfl | refine ObLe.cells rfl ?_))
            | succ m =>
              obtain ⟨j1, j2⟩ := p3 (by omega)
              have eN := eL
              generalize eds (es.take (m + 1)) = xs at j2 eT eL eN
              conv => whnf
              repeat' (first | (refine CallN.one c1 ?_) | (refine AllocC.go (fun l2 cap2 hl2 hcap2 => ?_)) | (refine Need.go ?_ (h := ⟨rfl, by omega, by simp only [List.length_cons, List.length_nil]; omega, by simp only [List.length_cons, List.length_nil]; omega, ElsOk.one rfl rfl⟩)) | refine Fork.yp ?_ | refine Fork.nb ?_ | refine Fork.dp (fun h => ?_) (fun h => ?_) | refine GetN.go ?_ | refine Need.go ?_ | refine ElemN.go ?_ | refine ExtN.ext ?_) <;> try (conv => whnf)
              · refine hK ⟨m + 1 + 1, upd s1 ly (.arr 107 5 capy (eds (es.take (m + 1 + 1)))), ly, capy⟩ _ _ ⟨by simp only; omega, p2.upd j1, fun _ => ⟨j1, upd_same _ _ _⟩⟩ (by simp only; omega) ?_
                dsimp only
                rw [eT, ← grow_in eN _ 1]
                (refine ⟨rfl, ?_, ?_, Sub.refl _⟩ <;> repeat' (first | exact EnvLe.nil | exact LocsLe.nil | refine EnvLe.cons _ _ _ ?_ ?_ | refine LocsLe.cons _ _ _ ?_ ?_ | exact CVle.same _ rfl | exact CVle.vec _ _ | exact CVle.nil | exact CVle.tok _ _ _ rfl rfl | exact ObLe.tok _ _ rfl | exact CVles.nil | refine CVles.cons ?_ ?_ | exact ObLe.same _ rfl rfl | refine ObLe.cells rfl ?_))
              · refine hK ⟨m + 1 + 1, upd s1 l2 (.arr 107 5 cap2 (eds (es.take (m + 1 + 1)))), l2, cap2⟩ _ _ ⟨by simp only; omega, p2.upd (sub_none p2 hl2), fun _ => ⟨sub_none p2 hl2, upd_same _ _ _⟩⟩ (by simp only; omega) ?_
                dsimp only
                rw [eT, ← grow_new eN]
                (refine ⟨rfl, ?_, ?_, Sub.refl _⟩ <;> repeat' (first | exact EnvLe.nil | exact LocsLe.nil | refine EnvLe.cons _ _ _ ?_ ?_ | refine LocsLe.cons _ _ _ ?_ ?_ | exact CVle.same _ rfl | exact CVle.vec _ _ | exact CVle.nil | exact CVle.tok _ _ _ rfl rfl | exact ObLe.tok _ _ rfl | exact CVles.nil | refine CVles.cons ?_ ?_ | exact ObLe.same _ rfl rfl | refine ObLe.cells rfl ?_))
          · have hjN : j = es.length := by omega
            have eT' : es.take j = es := List.take_of_length_le (by omega)
            rw [eT'] at p3
            cases j
            all_goals
              conv => whnf
              repeat' (first | (apply fin0; (case hs => (repeat' (first | with_reducible exact st_nil | with_reducible apply st_cons | ((conv => enter [1, 1]; whnf); first | with_reducible exact st_nil | with_reducible apply st_cons | ((with_reducible refine Eq.trans s0_sc ?_); rfl) | ((with_reducible refine Eq.trans s0_nil ?_); rfl) | ((with_reducible refine Eq.trans s0_grow ?_); rfl) | ((with_reducible refine Eq.trans s0_vec ?_); rfl) | ((with_reducible refine Eq.trans s0_avec ?_); rfl) | ((with_reducible refine Eq.trans s0_ptr ?_); rfl) | with_reducible apply s0_agg))))) | refine Fork.np ?_) <;> try (conv => whnf)
              exact copy_end (nn := nn) (ne := ne) hiN hjN i2 p2 i3 p3
        · (refine ⟨rfl, ?_, ?_, Sub.refl _⟩ <;> repeat' (first | exact EnvLe.nil | exact LocsLe.nil | refine EnvLe.cons _ _ _ ?_ ?_ | refine LocsLe.cons _ _ _ ?_ ?_ | exact CVle.same _ rfl | exact CVle.vec _ _ | exact CVle.nil | exact CVle.tok _ _ _ rfl rfl | exact ObLe.tok _ _ rfl | exact CVles.nil | refine CVles.cons ?_ ?_ | exact ObLe.same _ rfl rfl | refine ObLe.cells rfl ?_))
  · (refine ⟨rfl, ?_, ?_, Sub.refl _⟩ <;> repeat' (first | exact EnvLe.nil | exact LocsLe.nil | refine EnvLe.cons _ _ _ ?_ ?_ | refine LocsLe.cons _ _ _ ?_ ?_ | exact CVle.same _ rfl | exact CVle.vec _ _ | exact CVle.nil | exact CVle.tok _ _ _ rfl rfl | exact ObLe.tok _ _ rfl | exact CVles.nil | refine CVles.cons ?_ ?_ | exact ObLe.same _ rfl rfl | refine ObLe.cells rfl ?_))
theorem GI.shN {σ s : Heap} {l0 : Nat} {cN cE : CV} {ns : List Nd} {es : List Ed} (h : GI σ l0 s cN cE ns es) : (cN = .nil ∧ ns = []) ∨ ∃ l n cap, cN = .grow l n cap ∧ n = ns.length ∧ s l = some (.arr 110 3 cap (nds ns)) := by
  have o := h.oN
  generalize hx : nds ns = xs at o
  cases o with
  | nil => exact .inl ⟨rfl, by cases ns with | nil => rfl | cons a r => simp [nds] at hx⟩
  | vec _ => exact (h.vN _ rfl).elim
  | grow l n cap _ hn hg => exact .inr ⟨l, n, cap, rfl, by rw [hn, ← hx, nds_len], hg⟩
theorem GI.shE {σ s : Heap} {l0 : Nat} {cN cE : CV} {ns : List Nd} {es : List Ed} (h : GI σ l0 s cN cE ns es) (hv : ∀ xs, cE = .vec xs → False) : cE = .nil ∨ ∃ l n cap, cE = .grow l n cap := by
  have o := h.oE
  generalize hx : eds es = xs at o
  cases o with
  | nil => exact .inl rfl
  | vec _ => exact (hv _ rfl).elim
  | grow l n cap _ hn hg => exact .inr ⟨l, n, cap, rfl⟩
theorem GI.init {σ : Heap} {l0 : Nat} : GI σ l0 σ .nil .nil [] [] :=
  ⟨Sub.refl _, .nil, .nil, fun l n cap e => (by cases e), fun l n cap e => (by cases e), fun xs e => (by cases e), fun l n cap n' cap' e => (by cases e), by simp, by simp⟩
theorem nd_tame {d : Int} {ls : List ByteArray} {ps : List Pr} (h1 : (strs ls).length ≤ 6) (h2 : ∀ s ∈ ls, s.size ≤ 7) (h3 : (prs ps).length ≤ 6) (h4 : ∀ q ∈ ps, GoodP q) : NdTame ⟨d, ls, ps⟩ := by
  rw [strs_len] at h1
  rw [prs_len] at h3
  exact ⟨by simp only; omega, fun s hs => by have := h2 s hs; omega, by simp only; omega, fun p hp => ⟨by have := (h4 p hp).name; omega, (h4 p hp).val⟩⟩
theorem ed_tame {d a b : Int} {kd : ByteArray} {ps : List Pr} (h1 : kd.size ≤ 7) (h3 : (prs ps).length ≤ 6) (h4 : ∀ q ∈ ps, GoodP q) : EdTame ⟨d, kd, a, b, ps⟩ := by
  rw [prs_len] at h3
  exact ⟨by simp only; omega, by simp only; omega, fun p hp => ⟨by have := (h4 p hp).name; omega, (h4 p hp).val⟩⟩
theorem tame_P : NdTame ⟨0, [⟨#[80]⟩], []⟩ := ⟨by simp, by simp; decide, by simp, by simp⟩
theorem ok_P : labelsOk [⟨#[80]⟩] = true := by decide
theorem ok_0 : propsOk [] = true := by decide
def GraphO (σ : Heap) (l0 : Nat) (bs : List CV) (p : Int) (out : COut) : Prop := ∃ s' cN cE ns es nn ne q', GI σ l0 s' cN cE ns es ∧ ns.length ≤ 30 ∧ es.length ≤ 30 ∧ 0 ≤ nn ∧ nn ≤ 100 ∧ 0 ≤ ne ∧ ne ≤ 100 ∧ p ≤ q' ∧ q' ≤ p + 10000 ∧ out = .ret (.agg [cN, cE, i64 nn, i64 ne]) (rd s' l0 bs q')
def GraphF (σ : Heap) (l0 : Nat) (bs : List CV) (p : Int) (out : COut) : Prop := ∃ ns es nn ne q', (∀ n ∈ ns, NdTame n) ∧ (∀ e ∈ es, EdTame e) ∧ ns.length ≤ 30 ∧ es.length ≤ 30 ∧ 0 ≤ nn ∧ nn ≤ 100 ∧ 0 ≤ ne ∧ ne ≤ 100 ∧ p ≤ q' ∧ q' ≤ p + 10000 ∧ out = .ret (.agg [.vec (nds ns), .vec (eds es), i64 nn, i64 ne]) (rd σ l0 bs q')
theorem oc_frz {σ s : Heap} {T sz l0 : Nat} {bs : List CV} {q : Int} {c : CV} {xs : List CV} (h : OC s T sz c xs) (hf : ∀ l n cap, c = .grow l n cap → σ l = none ∧ l ≠ l0) :
    ∃ c' ls, Frz (rd s l0 bs q) ls c c' ∧ (∀ l ∈ ls, rd σ l0 bs q l = none) ∧ NilW c' (.vec xs) := by
  cases h with
  | nil => exact ⟨.nil, [], .same _, by simp, .inr ⟨rfl, rfl⟩⟩
  | vec _ => exact ⟨.vec xs, [], .same _, by simp, .inl rfl⟩
  | grow l n cap _ hn h =>
    obtain ⟨h1, h2⟩ := hf _ _ _ rfl
    refine ⟨.vec xs, [l], ?_, fun x hx => by rw [List.mem_singleton.1 hx, rd_ne h2]; exact h1, .inl rfl⟩
    have := Frz.grow (σ := rd s l0 bs q) l n cap _ _ _ (get_rd2 h h2) (by omega)
    rwa [List.take_of_length_le (by omega)] at this
theorem graph_frz {f : FuncId} {args : List CV} {σ0 σ : Heap} {l0 : Nat} {bs : List CV} {p : Int} (h : CRun Tryz.prog f args σ0 (GraphO σ l0 bs p)) : CRun Tryz.prog f args σ0 (GraphF σ l0 bs p) := by
  have h1 : CRun Tryz.prog f args σ0 (fun out => ∃ a b ns es nn ne q', NilW a (.vec (nds ns)) ∧ NilW b (.vec (eds es)) ∧ (∀ n ∈ ns, NdTame n) ∧ (∀ e ∈ es, EdTame e) ∧ ns.length ≤ 30 ∧ es.length ≤ 30 ∧ 0 ≤ nn ∧ nn ≤ 100 ∧ 0 ≤ ne ∧ ne ≤ 100 ∧ p ≤ q' ∧ q' ≤ p + 10000 ∧ out = .ret (.agg [a, b, i64 nn, i64 ne]) (rd σ l0 bs q')) := by
    refine h.freeze fun out ⟨s', cN, cE, ns, es, nn, ne, q', hG, b1, b2, b3, b4, b5, b6, b7, b8, e⟩ => ?_
    subst e
    obtain ⟨a, la, fa, ha, wa⟩ := oc_frz (bs := bs) (q := q') hG.oN hG.fN
    obtain ⟨b, lb, fb, hb, wb⟩ := oc_frz (bs := bs) (q := q') hG.oE hG.fE
    refine ⟨.ret (.agg [a, b, i64 nn, i64 ne]) (rd σ l0 bs q'), ⟨rd_sub hG.sub, _, .inl (.agg (.cons fa (.cons fb (.cons (.same _) (.cons (.same _) .nil))))), fun l hl => ?_⟩, a, b, ns, es, nn, ne, q', wa, wb, hG.tn, hG.te, b1, b2, b3, b4, b5, b6, b7, b8, rfl⟩
    simp only [List.append_nil, List.mem_append] at hl
    rcases hl with hl | hl
    · exact ha l hl
    · exact hb l hl
  refine h1.weak fun out ⟨a, b, ns, es, nn, ne, q', wa, wb, t1, t2, b1, b2, b3, b4, b5, b6, b7, b8, e⟩ => ?_
  subst e
  exact ⟨.ret (.agg [.vec (nds ns), .vec (eds es), i64 nn, i64 ne]) (rd σ l0 bs q'), ⟨rfl, NilWs.agg (.cons wa (.cons wb (.cons (.inl rfl) (.cons (.inl rfl) .nil))))⟩, ns, es, nn, ne, q', t1, t2, b1, b2, b3, b4, b5, b6, b7, b8, rfl⟩
def unrd (σ σ' : Heap) (l0 : Nat) : Heap := fun x => if x = l0 then σ x else σ' x
theorem unrd_rd {σ σ' : Heap} {l0 : Nat} {bs : List CV} {q : Int} (h : σ' l0 = some (.cells [.vec bs, i64 q])) : rd (unrd σ σ' l0) l0 bs q = σ' := by
  funext x
  unfold rd upd unrd
  split
  · rename_i e; rw [e]; exact h.symm
  · rfl
def DropO (σ : Heap) (l0 : Nat) (bs : List CV) (q : Int) (ns : List Nd) (es : List Ed) (nn ne : Int) (out : COut) : Prop := ∃ s' l n cap ns' es', GI σ l0 s' (.grow l n cap) (.vec (eds es')) ns' es' ∧ ns'.length ≤ ns.length ∧ es'.length ≤ es.length ∧ out = .ret (.tup [.agg [.grow l n cap, .vec (eds es'), i64 nn, i64 ne], .sc (.bool true)]) (rd s' l0 bs q)
theorem dropO_c {σ s : Heap} {l0 : Nat} {bs : List CV} {q : Int} {cN cE A B : CV} {ns : List Nd} {es : List Ed} {nn ne d : Int} (hG : GI σ l0 s cN cE ns es) (hln : ns.length ≤ 100) (hle : es.length ≤ 100) (hA : A = cN ∨ (cN = .nil ∧ A = .vec [])) (hB : B = cE ∨ (cE = .nil ∧ B = .vec [])) (hA' : A ≠ .nil) (hB' : B ≠ .nil) :
    CRun Tryz.prog 148 [.agg [A, B, i64 nn, i64 ne], i64 d, .sc (.bool true)] (rd s l0 bs q) (DropO σ l0 bs q ns es nn ne) := by
  have c := dropNodeF_c (σ := rd σ l0 bs q) (nn := nn) (ne := ne) (d := d) hln hle hG.tn hG.te
  have fz : ∀ {T sz : Nat} {c C : CV} {xs : List CV}, OC s T sz c xs → (∀ l n cap, c = .grow l n cap → σ l = none ∧ l ≠ l0) → (C = c ∨ (c = .nil ∧ C = .vec [])) → C ≠ .nil → ∃ ls, Frz (rd s l0 bs q) ls C (.vec xs) ∧ ∀ l ∈ ls, rd σ l0 bs q l = none := by
    intro T sz c C xs h hf hC hn
    cases h with
    | nil =>
      rcases hC with rfl | ⟨_, rfl⟩
      · exact absurd rfl hn
      · exact ⟨[], .same _, by simp⟩
    | vec _ =>
      rcases hC with rfl | ⟨e, _⟩
      · exact ⟨[], .same _, by simp⟩
      · cases e
    | grow l n cap _ hn' h =>
      rcases hC with rfl | ⟨e, _⟩
      · obtain ⟨h1, h2⟩ := hf _ _ _ rfl
        refine ⟨[l], ?_, fun x hx => by rw [List.mem_singleton.1 hx, rd_ne h2]; exact h1⟩
        have := Frz.grow (σ := rd s l0 bs q) l n cap _ _ _ (get_rd2 h h2) (by omega)
        rwa [List.take_of_length_le (by omega)] at this
      · cases e
  obtain ⟨la, fa, ha⟩ := fz hG.oN hG.fN hA hA'
  obtain ⟨lb, fb, hb⟩ := fz hG.oE hG.fE hB hB'
  have c' : CRun Tryz.prog 148 [.agg [A, B, i64 nn, i64 ne], i64 d, .sc (.bool true)] (rd s l0 bs q) (DropP (rd σ l0 bs q) es ns nn ne) := by
    refine CRun.frozen (ls := _) (.cons (.agg (.cons fa (.cons fb (.cons (.same _) (.cons (.same _) .nil))))) (.cons (.one (.same _)) (.cons (.one (.same _)) .nil))) (rd_sub hG.sub) (fun l hl => ?_) c
    simp only [List.append_nil, List.mem_append] at hl
    rcases hl with hl | hl
    · exact ha l hl
    · exact hb l hl
  refine c'.mono fun out ⟨es', ns', n, l1, cap, σ', b1, b2, b3, b4, b5, b6, b7, b8, e⟩ => ?_
  have hr : σ' l0 = some (.cells [.vec bs, i64 q]) := b6 _ _ (upd_same _ _ _)
  have hne := ne_rd b7
  refine ⟨unrd σ σ' l0, l1, n, cap, ns', es', ⟨fun x ob hx => ?_, ?_, .vec _, fun l n cap e => (by cases e; exact ⟨no_rd b7, hne⟩), fun l n cap e => (by cases e), fun xs e => (by cases e), fun l n cap n' cap' _ e => (by cases e), b4, b2⟩, b3, b1, by rw [unrd_rd hr]; exact e⟩
  · unfold unrd
    split
    · exact hx
    · rename_i hx0; exact b6 _ _ (by rw [rd_ne hx0]; exact hx)
  · exact .grow _ _ _ _ b5 (by unfold unrd; rw [if_neg hne]; exact b8)
theorem OC.only {s : Heap} {T sz : Nat} {c : CV} {xs : List CV} (h : OC s T sz c xs) (f : Nat → Bool) : CV.only f c = true := by cases h <;> rfl
theorem GI.shE3 {σ s : Heap} {l0 : Nat} {cN cE : CV} {ns : List Nd} {es : List Ed} (h : GI σ l0 s cN cE ns es) : cE = .nil ∨ (cE = .vec (eds es)) ∨ ∃ l n cap, cE = .grow l n cap := by
  have o := h.oE
  generalize hx : eds es = xs at o
  cases o with
  | nil => exact .inl rfl
  | vec _ => exact .inr (.inl rfl)
  | grow l n cap _ hn hg => exact .inr (.inr ⟨l, n, cap, rfl⟩)
noncomputable def GM (g : List Nat) (m : Nat → Option (List Nat)) : Ctx := { P := Tryz.prog, tt := tt, gl := fun n => g.contains n, ord := m }
theorem GM_ok (g : List Nat) (m : Nat → Option (List Nat)) : (GM g m).ok := X_ok
theorem GM_sat (g : List Nat) (m : Nat → Option (List Nat)) : DrawSat (GM g m) := drawSat (GM_ok g m) X_draw
structure Hold (T : Prop) : Prop where
  h : T
theorem share {T G : Prop} (main : Hold T → G) (proof : T) : G := main ⟨proof⟩
structure GSt where
  n : Int
  s : Heap
  q : Int
  cN : CV
  cE : CV
  nn : Int
  ne : Int
  ns : List Nd
  es : List Ed
theorem addP_c {σ s : Heap} {l0 : Nat} {bs : List CV} {q : Int} {cN cE : CV} {ns : List Nd} {es : List Ed} {nn ne : Int} (hG : GI σ l0 s cN cE ns es) (hln : ns.length ≤ 100) (hnn : 0 ≤ nn ∧ nn ≤ 1000000) :
    CRun Tryz.prog 144 [.agg [cN, cE, i64 nn, i64 ne], .vec [.sc (.string ⟨#[80]⟩)], .vec []] (rd s l0 bs q) (AddNP σ l0 bs q cE ns es nn ne (12 ≤ ns.length)) := by
  have c := addNode_c (bs := bs) (q := q) (ne := ne) (ls := [⟨#[80]⟩]) (ps := []) hG (nn := nn) ⟨by simp, by simp; decide, by simp, by simp⟩ hln hnn
  exact c.mono fun out ⟨s', cN', ns', nn', b, h1, h2, e⟩ => ⟨s', cN', ns', nn', b, h1, h2.imp (fun ⟨a, b, f⟩ => ⟨a, b, f ok_P ok_0⟩) id, e⟩
set_option maxHeartbeats 8000000 in
theorem graph_o {l : Nat} {σ : Heap} {bs : List CV} (hb : BytesOk bs) (hl : bs.length ≤ 2000) {p : Int} (hp : 0 ≤ p) (hp' : p < 137438953472) : CRun Tryz.prog 69 [.ptr (.g l) 0] (rd σ l bs p) (GraphO σ l bs p) := by
  apply share
  focus {
  intro step3
  refine crun_of (X := (GM [] fun n => match Nat.beq n 5 with | true => some [0,1,3,2,4,5,6,7,8,9] | false => (match Nat.beq n 9 with | true => some [0,1,2,4,5,6,7,9,10,11,12,14,3,8,13,15,16,17,18,19,20] | false => (none)))) (GM_ok _ _) (GM_sat _ _) (body := bodyOf Tryz.f69) Tryz.func69 rfl (by kernel_rfl) (by kernel_rfl) ?_
  rw [Tryz.ntmps69]
  conv => whnf
  repeat' (first | (refine CallN.many (pick_n hb hl (by omega) (by omega)) ?_; rintro _ ⟨k, hk1, hk2, rfl⟩) | refine ExtN.wr ?_) <;> try (conv => whnf)
  refine LoopN.rule (α := GSt) (fun a => ⟨88, [(0, .ptr (.g l) 0), (2, .ptr (.f 2) 0), (3, .ptr (.f 3) 0), (4, i64 a.n)], [(2, .cells [.nil, .nil, i64 0, i64 0]), (3, .cells [a.cN, .nil, i64 a.nn, i64 0])]⟩)
    (fun a => rd a.s l bs a.q) (fun a => a.n.toNat) (fun a => GI σ l a.s a.cN .nil a.ns [] ∧ 0 ≤ a.n ∧ a.n ≤ 6 ∧ a.ns.length + a.n ≤ 7 ∧ 0 ≤ a.nn ∧ a.nn + a.n ≤ 7 ∧ p ≤ a.q ∧ a.q + 110 * a.n ≤ p + 1000) ?_
    ⟨k, σ, p + 1, .nil, .nil, 0, 0, [], []⟩ ⟨GI.init, by simp only; omega, by simp only; omega, by simp only [List.length_nil]; omega, by simp only; omega, by simp only; omega, by simp only; omega, by simp only; omega⟩ ?_
  · rintro ⟨n, s, q, cN, _, nn, _, ns, _⟩ K ⟨hG, i1, i2, i3, i4, i5, i6, i7⟩ hK
    dsimp only at hG i1 i2 i3 i4 i5 i6 i7 ⊢
    clear hk1 hk2
    by_cases hn : 0 < n
    · have hns : ns.length ≤ 100 := by omega
      have hnn : 0 ≤ nn ∧ nn ≤ 1000000 := by omega
      rcases hG.shN with ⟨rfl, rfl⟩ | ⟨lN, m, capN, rfl, hm, gN⟩
      all_goals
        conv => whnf
        repeat' (first | (refine CallN.many (labels_d hb hl (by omega) (by omega)) ?_; rintro _ ⟨_, q1, ⟨⟨⟨ls, rfl, hls⟩, hl4⟩, hl2⟩, hq1, hq2, rfl⟩) | (refine CallN.many (props_d hb hl (by omega) (by omega)) ?_; rintro _ ⟨_, q2, ⟨⟨⟨ps, rfl, hps⟩, hp6⟩, hp3⟩, hq3, hq4, rfl⟩) | ((refine CallN.many0 (addNode_c (ne := 0) hG (nd_tame (by omega) hls (by omega) hps) hns hnn) ?_ (hs := ?hs); (case hs => (repeat' (first | with_reducible exact st_nil | with_reducible apply st_cons | ((conv => enter [1, 1]; whnf); first | with_reducible exact st_nil | with_reducible apply st_cons | ((with_reducible refine Eq.trans s0_sc ?_); rfl) | ((with_reducible refine Eq.trans s0_nil ?_); rfl) | ((with_reducible refine Eq.trans s0_grow ?_); rfl) | ((with_reducible refine Eq.trans s0_vec ?_); rfl) | ((with_reducible refine Eq.trans s0_avec ?_); rfl) | ((with_reducible refine Eq.trans s0_ptr ?_); rfl) | with_reducible apply s0_agg)))); rintro _ ⟨s', cN', ns', nn', b, hG', hor, rfl⟩; rcases hG'.shN with ⟨rfl, rfl⟩ | ⟨lN', m', capN', rfl, hm', gN'⟩)) | refine OrdN.go ?_ | refine Fork.yp ?_ | refine Need.go ?_ | refine Need.draw ?_ | refine ExtN.wr ?_) <;> try (conv => whnf)
      all_goals
        refine hK ⟨n - 1, s', q2, _, .nil, nn', 0, _, []⟩ _ _ ⟨hG', by simp only; omega, by simp only; omega, by simp only; omega, by simp only; omega, by simp only; omega, by simp only; omega, by simp only; omega⟩ (by simp only; omega) ?_
        (refine ⟨rfl, ?_, ?_, Sub.refl _⟩ <;> repeat' (first | exact EnvLe.nil | exact LocsLe.nil | refine EnvLe.cons _ _ _ ?_ ?_ | refine LocsLe.cons _ _ _ ?_ ?_ | exact CVle.same _ rfl | exact CVle.vec _ _ | exact CVle.nil | exact CVle.tok _ _ _ rfl rfl | exact ObLe.tok _ _ rfl | exact CVles.nil | refine CVles.cons ?_ ?_ | exact ObLe.same _ rfl rfl | refine ObLe.cells rfl ?_))
    · conv => whnf
      repeat' (first | (refine CallN.many (pick_n hb hl (by omega) (by omega)) ?_; rintro _ ⟨k, hk1, hk2, rfl⟩) | refine Fork.np ?_ | refine ExtN.wr ?_) <;> try (conv => whnf)
      have hx : ∀ xs, CV.nil = .vec xs → False := fun xs e => by cases e
      refine LoopN.rule (α := GSt) (fun a => ⟨88, [(0, .ptr (.g l) 0), (2, .ptr (.f 2) 0), (3, .ptr (.f 3) 0), (5, i64 a.n)], [(2, .cells [.nil, .nil, i64 0, i64 0]), (3, .cells [a.cN, a.cE, i64 a.nn, i64 a.ne])]⟩)
        (fun a => rd a.s l bs a.q) (fun a => a.n.toNat) (fun a => GI σ l a.s a.cN a.cE a.ns a.es ∧ (∀ xs, a.cE = .vec xs → False) ∧ 0 ≤ a.n ∧ a.n ≤ 6 ∧ a.ns.length ≤ 7 ∧ a.es.length + a.n ≤ 7 ∧ 0 ≤ a.nn ∧ a.nn ≤ 7 ∧ 0 ≤ a.ne ∧ a.ne + a.n ≤ 7 ∧ p ≤ a.q ∧ a.q + 110 * a.n ≤ p + 2000) ?_
        ⟨k, s, q + 1, cN, .nil, nn, 0, ns, []⟩ ⟨hG, hx, by simp only; omega, by simp only; omega, by simp only; omega, by simp only [List.length_nil]; omega, by simp only; omega, by simp only; omega, by simp only; omega, by simp only; omega, by simp only; omega, by simp only; omega⟩ ?_
      · clear hG i1 i2 i3 i4 i5 i6 i7 hk1 hk2 hx hn hK
        clear k n s q cN nn ns K
        rintro ⟨n, s, q, cN, cE, nn, ne, ns, es⟩ K ⟨hG, hv, i1, i2, i3, i4, i5, i6, i7, i8, i9, i10⟩ hK
        dsimp only at hG hv i1 i2 i3 i4 i5 i6 i7 i8 i9 i10 ⊢
        by_cases hn : 0 < n
        · rcases hG.shN with ⟨rfl, rfl⟩ | ⟨lN, m, capN, rfl, hm, gN⟩
          · have hns : ([] : List Nd).length = 0 := rfl
            rcases hG.shE hv with rfl | ⟨lE, mE, capE, rfl⟩
            all_goals
              conv => whnf
              repeat' (first | (refine CallN.many (pick_n hb hl (by omega) (by omega)) ?_; rintro _ ⟨k, hk1, hk2, rfl⟩) | (apply fin0; (case hs => (repeat' (first | with_reducible exact st_nil | with_reducible apply st_cons | ((conv => enter [1, 1]; whnf); first | with_reducible exact st_nil | with_reducible apply st_cons | ((with_reducible refine Eq.trans s0_sc ?_); rfl) | ((with_reducible refine Eq.trans s0_nil ?_); rfl) | ((with_reducible refine Eq.trans s0_grow ?_); rfl) | ((with_reducible refine Eq.trans s0_vec ?_); rfl) | ((with_reducible refine Eq.trans s0_avec ?_); rfl) | ((with_reducible refine Eq.trans s0_ptr ?_); rfl) | with_reducible apply s0_agg))))) | refine Fork.yp ?_ | refine Fork.np ?_ | refine Fork.dp (fun h => ?_) (fun h => ?_) | refine ExtN.wr ?_) <;> try (conv => whnf)
              · refine LoopN.rule (α := GSt) (fun a => ⟨88, [(0, .ptr (.g l) 0), (2, .ptr (.f 2) 0), (3, .ptr (.f 3) 0)], [(2, .cells [.nil, .nil, i64 0, i64 0]), (3, .cells [a.cN, a.cE, i64 a.nn, i64 a.ne])]⟩)
                  (fun a => rd a.s l bs a.q) (fun a => 12 - a.ns.length) (fun a => GI σ l a.s a.cN a.cE a.ns a.es ∧ a.ns.length ≤ 12 ∧ a.es.length ≤ 7 ∧ 0 ≤ a.nn ∧ a.nn ≤ a.ns.length + 10 ∧ 0 ≤ a.ne ∧ a.ne ≤ 7 ∧ p ≤ a.q ∧ a.q ≤ p + 3000) ?_
                  ⟨0, s, q + 1, .nil, _, nn, ne, [], es⟩ ⟨hG, by simp only; omega, by simp only; omega, by simp only; omega, by simp only; omega, by simp only; omega, by simp only; omega, by simp only; omega, by simp only; omega⟩ ?_
                · exact step3.h
                · (refine ⟨rfl, ?_, ?_, Sub.refl _⟩ <;> repeat' (first | exact EnvLe.nil | exact LocsLe.nil | refine EnvLe.cons _ _ _ ?_ ?_ | refine LocsLe.cons _ _ _ ?_ ?_ | exact CVle.same _ rfl | exact CVle.vec _ _ | exact CVle.nil | exact CVle.tok _ _ _ rfl rfl | exact ObLe.tok _ _ rfl | exact CVles.nil | refine CVles.cons ?_ ?_ | exact ObLe.same _ rfl rfl | refine ObLe.cells rfl ?_))
              · exact ⟨s, _, _, _, es, nn, ne, q + 1, hG, by omega, by omega, by omega, by omega, by omega, by omega, by omega, by omega, rfl⟩
          · by_cases hm0 : 0 < m
            · have hns : ns.length ≤ 100 := by omega
              have hes : es.length ≤ 100 := by omega
              have hnn : 0 ≤ ne ∧ ne ≤ 1000000 := by omega
              rcases hG.shE hv with rfl | ⟨lE, mE, capE, rfl⟩
              all_goals
                conv => whnf
                repeat' (first | (refine CallN.many (of_c (m := 7) hb hl (by omega) (by omega) ?_ (Nat.le_of_ble_eq_true rfl) (Nat.le_of_ble_eq_true rfl)) ?_; (repeat' (first | exact (trivial : True) | refine And.intro ?_ ?_ | refine ⟨_, rfl, ?_⟩ | omega | decide)); rintro _ ⟨t, ht, rfl⟩) | (refine CallN.many (pick_n hb hl (by omega) (by omega)) ?_; rintro _ ⟨k, _, _, rfl⟩) | (refine CallN.many (props_d hb hl (by omega) (by omega)) ?_; rintro _ ⟨_, q2, ⟨⟨⟨ps, rfl, hps⟩, hp6⟩, hp3⟩, hq3, hq4, rfl⟩) | ((refine CallN.many0 (addEdge_c (nn := nn) (a := ?_) (b' := ?_) hG (ed_tame ht (by omega) hps) hns hes hnn hv) ?_ (hs := ?hs); (case hs => (repeat' (first | with_reducible exact st_nil | with_reducible apply st_cons | ((conv => enter [1, 1]; whnf); first | with_reducible exact st_nil | with_reducible apply st_cons | ((with_reducible refine Eq.trans s0_sc ?_); rfl) | ((with_reducible refine Eq.trans s0_nil ?_); rfl) | ((with_reducible refine Eq.trans s0_grow ?_); rfl) | ((with_reducible refine Eq.trans s0_vec ?_); rfl) | ((with_reducible refine Eq.trans s0_avec ?_); rfl) | ((with_reducible refine Eq.trans s0_ptr ?_); rfl) | with_reducible apply s0_agg)))); rintro _ ⟨s', cE', es', ne', b, hG', hv', he1, he2, he3, rfl⟩; rcases hG'.shE hv' with rfl | ⟨lE', mE', capE', rfl⟩)) | refine OrdN.go ?_ | refine Fork.yp ?_ | refine Need.go ?_ | refine Need.draw ?_ | refine ExtN.wr ?_) <;> try (conv => whnf)
              all_goals
                refine hK ⟨n - 1, s', q2, .grow lN m capN, _, nn, ne', ns, es'⟩ _ _ ⟨hG', hv', by simp only; omega, by simp only; omega, by simp only; omega, by simp only; omega, by simp only; omega, by simp only; omega, by simp only; omega, by simp only; omega, by simp only; omega, by simp only; omega⟩ (by simp only; omega) ?_
                (refine ⟨rfl, ?_, ?_, Sub.refl _⟩ <;> repeat' (first | exact EnvLe.nil | exact LocsLe.nil | refine EnvLe.cons _ _ _ ?_ ?_ | refine LocsLe.cons _ _ _ ?_ ?_ | exact CVle.same _ rfl | exact CVle.vec _ _ | exact CVle.nil | exact CVle.tok _ _ _ rfl rfl | exact ObLe.tok _ _ rfl | exact CVles.nil | refine CVles.cons ?_ ?_ | exact ObLe.same _ rfl rfl | refine ObLe.cells rfl ?_))
            · rcases hG.shE hv with rfl | ⟨lE, mE, capE, rfl⟩
              all_goals
                conv => whnf
                repeat' (first | (refine CallN.many (pick_n hb hl (by omega) (by omega)) ?_; rintro _ ⟨k, hk1, hk2, rfl⟩) | (apply fin0; (case hs => (repeat' (first | with_reducible exact st_nil | with_reducible apply st_cons | ((conv => enter [1, 1]; whnf); first | with_reducible exact st_nil | with_reducible apply st_cons | ((with_reducible refine Eq.trans s0_sc ?_); rfl) | ((with_reducible refine Eq.trans s0_nil ?_); rfl) | ((with_reducible refine Eq.trans s0_grow ?_); rfl) | ((with_reducible refine Eq.trans s0_vec ?_); rfl) | ((with_reducible refine Eq.trans s0_avec ?_); rfl) | ((with_reducible refine Eq.trans s0_ptr ?_); rfl) | with_reducible apply s0_agg))))) | refine Fork.yp ?_ | refine Fork.np ?_ | refine Fork.dp (fun h => ?_) (fun h => ?_) | refine ExtN.wr ?_) <;> try (conv => whnf)
                · refine LoopN.rule (α := GSt) (fun a => ⟨88, [(0, .ptr (.g l) 0), (2, .ptr (.f 2) 0), (3, .ptr (.f 3) 0)], [(2, .cells [.nil, .nil, i64 0, i64 0]), (3, .cells [a.cN, a.cE, i64 a.nn, i64 a.ne])]⟩)
                    (fun a => rd a.s l bs a.q) (fun a => 12 - a.ns.length) (fun a => GI σ l a.s a.cN a.cE a.ns a.es ∧ a.ns.length ≤ 12 ∧ a.es.length ≤ 7 ∧ 0 ≤ a.nn ∧ a.nn ≤ a.ns.length + 10 ∧ 0 ≤ a.ne ∧ a.ne ≤ 7 ∧ p ≤ a.q ∧ a.q ≤ p + 3000) ?_
                    ⟨0, s, q + 1, .grow lN m capN, _, nn, ne, ns, es⟩ ⟨hG, by simp only; omega, by simp only; omega, by simp only; omega, by simp only; omega, by simp only; omega, by simp only; omega, by simp only; omega, by simp only; omega⟩ ?_
                  · exact step3.h
                  · (refine ⟨rfl, ?_, ?_, Sub.refl _⟩ <;> repeat' (first | exact EnvLe.nil | exact LocsLe.nil | refine EnvLe.cons _ _ _ ?_ ?_ | refine LocsLe.cons _ _ _ ?_ ?_ | exact CVle.same _ rfl | exact CVle.vec _ _ | exact CVle.nil | exact CVle.tok _ _ _ rfl rfl | exact ObLe.tok _ _ rfl | exact CVles.nil | refine CVles.cons ?_ ?_ | exact ObLe.same _ rfl rfl | refine ObLe.cells rfl ?_))
                · exact ⟨s, _, _, _, es, nn, ne, q + 1, hG, by omega, by omega, by omega, by omega, by omega, by omega, by omega, by omega, rfl⟩
        · rcases hG.shN with ⟨rfl, rfl⟩ | ⟨lN, m, capN, rfl, hm, gN⟩
          · have hns : ([] : List Nd).length = 0 := rfl
            rcases hG.shE hv with rfl | ⟨lE, mE, capE, rfl⟩
            all_goals
              conv => whnf
              repeat' (first | (refine CallN.many (pick_n hb hl (by omega) (by omega)) ?_; rintro _ ⟨k, hk1, hk2, rfl⟩) | (apply fin0; (case hs => (repeat' (first | with_reducible exact st_nil | with_reducible apply st_cons | ((conv => enter [1, 1]; whnf); first | with_reducible exact st_nil | with_reducible apply st_cons | ((with_reducible refine Eq.trans s0_sc ?_); rfl) | ((with_reducible refine Eq.trans s0_nil ?_); rfl) | ((with_reducible refine Eq.trans s0_grow ?_); rfl) | ((with_reducible refine Eq.trans s0_vec ?_); rfl) | ((with_reducible refine Eq.trans s0_avec ?_); rfl) | ((with_reducible refine Eq.trans s0_ptr ?_); rfl) | with_reducible apply s0_agg))))) | refine Fork.np ?_ | refine Fork.dp (fun h => ?_) (fun h => ?_) | refine ExtN.wr ?_) <;> try (conv => whnf)
              · refine LoopN.rule (α := GSt) (fun a => ⟨88, [(0, .ptr (.g l) 0), (2, .ptr (.f 2) 0), (3, .ptr (.f 3) 0)], [(2, .cells [.nil, .nil, i64 0, i64 0]), (3, .cells [a.cN, a.cE, i64 a.nn, i64 a.ne])]⟩)
                  (fun a => rd a.s l bs a.q) (fun a => 12 - a.ns.length) (fun a => GI σ l a.s a.cN a.cE a.ns a.es ∧ a.ns.length ≤ 12 ∧ a.es.length ≤ 7 ∧ 0 ≤ a.nn ∧ a.nn ≤ a.ns.length + 10 ∧ 0 ≤ a.ne ∧ a.ne ≤ 7 ∧ p ≤ a.q ∧ a.q ≤ p + 3000) ?_
                  ⟨0, s, q + 1, .nil, _, nn, ne, [], es⟩ ⟨hG, by simp only; omega, by simp only; omega, by simp only; omega, by simp only; omega, by simp only; omega, by simp only; omega, by simp only; omega, by simp only; omega⟩ ?_
                · exact step3.h
                · (refine ⟨rfl, ?_, ?_, Sub.refl _⟩ <;> repeat' (first | exact EnvLe.nil | exact LocsLe.nil | refine EnvLe.cons _ _ _ ?_ ?_ | refine LocsLe.cons _ _ _ ?_ ?_ | exact CVle.same _ rfl | exact CVle.vec _ _ | exact CVle.nil | exact CVle.tok _ _ _ rfl rfl | exact ObLe.tok _ _ rfl | exact CVles.nil | refine CVles.cons ?_ ?_ | exact ObLe.same _ rfl rfl | refine ObLe.cells rfl ?_))
              · exact ⟨s, _, _, _, es, nn, ne, q + 1, hG, by omega, by omega, by omega, by omega, by omega, by omega, by omega, by omega, rfl⟩
          · by_cases hm0 : 0 < m
            · have hns : ns.length ≤ 100 := by omega
              have hes : es.length ≤ 100 := by omega
              rcases hG.shE hv with rfl | ⟨lE, mE, capE, rfl⟩
              · conv => whnf
                repeat' (first | (refine CallN.many (pick_n hb hl (by omega) (by omega)) ?_; rintro _ ⟨k, hk1, hk2, rfl⟩) | ((refine CallN.many (dropO_c (A := .grow lN m capN) (B := .vec []) (nn := nn) hG hns hes (.inl rfl) (.inr ⟨rfl, rfl⟩) (fun e => by cases e) (fun e => by cases e)) ?_; rintro _ ⟨s', l', n', cap', ns', es', hG', hd1, hd2, rfl⟩)) | (apply fin0; (case hs => (repeat' (first | with_reducible exact st_nil | with_reducible apply st_cons | ((conv => enter [1, 1]; whnf); first | with_reducible exact st_nil | with_reducible apply st_cons | ((with_reducible refine Eq.trans s0_sc ?_); rfl) | ((with_reducible refine Eq.trans s0_nil ?_); rfl) | ((with_reducible refine Eq.trans s0_grow ?_); rfl) | ((with_reducible refine Eq.trans s0_vec ?_); rfl) | ((with_reducible refine Eq.trans s0_avec ?_); rfl) | ((with_reducible refine Eq.trans s0_ptr ?_); rfl) | with_reducible apply s0_agg))))) | refine OrdN.go ?_ | refine Fork.yp ?_ | refine Fork.np ?_ | refine Fork.dp (fun h => ?_) (fun h => ?_) | refine Need.draw ?_ | refine ExtN.wr ?_) <;> try (conv => whnf)
                all_goals first
                  | exact ⟨s', _, _, _, es', nn, ne, q + 1 + 1 + 1, hG', by omega, by omega, by omega, by omega, by omega, by omega, by omega, by omega, rfl⟩
                  | exact ⟨s, _, _, _, es, nn, ne, q + 1 + 1, hG, by omega, by omega, by omega, by omega, by omega, by omega, by omega, by omega, rfl⟩
                  | (refine LoopN.rule (α := GSt) (fun a => ⟨88, [(0, .ptr (.g l) 0), (2, .ptr (.f 2) 0), (3, .ptr (.f 3) 0)], [(2, .cells [.nil, .nil, i64 0, i64 0]), (3, .cells [a.cN, a.cE, i64 a.nn, i64 a.ne])]⟩)
                       (fun a => rd a.s l bs a.q) (fun a => 12 - a.ns.length) (fun a => GI σ l a.s a.cN a.cE a.ns a.es ∧ a.ns.length ≤ 12 ∧ a.es.length ≤ 7 ∧ 0 ≤ a.nn ∧ a.nn ≤ a.ns.length + 10 ∧ 0 ≤ a.ne ∧ a.ne ≤ 7 ∧ p ≤ a.q ∧ a.q ≤ p + 3000) ?_
                       ⟨0, s', q + 1 + 1 + 1, .grow l' n' cap', _, nn, ne, ns', es'⟩ ⟨hG', by simp only; omega, by simp only; omega, by simp only; omega, by simp only; omega, by simp only; omega, by simp only; omega, by simp only; omega, by simp only; omega⟩ ?_
                     · exact step3.h
                     · (refine ⟨rfl, ?_, ?_, Sub.refl _⟩ <;> repeat' (first | exact EnvLe.nil | exact LocsLe.nil | refine EnvLe.cons _ _ _ ?_ ?_ | refine LocsLe.cons _ _ _ ?_ ?_ | exact CVle.same _ rfl | exact CVle.vec _ _ | exact CVle.nil | exact CVle.tok _ _ _ rfl rfl | exact ObLe.tok _ _ rfl | exact CVles.nil | refine CVles.cons ?_ ?_ | exact ObLe.same _ rfl rfl | refine ObLe.cells rfl ?_)))
                  | (refine LoopN.rule (α := GSt) (fun a => ⟨88, [(0, .ptr (.g l) 0), (2, .ptr (.f 2) 0), (3, .ptr (.f 3) 0)], [(2, .cells [.nil, .nil, i64 0, i64 0]), (3, .cells [a.cN, a.cE, i64 a.nn, i64 a.ne])]⟩)
                       (fun a => rd a.s l bs a.q) (fun a => 12 - a.ns.length) (fun a => GI σ l a.s a.cN a.cE a.ns a.es ∧ a.ns.length ≤ 12 ∧ a.es.length ≤ 7 ∧ 0 ≤ a.nn ∧ a.nn ≤ a.ns.length + 10 ∧ 0 ≤ a.ne ∧ a.ne ≤ 7 ∧ p ≤ a.q ∧ a.q ≤ p + 3000) ?_
                       ⟨0, s, q + 1 + 1, .grow lN m capN, _, nn, ne, ns, es⟩ ⟨hG, by simp only; omega, by simp only; omega, by simp only; omega, by simp only; omega, by simp only; omega, by simp only; omega, by simp only; omega, by simp only; omega⟩ ?_
                     · exact step3.h
                     · (refine ⟨rfl, ?_, ?_, Sub.refl _⟩ <;> repeat' (first | exact EnvLe.nil | exact LocsLe.nil | refine EnvLe.cons _ _ _ ?_ ?_ | refine LocsLe.cons _ _ _ ?_ ?_ | exact CVle.same _ rfl | exact CVle.vec _ _ | exact CVle.nil | exact CVle.tok _ _ _ rfl rfl | exact ObLe.tok _ _ rfl | exact CVles.nil | refine CVles.cons ?_ ?_ | exact ObLe.same _ rfl rfl | refine ObLe.cells rfl ?_)))
              · conv => whnf
                repeat' (first | (refine CallN.many (pick_n hb hl (by omega) (by omega)) ?_; rintro _ ⟨k, hk1, hk2, rfl⟩) | ((refine CallN.many (dropO_c (A := .grow lN m capN) (B := .grow lE mE capE) (nn := nn) hG hns hes (.inl rfl) (.inl rfl) (fun e => by cases e) (fun e => by cases e)) ?_; rintro _ ⟨s', l', n', cap', ns', es', hG', hd1, hd2, rfl⟩)) | (apply fin0; (case hs => (repeat' (first | with_reducible exact st_nil | with_reducible apply st_cons | ((conv => enter [1, 1]; whnf); first | with_reducible exact st_nil | with_reducible apply st_cons | ((with_reducible refine Eq.trans s0_sc ?_); rfl) | ((with_reducible refine Eq.trans s0_nil ?_); rfl) | ((with_reducible refine Eq.trans s0_grow ?_); rfl) | ((with_reducible refine Eq.trans s0_vec ?_); rfl) | ((with_reducible refine Eq.trans s0_avec ?_); rfl) | ((with_reducible refine Eq.trans s0_ptr ?_); rfl) | with_reducible apply s0_agg))))) | refine OrdN.go ?_ | refine Fork.yp ?_ | refine Fork.np ?_ | refine Fork.dp (fun h => ?_) (fun h => ?_) | refine Need.draw ?_ | refine ExtN.wr ?_) <;> try (conv => whnf)
                all_goals first
                  | exact ⟨s', _, _, _, es', nn, ne, q + 1 + 1 + 1, hG', by omega, by omega, by omega, by omega, by omega, by omega, by omega, by omega, rfl⟩
                  | exact ⟨s, _, _, _, es, nn, ne, q + 1 + 1, hG, by omega, by omega, by omega, by omega, by omega, by omega, by omega, by omega, rfl⟩
                  | (refine LoopN.rule (α := GSt) (fun a => ⟨88, [(0, .ptr (.g l) 0), (2, .ptr (.f 2) 0), (3, .ptr (.f 3) 0)], [(2, .cells [.nil, .nil, i64 0, i64 0]), (3, .cells [a.cN, a.cE, i64 a.nn, i64 a.ne])]⟩)
                       (fun a => rd a.s l bs a.q) (fun a => 12 - a.ns.length) (fun a => GI σ l a.s a.cN a.cE a.ns a.es ∧ a.ns.length ≤ 12 ∧ a.es.length ≤ 7 ∧ 0 ≤ a.nn ∧ a.nn ≤ a.ns.length + 10 ∧ 0 ≤ a.ne ∧ a.ne ≤ 7 ∧ p ≤ a.q ∧ a.q ≤ p + 3000) ?_
                       ⟨0, s', q + 1 + 1 + 1, .grow l' n' cap', _, nn, ne, ns', es'⟩ ⟨hG', by simp only; omega, by simp only; omega, by simp only; omega, by simp only; omega, by simp only; omega, by simp only; omega, by simp only; omega, by simp only; omega⟩ ?_
                     · exact step3.h
                     · (refine ⟨rfl, ?_, ?_, Sub.refl _⟩ <;> repeat' (first | exact EnvLe.nil | exact LocsLe.nil | refine EnvLe.cons _ _ _ ?_ ?_ | refine LocsLe.cons _ _ _ ?_ ?_ | exact CVle.same _ rfl | exact CVle.vec _ _ | exact CVle.nil | exact CVle.tok _ _ _ rfl rfl | exact ObLe.tok _ _ rfl | exact CVles.nil | refine CVles.cons ?_ ?_ | exact ObLe.same _ rfl rfl | refine ObLe.cells rfl ?_)))
                  | (refine LoopN.rule (α := GSt) (fun a => ⟨88, [(0, .ptr (.g l) 0), (2, .ptr (.f 2) 0), (3, .ptr (.f 3) 0)], [(2, .cells [.nil, .nil, i64 0, i64 0]), (3, .cells [a.cN, a.cE, i64 a.nn, i64 a.ne])]⟩)
                       (fun a => rd a.s l bs a.q) (fun a => 12 - a.ns.length) (fun a => GI σ l a.s a.cN a.cE a.ns a.es ∧ a.ns.length ≤ 12 ∧ a.es.length ≤ 7 ∧ 0 ≤ a.nn ∧ a.nn ≤ a.ns.length + 10 ∧ 0 ≤ a.ne ∧ a.ne ≤ 7 ∧ p ≤ a.q ∧ a.q ≤ p + 3000) ?_
                       ⟨0, s, q + 1 + 1, .grow lN m capN, _, nn, ne, ns, es⟩ ⟨hG, by simp only; omega, by simp only; omega, by simp only; omega, by simp only; omega, by simp only; omega, by simp only; omega, by simp only; omega, by simp only; omega⟩ ?_
                     · exact step3.h
                     · (refine ⟨rfl, ?_, ?_, Sub.refl _⟩ <;> repeat' (first | exact EnvLe.nil | exact LocsLe.nil | refine EnvLe.cons _ _ _ ?_ ?_ | refine LocsLe.cons _ _ _ ?_ ?_ | exact CVle.same _ rfl | exact CVle.vec _ _ | exact CVle.nil | exact CVle.tok _ _ _ rfl rfl | exact ObLe.tok _ _ rfl | exact CVles.nil | refine CVles.cons ?_ ?_ | exact ObLe.same _ rfl rfl | refine ObLe.cells rfl ?_)))
            · rcases hG.shE hv with rfl | ⟨lE, mE, capE, rfl⟩
              all_goals
                conv => whnf
                repeat' (first | (refine CallN.many (pick_n hb hl (by omega) (by omega)) ?_; rintro _ ⟨k, hk1, hk2, rfl⟩) | (apply fin0; (case hs => (repeat' (first | with_reducible exact st_nil | with_reducible apply st_cons | ((conv => enter [1, 1]; whnf); first | with_reducible exact st_nil | with_reducible apply st_cons | ((with_reducible refine Eq.trans s0_sc ?_); rfl) | ((with_reducible refine Eq.trans s0_nil ?_); rfl) | ((with_reducible refine Eq.trans s0_grow ?_); rfl) | ((with_reducible refine Eq.trans s0_vec ?_); rfl) | ((with_reducible refine Eq.trans s0_avec ?_); rfl) | ((with_reducible refine Eq.trans s0_ptr ?_); rfl) | with_reducible apply s0_agg))))) | refine Fork.np ?_ | refine Fork.dp (fun h => ?_) (fun h => ?_) | refine ExtN.wr ?_) <;> try (conv => whnf)
                · refine LoopN.rule (α := GSt) (fun a => ⟨88, [(0, .ptr (.g l) 0), (2, .ptr (.f 2) 0), (3, .ptr (.f 3) 0)], [(2, .cells [.nil, .nil, i64 0, i64 0]), (3, .cells [a.cN, a.cE, i64 a.nn, i64 a.ne])]⟩)
                    (fun a => rd a.s l bs a.q) (fun a => 12 - a.ns.length) (fun a => GI σ l a.s a.cN a.cE a.ns a.es ∧ a.ns.length ≤ 12 ∧ a.es.length ≤ 7 ∧ 0 ≤ a.nn ∧ a.nn ≤ a.ns.length + 10 ∧ 0 ≤ a.ne ∧ a.ne ≤ 7 ∧ p ≤ a.q ∧ a.q ≤ p + 3000) ?_
                    ⟨0, s, q + 1, .grow lN m capN, _, nn, ne, ns, es⟩ ⟨hG, by simp only; omega, by simp only; omega, by simp only; omega, by simp only; omega, by simp only; omega, by simp only; omega, by simp only; omega, by simp only; omega⟩ ?_
                  · exact step3.h
                  · (refine ⟨rfl, ?_, ?_, Sub.refl _⟩ <;> repeat' (first | exact EnvLe.nil | exact LocsLe.nil | refine EnvLe.cons _ _ _ ?_ ?_ | refine LocsLe.cons _ _ _ ?_ ?_ | exact CVle.same _ rfl | exact CVle.vec _ _ | exact CVle.nil | exact CVle.tok _ _ _ rfl rfl | exact ObLe.tok _ _ rfl | exact CVles.nil | refine CVles.cons ?_ ?_ | exact ObLe.same _ rfl rfl | refine ObLe.cells rfl ?_))
                · exact ⟨s, _, _, _, es, nn, ne, q + 1, hG, by omega, by omega, by omega, by omega, by omega, by omega, by omega, by omega, rfl⟩
      · (refine ⟨rfl, ?_, ?_, Sub.refl _⟩ <;> repeat' (first | exact EnvLe.nil | exact LocsLe.nil | refine EnvLe.cons _ _ _ ?_ ?_ | refine LocsLe.cons _ _ _ ?_ ?_ | exact CVle.same _ rfl | exact CVle.vec _ _ | exact CVle.nil | exact CVle.tok _ _ _ rfl rfl | exact ObLe.tok _ _ rfl | exact CVles.nil | refine CVles.cons ?_ ?_ | exact ObLe.same _ rfl rfl | refine ObLe.cells rfl ?_))
        exact CVle.same _ (hG.oN.only _)
  · (refine ⟨rfl, ?_, ?_, Sub.refl _⟩ <;> repeat' (first | exact EnvLe.nil | exact LocsLe.nil | refine EnvLe.cons _ _ _ ?_ ?_ | refine LocsLe.cons _ _ _ ?_ ?_ | exact CVle.same _ rfl | exact CVle.vec _ _ | exact CVle.nil | exact CVle.tok _ _ _ rfl rfl | exact ObLe.tok _ _ rfl | exact CVles.nil | refine CVles.cons ?_ ?_ | exact ObLe.same _ rfl rfl | refine ObLe.cells rfl ?_))
  }
  rintro ⟨_, s, q, cN, cE, nn, ne, ns, es⟩ K ⟨hG, j1, j2, j3, j4, j5, j6, j7, j8⟩ hK
  dsimp only at hG j1 j2 j3 j4 j5 j6 j7 j8 ⊢
  have jn : ns.length ≤ 100 := by omega
  have jnn : 0 ≤ nn ∧ nn ≤ 1000000 := by omega
  rcases hG.shN with ⟨rfl, rfl⟩ | ⟨lN, m, capN, rfl, hm, gN⟩
  all_goals rcases hG.shE3 with rfl | rfl | ⟨lE, mE, capE, rfl⟩
  all_goals
    try have hns0 : ([] : List Nd).length = 0 := rfl
    conv => whnf
    repeat' (first | ((refine CallN.many0 (addP_c (ne := ne) hG jn jnn) ?_ (hs := ?hs); (case hs => (repeat' (first | with_reducible exact st_nil | with_reducible apply st_cons | ((conv => enter [1, 1]; whnf); first | with_reducible exact st_nil | with_reducible apply st_cons | ((with_reducible refine Eq.trans s0_sc ?_); rfl) | ((with_reducible refine Eq.trans s0_nil ?_); rfl) | ((with_reducible refine Eq.trans s0_grow ?_); rfl) | ((with_reducible refine Eq.trans s0_vec ?_); rfl) | ((with_reducible refine Eq.trans s0_avec ?_); rfl) | ((with_reducible refine Eq.trans s0_ptr ?_); rfl) | with_reducible apply s0_agg)))); rintro _ ⟨s', cN', ns', nn', b, hG', hor, rfl⟩; rcases hG'.shN with ⟨rfl, rfl⟩ | ⟨lN', m', capN', rfl, hm', gN'⟩)) | (apply fin0; (case hs => (repeat' (first | with_reducible exact st_nil | with_reducible apply st_cons | ((conv => enter [1, 1]; whnf); first | with_reducible exact st_nil | with_reducible apply st_cons | ((with_reducible refine Eq.trans s0_sc ?_); rfl) | ((with_reducible refine Eq.trans s0_nil ?_); rfl) | ((with_reducible refine Eq.trans s0_grow ?_); rfl) | ((with_reducible refine Eq.trans s0_vec ?_); rfl) | ((with_reducible refine Eq.trans s0_avec ?_); rfl) | ((with_reducible refine Eq.trans s0_ptr ?_); rfl) | with_reducible apply s0_agg))))) | refine Fork.yp ?_ | refine Fork.dp (fun h => ?_) (fun h => ?_) | refine ExtN.wr ?_) <;> try (conv => whnf)
  all_goals first
    | exact ⟨s, _, _, _, es, nn, ne, q, hG, by omega, by omega, by omega, by omega, by omega, by omega, by omega, by omega, rfl⟩
    | (refine hK ⟨0, s', q, _, _, nn', ne, _, es⟩ _ _ ⟨hG', by simp only; omega, by simp only; omega, by simp only; omega, by simp only; omega, by simp only; omega, by simp only; omega, by simp only; omega, by simp only; omega⟩ (by simp only; omega) ?_
       (refine ⟨rfl, ?_, ?_, Sub.refl _⟩ <;> repeat' (first | exact EnvLe.nil | exact LocsLe.nil | refine EnvLe.cons _ _ _ ?_ ?_ | refine LocsLe.cons _ _ _ ?_ ?_ | exact CVle.same _ rfl | exact CVle.vec _ _ | exact CVle.nil | exact CVle.tok _ _ _ rfl rfl | exact ObLe.tok _ _ rfl | exact CVles.nil | refine CVles.cons ?_ ?_ | exact ObLe.same _ rfl rfl | refine ObLe.cells rfl ?_)))
theorem copy_gi {σ : Heap} {l0 : Nat} {bs : List CV} {q : Int} {ns : List Nd} {es : List Ed} {nn ne : Int} {out : COut} (htn : ∀ n ∈ ns, NdTame n) (hte : ∀ e ∈ es, EdTame e) (h : CopyP (rd σ l0 bs q) ns es nn ne out) :
    ∃ s' cN cE, GI σ l0 s' cN cE ns es ∧ (∀ xs, cE = .vec xs → False) ∧ out = .ret (.agg [cN, cE, i64 nn, i64 ne]) (rd s' l0 bs q) := by
  obtain ⟨s', cN, cE, oN, oE, fN, fE, vN, vE, dj, sub, e⟩ := h
  have hr : s' l0 = some (.cells [.vec bs, i64 q]) := sub _ _ (upd_same _ _ _)
  have oc : ∀ {T sz : Nat} {c : CV} {xs : List CV}, OC s' T sz c xs → (∀ l n cap, c = .grow l n cap → rd σ l0 bs q l = none) → OC (unrd σ s' l0) T sz c xs := by
    intro T sz c xs h hf
    cases h with
    | nil => exact .nil
    | vec _ => exact .vec _
    | grow l n cap _ hn hg =>
      have hne := ne_rd (hf _ _ _ rfl)
      exact .grow _ _ _ _ hn (by unfold unrd; rw [if_neg hne]; exact hg)
  refine ⟨unrd σ s' l0, cN, cE, ⟨fun x ob hx => ?_, oc oN fN, oc oE fE, fun l n cap e => ⟨no_rd (fN _ _ _ e), ne_rd (fN _ _ _ e)⟩, fun l n cap e => ⟨no_rd (fE _ _ _ e), ne_rd (fE _ _ _ e)⟩, vN, dj, htn, hte⟩, vE, by rw [unrd_rd hr]; exact e⟩
  unfold unrd
  split
  · exact hx
  · rename_i hx0; exact sub _ _ (by rw [rd_ne hx0]; exact hx)
theorem GI.shG {σ s : Heap} {l0 : Nat} {cN cE : CV} {ns : List Nd} {es : List Ed} (h : GI σ l0 s cN cE ns es) (hv : ∀ xs, cE = .vec xs → False) : (cE = .nil ∧ es = []) ∨ ∃ l n cap, cE = .grow l n cap ∧ n = es.length ∧ s l = some (.arr 107 5 cap (eds es)) := by
  have o := h.oE
  generalize hx : eds es = xs at o
  cases o with
  | nil => exact .inl ⟨rfl, by cases es with | nil => rfl | cons a r => simp [eds] at hx⟩
  | vec _ => exact (hv _ rfl).elim
  | grow l n cap _ hn hg => exact .inr ⟨l, n, cap, rfl, by rw [hn, ← hx, eds_len], hg⟩
def AnyO (σ : Heap) (l0 : Nat) (bs : List CV) (p : Int) (out : COut) : Prop := ∃ s' cN cE ns es nn ne q', GI σ l0 s' cN cE ns es ∧ ns.length ≤ 100 ∧ es.length ≤ 100 ∧ -1000 ≤ nn ∧ nn ≤ 2000000000 ∧ -1000 ≤ ne ∧ ne ≤ 1000 ∧ p ≤ q' ∧ q' ≤ p + 20000 ∧ out = .ret (.agg [cN, cE, i64 nn, i64 ne]) (rd s' l0 bs q')
theorem GI.setN {σ s : Heap} {l0 lN m cap : Nat} {cE : CV} {ns ns' : List Nd} {es : List Ed} (h : GI σ l0 s (.grow lN m cap) cE ns es) (hl : ns'.length = ns.length) (hm : m = ns.length) (ht : ∀ n ∈ ns', NdTame n) : GI σ l0 (upd s lN (.arr 110 3 cap (nds ns'))) (.grow lN m cap) cE ns' es :=
  ⟨h.sub.upd (h.fN _ _ _ rfl).1, .grow _ _ _ _ (by rw [nds_len]; omega) (upd_same _ _ _), h.oE.put (fun n cap' e => h.dj _ _ _ _ _ rfl e), h.fN, h.fE, h.vN, h.dj, ht, h.te⟩
theorem upd_two {s : Heap} {l : Nat} {a b : Ob} : upd (upd s l a) l b = upd s l b := by
  funext x; unfold upd; split <;> rfl
section
variable {σ s : Heap} {l0 lx n cap : Nat} {bs : List CV} {p q : Int} {cN cE : CV} {ns : List Nd} {es : List Ed} {nn ne d a b' : Int} {kd : ByteArray} {ps : List Pr} {xs : List CV}
theorem any_same (h : GI σ l0 s cN cE ns es) (h1 : ns.length ≤ 100) (h2 : es.length ≤ 100) (h3 : -1000 ≤ nn ∧ nn ≤ 2000000000) (h4 : -1000 ≤ ne ∧ ne ≤ 1000) (h5 : p ≤ q ∧ q ≤ p + 20000) : AnyO σ l0 bs p (.ret (.agg [cN, cE, i64 nn, i64 ne]) (rd s l0 bs q)) :=
  ⟨s, _, _, ns, es, nn, ne, q, h, h1, h2, h3.1, h3.2, h4.1, h4.2, h5.1, h5.2, rfl⟩
theorem any_at (h : GI σ l0 s cN cE ns es) (f1 : σ lx = none) (f2 : lx ≠ l0) (hd : ∀ n cap, cN = .grow lx n cap → False) (hxs : xs = eds es ++ [Ed.cv ⟨d, ⟨#[75]⟩, a, b', []⟩]) (hn : n = es.length + 1) (h1 : ns.length ≤ 100) (h2 : es.length ≤ 99) (h3 : -1000 ≤ nn ∧ nn ≤ 2000000000) (h4 : -1000 ≤ ne ∧ ne ≤ 1000) (h5 : p ≤ q ∧ q ≤ p + 20000) :
    AnyO σ l0 bs p (.ret (.agg [cN, .grow lx n cap, i64 nn, i64 ne]) (upd (rd s l0 bs q) lx (.arr 107 5 cap xs))) := by
  rw [rd_upd' f2]
  exact any_same (h.putE (ed_tame (by decide) (by simp [prs]) (by simp)) hxs (by rw [hn, hxs, List.length_append, eds_len]; rfl) f1 f2 hd) h1 (by simp; omega) h3 h4 h5
theorem any_new (h : GI σ l0 s cN cE ns es) (hl : rd s l0 bs q lx = none) (hxs : xs = eds es ++ [Ed.cv ⟨d, ⟨#[75]⟩, a, b', []⟩]) (hn : n = es.length + 1) (h1 : ns.length ≤ 100) (h2 : es.length ≤ 99) (h3 : -1000 ≤ nn ∧ nn ≤ 2000000000) (h4 : -1000 ≤ ne ∧ ne ≤ 1000) (h5 : p ≤ q ∧ q ≤ p + 20000) :
    AnyO σ l0 bs p (.ret (.agg [cN, .grow lx n cap, i64 nn, i64 ne]) (upd (rd s l0 bs q) lx (.arr 107 5 cap xs))) :=
  any_at h (fresh_sub h.sub hl) (ne_rd hl) (h.freshN (no_rd hl)) hxs hn h1 h2 h3 h4 h5
theorem any_set {ob : Ob} {nr : List Nd} {n0 : Nd} {ls : List ByteArray} {pz : List Pr} (h : GI σ l0 s (.grow lx n cap) cE (n0 :: nr) es) (hm : n = (n0 :: nr).length) (hls : ∀ s ∈ ls, s.size ≤ 7) (hl4 : (strs ls).length ≤ 4) (hps : ∀ q ∈ pz, GoodP q) (hp6 : (prs pz).length ≤ 6) (hxs : xs = Nd.cv ⟨d, ls, pz⟩ :: nds nr) (h1 : (n0 :: nr).length ≤ 100) (h2 : es.length ≤ 100) (h3 : -1000 ≤ nn ∧ nn ≤ 2000000000) (h4 : -1000 ≤ ne ∧ ne ≤ 1000) (h5 : p ≤ q ∧ q ≤ p + 20000) :
    AnyO σ l0 bs p (.ret (.agg [.grow lx n cap, cE, i64 nn, i64 ne]) (upd (rd (upd s lx ob) l0 bs q) lx (.arr 110 3 cap xs))) := by
  rw [rd_upd' (h.fN _ _ _ rfl).2, upd_two, hxs]
  refine any_same (ns := ⟨d, ls, pz⟩ :: nr) (h.setN (ns' := ⟨d, ls, pz⟩ :: nr) (by simp) hm fun x hx => ?_) (by simpa using h1) h2 h3 h4 h5
  rcases List.mem_cons.1 hx with rfl | hx
  · exact nd_tame (by omega) hls hp6 hps
  · exact h.tn x (List.mem_cons_of_mem _ hx)
end
set_option maxHeartbeats 8000000 in
theorem any_o {l : Nat} {σ : Heap} {bs : List CV} (hb : BytesOk bs) (hl : bs.length ≤ 2000) {p : Int} (hp : 0 ≤ p) (hp' : p < 137438900000) : CRun Tryz.prog 32 [.ptr (.g l) 0] (rd σ l bs p) (AnyO σ l bs p) := by
  refine crun_of (X := (GM [30] fun n => match Nat.beq n 6 with | true => some [0,1,2,3,4,7,9,5,6,8,10,11,12,13,14,15] | false => (match Nat.beq n 9 with | true => some [0,1,2,3,4,5,6] | false => (match Nat.beq n 10 with | true => some [0,1,2,3,4,5,6] | false => (none))))) (GM_ok _ _) (GM_sat _ _) (body := bodyOf Tryz.f32) Tryz.func32 rfl (by kernel_rfl) (by kernel_rfl) ?_
  rw [Tryz.ntmps32]
  conv => whnf
  repeat' (first | (refine CallN.many (graph_frz (graph_o hb hl (by omega) (by omega))) ?_; rintro _ ⟨ns, es, nn, ne, q', tn, te, b1, b2, b3, b4, b5, b6, b7, b8, rfl⟩) | (refine CallN.many (l2Copy_c (by omega) (by omega) tn te) ?_; rintro _ hc; obtain ⟨s', cN, cE, hG, hv, rfl⟩ := copy_gi tn te hc; have e4 := eds_len es; rcases hG.shN with ⟨rfl, rfl⟩ | ⟨lN, m, capN, rfl, hm, gN⟩ <;> rcases hG.shG hv with ⟨rfl, rfl⟩ | ⟨lE, mE, capE, rfl, hmE, gE⟩) | refine ExtN.wr ?_) <;> try (conv => whnf)
  all_goals (refine CallN.many (pick_n hb hl (by omega) (by omega)) ?_; rintro _ ⟨k, hk1, hk2, rfl⟩)
  case' inr.inl => cases ns
  case' inr.inr => cases ns
  case' inr.inl.nil => have hm : m = 0 := hm
  case' inr.inr.nil => have hm : m = 0 := hm
  case inr.inl.cons n0 nr =>
    obtain ⟨d0, ls0, ps0⟩ := n0
    have hm' := hm
    rw [List.length_cons] at hm'
    have hl0 := b1
    rw [List.length_cons] at b1
    have cL : ∀ (q2 : Int) (ob : Ob), 0 ≤ q2 → q2 < 274877906944 → CRun Tryz.prog 73 [.ptr (.g l) 0] (upd (rd s' l bs q2) lN ob) (LDraw LabG (upd s' lN ob) l bs q2 10) := fun q2 ob h1 h2 => by rw [rd_upd' (hG.fN _ _ _ rfl).2]; exact anyLabels_d hb hl h1 h2
    conv => whnf
    repeat' (first | (refine CallN.many (pick_n hb hl (by omega) (by omega)) ?_; rintro _ ⟨k', _, _, rfl⟩) | (refine CallN.many (one_c (lo := -1) (hi := 1000000000) hb hl (by omega) (by omega) ?_ (Nat.le_of_ble_eq_true rfl) (Nat.le_of_ble_eq_true rfl)) ?_; (repeat' (first | exact (trivial : True) | refine And.intro ?_ ?_ | refine ⟨_, rfl, ?_⟩ | omega | decide)); rintro _ ⟨k'', hk3, hk4, rfl⟩) | (refine CallN.many (anyProps_d hb hl (by omega) (by omega)) ?_; rintro _ ⟨_, q2, ⟨⟨ps, rfl, hps⟩, hp6⟩, hq3, hq4, rfl⟩) | (refine CallN.many (cL _ _ (by omega) (by omega)) ?_; rintro _ ⟨_, q1, ⟨⟨ls, rfl, hls⟩, hl4⟩, hq1, hq2, rfl⟩) | (refine AllocC.go (fun l2 cap2 hl2 hcap2 => ?_)) | (refine Need.go ?_ (h := ⟨by simp only [List.length_cons, List.length_nil]; omega, by simp only [List.length_cons, List.length_nil]; omega, ElsOk.one rfl rfl⟩)) | (refine GetN.go ?_ (h := get_rd2 gN (hG.fN _ _ _ rfl).2)) | (refine GetN.go ?_ (h := get_rd2 (upd_same _ _ _) (hG.fN _ _ _ rfl).2)) | (apply fin0; (case hs => (repeat' (first | with_reducible exact st_nil | with_reducible apply st_cons | ((conv => enter [1, 1]; whnf); first | with_reducible exact st_nil | with_reducible apply st_cons | ((with_reducible refine Eq.trans s0_sc ?_); rfl) | ((with_reducible refine Eq.trans s0_nil ?_); rfl) | ((with_reducible refine Eq.trans s0_grow ?_); rfl) | ((with_reducible refine Eq.trans s0_vec ?_); rfl) | ((with_reducible refine Eq.trans s0_avec ?_); rfl) | ((with_reducible refine Eq.trans s0_ptr ?_); rfl) | with_reducible apply s0_agg))))) | refine OrdN.go ?_ | refine Fork.yp ?_ | refine Fork.nn ?_ | refine Fork.dp (fun h => ?_) (fun h => ?_) | refine Need.go ?_ | refine Need.draw ?_ | refine ElemN.go ?_ | refine ExtN.wr ?_) <;> try (conv => whnf)
    all_goals first
      | exact any_same hG (by omega) (by omega) (by omega) (by omega) (by omega)
      | exact any_at hG (hG.fE _ _ _ rfl).1 (hG.fE _ _ _ rfl).2 (fun n' cap' e => hG.dj _ _ _ _ _ e rfl) ((grow_in (hmE.trans (eds_len es).symm) _ _).trans rfl) (by simp only [List.length_cons, List.length_nil]; omega) (by omega) (by omega) (by omega) (by omega) (by omega)
      | exact any_new hG hl2 rfl rfl (by omega) (by simp) (by omega) (by omega) (by omega)
      | exact any_new hG hl2 ((grow_new (hmE.trans (eds_len es).symm) _).trans rfl) (by simp only [List.length_cons, List.length_nil]; omega) (by omega) (by omega) (by omega) (by omega) (by omega)
      | exact any_set hG hm hls hl4 hps hp6 rfl (by omega) (by omega) (by omega) (by omega) (by omega)
  case inr.inr.cons n0 nr =>
    obtain ⟨d0, ls0, ps0⟩ := n0
    have hm' := hm
    rw [List.length_cons] at hm'
    have hl0 := b1
    rw [List.length_cons] at b1
    have cL : ∀ (q2 : Int) (ob : Ob), 0 ≤ q2 → q2 < 274877906944 → CRun Tryz.prog 73 [.ptr (.g l) 0] (upd (rd s' l bs q2) lN ob) (LDraw LabG (upd s' lN ob) l bs q2 10) := fun q2 ob h1 h2 => by rw [rd_upd' (hG.fN _ _ _ rfl).2]; exact anyLabels_d hb hl h1 h2
    conv => whnf
    repeat' (first | (refine CallN.many (pick_n hb hl (by omega) (by omega)) ?_; rintro _ ⟨k', _, _, rfl⟩) | (refine CallN.many (one_c (lo := -1) (hi := 1000000000) hb hl (by omega) (by omega) ?_ (Nat.le_of_ble_eq_true rfl) (Nat.le_of_ble_eq_true rfl)) ?_; (repeat' (first | exact (trivial : True) | refine And.intro ?_ ?_ | refine ⟨_, rfl, ?_⟩ | omega | decide)); rintro _ ⟨k'', hk3, hk4, rfl⟩) | (refine CallN.many (anyProps_d hb hl (by omega) (by omega)) ?_; rintro _ ⟨_, q2, ⟨⟨ps, rfl, hps⟩, hp6⟩, hq3, hq4, rfl⟩) | (refine CallN.many (cL _ _ (by omega) (by omega)) ?_; rintro _ ⟨_, q1, ⟨⟨ls, rfl, hls⟩, hl4⟩, hq1, hq2, rfl⟩) | (refine AllocC.go (fun l2 cap2 hl2 hcap2 => ?_)) | (refine Need.go ?_ (h := ⟨rfl, by omega, by simp only [List.length_cons, List.length_nil]; omega, by simp only [List.length_cons, List.length_nil]; omega, ElsOk.one rfl rfl⟩)) | (refine GetN.go ?_ (h := get_rd2 gN (hG.fN _ _ _ rfl).2)) | (refine GetN.go ?_ (h := get_rd2 (upd_same _ _ _) (hG.fN _ _ _ rfl).2)) | (refine GetN.go ?_ (h := get_rd2 gE (hG.fE _ _ _ rfl).2)) | (apply fin0; (case hs => (repeat' (first | with_reducible exact st_nil | with_reducible apply st_cons | ((conv => enter [1, 1]; whnf); first | with_reducible exact st_nil | with_reducible apply st_cons | ((with_reducible refine Eq.trans s0_sc ?_); rfl) | ((with_reducible refine Eq.trans s0_nil ?_); rfl) | ((with_reducible refine Eq.trans s0_grow ?_); rfl) | ((with_reducible refine Eq.trans s0_vec ?_); rfl) | ((with_reducible refine Eq.trans s0_avec ?_); rfl) | ((with_reducible refine Eq.trans s0_ptr ?_); rfl) | with_reducible apply s0_agg))))) | refine OrdN.go ?_ | refine Fork.yp ?_ | refine Fork.nn ?_ | refine Fork.dp (fun h => ?_) (fun h => ?_) | refine Need.go ?_ | refine Need.draw ?_ | refine ElemN.go ?_ | refine ExtN.wr ?_) <;> try (conv => whnf)
    all_goals first
      | exact any_same hG (by omega) (by omega) (by omega) (by omega) (by omega)
      | exact any_at hG (hG.fE _ _ _ rfl).1 (hG.fE _ _ _ rfl).2 (fun n' cap' e => hG.dj _ _ _ _ _ e rfl) ((grow_in (hmE.trans (eds_len es).symm) _ _).trans rfl) (by simp only [List.length_cons, List.length_nil]; omega) (by omega) (by omega) (by omega) (by omega) (by omega)
      | exact any_new hG hl2 rfl rfl (by omega) (by simp) (by omega) (by omega) (by omega)
      | exact any_new hG hl2 ((grow_new (hmE.trans (eds_len es).symm) _).trans rfl) (by simp only [List.length_cons, List.length_nil]; omega) (by omega) (by omega) (by omega) (by omega) (by omega)
      | exact any_set hG hm hls hl4 hps hp6 rfl (by omega) (by omega) (by omega) (by omega) (by omega)
  all_goals
    conv => whnf
    repeat' (first | (refine CallN.many (pick_n hb hl (by omega) (by omega)) ?_; rintro _ ⟨k', _, _, rfl⟩) | (refine CallN.many (one_c (lo := -1) (hi := 1000000000) hb hl (by omega) (by omega) ?_ (Nat.le_of_ble_eq_true rfl) (Nat.le_of_ble_eq_true rfl)) ?_; (repeat' (first | exact (trivial : True) | refine And.intro ?_ ?_ | refine ⟨_, rfl, ?_⟩ | omega | decide)); rintro _ ⟨k'', hk3, hk4, rfl⟩) | (refine AllocC.go (fun l2 cap2 hl2 hcap2 => ?_)) | (refine Need.go ?_ (h := ⟨rfl, by omega, by simp only [List.length_cons, List.length_nil]; omega, by simp only [List.length_cons, List.length_nil]; omega, ElsOk.one rfl rfl⟩)) | (refine Need.go ?_ (h := ⟨by simp only [List.length_cons, List.length_nil]; omega, by simp only [List.length_cons, List.length_nil]; omega, ElsOk.one rfl rfl⟩)) | (refine GetN.go ?_ (h := get_rd2 gE (hG.fE _ _ _ rfl).2)) | (apply fin0; (case hs => (repeat' (first | with_reducible exact st_nil | with_reducible apply st_cons | ((conv => enter [1, 1]; whnf); first | with_reducible exact st_nil | with_reducible apply st_cons | ((with_reducible refine Eq.trans s0_sc ?_); rfl) | ((with_reducible refine Eq.trans s0_nil ?_); rfl) | ((with_reducible refine Eq.trans s0_grow ?_); rfl) | ((with_reducible refine Eq.trans s0_vec ?_); rfl) | ((with_reducible refine Eq.trans s0_avec ?_); rfl) | ((with_reducible refine Eq.trans s0_ptr ?_); rfl) | with_reducible apply s0_agg))))) | refine OrdN.go ?_ | refine Fork.np ?_ | refine Fork.nn ?_ | refine Fork.nb ?_ | refine Fork.dp (fun h => ?_) (fun h => ?_) | refine Need.go ?_ | refine Need.draw ?_ | refine ExtN.wr ?_) <;> try (conv => whnf)
  all_goals first
    | exact any_same hG (by omega) (by omega) (by omega) (by omega) (by omega)
    | exact any_at hG (hG.fE _ _ _ rfl).1 (hG.fE _ _ _ rfl).2 (fun n' cap' e => hG.dj _ _ _ _ _ e rfl) ((grow_in (hmE.trans (eds_len es).symm) _ _).trans rfl) (by simp only [List.length_cons, List.length_nil]; omega) (by omega) (by omega) (by omega) (by omega) (by omega)
    | exact any_new hG hl2 rfl rfl (by omega) (by simp) (by omega) (by omega) (by omega)
    | exact any_new hG hl2 ((grow_new (hmE.trans (eds_len es).symm) _).trans rfl) (by simp only [List.length_cons, List.length_nil]; omega) (by omega) (by omega) (by omega) (by omega) (by omega)
def AnyF (σ : Heap) (l0 : Nat) (bs : List CV) (p : Int) (out : COut) : Prop := ∃ ns es nn ne q', GrTame ⟨ns, es, nn, ne⟩ ∧ p ≤ q' ∧ q' ≤ p + 20000 ∧ out = .ret (.agg [.vec (nds ns), .vec (eds es), i64 nn, i64 ne]) (rd σ l0 bs q')
theorem any_frz {f : FuncId} {args : List CV} {σ0 σ : Heap} {l0 : Nat} {bs : List CV} {p : Int} (h : CRun Tryz.prog f args σ0 (AnyO σ l0 bs p)) : CRun Tryz.prog f args σ0 (AnyF σ l0 bs p) := by
  have h1 : CRun Tryz.prog f args σ0 (fun out => ∃ a b ns es nn ne q', NilW a (.vec (nds ns)) ∧ NilW b (.vec (eds es)) ∧ GrTame ⟨ns, es, nn, ne⟩ ∧ p ≤ q' ∧ q' ≤ p + 20000 ∧ out = .ret (.agg [a, b, i64 nn, i64 ne]) (rd σ l0 bs q')) := by
    refine h.freeze fun out ⟨s', cN, cE, ns, es, nn, ne, q', hG, b1, b2, b3, b4, b5, b6, b7, b8, e⟩ => ?_
    subst e
    obtain ⟨a, la, fa, ha, wa⟩ := oc_frz (bs := bs) (q := q') hG.oN hG.fN
    obtain ⟨b, lb, fb, hb, wb⟩ := oc_frz (bs := bs) (q := q') hG.oE hG.fE
    refine ⟨.ret (.agg [a, b, i64 nn, i64 ne]) (rd σ l0 bs q'), ⟨rd_sub hG.sub, _, .inl (.agg (.cons fa (.cons fb (.cons (.same _) (.cons (.same _) .nil))))), fun l hl => ?_⟩, a, b, ns, es, nn, ne, q', wa, wb, ⟨by simp only; omega, by simp only; omega, by simp only; omega, by simp only; omega, hG.tn, hG.te⟩, b7, b8, rfl⟩
    simp only [List.append_nil, List.mem_append] at hl
    rcases hl with hl | hl
    · exact ha l hl
    · exact hb l hl
  refine h1.weak fun out ⟨a, b, ns, es, nn, ne, q', wa, wb, t, b7, b8, e⟩ => ?_
  subst e
  exact ⟨.ret (.agg [.vec (nds ns), .vec (eds es), i64 nn, i64 ne]) (rd σ l0 bs q'), ⟨rfl, NilWs.agg (.cons wa (.cons wb (.cons (.inl rfl) (.cons (.inl rfl) .nil))))⟩, ns, es, nn, ne, q', t, b7, b8, rfl⟩
def DrawnP (out : COut) : Prop := ∃ ns es nn ne row given e σ1, SceneTame ⟨ns, es, nn, ne⟩ row given ∧ ETame e ∧ ESm e ∧ (∀ q ∈ given, GoodP q) ∧ given.length ≤ 3 ∧
  out = .ret (.tup [.agg [.vec (nds ns), .vec (eds es), i64 nn, i64 ne], .vec (prs row), .vec (prs given), Exp.cv e]) σ1
theorem pr_tame {q : Pr} (h : GoodP q) : PrTame q := ⟨by have := h.name; omega, h.val⟩
set_option maxHeartbeats 4000000 in
theorem draw_c {σ : Heap} {bs : List CV} (hb : BytesOk bs) (h2 : bs.length ≤ 1048576) : CRun Tryz.prog 8 [.vec bs] σ DrawnP := by
  refine crun_of (X := X) X_ok X_sat (body := bodyOf Tryz.f8) Tryz.func8 rfl (by kernel_rfl) (by kernel_rfl) ?_
  rw [Tryz.ntmps8]
  conv => whnf
  repeat' (first | (refine CallN.many (open_c hb h2) ?_; rintro _ ⟨l, bs', hb', hl', rfl⟩) | (refine CallN.many (any_frz (any_o hb' hl' (by omega) (by omega))) ?_; rintro _ ⟨ns, es, nn, ne, q1, gt, a1, a2, rfl⟩) | (refine CallN.many (drawCells_c hb' hl' (by omega) (by omega)) ?_; rintro _ ⟨row, q2, hr, hr3, a3, a4, rfl⟩) | (refine CallN.many (drawGiven_c hb' hl' (by omega) (by omega)) ?_; rintro _ ⟨given, q3, hg, hg3, a5, a6, rfl⟩) | (refine CallN.many (drawExpr_c hb' hl' (by omega) (by omega)) ?_; rintro _ ⟨⟨k, ⟨vk, vn, vt, vl⟩, s, c, ps⟩, q4, he, hs, a7, a8, rfl⟩) | refine ExtN.wr ?_ | refine finGo ?_) <;> try (conv => whnf)
  exact ⟨ns, es, nn, ne, row, given, .mk k (.mk vk vn vt vl) s c ps, _, ⟨gt, by omega, fun p hp => pr_tame (hr p hp), by omega, fun p hp => pr_tame (hg p hp)⟩, he, hs, hg, hg3, rfl⟩
def Yes (out : COut) : Prop := ∃ σ, out = .ret (.sc (.bool true)) σ
mutual
def hasN : Val → Bool
  | .mk k n t l => hasNL l || decide (k = 0)
def hasNL : List Val → Bool
  | [] => false
  | v :: r => hasN v || hasNL r
end
theorem hasNL_any (l : List Val) : hasNL l = l.any hasN := by
  induction l with
  | nil => rfl
  | cons v r ih => simp [hasNL, ih]
theorem eval_cases {g : Gr} {row given : List Pr} {e : Exp} (t : SceneTame g row given) : (∃ c, evalR g row given e = .err c ∧ c ≠ 0) ∨ ∃ v, evalR g row given e = .ok v ∧ Tame v ∧ okV 3 v = true ∧ AllOk g row given e ∧ evR g row given e = .ok v := by
  by_cases h : AllOk g row given e
  · have h0 : evalR g row given e = evR g row given e := by unfold evalR; rw [if_pos h]
    have h1 := ev_ok (h.scene t) e h.eo
    rw [h0]
    cases hr : evR g row given e with
    | ok v => rw [hr] at h1; exact .inr ⟨v, rfl, tame_of v h1, h1, h, rfl⟩
    | err c => rw [hr] at h1; exact .inl ⟨c, rfl, by rcases h1 with h | h | h <;> omega⟩
  · exact .inl ⟨8, by unfold evalR; rw [if_neg h], by decide⟩
theorem eval_at {g : Gr} {row given : List Pr} {e e' : Exp} (h : AllOk g row given e) (ho : okE 4 e' = true) : evalR g row given e' = evR g row given e' := by
  unfold evalR; rw [if_pos ⟨h.go, h.ro, h.vo, ho⟩]
mutual
theorem eq3_self : ∀ (v : Val) {d : Int}, okV d v = true → eq3 v v = if hasN v then .unk else .yes
  | .mk k n t l, d, h => by
    by_cases k0 : k = 0
    · simp [eq3, hasN, k0]
    · by_cases k4 : k = 4
      · subst k4
        have := eqL_self l (okV_list h)
        simp only [eq3, hasN]
        simp only [this, ne_eq, not_true_eq_false, or_self, if_false]
        simp
      · have hl : l = [] := by
          by_cases h3 : k = 3
          · subst h3; exact (okV_text h).2
          · exact (okV_num h h3 k4).2
        subst hl
        simp only [eq3, hasN, hasNL, sameV_refl]
        simp [k0, k4, T3.of]
theorem eqL_self : ∀ (l : List Val) {d : Int}, (∀ v ∈ l, okV d v = true) → eqL l l = if hasNL l then .unk else .yes
  | [], _, _ => by simp [eqL, hasNL]
  | v :: r, d, h => by
    have h1 := eq3_self v (h v (by simp))
    have h2 := eqL_self r fun w hw => h w (by simp [hw])
    simp only [eqL, hasNL, h1, h2]
    by_cases a : hasN v = true <;> by_cases b : hasNL r = true <;> simp [a, b, comb]
end
section
variable {σ : Heap} {ns : List Nd} {es : List Ed} {nn ne k vk vn : Int} {vt s c : ByteArray} {vl : List Val} {ps : List Exp} {row given : List Pr}
theorem implAt (t : SceneTame ⟨ns, es, nn, ne⟩ row given) (he : ETame (.mk k (.mk vk vn vt vl) s c ps)) :
    CRun Tryz.prog 10 [.agg [.vec (nds ns), .vec (eds es), i64 nn, i64 ne], .vec (prs row), .vec (prs given), .agg [i64 k, i64 vk, i64 vn, .sc (.string vt), .vec (Val.cvs vl), .sc (.string s), .sc (.string c), .vec (Exp.cvs ps)]] σ (· = outS σ (evalR ⟨ns, es, nn, ne⟩ row given (.mk k (.mk vk vn vt vl) s c ps))) := implEval_c t he
theorem specAt (t : SceneTame ⟨ns, es, nn, ne⟩ row given) (he : ETame (.mk k (.mk vk vn vt vl) s c ps)) :
    CRun Tryz.prog 11 [.agg [.vec (nds ns), .vec (eds es), i64 nn, i64 ne], .vec (prs row), .vec (prs given), .agg [i64 k, i64 vk, i64 vn, .sc (.string vt), .vec (Val.cvs vl), .sc (.string s), .sc (.string c), .vec (Exp.cvs ps)]] σ (· = outS σ (evalR ⟨ns, es, nn, ne⟩ row given (.mk k (.mk vk vn vt vl) s c ps))) := specEval_c t he
theorem okAt (he : ETame (.mk k (.mk vk vn vt vl) s c ps)) :
    CRun Tryz.prog 36 [.agg [i64 k, i64 vk, i64 vn, .sc (.string vt), .vec (Val.cvs vl), .sc (.string s), .sc (.string c), .vec (Exp.cvs ps)]] σ (· = .ret (.sc (.bool (okE 4 (.mk k (.mk vk vn vt vl) s c ps)))) σ) := implExprOk_c he
theorem asSelf {v : Val} (h : Tame v) : CRun Tryz.prog 14 [v.cv, v.cv] σ (· = .ret (.sc (.bool true)) σ) := by
  have := as_c (σ := σ) h h
  rwa [sameV_refl] at this
end
def opE (k : Int) (ps : List Exp) : Exp := .mk k (.mk 0 0 ⟨#[]⟩ []) ⟨#[]⟩ ⟨#[]⟩ ps
theorem opE_tame {k : Int} {ps : List Exp} (hl : ps.length ≤ 100) (h : ∀ e ∈ ps, ETame e) : ETame (opE k ps) := .mk null_tame' (by decide) (by decide) hl h
theorem opE_ok {k k' d : Int} {ps ps' : List Exp} (h : okE d (opE k ps) = true) (hk : okH d k' (.mk 0 0 ⟨#[]⟩ []) ⟨#[]⟩ ⟨#[]⟩ ps'.length = true) (hp : ∀ e ∈ ps', e ∈ ps) : okE d (opE k' ps') = true := by
  simp only [opE, okE, Bool.and_eq_true, okEL_all, List.all_eq_true] at h ⊢
  exact ⟨hk, fun e he => h.2 e (hp e he)⟩
theorem ev_one {g : Gr} {row given : List Pr} {k : Int} {e : Exp} {v : Val} (h : evR g row given e = .ok v) (hk : ¬ (k = 14 ∨ k = 15)) : evR g row given (opE k [e]) = oneR k v := by
  simp only [opE, evR, evL, h, joinR]; rw [if_neg hk]
theorem ev_two {g : Gr} {row given : List Pr} {k : Int} {e e' : Exp} {v w : Val} (h : evR g row given e = .ok v) (h' : evR g row given e' = .ok w) (hk : ¬ (k = 14 ∨ k = 15)) : evR g row given (opE k [e, e']) = twoR k v w := by
  simp only [opE, evR, evL, h, h', joinR]; rw [if_neg hk]
theorem arity_two (k : Int) : arityF k ≤ 2 := by
  unfold arityF; split
  · omega
  · split
    · omega
    · split <;> omega
mutual
theorem subs_len : ∀ (e : Exp) {d : Int}, okE d e = true → (subsE e).length + 1 ≤ 2 ^ d.toNat
  | .mk k v s c ps, d, h => by
    obtain ⟨h1, h2⟩ := okE_parts h
    have hd := h1.deep
    have ha := h1.ar
    have h3 := arity_two k
    have h4 := subsL_len2 ps (d := d - 1) h2
    have e0 : (subsE (.mk k v s c ps)).length = (subsL ps).length + 1 := by simp only [subsE, List.length_cons]
    have e1 : d.toNat = (d - 1).toNat + 1 := by omega
    have h6 : ps.length ≤ 2 := by omega
    have h7 : ps.length * (2 ^ (d - 1).toNat - 1) ≤ 2 * (2 ^ (d - 1).toNat - 1) := Nat.mul_le_mul_right _ h6
    have h8 : 1 ≤ 2 ^ (d - 1).toNat := Nat.one_le_two_pow
    rw [e0, e1, Nat.pow_succ]
    omega
theorem subsL_len2 : ∀ (l : List Exp) {d : Int}, (∀ e ∈ l, okE d e = true) → (subsL l).length ≤ l.length * (2 ^ d.toNat - 1)
  | [], d, _ => by simp [subsL]
  | e :: r, d, h => by
    have h1 := subs_len e (h e (by simp))
    have h2 := subsL_len2 r fun e he => h e (by simp [he])
    have h8 : 1 ≤ 2 ^ d.toNat := Nat.one_le_two_pow
    simp only [subsL, List.length_append, List.length_cons, Nat.add_mul, Nat.one_mul]
    omega
end
theorem look_none_iff : ∀ (l : List Pr) (s : ByteArray), lookP l s = none ↔ ∀ p ∈ l, ¬ p.name = s
  | [], s => by simp [lookP]
  | p :: r, s => by
    simp only [lookP]
    split
    · rename_i h; simp [h]
    · rename_i h; rw [look_none_iff r s]; simp [h]
def Once (l : List Pr) : Prop := l.Pairwise fun p q => ¬ p.name = q.name
theorem once_of {l : List Pr} (h : cellsOk l = true) : Once l := by
  refine List.pairwise_iff_getElem.2 fun i j hi hj hij e => ?_
  have h1 := List.all_eq_true.1 h j (List.mem_range.2 hj)
  rw [cellAt_of (List.getElem?_eq_getElem hj)] at h1
  simp only [Bool.and_eq_true, decide_eq_true_eq] at h1
  have h2 := (placeS_first (k := 0) (List.getElem?_eq_getElem hj)).1 (by rw [h1.2.2]; omega)
  exact h2 l[i] (List.mem_take_iff_getElem.2 ⟨i, by omega, rfl⟩) e
theorem ok_of_once {l : List Pr} (h : Once l) (hn : ∀ p ∈ l, nameOk p.name = true ∧ okV 3 p.val = true) : cellsOk l = true := by
  refine List.all_eq_true.2 fun i hi => ?_
  have hi := List.mem_range.1 hi
  rw [cellAt_of (List.getElem?_eq_getElem hi)]
  obtain ⟨h1, h2⟩ := hn l[i] (List.getElem_mem hi)
  have h3 := (placeS_first (k := 0) (List.getElem?_eq_getElem hi)).2 fun q hq => by
    obtain ⟨j, hj, rfl⟩ := List.mem_take_iff_getElem.1 hq
    exact List.pairwise_iff_getElem.1 h j i (by omega) hi (by omega)
  simp only [h1, h2, Bool.true_and, decide_eq_true_eq, h3]
  omega
theorem cells_parts {l : List Pr} (h : cellsOk l = true) : ∀ p ∈ l, nameOk p.name = true ∧ okV 3 p.val = true := by
  intro p hp
  obtain ⟨i, hi, rfl⟩ := List.mem_iff_getElem.1 hp
  have h1 := List.all_eq_true.1 h i (List.mem_range.2 hi)
  rw [cellAt_of (List.getElem?_eq_getElem hi)] at h1
  simp only [Bool.and_eq_true] at h1
  exact ⟨h1.1, h1.2.1⟩
theorem look_once : ∀ {l : List Pr}, Once l → ∀ {p : Pr}, p ∈ l → lookP l p.name = some p.val
  | [], _, p, hp => by simp at hp
  | q :: r, h, p, hp => by
    obtain ⟨h1, h2⟩ := List.pairwise_cons.1 h
    rcases List.mem_cons.1 hp with rfl | hp
    · simp [lookP]
    · have := h1 p hp
      simp only [lookP, this, if_false]
      exact look_once h2 hp
def hasB (l : List ByteArray) (s : ByteArray) : Bool := l.any fun x => decide (x = s)
theorem hasB_iff {l : List ByteArray} {s : ByteArray} : hasB l s = true ↔ s ∈ l := by
  simp only [hasB, List.any_eq_true, decide_eq_true_eq]
  constructor
  · rintro ⟨x, h, rfl⟩; exact h
  · intro h; exact ⟨s, h, rfl⟩
theorem hasB_no {l : List ByteArray} {s : ByteArray} (h : ∀ x ∈ l, ¬ x = s) : hasB l s = false := by
  rw [← Bool.not_eq_true, hasB_iff]; exact fun e => h s e rfl
def fewP (row : List Pr) (ns : List ByteArray) : List Pr := row.reverse.filter fun p => hasB ns p.name
theorem few_mem {row : List Pr} {ns : List ByteArray} {p : Pr} : p ∈ fewP row ns ↔ p ∈ row ∧ p.name ∈ ns := by simp [fewP, hasB_iff]
theorem few_once {row : List Pr} {ns : List ByteArray} (h : Once row) : Once (fewP row ns) :=
  List.Pairwise.filter _ (List.pairwise_reverse.2 (h.imp fun h e => h e.symm))
theorem few_look {row : List Pr} {ns : List ByteArray} (h : Once row) {s : ByteArray} (hs : s ∈ ns) : lookP (fewP row ns) s = lookP row s := by
  by_cases hp : ∃ p ∈ row, p.name = s
  · obtain ⟨p, hp, rfl⟩ := hp
    rw [look_once (few_once h) (few_mem.2 ⟨hp, hs⟩), look_once h hp]
  · have h1 : ∀ p ∈ row, ¬ p.name = s := fun p hm e => hp ⟨p, hm, e⟩
    rw [(look_none_iff row s).2 h1, (look_none_iff _ s).2 fun p hm => h1 p (few_mem.1 hm).1]
theorem few_ok {row : List Pr} {ns : List ByteArray} (h : cellsOk row = true) : cellsOk (fewP row ns) = true :=
  ok_of_once (few_once (once_of h)) fun p hp => cells_parts h p (few_mem.1 hp).1
theorem few_len (row : List Pr) (ns : List ByteArray) : (fewP row ns).length ≤ row.length := by
  have := List.length_filter_le (fun p : Pr => hasB ns p.name) row.reverse
  simpa [fewP] using this
mutual
theorem ev_few {g : Gr} {row row' given : List Pr} : ∀ (e : Exp) {d : Int}, okE d e = true → (∀ s ∈ namesOf (subsE e), lookP row' s = lookP row s) → evR g row' given e = evR g row given e
  | .mk k v s c ps, d, h, hs => by
    obtain ⟨h1, h2⟩ := okE_parts h
    have e0 : subsE (.mk k v s c ps) = .mk k v s c ps :: subsL ps := by simp only [subsE]
    rw [e0, namesOf_cons] at hs
    have hL := evL_few (g := g) (given := given) ps (d := d - 1) h2 fun s hs' => hs s (List.mem_append.2 (.inr hs'))
    simp only [evR]
    rw [hL]
    by_cases hk : k = 14 ∨ k = 15
    · rw [if_pos hk, if_pos hk]
    rw [if_neg hk, if_neg hk]
    cases ps with
    | cons e r => simp only [evL, joinR]; cases r <;> rfl
    | nil =>
      simp only [evL, joinR]
      rw [leafR_mk, leafR_mk]
      by_cases k1 : k = 1
      · rw [if_pos k1, if_pos k1]
      rw [if_neg k1, if_neg k1]
      by_cases k4 : k = 4
      · simp only [k4, if_true]
      have har := h1.ar
      have hk23 : k = 2 ∨ k = 3 := by
        simp only [List.length_nil] at har
        unfold arityF at har
        split at har
        · omega
        · split at har
          · omega
          · split at har <;> omega
      have := hs s (List.mem_append.2 (.inl (by rw [show nameIf (.mk k v s c []) = [s] from if_pos hk23]; simp)))
      simp only [k4, if_false]
      rw [this]
theorem evL_few {g : Gr} {row row' given : List Pr} : ∀ (l : List Exp) {d : Int}, (∀ e ∈ l, okE d e = true) → (∀ s ∈ namesOf (subsL l), lookP row' s = lookP row s) → evL g row' given l = evL g row given l
  | [], _, _, _ => rfl
  | e :: r, d, h, hs => by
    simp only [subsL, namesOf_app] at hs
    simp only [evL]
    rw [ev_few e (h e (by simp)) fun s hs' => hs s (List.mem_append.2 (.inl hs')), evL_few r (fun e he => h e (by simp [he])) fun s hs' => hs s (List.mem_append.2 (.inr hs'))]
end
def ordNames (e : Exp) : List ByteArray := (namesOf (subsE e)).foldl ins []
theorem ordNames_mem {e : Exp} {s : ByteArray} : s ∈ ordNames e ↔ s ∈ namesOf (subsE e) := by
  have := (fold_inc (namesOf (subsE e)) [] (by simp [Inc])).2 s
  simpa [ordNames] using this
theorem ordNames_inc (e : Exp) : Inc (ordNames e) := (fold_inc (namesOf (subsE e)) [] (by simp [Inc])).1
theorem eval_few {g : Gr} {row given : List Pr} {e : Exp} (h : AllOk g row given e) : evalR g (fewP row (ordNames e)) given e = evR g row given e := by
  have h2 : AllOk g (fewP row (ordNames e)) given e := ⟨h.go, few_ok h.ro, h.vo, h.eo⟩
  unfold evalR
  rw [if_pos h2]
  exact ev_few e h.eo fun s hs => few_look (once_of h.ro) (ordNames_mem.2 hs)
end Go.Proofs.YthllnbfkfobcjaaGreat
namespace Go.Proofs.YthllnbfkfobcjaaGreat
open Go Go.CL Go.Proofs
set_option maxRecDepth 10000
theorem asTexts_c {σ : Heap} {a b : List ByteArray} (ha : a.length ≤ 1000) (hb : b.length ≤ 1000) : CRun Tryz.prog 12 [.vec (strs a), .vec (strs b)] σ (· = .ret (.sc (.bool (decide (a = b)))) σ) := by
  have ea := strs_len a
  have eb := strs_len b
  refine crun_of (X := X) X_ok X_sat (body := bodyOf Tryz.f12) Tryz.func12 rfl (by kernel_rfl) (by kernel_rfl) ?_
  rw [Tryz.ntmps12]
  by_cases hl : a.length = b.length
  case neg =>
    conv => whnf
    repeat' (first | refine Fork.ny ?_ | refine finGo ?_) <;> try (conv => whnf)
    all_goals exact ansB (decide_eq_false fun e => hl (by rw [e]))
  conv => whnf
  repeat' (first | refine Fork.nn ?_) <;> try (conv => whnf)
  refine LoopN.rule (α := Nat) (fun i => ⟨26, [(0, .vec (strs a)), (1, .vec (strs b)), (4, .sc (.bool false)), (5, i64 i)], []⟩)
    (fun _ => σ) (fun i => a.length - i) (fun i => i ≤ a.length ∧ a.take i = b.take i) ?_ 0 ⟨by omega, by simp⟩ ?_
  rotate_left
  · (refine ⟨rfl, ?_, ?_, Sub.refl _⟩ <;> repeat' (first | exact EnvLe.nil | exact LocsLe.nil | refine EnvLe.cons _ _ _ ?_ ?_ | refine LocsLe.cons _ _ _ ?_ ?_ | exact CVle.same _ rfl | exact CVle.vec _ _ | exact CVle.nil | exact CVle.tok _ _ _ rfl rfl | exact ObLe.tok _ _ rfl | exact CVles.nil | refine CVles.cons ?_ ?_ | exact ObLe.same _ rfl rfl | refine ObLe.cells rfl ?_))
  rintro i K ⟨h1, h2⟩ hK
  dsimp only at h1 h2 ⊢
  by_cases hi : i < a.length
  · obtain ⟨x, _, hg, hg'⟩ := strs_at hi
    obtain ⟨y, _, kg, kg'⟩ := strs_at (l := b) (i := i) (by omega)
    by_cases hxy : x = y
    · conv => whnf
      repeat' (first | refine Fork.yp ?_ | refine Fork.nn ?_ | refine Need.go ?_ | refine Need.draw ?_ | refine ElemN.go ?_) <;> try (conv => whnf)
      refine hK (i + 1) _ _ ⟨by omega, ?_⟩ (by omega) ?_
      · rw [List.take_add_one, List.take_add_one, h2, hg, kg, hxy]
      (refine ⟨rfl, ?_, ?_, Sub.refl _⟩ <;> repeat' (first | exact EnvLe.nil | exact LocsLe.nil | refine EnvLe.cons _ _ _ ?_ ?_ | refine LocsLe.cons _ _ _ ?_ ?_ | exact CVle.same _ rfl | exact CVle.vec _ _ | exact CVle.nil | exact CVle.tok _ _ _ rfl rfl | exact ObLe.tok _ _ rfl | exact CVles.nil | refine CVles.cons ?_ ?_ | exact ObLe.same _ rfl rfl | refine ObLe.cells rfl ?_))
    · conv => whnf
      repeat' (first | refine Fork.yp ?_ | refine Fork.ny ?_ | refine Need.go ?_ | refine Need.draw ?_ | refine ElemN.go ?_ | refine finGo ?_) <;> try (conv => whnf)
      all_goals exact ansB (decide_eq_false fun e => hxy (by rw [e, kg] at hg; cases hg; rfl))
  · rw [List.take_of_length_le (by omega), List.take_of_length_le (by omega)] at h2
    conv => whnf
    repeat' (first | refine Fork.np ?_ | refine finGo ?_) <;> try (conv => whnf)
    all_goals exact ansB (decide_eq_true h2)
theorem asHas_c {σ : Heap} {a : List ByteArray} {s : ByteArray} (ha : a.length ≤ 1000) : CRun Tryz.prog 15 [.vec (strs a), .sc (.string s)] σ (· = .ret (.sc (.bool (hasB a s))) σ) := by
  have ea := strs_len a
  refine crun_of (X := X) X_ok X_sat (body := bodyOf Tryz.f15) Tryz.func15 rfl (by kernel_rfl) (by kernel_rfl) ?_
  rw [Tryz.ntmps15]
  conv => whnf
  repeat' (first | refine OrdN.one ?_ | refine Fork.yp ?_ | refine Fork.np ?_ | refine Fork.ny ?_ | refine Fork.nn ?_ | refine Fork.yb ?_ | refine Fork.nb ?_ | refine Fork.dp (fun h => ?_) (fun h => ?_) | refine Fork.dn (fun h => ?_) (fun h => ?_) | (refine Fork.mk (fun h => ?_) (fun h => ?_) <;> simp only [decide_eq_true_eq, decide_eq_false_iff_not, Bool.not_eq_true', Bool.not_eq_false', Bool.or_eq_true, Bool.or_eq_false_iff] at h) | refine GetN.go ?_ | refine Need.ap1 ?_ | refine Need.ap0 ?_ | refine Need.go ?_ | refine Need.draw ?_ | refine ElemN.go ?_ | refine ExtN.ext ?_ | refine ExtN.wr ?_ | refine AllocN.go (fun l hl => ?_) | refine finGo ?_) <;> try (conv => whnf)
  refine LoopN.rule (α := Nat) (fun i => ⟨18, [(0, .vec (strs a)), (1, .sc (.string s)), (4, .sc (.bool false)), (5, i64 i)], []⟩)
    (fun _ => σ) (fun i => a.length - i) (fun i => i ≤ a.length ∧ ∀ x ∈ a.take i, ¬ x = s) ?_ 0 ⟨by omega, by simp⟩ ?_
  rotate_left
  · (refine ⟨rfl, ?_, ?_, Sub.refl _⟩ <;> repeat' (first | exact EnvLe.nil | exact LocsLe.nil | refine EnvLe.cons _ _ _ ?_ ?_ | refine LocsLe.cons _ _ _ ?_ ?_ | exact CVle.same _ rfl | exact CVle.vec _ _ | exact CVle.nil | exact CVle.tok _ _ _ rfl rfl | exact ObLe.tok _ _ rfl | exact CVles.nil | refine CVles.cons ?_ ?_ | exact ObLe.same _ rfl rfl | refine ObLe.cells rfl ?_))
  rintro i K ⟨h1, h2⟩ hK
  dsimp only at h1 h2 ⊢
  by_cases hi : i < a.length
  · obtain ⟨x, hm, hg, hg'⟩ := strs_at hi
    by_cases hx : x = s
    · conv => whnf
      repeat' (first | refine Fork.yp ?_ | refine Need.go ?_ | refine ElemN.go ?_ | refine finGo ?_) <;> try (conv => whnf)
      all_goals exact ansB (hasB_iff.2 (hx ▸ hm))
    · conv => whnf
      repeat' (first | refine Fork.yp ?_ | refine Fork.np ?_ | refine Need.go ?_ | refine ElemN.go ?_) <;> try (conv => whnf)
      refine hK (i + 1) _ _ ⟨by omega, ?_⟩ (by omega) ?_
      · rw [List.take_add_one, hg]
        intro y hy
        rcases List.mem_append.1 hy with hy | hy
        · exact h2 y hy
        · simp at hy; subst hy; exact hx
      (refine ⟨rfl, ?_, ?_, Sub.refl _⟩ <;> repeat' (first | exact EnvLe.nil | exact LocsLe.nil | refine EnvLe.cons _ _ _ ?_ ?_ | refine LocsLe.cons _ _ _ ?_ ?_ | exact CVle.same _ rfl | exact CVle.vec _ _ | exact CVle.nil | exact CVle.tok _ _ _ rfl rfl | exact ObLe.tok _ _ rfl | exact CVles.nil | refine CVles.cons ?_ ?_ | exact ObLe.same _ rfl rfl | refine ObLe.cells rfl ?_))
  · rw [List.take_of_length_le (by omega)] at h2
    conv => whnf
    repeat' (first | refine Fork.np ?_ | refine finGo ?_) <;> try (conv => whnf)
    all_goals exact ansB (hasB_no h2)
theorem implNames_c {σ : Heap} {k vk vn : Int} {vt : ByteArray} {vl : List Val} {s c : ByteArray} {ps : List Exp} (he : ETame (.mk k (.mk vk vn vt vl) s c ps)) :
    CRun Tryz.prog 9 [Exp.cv (.mk k (.mk vk vn vt vl) s c ps)] σ (· = .ret (.vec (strs (if okE 4 (.mk k (.mk vk vn vt vl) s c ps) = true then ordNames (.mk k (.mk vk vn vt vl) s c ps) else []))) σ) := by
  have c1 := implExprOk_c (σ := σ) he
  cases ho : okE 4 (.mk k (.mk vk vn vt vl) s c ps) with
  | false =>
    rw [ho] at c1
    refine crun_of (X := X) X_ok X_sat (body := bodyOf Tryz.f9) Tryz.func9 rfl (by kernel_rfl) (by kernel_rfl) ?_
    rw [Tryz.ntmps9]
    conv => whnf
    repeat' (first | (refine CallN.one c1 ?_) | refine ExtN.ext ?_ | refine finGo ?_) <;> try (conv => whnf)
    all_goals rfl
  | true =>
    rw [ho] at c1
    have hl := subs_len _ ho
    have c2 := namesIn_c (σ := σ) he (by have : (2 : Nat) ^ (4 : Int).toNat = 16 := rfl; omega)
    refine crun_of (X := X) X_ok X_sat (body := bodyOf Tryz.f9) Tryz.func9 rfl (by kernel_rfl) (by kernel_rfl) ?_
    rw [Tryz.ntmps9]
    conv => whnf
    repeat' (first | (refine CallN.one c1 ?_) | (refine CallN.one c2 ?_) | refine ExtN.ext ?_ | refine finGo ?_) <;> try (conv => whnf)
    all_goals rfl
theorem specNames_c {σ : Heap} {k vk vn : Int} {vt : ByteArray} {vl : List Val} {s c : ByteArray} {ps : List Exp} (he : ETame (.mk k (.mk vk vn vt vl) s c ps)) :
    CRun Tryz.prog 13 [Exp.cv (.mk k (.mk vk vn vt vl) s c ps)] σ (· = .ret (.vec (strs (if okE 4 (.mk k (.mk vk vn vt vl) s c ps) = true then ordNames (.mk k (.mk vk vn vt vl) s c ps) else []))) σ) := by
  have c1 := specExprOk_c (σ := σ) he
  cases ho : okE 4 (.mk k (.mk vk vn vt vl) s c ps) with
  | false =>
    rw [ho] at c1
    refine crun_of (X := X) X_ok X_sat (body := bodyOf Tryz.f13) Tryz.func13 rfl (by kernel_rfl) (by kernel_rfl) ?_
    rw [Tryz.ntmps13]
    conv => whnf
    repeat' (first | (refine CallN.one c1 ?_) | refine ExtN.ext ?_ | refine finGo ?_) <;> try (conv => whnf)
    all_goals rfl
  | true =>
    rw [ho] at c1
    have hl := subs_len _ ho
    have c2 := l4Names_c he (out := []) (σ := σ) (by have : (2 : Nat) ^ (4 : Int).toNat = 16 := rfl; simp; omega)
    refine crun_of (X := X) X_ok X_sat (body := bodyOf Tryz.f13) Tryz.func13 rfl (by kernel_rfl) (by kernel_rfl) ?_
    rw [Tryz.ntmps13]
    conv => whnf
    repeat' (first | (refine CallN.one c1 ?_) | (refine CallN.one c2 ?_) | refine ExtN.ext ?_ | refine finGo ?_) <;> try (conv => whnf)
    all_goals rfl
theorem prs_at' {l : List Pr} {i : Int} (h0 : 0 ≤ i) (h : i < l.length) : ∃ p, p ∈ l ∧ (prs l)[i.toNat]? = some p.cv ∧ fewP (l.drop i.toNat) = fun ns => fewP (l.drop (i + 1).toNat) ns ++ (if hasB ns p.name = true then [p] else []) := by
  have hi : i.toNat < l.length := by omega
  refine ⟨l[i.toNat], List.getElem_mem hi, by unfold prs; rw [List.getElem?_map, List.getElem?_eq_getElem hi]; rfl, ?_⟩
  funext ns
  have e : (i + 1).toNat = i.toNat + 1 := by omega
  rw [e, List.drop_eq_getElem_cons hi]
  simp only [fewP, List.reverse_cons, List.filter_append, List.filter_cons, List.filter_nil]
theorem names_at {e : Exp} {i : Nat} (h1 : 1 ≤ i) (h2 : i < (ordNames e).length) : ∃ q s, (strs (ordNames e))[((i : Int) - 1).toNat]? = some (.sc (.string q)) ∧ (strs (ordNames e))[i]? = some (.sc (.string s)) ∧ (!Op.bytesLess q.toList s.toList) = false := by
  have e1 : ((i : Int) - 1).toNat = i - 1 := by omega
  have h3 : i - 1 < (ordNames e).length := by omega
  refine ⟨(ordNames e)[i - 1], (ordNames e)[i], ?_, ?_, ?_⟩
  · rw [e1]; unfold strs; rw [List.getElem?_map, List.getElem?_eq_getElem h3]; rfl
  · unfold strs; rw [List.getElem?_map, List.getElem?_eq_getElem h2]; rfl
  · have := List.pairwise_iff_getElem.1 (ordNames_inc e) (i - 1) i h3 h2 (by omega)
    have h4 := lt_bl (ordNames e)[i - 1] (ordNames e)[i]
    unfold lt at h4
    rw [h4, decide_eq_true this]; rfl
set_option maxHeartbeats 4000000 in
theorem lawNames {σ : Heap} {bs : List CV} (hb : BytesOk bs) : CRun Tryz.prog 3 [.vec bs] σ Yes := by
  refine crun_of (X := X) X_ok X_sat (body := bodyOf Tryz.f3) Tryz.func3 rfl (by kernel_rfl) (by kernel_rfl) ?_
  rw [Tryz.ntmps3]
  by_cases h2 : 1048576 < bs.length
  · conv => whnf
    repeat' (first | refine Fork.yp ?_ | refine finGo ?_) <;> try (conv => whnf)
    exact ⟨_, rfl⟩
  conv => whnf
  repeat' (first | (refine CallN.many (draw_c hb (by omega)) ?_; rintro _ ⟨ns, es, nn, ne, row, given, ⟨k, ⟨vk, vn, vt, vl⟩, s, c, ps⟩, τ, t, he, hs, hg, hg3, rfl⟩) | refine Fork.np ?_ | refine ExtN.wr ?_) <;> try (conv => whnf)
  have c1 := implAt (σ := τ) t he
  have c2 := specAt (σ := τ) t he
  have c3 := implNames_c (σ := τ) he
  have c4 := specNames_c (σ := τ) he
  rcases eval_cases (e := .mk k (.mk vk vn vt vl) s c ps) t with ⟨c0, hc, hc0⟩ | ⟨v, hv, tv, ov, hA, hev⟩
  · rw [hc, outS_err] at c1 c2
    have ca := asSelf (σ := τ) null_tame'
    have hN : (if okE 4 (.mk k (.mk vk vn vt vl) s c ps) = true then ordNames (.mk k (.mk vk vn vt vl) s c ps) else []).length ≤ 1000 := by
      split
      · rename_i h
        have h1 := subs_len _ h
        have h3 := fold_len (namesOf (subsE (.mk k (.mk vk vn vt vl) s c ps))) []
        have h4 := namesOf_len (subsE (.mk k (.mk vk vn vt vl) s c ps))
        have : (2 : Nat) ^ (4 : Int).toNat = 16 := rfl
        unfold ordNames; simp only [List.length_nil] at h3; omega
      · simp
    generalize (if okE 4 (.mk k (.mk vk vn vt vl) s c ps) = true then ordNames (.mk k (.mk vk vn vt vl) s c ps) else []) = N at c3 c4 hN
    have ct := asTexts_c (σ := τ) hN hN
    rw [decide_eq_true rfl] at ct
    conv => whnf
    repeat' (first | (refine CallN.one c1 ?_) | (refine CallN.one c2 ?_) | (refine CallN.one c3 ?_) | (refine CallN.one c4 ?_) | (refine CallN.one ct ?_) | (refine CallN.one ca ?_) | refine Fork.yp ?_ | refine Fork.ny ?_ | refine Fork.nn ?_ | refine ExtN.ext ?_ | refine finGo ?_) <;> try (conv => whnf)
    all_goals exact ⟨_, rfl⟩
  rw [hv, outS_ok] at c1 c2
  rw [if_pos hA.eo] at c3 c4
  have hN : (ordNames (.mk k (.mk vk vn vt vl) s c ps)).length ≤ 1000 := by
    have h1 := subs_len _ hA.eo
    have h3 := fold_len (namesOf (subsE (.mk k (.mk vk vn vt vl) s c ps))) []
    have h4 := namesOf_len (subsE (.mk k (.mk vk vn vt vl) s c ps))
    have : (2 : Nat) ^ (4 : Int).toNat = 16 := rfl
    unfold ordNames; simp only [List.length_nil] at h3; omega
  have ct := asTexts_c (σ := τ) hN hN
  rw [decide_eq_true rfl] at ct
  have ca := asSelf (σ := τ) tv
  have co := implOk_c (σ := τ) tv
  rw [ov] at co
  have hf := eval_few hA
  rw [hev] at hf
  have t6 : SceneTame ⟨ns, es, nn, ne⟩ (fewP row (ordNames (.mk k (.mk vk vn vt vl) s c ps))) given := ⟨t.gt, by have := few_len row (ordNames (.mk k (.mk vk vn vt vl) s c ps)); have := t.rl; omega, fun p hp => t.rt p (few_mem.1 hp).1, t.vl, t.vt⟩
  have c6 := implAt (σ := τ) t6 he
  rw [hf, outS_ok] at c6
  have cn := fun s => asHas_c (σ := τ) (s := s) hN
  have hat := fun (i : Nat) h1 h2 => names_at (e := .mk k (.mk vk vn vt vl) s c ps) (i := i) h1 h2
  clear hf hv hev t6 hs hg hg3
  generalize ordNames (.mk k (.mk vk vn vt vl) s c ps) = N at c3 c4 hN ct c6 cn hat
  obtain ⟨wk, wn, wt, wl⟩ := v
  have eN := strs_len N
  have eR := prs_len row
  have hrl := t.rl
  have frl : ∀ m, (fewP (row.drop m) N).length ≤ 1000 := fun m => by have := few_len (row.drop m) N; simp only [List.length_drop] at this; omega
  conv => whnf
  repeat' (first | (refine CallN.one c1 ?_) | (refine CallN.one c2 ?_) | (refine CallN.one c3 ?_) | (refine CallN.one c4 ?_) | (refine CallN.one ct ?_) | (refine CallN.one ca ?_) | refine Fork.nn ?_ | refine Need.go ?_ | refine ExtN.ext ?_) <;> try (conv => whnf)
  refine LoopN.rule (α := Int × List Pr) (fun a => ⟨136, [(3, .ptr (.f 3) 0), (4, .vec (prs row)), (5, .vec (prs given)), (6, .ptr (.f 6) 0), (7, .vec (strs N)), (8, .ptr (.f 8) 0), (12, .avec 79 (prs a.2)), (13, i64 a.1)],
      [(3, .cells [.vec (nds ns), .vec (eds es), i64 nn, i64 ne]), (6, .cells [i64 k, i64 vk, i64 vn, .sc (.string vt), .vec (Val.cvs vl), .sc (.string s), .sc (.string c), .vec (Exp.cvs ps)]), (8, .cells [i64 wk, i64 wn, .sc (.string wt), .vec (Val.cvs wl)]),
        (79, .tok 44 5 (prs a.2).length)]⟩)
    (fun _ => τ) (fun a => (a.1 + 1).toNat) (fun a => -1 ≤ a.1 ∧ a.1 < row.length ∧ a.2 = fewP (row.drop (a.1 + 1).toNat) N) ?_ (((prs row).length - 1 : Int), []) ⟨by dsimp only; omega, by dsimp only; omega, by dsimp only; rw [List.drop_eq_nil_of_le (by omega)]; rfl⟩ ?_
  rotate_left
  · (refine ⟨rfl, ?_, ?_, Sub.refl _⟩ <;> repeat' (first | exact EnvLe.nil | exact LocsLe.nil | refine EnvLe.cons _ _ _ ?_ ?_ | refine LocsLe.cons _ _ _ ?_ ?_ | exact CVle.same _ rfl | exact CVle.vec _ _ | exact CVle.nil | exact CVle.tok _ _ _ rfl rfl | exact ObLe.tok _ _ rfl | exact CVles.nil | refine CVles.cons ?_ ?_ | exact ObLe.same _ rfl rfl | refine ObLe.cells rfl ?_))
  · rintro ⟨i, fx⟩ K ⟨h1, h3, hfx⟩ hK
    dsimp only at h1 h3 hfx hK ⊢
    have hfr := frl (i + 1).toNat
    rw [← hfx] at hfr
    have efr := prs_len fx
    by_cases hi : 0 ≤ i
    · obtain ⟨⟨pn, ⟨q1, q2, q3, q4⟩⟩, hm, hx, hstep⟩ := prs_at' hi h3
      have cn := cn pn
      cases hb' : hasB N pn with
      | true =>
        rw [hb'] at cn
        have hK := hK (i - 1, fx ++ [⟨pn, .mk q1 q2 q3 q4⟩])
        dsimp only at hK
        have hap : prs (fx ++ [⟨pn, .mk q1 q2 q3 q4⟩]) = prs fx ++ [Pr.cv ⟨pn, .mk q1 q2 q3 q4⟩] := by simp [prs]
        have hfx' : fx ++ [⟨pn, .mk q1 q2 q3 q4⟩] = fewP (row.drop (i - 1 + 1).toNat) N := by rw [show i - 1 + 1 = i by omega, hstep, hfx]; simp only [hb', if_true]
        rw [hap, List.length_append] at hK
        conv => whnf
        repeat' (first | (refine CallN.one cn ?_) | (refine Need.ap1 ?_ (h1 := by simp only []; omega)) | refine Fork.yp ?_ | refine Fork.nb ?_ | refine Need.go ?_ | refine ElemN.go ?_ | refine ExtN.ext ?_) <;> try (conv => whnf)
        refine hK _ _ ⟨by omega, by omega, hfx'⟩ (by omega) ?_
        (refine ⟨rfl, ?_, ?_, Sub.refl _⟩ <;> repeat' (first | exact EnvLe.nil | exact LocsLe.nil | refine EnvLe.cons _ _ _ ?_ ?_ | refine LocsLe.cons _ _ _ ?_ ?_ | exact CVle.same _ rfl | exact CVle.vec _ _ | exact CVle.nil | exact CVle.tok _ _ _ rfl rfl | exact ObLe.tok _ _ rfl | exact CVles.nil | refine CVles.cons ?_ ?_ | exact ObLe.same _ rfl rfl | refine ObLe.cells rfl ?_))
      | false =>
        rw [hb'] at cn
        have hK := hK (i - 1, fx)
        dsimp only at hK
        have hfx' : fx = fewP (row.drop (i - 1 + 1).toNat) N := by rw [show i - 1 + 1 = i by omega, hstep, hfx]; simp [hb']
        conv => whnf
        repeat' (first | (refine CallN.one cn ?_) | refine Fork.yp ?_ | refine Need.go ?_ | refine ElemN.go ?_ | refine ExtN.ext ?_) <;> try (conv => whnf)
        refine hK _ _ ⟨by omega, by omega, hfx'⟩ (by omega) ?_
        (refine ⟨rfl, ?_, ?_, Sub.refl _⟩ <;> repeat' (first | exact EnvLe.nil | exact LocsLe.nil | refine EnvLe.cons _ _ _ ?_ ?_ | refine LocsLe.cons _ _ _ ?_ ?_ | exact CVle.same _ rfl | exact CVle.vec _ _ | exact CVle.nil | exact CVle.tok _ _ _ rfl rfl | exact ObLe.tok _ _ rfl | exact CVles.nil | refine CVles.cons ?_ ?_ | exact ObLe.same _ rfl rfl | refine ObLe.cells rfl ?_))
    · obtain rfl : i = -1 := by omega
      have hfx : fewP row N = fx := hfx.symm
      rw [hfx] at c6
      conv => whnf
      repeat' (first | (refine CallN.one c6 ?_) | refine Fork.np ?_ | refine ExtN.ext ?_) <;> try (conv => whnf)
      refine LoopN.rule (α := Nat) (fun i => ⟨136, [(7, .vec (strs N)), (8, .ptr (.f 8) 0), (14, .ptr (.f 14) 0), (15, i64 0), (16, i64 i)],
          [(8, .cells [i64 wk, i64 wn, .sc (.string wt), .vec (Val.cvs wl)]), (14, .cells [i64 wk, i64 wn, .sc (.string wt), .vec (Val.cvs wl)])]⟩)
        (fun _ => τ) (fun i => N.length + 1 - i) (fun i => 1 ≤ i) ?_ 1 (Nat.le_refl _) ?_
      rotate_left
      · (refine ⟨rfl, ?_, ?_, Sub.refl _⟩ <;> repeat' (first | exact EnvLe.nil | exact LocsLe.nil | refine EnvLe.cons _ _ _ ?_ ?_ | refine LocsLe.cons _ _ _ ?_ ?_ | exact CVle.same _ rfl | exact CVle.vec _ _ | exact CVle.nil | exact CVle.tok _ _ _ rfl rfl | exact ObLe.tok _ _ rfl | exact CVles.nil | refine CVles.cons ?_ ?_ | exact ObLe.same _ rfl rfl | refine ObLe.cells rfl ?_))
      rintro i K h1 hK
      dsimp only at h1 hK ⊢
      by_cases hi : i < N.length
      · obtain ⟨q, z, hq, hz, hlt⟩ := hat i h1 hi
        conv => whnf
        repeat' (first | refine Fork.yp ?_ | refine Fork.nb ?_ | refine Need.go ?_ | refine Need.draw ?_ | refine ElemN.go ?_) <;> try (conv => whnf)
        refine hK (i + 1) _ _ (by omega) (by omega) ?_
        (refine ⟨rfl, ?_, ?_, Sub.refl _⟩ <;> repeat' (first | exact EnvLe.nil | exact LocsLe.nil | refine EnvLe.cons _ _ _ ?_ ?_ | refine LocsLe.cons _ _ _ ?_ ?_ | exact CVle.same _ rfl | exact CVle.vec _ _ | exact CVle.nil | exact CVle.tok _ _ _ rfl rfl | exact ObLe.tok _ _ rfl | exact CVles.nil | refine CVles.cons ?_ ?_ | exact ObLe.same _ rfl rfl | refine ObLe.cells rfl ?_))
      · conv => whnf
        repeat' (first | (refine CallN.one ca ?_) | (refine CallN.one co ?_) | refine Fork.yp ?_ | refine Fork.np ?_ | refine ExtN.ext ?_ | refine finGo ?_) <;> try (conv => whnf)
        all_goals exact ⟨_, rfl⟩
end Go.Proofs.YthllnbfkfobcjaaGreat
