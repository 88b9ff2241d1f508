/-
  Contracts of the functions that the law reaches.
-/
import Derived.Test.YtlamgfimgadnmaaGreatJ
import Derived.Test.YtlamgfimgadnmaaGreatA
set_option linter.unusedVariables false
set_option linter.unusedSimpArgs false
namespace Go.Proofs.YtlamgfimgadnmaaGreat
open Go Go.CL
set_option maxRecDepth 10000
def zaw (l : List Int) : List CV := l.map i64
theorem qi (l : List Int) : (zaw l).length = l.length := by simp [zaw]
theorem zbk (l : List Int) (x : Int) : zaw (l ++ [x]) = zaw l ++ [i64 x] := by simp [zaw]
theorem zks (l : List Ed) (x : Ed) : eds (l ++ [x]) = eds l ++ [x.cv] := by simp [eds]
theorem zs5 {σ : Heap} {nsC : List CV} {es : List Ed} {nn ne d : Int} (hl : es.length ≤ 100) :
    CRun Tryz.prog 114 [.agg [.vec nsC, .vec (eds es), i64 nn, i64 ne], i64 d, i64 0, .sc (.string ⟨#[]⟩)] σ (fun out => ∃ ids, ids.length ≤ es.length ∧ out = .ret (.vec (zaw ids)) σ) := by
  have e3 := ye es
  refine ZX Tryz.func114 Tryz.ntmps114 ?_
  conv => whnf
  repeat' (first | refine Zh ?_ | refine Za ?_ | refine Zb ?_ | refine Zc ?_ | refine Zd ?_ | refine Ze ?_ | refine Zg ?_ | refine Zv (fun h => ?_) (fun h => ?_) | refine Zj ?_ | refine Zk ?_ | refine Zl ?_ | refine Zm ?_ | refine Zn ?_ | refine Zo ?_ | refine Zp ?_ | refine Zq ?_ | refine Zu (fun l hl => ?_) | refine Zr ?_) <;> try (conv => whnf)
  refine LoopN.rule (α := Nat × List Int) (fun a => ⟨61, [(1, i64 d), (2, i64 0), (3, .sc (.string ⟨#[]⟩)), (4, .ptr (.f 4) 0), (9, .avec 13 (zaw a.2)), (10, i64 a.1)], [(4, .cells [.vec nsC, .vec (eds es), i64 nn, i64 ne]), (13, .tok 3 1 (zaw a.2).length)]⟩)
    (fun _ => σ) (fun a => es.length - a.1) (fun a => a.1 ≤ es.length ∧ a.2.length ≤ a.1) ?_ (0, []) ⟨by simp, by simp⟩ ?_
  · rintro ⟨i, acc⟩ K ⟨i1, i2⟩ hK
    dsimp only at i1 i2 ⊢
    have e4 := qi acc
    by_cases hi : i < es.length
    · obtain ⟨d', kd, a, b, ps, hm, hg', hg, _⟩ := qp hi
      have hK1 := hK (i + 1, acc ++ [d'])
      have hK0 := hK (i + 1, acc)
      dsimp only at hK0 hK1
      have eL : (zaw acc ++ [i64 d']).length = (zaw acc).length + [i64 d'].length := List.length_append
      rw [zbk, eL] at hK1
      conv => whnf
      repeat' (first | refine Za ?_ | refine Ze ?_ | refine Zg ?_ | refine Zv (fun h => ?_) (fun h => ?_) | refine Zk ?_ | refine Zm ?_ | refine Zo ?_) <;> try (conv => whnf)
      all_goals first
        | (refine hK1 _ _ ⟨by omega, by simp; omega⟩ (by omega) ?_; exact ZW; done)
        | (refine hK0 _ _ ⟨by omega, by omega⟩ (by omega) ?_; exact ZW; done)
    · conv => whnf
      repeat' (first | refine Zb ?_ | refine Zr ?_) <;> try (conv => whnf)
      exact ⟨acc, by omega, rfl⟩
  · exact ZW
theorem zp2 {σ : Heap} {nsC : List CV} {es : List Ed} {nn ne d : Int} (hl : es.length ≤ 100) (ht : ∀ e ∈ es, EdTame e) :
    CRun Tryz.prog 115 [.agg [.vec nsC, .vec (eds es), i64 nn, i64 ne], i64 d] σ (fun out => ∃ es', es'.length ≤ es.length ∧ (∀ e ∈ es', EdTame e) ∧ out = .ret (.agg [.vec nsC, .vec (eds es'), i64 nn, i64 ne]) σ) := by
  have e3 := ye es
  refine ZX Tryz.func115 Tryz.ntmps115 ?_
  conv => whnf
  repeat' (first | refine Zh ?_ | refine Za ?_ | refine Zb ?_ | refine Zc ?_ | refine Zd ?_ | refine Ze ?_ | refine Zg ?_ | refine Zv (fun h => ?_) (fun h => ?_) | refine Zj ?_ | refine Zk ?_ | refine Zl ?_ | refine Zm ?_ | refine Zn ?_ | refine Zo ?_ | refine Zp ?_ | refine Zq ?_ | refine Zu (fun l hl => ?_) | refine Zr ?_) <;> try (conv => whnf)
  refine LoopN.rule (α := Nat × List Ed) (fun a => ⟨34, [(1, i64 d), (2, .ptr (.f 2) 0), (4, .ptr (.f 4) 0), (5, .avec 7 (eds a.2)), (6, i64 a.1)], [(2, .cells [.vec nsC, .vec (eds es), i64 nn, i64 ne]), (4, .cells [.nil, .nil, i64 0, i64 0]), (7, .tok 32 5 (eds a.2).length)]⟩)
    (fun _ => σ) (fun a => es.length - a.1) (fun a => a.1 ≤ es.length ∧ a.2.length ≤ a.1 ∧ ∀ e ∈ a.2, EdTame e) ?_ (0, []) ⟨by simp, by simp, by simp⟩ ?_
  · rintro ⟨i, acc⟩ K ⟨i1, i2, i3⟩ hK
    dsimp only at i1 i2 i3 ⊢
    have e4 := ye acc
    by_cases hi : i < es.length
    · obtain ⟨d', kd, a, b, ps, hm, hg', hg, _⟩ := qp hi
      have hK1 := hK (i + 1, acc ++ [⟨d', kd, a, b, ps⟩])
      have hK0 := hK (i + 1, acc)
      dsimp only at hK0 hK1
      have eL : (eds acc ++ [Ed.cv ⟨d', kd, a, b, ps⟩]).length = (eds acc).length + [Ed.cv ⟨d', kd, a, b, ps⟩].length := List.length_append
      rw [zks, eL] at hK1
      have ht' : ∀ e ∈ acc ++ [⟨d', kd, a, b, ps⟩], EdTame e := fun e he => by
        rcases List.mem_append.1 he with he | he
        · exact i3 e he
        · rw [List.mem_singleton.1 he]; exact ht _ hm
      conv => whnf
      repeat' (first | refine Za ?_ | refine Zg ?_ | refine Zv (fun h => ?_) (fun h => ?_) | refine Zk ?_ | refine Zm ?_ | refine Zo ?_) <;> try (conv => whnf)
      all_goals first
        | (refine hK1 _ _ ⟨by omega, by simp; omega, ht'⟩ (by omega) ?_; exact ZW; done)
        | (refine hK0 _ _ ⟨by omega, by omega, i3⟩ (by omega) ?_; exact ZW; done)
    · conv => whnf
      repeat' (first | refine Zb ?_ | refine Zr ?_) <;> try (conv => whnf)
      exact ⟨acc, by omega, i3, rfl⟩
  · exact ZW
theorem z5g {ids : List Int} {i : Nat} (hi : i < ids.length) : ∃ d, (zaw ids)[(i : Int).toNat]? = some (i64 d) := by
  refine ⟨ids[i], ?_⟩
  rw [Int.toNat_natCast]; unfold zaw; rw [List.getElem?_map, List.getElem?_eq_getElem hi]; rfl
theorem zfg (l : List Nd) (x : Nd) : nds (l ++ [x]) = nds l ++ [x.cv] := by simp [nds]
structure NSt where
  i : Nat
  n : Nat
  acc : List Nd
  s : Heap
  l : Nat
  cap : Nat
def z6i (σ : Heap) (es : List Ed) (ns : List Nd) (nn ne : Int) (out : COut) : Prop := ∃ (es' : List Ed) (ns' : List Nd) (n l1 cap : Nat) (σ' : Heap), es'.length ≤ es.length ∧ (∀ e ∈ es', EdTame e) ∧ ns'.length ≤ ns.length ∧ (∀ n ∈ ns', NdTame n) ∧ n = (nds ns').length ∧ Sub σ σ' ∧ σ l1 = none ∧ σ' l1 = some (.arr 79 3 cap (nds ns')) ∧
  out = .ret (.tup [.agg [.grow l1 n cap, .vec (eds es'), i64 nn, i64 ne], .sc (.bool true)]) σ'
set_option maxHeartbeats 1000000 in
theorem zp1 {σ : Heap} {ns : List Nd} {es : List Ed} {nn ne d : Int} (hln : ns.length ≤ 100) (hl : es.length ≤ 100) (htn : ∀ n ∈ ns, NdTame n) (ht : ∀ e ∈ es, EdTame e) :
    CRun Tryz.prog 96 [.agg [.vec (nds ns), .vec (eds es), i64 nn, i64 ne], i64 d, .sc (.bool true)] σ (z6i σ es ns nn ne) := by
  have e3 := ym ns
  have c1 := zs5 (σ := σ) (nsC := nds ns) (nn := nn) (ne := ne) (d := d) hl
  refine ZG [35,58] Tryz.func96 Tryz.ntmps96 ?_
  conv => whnf
  repeat' (first | (refine CallN.many c1 ?_; rintro _ ⟨ids, hid, rfl⟩) | refine Zv (fun h => ?_) (fun h => ?_) | refine Zp ?_) <;> try (conv => whnf)
  all_goals
    have e5 := qi ids
    refine LoopN.rule (α := Nat × List Ed) (fun a => ⟨62, [(1, i64 d), (3, .ptr (.f 3) 0), (6, .ptr (.f 6) 0), (8, .vec (zaw ids)), (9, i64 a.1)], [(3, .cells [.vec (nds ns), .vec (eds a.2), i64 nn, i64 ne]), (6, .cells [.nil, .nil, i64 0, i64 0])]⟩)
      (fun _ => σ) (fun a => ids.length - a.1) (fun a => a.1 ≤ ids.length ∧ a.2.length ≤ es.length ∧ ∀ e ∈ a.2, EdTame e) ?_ (0, es) ⟨by simp, Nat.le_refl _, ht⟩ ?_
    · rintro ⟨i, es1⟩ K ⟨i1, i2, i3⟩ hK
      dsimp only at i1 i2 i3 ⊢
      by_cases hi : i < ids.length
      · obtain ⟨d', hg⟩ := z5g hi
        have c2 := fun d => zp2 (σ := σ) (nsC := nds ns) (es := es1) (nn := nn) (ne := ne) (d := d) (by omega) i3
        conv => whnf
        repeat' (first | (refine CallN.many (c2 _) ?_; rintro _ ⟨es2, j1, j2, rfl⟩) | refine Zi ?_ | refine Za ?_ | refine Zm ?_ | refine Zn ?_ | refine Zo ?_ | refine Zp ?_) <;> try (conv => whnf)
        refine hK (i + 1, es2) _ _ ⟨by simp only; omega, by simp only; omega, j2⟩ (by simp only; omega) ?_
        exact ZW
      · conv => whnf
        repeat' (first | (refine AllocN.go (fun l1 hl1 => ?_)) | refine Zb ?_) <;> try (conv => whnf)
        refine LoopN.rule (α := NSt) (fun a => ⟨62, [(1, i64 d), (3, .ptr (.f 3) 0), (6, .ptr (.f 6) 0), (10, .grow a.l a.n a.cap), (11, i64 a.i)], [(3, .cells [.vec (nds ns), .vec (eds es1), i64 nn, i64 ne]), (6, .cells [.nil, .nil, i64 0, i64 0])]⟩)
          (fun a => a.s) (fun a => ns.length - a.i) (fun a => a.i ≤ ns.length ∧ a.n = (nds a.acc).length ∧ a.n ≤ a.i ∧ (∀ n ∈ a.acc, NdTame n) ∧ Sub σ a.s ∧ σ a.l = none ∧ a.s a.l = some (.arr 79 3 a.cap (nds a.acc))) ?_
          ⟨0, 0, [], upd σ l1 (.arr 79 3 0 []), l1, 0⟩ ⟨Nat.zero_le _, rfl, Nat.le_refl _, by simp, (Sub.refl σ).upd hl1, hl1, za _ _ _⟩ ?_
        · rintro ⟨j, n, acc, s, lx, cap⟩ K ⟨q1, q2, q3, q4, q5, q6, q7⟩ hK
          dsimp only at q1 q2 q3 q4 q5 q6 q7 ⊢
          by_cases hj : j < ns.length
          · obtain ⟨d', ls, ps, hm, hg', hg, _⟩ := kf hj
            have hg : (nds ns)[(j : Int).toNat]? = some (.agg [i64 d', .vec (wq ls), .vec (prs ps)]) := hg
            have ht' : ∀ e ∈ acc ++ [⟨d', ls, ps⟩], NdTame e := fun e he => by
              rcases List.mem_append.1 he with he | he
              · exact q4 e he
              · rw [List.mem_singleton.1 he]; exact htn _ hm
            have eA : (nds acc).take n ++ [.agg [i64 d', .vec (wq ls), .vec (prs ps)]] ++ (nds acc).drop (n + 1) = nds (acc ++ [⟨d', ls, ps⟩]) := (yj q2 _ _).trans (by rw [zfg]; rfl)
            have eB : (nds acc).take n ++ [.agg [i64 d', .vec (wq ls), .vec (prs ps)]] = nds (acc ++ [⟨d', ls, ps⟩]) := (yc q2 _).trans (by rw [zfg]; rfl)
            have eN : n + 1 = (nds (acc ++ [⟨d', ls, ps⟩])).length := by rw [zfg, List.length_append, q2]; rfl
            clear hl1
            conv => whnf
            repeat' (first | (refine AllocC.go (fun l2 cap2 hl2 hcap2 => ?_)) | (refine Need.go ?_ (h := ⟨rfl, by omega, by simp only [List.length_cons, List.length_nil]; omega, by simp only [List.length_cons, List.length_nil]; omega, ElsOk.one rfl rfl⟩)) | refine Za ?_ | refine Zg ?_ | refine Zv (fun h => ?_) (fun h => ?_) | refine Zj ?_ | refine Zm ?_ | refine Zo ?_) <;> try (conv => whnf)
            · refine hK ⟨j + 1, n + 1, acc ++ [⟨d', ls, ps⟩], upd s lx (.arr 79 3 cap (nds (acc ++ [⟨d', ls, ps⟩]))), lx, cap⟩ _ _ ⟨by simp only; omega, eN, by simp only; omega, ht', q5.upd q6, q6, za _ _ _⟩ (by simp only; omega) ?_
              dsimp only
              rw [← eA]
              exact ZW
            · have hσ : σ l2 = none := by
                cases e : σ l2 with
                | none => rfl
                | some ob => rw [q5 _ _ e] at hl2; cases hl2
              refine hK ⟨j + 1, n + 1, acc ++ [⟨d', ls, ps⟩], upd s l2 (.arr 79 3 cap2 (nds (acc ++ [⟨d', ls, ps⟩]))), l2, cap2⟩ _ _ ⟨by simp only; omega, eN, by simp only; omega, ht', q5.upd hσ, hσ, za _ _ _⟩ (by simp only; omega) ?_
              dsimp only
              rw [← eB]
              exact ZW
            · refine hK ⟨j + 1, n, acc, s, lx, cap⟩ _ _ ⟨by simp only; omega, q2, by simp only; omega, q4, q5, q6, q7⟩ (by simp only; omega) ?_
              exact ZW
          · conv => whnf
            repeat' (first | refine Zb ?_ | refine Zr ?_) <;> try (conv => whnf)
            exact ⟨es1, acc, n, lx, cap, s, i2, i3, by rw [ym] at q2; omega, q4, q2, q5, q6, q7, rfl⟩
        · exact ZW
    · exact ZW
end Go.Proofs.YtlamgfimgadnmaaGreat
namespace Go.Proofs.YtlamgfimgadnmaaGreat
open Go Go.CL
theorem ke : CV.strips0 [] = some [] := by simp [CV.strips0]
theorem wm {x x' : CV} {r r' : List CV} (h : CV.strip0 x = some x') (hr : CV.strips0 r = some r') : CV.strips0 (x :: r) = some (x' :: r') := by simp [CV.strips0, h, hr]
theorem zel {cs cs' : List CV} (h : CV.strips0 cs = some cs') : CV.strip0 (.agg cs) = some (.agg cs') := by simp [CV.strip0, h]
theorem zek : CV.strip0 .nil = some .nil := by simp [CV.strip0]
theorem zli {v : Value} : CV.strip0 (.sc v) = some (.sc v) := by simp [CV.strip0, CV.strip]
theorem zbc {l n c : Nat} : CV.strip0 (.grow l n c) = some (.grow l n c) := by simp [CV.strip0, CV.strip]
theorem zei {xs : List CV} : CV.strip0 (.vec xs) = some (.vec xs) := by simp [CV.strip0, CV.strip]
theorem zbd {d : Nat} {xs : List CV} : CV.strip0 (.avec d xs) = some (.vec xs) := by simp [CV.strip0, CV.strip]
theorem zej {l off : Nat} : CV.strip0 (.ptr (.g l) off) = some (.ptr (.g l) off) := by simp [CV.strip0, CV.strip]
theorem ZT {raw vs : List CV} {v : CV} {σ : Heap} {post : COut → Prop} (h : post (.ret (zez vs) σ)) (hs : CV.strips0 raw = some vs := by repeat' (first | with_reducible exact ke | with_reducible apply wm | ((conv => enter [1, 1]; whnf); first | with_reducible exact ke | with_reducible apply wm | ((with_reducible refine Eq.trans zli ?_); rfl) | ((with_reducible refine Eq.trans zek ?_); rfl) | ((with_reducible refine Eq.trans zbc ?_); rfl) | ((with_reducible refine Eq.trans zei ?_); rfl) | ((with_reducible refine Eq.trans zbd ?_); rfl) | ((with_reducible refine Eq.trans zej ?_); rfl) | with_reducible apply zel))) : Fin raw v σ post := fin0 h hs
end Go.Proofs.YtlamgfimgadnmaaGreat
namespace Go.Proofs.YtlamgfimgadnmaaGreat
open Go Go.CL
set_option maxRecDepth 10000
inductive OC (H : Heap) (T sz : Nat) : CV → List CV → Prop
  | nil : OC H T sz .nil []
  | vec (xs : List CV) : OC H T sz (.vec xs) xs
  | grow (l n cap : Nat) (xs : List CV) (hn : n = xs.length) (h : H l = some (.arr T sz cap xs)) : OC H T sz (.grow l n cap) xs
structure GI (σ : Heap) (l0 : Nat) (s : Heap) (cN cE : CV) (ns : List Nd) (es : List Ed) : Prop where
  sub : Sub σ s
  oN : OC s 79 3 cN (nds ns)
  oE : OC s 32 5 cE (eds es)
  fN : ∀ l n cap, cN = .grow l n cap → σ l = none ∧ l ≠ l0
  fE : ∀ l n cap, cE = .grow l n cap → σ l = none ∧ l ≠ l0
  vN : ∀ xs, cN = .vec xs → False
  dj : ∀ l n cap n' cap', cN = .grow l n cap → cE = .grow l n' cap' → False
  tn : ∀ n ∈ ns, NdTame n
  te : ∀ e ∈ es, EdTame e
theorem OC.put {s : Heap} {T sz T' sz' l cap : Nat} {c : CV} {xs ys : List CV} (h : OC s T sz c xs) (hd : ∀ n cap', c = .grow l n cap' → False) : OC (upd s l (.arr T' sz' cap ys)) T sz c xs := by
  cases h with
  | nil => exact .nil
  | vec _ => exact .vec _
  | grow l' n cap' _ hn h =>
    have : l' ≠ l := fun e => by subst e; exact hd _ _ rfl
    exact .grow l' n cap' _ hn (by rw [zb _ _ this]; exact h)
theorem OC.sub {s s' : Heap} {T sz : Nat} {c : CV} {xs : List CV} (h : OC s T sz c xs) (hs : Sub s s') : OC s' T sz c xs := by
  cases h with
  | nil => exact .nil
  | vec _ => exact .vec _
  | grow l' n cap' _ hn h => exact .grow l' n cap' _ hn (hs _ _ h)
section
variable {σ s : Heap} {l0 lx n cap : Nat} {cN cE : CV} {ns : List Nd} {es : List Ed}
theorem GI.putN (h : GI σ l0 s cN cE ns es) {x : Nd} {xs : List CV} (hx : NdTame x) (hxs : xs = nds ns ++ [x.cv]) (hn : n = xs.length) (f1 : σ lx = none) (f2 : lx ≠ l0) (hd : ∀ n cap, cE = .grow lx n cap → False) : GI σ l0 (upd s lx (.arr 79 3 cap xs)) (.grow lx n cap) cE (ns ++ [x]) es := by
  have e : nds (ns ++ [x]) = xs := by rw [hxs]; simp [nds]
  refine ⟨h.sub.upd f1, by rw [e]; exact .grow _ _ _ _ hn (za _ _ _), h.oE.put hd, fun l n cap e => by cases e; exact ⟨f1, f2⟩, h.fE, fun xs e => (by cases e), fun l n cap n' cap' e1 e2 => by cases e1; exact hd _ _ e2, fun y hy => ?_, h.te⟩
  rcases List.mem_append.1 hy with hy | hy
  · exact h.tn y hy
  · rw [List.mem_singleton.1 hy]; exact hx
theorem GI.putE (h : GI σ l0 s cN cE ns es) {x : Ed} {xs : List CV} (hx : EdTame x) (hxs : xs = eds es ++ [x.cv]) (hn : n = xs.length) (f1 : σ lx = none) (f2 : lx ≠ l0) (hd : ∀ n cap, cN = .grow lx n cap → False) : GI σ l0 (upd s lx (.arr 32 5 cap xs)) cN (.grow lx n cap) ns (es ++ [x]) := by
  have e : eds (es ++ [x]) = xs := by rw [hxs]; simp [eds]
  refine ⟨h.sub.upd f1, h.oN.put hd, by rw [e]; exact .grow _ _ _ _ hn (za _ _ _), h.fN, fun l n cap e => by cases e; exact ⟨f1, f2⟩, h.vN, fun l n cap n' cap' e1 e2 => by cases e2; exact hd _ _ e1, h.tn, fun y hy => ?_⟩
  rcases List.mem_append.1 hy with hy | hy
  · exact h.te y hy
  · rw [List.mem_singleton.1 hy]; exact hx
theorem GI.freshE (h : GI σ l0 s cN cE ns es) (hl : s lx = none) : ∀ n cap, cE = .grow lx n cap → False := by
  intro n cap e
  have := h.oE
  subst e
  cases this with
  | grow _ _ _ _ _ h' => rw [hl] at h'; cases h'
theorem GI.freshN (h : GI σ l0 s cN cE ns es) (hl : s lx = none) : ∀ n cap, cN = .grow lx n cap → False := by
  intro n cap e
  have := h.oN
  subst e
  cases this with
  | grow _ _ _ _ _ h' => rw [hl] at h'; cases h'
end
theorem zqj (ls : List ByteArray) : ElsOk 1 (wq ls) := by
  intro x hx
  unfold wq at hx
  obtain ⟨t, _, rfl⟩ := List.mem_map.1 hx
  exact ⟨rfl, rfl⟩
theorem z2d {H : Heap} {cN cE : CV} {ns : List Nd} {es : List Ed} {nn ne d : Int} (oN : OC H 79 3 cN (nds ns)) (oE : OC H 32 5 cE (eds es)) (hl : ns.length ≤ 1000) (hv : ∀ xs, cN ≠ .vec xs) :
    CRun Tryz.prog 36 [.agg [cN, cE, i64 nn, i64 ne], i64 d] H (fun out => ∃ k, out = .ret (i64 k) H) := by
  have e3 := ym ns
  generalize hxs : nds ns = xs at oN e3
  generalize hys : eds es = ys at oE
  cases oN with
  | nil =>
    cases oE with
    | nil =>
      refine ZX Tryz.func36 Tryz.ntmps36 ?_
      conv => whnf
      repeat' (first | refine Zh ?_ | refine Za ?_ | refine Zb ?_ | refine Zc ?_ | refine Zd ?_ | refine Ze ?_ | refine Zg ?_ | refine Zv (fun h => ?_) (fun h => ?_) | refine Zj ?_ | refine Zk ?_ | refine Zl ?_ | refine Zm ?_ | refine Zn ?_ | refine Zo ?_ | refine Zp ?_ | refine Zq ?_ | refine Zu (fun l hl => ?_) | refine Zr ?_) <;> try (conv => whnf)
      refine LoopN.rule (α := Nat) (fun i => ⟨22, [(2, .ptr (.f 2) 0), (5, i64 0)], [(2, .cells [.nil, .nil, i64 nn, i64 ne])]⟩) (fun _ => H) (fun i => 0) (fun i => True) ?_ 0 trivial ?_
      · intro i K _ hK
        conv => whnf
        repeat' (first | refine Zg ?_ | refine Zr ?_) <;> try (conv => whnf)
        exact ⟨_, rfl⟩
      · exact ZW
    | vec _ =>
      refine ZX Tryz.func36 Tryz.ntmps36 ?_
      conv => whnf
      repeat' (first | refine Zh ?_ | refine Za ?_ | refine Zb ?_ | refine Zc ?_ | refine Zd ?_ | refine Ze ?_ | refine Zg ?_ | refine Zv (fun h => ?_) (fun h => ?_) | refine Zj ?_ | refine Zk ?_ | refine Zl ?_ | refine Zm ?_ | refine Zn ?_ | refine Zo ?_ | refine Zp ?_ | refine Zq ?_ | refine Zu (fun l hl => ?_) | refine Zr ?_) <;> try (conv => whnf)
      refine LoopN.rule (α := Nat) (fun i => ⟨22, [(2, .ptr (.f 2) 0), (5, i64 0)], [(2, .cells [.nil, .vec ys, i64 nn, i64 ne])]⟩) (fun _ => H) (fun i => 0) (fun i => True) ?_ 0 trivial ?_
      · intro i K _ hK
        conv => whnf
        repeat' (first | refine Zg ?_ | refine Zr ?_) <;> try (conv => whnf)
        exact ⟨_, rfl⟩
      · exact ZW
    | grow lE mE capE _ hmE gE =>
      refine ZX Tryz.func36 Tryz.ntmps36 ?_
      conv => whnf
      repeat' (first | refine Zh ?_ | refine Za ?_ | refine Zb ?_ | refine Zc ?_ | refine Zd ?_ | refine Ze ?_ | refine Zg ?_ | refine Zv (fun h => ?_) (fun h => ?_) | refine Zj ?_ | refine Zk ?_ | refine Zl ?_ | refine Zm ?_ | refine Zn ?_ | refine Zo ?_ | refine Zp ?_ | refine Zq ?_ | refine Zu (fun l hl => ?_) | refine Zr ?_) <;> try (conv => whnf)
      refine LoopN.rule (α := Nat) (fun i => ⟨22, [(2, .ptr (.f 2) 0), (5, i64 0)], [(2, .cells [.nil, .grow lE mE capE, i64 nn, i64 ne])]⟩) (fun _ => H) (fun i => 0) (fun i => True) ?_ 0 trivial ?_
      · intro i K _ hK
        conv => whnf
        repeat' (first | refine Zg ?_ | refine Zr ?_) <;> try (conv => whnf)
        exact ⟨_, rfl⟩
      · exact ZW
  | vec _ => exact absurd rfl (hv _)
  | grow lN n cap _ hn gN =>
    cases oE with
    | nil =>
      refine ZX Tryz.func36 Tryz.ntmps36 ?_
      conv => whnf
      repeat' (first | refine Zh ?_ | refine Za ?_ | refine Zb ?_ | refine Zc ?_ | refine Zd ?_ | refine Ze ?_ | refine Zg ?_ | refine Zv (fun h => ?_) (fun h => ?_) | refine Zj ?_ | refine Zk ?_ | refine Zl ?_ | refine Zm ?_ | refine Zn ?_ | refine Zo ?_ | refine Zp ?_ | refine Zq ?_ | refine Zu (fun l hl => ?_) | refine Zr ?_) <;> try (conv => whnf)
      refine LoopN.rule (α := Nat) (fun i => ⟨22, [(1, i64 d), (2, .ptr (.f 2) 0), (5, i64 i)], [(2, .cells [.grow lN n cap, .nil, i64 nn, i64 ne])]⟩)
        (fun _ => H) (fun i => n - i) (fun i => i ≤ n) ?_ 0 (by omega) ?_
      · intro i K h1 hK
        try dsimp only at h1 ⊢
        by_cases hi : i < n
        · obtain ⟨d', ls, ps, hm, hg', hg, hd⟩ := kf (l := ns) (i := i) (by omega)
          rw [hxs] at hg
          have hg : xs[(i : Int).toNat]? = some (.agg [i64 d', .vec (wq ls), .vec (prs ps)]) := hg
          conv => whnf
          repeat' (first | refine Za ?_ | refine Zv (fun h => ?_) (fun h => ?_) | refine Zj ?_ | refine Zm ?_ | refine Zo ?_ | refine Zr ?_) <;> try (conv => whnf)
          all_goals first
            | exact ⟨_, rfl⟩
            | (refine hK (i + 1) _ _ (by omega) (by omega) ?_; exact ZW)
        · conv => whnf
          repeat' (first | refine Zb ?_ | refine Zr ?_) <;> try (conv => whnf)
          exact ⟨_, rfl⟩
      · exact ZW
    | vec _ =>
      refine ZX Tryz.func36 Tryz.ntmps36 ?_
      conv => whnf
      repeat' (first | refine Zh ?_ | refine Za ?_ | refine Zb ?_ | refine Zc ?_ | refine Zd ?_ | refine Ze ?_ | refine Zg ?_ | refine Zv (fun h => ?_) (fun h => ?_) | refine Zj ?_ | refine Zk ?_ | refine Zl ?_ | refine Zm ?_ | refine Zn ?_ | refine Zo ?_ | refine Zp ?_ | refine Zq ?_ | refine Zu (fun l hl => ?_) | refine Zr ?_) <;> try (conv => whnf)
      refine LoopN.rule (α := Nat) (fun i => ⟨22, [(1, i64 d), (2, .ptr (.f 2) 0), (5, i64 i)], [(2, .cells [.grow lN n cap, .vec ys, i64 nn, i64 ne])]⟩)
        (fun _ => H) (fun i => n - i) (fun i => i ≤ n) ?_ 0 (by omega) ?_
      · intro i K h1 hK
        try dsimp only at h1 ⊢
        by_cases hi : i < n
        · obtain ⟨d', ls, ps, hm, hg', hg, hd⟩ := kf (l := ns) (i := i) (by omega)
          rw [hxs] at hg
          have hg : xs[(i : Int).toNat]? = some (.agg [i64 d', .vec (wq ls), .vec (prs ps)]) := hg
          conv => whnf
          repeat' (first | refine Za ?_ | refine Zv (fun h => ?_) (fun h => ?_) | refine Zj ?_ | refine Zm ?_ | refine Zo ?_ | refine Zr ?_) <;> try (conv => whnf)
          all_goals first
            | exact ⟨_, rfl⟩
            | (refine hK (i + 1) _ _ (by omega) (by omega) ?_; exact ZW)
        · conv => whnf
          repeat' (first | refine Zb ?_ | refine Zr ?_) <;> try (conv => whnf)
          exact ⟨_, rfl⟩
      · exact ZW
    | grow lE mE capE _ hmE gE =>
      refine ZX Tryz.func36 Tryz.ntmps36 ?_
      conv => whnf
      repeat' (first | refine Zh ?_ | refine Za ?_ | refine Zb ?_ | refine Zc ?_ | refine Zd ?_ | refine Ze ?_ | refine Zg ?_ | refine Zv (fun h => ?_) (fun h => ?_) | refine Zj ?_ | refine Zk ?_ | refine Zl ?_ | refine Zm ?_ | refine Zn ?_ | refine Zo ?_ | refine Zp ?_ | refine Zq ?_ | refine Zu (fun l hl => ?_) | refine Zr ?_) <;> try (conv => whnf)
      refine LoopN.rule (α := Nat) (fun i => ⟨22, [(1, i64 d), (2, .ptr (.f 2) 0), (5, i64 i)], [(2, .cells [.grow lN n cap, .grow lE mE capE, i64 nn, i64 ne])]⟩)
        (fun _ => H) (fun i => n - i) (fun i => i ≤ n) ?_ 0 (by omega) ?_
      · intro i K h1 hK
        try dsimp only at h1 ⊢
        by_cases hi : i < n
        · obtain ⟨d', ls, ps, hm, hg', hg, hd⟩ := kf (l := ns) (i := i) (by omega)
          rw [hxs] at hg
          have hg : xs[(i : Int).toNat]? = some (.agg [i64 d', .vec (wq ls), .vec (prs ps)]) := hg
          conv => whnf
          repeat' (first | refine Za ?_ | refine Zv (fun h => ?_) (fun h => ?_) | refine Zj ?_ | refine Zm ?_ | refine Zo ?_ | refine Zr ?_) <;> try (conv => whnf)
          all_goals first
            | exact ⟨_, rfl⟩
            | (refine hK (i + 1) _ _ (by omega) (by omega) ?_; exact ZW)
        · conv => whnf
          repeat' (first | refine Zb ?_ | refine Zr ?_) <;> try (conv => whnf)
          exact ⟨_, rfl⟩
      · exact ZW
def opn (n l cap : Nat) : CV := match n with
  | 0 => .nil
  | k + 1 => .grow l (k + 1) cap
structure CSt where
  i : Nat
  s : Heap
  l : Nat
  cap : Nat
def z3y (H : Heap) (ns : List Nd) (es : List Ed) (nn ne : Int) (out : COut) : Prop := ∃ s' cN cE, OC s' 79 3 cN (nds ns) ∧ OC s' 32 5 cE (eds es) ∧ (∀ l n cap, cN = .grow l n cap → H l = none) ∧ (∀ l n cap, cE = .grow l n cap → H l = none) ∧
  (∀ xs, cN = .vec xs → False) ∧ (∀ xs, cE = .vec xs → False) ∧ (∀ l n cap n' cap', cN = .grow l n cap → cE = .grow l n' cap' → False) ∧ Sub H s' ∧ out = .ret (.agg [cN, cE, i64 nn, i64 ne]) s'
theorem z4h {a b c : Heap} (h : Sub a b) (k : Sub b c) : Sub a c := fun l o e => k l o (h l o e)
theorem z0s {s : Heap} {T sz n l cap : Nat} {xs : List CV} (hn : n = xs.length) (h : n ≠ 0 → s l = some (.arr T sz cap xs)) : OC s T sz (opn n l cap) xs := by
  cases n with
  | zero =>
    have : xs = [] := List.eq_nil_of_length_eq_zero hn.symm
    subst this; exact .nil
  | succ k => exact .grow _ _ _ _ hn (h (by omega))
theorem zfd {n l cap l' n' cap' : Nat} (h : opn n l cap = .grow l' n' cap') : n ≠ 0 ∧ l = l' := by
  cases n with
  | zero => cases h
  | succ k => cases h; exact ⟨by omega, rfl⟩
theorem zu2 {n l cap : Nat} {xs : List CV} (h : opn n l cap = .vec xs) : False := by
  cases n <;> cases h
theorem zry {H s1 s2 : Heap} {ns : List Nd} {es : List Ed} {nn ne : Int} {i lN capN j lE capE : Nat} (hi : i = ns.length) (hj : j = es.length) (h1 : Sub H s1) (h2 : Sub s1 s2) (hN : i ≠ 0 → H lN = none ∧ s1 lN = some (.arr 79 3 capN (nds ns))) (hE : j ≠ 0 → s1 lE = none ∧ s2 lE = some (.arr 32 5 capE (eds es))) :
    z3y H ns es nn ne (.ret (.agg [opn i lN capN, opn j lE capE, i64 nn, i64 ne]) s2) := by
  refine ⟨s2, _, _, z0s (by rw [ym]; exact hi) (fun h => h2 _ _ (hN h).2), z0s (by rw [ye]; exact hj) (fun h => (hE h).2), fun l n cap e => ?_, fun l n cap e => ?_, fun xs e => zu2 e, fun xs e => zu2 e, fun l n cap n' cap' e1 e2 => ?_, z4h h1 h2, rfl⟩
  · obtain ⟨h0, rfl⟩ := zfd e; exact (hN h0).1
  · obtain ⟨h0, rfl⟩ := zfd e
    cases e : H lE with
    | none => rfl
    | some ob => have := h1 _ _ e; rw [(hE h0).1] at this; cases this
  · obtain ⟨h0, rfl⟩ := zfd e1
    obtain ⟨h3, h4⟩ := zfd e2
    subst h4
    have := (hN h0).2
    rw [(hE h3).1] at this; cases this
theorem ww {H s : Heap} (h : Sub H s) {l : Nat} (hl : s l = none) : H l = none := by
  cases e : H l with
  | none => rfl
  | some ob => rw [h _ _ e] at hl; cases hl
theorem zih {α : Type} {l : List α} {i : Nat} {x : α} (h : l[i]? = some x) : l.take (i + 1) = l.take i ++ [x] := by rw [List.take_add_one, h]; rfl
set_option maxHeartbeats 4000000 in
theorem zy4 {H : Heap} {ns : List Nd} {es : List Ed} {nn ne : Int} (hln : ns.length ≤ 100) (hle : es.length ≤ 100) (htn : ∀ n ∈ ns, NdTame n) (hte : ∀ e ∈ es, EdTame e) :
    CRun Tryz.prog 57 [.agg [.vec (nds ns), .vec (eds es), i64 nn, i64 ne]] H (z3y H ns es nn ne) := by
  have e3 := ym ns
  have e4 := ye es
  refine ZG [38,60] Tryz.func57 Tryz.ntmps57 ?_
  conv => whnf
  repeat' (first | refine Zh ?_ | refine Za ?_ | refine Zb ?_ | refine Zc ?_ | refine Zd ?_ | refine Ze ?_ | refine Zg ?_ | refine Zv (fun h => ?_) (fun h => ?_) | refine Zj ?_ | refine Zk ?_ | refine Zl ?_ | refine Zm ?_ | refine Zn ?_ | refine Zo ?_ | refine Zp ?_ | refine Zq ?_ | refine Zu (fun l hl => ?_) | refine Zr ?_) <;> try (conv => whnf)
  refine LoopN.rule (α := CSt) (fun a => ⟨63, [(1, .ptr (.f 1) 0), (2, .ptr (.f 2) 0), (3, .ptr (.f 3) 0), (4, i64 a.i)], [(1, .cells [.vec (nds ns), .vec (eds es), i64 nn, i64 ne]), (2, .cells [.nil, .nil, i64 0, i64 0]), (3, .cells [opn a.i a.l a.cap, .nil, i64 nn, i64 ne])]⟩)
    (fun a => a.s) (fun a => ns.length - a.i) (fun a => a.i ≤ ns.length ∧ Sub H a.s ∧ (a.i ≠ 0 → H a.l = none ∧ a.s a.l = some (.arr 79 3 a.cap (nds (ns.take a.i))))) ?_ ⟨0, H, 0, 0⟩ ⟨Nat.zero_le _, Sub.refl _, fun h => absurd rfl h⟩ ?_
  · rintro ⟨i, s, lx, cap⟩ K ⟨i1, i2, i3⟩ hK
    dsimp only at i1 i2 i3 ⊢
    by_cases hi : i < ns.length
    · obtain ⟨d', ls, ps, hm, hg', hg, _⟩ := kf hi
      have hg : (nds ns)[(i : Int).toNat]? = some (.agg [i64 d', .vec (wq ls), .vec (prs ps)]) := hg
      have ht := htn _ hm
      have c1 := znb (σ := s) ht.pl (fun p hp => (ht.ps p hp).val)
      have els := zqj ls
      have esl := jk ls
      have hll := ht.ll
      dsimp only at c1 hll
      have eT : nds (ns.take (i + 1)) = nds (ns.take i) ++ [Nd.cv ⟨d', ls, ps⟩] := by rw [zih hg', zfg]
      have eL : i = (nds (ns.take i)).length := by rw [ym, List.length_take]; omega
      clear ht
      cases i with
      | zero =>
        cases ls
        all_goals
          conv => whnf
          repeat' (first | (refine ZC c1 ?_) | (refine AllocC.go (fun l2 cap2 hl2 hcap2 => ?_)) | (refine Need.ap2 ?_ (h := els) (h1 := by simp only [List.length_replicate]; omega) (h3 := by rw [esl]; simp) (h2 := rfl)) | (refine Need.go ?_ (h := ⟨by simp only [List.length_cons, List.length_nil]; omega, by simp only [List.length_cons, List.length_nil]; omega, ElsOk.one rfl rfl⟩)) | refine Zi ?_ | refine Za ?_ | refine Ze ?_ | refine Zg ?_ | refine Zm ?_ | refine Zn ?_ | refine Zo ?_ | refine Zp ?_) <;> try (conv => whnf)
          refine hK ⟨1, upd s l2 (.arr 79 3 cap2 (nds (ns.take (0 + 1)))), l2, cap2⟩ _ _ ⟨by simp only; omega, i2.upd (ww i2 hl2), fun _ => ⟨ww i2 hl2, za _ _ _⟩⟩ (by simp only; omega) ?_
          dsimp only
          rw [eT]
          exact ZW
      | succ k =>
        obtain ⟨j1, j2⟩ := i3 (by omega)
        have eN := eL
        generalize nds (ns.take (k + 1)) = xs at j2 eT eL eN
        cases ls
        all_goals
          conv => whnf
          repeat' (first | (refine ZC c1 ?_) | (refine AllocC.go (fun l2 cap2 hl2 hcap2 => ?_)) | (refine Need.ap2 ?_ (h := els) (h1 := by simp only [List.length_replicate]; omega) (h3 := by rw [esl]; simp) (h2 := rfl)) | (refine Need.go ?_ (h := ⟨rfl, by omega, by simp only [List.length_cons, List.length_nil]; omega, by simp only [List.length_cons, List.length_nil]; omega, ElsOk.one rfl rfl⟩)) | refine Zi ?_ | refine Za ?_ | refine Ze ?_ | refine Zg ?_ | refine Zv (fun h => ?_) (fun h => ?_) | refine Zj ?_ | refine Zm ?_ | refine Zn ?_ | refine Zo ?_ | refine Zp ?_) <;> try (conv => whnf)
          · refine hK ⟨k + 1 + 1, upd s lx (.arr 79 3 cap (nds (ns.take (k + 1 + 1)))), lx, cap⟩ _ _ ⟨by simp only; omega, i2.upd j1, fun _ => ⟨j1, za _ _ _⟩⟩ (by simp only; omega) ?_
            dsimp only
            rw [eT, ← yj eN _ 1]
            exact ZW
          · refine hK ⟨k + 1 + 1, upd s l2 (.arr 79 3 cap2 (nds (ns.take (k + 1 + 1)))), l2, cap2⟩ _ _ ⟨by simp only; omega, i2.upd (ww i2 hl2), fun _ => ⟨ww i2 hl2, za _ _ _⟩⟩ (by simp only; omega) ?_
            dsimp only
            rw [eT, ← yc eN]
            exact ZW
    · have hiN : i = ns.length := by omega
      have eT : ns.take i = ns := List.take_of_length_le (by omega)
      rw [eT] at i3
      cases i with
      | zero =>
        conv => whnf
        repeat' (first | refine Zb ?_) <;> try (conv => whnf)
        refine LoopN.rule (α := CSt) (fun a => ⟨63, [(1, .ptr (.f 1) 0), (2, .ptr (.f 2) 0), (3, .ptr (.f 3) 0), (6, i64 a.i)], [(1, .cells [.vec (nds ns), .vec (eds es), i64 nn, i64 ne]), (2, .cells [.nil, .nil, i64 0, i64 0]), (3, .cells [opn 0 lx cap, opn a.i a.l a.cap, i64 nn, i64 ne])]⟩)
          (fun a => a.s) (fun a => es.length - a.i) (fun a => a.i ≤ es.length ∧ Sub s a.s ∧ (a.i ≠ 0 → s a.l = none ∧ a.s a.l = some (.arr 32 5 a.cap (eds (es.take a.i))))) ?_ ⟨0, s, 0, 0⟩ ⟨Nat.zero_le _, Sub.refl _, fun h => absurd rfl h⟩ ?_
        · rintro ⟨j, s1, ly, capy⟩ K ⟨p1, p2, p3⟩ hK
          dsimp only at p1 p2 p3 ⊢
          by_cases hj : j < es.length
          · obtain ⟨d', kd, a, b, ps, hm, hg', hg, _⟩ := qp hj
            have hg : (eds es)[(j : Int).toNat]? = some (.agg [i64 d', .sc (.string kd), i64 a, i64 b, .vec (prs ps)]) := hg
            have ht := hte _ hm
            have c1 := znb (σ := s1) ht.pl (fun p hp => (ht.ps p hp).val)
            dsimp only at c1
            have eT : eds (es.take (j + 1)) = eds (es.take j) ++ [Ed.cv ⟨d', kd, a, b, ps⟩] := by rw [zih hg', zks]
            have eL : j = (eds (es.take j)).length := by rw [ye, List.length_take]; omega
            clear ht
            cases j with
            | zero =>
              conv => whnf
              repeat' (first | (refine ZC c1 ?_) | (refine AllocC.go (fun l2 cap2 hl2 hcap2 => ?_)) | (refine Need.go ?_ (h := ⟨by simp only [List.length_cons, List.length_nil]; omega, by simp only [List.length_cons, List.length_nil]; omega, ElsOk.one rfl rfl⟩)) | refine Za ?_ | refine Zd ?_ | refine Zm ?_ | refine Zo ?_ | refine Zp ?_) <;> try (conv => whnf)
              refine hK ⟨1, upd s1 l2 (.arr 32 5 cap2 (eds (es.take (0 + 1)))), l2, cap2⟩ _ _ ⟨by simp only; omega, p2.upd (ww p2 hl2), fun _ => ⟨ww p2 hl2, za _ _ _⟩⟩ (by simp only; omega) ?_
              dsimp only
              rw [eT]
              exact ZW
            | succ m =>
              obtain ⟨j1, j2⟩ := p3 (by omega)
              have eN := eL
              generalize eds (es.take (m + 1)) = xs at j2 eT eL eN
              conv => whnf
              repeat' (first | (refine ZC c1 ?_) | (refine AllocC.go (fun l2 cap2 hl2 hcap2 => ?_)) | (refine Need.go ?_ (h := ⟨rfl, by omega, by simp only [List.length_cons, List.length_nil]; omega, by simp only [List.length_cons, List.length_nil]; omega, ElsOk.one rfl rfl⟩)) | refine Za ?_ | refine Zg ?_ | refine Zv (fun h => ?_) (fun h => ?_) | refine Zj ?_ | refine Zm ?_ | refine Zo ?_ | refine Zp ?_) <;> try (conv => whnf)
              · refine hK ⟨m + 1 + 1, upd s1 ly (.arr 32 5 capy (eds (es.take (m + 1 + 1)))), ly, capy⟩ _ _ ⟨by simp only; omega, p2.upd j1, fun _ => ⟨j1, za _ _ _⟩⟩ (by simp only; omega) ?_
                dsimp only
                rw [eT, ← yj eN _ 1]
                exact ZW
              · refine hK ⟨m + 1 + 1, upd s1 l2 (.arr 32 5 cap2 (eds (es.take (m + 1 + 1)))), l2, cap2⟩ _ _ ⟨by simp only; omega, p2.upd (ww p2 hl2), fun _ => ⟨ww p2 hl2, za _ _ _⟩⟩ (by simp only; omega) ?_
                dsimp only
                rw [eT, ← yc eN]
                exact ZW
          · have hjN : j = es.length := by omega
            have eT' : es.take j = es := List.take_of_length_le (by omega)
            rw [eT'] at p3
            cases j
            all_goals
              conv => whnf
              repeat' (first | (refine ZT ?_) | refine Zb ?_) <;> try (conv => whnf)
              exact zry (nn := nn) (ne := ne) hiN hjN i2 p2 i3 p3
        · exact ZW
      | succ k =>
        conv => whnf
        repeat' (first | refine Zb ?_) <;> try (conv => whnf)
        refine LoopN.rule (α := CSt) (fun a => ⟨63, [(1, .ptr (.f 1) 0), (2, .ptr (.f 2) 0), (3, .ptr (.f 3) 0), (6, i64 a.i)], [(1, .cells [.vec (nds ns), .vec (eds es), i64 nn, i64 ne]), (2, .cells [.nil, .nil, i64 0, i64 0]), (3, .cells [opn (k + 1) lx cap, opn a.i a.l a.cap, i64 nn, i64 ne])]⟩)
          (fun a => a.s) (fun a => es.length - a.i) (fun a => a.i ≤ es.length ∧ Sub s a.s ∧ (a.i ≠ 0 → s a.l = none ∧ a.s a.l = some (.arr 32 5 a.cap (eds (es.take a.i))))) ?_ ⟨0, s, 0, 0⟩ ⟨Nat.zero_le _, Sub.refl _, fun h => absurd rfl h⟩ ?_
        · rintro ⟨j, s1, ly, capy⟩ K ⟨p1, p2, p3⟩ hK
          dsimp only at p1 p2 p3 ⊢
          by_cases hj : j < es.length
          · obtain ⟨d', kd, a, b, ps, hm, hg', hg, _⟩ := qp hj
            have hg : (eds es)[(j : Int).toNat]? = some (.agg [i64 d', .sc (.string kd), i64 a, i64 b, .vec (prs ps)]) := hg
            have ht := hte _ hm
            have c1 := znb (σ := s1) ht.pl (fun p hp => (ht.ps p hp).val)
            dsimp only at c1
            have eT : eds (es.take (j + 1)) = eds (es.take j) ++ [Ed.cv ⟨d', kd, a, b, ps⟩] := by rw [zih hg', zks]
            have eL : j = (eds (es.take j)).length := by rw [ye, List.length_take]; omega
            clear ht
            cases j with
            | zero =>
              conv => whnf
              repeat' (first | (refine ZC c1 ?_) | (refine AllocC.go (fun l2 cap2 hl2 hcap2 => ?_)) | (refine Need.go ?_ (h := ⟨by simp only [List.length_cons, List.length_nil]; omega, by simp only [List.length_cons, List.length_nil]; omega, ElsOk.one rfl rfl⟩)) | refine Za ?_ | refine Zd ?_ | refine Zm ?_ | refine Zo ?_ | refine Zp ?_) <;> try (conv => whnf)
              refine hK ⟨1, upd s1 l2 (.arr 32 5 cap2 (eds (es.take (0 + 1)))), l2, cap2⟩ _ _ ⟨by simp only; omega, p2.upd (ww p2 hl2), fun _ => ⟨ww p2 hl2, za _ _ _⟩⟩ (by simp only; omega) ?_
              dsimp only
              rw [eT]
              exact ZW
            | succ m =>
              obtain ⟨j1, j2⟩ := p3 (by omega)
              have eN := eL
              generalize eds (es.take (m + 1)) = xs at j2 eT eL eN
              conv => whnf
              repeat' (first | (refine ZC c1 ?_) | (refine AllocC.go (fun l2 cap2 hl2 hcap2 => ?_)) | (refine Need.go ?_ (h := ⟨rfl, by omega, by simp only [List.length_cons, List.length_nil]; omega, by simp only [List.length_cons, List.length_nil]; omega, ElsOk.one rfl rfl⟩)) | refine Za ?_ | refine Zg ?_ | refine Zv (fun h => ?_) (fun h => ?_) | refine Zj ?_ | refine Zm ?_ | refine Zo ?_ | refine Zp ?_) <;> try (conv => whnf)
              · refine hK ⟨m + 1 + 1, upd s1 ly (.arr 32 5 capy (eds (es.take (m + 1 + 1)))), ly, capy⟩ _ _ ⟨by simp only; omega, p2.upd j1, fun _ => ⟨j1, za _ _ _⟩⟩ (by simp only; omega) ?_
                dsimp only
                rw [eT, ← yj eN _ 1]
                exact ZW
              · refine hK ⟨m + 1 + 1, upd s1 l2 (.arr 32 5 cap2 (eds (es.take (m + 1 + 1)))), l2, cap2⟩ _ _ ⟨by simp only; omega, p2.upd (ww p2 hl2), fun _ => ⟨ww p2 hl2, za _ _ _⟩⟩ (by simp only; omega) ?_
                dsimp only
                rw [eT, ← yc eN]
                exact ZW
          · have hjN : j = es.length := by omega
            have eT' : es.take j = es := List.take_of_length_le (by omega)
            rw [eT'] at p3
            cases j
            all_goals
              conv => whnf
              repeat' (first | (refine ZT ?_) | refine Zb ?_) <;> try (conv => whnf)
              exact zry (nn := nn) (ne := ne) hiN hjN i2 p2 i3 p3
        · exact ZW
  · exact ZW
end Go.Proofs.YtlamgfimgadnmaaGreat
