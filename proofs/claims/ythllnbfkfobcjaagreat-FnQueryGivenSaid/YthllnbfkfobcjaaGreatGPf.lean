/-
  Contracts of the functions that the law reaches.
-/
import Derived.Test.YthllnbfkfobcjaaGreatGPc
import Derived.Test.YthllnbfkfobcjaaGreatGPe
import Derived.Test.YthllnbfkfobcjaaGreatGNa
import Derived.Test.YthllnbfkfobcjaaGreatGPd
set_option linter.unusedVariables false
set_option linter.unusedSimpArgs false
namespace Go.Proofs.YthllnbfkfobcjaaGreat
open Go Go.CL
set_option maxRecDepth 10000
mutual
theorem gives_ok : ∀ (e : Exp) {d : Int}, okE d e = true → ∀ x ∈ givesOf (subsE e), nameOk x = true
  | .mk k v s c ps, d, h, x, hx => by
    obtain ⟨h1, h2⟩ := okE_parts2 h
    have e0 : subsE (.mk k v s c ps) = .mk k v s c ps :: subsL ps := by simp only [subsE]
    rw [e0, givesOf_cons, List.mem_append] at hx
    rcases hx with hx | hx
    · have e1 : giveIf (.mk k v s c ps) = if k = 4 then [s] else [] := rfl
      rw [e1] at hx
      split at hx
      · rename_i hk
        rw [List.mem_singleton.1 hx]
        exact h1.nm (.inr (.inr hk))
      · simp at hx
    · exact givesL_ok ps (d := d - 1) h2 x hx
theorem givesL_ok : ∀ (l : List Exp) {d : Int}, (∀ e ∈ l, okE d e = true) → ∀ x ∈ givesOf (subsL l), nameOk x = true
  | [], d, h, x, hx => by simp [subsL, givesOf] at hx
  | e :: r, d, h, x, hx => by
    have e0 : subsL (e :: r) = subsE e ++ subsL r := by simp only [subsL]
    rw [e0, givesOf_app, List.mem_append] at hx
    rcases hx with hx | hx
    · exact gives_ok e (h e (by simp)) x hx
    · exact givesL_ok r (fun e he => h e (by simp [he])) x hx
end
theorem gives_mt {e : Exp} (h : mtE e = true) : givesOf (subsE e) = [] := by
  obtain ⟨k, v, s, c, ps⟩ := e
  simp only [mtE, Bool.and_eq_true, decide_eq_true_eq] at h
  have hp : ps = [] := List.eq_nil_of_length_eq_zero h.2.2.2.2
  have hk := h.1
  subst hp
  have e0 : subsE (.mk k v s c []) = [.mk k v s c []] := by simp [subsE, subsL]
  have e1 : giveIf (.mk k v s c []) = if k = 4 then [s] else [] := rfl
  rw [e0, givesOf_cons, e1, if_neg (by omega)]; rfl
theorem mem_sOf {x : ByteArray} {l : List Exp} : x ∈ sOf l ↔ ∃ e ∈ l, x ∈ givesOf (subsE e) := by
  induction l with
  | nil => simp [sOf, givesOf]
  | cons e r ih => rw [sOf_cons, List.mem_append, ih]; simp
theorem gOf_sOf (l : List Exp) : gOf l = sOf l := rfl
structure ExOk (c : Cl) : Prop where
  a : ∀ e ∈ exprsI c, okE 4 e = true
  e : okE 4 c.e = true ∨ (mtE c.e = true)
  k : c.kind = 3 ∨ c.kind = 4 → okE 4 c.e = true
  m : ¬ (c.kind = 3 ∨ c.kind = 4) → mtE c.e = true
  n : (pathsE c.paths).length ≤ 24
  i : c.items.length ≤ 5
  t : c.tos.length ≤ 5
theorem flat_len {α β : Type} {f : α → List β} {m : Nat} : ∀ (l : List α), (∀ x ∈ l, (f x).length ≤ m) → ((l.map f).flatten).length ≤ l.length * m
  | [], _ => by simp
  | x :: r, h => by
    have h1 := h x (by simp)
    have h2 := flat_len r fun y hy => h y (by simp [hy])
    simp only [List.map_cons, List.flatten_cons, List.length_append, List.length_cons, Nat.add_mul, Nat.one_mul]
    omega
theorem paths_ok {l : List Pth} (h : pthsOk l = true) : (∀ e ∈ pathsE l, okE 4 e = true) ∧ (pathsE l).length ≤ 24 := by
  have hp : ∀ {s : Sp}, spOk s = true → (∀ e ∈ spEs s, okE 4 e = true) ∧ (spEs s).length ≤ 4 := fun {s} h => by
    simp only [spOk, ptsOk, Bool.and_eq_true, decide_eq_true_eq] at h
    refine ⟨fun e he => ?_, by unfold spEs; rw [List.length_map]; exact h.2.2.1⟩
    obtain ⟨p, hp, rfl⟩ := List.mem_map.1 he
    obtain ⟨i, hi, rfl⟩ := List.mem_iff_getElem.1 hp
    have := List.all_eq_true.1 h.2.2.2 i (List.mem_range.2 hi)
    rw [ptAt_of (List.getElem?_eq_getElem hi)] at this
    simp only [Bool.and_eq_true] at this
    exact this.2.1
  simp only [pthsOk, Bool.and_eq_true, decide_eq_true_eq] at h
  have hq : ∀ p ∈ l, (∀ e ∈ pthEs p, okE 4 e = true) ∧ (pthEs p).length ≤ 12 := fun p hp2 => by
    have h1 := List.all_eq_true.1 h.2 p hp2
    simp only [pthOk, Bool.and_eq_true, decide_eq_true_eq] at h1
    have hh : ∀ x ∈ p.hops, (∀ e ∈ hpEs x, okE 4 e = true) ∧ (hpEs x).length ≤ 4 := fun x hx => by
      have h2 := List.all_eq_true.1 h1.2.2 x hx
      simp only [hpOk, Bool.and_eq_true] at h2
      exact hp h2.2.2.2
    have h3 := hp h1.1
    have h4 := flat_len (f := hpEs) (m := 4) p.hops fun x hx => (hh x hx).2
    unfold pthEs
    refine ⟨fun e he => ?_, by rw [List.length_append]; have := h1.2.1; omega⟩
    rcases List.mem_append.1 he with he | he
    · exact h3.1 e he
    · obtain ⟨m, hm, he⟩ := List.mem_flatten.1 he
      obtain ⟨x, hx, rfl⟩ := List.mem_map.1 hm
      exact (hh x hx).1 e he
  have h5 := flat_len (f := pthEs) (m := 12) l fun x hx => (hq x hx).2
  unfold pathsE
  refine ⟨fun e he => ?_, by omega⟩
  obtain ⟨m, hm, he⟩ := List.mem_flatten.1 he
  obtain ⟨x, hx, rfl⟩ := List.mem_map.1 hm
  exact (hq x hx).1 e he
theorem paths_nil {l : List Pth} (h : l.length = 0) : (∀ e ∈ pathsE l, okE 4 e = true) ∧ (pathsE l).length ≤ 24 := by
  rw [List.eq_nil_of_length_eq_zero h]; simp [pathsE]
theorem tos_ok {l : List Tg} (h : tgsOk l = true) : (∀ x ∈ l, okE 4 x.e = true) ∧ l.length ≤ 5 := by
  simp only [tgsOk, Bool.and_eq_true, decide_eq_true_eq] at h
  refine ⟨fun x hx => ?_, h.1.2⟩
  have h1 := List.all_eq_true.1 h.2 x hx
  simp only [tgOk, Bool.and_eq_true] at h1
  exact h1.2.2
theorem items_len {is : List It} {os : List Od} {sk li : Int} (h : rowsOk is os sk li = true) : is.length ≤ 5 := by
  simp only [rowsOk, Bool.and_eq_true, decide_eq_true_eq] at h
  exact h.1.2
theorem exOk_of {c : Cl} (hp : (∀ e ∈ pathsE c.paths, okE 4 e = true) ∧ (pathsE c.paths).length ≤ 24) (hi : (∀ x ∈ c.items, okE 4 x.e = true) ∧ c.items.length ≤ 5) (ht : (∀ x ∈ c.tos, okE 4 x.e = true) ∧ c.tos.length ≤ 5)
    (hk : c.kind = 3 ∨ c.kind = 4 → okE 4 c.e = true) (hm : ¬ (c.kind = 3 ∨ c.kind = 4) → mtE c.e = true) : ExOk c := by
  refine ⟨fun e he => ?_, ?_, hk, hm, hp.2, hi.2, ht.2⟩
  · unfold exprsI exprI at he
    simp only [List.mem_append] at he
    rcases he with he | he | he | he
    · exact hp.1 e he
    · split at he
      · rename_i h; rw [List.mem_singleton.1 he]; exact hk h
      · simp at he
    · obtain ⟨x, hx, rfl⟩ := List.mem_map.1 he; exact hi.1 x hx
    · obtain ⟨x, hx, rfl⟩ := List.mem_map.1 he; exact ht.1 x hx
  · by_cases h : c.kind = 3 ∨ c.kind = 4
    · exact .inl (hk h)
    · exact .inr (hm h)
theorem no_all {α : Type} {l : List α} {P : α → Prop} (h : l.length = 0) : (∀ x ∈ l, P x) ∧ l.length ≤ 5 := ⟨nil_all h, by omega⟩
theorem clOk_ex {c : Cl} (h : clOk c = true) : ExOk c := by
  unfold clOk at h
  split at h
  · rename_i hk
    simp only [Bool.and_eq_true, rB, tB, nB, eB, mB, decide_eq_true_eq] at h
    exact exOk_of (paths_ok h.1) (no_all h.2.1.1) (no_all h.2.2.1) (fun e => by omega) (fun _ => h.2.2.2.2.1)
  · split at h
    · rename_i hk
      simp only [Bool.and_eq_true, pB, rB, tB, nB, eB, mB, decide_eq_true_eq] at h
      exact exOk_of (paths_nil h.2.1) (no_all h.2.2.1.1) (no_all h.2.2.2.1) (fun _ => h.1) (fun e => absurd (.inl hk) e)
    · split at h
      · rename_i hk
        simp only [Bool.and_eq_true, pB, rB, tB, nB, eB, mB, decide_eq_true_eq] at h
        exact exOk_of (paths_nil h.2.2.1) (no_all h.2.2.2.1.1) (no_all h.2.2.2.2.1) (fun _ => h.1) (fun e => absurd (.inr hk) e)
      · split at h
        · rename_i hk
          simp only [Bool.and_eq_true, pB, rB, tB, nB, eB, mB, decide_eq_true_eq] at h
          exact exOk_of (paths_nil h.2.1) ⟨items_ok h.1, items_len h.1⟩ (no_all h.2.2.1) (fun e => by omega) (fun _ => h.2.2.2.2.1)
        · split at h
          · rename_i hk
            simp only [Bool.and_eq_true, pB, rB, tB, nB, eB, mB, decide_eq_true_eq] at h
            exact exOk_of (paths_nil h.2.1) (no_all h.2.2.1.1) (tos_ok h.1) (fun e => by omega) (fun _ => h.2.2.2.2.1)
          · split at h
            · rename_i hk
              simp only [Bool.and_eq_true, pB, rB, tB, nB, eB, mB, decide_eq_true_eq] at h
              exact exOk_of (paths_nil h.2.1) (no_all h.2.2.1.1) (no_all h.2.2.2.1) (fun e => by omega) (fun _ => h.2.2.2.2.1)
            · cases h
theorem mem_S {x : ByteArray} {c : Cl} (h : ExOk c) : x ∈ sOf (exprsS c) ↔ x ∈ gOf (exprsI c) := by
  rw [gOf_sOf]
  unfold exprsS exprsI exprI
  by_cases hk : c.kind = 3 ∨ c.kind = 4
  · rw [if_pos hk]
    simp only [sOf_cons, sOf_app, List.mem_append, show sOf [] = [] from rfl, List.append_nil]
    constructor
    · rintro (h | h | h | h)
      · exact .inr (.inl h)
      · exact .inl h
      · exact .inr (.inr (.inl h))
      · exact .inr (.inr (.inr h))
    · rintro (h | h | h | h)
      · exact .inr (.inl h)
      · exact .inl h
      · exact .inr (.inr (.inl h))
      · exact .inr (.inr (.inr h))
  · rw [if_neg hk]
    simp only [sOf_cons, sOf_app, List.mem_append, gives_mt (h.m hk), show sOf [] = [] from rfl, List.not_mem_nil, false_or]
theorem map_bl_inj : ∀ {a b : List ByteArray}, a.map bl = b.map bl → a = b
  | [], [], _ => rfl
  | [], _ :: _, h => by simp at h
  | _ :: _, [], h => by simp at h
  | x :: a, y :: b, h => by
    simp only [List.map_cons, List.cons.injEq] at h
    rw [bl_inj h.1, map_bl_inj h.2]
theorem fold_same {a b : List ByteArray} (h : ∀ x, x ∈ a ↔ x ∈ b) : a.foldl ins [] = b.foldl ins [] := by
  obtain ⟨a1, a2⟩ := fold_inc a [] (by simp [Inc])
  obtain ⟨b1, b2⟩ := fold_inc b [] (by simp [Inc])
  have hm : ∀ (l : List ByteArray), Inc l → (l.map bl).Pairwise (· < ·) := fun l hl => List.pairwise_map.2 hl
  have := inc_uniq _ _ (hm _ a1) (hm _ b1) fun x => by
    simp only [List.mem_map]
    constructor
    · rintro ⟨y, hy, rfl⟩; exact ⟨y, (b2 y).2 (by have := (a2 y).1 hy; simp only [List.not_mem_nil, false_or] at this ⊢; exact (h y).1 this), rfl⟩
    · rintro ⟨y, hy, rfl⟩; exact ⟨y, (a2 y).2 (by have := (b2 y).1 hy; simp only [List.not_mem_nil, false_or] at this ⊢; exact (h y).2 this), rfl⟩
  exact map_bl_inj this
theorem gC_sC : ∀ {q : List Cl}, (∀ c ∈ q, ExOk c) → ∀ x, x ∈ gC q ↔ x ∈ sC q
  | [], _, x => by simp [gC, gOf, sC, sOf, givesOf]
  | c :: r, h, x => by
    rw [gC_cons, sC_cons, List.mem_append, List.mem_append, mem_S (h c (by simp)), gC_sC (fun c hc => h c (by simp [hc]))]
theorem exI_len {c : Cl} (h : ExOk c) : (exprsI c).length ≤ 35 := by
  have h1 := h.n
  have h2 := h.i
  have h3 := h.t
  unfold exprsI exprI
  split <;> simp only [List.length_append, List.length_map, List.length_cons, List.length_nil] <;> omega
theorem exS_len {c : Cl} (h : ExOk c) : (exprsS c).length ≤ 35 := by
  have h1 := h.n
  have h2 := h.i
  have h3 := h.t
  unfold exprsS
  simp only [List.length_cons, List.length_append, List.length_map]; omega
theorem sOf_len {l : List Exp} (h : ∀ e ∈ l, (subsE e).length ≤ 1000) : (sOf l).length ≤ l.length * 1000 := by
  induction l with
  | nil => simp [sOf, givesOf]
  | cons e r ih =>
    have h1 := givesOf_len (subsE e)
    have h2 := h e (by simp)
    have h3 := ih fun x hx => h x (by simp [hx])
    rw [sOf_cons, List.length_append, List.length_cons, Nat.add_mul]; omega
theorem exS_sh {c : Cl} (h : ExOk c) : ∀ e ∈ exprsS c, (subsE e).length ≤ 1000 := by
  intro e he
  unfold exprsS at he
  rcases List.mem_cons.1 he with rfl | he
  · rcases h.e with h1 | h1
    · exact ok_sh h1
    · exact mt_sh h1
  · refine ok_sh (h.a e ?_)
    unfold exprsI
    simp only [List.mem_append] at he ⊢
    rcases he with he | he | he
    · exact .inl he
    · exact .inr (.inr (.inl he))
    · exact .inr (.inr (.inr he))
theorem gC_len : ∀ {q : List Cl}, (∀ c ∈ q, ExOk c) → (gC q).length ≤ q.length * 35000
  | [], _ => by simp [gC, gOf, givesOf]
  | c :: r, h => by
    have h1 := gC_len (q := r) fun c hc => h c (by simp [hc])
    have hc := h c (by simp)
    have h2 := sOf_len (l := exprsI c) fun e he => ok_sh (hc.a e he)
    have h3 := exI_len hc
    rw [gC_cons, gOf_sOf, List.length_append, List.length_cons, Nat.add_mul]; omega
theorem sC_len : ∀ {q : List Cl}, (∀ c ∈ q, ExOk c) → (sC q).length ≤ q.length * 35000
  | [], _ => by simp [sC, sOf, givesOf]
  | c :: r, h => by
    have h1 := sC_len (q := r) fun c hc => h c (by simp [hc])
    have hc := h c (by simp)
    have h2 := sOf_len (l := exprsS c) (exS_sh hc)
    have h3 := exS_len hc
    rw [sC_cons, List.length_append, List.length_cons, Nat.add_mul]; omega
theorem gC_ok : ∀ {q : List Cl}, (∀ c ∈ q, ExOk c) → ∀ x ∈ gC q, nameOk x = true
  | [], _, x, hx => by simp [gC, gOf, givesOf] at hx
  | c :: r, h, x, hx => by
    rw [gC_cons, List.mem_append] at hx
    rcases hx with hx | hx
    · rw [gOf_sOf, mem_sOf] at hx
      obtain ⟨e, he, hx⟩ := hx
      exact gives_ok e ((h c (by simp)).a e he) x hx
    · exact gC_ok (fun c hc => h c (by simp [hc])) x hx
theorem stsB_get {l : List ByteArray} {i : Nat} (hi : i < l.length) : ∃ x, l[i]? = some x ∧ (sts l)[i]? = some (.sc (.string x)) := ⟨l[i], List.getElem?_eq_getElem hi, by unfold sts; rw [List.getElem?_map, List.getElem?_eq_getElem hi]; rfl⟩
theorem asTextB_c {σ : Heap} {a b : List ByteArray} (ha : a.length ≤ 1000000) (hb : b.length ≤ 1000000) : CRun Tryz.prog 12 [.vec (sts a), .vec (sts b)] σ (· = .ret (.sc (.bool (decide (a = b)))) σ) := by
  have ea := sts_len a
  have eb := sts_len b
  refine crun_of (X := X) X_ok X_sat (body := bodyOf Tryz.f12) Tryz.func12 rfl (by kernel_rfl) (by kernel_rfl) ?_
  rw [Tryz.ntmps12]
  by_cases hl : a.length = b.length
  case neg =>
    conv => whnf
    repeat' (first | refine OrdN.one ?_ | refine Fork.yp ?_ | refine Fork.np ?_ | refine Fork.ny ?_ | refine Fork.nn ?_ | refine Fork.yb ?_ | refine Fork.nb ?_ | refine Fork.dp (fun h => ?_) (fun h => ?_) | refine Fork.dn (fun h => ?_) (fun h => ?_) | (refine Fork.mk (fun h => ?_) (fun h => ?_) <;> simp only [decide_eq_true_eq, decide_eq_false_iff_not, Bool.not_eq_true', Bool.not_eq_false', Bool.or_eq_true, Bool.or_eq_false_iff] at h) | refine GetN.go ?_ | refine Need.ap1 ?_ | refine Need.ap0 ?_ | refine Need.go ?_ | refine Need.draw ?_ | refine ElemN.go ?_ | refine ExtN.ext ?_ | refine ExtN.wr ?_ | refine AllocN.go (fun l hl => ?_) | refine finGo ?_) <;> try (conv => whnf)
    all_goals exact ansB (decide_eq_false fun e => hl (by rw [e]))
  conv => whnf
  repeat' (first | refine OrdN.one ?_ | refine Fork.yp ?_ | refine Fork.np ?_ | refine Fork.ny ?_ | refine Fork.nn ?_ | refine Fork.yb ?_ | refine Fork.nb ?_ | refine Fork.dp (fun h => ?_) (fun h => ?_) | refine Fork.dn (fun h => ?_) (fun h => ?_) | (refine Fork.mk (fun h => ?_) (fun h => ?_) <;> simp only [decide_eq_true_eq, decide_eq_false_iff_not, Bool.not_eq_true', Bool.not_eq_false', Bool.or_eq_true, Bool.or_eq_false_iff] at h) | refine GetN.go ?_ | refine Need.ap1 ?_ | refine Need.ap0 ?_ | refine Need.go ?_ | refine Need.draw ?_ | refine ElemN.go ?_ | refine ExtN.ext ?_ | refine ExtN.wr ?_ | refine AllocN.go (fun l hl => ?_) | refine finGo ?_) <;> try (conv => whnf)
  refine LoopN.rule (α := Nat) (fun i => ⟨26, [(0, .vec (sts a)), (1, .vec (sts b)), (4, .sc (.bool false)), (5, i64 i)], []⟩)
    (fun _ => σ) (fun i => a.length - i) (fun i => i ≤ a.length ∧ a.take i = b.take i) ?_ 0 ⟨by omega, by simp⟩ ?_
  rotate_left
  · (refine ⟨rfl, ?_, ?_, Sub.refl _⟩ <;> repeat' (first | exact EnvLe.nil | exact LocsLe.nil | refine EnvLe.cons _ _ _ ?_ ?_ | refine LocsLe.cons _ _ _ ?_ ?_ | exact CVle.same _ rfl | exact CVle.vec _ _ | exact CVle.nil | exact CVle.tok _ _ _ rfl rfl | exact ObLe.tok _ _ rfl | exact CVles.nil | refine CVles.cons ?_ ?_ | exact ObLe.same _ rfl rfl | refine ObLe.cells rfl ?_))
  rintro i K ⟨h1, h2⟩ hK
  dsimp only at h1 h2 ⊢
  by_cases hi : i < a.length
  · obtain ⟨x, hg, hg'⟩ := stsB_get hi
    obtain ⟨y, kg, kg'⟩ := stsB_get (l := b) (i := i) (by omega)
    by_cases hxy : x = y
    · conv => whnf
      repeat' (first | refine OrdN.one ?_ | refine Fork.yp ?_ | refine Fork.np ?_ | refine Fork.ny ?_ | refine Fork.nn ?_ | refine Fork.yb ?_ | refine Fork.nb ?_ | refine Fork.dp (fun h => ?_) (fun h => ?_) | refine Fork.dn (fun h => ?_) (fun h => ?_) | (refine Fork.mk (fun h => ?_) (fun h => ?_) <;> simp only [decide_eq_true_eq, decide_eq_false_iff_not, Bool.not_eq_true', Bool.not_eq_false', Bool.or_eq_true, Bool.or_eq_false_iff] at h) | refine GetN.go ?_ | refine Need.ap1 ?_ | refine Need.ap0 ?_ | refine Need.go ?_ | refine Need.draw ?_ | refine ElemN.go ?_ | refine ExtN.ext ?_ | refine ExtN.wr ?_ | refine AllocN.go (fun l hl => ?_) | refine finGo ?_) <;> try (conv => whnf)
      refine hK (i + 1) _ _ ⟨by omega, ?_⟩ (by omega) ?_
      · rw [List.take_add_one, List.take_add_one, h2, hg, kg, hxy]
      (refine ⟨rfl, ?_, ?_, Sub.refl _⟩ <;> repeat' (first | exact EnvLe.nil | exact LocsLe.nil | refine EnvLe.cons _ _ _ ?_ ?_ | refine LocsLe.cons _ _ _ ?_ ?_ | exact CVle.same _ rfl | exact CVle.vec _ _ | exact CVle.nil | exact CVle.tok _ _ _ rfl rfl | exact ObLe.tok _ _ rfl | exact CVles.nil | refine CVles.cons ?_ ?_ | exact ObLe.same _ rfl rfl | refine ObLe.cells rfl ?_))
    · conv => whnf
      repeat' (first | refine OrdN.one ?_ | refine Fork.yp ?_ | refine Fork.np ?_ | refine Fork.ny ?_ | refine Fork.nn ?_ | refine Fork.yb ?_ | refine Fork.nb ?_ | refine Fork.dp (fun h => ?_) (fun h => ?_) | refine Fork.dn (fun h => ?_) (fun h => ?_) | (refine Fork.mk (fun h => ?_) (fun h => ?_) <;> simp only [decide_eq_true_eq, decide_eq_false_iff_not, Bool.not_eq_true', Bool.not_eq_false', Bool.or_eq_true, Bool.or_eq_false_iff] at h) | refine GetN.go ?_ | refine Need.ap1 ?_ | refine Need.ap0 ?_ | refine Need.go ?_ | refine Need.draw ?_ | refine ElemN.go ?_ | refine ExtN.ext ?_ | refine ExtN.wr ?_ | refine AllocN.go (fun l hl => ?_) | refine finGo ?_) <;> try (conv => whnf)
      all_goals exact ansB (decide_eq_false fun e => hxy (by rw [e, kg] at hg; cases hg; rfl))
  · rw [List.take_of_length_le (by omega), List.take_of_length_le (by omega)] at h2
    conv => whnf
    repeat' (first | refine OrdN.one ?_ | refine Fork.yp ?_ | refine Fork.np ?_ | refine Fork.ny ?_ | refine Fork.nn ?_ | refine Fork.yb ?_ | refine Fork.nb ?_ | refine Fork.dp (fun h => ?_) (fun h => ?_) | refine Fork.dn (fun h => ?_) (fun h => ?_) | (refine Fork.mk (fun h => ?_) (fun h => ?_) <;> simp only [decide_eq_true_eq, decide_eq_false_iff_not, Bool.not_eq_true', Bool.not_eq_false', Bool.or_eq_true, Bool.or_eq_false_iff] at h) | refine GetN.go ?_ | refine Need.ap1 ?_ | refine Need.ap0 ?_ | refine Need.go ?_ | refine Need.draw ?_ | refine ElemN.go ?_ | refine ExtN.ext ?_ | refine ExtN.wr ?_ | refine AllocN.go (fun l hl => ?_) | refine finGo ?_) <;> try (conv => whnf)
    all_goals exact ansB (decide_eq_true h2)
theorem nameOk_szB {t : ByteArray} (h : nameOk t = true) : t.size ≤ 1000000000 := by
  by_cases hs : 1 ≤ t.size ∧ t.size ≤ 8
  · omega
  · rw [nameOk_size hs] at h; cases h
theorem inc_at {N : List ByteArray} (h : Inc N) {i : Nat} (h1 : 1 ≤ i) (h2 : i < N.length) : ∃ q s, (strs N)[((i : Int) - 1).toNat]? = some (.sc (.string q)) ∧ (strs N)[i]? = some (.sc (.string s)) ∧ (!Op.bytesLess q.toList s.toList) = false ∧ s ∈ N := by
  have e1 : ((i : Int) - 1).toNat = i - 1 := by omega
  have h3 : i - 1 < N.length := by omega
  refine ⟨N[i - 1], N[i], ?_, ?_, ?_, List.getElem_mem h2⟩
  · rw [e1]; unfold strs; rw [List.getElem?_map, List.getElem?_eq_getElem h3]; rfl
  · unfold strs; rw [List.getElem?_map, List.getElem?_eq_getElem h2]; rfl
  · have := List.pairwise_iff_getElem.1 h (i - 1) i h3 h2 (by omega)
    have h4 := lt_bl N[i - 1] N[i]
    unfold lt at h4
    rw [h4, decide_eq_true this]; rfl
theorem strs_at0 {N : List ByteArray} (h2 : 0 < N.length) : ∃ s, (strs N)[0]? = some (.sc (.string s)) ∧ s ∈ N := ⟨N[0], by unfold strs; rw [List.getElem?_map, List.getElem?_eq_getElem h2]; rfl, List.getElem_mem h2⟩
theorem iGiven_0 {σ : Heap} {q : List Cl} {k : Int} (hk : ¬ k = 0) (ck : CRun Tryz.prog 18 [.vec (cls q)] σ (· = .ret (i64 k) σ)) : CRun Tryz.prog 28 [.vec (cls q)] σ (· = .ret (.vec []) σ) := by
  refine crun_ofF (X := G [3,5,7,35]) (G_ok _) (G_sat _) (body := bodyOf Tryz.f28) Tryz.func28 rfl (by kernel_rfl) (by kernel_rfl) ?_
  rw [Tryz.ntmps28]
  conv => whnf
  repeat' (first | (refine CallN.one ck ?_) | refine OrdN.one ?_ | refine Fork.yp ?_ | refine Fork.np ?_ | refine Fork.ny ?_ | refine Fork.nn ?_ | refine Fork.yb ?_ | refine Fork.nb ?_ | refine Fork.dp (fun h => ?_) (fun h => ?_) | refine Fork.dn (fun h => ?_) (fun h => ?_) | (refine Fork.mk (fun h => ?_) (fun h => ?_) <;> simp only [decide_eq_true_eq, decide_eq_false_iff_not, Bool.not_eq_true', Bool.not_eq_false', Bool.or_eq_true, Bool.or_eq_false_iff] at h) | refine GetN.go ?_ | refine Need.ap1 ?_ | refine Need.ap0 ?_ | refine Need.go ?_ | refine Need.draw ?_ | refine ElemN.go ?_ | refine ExtN.ext ?_ | refine ExtN.wr ?_ | refine AllocN.go (fun l hl => ?_) | refine finGo ?_) <;> try (conv => whnf)
  all_goals rfl
set_option maxHeartbeats 4000000 in
theorem lawQGiven {σ : Heap} {bs : List CV} (hb : BytesOk bs) : CRun Tryz.prog 7 [.vec bs] σ Yes := by
  refine crun_of (X := X) X_ok X_sat (body := bodyOf Tryz.f7) Tryz.func7 rfl (by kernel_rfl) (by kernel_rfl) ?_
  rw [Tryz.ntmps7]
  by_cases h2 : 1048576 < bs.length
  · conv => whnf
    repeat' (first | refine OrdN.one ?_ | refine Fork.yp ?_ | refine Fork.np ?_ | refine Fork.ny ?_ | refine Fork.nn ?_ | refine Fork.yb ?_ | refine Fork.nb ?_ | refine Fork.dp (fun h => ?_) (fun h => ?_) | refine Fork.dn (fun h => ?_) (fun h => ?_) | (refine Fork.mk (fun h => ?_) (fun h => ?_) <;> simp only [decide_eq_true_eq, decide_eq_false_iff_not, Bool.not_eq_true', Bool.not_eq_false', Bool.or_eq_true, Bool.or_eq_false_iff] at h) | refine GetN.go ?_ | refine Need.ap1 ?_ | refine Need.ap0 ?_ | refine Need.go ?_ | refine Need.draw ?_ | refine ElemN.go ?_ | refine ExtN.ext ?_ | refine ExtN.wr ?_ | refine AllocN.go (fun l hl => ?_) | refine finGo ?_) <;> try (conv => whnf)
    exact ⟨_, rfl⟩
  conv => whnf
  repeat' (first | ((refine CallN.many (drawG_c hb (by omega)) ?_; rintro _ ⟨q, σ1, g, h1, h9, rfl⟩)) | refine OrdN.go ?_ | refine Fork.yp ?_ | refine Fork.np ?_ | refine Fork.ny ?_ | refine Fork.nn ?_ | refine Fork.yb ?_ | refine Fork.nb ?_ | refine Fork.dp (fun h => ?_) (fun h => ?_) | refine Fork.dn (fun h => ?_) (fun h => ?_) | (refine Fork.mk (fun h => ?_) (fun h => ?_) <;> simp only [decide_eq_true_eq, decide_eq_false_iff_not, Bool.not_eq_true', Bool.not_eq_false', Bool.or_eq_true, Bool.or_eq_false_iff] at h) | refine GetN.go ?_ | refine Need.ap1 ?_ | refine Need.ap0 ?_ | refine Need.go ?_ | refine Need.draw ?_ | refine ElemN.go ?_ | refine ExtN.ext ?_ | refine ExtN.wr ?_ | refine AllocN.go (fun l hl => ?_) | refine finGo ?_) <;> try (conv => whnf)
  have e3 := cls_len q
  have ci : ∀ τ, CRun Tryz.prog 18 [.vec (cls q)] τ (· = .ret (i64 (checkN q)) τ) := fun τ => iCheck_c (by omega) (fun c hc => (g c hc).t) (fun c hc hk => (clOk_sh hk).1)
  have cs := sCheck_c (σ := σ1) (q := q) (by omega) (fun c hc => (g c hc).t) (fun c hc => (g c hc).o) (fun c hc hk => clOk_sh hk)
  by_cases hk : checkN q = 0
  case neg =>
    have c1 := iGiven_0 (σ := σ1) hk (ci σ1)
    have c2 := sGiven_0 (σ := σ1) h1 (by omega) hk cs
    have c6 := asTextB_c (σ := σ1) (a := []) (b := []) (by simp) (by simp)
    rw [decide_eq_true rfl] at c6
    generalize checkN q = k at cs hk
    conv => whnf
    repeat' (first | (refine CallN.one c1 ?_) | (refine CallN.one c2 ?_) | (refine CallN.one c6 ?_) | refine OrdN.one ?_ | refine Fork.yp ?_ | refine Fork.np ?_ | refine Fork.ny ?_ | refine Fork.nn ?_ | refine Fork.yb ?_ | refine Fork.nb ?_ | refine Fork.dp (fun h => ?_) (fun h => ?_) | refine Fork.dn (fun h => ?_) (fun h => ?_) | (refine Fork.mk (fun h => ?_) (fun h => ?_) <;> simp only [decide_eq_true_eq, decide_eq_false_iff_not, Bool.not_eq_true', Bool.not_eq_false', Bool.or_eq_true, Bool.or_eq_false_iff] at h) | refine GetN.go ?_ | refine Need.ap1 ?_ | refine Need.ap0 ?_ | refine Need.go ?_ | refine Need.draw ?_ | refine ElemN.go ?_ | refine ExtN.ext ?_ | refine ExtN.wr ?_ | refine AllocN.go (fun l hl => ?_) | refine finGo ?_) <;> try (conv => whnf)
    refine LoopN.rule (α := Unit) (fun _ => ⟨54, [(3, .vec (cls q)), (4, .vec []), (5, i64 0)], []⟩) (fun _ => σ1) (fun _ => 0) (fun _ => True) ?_ () trivial ?_
    rotate_left
    · (refine ⟨rfl, ?_, ?_, Sub.refl _⟩ <;> repeat' (first | exact EnvLe.nil | exact LocsLe.nil | refine EnvLe.cons _ _ _ ?_ ?_ | refine LocsLe.cons _ _ _ ?_ ?_ | exact CVle.same _ rfl | exact CVle.vec _ _ | exact CVle.nil | exact CVle.tok _ _ _ rfl rfl | exact ObLe.tok _ _ rfl | exact CVles.nil | refine CVles.cons ?_ ?_ | exact ObLe.same _ rfl rfl | refine ObLe.cells rfl ?_))
    rintro _ K _ hK
    conv => whnf
    repeat' (first | (refine CallN.one cs ?_) | refine OrdN.one ?_ | refine Fork.yp ?_ | refine Fork.np ?_ | refine Fork.ny ?_ | refine Fork.nn ?_ | refine Fork.yb ?_ | refine Fork.nb ?_ | refine Fork.dp (fun h => ?_) (fun h => ?_) | refine Fork.dn (fun h => ?_) (fun h => ?_) | (refine Fork.mk (fun h => ?_) (fun h => ?_) <;> simp only [decide_eq_true_eq, decide_eq_false_iff_not, Bool.not_eq_true', Bool.not_eq_false', Bool.or_eq_true, Bool.or_eq_false_iff] at h) | refine GetN.go ?_ | refine Need.ap1 ?_ | refine Need.ap0 ?_ | refine Need.go ?_ | refine Need.draw ?_ | refine ElemN.go ?_ | refine ExtN.ext ?_ | refine ExtN.wr ?_ | refine AllocN.go (fun l hl => ?_) | refine finGo ?_) <;> try (conv => whnf)
    all_goals exact ⟨_, rfl⟩
  obtain ⟨p1, p2, p3⟩ := check_parts hk
  simp only [clsOk, Bool.and_eq_true, decide_eq_true_eq] at p1
  have hx : ∀ c ∈ q, ExOk c := fun c hc => clOk_ex (List.all_eq_true.1 p1.2 c hc)
  have hlg := gC_len hx
  have hls := sC_len hx
  have h8 := p1.1.2
  have c1 := sout_fin (iGiven_o (σ := σ1) (q := q) (by omega) (fun c hc => (g c hc).t) (fun c hc => by have := exI_len (hx c hc); omega) (by omega) (fun τ => by have := ci τ; rwa [hk] at this))
  rw [hk] at cs
  have c2 := sGiven_c (σ := σ1) (q := q) (by omega) (fun c hc => (g c hc).t) (fun c hc => by have := exS_len (hx c hc); omega) (fun c hc => exS_sh (hx c hc)) (by omega) cs
  rw [← fold_same (gC_sC hx)] at c2
  have hf := fold_inc (gC q) [] (by simp [Inc])
  have hok : ∀ x ∈ (gC q).foldl ins [], nameOk x = true := fun x hxm => by
    have := (hf.2 x).1 hxm
    simp only [List.not_mem_nil, false_or] at this
    exact gC_ok hx x this
  have hinc := hf.1
  have hNl := fold_len (gC q) []
  simp only [List.length_nil] at hNl
  clear hf
  generalize (gC q).foldl ins [] = N at c1 c2 hok hinc hNl
  have e4 := strs_len N
  have c6 : CRun Tryz.prog 12 [.vec (strs N), .vec (strs N)] σ1 (· = .ret (.sc (.bool true)) σ1) := by
    have := asTextB_c (σ := σ1) (a := N) (b := N) (by omega) (by omega)
    rwa [decide_eq_true rfl] at this
  conv => whnf
  repeat' (first | (refine CallN.one c1 ?_) | (refine CallN.one c2 ?_) | (refine CallN.one c6 ?_) | refine OrdN.one ?_ | refine Fork.yp ?_ | refine Fork.np ?_ | refine Fork.ny ?_ | refine Fork.nn ?_ | refine Fork.yb ?_ | refine Fork.nb ?_ | refine Fork.dp (fun h => ?_) (fun h => ?_) | refine Fork.dn (fun h => ?_) (fun h => ?_) | (refine Fork.mk (fun h => ?_) (fun h => ?_) <;> simp only [decide_eq_true_eq, decide_eq_false_iff_not, Bool.not_eq_true', Bool.not_eq_false', Bool.or_eq_true, Bool.or_eq_false_iff] at h) | refine GetN.go ?_ | refine Need.ap1 ?_ | refine Need.ap0 ?_ | refine Need.go ?_ | refine Need.draw ?_ | refine ElemN.go ?_ | refine ExtN.ext ?_ | refine ExtN.wr ?_ | refine AllocN.go (fun l hl => ?_) | refine finGo ?_) <;> try (conv => whnf)
  refine LoopN.rule (α := Nat) (fun i => ⟨54, [(3, .vec (cls q)), (4, .vec (strs N)), (5, i64 i)], []⟩) (fun _ => σ1) (fun i => N.length - i) (fun i => i ≤ N.length) ?_ 0 (by omega) ?_
  rotate_left
  · (refine ⟨rfl, ?_, ?_, Sub.refl _⟩ <;> repeat' (first | exact EnvLe.nil | exact LocsLe.nil | refine EnvLe.cons _ _ _ ?_ ?_ | refine LocsLe.cons _ _ _ ?_ ?_ | exact CVle.same _ rfl | exact CVle.vec _ _ | exact CVle.nil | exact CVle.tok _ _ _ rfl rfl | exact ObLe.tok _ _ rfl | exact CVles.nil | refine CVles.cons ?_ ?_ | exact ObLe.same _ rfl rfl | refine ObLe.cells rfl ?_))
  rintro i K i1 hK
  by_cases hi : i < N.length
  · by_cases h0 : 1 ≤ i
    · obtain ⟨a, s, ha, hs, hlt, hm⟩ := inc_at hinc h0 hi
      have cn := nameOk_c (σ := σ1) (nameOk_szB (hok s hm))
      rw [hok s hm] at cn
      conv => whnf
      repeat' (first | (refine CallN.one cn ?_) | (refine ElemN.go ?_ (h := ha)) | (refine ElemN.go ?_ (h := hs)) | refine OrdN.one ?_ | refine Fork.yp ?_ | refine Fork.np ?_ | refine Fork.ny ?_ | refine Fork.nn ?_ | refine Fork.yb ?_ | refine Fork.nb ?_ | refine Fork.dp (fun h => ?_) (fun h => ?_) | refine Fork.dn (fun h => ?_) (fun h => ?_) | (refine Fork.mk (fun h => ?_) (fun h => ?_) <;> simp only [decide_eq_true_eq, decide_eq_false_iff_not, Bool.not_eq_true', Bool.not_eq_false', Bool.or_eq_true, Bool.or_eq_false_iff] at h) | refine GetN.go ?_ | refine Need.ap1 ?_ | refine Need.ap0 ?_ | refine Need.go ?_ | refine Need.draw ?_ | refine ElemN.go ?_ | refine ExtN.ext ?_ | refine ExtN.wr ?_ | refine AllocN.go (fun l hl => ?_) | refine finGo ?_) <;> try (conv => whnf)
      all_goals first
        | (refine hK (i + 1) _ _ (by omega) (by omega) ?_
           (refine ⟨rfl, ?_, ?_, Sub.refl _⟩ <;> repeat' (first | exact EnvLe.nil | exact LocsLe.nil | refine EnvLe.cons _ _ _ ?_ ?_ | refine LocsLe.cons _ _ _ ?_ ?_ | exact CVle.same _ rfl | exact CVle.vec _ _ | exact CVle.nil | exact CVle.tok _ _ _ rfl rfl | exact ObLe.tok _ _ rfl | exact CVles.nil | refine CVles.cons ?_ ?_ | exact ObLe.same _ rfl rfl | refine ObLe.cells rfl ?_))
           done)
        | (exfalso; omega)
    · have : i = 0 := by omega
      subst this
      obtain ⟨s, hs, hm⟩ := strs_at0 hi
      have cn := nameOk_c (σ := σ1) (nameOk_szB (hok s hm))
      rw [hok s hm] at cn
      conv => whnf
      repeat' (first | (refine CallN.one cn ?_) | (refine ElemN.go ?_ (h := hs)) | refine OrdN.one ?_ | refine Fork.yp ?_ | refine Fork.np ?_ | refine Fork.ny ?_ | refine Fork.nn ?_ | refine Fork.yb ?_ | refine Fork.nb ?_ | refine Fork.dp (fun h => ?_) (fun h => ?_) | refine Fork.dn (fun h => ?_) (fun h => ?_) | (refine Fork.mk (fun h => ?_) (fun h => ?_) <;> simp only [decide_eq_true_eq, decide_eq_false_iff_not, Bool.not_eq_true', Bool.not_eq_false', Bool.or_eq_true, Bool.or_eq_false_iff] at h) | refine GetN.go ?_ | refine Need.ap1 ?_ | refine Need.ap0 ?_ | refine Need.go ?_ | refine Need.draw ?_ | refine ElemN.go ?_ | refine ExtN.ext ?_ | refine ExtN.wr ?_ | refine AllocN.go (fun l hl => ?_) | refine finGo ?_) <;> try (conv => whnf)
      all_goals first
        | (refine hK (0 + 1) _ _ (by omega) (by omega) ?_
           (refine ⟨rfl, ?_, ?_, Sub.refl _⟩ <;> repeat' (first | exact EnvLe.nil | exact LocsLe.nil | refine EnvLe.cons _ _ _ ?_ ?_ | refine LocsLe.cons _ _ _ ?_ ?_ | exact CVle.same _ rfl | exact CVle.vec _ _ | exact CVle.nil | exact CVle.tok _ _ _ rfl rfl | exact ObLe.tok _ _ rfl | exact CVles.nil | refine CVles.cons ?_ ?_ | exact ObLe.same _ rfl rfl | refine ObLe.cells rfl ?_))
           done)
        | (exfalso; omega)
  · conv => whnf
    repeat' (first | (refine CallN.one cs ?_) | refine OrdN.one ?_ | refine Fork.yp ?_ | refine Fork.np ?_ | refine Fork.ny ?_ | refine Fork.nn ?_ | refine Fork.yb ?_ | refine Fork.nb ?_ | refine Fork.dp (fun h => ?_) (fun h => ?_) | refine Fork.dn (fun h => ?_) (fun h => ?_) | (refine Fork.mk (fun h => ?_) (fun h => ?_) <;> simp only [decide_eq_true_eq, decide_eq_false_iff_not, Bool.not_eq_true', Bool.not_eq_false', Bool.or_eq_true, Bool.or_eq_false_iff] at h) | refine GetN.go ?_ | refine Need.ap1 ?_ | refine Need.ap0 ?_ | refine Need.go ?_ | refine Need.draw ?_ | refine ElemN.go ?_ | refine ExtN.ext ?_ | refine ExtN.wr ?_ | refine AllocN.go (fun l hl => ?_) | refine finGo ?_) <;> try (conv => whnf)
    all_goals exact ⟨_, rfl⟩
end Go.Proofs.YthllnbfkfobcjaaGreat
