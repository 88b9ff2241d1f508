/-
  Contracts of the functions that the law reaches.
-/
import Derived.Test.YtlamgfimgadnmaaGreatQ
import Derived.Test.YtlamgfimgadnmaaGreatO
import Derived.Test.YtlamgfimgadnmaaGreatK
set_option linter.unusedVariables false
set_option linter.unusedSimpArgs false
namespace Go.Proofs.YtlamgfimgadnmaaGreat
open Go Go.CL
set_option maxRecDepth 10000
def rowsC (L : List (List Pr)) : List CV := L.map fun r => .vec (prs r)
theorem rowsC_len (L : List (List Pr)) : (rowsC L).length = L.length := by simp [rowsC]
theorem rowsC_snoc (L : List (List Pr)) (r : List Pr) : rowsC (L ++ [r]) = rowsC L ++ [.vec (prs r)] := by simp [rowsC]
structure GJ (σ : Heap) (lo lr lu : Nat) (ob : Ob) (rows : List (List Pr)) (τ : Heap) : Prop where
  sub : ∀ x o, x ≠ lu → σ x = some o → τ x = some o
  rec_ : τ lr = some ob
  us : ∃ m, τ lu = some (.mp false m)
  len : rows.length ≤ 60
  out : (rows = [] ∧ τ lo = some (.cells [.nil])) ∨ ∃ la cap, rows ≠ [] ∧ la ≠ lo ∧ la ≠ lr ∧ la ≠ lu ∧ σ la = none ∧ τ lo = some (.cells [.grow la rows.length cap]) ∧ τ la = some (.arr 51 1 cap (rowsC rows)) ∧ rows.length ≤ cap
theorem gj_put {σ τ τ2 : Heap} {lo lr lu l2 n cap : Nat} {ob B : Ob} {rows rows' : List (List Pr)} {arr : List CV} (h : GJ σ lo lr lu ob rows τ) (b0 : ∀ y, y ≠ lr → τ2 y = τ y) (hB : τ2 lr = some B) (z0 : σ lo = none) (z2 : σ lr = none) (zl : σ l2 = none) (n1 : lr ≠ lo) (n2 : lo ≠ lu) (n3 : lr ≠ lu)
    (a1 : l2 ≠ lo) (a2 : l2 ≠ lr) (a3 : l2 ≠ lu) (hn : n = rows'.length) (ha : arr = rowsC rows') (h0 : rows' ≠ []) (h60 : rows'.length ≤ 60) (hc : n ≤ cap) :
    (upd (upd τ2 l2 (.arr 51 1 cap arr)) lo (.cells [.grow l2 n cap])) lr = some B ∧ GJ σ lo lr lu ob rows' (upd (upd (upd τ2 l2 (.arr 51 1 cap arr)) lo (.cells [.grow l2 n cap])) lr ob) ∧
      (upd (upd (upd τ2 l2 (.arr 51 1 cap arr)) lo (.cells [.grow l2 n cap])) lr ob) lu = τ lu := by
  subst hn; subst ha
  have hu : (upd (upd (upd τ2 l2 (.arr 51 1 cap (rowsC rows'))) lo (.cells [.grow l2 rows'.length cap])) lr ob) lu = τ lu := by
    rw [upd_ne _ _ (Ne.symm n3), upd_ne _ _ (Ne.symm n2), upd_ne _ _ (Ne.symm a3), b0 _ (Ne.symm n3)]
  refine ⟨by rw [upd_ne _ _ n1, upd_ne _ _ (Ne.symm a2)]; exact hB, ⟨fun x o hx ho => ?_, upd_same _ _ _, by obtain ⟨m, hm⟩ := h.us; exact ⟨m, by rw [hu]; exact hm⟩, h60, .inr ⟨l2, cap, h0, a1, a2, a3, zl, ?_, ?_, hc⟩⟩, hu⟩
  · have e1 : x ≠ lr := fun e => by subst e; rw [z2] at ho; cases ho
    have e2 : x ≠ lo := fun e => by subst e; rw [z0] at ho; cases ho
    have e3 : x ≠ l2 := fun e => by subst e; rw [zl] at ho; cases ho
    rw [upd_ne _ _ e1, upd_ne _ _ e2, upd_ne _ _ e3, b0 _ e1]; exact h.sub x o hx ho
  · rw [upd_ne _ _ (Ne.symm n1)]; exact upd_same _ _ _
  · rw [upd_ne _ _ a2, upd_ne _ _ a1]; exact upd_same _ _ _
section
variable {g : Gr} {given : List Pr} {S : List Stp} {lx ln lu : Nat} {ms : List (MK × Value)}
theorem gj_st {σ τ : Heap} {lo lr : Nat} {ob : Ob} {rows : List (List Pr)} (h : GJ σ lo lr lu ob rows τ) (st : WStat g given S lx ln lu ms σ) (xu : lx ≠ lu) (nu : ln ≠ lu) : WStat g given S lx ln lu ms τ := by
  refine ⟨h.sub _ _ xu st.x, h.sub _ _ nu st.n, fun d => ?_⟩
  rcases st.e d with h1 | ⟨j, l, n, cap, h1, h2, h3, h4, h5⟩
  · exact .inl h1
  · exact .inr ⟨j, l, n, cap, h1, h2, h3, h4, h.sub _ _ h4 h5⟩
theorem gj_up {σ τ : Heap} {lo lr : Nat} {ob : Ob} {rows : List (List Pr)} {m' : List (MK × Value)} (h : GJ σ lo lr lu ob rows τ) (n2 : lo ≠ lu) (n3 : lr ≠ lu) : GJ σ lo lr lu ob rows (upd τ lu (.mp false m')) := by
  refine ⟨fun x o hx ho => by rw [upd_ne _ _ hx]; exact h.sub x o hx ho, by rw [upd_ne _ _ n3]; exact h.rec_, ⟨_, upd_same _ _ _⟩, h.len, ?_⟩
  rcases h.out with ⟨h1, h2⟩ | ⟨la, cap, h1, a1, a2, a3, a4, h2, h3, h4⟩
  · exact .inl ⟨h1, by rw [upd_ne _ _ n2]; exact h2⟩
  · exact .inr ⟨la, cap, h1, a1, a2, a3, a4, by rw [upd_ne _ _ n2]; exact h2, by rw [upd_ne _ _ a3]; exact h3, h4⟩
def GatP (σ : Heap) (lu : Nat) (all : List (List Pr)) (out : COut) : Prop := ∃ τ', (∀ x o, x ≠ lu → σ x = some o → τ' x = some o) ∧ ((60 < all.length ∧ out = .pan mPan τ') ∨ (all = [] ∧ out = .ret (.vec []) τ') ∨ ∃ la cap, all ≠ [] ∧ all.length ≤ 60 ∧ σ la = none ∧ τ' la = some (.arr 51 1 cap (rowsC all)) ∧ all.length ≤ cap ∧ out = .ret (.grow la all.length cap) τ')
set_option maxHeartbeats 1000000 in
theorem gather_c {σ : Heap} {l2 l3 : Nat} {row : List Pr} {all : List (List Pr)} (st : WStat g given S lx ln lu ms σ) (us : σ lu = some (.mp false [])) (xu : lx ≠ lu) (nu : ln ≠ lu) (h2 : σ l2 = some (.cells [.ptr (.g lx) 0])) (h3 : σ l3 = some (.cells [.vec (prs row)]))
    (hl : row.length + 2 * S.length ≤ 500) (hall : waysM g S 0 row [] = all) (hW : ∀ lr J KP, WJ g given S lx ln lu ms lr all J KP → WalkC g lx lu lr all J KP S 0) :
    CRun Tryz.prog 43 [.fn (.func 76) [] [.ptr (.g l2) 0, .ptr (.g l3) 0]] σ (GatP σ lu all) := by
  refine crun_ofF (X := G [3,14]) (G_ok _) (G_sat _) (body := bodyOf Tryz.f43) Tryz.func43 rfl (by kernel_rfl) (by kernel_rfl) ?_
  rw [Tryz.ntmps43]
  conv => whnf
  repeat' (first | (refine AllocN.go (fun lo hlo => ?_)) | refine OrdN.one ?_ | refine Fork.yp ?_ | refine Fork.np ?_ | refine Fork.ny ?_ | refine Fork.nn ?_ | refine Fork.yb ?_ | refine Fork.nb ?_ | refine Fork.dp (fun h => ?_) (fun h => ?_) | refine Fork.dn (fun h => ?_) (fun h => ?_) | (refine Fork.mk (fun h => ?_) (fun h => ?_) <;> simp only [decide_eq_true_eq, decide_eq_false_iff_not, Bool.not_eq_true', Bool.not_eq_false', Bool.or_eq_true, Bool.or_eq_false_iff] at h) | refine GetN.go ?_ | refine Need.ap1 ?_ | refine Need.ap0 ?_ | refine Need.go ?_ | refine Need.draw ?_ | refine ElemN.go ?_ | refine ExtN.ext ?_ | refine ExtN.wr ?_ | refine AllocN.go (fun l hl => ?_) | refine finGo ?_) <;> try (conv => whnf)
  refine RngN.pan rfl fun f lr ob hfn hob hlr => ?_
  have n1 : lr ≠ lo := fun e => by subst e; rw [upd_same] at hlr; cases hlr
  have z2 : σ lr = none := by rwa [upd_ne _ _ n1] at hlr
  have n2 : lo ≠ lu := fun e => by subst e; rw [us] at hlo; cases hlo
  have n3 : lr ≠ lu := fun e => by subst e; rw [us] at z2; cases z2
  have start : GJ σ lo lr lu ob [] (upd (upd σ lo (.cells [.nil])) lr ob) := by
    refine ⟨fun x o hx ho => ?_, upd_same _ _ _, ⟨[], by rw [upd_ne _ _ (Ne.symm n3), upd_ne _ _ (Ne.symm n2)]; exact us⟩, Nat.zero_le _, .inl ⟨rfl, by rw [upd_ne _ _ (Ne.symm n1)]; exact upd_same _ _ _⟩⟩
    exact ((((Sub.refl σ).upd hlo).upd z2) x o ho)
  have e2 : (upd (upd σ lo (.cells [.nil])) lr ob) l2 = some (.cells [.ptr (.g lx) 0]) := (((Sub.refl σ).upd hlo).upd z2) _ _ h2
  have e3 : (upd (upd σ lo (.cells [.nil])) lr ob) l3 = some (.cells [.vec (prs row)]) := (((Sub.refl σ).upd hlo).upd z2) _ _ h3
  have eu : (upd (upd σ lo (.cells [.nil])) lr ob) lu = some (.mp false []) := by rw [upd_ne _ _ (Ne.symm n3), upd_ne _ _ (Ne.symm n2)]; exact us
  have wj : WJ g given S lx ln lu ms lr all (GJ σ lo lr lu ob) (fun τ => 60 < all.length ∧ ∀ x o, x ≠ lu → σ x = some o → τ x = some o) := by
    refine ⟨fun h => gj_st h st xu nu, fun h _ => gj_up h n2 n3, fun {pre x r τ} hp hJ => ?_⟩
    have hpl := hJ.len
    have hal : pre.length + 1 ≤ all.length := by rw [← hp]; simp
    have hrec := hJ.rec_
    rw [hob] at hrec
    refine yrun_of (X := G [3,14]) (G_ok _) (G_sat _) hfn hrec rfl rfl rfl ?_
    conv => whnf
    repeat' (first | refine OrdN.one ?_ | refine Fork.yp ?_ | refine Fork.np ?_ | refine Fork.ny ?_ | refine Fork.nn ?_ | refine Fork.yb ?_ | refine Fork.nb ?_ | refine Fork.dp (fun h => ?_) (fun h => ?_) | refine Fork.dn (fun h => ?_) (fun h => ?_) | (refine Fork.mk (fun h => ?_) (fun h => ?_) <;> simp only [decide_eq_true_eq, decide_eq_false_iff_not, Bool.not_eq_true', Bool.not_eq_false', Bool.or_eq_true, Bool.or_eq_false_iff] at h) | refine GetN.go ?_ | refine Need.ap1 ?_ | refine Need.ap0 ?_ | refine Need.go ?_ | refine Need.draw ?_ | refine ElemN.go ?_ | refine ExtN.ext ?_ | refine ExtN.wr ?_ | refine AllocN.go (fun l hl => ?_) | refine finGo ?_) <;> try (conv => whnf)
    refine AsgN.mk hrec fun τ2 hτ2 => ?_
    have b0 : ∀ y, y ≠ lr → τ2 y = τ y := fun y hy => by rw [hτ2, upd_ne _ _ hy]
    have bl := hτ2 ▸ upd_same τ lr _
    have bs : Sub (del σ lu) τ2 := fun y o hy => by
      have y1 : y ≠ lu := fun e => by subst e; rw [del_same] at hy; cases hy
      rw [del_ne _ y1] at hy
      have y2 : y ≠ lr := fun e => by subst e; rw [z2] at hy; cases hy
      rw [b0 _ y2]; exact hJ.sub y o y1 hy
    have bu : ∃ m, τ2 lu = some (.mp false m) := by rw [b0 _ (Ne.symm n3)]; exact hJ.us
    have b3 := b0 lo (Ne.symm n1)
    have hne : pre ++ [x] ≠ [] := by simp
    have fresh : ∀ {l2 : Nat}, τ2 l2 = none → σ l2 = none ∧ l2 ≠ lo ∧ l2 ≠ lr ∧ l2 ≠ lu := by
      intro l2 hl2
      have f3 : l2 ≠ lu := fun e => by subst e; obtain ⟨m, hm⟩ := bu; rw [hm] at hl2; cases hl2
      have f0 : σ l2 = none := by
        have := subNo bs hl2
        rwa [del_ne _ f3] at this
      refine ⟨f0, fun e => ?_, (fun e => by subst e; rw [bl] at hl2; cases hl2), f3⟩
      subst e
      rcases hJ.out with ⟨_, h4⟩ | ⟨la, cap, _, _, _, _, _, h4, _, _⟩
      · rw [← b3] at h4; rw [h4] at hl2; cases hl2
      · rw [← b3] at h4; rw [h4] at hl2; cases hl2
    have bt : ∀ y o, y ≠ lu → σ y = some o → τ2 y = some o := fun y o hy ho => bs y o (by rw [del_ne _ hy]; exact ho)
    have putA := fun (l2 n cap : Nat) (arr : List CV) => gj_put (rows' := pre ++ [x]) (l2 := l2) (n := n) (cap := cap) (arr := arr) hJ b0 bl hlo z2 
    rcases hJ.out with ⟨e0, h4⟩ | ⟨la, cap, e0, m1, m2, m4, m3, h4, h5, h6⟩
    · rw [← b3] at h4
      have arr0 : [CV.vec (prs x)] = rowsC (pre ++ [x]) := by rw [e0]; rfl
      have len0 : 1 = (pre ++ [x]).length := by rw [e0]; rfl
      have l60 : (pre ++ [x]).length ≤ 60 := by rw [← len0]; omega
      clear hτ2 hp
      conv => whnf
      repeat' (first | (refine Need.mk ⟨by simp only [List.length_cons, List.length_nil]; omega, by simp only [List.length_cons, List.length_nil]; omega, ElsOk.one rfl rfl⟩ ?_) | (refine AllocC.go (fun l2 cap2 hl2 hcap2 => ?_)) | (refine GetN.go ?_ (h := h4)) | (refine GetN.go ?_ (h := by exact gotX h4 ‹_›)) | refine OrdN.one ?_ | refine Fork.yp ?_ | refine Fork.np ?_ | refine Fork.ny ?_ | refine Fork.nn ?_ | refine Fork.yb ?_ | refine Fork.nb ?_ | refine Fork.dp (fun h => ?_) (fun h => ?_) | refine Fork.dn (fun h => ?_) (fun h => ?_) | (refine Fork.mk (fun h => ?_) (fun h => ?_) <;> simp only [decide_eq_true_eq, decide_eq_false_iff_not, Bool.not_eq_true', Bool.not_eq_false', Bool.or_eq_true, Bool.or_eq_false_iff] at h) | refine GetN.go ?_ | refine Need.ap1 ?_ | refine Need.ap0 ?_ | refine Need.go ?_ | refine Need.draw ?_ | refine ElemN.go ?_ | refine ExtN.ext ?_ | refine ExtN.wr ?_ | refine AllocN.go (fun l hl => ?_) | refine finGo ?_) <;> try (conv => whnf)
      all_goals
        obtain ⟨f0, f1, f2, f3⟩ := fresh hl2
        have q := putA l2 1 cap2 _ f0 n1 n2 n3 f1 f2 f3 len0 arr0 hne l60 hcap2
        exact RndN.mk q.1 ⟨_, Sub.refl _, .inl ⟨_, hob ▸ q.2.1, hob ▸ q.2.2, rfl⟩⟩
    · have b4 := b0 la m2
      rw [← b3] at h4
      rw [← b4] at h5
      have nml : pre.length + 1 = (pre ++ [x]).length := by simp
      have et : List.take pre.length (rowsC pre) = rowsC pre := List.take_of_length_le (by rw [rowsC_len]; omega)
      have ed : List.drop (pre.length + [CV.vec (prs x)].length) (rowsC pre) = [] := List.drop_eq_nil_of_le (by rw [rowsC_len]; simp)
      have arrN : List.take pre.length (rowsC pre) ++ [CV.vec (prs x)] = rowsC (pre ++ [x]) := by rw [et, rowsC_snoc]
      have arrI : List.take pre.length (rowsC pre) ++ [CV.vec (prs x)] ++ List.drop (pre.length + [CV.vec (prs x)].length) (rowsC pre) = rowsC (pre ++ [x]) := by rw [ed, List.append_nil]; exact arrN
      have hpl2 : pre.length = 60 ∨ pre.length < 60 := by omega
      clear hτ2 hp et ed
      rcases hpl2 with hpe | hpl2
      · rw [hpe] at h4
        conv => whnf
        repeat' (first | (refine GetN.go ?_ (h := h4)) | (refine GetN.go ?_ (h := by exact gotX h4 ‹_›)) | refine OrdN.one ?_ | refine Fork.yp ?_ | refine Fork.np ?_ | refine Fork.ny ?_ | refine Fork.nn ?_ | refine Fork.yb ?_ | refine Fork.nb ?_ | refine Fork.dp (fun h => ?_) (fun h => ?_) | refine Fork.dn (fun h => ?_) (fun h => ?_) | (refine Fork.mk (fun h => ?_) (fun h => ?_) <;> simp only [decide_eq_true_eq, decide_eq_false_iff_not, Bool.not_eq_true', Bool.not_eq_false', Bool.or_eq_true, Bool.or_eq_false_iff] at h) | refine GetN.go ?_ | refine Need.ap1 ?_ | refine Need.ap0 ?_ | refine Need.go ?_ | refine Need.draw ?_ | refine ElemN.go ?_ | refine ExtN.ext ?_ | refine ExtN.wr ?_ | refine AllocN.go (fun l hl => ?_) | refine finGo ?_) <;> try (conv => whnf)
        all_goals exact ⟨_, Sub.refl _, .inr ⟨_, ⟨by omega, bt⟩, rfl⟩⟩
      have l60 : (pre ++ [x]).length ≤ 60 := by rw [← nml]; omega
      conv => whnf
      repeat' (first | (refine Need.mk ⟨rfl, by rw [rowsC_len]; omega, by simp only [List.length_cons, List.length_nil]; omega, by simp only [List.length_cons, List.length_nil]; omega, ElsOk.one rfl rfl⟩ ?_) | (refine AllocC.go (fun l2 cap2 hl2 hcap2 => ?_)) | (refine GetN.go ?_ (h := h4)) | (refine GetN.go ?_ (h := h5)) | (refine GetN.go ?_ (h := by first | exact gotX h4 ‹_› | exact gotY m1 h4)) | refine OrdN.one ?_ | refine Fork.yp ?_ | refine Fork.np ?_ | refine Fork.ny ?_ | refine Fork.nn ?_ | refine Fork.yb ?_ | refine Fork.nb ?_ | refine Fork.dp (fun h => ?_) (fun h => ?_) | refine Fork.dn (fun h => ?_) (fun h => ?_) | (refine Fork.mk (fun h => ?_) (fun h => ?_) <;> simp only [decide_eq_true_eq, decide_eq_false_iff_not, Bool.not_eq_true', Bool.not_eq_false', Bool.or_eq_true, Bool.or_eq_false_iff] at h) | refine GetN.go ?_ | refine Need.ap1 ?_ | refine Need.ap0 ?_ | refine Need.go ?_ | refine Need.draw ?_ | refine ElemN.go ?_ | refine ExtN.ext ?_ | refine ExtN.wr ?_ | refine AllocN.go (fun l hl => ?_) | refine finGo ?_) <;> try (conv => whnf)
      all_goals first
        | (have q := putA la (pre.length + 1) cap _ m3 n1 n2 n3 m1 m2 m4 nml arrI hne l60 (by simpa using h)
           exact RndN.mk q.1 ⟨_, Sub.refl _, .inl ⟨_, hob ▸ q.2.1, hob ▸ q.2.2, rfl⟩⟩)
        | (obtain ⟨f0, f1, f2, f3⟩ := fresh hl2
           have q := putA l2 (pre.length + 1) cap2 _ f0 n1 n2 n3 f1 f2 f3 nml arrN hne l60 hcap2
           exact RndN.mk q.1 ⟨_, Sub.refl _, .inl ⟨_, hob ▸ q.2.1, hob ▸ q.2.2, rfl⟩⟩)
  refine ⟨GJ σ lo lr lu ob all, fun c τ => c = mPan ∧ 60 < all.length ∧ ∀ x o, x ≠ lu → σ x = some o → τ x = some o, ?_, fun τ hJ => hJ.rec_, ?_, ?_⟩
  · have hw : WalkC g lx lu lr all (GJ σ lo lr lu ob) _ S 0 := hW lr _ _ wj
    subst hall
    refine (waysIter_c (l := lr) (l2 := l2) (l3 := l3) (row := row) hw hl e2 e3 start eu).mono ?_
    rintro out (⟨τ', hJ, rfl⟩ | ⟨τ', hK, rfl⟩)
    · exact .inl ⟨_, _, hJ, rfl⟩
    · exact .inr ⟨_, _, ⟨rfl, hK⟩, rfl⟩
  · rintro τ τ' hJ hd
    have d0 : ∀ y, y ≠ lr → τ' y = τ y := fun y hy => by rw [hd, del_ne _ hy]
    have hs' : ∀ y o, y ≠ lu → σ y = some o → τ' y = some o := fun y o hy ho => by
      have : y ≠ lr := fun e => by subst e; rw [z2] at ho; cases ho
      rw [d0 y this]; exact hJ.sub y o hy ho
    have d1 := d0 lo (Ne.symm n1)
    rcases hJ.out with ⟨e0, h4⟩ | ⟨la, cap, e0, m1, m2, m4, m3, h4, h5, h6⟩
    · rw [← d1] at h4
      clear hd d0 d1 hob
      conv => whnf
      repeat' (first | refine OrdN.one ?_ | refine Fork.yp ?_ | refine Fork.np ?_ | refine Fork.ny ?_ | refine Fork.nn ?_ | refine Fork.yb ?_ | refine Fork.nb ?_ | refine Fork.dp (fun h => ?_) (fun h => ?_) | refine Fork.dn (fun h => ?_) (fun h => ?_) | (refine Fork.mk (fun h => ?_) (fun h => ?_) <;> simp only [decide_eq_true_eq, decide_eq_false_iff_not, Bool.not_eq_true', Bool.not_eq_false', Bool.or_eq_true, Bool.or_eq_false_iff] at h) | refine GetN.go ?_ | refine Need.ap1 ?_ | refine Need.ap0 ?_ | refine Need.go ?_ | refine Need.draw ?_ | refine ElemN.go ?_ | refine ExtN.ext ?_ | refine ExtN.wr ?_ | refine AllocN.go (fun l hl => ?_) | refine finGo ?_) <;> try (conv => whnf)
      all_goals exact ⟨_, hs', .inr (.inl ⟨e0, rfl⟩)⟩
    · rw [← d1] at h4
      rw [← d0 la m2] at h5
      clear hd d0 d1 hob
      conv => whnf
      repeat' (first | refine OrdN.one ?_ | refine Fork.yp ?_ | refine Fork.np ?_ | refine Fork.ny ?_ | refine Fork.nn ?_ | refine Fork.yb ?_ | refine Fork.nb ?_ | refine Fork.dp (fun h => ?_) (fun h => ?_) | refine Fork.dn (fun h => ?_) (fun h => ?_) | (refine Fork.mk (fun h => ?_) (fun h => ?_) <;> simp only [decide_eq_true_eq, decide_eq_false_iff_not, Bool.not_eq_true', Bool.not_eq_false', Bool.or_eq_true, Bool.or_eq_false_iff] at h) | refine GetN.go ?_ | refine Need.ap1 ?_ | refine Need.ap0 ?_ | refine Need.go ?_ | refine Need.draw ?_ | refine ElemN.go ?_ | refine ExtN.ext ?_ | refine ExtN.wr ?_ | refine AllocN.go (fun l hl => ?_) | refine finGo ?_) <;> try (conv => whnf)
      all_goals exact ⟨_, hs', .inr (.inr ⟨la, cap, e0, hJ.len, m3, h5, h6, rfl⟩)⟩
  · rintro c τ τ' ⟨rfl, h60, hK⟩ hd
    have hs' : ∀ y o, y ≠ lu → σ y = some o → τ' y = some o := fun y o hy ho => by
      have : y ≠ lr := fun e => by subst e; rw [z2] at ho; cases ho
      rw [hd, del_ne _ this]; exact hK y o hy ho
    exact FinP.pan _ (Sub.refl _) ⟨_, hs', .inl ⟨h60, rfl⟩⟩
end
theorem CRun.asMq {f : FuncId} {args : List CV} {post : COut → Prop} {σ : Heap} {lm : Nat} {es : List (MK × Value)} (h : σ lm = some (.mp true es)) (c : CRun Tryz.prog f args (upd σ lm (.mq true es)) post) : CRun Tryz.prog f args σ post := by
  refine ⟨c.1, fun M own w vals hR h2 h3 => c.2 M own w vals ⟨hR.mem, fun l ob hl => ?_, hR.fresh⟩ h2 h3⟩
  by_cases e : l = lm
  · subst e
    rw [upd_same] at hl
    cases hl
    obtain ⟨ho, fo, hob, hb⟩ := hR.glob l _ h
    refine ⟨ho, fo, ?_, hb⟩
    cases fo with
    | blk b =>
      obtain ⟨arr, a1, a2, a3, a4, a5⟩ := hob
      exact ⟨arr, _, a1, a2, a3, a5⟩
    | row b n cap => exact hob.elim
    | tok s n sz => exact hob.elim
  · rw [upd_ne _ _ e] at hl
    exact hR.glob l ob hl
theorem putM {σ : Heap} {lv lc : Nat} : DRun Tryz.prog (.fn (.func 41) [] [.ptr (.g lv) 0, .ptr (.g lc) 0]) σ none false (· = σ) := by
  refine drun_rec (X := X) X_ok X_sat (rest := _) Tryz.func41 rfl (by kernel_rfl) (by kernel_rfl) rfl rfl rfl rfl rfl rfl ?_
  conv => whnf
  repeat' (first | (refine CallN.one caught_nil ?_) | refine OrdN.one ?_ | refine Fork.yp ?_ | refine Fork.np ?_ | refine Fork.ny ?_ | refine Fork.nn ?_ | refine Fork.yb ?_ | refine Fork.nb ?_ | refine Fork.dp (fun h => ?_) (fun h => ?_) | refine Fork.dn (fun h => ?_) (fun h => ?_) | (refine Fork.mk (fun h => ?_) (fun h => ?_) <;> simp only [decide_eq_true_eq, decide_eq_false_iff_not, Bool.not_eq_true', Bool.not_eq_false', Bool.or_eq_true, Bool.or_eq_false_iff] at h) | refine GetN.go ?_ | refine Need.ap1 ?_ | refine Need.ap0 ?_ | refine Need.go ?_ | refine Need.draw ?_ | refine ElemN.go ?_ | refine ExtN.ext ?_ | refine ExtN.wr ?_ | refine AllocN.go (fun l hl => ?_) | refine finGo ?_) <;> try (conv => whnf)
  all_goals exact ⟨rfl, rfl⟩
theorem putP {σ : Heap} {lv lc : Nat} (hne : ¬ lv = lc) (hv : σ lv = some (.cells [.nil])) (hn : σ lc = some (.cells [i64 0])) :
    DRun Tryz.prog (.fn (.func 41) [] [.ptr (.g lv) 0, .ptr (.g lc) 0]) σ (some mPan) true (· = upd (upd σ lv (.cells [.vec []])) lc (.cells [i64 5])) := by
  refine drun_rec (X := X) X_ok X_sat (rest := _) Tryz.func41 rfl (by kernel_rfl) (by kernel_rfl) rfl rfl rfl rfl rfl rfl ?_
  have h2 : (upd σ lv (.cells [.vec []])) lc = some (.cells [i64 0]) := by rw [upd_ne _ _ (Ne.symm hne)]; exact hn
  conv => whnf
  repeat' (first | (refine CallN.one caught_tr ?_) | refine OrdN.one ?_ | refine Fork.yp ?_ | refine Fork.np ?_ | refine Fork.ny ?_ | refine Fork.nn ?_ | refine Fork.yb ?_ | refine Fork.nb ?_ | refine Fork.dp (fun h => ?_) (fun h => ?_) | refine Fork.dn (fun h => ?_) (fun h => ?_) | (refine Fork.mk (fun h => ?_) (fun h => ?_) <;> simp only [decide_eq_true_eq, decide_eq_false_iff_not, Bool.not_eq_true', Bool.not_eq_false', Bool.or_eq_true, Bool.or_eq_false_iff] at h) | refine GetN.go ?_ | refine Need.ap1 ?_ | refine Need.ap0 ?_ | refine Need.go ?_ | refine Need.draw ?_ | refine ElemN.go ?_ | refine ExtN.ext ?_ | refine ExtN.wr ?_ | refine AllocN.go (fun l hl => ?_) | refine finGo ?_) <;> try (conv => whnf)
  all_goals exact ⟨rfl, rfl⟩
def matsR (all : List (List Pr)) : CV := match Nat.ble all.length 60 with
  | true => .tup [.vec (rowsC all), i64 0]
  | false => .tup [.vec [], i64 5]
theorem matsR_few {all : List (List Pr)} (h : all.length ≤ 60) : matsR all = .tup [.vec (rowsC all), i64 0] := by unfold matsR; rw [Nat.ble_eq_true_of_le h]
theorem matsR_many {all : List (List Pr)} (h : 60 < all.length) : matsR all = .tup [.vec [], i64 5] := by
  unfold matsR
  have : Nat.ble all.length 60 = false := by
    cases hb : Nat.ble all.length 60
    · rfl
    · have := Nat.le_of_ble_eq_true hb; omega
  rw [this]
def MatsP (σ : Heap) (all : List (List Pr)) (out : COut) : Prop := (60 < all.length ∧ ∃ τ, Sub σ τ ∧ out = .ret (.tup [.vec [], i64 5]) τ) ∨ (all = [] ∧ ∃ τ, Sub σ τ ∧ out = .ret (.tup [.vec [], i64 0]) τ) ∨ ∃ la cap τ, all.length ≤ 60 ∧ Sub σ τ ∧ σ la = none ∧ τ la = some (.arr 51 1 cap (rowsC all)) ∧ out = .ret (.tup [.grow la all.length cap, i64 0]) τ
theorem mats_frz {f : FuncId} {args : List CV} {σ : Heap} {all : List (List Pr)} (h : CRun Tryz.prog f args σ (MatsP σ all)) : CRun Tryz.prog f args σ (· = .ret (matsR all) σ) := by
  refine h.freeze fun out ho => ?_
  rcases ho with ⟨h6, τ, hs, rfl⟩ | ⟨h0, τ, hs, rfl⟩ | ⟨la, cap, τ, h6, hs, hl, ha, rfl⟩
  · rw [matsR_many h6]
    exact ⟨.ret (.tup [.vec [], i64 5]) σ, ⟨hs, [], .inr ⟨_, _, rfl, rfl, .cons (.one (.same _)) (.cons (.one (.same _)) .nil)⟩, by simp⟩, rfl⟩
  · subst h0
    exact ⟨.ret (.tup [.vec [], i64 0]) σ, ⟨hs, [], .inr ⟨_, _, rfl, rfl, .cons (.one (.same _)) (.cons (.one (.same _)) .nil)⟩, by simp⟩, rfl⟩
  · rw [matsR_few h6]
    refine ⟨.ret (.tup [.vec (rowsC all), i64 0]) σ, ⟨hs, [la], .inr ⟨_, _, rfl, rfl, .cons (ls := [la]) (ms := []) (.one ?_) (.cons (.one (.same _)) .nil)⟩, fun l' h' => by rw [List.mem_singleton.1 h']; exact hl⟩, rfl⟩
    have := Frz.grow (σ := τ) la all.length cap _ _ _ ha (by rw [rowsC_len]; exact Nat.le_refl _)
    rwa [List.take_of_length_le (by rw [rowsC_len]; exact Nat.le_refl _)] at this
theorem rowsC_at {all : List (List Pr)} {i : Nat} (hi : i < all.length) : ∃ r, r ∈ all ∧ (rowsC all)[i]? = some (.vec (prs r)) := by
  refine ⟨all[i], List.getElem_mem hi, ?_⟩
  unfold rowsC; rw [List.getElem?_map, List.getElem?_eq_getElem hi]; rfl
theorem set_same {xs : List CV} {i : Nat} {x : CV} (h : xs[i]? = some x) : xs.set i x = xs := by
  apply List.ext_getElem?
  intro j
  by_cases e : i = j
  · subst e
    have hi := (List.getElem?_eq_some_iff.1 h).1
    rw [List.getElem?_set_self hi, h]
  · rw [List.getElem?_set_ne e]
theorem wst_sub {g : Gr} {given : List Pr} {S : List Stp} {lx ln lu : Nat} {ms : List (MK × Value)} {σ τ : Heap} (st : WStat g given S lx ln lu ms σ) (h : Sub σ τ) : WStat g given S lx ln lu ms τ := by
  refine ⟨h _ _ st.x, h _ _ st.n, fun d => ?_⟩
  rcases st.e d with h1 | ⟨j, l, n, cap, h1, h2, h3, h4, h5⟩
  · exact .inl h1
  · exact .inr ⟨j, l, n, cap, h1, h2, h3, h4, h _ _ h5⟩
structure MatsG (g : Gr) (ps : List Pth) (all : List (List Pr)) : Prop where
  gt : GrTame g
  ok : graphOk g = true
  k : ps.length ≤ 100
  pf : pthsOk ps = true
  pt : ∀ p ∈ ps, PthT p ∧ PthSh p
  np : ∀ p ∈ ps, NoP p
  nm : (runN (pathN false) ps []).1 = 0
  sl : (outP ps ps.length).length ≤ 200
  al : waysM g (outP ps ps.length) 0 [] [] = all
  rows : ∀ r ∈ all, r.length ≤ 100 ∧ ∀ q ∈ r, Tame q.val ∧ okV 3 q.val = true
set_option maxHeartbeats 2000000 in
theorem matchesG_c {σ : Heap} {g : Gr} {ps : List Pth} {all : List (List Pr)} (H : MatsG g ps all) (hW : ∀ lx ln lu ms lr J KP, WJ g [] (outP ps ps.length) lx ln lu ms lr all J KP → WalkC g lx lu lr all J KP (outP ps ps.length) 0) :
    CRun Tryz.prog 10 [g.cv, .vec [], .vec [], .vec (pths ps)] σ (· = .ret (matsR all) σ) := by
  refine mats_frz ?_
  obtain ⟨gt, ok, hk, pf, pt, np, nm, sl, al, hrows⟩ := H
  have c1 := fun σ => implGraph_c (σ := σ) gt
  rw [ok] at c1
  have c2 := fun σ => cellsOk_c (σ := σ) (ps := []) (by simp) (by simp)
  have c3 := fun σ => pathsForm_c (σ := σ) (by omega) (fun p hp => (pt p hp).1)
  rw [pf] at c3
  have c4 := fun (τ : Heap) (lm : Nat) (h : τ lm = some (.mp true [])) => CRun.asMq (f := 40) h (nPaths_c (τ := upd τ lm (.mq true [])) (lm := lm) (L := []) (upd_same _ _ _) (ps := ps) (cr := false) (by omega) pt)
  rw [nm] at c4
  have c5 := fun σ => matcherOf_c (σ := σ) (given := []) gt hk np
  obtain ⟨ns, es, nn, ne⟩ := g
  generalize outP ps ps.length = S at c5 hW al sl
  refine crun_ofD (X := G [8,9]) (G_ok _) (G_sat _) (body := bodyOf Tryz.f10) Tryz.func10 rfl (by kernel_rfl) (by kernel_rfl) ?_
  rw [Tryz.ntmps10]
  conv => whnf
  repeat' (first | (refine CallN.one (c1 _) ?_) | (refine CallN.one (c2 _) ?_) | (refine CallN.one (c3 _) ?_) | (refine CallN.one (c4 _ _ (upd_same _ _ _)) ?_) | ((have hm0 := h9; refine AllocN.go (fun lm hm => ?_))) | ((have h80 := h8; refine AllocN.go (fun l9 h9 => ?_))) | (refine AllocN.go (fun l8 h8 => ?_)) | (refine LoopN.once (by rfl) (by repeat' (first | exact LocsLe.nil | refine LocsLe.cons _ _ _ ?_ ?_ | exact ObLe.same _ rfl rfl)) ?_) | refine OrdN.go ?_ | refine Fork.yp ?_ | refine Fork.np ?_ | refine Fork.ny ?_ | refine Fork.nn ?_ | refine Fork.yb ?_ | refine Fork.nb ?_ | refine Fork.dp (fun h => ?_) (fun h => ?_) | refine Fork.dn (fun h => ?_) (fun h => ?_) | (refine Fork.mk (fun h => ?_) (fun h => ?_) <;> simp only [decide_eq_true_eq, decide_eq_false_iff_not, Bool.not_eq_true', Bool.not_eq_false', Bool.or_eq_true, Bool.or_eq_false_iff] at h) | refine GetN.go ?_ | refine Need.ap1 ?_ | refine Need.ap0 ?_ | refine Need.go ?_ | refine Need.draw ?_ | refine ElemN.go ?_ | refine ExtN.ext ?_ | refine ExtN.wr ?_ | refine AllocN.go (fun l hl => ?_) | refine finGo ?_) <;> try (conv => whnf)
  conv => whnf
  repeat' (first | ((refine CallN.many (c5 _) ?_; rintro _ ⟨τ1, lx, ln, lu, ms, mI, rfl⟩)) | ((refine CallN.many (ways_c (row := [])) ?_; rintro _ ⟨l2, l3, τ2, hs2, w2, w3, rfl⟩)) | ((refine CallN.many (gather_c (row := []) (wst_sub mI.st hs2) (hs2 _ _ mI.us) mI.xu mI.nu w2 w3 (by simp only [List.length_nil]; omega) al (hW lx ln lu ms)) ?_; rintro _ ⟨τ3, hs3, (⟨h6, rfl⟩ | ⟨e0, rfl⟩ | ⟨la, cap, e0, h6, f0, f1, f2, rfl⟩)⟩)) | refine OrdN.go ?_ | refine Fork.yp ?_ | refine Fork.np ?_ | refine Fork.ny ?_ | refine Fork.nn ?_ | refine Fork.yb ?_ | refine Fork.nb ?_ | refine Fork.dp (fun h => ?_) (fun h => ?_) | refine Fork.dn (fun h => ?_) (fun h => ?_) | (refine Fork.mk (fun h => ?_) (fun h => ?_) <;> simp only [decide_eq_true_eq, decide_eq_false_iff_not, Bool.not_eq_true', Bool.not_eq_false', Bool.or_eq_true, Bool.or_eq_false_iff] at h) | refine GetN.go ?_ | refine Need.ap1 ?_ | refine Need.ap0 ?_ | refine Need.go ?_ | refine Need.draw ?_ | refine ElemN.go ?_ | refine ExtN.ext ?_ | refine ExtN.wr ?_ | refine AllocN.go (fun l hl => ?_) | refine finGo ?_) <;> try (conv => whnf)
  all_goals
    have n89 : l8 ≠ l9 := fun e => by subst e; rw [upd_same] at h9; cases h9
    have n8m : l8 ≠ lm := fun e => by subst e; rw [upd_ne _ _ n89, upd_same] at hm; cases hm
    have n9m : l9 ≠ lm := fun e => by subst e; rw [upd_same] at hm; cases hm
    have z9 := un_upd h9
    have zm := un_upd (un_upd hm)
    have s0 := mI.sub
    have q8 := s0 l8 (.cells [.nil]) (by rw [upd_ne _ _ n8m, upd_ne _ _ n8m, upd_ne _ _ n8m, upd_ne _ _ n89]; exact upd_same _ _ _)
    have q9 := s0 l9 (.cells [i64 0]) (by rw [upd_ne _ _ n9m, upd_ne _ _ n9m, upd_ne _ _ n9m]; exact upd_same _ _ _)
    have fu := mI.fu
    have nu8 : l8 ≠ lu := fun e => by subst e; rw [upd_ne _ _ n8m, upd_ne _ _ n8m, upd_ne _ _ n8m, upd_ne _ _ n89, upd_same] at fu; cases fu
    have nu9 : l9 ≠ lu := fun e => by subst e; rw [upd_ne _ _ n9m, upd_ne _ _ n9m, upd_ne _ _ n9m, upd_same] at fu; cases fu
    have hσ := ((((((Sub.refl σ).upd (o := .cells [.nil]) h8).upd (o := .cells [i64 0]) z9).upd (o := .mp true []) zm).upd (o := .mq true []) zm).upd (o := .mq true (seenS (runN (pathN false) ps []).2)) zm)
    have zu : σ lu = none := subNo hσ fu
    have k8 : τ3 l8 = some (.cells [.nil]) := hs3 _ _ nu8 (hs2 _ _ q8)
    have k9 : τ3 l9 = some (.cells [i64 0]) := hs3 _ _ nu9 (hs2 _ _ q9)
    have s3 : Sub σ τ3 := fun x o hx => hs3 _ _ (fun e => by subst e; rw [zu] at hx; cases hx) (hs2 _ _ (s0 _ _ (hσ _ _ hx)))
    have s2 : Sub σ τ2 := fun x o hx => hs2 _ _ (s0 _ _ (hσ _ _ hx))
    have fin : ∀ V W, Sub σ (upd (upd τ3 l8 V) l9 W) := fun V W => (s3.upd h8).upd z9
    clear s0 hσ fu mI c1 c2 c3 c4 c5 hs2 hs3 q8 q9
  · conv => whnf
    repeat' (first | ((refine ⟨⟨true, _, putP n89 k8 k9, ?_⟩⟩; rintro _ rfl)) | (refine GetN.go ?_ (h := by first | exact k8 | exact upd_same _ _ _ | exact gotY n89 k9 | exact gotY n89 (upd_same _ _ _) | exact gotY (Ne.symm n89) (upd_same _ _ _))) | ((refine ⟨⟨by kernel_rfl, by kernel_rfl⟩, ?_⟩)) | (rw [panFr_look (by simp [givesB]; decide)]) | refine OrdN.go ?_ | refine Fork.yp ?_ | refine Fork.np ?_ | refine Fork.ny ?_ | refine Fork.nn ?_ | refine Fork.yb ?_ | refine Fork.nb ?_ | refine Fork.dp (fun h => ?_) (fun h => ?_) | refine Fork.dn (fun h => ?_) (fun h => ?_) | (refine Fork.mk (fun h => ?_) (fun h => ?_) <;> simp only [decide_eq_true_eq, decide_eq_false_iff_not, Bool.not_eq_true', Bool.not_eq_false', Bool.or_eq_true, Bool.or_eq_false_iff] at h) | refine GetN.go ?_ | refine Need.ap1 ?_ | refine Need.ap0 ?_ | refine Need.go ?_ | refine Need.draw ?_ | refine ElemN.go ?_ | refine ExtN.ext ?_ | refine ExtN.wr ?_ | refine AllocN.go (fun l hl => ?_) | refine finGo ?_) <;> try (conv => whnf)
    all_goals exact .inl ⟨h6, _, fin _ _, rfl⟩
  · subst e0
    conv => whnf
    repeat' (first | (refine LoopN.once (by rfl) (by repeat' (first | exact LocsLe.nil | refine LocsLe.cons _ _ _ ?_ ?_ | exact ObLe.same _ rfl rfl)) ?_) | (refine GetN.go ?_ (h := by first | exact k8 | exact upd_same _ _ _ | exact gotY n89 k9 | exact gotY (Ne.symm n89) (upd_same _ _ _))) | ((refine ⟨⟨false, _, putM, ?_⟩⟩; rintro _ rfl)) | refine OrdN.go ?_ | refine Fork.yp ?_ | refine Fork.np ?_ | refine Fork.ny ?_ | refine Fork.nn ?_ | refine Fork.yb ?_ | refine Fork.nb ?_ | refine Fork.dp (fun h => ?_) (fun h => ?_) | refine Fork.dn (fun h => ?_) (fun h => ?_) | (refine Fork.mk (fun h => ?_) (fun h => ?_) <;> simp only [decide_eq_true_eq, decide_eq_false_iff_not, Bool.not_eq_true', Bool.not_eq_false', Bool.or_eq_true, Bool.or_eq_false_iff] at h) | refine GetN.go ?_ | refine Need.ap1 ?_ | refine Need.ap0 ?_ | refine Need.go ?_ | refine Need.draw ?_ | refine ElemN.go ?_ | refine ExtN.ext ?_ | refine ExtN.wr ?_ | refine AllocN.go (fun l hl => ?_) | refine finGo ?_) <;> try (conv => whnf)
    all_goals exact .inr (.inl ⟨rfl, _, fin _ _, rfl⟩)
  · have e4 := rowsC_len all
    have nla8 : la ≠ l8 := fun e => by subst e; rw [k8] at f1; cases f1
    have nla9 : la ≠ l9 := fun e => by subst e; rw [k9] at f1; cases f1
    refine LoopN.rule (α := Nat) (fun i => ⟨72, [(8, .ptr (.g l8) 0), (9, .ptr (.g l9) 0), (13, .grow la all.length cap), (58, .grow la all.length cap), (59, i64 all.length), (60, i64 i)], []⟩)
      (fun _ => τ3) (fun i => all.length - i) (fun i => i ≤ all.length) ?_ 0 (by omega) ?_
    rotate_left
    · (refine ⟨rfl, ?_, ?_, Sub.refl _⟩ <;> repeat' (first | exact EnvLe.nil | exact LocsLe.nil | refine EnvLe.cons _ _ _ ?_ ?_ | refine LocsLe.cons _ _ _ ?_ ?_ | exact CVle.same _ rfl | exact CVle.vec _ _ | exact CVle.nil | exact CVle.tok _ _ _ rfl rfl | exact ObLe.tok _ _ rfl | exact CVles.nil | refine CVles.cons ?_ ?_ | exact ObLe.same _ rfl rfl | refine ObLe.cells rfl ?_))
    rintro i K i1 hK
    by_cases hi : i < all.length
    · obtain ⟨r, hr, hx⟩ := rowsC_at hi
      have cc := cloneCells_c (σ := τ3) (vl := r) (hrows r hr).2 (hrows r hr).1
      have hsub : Sub τ3 (upd τ3 la (.arr 51 1 cap ((rowsC all).set i (.vec (prs r))))) := by rw [set_same hx, upd_self f1]; exact Sub.refl _
      conv => whnf
      repeat' (first | (refine GetN.go ?_ (h := f1)) | (refine ElemN.go ?_ (h := hx)) | (refine CallN.one cc ?_) | refine OrdN.go ?_ | refine Fork.yp ?_ | refine Fork.np ?_ | refine Fork.ny ?_ | refine Fork.nn ?_ | refine Fork.yb ?_ | refine Fork.nb ?_ | refine Fork.dp (fun h => ?_) (fun h => ?_) | refine Fork.dn (fun h => ?_) (fun h => ?_) | (refine Fork.mk (fun h => ?_) (fun h => ?_) <;> simp only [decide_eq_true_eq, decide_eq_false_iff_not, Bool.not_eq_true', Bool.not_eq_false', Bool.or_eq_true, Bool.or_eq_false_iff] at h) | refine GetN.go ?_ | refine Need.ap1 ?_ | refine Need.ap0 ?_ | refine Need.go ?_ | refine Need.draw ?_ | refine ElemN.go ?_ | refine ExtN.ext ?_ | refine ExtN.wr ?_ | refine AllocN.go (fun l hl => ?_) | refine finGo ?_) <;> try (conv => whnf)
      all_goals
        refine hK (i + 1) _ _ (by omega) (by omega) ?_
        refine Wk.sub ?_ hsub
        (refine ⟨rfl, ?_, ?_, Sub.refl _⟩ <;> repeat' (first | exact EnvLe.nil | exact LocsLe.nil | refine EnvLe.cons _ _ _ ?_ ?_ | refine LocsLe.cons _ _ _ ?_ ?_ | exact CVle.same _ rfl | exact CVle.vec _ _ | exact CVle.nil | exact CVle.tok _ _ _ rfl rfl | exact ObLe.tok _ _ rfl | exact CVles.nil | refine CVles.cons ?_ ?_ | exact ObLe.same _ rfl rfl | refine ObLe.cells rfl ?_))
    · conv => whnf
      repeat' (first | (refine GetN.go ?_ (h := by first | exact k8 | exact upd_same _ _ _ | exact gotY n89 k9 | exact gotY (Ne.symm n89) (upd_same _ _ _))) | ((refine ⟨⟨false, _, putM, ?_⟩⟩; rintro _ rfl)) | refine OrdN.go ?_ | refine Fork.yp ?_ | refine Fork.np ?_ | refine Fork.ny ?_ | refine Fork.nn ?_ | refine Fork.yb ?_ | refine Fork.nb ?_ | refine Fork.dp (fun h => ?_) (fun h => ?_) | refine Fork.dn (fun h => ?_) (fun h => ?_) | (refine Fork.mk (fun h => ?_) (fun h => ?_) <;> simp only [decide_eq_true_eq, decide_eq_false_iff_not, Bool.not_eq_true', Bool.not_eq_false', Bool.or_eq_true, Bool.or_eq_false_iff] at h) | refine GetN.go ?_ | refine Need.ap1 ?_ | refine Need.ap0 ?_ | refine Need.go ?_ | refine Need.draw ?_ | refine ElemN.go ?_ | refine ExtN.ext ?_ | refine ExtN.wr ?_ | refine AllocN.go (fun l hl => ?_) | refine finGo ?_) <;> try (conv => whnf)
      all_goals exact .inr (.inr ⟨la, cap, _, h6, fin _ _, subNo s2 f0, by rw [upd_ne _ _ nla9, upd_ne _ _ nla8]; exact f1, rfl⟩)
theorem of_q {Q : ByteArray → Prop} {l : Nat} {σ : Heap} {bs xs : List CV} {p : Int} (hb : BytesOk bs) (hl : bs.length ≤ 2000) (hp : 0 ≤ p) (hp' : p < 1099511627776) (hx : Each (fun x => ∃ t : ByteArray, x = .sc (.string t) ∧ Q t) xs) (h1 : 1 ≤ xs.length) (h2 : xs.length ≤ 1000) :
    CRun Tryz.prog 23 [.ptr (.g l) 0, .vec xs] (rd σ l bs p) (fun out => ∃ t : ByteArray, Q t ∧ out = .ret (.sc (.string t)) (rd σ l bs (p + 1))) := by
  refine crun_of (X := X) X_ok X_sat (body := bodyOf Tryz.f23) Tryz.func23 rfl (by kernel_rfl) (by kernel_rfl) ?_
  rw [Tryz.ntmps23]
  conv => whnf
  repeat' (first | (refine CallN.many (pick_n hb hl hp hp') ?_; rintro _ ⟨k, hk1, hk2, rfl⟩) | (refine ElemN.any hx.all (by omega) ?_; rintro _ ⟨t, rfl, ht⟩) | refine OrdN.one ?_ | refine Fork.yp ?_ | refine Fork.np ?_ | refine Fork.ny ?_ | refine Fork.nn ?_ | refine Fork.yb ?_ | refine Fork.nb ?_ | refine Fork.dp (fun h => ?_) (fun h => ?_) | refine Fork.dn (fun h => ?_) (fun h => ?_) | (refine Fork.mk (fun h => ?_) (fun h => ?_) <;> simp only [decide_eq_true_eq, decide_eq_false_iff_not, Bool.not_eq_true', Bool.not_eq_false', Bool.or_eq_true, Bool.or_eq_false_iff] at h) | refine GetN.go ?_ | refine Need.ap1 ?_ | refine Need.ap0 ?_ | refine Need.go ?_ | refine Need.draw ?_ | refine ElemN.go ?_ | refine ExtN.ext ?_ | refine ExtN.wr ?_ | refine AllocN.go (fun l hl => ?_) | refine finGo ?_) <;> try (conv => whnf)
  exact ⟨_, ht, rfl⟩
def MayT (t : ByteArray) : Prop := mayN t = true ∧ t.size ≤ 7
theorem may_P : MayT ⟨#[80]⟩ := ⟨by decide, by decide⟩
theorem may_Q : MayT ⟨#[81]⟩ := ⟨by decide, by decide⟩
theorem may_0 : MayT ⟨#[]⟩ := ⟨by decide, by decide⟩
end Go.Proofs.YtlamgfimgadnmaaGreat
