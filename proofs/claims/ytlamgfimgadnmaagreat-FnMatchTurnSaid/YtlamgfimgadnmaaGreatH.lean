/-
  Contracts of the functions that the law reaches.
-/
import Derived.Test.YtlamgfimgadnmaaGreatG
set_option linter.unusedVariables false
set_option linter.unusedSimpArgs false
namespace Go.CL
open Go
theorem Rg.mq {M : Mem} {own : Owns} {σ : Heap} {w : World} {l : Nat} {s : Bool} {es : List (MK × Value)} (h : Rg M own σ w) (hl : σ l = some (.mp s es)) : Rg M own (upd σ l (.mq s es)) w := by
  refine ⟨h.mem, fun x ob hx => ?_, h.fresh⟩
  by_cases e : x = l
  · subst e
    rw [upd_same] at hx; cases hx
    obtain ⟨ho, fo, hr, hb⟩ := h.glob x _ hl
    refine ⟨ho, fo, ?_, hb⟩
    cases fo with
    | blk b => obtain ⟨arr, h1, h2, h3, h4, h5⟩ := hr; exact ⟨arr, _, h1, h2, h3, h5⟩
    | row b n cap => exact hr.elim
    | tok s n sz => exact hr.elim
  · rw [upd_ne _ _ e] at hx; exact h.glob x ob hx
theorem CRun.mq {P : Program} {f : FuncId} {args : List CV} {σ : Heap} {l : Nat} {s : Bool} {es : List (MK × Value)} {p : COut → Prop} (hl : σ l = some (.mp s es)) (h : CRun P f args (upd σ l (.mq s es)) p) : CRun P f args σ p :=
  ⟨h.1, fun M own w vals h1 h2 h3 => h.2 M own w vals (h1.mq hl) h2 h3⟩
end Go.CL
namespace Go.Proofs.YtlamgfimgadnmaaGreat
open Go Go.CL
set_option maxRecDepth 10000
def isPut (e : Exp) : Bool := match e with | .mk k _ _ _ _ => decide (k = 14 ∨ k = 15)
def putsE (e : Exp) : Bool := (subsE e).any isPut
def missN (L : List ByteArray) (l : List ByteArray) : Bool := l.any fun n => !hasB L n
def namesX (e : Exp) : List ByteArray := (namesOf (subsE e)).foldl ins []
def exprN (L : List ByteArray) (e : Exp) : Int := if putsE e then 2 else if missN L (namesX e) then 3 else 0
def addN (L : List ByteArray) (s : ByteArray) : List ByteArray := if s = ⟨#[]⟩ then L else if hasB L s then L else L ++ [s]
theorem seenS_find : ∀ {l : List ByteArray} {s : ByteArray} {k j : Nat} {v : Value}, mpFind (.s s) (seenS l) k = some (j, v) → v = .int .i64 1 ∧ k ≤ j ∧ (seenS l).set (j - k) (.s s, .int .i64 1) = seenS l
  | [], s, k, j, v, h => by simp [seenS, mpFind] at h
  | x :: r, s, k, j, v, h => by
    simp only [seenS, List.map_cons, mpFind] at h
    by_cases e : MK.s s = MK.s x
    · rw [if_pos e] at h
      cases h; cases e
      exact ⟨rfl, Nat.le_refl _, by simp [seenS]⟩
    · rw [if_neg e] at h
      obtain ⟨h1, h2, h3⟩ := seenS_find (l := r) h
      refine ⟨h1, by omega, ?_⟩
      rw [show j - k = (j - (k + 1)) + 1 by omega]
      simp only [seenS, List.map_cons, List.set_cons_succ]
      exact congrArg _ h3
theorem nHas_c {τ : Heap} {lm : Nat} {L : List ByteArray} {s : ByteArray} (hm : τ lm = some (.mq true (seenS L))) : CRun Tryz.prog 100 [.map lm, .sc (.string s)] τ (· = .ret (.sc (.bool (hasB L s))) τ) := by
  cases hq : hasB L s
  · have hf := seenS_no (k := 0) hq
    refine crun_of (X := X) X_ok X_sat (body := bodyOf Tryz.f100) Tryz.func100 rfl (by kernel_rfl) (by kernel_rfl) ?_
    rw [Tryz.ntmps100]
    conv => whnf
    repeat' (first | (refine MapN.go ?_ hf) | refine Fork.np ?_ | refine GetN.go ?_ | refine finGo ?_) <;> try (conv => whnf)
    all_goals rfl
  · obtain ⟨j, hf⟩ := seenS_yes (k := 0) hq
    refine crun_of (X := X) X_ok X_sat (body := bodyOf Tryz.f100) Tryz.func100 rfl (by kernel_rfl) (by kernel_rfl) ?_
    rw [Tryz.ntmps100]
    conv => whnf
    repeat' (first | (refine MapN.go ?_ hf) | refine Fork.yp ?_ | refine GetN.go ?_ | refine finGo ?_) <;> try (conv => whnf)
    all_goals rfl
theorem upd_self {τ : Heap} {l : Nat} {o : Ob} (h : τ l = some o) : upd τ l o = τ := by
  funext x; unfold upd; split
  · rename_i e; rw [e, h]
  · rfl
theorem nAdd_c {τ : Heap} {lm : Nat} {L : List ByteArray} {s : ByteArray} (hm : τ lm = some (.mq true (seenS L))) : CRun Tryz.prog 39 [.map lm, .sc (.string s)] τ (· = .ret (.tup []) (upd τ lm (.mq true (seenS (addN L s))))) := by
  by_cases h0 : s = ⟨#[]⟩
  · have ha : addN L s = L := if_pos h0
    rw [ha, upd_self hm]
    refine crun_of (X := X) X_ok X_sat (body := bodyOf Tryz.f39) Tryz.func39 rfl (by kernel_rfl) (by kernel_rfl) ?_
    rw [Tryz.ntmps39]
    conv => whnf
    repeat' (first | refine Fork.nn ?_ | refine finGo ?_) <;> try (conv => whnf)
    all_goals rfl
  cases hq : hasB L s
  · have ha : addN L s = L ++ [s] := by unfold addN; rw [if_neg h0, hq]; rfl
    have hf := seenS_no (k := 0) hq
    rw [ha, seenS_app]
    refine crun_of (X := X) X_ok X_sat (body := bodyOf Tryz.f39) Tryz.func39 rfl (by kernel_rfl) (by kernel_rfl) ?_
    rw [Tryz.ntmps39]
    conv => whnf
    repeat' (first | (refine MapN.go ?_ hf) | refine Fork.ny ?_ | refine GetN.go ?_ | refine finGo ?_) <;> try (conv => whnf)
    all_goals rfl
  · have ha : addN L s = L := by unfold addN; rw [if_neg h0, hq]; rfl
    obtain ⟨j, hf⟩ := seenS_yes (k := 0) hq
    obtain ⟨-, -, hs⟩ := seenS_find hf
    rw [Nat.sub_zero] at hs
    rw [ha, ← hs]
    refine crun_of (X := X) X_ok X_sat (body := bodyOf Tryz.f39) Tryz.func39 rfl (by kernel_rfl) (by kernel_rfl) ?_
    rw [Tryz.ntmps39]
    conv => whnf
    repeat' (first | (refine MapN.go ?_ hf) | refine Fork.ny ?_ | refine GetN.go ?_ | refine finGo ?_) <;> try (conv => whnf)
    all_goals rfl
end Go.Proofs.YtlamgfimgadnmaaGreat
namespace Go.Proofs.YtlamgfimgadnmaaGreat
open Go Go.CL
set_option maxRecDepth 10000
structure PJ (σ : Heap) (lo l : Nat) (ob : Ob) (b : Bool) (τ : Heap) : Prop where
  sub : Sub σ τ
  rec_ : τ l = some ob
  out : τ lo = some (.cells [.sc (.bool b)])
structure PJ1 (σ : Heap) (lo l : Nat) (ob : Ob) (pre : List Exp) (τ : Heap) : Prop where
  j : PJ σ lo l ob false τ
  no : pre.any isPut = false
theorem pj_put {σ τ2 : Heap} {lo lr : Nat} {ob B : Ob} {b : Bool} (bs : Sub σ τ2) (z2 : σ lr = none) (a3 : lr ≠ lo) (hB : τ2 lr = some B) (h4 : τ2 lo = some (.cells [.sc (.bool b)])) : PJ σ lo lr ob b (upd τ2 lr ob) :=
  ⟨bs.upd z2, upd_same _ _ _, by rw [upd_ne _ _ (Ne.symm a3)]; exact h4⟩
theorem pj_ret {σ τ2 : Heap} {lo lr : Nat} {ob B : Ob} (bs : Sub σ τ2) (z0 : σ lo = none) (z2 : σ lr = none) (a3 : lr ≠ lo) (hB : τ2 lr = some B) : (upd τ2 lo (.cells [.sc (.bool true)])) lr = some B ∧ PJ σ lo lr ob true (upd (upd τ2 lo (.cells [.sc (.bool true)])) lr ob) :=
  ⟨by rw [upd_ne _ _ a3]; exact hB, (bs.upd z0).upd z2, upd_same _ _ _, by rw [upd_ne _ _ (Ne.symm a3)]; exact upd_same _ _ _⟩
theorem puts_c {σ : Heap} {e : Exp} (he : ETame e) : CRun Tryz.prog 117 [e.cv] σ (· = .ret (.sc (.bool (putsE e))) σ) := by
  obtain ⟨k, ⟨vk, vn, vt, vl⟩, s, c, ps⟩ := e
  refine crun_ofF (X := G [1,2]) (G_ok _) (G_sat _) (body := bodyOf Tryz.f117) Tryz.func117 rfl (by kernel_rfl) (by kernel_rfl) ?_
  rw [Tryz.ntmps117]
  conv => whnf
  repeat' (first | (refine GetN.go ?_ (h := by exact getA ‹_›)) | (refine CallN.many (eachExpr_c) ?_; rintro _ ⟨lb, hlb, rfl⟩) | refine ExtN.wr ?_ | refine AllocN.go (fun l hl => ?_)) <;> try (conv => whnf)
  rename_i l1 h1
  refine RngN.two rfl fun f lr ob ob' hfn hob hob' hlr => ?_
  have n1 : l ≠ l1 := fun e => by subst e; rw [upd_same] at hl; cases hl
  have n2 : lb ≠ l := fun e => by subst e; rw [upd_same] at hlb; cases hlb
  have n3 : lb ≠ l1 := fun e => by subst e; rw [upd_ne _ _ (Ne.symm n1), upd_same] at hlb; cases hlb
  have n4 : lr ≠ lb := fun e => by subst e; rw [upd_same] at hlr; cases hlr
  have n5 : lr ≠ l := fun e => by subst e; rw [upd_ne _ _ (Ne.symm n2), upd_same] at hlr; cases hlr
  have z0 : σ l = none := by rwa [upd_ne _ _ n1] at hl
  have z1 : σ lb = none := by rwa [upd_ne _ _ n2, upd_ne _ _ n3] at hlb
  have n6 : lr ≠ l1 := fun e => by subst e; rw [upd_ne _ _ (Ne.symm n3), upd_ne _ _ (Ne.symm n1), upd_same] at hlr; cases hlr
  have z2 : σ lr = none := by rwa [upd_ne _ _ n4, upd_ne _ _ n5, upd_ne _ _ n6] at hlr
  refine ⟨fun τ => PJ1 σ l lr ob (subsE (.mk k (.mk vk vn vt vl) s c ps)) τ, fun τ => PJ σ l lr ob' true τ ∧ putsE (.mk k (.mk vk vn vt vl) s c ps) = true, ?_, fun τ hJ => hJ.j.rec_, fun τ hJ => hJ.1.rec_, ?_, ?_⟩
  · have start : PJ1 σ l lr ob [] (upd (upd (upd (upd σ l1 (.cells [i64 k, i64 vk, i64 vn, .sc (.string vt), .vec (Val.cvs vl), .sc (.string s), .sc (.string c), .vec (Exp.cvs ps)])) l (.cells [.sc (.bool false)])) lb
        (.cells [i64 k, i64 vk, i64 vn, .sc (.string vt), .vec (Val.cvs vl), .sc (.string s), .sc (.string c), .vec (Exp.cvs ps)])) lr ob) :=
      ⟨⟨((((Sub.refl σ).upd h1).upd z0).upd z1).upd z2, upd_same _ _ _, by rw [upd_ne _ _ (Ne.symm n5), upd_ne _ _ (Ne.symm n2)]; exact upd_same _ _ _⟩, rfl⟩
    refine CRun.mono (eachIter_c (l := lr) (lb := lb) (J := PJ1 σ l lr ob) (K := fun τ => PJ σ l lr ob' true τ ∧ putsE (.mk k (.mk vk vn vt vl) s c ps) = true) ?_ he rfl start (by rw [upd_ne _ _ (Ne.symm n4)]; exact upd_same _ _ _)) ?_
    · intro pre x r τ hall hJ
      obtain ⟨⟨hsub, hrec, hout⟩, hno⟩ := hJ
      rw [hob] at hrec
      obtain ⟨xk, ⟨x1, x2, x3, x4⟩, xs, xc, xp⟩ := x
      refine yrun_of (X := G [1,2]) (G_ok _) (G_sat _) hfn hrec rfl rfl rfl ?_
      conv => whnf
      repeat' (first | refine OrdN.one ?_ | refine Fork.yp ?_ | refine Fork.np ?_ | refine Fork.ny ?_ | refine Fork.nn ?_ | refine Fork.yb ?_ | refine Fork.nb ?_ | refine Fork.dp (fun h => ?_) (fun h => ?_) | refine Fork.dn (fun h => ?_) (fun h => ?_) | (refine Fork.mk (fun h => ?_) (fun h => ?_) <;> simp only [decide_eq_true_eq, decide_eq_false_iff_not, Bool.not_eq_true', Bool.not_eq_false', Bool.or_eq_true, Bool.or_eq_false_iff] at h) | refine GetN.go ?_ | refine Need.ap1 ?_ | refine Need.ap0 ?_ | refine Need.go ?_ | refine Need.draw ?_ | refine ElemN.go ?_ | refine ExtN.ext ?_ | refine ExtN.wr ?_ | refine AllocN.go (fun l hl => ?_) | refine finGo ?_) <;> try (conv => whnf)
      refine AsgN.mk hrec fun τ2 hτ2 => ?_
      have b0 : ∀ y, y ≠ lr → τ2 y = τ y := fun y hy => by rw [hτ2, upd_ne _ _ hy]
      have bl := hτ2 ▸ upd_same τ lr _
      have bs : Sub σ τ2 := by rw [hτ2]; exact hsub.upd z2
      have b3 := b0 l (Ne.symm n5)
      rw [← b3] at hout
      have q1 := pj_put (ob := ob) bs z2 n5 bl hout
      have q2 := pj_ret (ob := ob') bs z0 z2 n5 bl
      have yes : isPut (.mk xk (.mk x1 x2 x3 x4) xs xc xp) = true → putsE (.mk k (.mk vk vn vt vl) s c ps) = true := fun h => by
        unfold putsE; rw [← hall]; simp [h]
      have nope : isPut (.mk xk (.mk x1 x2 x3 x4) xs xc xp) = false → (pre ++ [Exp.mk xk (.mk x1 x2 x3 x4) xs xc xp]).any isPut = false := fun h => by
        simp only [List.any_append, hno, List.any_cons, h, List.any_nil, Bool.or_false]
      clear hτ2 hall
      by_cases e1 : xk = 14
      · conv => whnf
        repeat' (first | refine Fork.yp ?_ | refine GetN.go ?_) <;> try (conv => whnf)
        all_goals exact RndN.mk (by rw [hob'] at q2; exact q2.1) ⟨_, Sub.refl _, .inr ⟨_, ⟨by rw [← hob']; exact q2.2, yes (decide_eq_true (by omega))⟩, rfl⟩⟩
      by_cases e2 : xk = 15
      · conv => whnf
        repeat' (first | refine Fork.yp ?_ | refine Fork.np ?_ | refine GetN.go ?_) <;> try (conv => whnf)
        all_goals exact RndN.mk (by rw [hob'] at q2; exact q2.1) ⟨_, Sub.refl _, .inr ⟨_, ⟨by rw [← hob']; exact q2.2, yes (decide_eq_true (by omega))⟩, rfl⟩⟩
      conv => whnf
      repeat' (first | refine Fork.np ?_) <;> try (conv => whnf)
      all_goals exact RndN.mk bl ⟨_, Sub.refl _, .inl ⟨_, ⟨by rw [← hob]; exact q1, nope (decide_eq_false (by omega))⟩, rfl⟩⟩
    · rintro out (⟨τ, hJ, rfl⟩ | ⟨τ, hK, rfl⟩)
      · exact ⟨_, _, .inl hJ, rfl⟩
      · exact ⟨_, _, .inr hK, rfl⟩
  · rintro τ τ' ⟨⟨hsub, hrec, hout⟩, hno⟩ hd
    have d0 : ∀ y, y ≠ lr → τ' y = τ y := fun y hy => by rw [hd, del_ne _ hy]
    have hs' : Sub σ τ' := fun y o hy => by
      have : y ≠ lr := fun e => by subst e; rw [z2] at hy; cases hy
      rw [d0 y this]; exact hsub y o hy
    rw [← d0 l (Ne.symm n5)] at hout
    have hq : putsE (.mk k (.mk vk vn vt vl) s c ps) = false := hno
    rw [hq]
    clear hd d0 hob hob'
    have hs2 : Sub σ (upd τ' l (.cells [.sc (.bool false)])) := hs'.upd z0
    conv => whnf
    repeat' (first | (refine finS0 hs2 ?_) | refine GetN.go ?_) <;> try (conv => whnf)
    all_goals rfl
  · rintro τ τ' ⟨⟨hsub, hrec, hout⟩, hyes⟩ hd
    have d0 : ∀ y, y ≠ lr → τ' y = τ y := fun y hy => by rw [hd, del_ne _ hy]
    have hs' : Sub σ τ' := fun y o hy => by
      have : y ≠ lr := fun e => by subst e; rw [z2] at hy; cases hy
      rw [d0 y this]; exact hsub y o hy
    rw [← d0 l (Ne.symm n5)] at hout
    rw [hyes]
    clear hd d0 hob hob'
    conv => whnf
    repeat' (first | (refine finS0 hs' ?_) | refine GetN.go ?_) <;> try (conv => whnf)
    all_goals rfl
def firstN {α : Type} (f : α → Int) : List α → Int
  | [] => 0
  | x :: r => if f x = 0 then firstN f r else f x
theorem firstN_hit {α : Type} {f : α → Int} : ∀ {l : List α} {i : Nat} {x : α}, l[i]? = some x → firstN f (l.take i) = 0 → f x ≠ 0 → firstN f l = f x
  | y :: r, 0, x, h, _, hx => by simp at h; subst h; simp [firstN, hx]
  | y :: r, i + 1, x, h, h0, hx => by
    simp only [List.take_succ_cons, firstN] at h0
    by_cases e : f y = 0
    · rw [if_pos e] at h0
      simp only [firstN, if_pos e]
      exact firstN_hit (by simpa using h) h0 hx
    · rw [if_neg e] at h0; exact absurd h0 e
theorem firstN_app {α : Type} {f : α → Int} : ∀ (a : List α) (x : α), firstN f a = 0 → f x = 0 → firstN f (a ++ [x]) = 0
  | [], x, _, h => by simp [firstN, h]
  | y :: r, x, h0, h => by
    simp only [List.cons_append, firstN] at h0 ⊢
    by_cases e : f y = 0
    · rw [if_pos e] at h0 ⊢; exact firstN_app r x h0 h
    · rw [if_neg e] at h0; exact absurd h0 e
theorem firstN_step {α : Type} {f : α → Int} {l : List α} {i : Nat} {x : α} (h : l[i]? = some x) (h0 : firstN f (l.take i) = 0) (hx : f x = 0) : firstN f (l.take (i + 1)) = 0 := by
  rw [List.take_add_one, h]; exact firstN_app _ _ h0 hx
def runN {α : Type} (f : List ByteArray → α → Int × List ByteArray) : List α → List ByteArray → Int × List ByteArray
  | [], L => (0, L)
  | x :: r, L => if (f L x).1 = 0 then runN f r (f L x).2 else f L x
theorem runN_hit {α : Type} {f : List ByteArray → α → Int × List ByteArray} : ∀ {l : List α} {i : Nat} {x : α} {L Li : List ByteArray}, l[i]? = some x → runN f (l.take i) L = (0, Li) → (f Li x).1 ≠ 0 → runN f l L = f Li x
  | y :: r, 0, x, L, Li, h, h0, hx => by
    simp at h; subst h
    simp only [List.take_zero, runN, Prod.mk.injEq, true_and] at h0; subst h0
    simp only [runN, if_neg hx]
  | y :: r, i + 1, x, L, Li, h, h0, hx => by
    simp only [List.take_succ_cons, runN] at h0
    by_cases e : (f L y).1 = 0
    · rw [if_pos e] at h0
      simp only [runN, if_pos e]
      exact runN_hit (by simpa using h) h0 hx
    · rw [if_neg e] at h0; rw [h0] at e; exact absurd rfl e
theorem runN_app {α : Type} {f : List ByteArray → α → Int × List ByteArray} : ∀ (a : List α) (x : α) {L Li : List ByteArray}, runN f a L = (0, Li) → (f Li x).1 = 0 → runN f (a ++ [x]) L = (0, (f Li x).2)
  | [], x, L, Li, h0, h => by
    simp only [runN, Prod.mk.injEq, true_and] at h0; subst h0
    simp only [List.nil_append, runN, if_pos h]
  | y :: r, x, L, Li, h0, h => by
    simp only [List.cons_append, runN] at h0 ⊢
    by_cases e : (f L y).1 = 0
    · rw [if_pos e] at h0 ⊢; exact runN_app r x h0 h
    · rw [if_neg e] at h0; rw [h0] at e; exact absurd rfl e
theorem runN_step {α : Type} {f : List ByteArray → α → Int × List ByteArray} {l : List α} {i : Nat} {x : α} {L Li : List ByteArray} (h : l[i]? = some x) (h0 : runN f (l.take i) L = (0, Li)) (hx : (f Li x).1 = 0) : runN f (l.take (i + 1)) L = (0, (f Li x).2) := by
  rw [List.take_add_one, h]; exact runN_app _ _ h0 hx
theorem ansJ {a b : Int} {τ : Heap} (h : b = a) : COut.ret (i64 a) τ = .ret (i64 b) τ := by rw [h]
theorem nExpr_c {τ : Heap} {lm : Nat} {L : List ByteArray} (hm : τ lm = some (.mq true (seenS L))) {e : Exp} (he : ETame e) (hlen : (subsE e).length ≤ 1000) :
    CRun Tryz.prog 99 [.map lm, e.cv] τ (· = .ret (i64 (exprN L e)) τ) := by
  have c1 := puts_c (σ := τ) he
  obtain ⟨k, ⟨vk, vn, vt, vl⟩, s, c, ps⟩ := e
  have c2 := namesIn_c (σ := τ) he hlen
  have h3 := fold_len (namesOf (subsE (.mk k (.mk vk vn vt vl) s c ps))) []
  have h4 := namesOf_len (subsE (.mk k (.mk vk vn vt vl) s c ps))
  have hE : exprN L (.mk k (.mk vk vn vt vl) s c ps) = (if putsE (.mk k (.mk vk vn vt vl) s c ps) then 2 else if missN L (namesX (.mk k (.mk vk vn vt vl) s c ps)) then 3 else 0) := rfl
  unfold namesX at hE
  generalize (namesOf (subsE (.mk k (.mk vk vn vt vl) s c ps))).foldl ins [] = N at hE c2 h3
  have hN : N.length ≤ 1000 := by rw [List.length_nil] at h3; omega
  have hNl := strs_len N
  have ch := fun s => nHas_c (s := s) hm
  refine crun_of (X := X) X_ok X_sat (body := bodyOf Tryz.f99) Tryz.func99 rfl (by kernel_rfl) (by kernel_rfl) ?_
  rw [Tryz.ntmps99]
  cases hp : putsE (.mk k (.mk vk vn vt vl) s c ps) <;> rw [hp] at c1 hE
  case true =>
    conv => whnf
    repeat' (first | (refine CallN.one c1 ?_) | refine OrdN.one ?_ | refine Fork.yp ?_ | refine Fork.np ?_ | refine Fork.ny ?_ | refine Fork.nn ?_ | refine Fork.yb ?_ | refine Fork.nb ?_ | refine Fork.dp (fun h => ?_) (fun h => ?_) | refine Fork.dn (fun h => ?_) (fun h => ?_) | (refine Fork.mk (fun h => ?_) (fun h => ?_) <;> simp only [decide_eq_true_eq, decide_eq_false_iff_not, Bool.not_eq_true', Bool.not_eq_false', Bool.or_eq_true, Bool.or_eq_false_iff] at h) | refine GetN.go ?_ | refine Need.ap1 ?_ | refine Need.ap0 ?_ | refine Need.go ?_ | refine Need.draw ?_ | refine ElemN.go ?_ | refine ExtN.ext ?_ | refine ExtN.wr ?_ | refine AllocN.go (fun l hl => ?_) | refine finGo ?_) <;> try (conv => whnf)
    all_goals exact ansJ hE
  rw [if_neg (by decide)] at hE
  conv => whnf
  repeat' (first | (refine CallN.one c1 ?_) | (refine CallN.one c2 ?_) | refine OrdN.one ?_ | refine Fork.yp ?_ | refine Fork.np ?_ | refine Fork.ny ?_ | refine Fork.nn ?_ | refine Fork.yb ?_ | refine Fork.nb ?_ | refine Fork.dp (fun h => ?_) (fun h => ?_) | refine Fork.dn (fun h => ?_) (fun h => ?_) | (refine Fork.mk (fun h => ?_) (fun h => ?_) <;> simp only [decide_eq_true_eq, decide_eq_false_iff_not, Bool.not_eq_true', Bool.not_eq_false', Bool.or_eq_true, Bool.or_eq_false_iff] at h) | refine GetN.go ?_ | refine Need.ap1 ?_ | refine Need.ap0 ?_ | refine Need.go ?_ | refine Need.draw ?_ | refine ElemN.go ?_ | refine ExtN.ext ?_ | refine ExtN.wr ?_ | refine AllocN.go (fun l hl => ?_) | refine finGo ?_) <;> try (conv => whnf)
  refine LoopN.rule (α := Nat) (fun i => ⟨21, [(0, .map lm), (4, i64 0), (10, .vec (strs N)), (11, i64 (strs N).length), (12, i64 i)], []⟩)
    (fun _ => τ) (fun i => N.length - i) (fun i => i ≤ N.length ∧ missN L (N.take i) = false) ?_ 0 ⟨by omega, rfl⟩ ?_
  rotate_left
  · (refine ⟨rfl, ?_, ?_, Sub.refl _⟩ <;> repeat' (first | exact EnvLe.nil | exact LocsLe.nil | refine EnvLe.cons _ _ _ ?_ ?_ | refine LocsLe.cons _ _ _ ?_ ?_ | exact CVle.same _ rfl | exact CVle.vec _ _ | exact CVle.nil | exact CVle.tok _ _ _ rfl rfl | exact ObLe.tok _ _ rfl | exact CVles.nil | refine CVles.cons ?_ ?_ | exact ObLe.same _ rfl rfl | refine ObLe.cells rfl ?_))
  rintro i K ⟨h1, h2⟩ hK
  dsimp only at h1 h2 hK ⊢
  by_cases hi : i < N.length
  · obtain ⟨x, hx, hg, hg'⟩ := strs_at hi
    have ch := ch x
    cases hh : hasB L x <;> rw [hh] at ch
    · have hmi : missN L N = true := List.any_eq_true.2 ⟨x, hx, by rw [hh]; rfl⟩
      rw [hmi] at hE
      conv => whnf
      repeat' (first | (refine CallN.one ch ?_) | refine OrdN.one ?_ | refine Fork.yp ?_ | refine Fork.np ?_ | refine Fork.ny ?_ | refine Fork.nn ?_ | refine Fork.yb ?_ | refine Fork.nb ?_ | refine Fork.dp (fun h => ?_) (fun h => ?_) | refine Fork.dn (fun h => ?_) (fun h => ?_) | (refine Fork.mk (fun h => ?_) (fun h => ?_) <;> simp only [decide_eq_true_eq, decide_eq_false_iff_not, Bool.not_eq_true', Bool.not_eq_false', Bool.or_eq_true, Bool.or_eq_false_iff] at h) | refine GetN.go ?_ | refine Need.ap1 ?_ | refine Need.ap0 ?_ | refine Need.go ?_ | refine Need.draw ?_ | refine ElemN.go ?_ | refine ExtN.ext ?_ | refine ExtN.wr ?_ | refine AllocN.go (fun l hl => ?_) | refine finGo ?_) <;> try (conv => whnf)
      all_goals exact ansJ hE
    · conv => whnf
      repeat' (first | (refine CallN.one ch ?_) | refine OrdN.one ?_ | refine Fork.yp ?_ | refine Fork.np ?_ | refine Fork.ny ?_ | refine Fork.nn ?_ | refine Fork.yb ?_ | refine Fork.nb ?_ | refine Fork.dp (fun h => ?_) (fun h => ?_) | refine Fork.dn (fun h => ?_) (fun h => ?_) | (refine Fork.mk (fun h => ?_) (fun h => ?_) <;> simp only [decide_eq_true_eq, decide_eq_false_iff_not, Bool.not_eq_true', Bool.not_eq_false', Bool.or_eq_true, Bool.or_eq_false_iff] at h) | refine GetN.go ?_ | refine Need.ap1 ?_ | refine Need.ap0 ?_ | refine Need.go ?_ | refine Need.draw ?_ | refine ElemN.go ?_ | refine ExtN.ext ?_ | refine ExtN.wr ?_ | refine AllocN.go (fun l hl => ?_) | refine finGo ?_) <;> try (conv => whnf)
      refine hK (i + 1) _ _ ⟨by omega, ?_⟩ (by omega) ?_
      · unfold missN at h2 ⊢; rw [List.take_add_one, hg, List.any_append, h2]; simp [hh]
      (refine ⟨rfl, ?_, ?_, Sub.refl _⟩ <;> repeat' (first | exact EnvLe.nil | exact LocsLe.nil | refine EnvLe.cons _ _ _ ?_ ?_ | refine LocsLe.cons _ _ _ ?_ ?_ | exact CVle.same _ rfl | exact CVle.vec _ _ | exact CVle.nil | exact CVle.tok _ _ _ rfl rfl | exact ObLe.tok _ _ rfl | exact CVles.nil | refine CVles.cons ?_ ?_ | exact ObLe.same _ rfl rfl | refine ObLe.cells rfl ?_))
  · rw [List.take_of_length_le (by omega)] at h2
    rw [h2] at hE
    conv => whnf
    repeat' (first | refine OrdN.one ?_ | refine Fork.yp ?_ | refine Fork.np ?_ | refine Fork.ny ?_ | refine Fork.nn ?_ | refine Fork.yb ?_ | refine Fork.nb ?_ | refine Fork.dp (fun h => ?_) (fun h => ?_) | refine Fork.dn (fun h => ?_) (fun h => ?_) | (refine Fork.mk (fun h => ?_) (fun h => ?_) <;> simp only [decide_eq_true_eq, decide_eq_false_iff_not, Bool.not_eq_true', Bool.not_eq_false', Bool.or_eq_true, Bool.or_eq_false_iff] at h) | refine GetN.go ?_ | refine Need.ap1 ?_ | refine Need.ap0 ?_ | refine Need.go ?_ | refine Need.draw ?_ | refine ElemN.go ?_ | refine ExtN.ext ?_ | refine ExtN.wr ?_ | refine AllocN.go (fun l hl => ?_) | refine finGo ?_) <;> try (conv => whnf)
    all_goals exact ansJ hE
def patN (L : List ByteArray) (p : Pt) : Int := exprN L p.e
def spotN (cr : Bool) (L : List ByteArray) (s : Sp) : Int × List ByteArray :=
  if firstN (patN L) s.props = 0 then (if cr && (hasB L s.name && !decide (s.label = ⟨#[]⟩ ∧ s.props.length = 0)) then (4, L) else (0, addN L s.name)) else (firstN (patN L) s.props, L)
def hopN (cr : Bool) (L : List ByteArray) (h : Hp) : Int × List ByteArray :=
  if cr && decide (h.kind = ⟨#[]⟩ ∨ h.way = 0) then (2, L) else if hasB L h.name then (4, L) else spotN cr (addN L h.name) h.spot
def pathN (cr : Bool) (L : List ByteArray) (p : Pth) : Int × List ByteArray :=
  if (spotN cr L p.spot).1 = 0 then runN (hopN cr) p.hops (spotN cr L p.spot).2 else spotN cr L p.spot
def Sh (e : Exp) : Prop := (subsE e).length ≤ 1000
def SpSh (s : Sp) : Prop := ∀ p ∈ s.props, Sh p.e
theorem ansMp {q : Int × List ByteArray} {a : Int} {L : List ByteArray} {τ : Heap} {lm : Nat} (h : q = (a, L)) : COut.ret (i64 a) (upd τ lm (.mq true (seenS L))) = .ret (i64 q.1) (upd τ lm (.mq true (seenS q.2))) := by rw [h]
theorem ansMq {q : Int × List ByteArray} {a : Int} {L : List ByteArray} {τ : Heap} {lm : Nat} (hm : τ lm = some (.mq true (seenS L))) (h : q = (a, L)) : COut.ret (i64 a) τ = .ret (i64 q.1) (upd τ lm (.mq true (seenS q.2))) := by rw [h, upd_self hm]
theorem nSpot_c {τ : Heap} {lm : Nat} {L : List ByteArray} (hm : τ lm = some (.mq true (seenS L))) {s : Sp} {cr : Bool} (hs : SpT s) (hh : SpSh s) :
    CRun Tryz.prog 72 [.map lm, s.cv, .sc (.bool cr)] τ (· = .ret (i64 (spotN cr L s).1) (upd τ lm (.mq true (seenS (spotN cr L s).2)))) := by
  obtain ⟨sn, sl, ps⟩ := s
  obtain ⟨t1, t2, t3, t4⟩ := hs
  dsimp only at t1 t2 t3 t4
  have e3 := pts_len ps
  have hE : spotN cr L ⟨sn, sl, ps⟩ = if firstN (patN L) ps = 0 then (if cr && (hasB L sn && !decide (sl = ⟨#[]⟩ ∧ ps.length = 0)) then (4, L) else (0, addN L sn)) else (firstN (patN L) ps, L) := rfl
  generalize spotN cr L ⟨sn, sl, ps⟩ = Q at hE ⊢
  have c1 := nHas_c (s := sn) hm
  have c2 := nAdd_c (s := sn) hm
  refine crun_of (X := X) X_ok X_sat (body := bodyOf Tryz.f72) Tryz.func72 rfl (by kernel_rfl) (by kernel_rfl) ?_
  rw [Tryz.ntmps72]
  conv => whnf
  repeat' (first | refine OrdN.one ?_ | refine Fork.yp ?_ | refine Fork.np ?_ | refine Fork.ny ?_ | refine Fork.nn ?_ | refine Fork.yb ?_ | refine Fork.nb ?_ | refine Fork.dp (fun h => ?_) (fun h => ?_) | refine Fork.dn (fun h => ?_) (fun h => ?_) | (refine Fork.mk (fun h => ?_) (fun h => ?_) <;> simp only [decide_eq_true_eq, decide_eq_false_iff_not, Bool.not_eq_true', Bool.not_eq_false', Bool.or_eq_true, Bool.or_eq_false_iff] at h) | refine GetN.go ?_ | refine Need.ap1 ?_ | refine Need.ap0 ?_ | refine Need.go ?_ | refine Need.draw ?_ | refine ElemN.go ?_ | refine ExtN.ext ?_ | refine ExtN.wr ?_ | refine AllocN.go (fun l hl => ?_) | refine finGo ?_) <;> try (conv => whnf)
  refine LoopN.rule (α := Nat) (fun i => ⟨47, [(0, .map lm), (2, .sc (.bool cr)), (4, .ptr (.f 4) 0), (6, i64 0), (11, .vec (pts ps)), (12, i64 (pts ps).length), (13, i64 i)], [(4, .cells [.sc (.string sn), .sc (.string sl), .vec (pts ps)])]⟩)
    (fun _ => τ) (fun i => ps.length - i) (fun i => i ≤ ps.length ∧ firstN (patN L) (ps.take i) = 0) ?_ 0 ⟨by omega, rfl⟩ ?_
  rotate_left
  · (refine ⟨rfl, ?_, ?_, Sub.refl _⟩ <;> repeat' (first | exact EnvLe.nil | exact LocsLe.nil | refine EnvLe.cons _ _ _ ?_ ?_ | refine LocsLe.cons _ _ _ ?_ ?_ | exact CVle.same _ rfl | exact CVle.vec _ _ | exact CVle.nil | exact CVle.tok _ _ _ rfl rfl | exact ObLe.tok _ _ rfl | exact CVles.nil | refine CVles.cons ?_ ?_ | exact ObLe.same _ rfl rfl | refine ObLe.cells rfl ?_))
  rintro i K ⟨h1, h2⟩ hK
  dsimp only at h1 h2 hK ⊢
  by_cases hi : i < ps.length
  · obtain ⟨⟨pn, ⟨ek, ⟨vk, vn, vt, vl⟩, es, ec, ep⟩⟩, hmm, hg, hg'⟩ := map_at (f := Pt.cv) hi
    have c3 := nExpr_c hm (t4 _ hmm).e (hh _ hmm)
    dsimp only at c3
    have hit := firstN_hit (f := patN L) hg h2
    have stp := firstN_step (f := patN L) hg h2
    unfold patN at hit stp
    dsimp only at hit stp
    by_cases h0 : exprN L (.mk ek (.mk vk vn vt vl) es ec ep) = 0
    · rw [h0] at c3
      conv => whnf
      repeat' (first | (refine CallN.one c3 ?_) | refine Fork.yp ?_ | refine Fork.nn ?_ | refine Need.go ?_ | refine ElemN.go ?_ | refine ExtN.ext ?_) <;> try (conv => whnf)
      refine hK (i + 1) _ _ ⟨by omega, stp h0⟩ (by omega) ?_
      (refine ⟨rfl, ?_, ?_, Sub.refl _⟩ <;> repeat' (first | exact EnvLe.nil | exact LocsLe.nil | refine EnvLe.cons _ _ _ ?_ ?_ | refine LocsLe.cons _ _ _ ?_ ?_ | exact CVle.same _ rfl | exact CVle.vec _ _ | exact CVle.nil | exact CVle.tok _ _ _ rfl rfl | exact ObLe.tok _ _ rfl | exact CVles.nil | refine CVles.cons ?_ ?_ | exact ObLe.same _ rfl rfl | refine ObLe.cells rfl ?_))
    · have hit : firstN (patN L) ps = _ := hit h0
      rw [if_neg (by rw [hit]; exact h0), hit] at hE
      conv => whnf
      repeat' (first | (refine CallN.one c3 ?_) | refine Fork.yp ?_ | refine Fork.ny ?_ | refine Need.go ?_ | refine ElemN.go ?_ | refine ExtN.ext ?_ | refine finGo ?_) <;> try (conv => whnf)
      all_goals exact ansMq hm hE
  · rw [List.take_of_length_le (by omega)] at h2
    rw [if_pos h2] at hE
    clear hK
    cases cr
    · rw [Bool.false_and, if_neg (by decide)] at hE
      conv => whnf
      repeat' (first | (refine CallN.one c2 ?_) | refine Fork.np ?_ | refine ExtN.wr ?_ | refine finGo ?_) <;> try (conv => whnf)
      all_goals exact ansMp hE
    cases hb : hasB L sn <;> rw [hb] at c1 hE
    · rw [Bool.false_and, Bool.and_false, if_neg (by decide)] at hE
      conv => whnf
      repeat' (first | (refine CallN.one c1 ?_) | (refine CallN.one c2 ?_) | refine Fork.np ?_ | refine ExtN.ext ?_ | refine ExtN.wr ?_ | refine finGo ?_) <;> try (conv => whnf)
      all_goals exact ansMp hE
    by_cases a1 : sl = ⟨#[]⟩
    · by_cases a2 : ps.length = 0
      · rw [decide_eq_true ⟨a1, a2⟩] at hE
        simp only [Bool.not_true, Bool.and_false, if_false] at hE
        rw [if_neg (by decide)] at hE
        conv => whnf
        repeat' (first | (refine CallN.one c1 ?_) | (refine CallN.one c2 ?_) | refine Fork.np ?_ | refine Fork.nn ?_ | refine ExtN.ext ?_ | refine ExtN.wr ?_ | refine finGo ?_) <;> try (conv => whnf)
        all_goals exact ansMp hE
      · rw [decide_eq_false (fun h => a2 h.2)] at hE
        simp only [Bool.not_false, Bool.and_true, if_true] at hE
        conv => whnf
        repeat' (first | (refine CallN.one c1 ?_) | refine Fork.yp ?_ | refine Fork.np ?_ | refine Fork.nn ?_ | refine ExtN.ext ?_ | refine finGo ?_) <;> try (conv => whnf)
        all_goals exact ansMq hm hE
    · rw [decide_eq_false (fun h => a1 h.1)] at hE
      simp only [Bool.not_false, Bool.and_true, if_true] at hE
      conv => whnf
      repeat' (first | (refine CallN.one c1 ?_) | refine Fork.np ?_ | refine Fork.ny ?_ | refine ExtN.ext ?_ | refine finGo ?_) <;> try (conv => whnf)
      all_goals exact ansMq hm hE
theorem nHop_c {τ : Heap} {lm : Nat} {L : List ByteArray} (hm : τ lm = some (.mq true (seenS L))) {h : Hp} {cr : Bool} (hs : HpT h) (hh : SpSh h.spot) :
    CRun Tryz.prog 73 [.map lm, h.cv, .sc (.bool cr)] τ (· = .ret (i64 (hopN cr L h).1) (upd τ lm (.mq true (seenS (hopN cr L h).2)))) := by
  obtain ⟨hn, hk, hw, ⟨sn, sl, ps⟩⟩ := h
  obtain ⟨t1, t2, t3, t4⟩ := hs
  dsimp only at t1 t2 t3 t4 hh
  have hE : hopN cr L ⟨hn, hk, hw, ⟨sn, sl, ps⟩⟩ = if cr && decide (hk = ⟨#[]⟩ ∨ hw = 0) then (2, L) else if hasB L hn then (4, L) else spotN cr (addN L hn) ⟨sn, sl, ps⟩ := rfl
  generalize hopN cr L ⟨hn, hk, hw, ⟨sn, sl, ps⟩⟩ = Q at hE ⊢
  have c1 := nHas_c (s := hn) hm
  have c2 := nAdd_c (s := hn) hm
  have hm2 : (upd τ lm (.mq true (seenS (addN L hn)))) lm = some (.mq true (seenS (addN L hn))) := upd_same _ _ _
  have c3 := nSpot_c (cr := cr) hm2 t4 hh
  rw [upd_upd] at c3
  generalize upd τ lm (.mq true (seenS (addN L hn))) = τ2 at c2 c3
  refine crun_of (X := X) X_ok X_sat (body := bodyOf Tryz.f73) Tryz.func73 rfl (by kernel_rfl) (by kernel_rfl) ?_
  rw [Tryz.ntmps73]
  have fin : (cr && decide (hk = ⟨#[]⟩ ∨ hw = 0)) = false → (hasB L hn = true → Q = (4, L)) ∧ (hasB L hn = false → Q = spotN cr (addN L hn) ⟨sn, sl, ps⟩) := fun h => by
    rw [h, if_neg (by decide)] at hE
    exact ⟨fun h => by rw [hE, h]; rfl, fun h => by rw [hE, h]; rfl⟩
  have two : (cr && decide (hk = ⟨#[]⟩ ∨ hw = 0)) = true → Q = (2, L) := fun h => by rw [hE, h]; rfl
  cases cr
  · obtain ⟨f1, f2⟩ := fin rfl
    cases hb : hasB L hn <;> rw [hb] at c1
    · have f2 := f2 hb
      subst f2
      conv => whnf
      repeat' (first | (refine CallN.one c1 ?_) | (refine CallN.one c2 ?_) | (refine CallN.one c3 ?_) | refine ExtN.ext ?_ | refine ExtN.wr ?_ | refine finGo ?_) <;> try (conv => whnf)
      all_goals rfl
    · conv => whnf
      repeat' (first | (refine CallN.one c1 ?_) | refine ExtN.ext ?_ | refine finGo ?_) <;> try (conv => whnf)
      all_goals exact ansMq hm (f1 hb)
  by_cases a1 : hk = ⟨#[]⟩
  · conv => whnf
    repeat' (first | refine Fork.yp ?_ | refine finGo ?_) <;> try (conv => whnf)
    all_goals exact ansMq hm (two (by simp [a1]))
  by_cases a2 : hw = 0
  · conv => whnf
    repeat' (first | refine Fork.yp ?_ | refine Fork.np ?_ | refine finGo ?_) <;> try (conv => whnf)
    all_goals exact ansMq hm (two (by simp [a2]))
  obtain ⟨f1, f2⟩ := fin (by simp [a1, a2])
  cases hb : hasB L hn <;> rw [hb] at c1
  · have f2 := f2 hb
    subst f2
    conv => whnf
    repeat' (first | (refine CallN.one c1 ?_) | (refine CallN.one c2 ?_) | (refine CallN.one c3 ?_) | refine Fork.np ?_ | refine ExtN.ext ?_ | refine ExtN.wr ?_ | refine finGo ?_) <;> try (conv => whnf)
    all_goals rfl
  · conv => whnf
    repeat' (first | (refine CallN.one c1 ?_) | refine Fork.np ?_ | refine ExtN.ext ?_ | refine finGo ?_) <;> try (conv => whnf)
    all_goals exact ansMq hm (f1 hb)
def mtE : Exp → Bool
  | .mk k v s c ps => decide (k = 0) && (emptyV v && (decide (s = ⟨#[]⟩) && (decide (c = ⟨#[]⟩) && decide (ps.length = 0))))
def eB (c : Cl) : Bool := mtE c.e
def nullE : Exp := .mk 0 (.mk 0 0 ⟨#[]⟩ []) ⟨#[]⟩ ⟨#[]⟩ []
theorem nullE_t : ETame nullE := .mk (.mk (by omega) (by omega) (by decide) (by decide) (by simp)) (by decide) (by decide) (by simp) (by simp)
theorem ClT.p0 {c : Cl} (h : ClT c) : ClT { c with paths := [] } := ⟨h.k, by simp, by simp, h.e, h.n, h.i, h.it, h.o, h.ot, h.s, h.l, h.t, h.tt, h.m, h.mt⟩
theorem ClT.e0 {c : Cl} (h : ClT c) : ClT { c with e := nullE } := ⟨h.k, h.p, h.pt, nullE_t, h.n, h.i, h.it, h.o, h.ot, h.s, h.l, h.t, h.tt, h.m, h.mt⟩
theorem ClT.n0 {c : Cl} (h : ClT c) : ClT { c with name := ⟨#[]⟩ } := ⟨h.k, h.p, h.pt, h.e, Nat.zero_le _, h.i, h.it, h.o, h.ot, h.s, h.l, h.t, h.tt, h.m, h.mt⟩
theorem ClT.r0 {c : Cl} (h : ClT c) : ClT { c with items := [], dist := false, orders := [], skip := -1, limit := -1 } := ⟨h.k, h.p, h.pt, h.e, h.n, by simp, by simp, by simp, by simp, by simp [Sm], by simp [Sm], h.t, h.tt, h.m, h.mt⟩
theorem ClT.t0 {c : Cl} (h : ClT c) : ClT { c with tos := [] } := ⟨h.k, h.p, h.pt, h.e, h.n, h.i, h.it, h.o, h.ot, h.s, h.l, by simp, by simp, h.m, h.mt⟩
theorem ClT.m0 {c : Cl} (h : ClT c) : ClT { c with names := [], det := false } := ⟨h.k, h.p, h.pt, h.e, h.n, h.i, h.it, h.o, h.ot, h.s, h.l, h.t, h.tt, by simp, by simp⟩
def PthSh (p : Pth) : Prop := SpSh p.spot ∧ ∀ h ∈ p.hops, SpSh h.spot
theorem nPaths_c {τ : Heap} {lm : Nat} {L : List ByteArray} (hm : τ lm = some (.mq true (seenS L))) {ps : List Pth} {cr : Bool} (hk : ps.length ≤ 1000) (ht : ∀ p ∈ ps, PthT p ∧ PthSh p) :
    CRun Tryz.prog 40 [.map lm, .vec (pths ps), .sc (.bool cr)] τ (· = .ret (i64 (runN (pathN cr) ps L).1) (upd τ lm (.mq true (seenS (runN (pathN cr) ps L).2)))) := by
  have e3 := pths_len ps
  obtain ⟨Q, hQ⟩ : ∃ Q, Q = runN (pathN cr) ps L := ⟨_, rfl⟩
  rw [← hQ]
  refine crun_of (X := X) X_ok X_sat (body := bodyOf Tryz.f40) Tryz.func40 rfl (by kernel_rfl) (by kernel_rfl) ?_
  rw [Tryz.ntmps40]
  conv => whnf
  repeat' (first | refine OrdN.one ?_ | refine Fork.yp ?_ | refine Fork.np ?_ | refine Fork.ny ?_ | refine Fork.nn ?_ | refine Fork.yb ?_ | refine Fork.nb ?_ | refine Fork.dp (fun h => ?_) (fun h => ?_) | refine Fork.dn (fun h => ?_) (fun h => ?_) | (refine Fork.mk (fun h => ?_) (fun h => ?_) <;> simp only [decide_eq_true_eq, decide_eq_false_iff_not, Bool.not_eq_true', Bool.not_eq_false', Bool.or_eq_true, Bool.or_eq_false_iff] at h) | refine GetN.go ?_ | refine Need.ap1 ?_ | refine Need.ap0 ?_ | refine Need.go ?_ | refine Need.draw ?_ | refine ElemN.go ?_ | refine ExtN.ext ?_ | refine ExtN.wr ?_ | refine AllocN.go (fun l hl => ?_) | refine finGo ?_) <;> try (conv => whnf)
  refine LoopN.rule (α := Nat × List ByteArray) (fun i => ⟨43, [(0, .map lm), (2, .sc (.bool cr)), (6, i64 0), (13, .vec (pths ps)), (14, i64 (pths ps).length), (15, i64 i.1)], []⟩)
    (fun i => upd τ lm (.mq true (seenS i.2))) (fun i => ps.length - i.1) (fun i => i.1 ≤ ps.length ∧ runN (pathN cr) (ps.take i.1) L = (0, i.2)) ?_ (0, L) ⟨by dsimp only; omega, rfl⟩ ?_
  rotate_left
  · rw [upd_self hm]
    (refine ⟨rfl, ?_, ?_, Sub.refl _⟩ <;> repeat' (first | exact EnvLe.nil | exact LocsLe.nil | refine EnvLe.cons _ _ _ ?_ ?_ | refine LocsLe.cons _ _ _ ?_ ?_ | exact CVle.same _ rfl | exact CVle.vec _ _ | exact CVle.nil | exact CVle.tok _ _ _ rfl rfl | exact ObLe.tok _ _ rfl | exact CVles.nil | refine CVles.cons ?_ ?_ | exact ObLe.same _ rfl rfl | refine ObLe.cells rfl ?_))
  rintro ⟨i, Li⟩ K ⟨h1, h2⟩ hK
  dsimp only at h1 h2 hK ⊢
  have hm2 : (upd τ lm (.mq true (seenS Li))) lm = some (.mq true (seenS Li)) := upd_same _ _ _
  by_cases hi : i < ps.length
  · obtain ⟨⟨⟨sn, sl, sp⟩, hs⟩, hmm, hg, hg'⟩ := map_at (f := Pth.cv) hi
    obtain ⟨⟨t1, t2, t3⟩, t4, t5⟩ := ht _ hmm
    dsimp only at t1 t2 t3 t4 t5
    have c1 := nSpot_c (cr := cr) hm2 t1 t4
    rw [upd_upd] at c1
    have hit := runN_hit (f := pathN cr) hg h2
    have stp := runN_step (f := pathN cr) hg h2
    rw [← hQ] at hit
    have e5 := hps_len hs
    have hp : pathN cr Li ⟨⟨sn, sl, sp⟩, hs⟩ = if (spotN cr Li ⟨sn, sl, sp⟩).1 = 0 then runN (hopN cr) hs (spotN cr Li ⟨sn, sl, sp⟩).2 else spotN cr Li ⟨sn, sl, sp⟩ := rfl
    generalize spotN cr Li ⟨sn, sl, sp⟩ = S at hp c1
    obtain ⟨sc, SL⟩ := S
    dsimp only at hp c1
    by_cases h0 : sc = 0
    case neg =>
      rw [if_neg h0] at hp
      rw [hp] at hit
      have hit := hit h0
      conv => whnf
      repeat' (first | (refine CallN.one c1 ?_) | refine OrdN.one ?_ | refine Fork.yp ?_ | refine Fork.np ?_ | refine Fork.ny ?_ | refine Fork.nn ?_ | refine Fork.yb ?_ | refine Fork.nb ?_ | refine Fork.dp (fun h => ?_) (fun h => ?_) | refine Fork.dn (fun h => ?_) (fun h => ?_) | (refine Fork.mk (fun h => ?_) (fun h => ?_) <;> simp only [decide_eq_true_eq, decide_eq_false_iff_not, Bool.not_eq_true', Bool.not_eq_false', Bool.or_eq_true, Bool.or_eq_false_iff] at h) | refine GetN.go ?_ | refine Need.ap1 ?_ | refine Need.ap0 ?_ | refine Need.go ?_ | refine Need.draw ?_ | refine ElemN.go ?_ | refine ExtN.ext ?_ | refine ExtN.wr ?_ | refine AllocN.go (fun l hl => ?_) | refine finGo ?_) <;> try (conv => whnf)
      all_goals exact ansMp hit
    rw [if_pos h0] at hp
    rw [hp] at hit stp
    subst h0
    conv => whnf
    repeat' (first | (refine CallN.one c1 ?_) | refine OrdN.one ?_ | refine Fork.yp ?_ | refine Fork.np ?_ | refine Fork.ny ?_ | refine Fork.nn ?_ | refine Fork.yb ?_ | refine Fork.nb ?_ | refine Fork.dp (fun h => ?_) (fun h => ?_) | refine Fork.dn (fun h => ?_) (fun h => ?_) | (refine Fork.mk (fun h => ?_) (fun h => ?_) <;> simp only [decide_eq_true_eq, decide_eq_false_iff_not, Bool.not_eq_true', Bool.not_eq_false', Bool.or_eq_true, Bool.or_eq_false_iff] at h) | refine GetN.go ?_ | refine Need.ap1 ?_ | refine Need.ap0 ?_ | refine Need.go ?_ | refine Need.draw ?_ | refine ElemN.go ?_ | refine ExtN.ext ?_ | refine ExtN.wr ?_ | refine AllocN.go (fun l hl => ?_) | refine finGo ?_) <;> try (conv => whnf)
    refine LoopN.rule (α := Nat × List ByteArray) (fun k => ⟨43, [(0, .map lm), (2, .sc (.bool cr)), (6, i64 0), (13, .vec (pths ps)), (14, i64 (pths ps).length), (15, i64 i), (28, .vec (hps hs)), (29, i64 (hps hs).length), (30, i64 k.1)], []⟩)
      (fun k => upd τ lm (.mq true (seenS k.2))) (fun k => hs.length - k.1) (fun k => k.1 ≤ hs.length ∧ runN (hopN cr) (hs.take k.1) SL = (0, k.2)) ?_ (0, SL) ⟨by dsimp only; omega, rfl⟩ ?_
    rotate_left
    · (refine ⟨rfl, ?_, ?_, Sub.refl _⟩ <;> repeat' (first | exact EnvLe.nil | exact LocsLe.nil | refine EnvLe.cons _ _ _ ?_ ?_ | refine LocsLe.cons _ _ _ ?_ ?_ | exact CVle.same _ rfl | exact CVle.vec _ _ | exact CVle.nil | exact CVle.tok _ _ _ rfl rfl | exact ObLe.tok _ _ rfl | exact CVles.nil | refine CVles.cons ?_ ?_ | exact ObLe.same _ rfl rfl | refine ObLe.cells rfl ?_))
    rintro ⟨k, Lk⟩ K ⟨h3, h4⟩ hK2
    dsimp only at h3 h4 hK2 ⊢
    have hm3 : (upd τ lm (.mq true (seenS Lk))) lm = some (.mq true (seenS Lk)) := upd_same _ _ _
    by_cases hk : k < hs.length
    · obtain ⟨⟨hn, hkd, hw, ⟨xn, xl, xp⟩⟩, um, ug, ug'⟩ := map_at (f := Hp.cv) hk
      have d1 := nHop_c (cr := cr) hm3 (t3 _ um) (t5 _ um)
      rw [upd_upd] at d1
      have hit2 := runN_hit (f := hopN cr) ug h4
      have stp2 := runN_step (f := hopN cr) ug h4
      generalize hopN cr Lk ⟨hn, hkd, hw, ⟨xn, xl, xp⟩⟩ = S at hit2 stp2 d1
      obtain ⟨sc, SL2⟩ := S
      dsimp only at hit2 stp2 d1
      by_cases h0 : sc = 0
      case neg =>
        have hit2 := hit2 h0
        rw [hit2] at hit
        have hit := hit h0
        conv => whnf
        repeat' (first | (refine CallN.one d1 ?_) | refine OrdN.one ?_ | refine Fork.yp ?_ | refine Fork.np ?_ | refine Fork.ny ?_ | refine Fork.nn ?_ | refine Fork.yb ?_ | refine Fork.nb ?_ | refine Fork.dp (fun h => ?_) (fun h => ?_) | refine Fork.dn (fun h => ?_) (fun h => ?_) | (refine Fork.mk (fun h => ?_) (fun h => ?_) <;> simp only [decide_eq_true_eq, decide_eq_false_iff_not, Bool.not_eq_true', Bool.not_eq_false', Bool.or_eq_true, Bool.or_eq_false_iff] at h) | refine GetN.go ?_ | refine Need.ap1 ?_ | refine Need.ap0 ?_ | refine Need.go ?_ | refine Need.draw ?_ | refine ElemN.go ?_ | refine ExtN.ext ?_ | refine ExtN.wr ?_ | refine AllocN.go (fun l hl => ?_) | refine finGo ?_) <;> try (conv => whnf)
        all_goals exact ansMp hit
      have stp3 := stp2 h0
      clear stp2
      subst h0
      conv => whnf
      repeat' (first | (refine CallN.one d1 ?_) | refine OrdN.one ?_ | refine Fork.yp ?_ | refine Fork.np ?_ | refine Fork.ny ?_ | refine Fork.nn ?_ | refine Fork.yb ?_ | refine Fork.nb ?_ | refine Fork.dp (fun h => ?_) (fun h => ?_) | refine Fork.dn (fun h => ?_) (fun h => ?_) | (refine Fork.mk (fun h => ?_) (fun h => ?_) <;> simp only [decide_eq_true_eq, decide_eq_false_iff_not, Bool.not_eq_true', Bool.not_eq_false', Bool.or_eq_true, Bool.or_eq_false_iff] at h) | refine GetN.go ?_ | refine Need.ap1 ?_ | refine Need.ap0 ?_ | refine Need.go ?_ | refine Need.draw ?_ | refine ElemN.go ?_ | refine ExtN.ext ?_ | refine ExtN.wr ?_ | refine AllocN.go (fun l hl => ?_) | refine finGo ?_) <;> try (conv => whnf)
      refine hK2 (k + 1, SL2) _ _ ⟨by dsimp only; omega, stp3⟩ (by dsimp only; omega) ?_
      (refine ⟨rfl, ?_, ?_, Sub.refl _⟩ <;> repeat' (first | exact EnvLe.nil | exact LocsLe.nil | refine EnvLe.cons _ _ _ ?_ ?_ | refine LocsLe.cons _ _ _ ?_ ?_ | exact CVle.same _ rfl | exact CVle.vec _ _ | exact CVle.nil | exact CVle.tok _ _ _ rfl rfl | exact ObLe.tok _ _ rfl | exact CVles.nil | refine CVles.cons ?_ ?_ | exact ObLe.same _ rfl rfl | refine ObLe.cells rfl ?_))
    · rw [List.take_of_length_le (by omega)] at h4
      rw [h4] at stp
      have stp := stp rfl
      conv => whnf
      repeat' (first | refine OrdN.one ?_ | refine Fork.yp ?_ | refine Fork.np ?_ | refine Fork.ny ?_ | refine Fork.nn ?_ | refine Fork.yb ?_ | refine Fork.nb ?_ | refine Fork.dp (fun h => ?_) (fun h => ?_) | refine Fork.dn (fun h => ?_) (fun h => ?_) | (refine Fork.mk (fun h => ?_) (fun h => ?_) <;> simp only [decide_eq_true_eq, decide_eq_false_iff_not, Bool.not_eq_true', Bool.not_eq_false', Bool.or_eq_true, Bool.or_eq_false_iff] at h) | refine GetN.go ?_ | refine Need.ap1 ?_ | refine Need.ap0 ?_ | refine Need.go ?_ | refine Need.draw ?_ | refine ElemN.go ?_ | refine ExtN.ext ?_ | refine ExtN.wr ?_ | refine AllocN.go (fun l hl => ?_) | refine finGo ?_) <;> try (conv => whnf)
      refine hK (i + 1, Lk) _ _ ⟨by dsimp only; omega, stp⟩ (by dsimp only; omega) ?_
      (refine ⟨rfl, ?_, ?_, Sub.refl _⟩ <;> repeat' (first | exact EnvLe.nil | exact LocsLe.nil | refine EnvLe.cons _ _ _ ?_ ?_ | refine LocsLe.cons _ _ _ ?_ ?_ | exact CVle.same _ rfl | exact CVle.vec _ _ | exact CVle.nil | exact CVle.tok _ _ _ rfl rfl | exact ObLe.tok _ _ rfl | exact CVles.nil | refine CVles.cons ?_ ?_ | exact ObLe.same _ rfl rfl | refine ObLe.cells rfl ?_))
  · rw [List.take_of_length_le (by omega), ← hQ] at h2
    rw [h2]
    conv => whnf
    repeat' (first | refine OrdN.one ?_ | refine Fork.yp ?_ | refine Fork.np ?_ | refine Fork.ny ?_ | refine Fork.nn ?_ | refine Fork.yb ?_ | refine Fork.nb ?_ | refine Fork.dp (fun h => ?_) (fun h => ?_) | refine Fork.dn (fun h => ?_) (fun h => ?_) | (refine Fork.mk (fun h => ?_) (fun h => ?_) <;> simp only [decide_eq_true_eq, decide_eq_false_iff_not, Bool.not_eq_true', Bool.not_eq_false', Bool.or_eq_true, Bool.or_eq_false_iff] at h) | refine GetN.go ?_ | refine Need.ap1 ?_ | refine Need.ap0 ?_ | refine Need.go ?_ | refine Need.draw ?_ | refine ElemN.go ?_ | refine ExtN.ext ?_ | refine ExtN.wr ?_ | refine AllocN.go (fun l hl => ?_) | refine finGo ?_) <;> try (conv => whnf)
    all_goals rfl
end Go.Proofs.YtlamgfimgadnmaaGreat
