/-
  Contracts of the functions that the law reaches.
-/
import Derived.Test.YtlamgfimgadnmaaGreatG
set_option linter.unusedVariables false
set_option linter.unusedSimpArgs false
namespace Go.CL
open Go
theorem Rg.mq {M : Mem} {own : Owns} {σ : Heap} {w : World} {l : Nat} {s : Bool} {es : List (MK × Value)} (h : Rg M own σ w) (hl : σ l = some (.mp s es)) : Rg M own (upd σ l (.mq s es)) w := by
  refine ⟨h.mem, fun x ob hx => ?_, h.fresh⟩
  by_cases e : x = l
  · subst e
    rw [za] at hx; cases hx
    obtain ⟨ho, fo, hr, hb⟩ := h.glob x _ hl
    refine ⟨ho, fo, ?_, hb⟩
    cases fo with
    | blk b => obtain ⟨arr, h1, h2, h3, h4, h5⟩ := hr; exact ⟨arr, _, h1, h2, h3, h5⟩
    | row b n cap => exact hr.elim
    | tok s n sz => exact hr.elim
  · rw [zb _ _ e] at hx; exact h.glob x ob hx
theorem CRun.mq {P : Program} {f : FuncId} {args : List CV} {σ : Heap} {l : Nat} {s : Bool} {es : List (MK × Value)} {p : COut → Prop} (hl : σ l = some (.mp s es)) (h : CRun P f args (upd σ l (.mq s es)) p) : CRun P f args σ p :=
  ⟨h.1, fun M own w vals h1 h2 h3 => h.2 M own w vals (h1.mq hl) h2 h3⟩
end Go.CL
namespace Go.Proofs.YtlamgfimgadnmaaGreat
open Go Go.CL
set_option maxRecDepth 10000
def zvv (e : Exp) : Bool := match e with | .mk k _ _ _ _ => decide (k = 14 ∨ k = 15)
def putsE (e : Exp) : Bool := (vu e).any zvv
def zvf (L : List ByteArray) (l : List ByteArray) : Bool := l.any fun n => !zax L n
def zu8 (e : Exp) : List ByteArray := (zh (vu e)).foldl ins []
def zzm (L : List ByteArray) (e : Exp) : Int := if putsE e then 2 else if zvf L (zu8 e) then 3 else 0
def zk2 (L : List ByteArray) (s : ByteArray) : List ByteArray := if s = ⟨#[]⟩ then L else if zax L s then L else L ++ [s]
theorem zhl : ∀ {l : List ByteArray} {s : ByteArray} {k j : Nat} {v : Value}, ze (.s s) (yf l) k = some (j, v) → v = .int .i64 1 ∧ k ≤ j ∧ (yf l).set (j - k) (.s s, .int .i64 1) = yf l
  | [], s, k, j, v, h => by simp [yf, ze] at h
  | x :: r, s, k, j, v, h => by
    simp only [yf, List.map_cons, ze] at h
    by_cases e : MK.s s = MK.s x
    · rw [if_pos e] at h
      cases h; cases e
      exact ⟨rfl, Nat.le_refl _, by simp [yf]⟩
    · rw [if_neg e] at h
      obtain ⟨h1, h2, h3⟩ := zhl (l := r) h
      refine ⟨h1, by omega, ?_⟩
      rw [show j - k = (j - (k + 1)) + 1 by omega]
      simp only [yf, List.map_cons, List.set_cons_succ]
      exact congrArg _ h3
theorem zvc {τ : Heap} {lm : Nat} {L : List ByteArray} {s : ByteArray} (hm : τ lm = some (.mq true (yf L))) : CRun Tryz.prog 100 [.map lm, .sc (.string s)] τ (· = .ret (.sc (.bool (zax L s))) τ) := by
  cases hq : zax L s
  · have hf := ze4 (k := 0) hq
    refine ZX Tryz.func100 Tryz.ntmps100 ?_
    conv => whnf
    repeat' (first | (refine MapN.go ?_ hf) | refine Zb ?_ | refine Zj ?_ | refine Zr ?_) <;> try (conv => whnf)
    all_goals rfl
  · obtain ⟨j, hf⟩ := zcy (k := 0) hq
    refine ZX Tryz.func100 Tryz.ntmps100 ?_
    conv => whnf
    repeat' (first | (refine MapN.go ?_ hf) | refine Za ?_ | refine Zj ?_ | refine Zr ?_) <;> try (conv => whnf)
    all_goals rfl
theorem ze3 {τ : Heap} {l : Nat} {o : Ob} (h : τ l = some o) : upd τ l o = τ := by
  funext x; unfold upd; split
  · rename_i e; rw [e, h]
  · rfl
theorem zvd {τ : Heap} {lm : Nat} {L : List ByteArray} {s : ByteArray} (hm : τ lm = some (.mq true (yf L))) : CRun Tryz.prog 39 [.map lm, .sc (.string s)] τ (· = .ret (.tup []) (upd τ lm (.mq true (yf (zk2 L s))))) := by
  by_cases h0 : s = ⟨#[]⟩
  · have ha : zk2 L s = L := if_pos h0
    rw [ha, ze3 hm]
    refine ZX Tryz.func39 Tryz.ntmps39 ?_
    conv => whnf
    repeat' (first | refine Zd ?_ | refine Zr ?_) <;> try (conv => whnf)
    all_goals rfl
  cases hq : zax L s
  · have ha : zk2 L s = L ++ [s] := by unfold zk2; rw [if_neg h0, hq]; rfl
    have hf := ze4 (k := 0) hq
    rw [ha, zlh]
    refine ZX Tryz.func39 Tryz.ntmps39 ?_
    conv => whnf
    repeat' (first | (refine MapN.go ?_ hf) | refine Zc ?_ | refine Zj ?_ | refine Zr ?_) <;> try (conv => whnf)
    all_goals rfl
  · have ha : zk2 L s = L := by unfold zk2; rw [if_neg h0, hq]; rfl
    obtain ⟨j, hf⟩ := zcy (k := 0) hq
    obtain ⟨-, -, hs⟩ := zhl hf
    rw [Nat.sub_zero] at hs
    rw [ha, ← hs]
    refine ZX Tryz.func39 Tryz.ntmps39 ?_
    conv => whnf
    repeat' (first | (refine MapN.go ?_ hf) | refine Zc ?_ | refine Zj ?_ | refine Zr ?_) <;> try (conv => whnf)
    all_goals rfl
end Go.Proofs.YtlamgfimgadnmaaGreat
namespace Go.Proofs.YtlamgfimgadnmaaGreat
open Go Go.CL
set_option maxRecDepth 10000
structure PJ (σ : Heap) (lo l : Nat) (ob : Ob) (b : Bool) (τ : Heap) : Prop where
  sub : Sub σ τ
  rec_ : τ l = some ob
  out : τ lo = some (.cells [.sc (.bool b)])
structure PJ1 (σ : Heap) (lo l : Nat) (ob : Ob) (pre : List Exp) (τ : Heap) : Prop where
  j : PJ σ lo l ob false τ
  no : pre.any zvv = false
theorem z4r {σ τ2 : Heap} {lo lr : Nat} {ob B : Ob} {b : Bool} (bs : Sub σ τ2) (z2 : σ lr = none) (a3 : lr ≠ lo) (hB : τ2 lr = some B) (h4 : τ2 lo = some (.cells [.sc (.bool b)])) : PJ σ lo lr ob b (upd τ2 lr ob) :=
  ⟨bs.upd z2, za _ _ _, by rw [zb _ _ (Ne.symm a3)]; exact h4⟩
theorem z4q {σ τ2 : Heap} {lo lr : Nat} {ob B : Ob} (bs : Sub σ τ2) (z0 : σ lo = none) (z2 : σ lr = none) (a3 : lr ≠ lo) (hB : τ2 lr = some B) : (upd τ2 lo (.cells [.sc (.bool true)])) lr = some B ∧ PJ σ lo lr ob true (upd (upd τ2 lo (.cells [.sc (.bool true)])) lr ob) :=
  ⟨by rw [zb _ _ a3]; exact hB, (bs.upd z0).upd z2, za _ _ _, by rw [zb _ _ (Ne.symm a3)]; exact za _ _ _⟩
theorem z4o {σ : Heap} {e : Exp} (he : ETame e) : CRun Tryz.prog 117 [e.cv] σ (· = .ret (.sc (.bool (putsE e))) σ) := by
  obtain ⟨k, ⟨vk, vn, vt, vl⟩, s, c, ps⟩ := e
  refine jq (X := G [1,2]) (z0h _) (zn8 _) (body := yz Tryz.f117) Tryz.func117 rfl (by kernel_rfl) (by kernel_rfl) ?_
  rw [Tryz.ntmps117]
  conv => whnf
  repeat' (first | (refine GetN.go ?_ (h := by exact z7u ‹_›)) | (refine CallN.many (zh7) ?_; rintro _ ⟨lb, hlb, rfl⟩) | refine Zq ?_ | refine Zu (fun l hl => ?_)) <;> try (conv => whnf)
  rename_i l1 h1
  refine RngN.two rfl fun f lr ob ob' hfn hob hob' hlr => ?_
  have n1 : l ≠ l1 := fun e => by subst e; rw [za] at hl; cases hl
  have n2 : lb ≠ l := fun e => by subst e; rw [za] at hlb; cases hlb
  have n3 : lb ≠ l1 := fun e => by subst e; rw [zb _ _ (Ne.symm n1), za] at hlb; cases hlb
  have n4 : lr ≠ lb := fun e => by subst e; rw [za] at hlr; cases hlr
  have n5 : lr ≠ l := fun e => by subst e; rw [zb _ _ (Ne.symm n2), za] at hlr; cases hlr
  have z0 : σ l = none := by rwa [zb _ _ n1] at hl
  have z1 : σ lb = none := by rwa [zb _ _ n2, zb _ _ n3] at hlb
  have n6 : lr ≠ l1 := fun e => by subst e; rw [zb _ _ (Ne.symm n3), zb _ _ (Ne.symm n1), za] at hlr; cases hlr
  have z2 : σ lr = none := by rwa [zb _ _ n4, zb _ _ n5, zb _ _ n6] at hlr
  refine ⟨fun τ => PJ1 σ l lr ob (vu (.mk k (.mk vk vn vt vl) s c ps)) τ, fun τ => PJ σ l lr ob' true τ ∧ putsE (.mk k (.mk vk vn vt vl) s c ps) = true, ?_, fun τ hJ => hJ.j.rec_, fun τ hJ => hJ.1.rec_, ?_, ?_⟩
  · have start : PJ1 σ l lr ob [] (upd (upd (upd (upd σ l1 (.cells [i64 k, i64 vk, i64 vn, .sc (.string vt), .vec (Val.cvs vl), .sc (.string s), .sc (.string c), .vec (Exp.cvs ps)])) l (.cells [.sc (.bool false)])) lb
        (.cells [i64 k, i64 vk, i64 vn, .sc (.string vt), .vec (Val.cvs vl), .sc (.string s), .sc (.string c), .vec (Exp.cvs ps)])) lr ob) :=
      ⟨⟨((((Sub.refl σ).upd h1).upd z0).upd z1).upd z2, za _ _ _, by rw [zb _ _ (Ne.symm n5), zb _ _ (Ne.symm n2)]; exact za _ _ _⟩, rfl⟩
    refine CRun.mono (zh6 (l := lr) (lb := lb) (J := PJ1 σ l lr ob) (K := fun τ => PJ σ l lr ob' true τ ∧ putsE (.mk k (.mk vk vn vt vl) s c ps) = true) ?_ he rfl start (by rw [zb _ _ (Ne.symm n4)]; exact za _ _ _)) ?_
    · intro pre x r τ hall hJ
      obtain ⟨⟨hsub, hrec, hout⟩, hno⟩ := hJ
      rw [hob] at hrec
      obtain ⟨xk, ⟨x1, x2, x3, x4⟩, xs, xc, xp⟩ := x
      refine zod (X := G [1,2]) (z0h _) (zn8 _) hfn hrec rfl rfl rfl ?_
      conv => whnf
      repeat' (first | refine Zh ?_ | refine Za ?_ | refine Zb ?_ | refine Zc ?_ | refine Zd ?_ | refine Ze ?_ | refine Zg ?_ | refine Zv (fun h => ?_) (fun h => ?_) | refine Zj ?_ | refine Zk ?_ | refine Zl ?_ | refine Zm ?_ | refine Zn ?_ | refine Zo ?_ | refine Zp ?_ | refine Zq ?_ | refine Zu (fun l hl => ?_) | refine Zr ?_) <;> try (conv => whnf)
      refine AsgN.mk hrec fun τ2 hτ2 => ?_
      have b0 : ∀ y, y ≠ lr → τ2 y = τ y := fun y hy => by rw [hτ2, zb _ _ hy]
      have bl := hτ2 ▸ za τ lr _
      have bs : Sub σ τ2 := by rw [hτ2]; exact hsub.upd z2
      have b3 := b0 l (Ne.symm n5)
      rw [← b3] at hout
      have q1 := z4r (ob := ob) bs z2 n5 bl hout
      have q2 := z4q (ob := ob') bs z0 z2 n5 bl
      have yes : zvv (.mk xk (.mk x1 x2 x3 x4) xs xc xp) = true → putsE (.mk k (.mk vk vn vt vl) s c ps) = true := fun h => by
        unfold putsE; rw [← hall]; simp [h]
      have nope : zvv (.mk xk (.mk x1 x2 x3 x4) xs xc xp) = false → (pre ++ [Exp.mk xk (.mk x1 x2 x3 x4) xs xc xp]).any zvv = false := fun h => by
        simp only [List.any_append, hno, List.any_cons, h, List.any_nil, Bool.or_false]
      clear hτ2 hall
      by_cases e1 : xk = 14
      · conv => whnf
        repeat' (first | refine Za ?_ | refine Zj ?_) <;> try (conv => whnf)
        all_goals exact RndN.mk (by rw [hob'] at q2; exact q2.1) ⟨_, Sub.refl _, .inr ⟨_, ⟨by rw [← hob']; exact q2.2, yes (decide_eq_true (by omega))⟩, rfl⟩⟩
      by_cases e2 : xk = 15
      · conv => whnf
        repeat' (first | refine Za ?_ | refine Zb ?_ | refine Zj ?_) <;> try (conv => whnf)
        all_goals exact RndN.mk (by rw [hob'] at q2; exact q2.1) ⟨_, Sub.refl _, .inr ⟨_, ⟨by rw [← hob']; exact q2.2, yes (decide_eq_true (by omega))⟩, rfl⟩⟩
      conv => whnf
      repeat' (first | refine Zb ?_) <;> try (conv => whnf)
      all_goals exact RndN.mk bl ⟨_, Sub.refl _, .inl ⟨_, ⟨by rw [← hob]; exact q1, nope (decide_eq_false (by omega))⟩, rfl⟩⟩
    · rintro out (⟨τ, hJ, rfl⟩ | ⟨τ, hK, rfl⟩)
      · exact ⟨_, _, .inl hJ, rfl⟩
      · exact ⟨_, _, .inr hK, rfl⟩
  · rintro τ τ' ⟨⟨hsub, hrec, hout⟩, hno⟩ hd
    have d0 : ∀ y, y ≠ lr → τ' y = τ y := fun y hy => by rw [hd, zbr _ hy]
    have hs' : Sub σ τ' := fun y o hy => by
      have : y ≠ lr := fun e => by subst e; rw [z2] at hy; cases hy
      rw [d0 y this]; exact hsub y o hy
    rw [← d0 l (Ne.symm n5)] at hout
    have hq : putsE (.mk k (.mk vk vn vt vl) s c ps) = false := hno
    rw [hq]
    clear hd d0 hob hob'
    have hs2 : Sub σ (upd τ' l (.cells [.sc (.bool false)])) := hs'.upd z0
    conv => whnf
    repeat' (first | (refine zpv hs2 ?_) | refine Zj ?_) <;> try (conv => whnf)
    all_goals rfl
  · rintro τ τ' ⟨⟨hsub, hrec, hout⟩, hyes⟩ hd
    have d0 : ∀ y, y ≠ lr → τ' y = τ y := fun y hy => by rw [hd, zbr _ hy]
    have hs' : Sub σ τ' := fun y o hy => by
      have : y ≠ lr := fun e => by subst e; rw [z2] at hy; cases hy
      rw [d0 y this]; exact hsub y o hy
    rw [← d0 l (Ne.symm n5)] at hout
    rw [hyes]
    clear hd d0 hob hob'
    conv => whnf
    repeat' (first | (refine zpv hs' ?_) | refine Zj ?_) <;> try (conv => whnf)
    all_goals rfl
def v6 {α : Type} (f : α → Int) : List α → Int
  | [] => 0
  | x :: r => if f x = 0 then v6 f r else f x
theorem zh2 {α : Type} {f : α → Int} : ∀ {l : List α} {i : Nat} {x : α}, l[i]? = some x → v6 f (l.take i) = 0 → f x ≠ 0 → v6 f l = f x
  | y :: r, 0, x, h, _, hx => by simp at h; subst h; simp [v6, hx]
  | y :: r, i + 1, x, h, h0, hx => by
    simp only [List.take_succ_cons, v6] at h0
    by_cases e : f y = 0
    · rw [if_pos e] at h0
      simp only [v6, if_pos e]
      exact zh2 (by simpa using h) h0 hx
    · rw [if_neg e] at h0; exact absurd h0 e
theorem zh3 {α : Type} {f : α → Int} : ∀ (a : List α) (x : α), v6 f a = 0 → f x = 0 → v6 f (a ++ [x]) = 0
  | [], x, _, h => by simp [v6, h]
  | y :: r, x, h0, h => by
    simp only [List.cons_append, v6] at h0 ⊢
    by_cases e : f y = 0
    · rw [if_pos e] at h0 ⊢; exact zh3 r x h0 h
    · rw [if_neg e] at h0; exact absurd h0 e
theorem zpu {α : Type} {f : α → Int} {l : List α} {i : Nat} {x : α} (h : l[i]? = some x) (h0 : v6 f (l.take i) = 0) (hx : f x = 0) : v6 f (l.take (i + 1)) = 0 := by
  rw [List.take_add_one, h]; exact zh3 _ _ h0 hx
def zex {α : Type} (f : List ByteArray → α → Int × List ByteArray) : List α → List ByteArray → Int × List ByteArray
  | [], L => (0, L)
  | x :: r, L => if (f L x).1 = 0 then zex f r (f L x).2 else f L x
theorem zim {α : Type} {f : List ByteArray → α → Int × List ByteArray} : ∀ {l : List α} {i : Nat} {x : α} {L Li : List ByteArray}, l[i]? = some x → zex f (l.take i) L = (0, Li) → (f Li x).1 ≠ 0 → zex f l L = f Li x
  | y :: r, 0, x, L, Li, h, h0, hx => by
    simp at h; subst h
    simp only [List.take_zero, zex, Prod.mk.injEq, true_and] at h0; subst h0
    simp only [zex, if_neg hx]
  | y :: r, i + 1, x, L, Li, h, h0, hx => by
    simp only [List.take_succ_cons, zex] at h0
    by_cases e : (f L y).1 = 0
    · rw [if_pos e] at h0
      simp only [zex, if_pos e]
      exact zim (by simpa using h) h0 hx
    · rw [if_neg e] at h0; rw [h0] at e; exact absurd rfl e
theorem zqo {α : Type} {f : List ByteArray → α → Int × List ByteArray} : ∀ (a : List α) (x : α) {L Li : List ByteArray}, zex f a L = (0, Li) → (f Li x).1 = 0 → zex f (a ++ [x]) L = (0, (f Li x).2)
  | [], x, L, Li, h0, h => by
    simp only [zex, Prod.mk.injEq, true_and] at h0; subst h0
    simp only [List.nil_append, zex, if_pos h]
  | y :: r, x, L, Li, h0, h => by
    simp only [List.cons_append, zex] at h0 ⊢
    by_cases e : (f L y).1 = 0
    · rw [if_pos e] at h0 ⊢; exact zqo r x h0 h
    · rw [if_neg e] at h0; rw [h0] at e; exact absurd rfl e
theorem zlk {α : Type} {f : List ByteArray → α → Int × List ByteArray} {l : List α} {i : Nat} {x : α} {L Li : List ByteArray} (h : l[i]? = some x) (h0 : zex f (l.take i) L = (0, Li)) (hx : (f Li x).1 = 0) : zex f (l.take (i + 1)) L = (0, (f Li x).2) := by
  rw [List.take_add_one, h]; exact zqo _ _ h0 hx
theorem z7k {a b : Int} {τ : Heap} (h : b = a) : COut.ret (i64 a) τ = .ret (i64 b) τ := by rw [h]
theorem z2k {τ : Heap} {lm : Nat} {L : List ByteArray} (hm : τ lm = some (.mq true (yf L))) {e : Exp} (he : ETame e) (hlen : (vu e).length ≤ 1000) :
    CRun Tryz.prog 99 [.map lm, e.cv] τ (· = .ret (i64 (zzm L e)) τ) := by
  have c1 := z4o (σ := τ) he
  obtain ⟨k, ⟨vk, vn, vt, vl⟩, s, c, ps⟩ := e
  have c2 := zu9 (σ := τ) he hlen
  have h3 := zzi (zh (vu (.mk k (.mk vk vn vt vl) s c ps))) []
  have h4 := zck (vu (.mk k (.mk vk vn vt vl) s c ps))
  have hE : zzm L (.mk k (.mk vk vn vt vl) s c ps) = (if putsE (.mk k (.mk vk vn vt vl) s c ps) then 2 else if zvf L (zu8 (.mk k (.mk vk vn vt vl) s c ps)) then 3 else 0) := rfl
  unfold zu8 at hE
  generalize (zh (vu (.mk k (.mk vk vn vt vl) s c ps))).foldl ins [] = N at hE c2 h3
  have hN : N.length ≤ 1000 := by rw [List.length_nil] at h3; omega
  have hNl := jk N
  have ch := fun s => zvc (s := s) hm
  refine ZX Tryz.func99 Tryz.ntmps99 ?_
  cases hp : putsE (.mk k (.mk vk vn vt vl) s c ps) <;> rw [hp] at c1 hE
  case true =>
    conv => whnf
    repeat' (first | (refine ZC c1 ?_) | refine Zh ?_ | refine Za ?_ | refine Zb ?_ | refine Zc ?_ | refine Zd ?_ | refine Ze ?_ | refine Zg ?_ | refine Zv (fun h => ?_) (fun h => ?_) | refine Zj ?_ | refine Zk ?_ | refine Zl ?_ | refine Zm ?_ | refine Zn ?_ | refine Zo ?_ | refine Zp ?_ | refine Zq ?_ | refine Zu (fun l hl => ?_) | refine Zr ?_) <;> try (conv => whnf)
    all_goals exact z7k hE
  rw [if_neg (by decide)] at hE
  conv => whnf
  repeat' (first | (refine ZC c1 ?_) | (refine ZC c2 ?_) | refine Zh ?_ | refine Za ?_ | refine Zb ?_ | refine Zc ?_ | refine Zd ?_ | refine Ze ?_ | refine Zg ?_ | refine Zv (fun h => ?_) (fun h => ?_) | refine Zj ?_ | refine Zk ?_ | refine Zl ?_ | refine Zm ?_ | refine Zn ?_ | refine Zo ?_ | refine Zp ?_ | refine Zq ?_ | refine Zu (fun l hl => ?_) | refine Zr ?_) <;> try (conv => whnf)
  refine LoopN.rule (α := Nat) (fun i => ⟨21, [(0, .map lm), (4, i64 0), (10, .vec (wq N)), (11, i64 (wq N).length), (12, i64 i)], []⟩)
    (fun _ => τ) (fun i => N.length - i) (fun i => i ≤ N.length ∧ zvf L (N.take i) = false) ?_ 0 ⟨by omega, rfl⟩ ?_
  rotate_left
  · exact ZW
  rintro i K ⟨h1, h2⟩ hK
  dsimp only at h1 h2 hK ⊢
  by_cases hi : i < N.length
  · obtain ⟨x, hx, hg, hg'⟩ := zfq hi
    have ch := ch x
    cases hh : zax L x <;> rw [hh] at ch
    · have hmi : zvf L N = true := List.any_eq_true.2 ⟨x, hx, by rw [hh]; rfl⟩
      rw [hmi] at hE
      conv => whnf
      repeat' (first | (refine ZC ch ?_) | refine Zh ?_ | refine Za ?_ | refine Zb ?_ | refine Zc ?_ | refine Zd ?_ | refine Ze ?_ | refine Zg ?_ | refine Zv (fun h => ?_) (fun h => ?_) | refine Zj ?_ | refine Zk ?_ | refine Zl ?_ | refine Zm ?_ | refine Zn ?_ | refine Zo ?_ | refine Zp ?_ | refine Zq ?_ | refine Zu (fun l hl => ?_) | refine Zr ?_) <;> try (conv => whnf)
      all_goals exact z7k hE
    · conv => whnf
      repeat' (first | (refine ZC ch ?_) | refine Zh ?_ | refine Za ?_ | refine Zb ?_ | refine Zc ?_ | refine Zd ?_ | refine Ze ?_ | refine Zg ?_ | refine Zv (fun h => ?_) (fun h => ?_) | refine Zj ?_ | refine Zk ?_ | refine Zl ?_ | refine Zm ?_ | refine Zn ?_ | refine Zo ?_ | refine Zp ?_ | refine Zq ?_ | refine Zu (fun l hl => ?_) | refine Zr ?_) <;> try (conv => whnf)
      refine hK (i + 1) _ _ ⟨by omega, ?_⟩ (by omega) ?_
      · unfold zvf at h2 ⊢; rw [List.take_add_one, hg, List.any_append, h2]; simp [hh]
      exact ZW
  · rw [List.take_of_length_le (by omega)] at h2
    rw [h2] at hE
    conv => whnf
    repeat' (first | refine Zh ?_ | refine Za ?_ | refine Zb ?_ | refine Zc ?_ | refine Zd ?_ | refine Ze ?_ | refine Zg ?_ | refine Zv (fun h => ?_) (fun h => ?_) | refine Zj ?_ | refine Zk ?_ | refine Zl ?_ | refine Zm ?_ | refine Zn ?_ | refine Zo ?_ | refine Zp ?_ | refine Zq ?_ | refine Zu (fun l hl => ?_) | refine Zr ?_) <;> try (conv => whnf)
    all_goals exact z7k hE
def zxv (L : List ByteArray) (p : Pt) : Int := zzm L p.e
def zb8 (cr : Bool) (L : List ByteArray) (s : Sp) : Int × List ByteArray :=
  if v6 (zxv L) s.props = 0 then (if cr && (zax L s.name && !decide (s.label = ⟨#[]⟩ ∧ s.props.length = 0)) then (4, L) else (0, zk2 L s.name)) else (v6 (zxv L) s.props, L)
def zxz (cr : Bool) (L : List ByteArray) (h : Hp) : Int × List ByteArray :=
  if cr && decide (h.kind = ⟨#[]⟩ ∨ h.way = 0) then (2, L) else if zax L h.name then (4, L) else zb8 cr (zk2 L h.name) h.spot
def zf1 (cr : Bool) (L : List ByteArray) (p : Pth) : Int × List ByteArray :=
  if (zb8 cr L p.spot).1 = 0 then zex (zxz cr) p.hops (zb8 cr L p.spot).2 else zb8 cr L p.spot
def Sh (e : Exp) : Prop := (vu e).length ≤ 1000
def z6c (s : Sp) : Prop := ∀ p ∈ s.props, Sh p.e
theorem zxm {q : Int × List ByteArray} {a : Int} {L : List ByteArray} {τ : Heap} {lm : Nat} (h : q = (a, L)) : COut.ret (i64 a) (upd τ lm (.mq true (yf L))) = .ret (i64 q.1) (upd τ lm (.mq true (yf q.2))) := by rw [h]
theorem zp9 {q : Int × List ByteArray} {a : Int} {L : List ByteArray} {τ : Heap} {lm : Nat} (hm : τ lm = some (.mq true (yf L))) (h : q = (a, L)) : COut.ret (i64 a) τ = .ret (i64 q.1) (upd τ lm (.mq true (yf q.2))) := by rw [h, ze3 hm]
theorem zvb {τ : Heap} {lm : Nat} {L : List ByteArray} (hm : τ lm = some (.mq true (yf L))) {s : Sp} {cr : Bool} (hs : SpT s) (hh : z6c s) :
    CRun Tryz.prog 72 [.map lm, s.cv, .sc (.bool cr)] τ (· = .ret (i64 (zb8 cr L s).1) (upd τ lm (.mq true (yf (zb8 cr L s).2)))) := by
  obtain ⟨sn, sl, ps⟩ := s
  obtain ⟨t1, t2, t3, t4⟩ := hs
  dsimp only at t1 t2 t3 t4
  have e3 := zis ps
  have hE : zb8 cr L ⟨sn, sl, ps⟩ = if v6 (zxv L) ps = 0 then (if cr && (zax L sn && !decide (sl = ⟨#[]⟩ ∧ ps.length = 0)) then (4, L) else (0, zk2 L sn)) else (v6 (zxv L) ps, L) := rfl
  generalize zb8 cr L ⟨sn, sl, ps⟩ = Q at hE ⊢
  have c1 := zvc (s := sn) hm
  have c2 := zvd (s := sn) hm
  refine ZX Tryz.func72 Tryz.ntmps72 ?_
  conv => whnf
  repeat' (first | refine Zh ?_ | refine Za ?_ | refine Zb ?_ | refine Zc ?_ | refine Zd ?_ | refine Ze ?_ | refine Zg ?_ | refine Zv (fun h => ?_) (fun h => ?_) | refine Zj ?_ | refine Zk ?_ | refine Zl ?_ | refine Zm ?_ | refine Zn ?_ | refine Zo ?_ | refine Zp ?_ | refine Zq ?_ | refine Zu (fun l hl => ?_) | refine Zr ?_) <;> try (conv => whnf)
  refine LoopN.rule (α := Nat) (fun i => ⟨47, [(0, .map lm), (2, .sc (.bool cr)), (4, .ptr (.f 4) 0), (6, i64 0), (11, .vec (pts ps)), (12, i64 (pts ps).length), (13, i64 i)], [(4, .cells [.sc (.string sn), .sc (.string sl), .vec (pts ps)])]⟩)
    (fun _ => τ) (fun i => ps.length - i) (fun i => i ≤ ps.length ∧ v6 (zxv L) (ps.take i) = 0) ?_ 0 ⟨by omega, rfl⟩ ?_
  rotate_left
  · exact ZW
  rintro i K ⟨h1, h2⟩ hK
  dsimp only at h1 h2 hK ⊢
  by_cases hi : i < ps.length
  · obtain ⟨⟨pn, ⟨ek, ⟨vk, vn, vt, vl⟩, es, ec, ep⟩⟩, hmm, hg, hg'⟩ := za5 (f := Pt.cv) hi
    have c3 := z2k hm (t4 _ hmm).e (hh _ hmm)
    dsimp only at c3
    have hit := zh2 (f := zxv L) hg h2
    have stp := zpu (f := zxv L) hg h2
    unfold zxv at hit stp
    dsimp only at hit stp
    by_cases h0 : zzm L (.mk ek (.mk vk vn vt vl) es ec ep) = 0
    · rw [h0] at c3
      conv => whnf
      repeat' (first | (refine ZC c3 ?_) | refine Za ?_ | refine Zd ?_ | refine Zm ?_ | refine Zo ?_ | refine Zp ?_) <;> try (conv => whnf)
      refine hK (i + 1) _ _ ⟨by omega, stp h0⟩ (by omega) ?_
      exact ZW
    · have hit : v6 (zxv L) ps = _ := hit h0
      rw [if_neg (by rw [hit]; exact h0), hit] at hE
      conv => whnf
      repeat' (first | (refine ZC c3 ?_) | refine Za ?_ | refine Zc ?_ | refine Zm ?_ | refine Zo ?_ | refine Zp ?_ | refine Zr ?_) <;> try (conv => whnf)
      all_goals exact zp9 hm hE
  · rw [List.take_of_length_le (by omega)] at h2
    rw [if_pos h2] at hE
    clear hK
    cases cr
    · rw [Bool.false_and, if_neg (by decide)] at hE
      conv => whnf
      repeat' (first | (refine ZC c2 ?_) | refine Zb ?_ | refine Zq ?_ | refine Zr ?_) <;> try (conv => whnf)
      all_goals exact zxm hE
    cases hb : zax L sn <;> rw [hb] at c1 hE
    · rw [Bool.false_and, Bool.and_false, if_neg (by decide)] at hE
      conv => whnf
      repeat' (first | (refine ZC c1 ?_) | (refine ZC c2 ?_) | refine Zb ?_ | refine Zp ?_ | refine Zq ?_ | refine Zr ?_) <;> try (conv => whnf)
      all_goals exact zxm hE
    by_cases a1 : sl = ⟨#[]⟩
    · by_cases a2 : ps.length = 0
      · rw [decide_eq_true ⟨a1, a2⟩] at hE
        simp only [Bool.not_true, Bool.and_false, if_false] at hE
        rw [if_neg (by decide)] at hE
        conv => whnf
        repeat' (first | (refine ZC c1 ?_) | (refine ZC c2 ?_) | refine Zb ?_ | refine Zd ?_ | refine Zp ?_ | refine Zq ?_ | refine Zr ?_) <;> try (conv => whnf)
        all_goals exact zxm hE
      · rw [decide_eq_false (fun h => a2 h.2)] at hE
        simp only [Bool.not_false, Bool.and_true, if_true] at hE
        conv => whnf
        repeat' (first | (refine ZC c1 ?_) | refine Za ?_ | refine Zb ?_ | refine Zd ?_ | refine Zp ?_ | refine Zr ?_) <;> try (conv => whnf)
        all_goals exact zp9 hm hE
    · rw [decide_eq_false (fun h => a1 h.1)] at hE
      simp only [Bool.not_false, Bool.and_true, if_true] at hE
      conv => whnf
      repeat' (first | (refine ZC c1 ?_) | refine Zb ?_ | refine Zc ?_ | refine Zp ?_ | refine Zr ?_) <;> try (conv => whnf)
      all_goals exact zp9 hm hE
theorem z45 {τ : Heap} {lm : Nat} {L : List ByteArray} (hm : τ lm = some (.mq true (yf L))) {h : Hp} {cr : Bool} (hs : HpT h) (hh : z6c h.spot) :
    CRun Tryz.prog 73 [.map lm, h.cv, .sc (.bool cr)] τ (· = .ret (i64 (zxz cr L h).1) (upd τ lm (.mq true (yf (zxz cr L h).2)))) := by
  obtain ⟨hn, hk, hw, ⟨sn, sl, ps⟩⟩ := h
  obtain ⟨t1, t2, t3, t4⟩ := hs
  dsimp only at t1 t2 t3 t4 hh
  have hE : zxz cr L ⟨hn, hk, hw, ⟨sn, sl, ps⟩⟩ = if cr && decide (hk = ⟨#[]⟩ ∨ hw = 0) then (2, L) else if zax L hn then (4, L) else zb8 cr (zk2 L hn) ⟨sn, sl, ps⟩ := rfl
  generalize zxz cr L ⟨hn, hk, hw, ⟨sn, sl, ps⟩⟩ = Q at hE ⊢
  have c1 := zvc (s := hn) hm
  have c2 := zvd (s := hn) hm
  have hm2 : (upd τ lm (.mq true (yf (zk2 L hn)))) lm = some (.mq true (yf (zk2 L hn))) := za _ _ _
  have c3 := zvb (cr := cr) hm2 t4 hh
  rw [xe] at c3
  generalize upd τ lm (.mq true (yf (zk2 L hn))) = τ2 at c2 c3
  refine ZX Tryz.func73 Tryz.ntmps73 ?_
  have fin : (cr && decide (hk = ⟨#[]⟩ ∨ hw = 0)) = false → (zax L hn = true → Q = (4, L)) ∧ (zax L hn = false → Q = zb8 cr (zk2 L hn) ⟨sn, sl, ps⟩) := fun h => by
    rw [h, if_neg (by decide)] at hE
    exact ⟨fun h => by rw [hE, h]; rfl, fun h => by rw [hE, h]; rfl⟩
  have two : (cr && decide (hk = ⟨#[]⟩ ∨ hw = 0)) = true → Q = (2, L) := fun h => by rw [hE, h]; rfl
  cases cr
  · obtain ⟨f1, f2⟩ := fin rfl
    cases hb : zax L hn <;> rw [hb] at c1
    · have f2 := f2 hb
      subst f2
      conv => whnf
      repeat' (first | (refine ZC c1 ?_) | (refine ZC c2 ?_) | (refine ZC c3 ?_) | refine Zp ?_ | refine Zq ?_ | refine Zr ?_) <;> try (conv => whnf)
      all_goals rfl
    · conv => whnf
      repeat' (first | (refine ZC c1 ?_) | refine Zp ?_ | refine Zr ?_) <;> try (conv => whnf)
      all_goals exact zp9 hm (f1 hb)
  by_cases a1 : hk = ⟨#[]⟩
  · conv => whnf
    repeat' (first | refine Za ?_ | refine Zr ?_) <;> try (conv => whnf)
    all_goals exact zp9 hm (two (by simp [a1]))
  by_cases a2 : hw = 0
  · conv => whnf
    repeat' (first | refine Za ?_ | refine Zb ?_ | refine Zr ?_) <;> try (conv => whnf)
    all_goals exact zp9 hm (two (by simp [a2]))
  obtain ⟨f1, f2⟩ := fin (by simp [a1, a2])
  cases hb : zax L hn <;> rw [hb] at c1
  · have f2 := f2 hb
    subst f2
    conv => whnf
    repeat' (first | (refine ZC c1 ?_) | (refine ZC c2 ?_) | (refine ZC c3 ?_) | refine Zb ?_ | refine Zp ?_ | refine Zq ?_ | refine Zr ?_) <;> try (conv => whnf)
    all_goals rfl
  · conv => whnf
    repeat' (first | (refine ZC c1 ?_) | refine Zb ?_ | refine Zp ?_ | refine Zr ?_) <;> try (conv => whnf)
    all_goals exact zp9 hm (f1 hb)
theorem z2o {σ : Heap} {ns : List ByteArray} {s : ByteArray} (hk : ns.length ≤ 1000000000) : CRun Tryz.prog 80 [.vec (sts ns), .sc (.string s)] σ (· = .ret (.sc (.bool (zax ns s))) σ) := by
  have e3 := z1u ns
  refine ZX Tryz.func80 Tryz.ntmps80 ?_
  conv => whnf
  repeat' (first | refine Zh ?_ | refine Za ?_ | refine Zb ?_ | refine Zc ?_ | refine Zd ?_ | refine Ze ?_ | refine Zg ?_ | refine Zv (fun h => ?_) (fun h => ?_) | refine Zj ?_ | refine Zk ?_ | refine Zl ?_ | refine Zm ?_ | refine Zn ?_ | refine Zo ?_ | refine Zp ?_ | refine Zq ?_ | refine Zu (fun l hl => ?_) | refine Zr ?_) <;> try (conv => whnf)
  refine LoopN.rule (α := Nat) (fun i => ⟨18, [(0, .vec (sts ns)), (1, .sc (.string s)), (4, .sc (.bool false)), (5, i64 i)], []⟩)
    (fun _ => σ) (fun i => ns.length - i) (fun i => i ≤ ns.length ∧ ∀ x ∈ ns.take i, ¬ x = s) ?_ 0 ⟨by omega, by simp⟩ ?_
  rotate_left
  · exact ZW
  rintro i K ⟨h1, h2⟩ hK
  dsimp only at h1 h2 hK ⊢
  by_cases hi : i < ns.length
  · obtain ⟨pn, hm, hg, hg'⟩ := za5 (f := fun s : ByteArray => CV.sc (.string s)) hi
    by_cases he : pn = s
    · have hh : zax ns s = true := hasB_iff.2 (he ▸ hm)
      conv => whnf
      repeat' (first | refine Zh ?_ | refine Za ?_ | refine Zb ?_ | refine Zc ?_ | refine Zd ?_ | refine Ze ?_ | refine Zg ?_ | refine Zv (fun h => ?_) (fun h => ?_) | refine Zj ?_ | refine Zk ?_ | refine Zl ?_ | refine Zm ?_ | refine Zn ?_ | refine Zo ?_ | refine Zp ?_ | refine Zq ?_ | refine Zu (fun l hl => ?_) | refine Zr ?_) <;> try (conv => whnf)
      all_goals exact z7 hh
    · conv => whnf
      repeat' (first | refine Zh ?_ | refine Za ?_ | refine Zb ?_ | refine Zc ?_ | refine Zd ?_ | refine Ze ?_ | refine Zg ?_ | refine Zv (fun h => ?_) (fun h => ?_) | refine Zj ?_ | refine Zk ?_ | refine Zl ?_ | refine Zm ?_ | refine Zn ?_ | refine Zo ?_ | refine Zp ?_ | refine Zq ?_ | refine Zu (fun l hl => ?_) | refine Zr ?_) <;> try (conv => whnf)
      refine hK (i + 1) _ _ ⟨by omega, ?_⟩ (by omega) ?_
      · rw [List.take_add_one, hg]
        intro x hx
        rcases List.mem_append.1 hx with hx | hx
        · exact h2 x hx
        · rw [List.mem_singleton.1 hx]; exact he
      exact ZW
  · rw [List.take_of_length_le (by omega)] at h2
    have hh := z2x h2
    conv => whnf
    repeat' (first | refine Zh ?_ | refine Za ?_ | refine Zb ?_ | refine Zc ?_ | refine Zd ?_ | refine Ze ?_ | refine Zg ?_ | refine Zv (fun h => ?_) (fun h => ?_) | refine Zj ?_ | refine Zk ?_ | refine Zl ?_ | refine Zm ?_ | refine Zn ?_ | refine Zo ?_ | refine Zp ?_ | refine Zq ?_ | refine Zu (fun l hl => ?_) | refine Zr ?_) <;> try (conv => whnf)
    all_goals exact z7 hh
def mtE : Exp → Bool
  | .mk k v s c ps => decide (k = 0) && (zgl v && (decide (s = ⟨#[]⟩) && (decide (c = ⟨#[]⟩) && decide (ps.length = 0))))
def eB (c : Cl) : Bool := mtE c.e
def nullE : Exp := .mk 0 (.mk 0 0 ⟨#[]⟩ []) ⟨#[]⟩ ⟨#[]⟩ []
theorem z2b : ETame nullE := .mk (.mk (by omega) (by omega) (by decide) (by decide) (by simp)) (by decide) (by decide) (by simp) (by simp)
theorem ClT.p0 {c : Cl} (h : ClT c) : ClT { c with paths := [] } := ⟨h.k, by simp, by simp, h.e, h.n, h.i, h.it, h.o, h.ot, h.s, h.l, h.t, h.tt, h.m, h.mt⟩
theorem ClT.e0 {c : Cl} (h : ClT c) : ClT { c with e := nullE } := ⟨h.k, h.p, h.pt, z2b, h.n, h.i, h.it, h.o, h.ot, h.s, h.l, h.t, h.tt, h.m, h.mt⟩
theorem ClT.n0 {c : Cl} (h : ClT c) : ClT { c with name := ⟨#[]⟩ } := ⟨h.k, h.p, h.pt, h.e, Nat.zero_le _, h.i, h.it, h.o, h.ot, h.s, h.l, h.t, h.tt, h.m, h.mt⟩
theorem ClT.r0 {c : Cl} (h : ClT c) : ClT { c with items := [], dist := false, orders := [], skip := -1, limit := -1 } := ⟨h.k, h.p, h.pt, h.e, h.n, by simp, by simp, by simp, by simp, by simp [Sm], by simp [Sm], h.t, h.tt, h.m, h.mt⟩
theorem ClT.t0 {c : Cl} (h : ClT c) : ClT { c with tos := [] } := ⟨h.k, h.p, h.pt, h.e, h.n, h.i, h.it, h.o, h.ot, h.s, h.l, by simp, by simp, h.m, h.mt⟩
theorem ClT.m0 {c : Cl} (h : ClT c) : ClT { c with names := [], det := false } := ⟨h.k, h.p, h.pt, h.e, h.n, h.i, h.it, h.o, h.ot, h.s, h.l, h.t, h.tt, by simp, by simp⟩
def z6d (p : Pth) : Prop := z6c p.spot ∧ ∀ h ∈ p.hops, z6c h.spot
theorem zyx {τ : Heap} {lm : Nat} {L : List ByteArray} (hm : τ lm = some (.mq true (yf L))) {ps : List Pth} {cr : Bool} (hk : ps.length ≤ 1000) (ht : ∀ p ∈ ps, PthT p ∧ z6d p) :
    CRun Tryz.prog 40 [.map lm, .vec (ze7 ps), .sc (.bool cr)] τ (· = .ret (i64 (zex (zf1 cr) ps L).1) (upd τ lm (.mq true (yf (zex (zf1 cr) ps L).2)))) := by
  have e3 := zit ps
  obtain ⟨Q, hQ⟩ : ∃ Q, Q = zex (zf1 cr) ps L := ⟨_, rfl⟩
  rw [← hQ]
  refine ZX Tryz.func40 Tryz.ntmps40 ?_
  conv => whnf
  repeat' (first | refine Zh ?_ | refine Za ?_ | refine Zb ?_ | refine Zc ?_ | refine Zd ?_ | refine Ze ?_ | refine Zg ?_ | refine Zv (fun h => ?_) (fun h => ?_) | refine Zj ?_ | refine Zk ?_ | refine Zl ?_ | refine Zm ?_ | refine Zn ?_ | refine Zo ?_ | refine Zp ?_ | refine Zq ?_ | refine Zu (fun l hl => ?_) | refine Zr ?_) <;> try (conv => whnf)
  refine LoopN.rule (α := Nat × List ByteArray) (fun i => ⟨43, [(0, .map lm), (2, .sc (.bool cr)), (6, i64 0), (13, .vec (ze7 ps)), (14, i64 (ze7 ps).length), (15, i64 i.1)], []⟩)
    (fun i => upd τ lm (.mq true (yf i.2))) (fun i => ps.length - i.1) (fun i => i.1 ≤ ps.length ∧ zex (zf1 cr) (ps.take i.1) L = (0, i.2)) ?_ (0, L) ⟨by dsimp only; omega, rfl⟩ ?_
  rotate_left
  · rw [ze3 hm]
    exact ZW
  rintro ⟨i, Li⟩ K ⟨h1, h2⟩ hK
  dsimp only at h1 h2 hK ⊢
  have hm2 : (upd τ lm (.mq true (yf Li))) lm = some (.mq true (yf Li)) := za _ _ _
  by_cases hi : i < ps.length
  · obtain ⟨⟨⟨sn, sl, sp⟩, hs⟩, hmm, hg, hg'⟩ := za5 (f := Pth.cv) hi
    obtain ⟨⟨t1, t2, t3⟩, t4, t5⟩ := ht _ hmm
    dsimp only at t1 t2 t3 t4 t5
    have c1 := zvb (cr := cr) hm2 t1 t4
    rw [xe] at c1
    have hit := zim (f := zf1 cr) hg h2
    have stp := zlk (f := zf1 cr) hg h2
    rw [← hQ] at hit
    have e5 := zpl hs
    have hp : zf1 cr Li ⟨⟨sn, sl, sp⟩, hs⟩ = if (zb8 cr Li ⟨sn, sl, sp⟩).1 = 0 then zex (zxz cr) hs (zb8 cr Li ⟨sn, sl, sp⟩).2 else zb8 cr Li ⟨sn, sl, sp⟩ := rfl
    generalize zb8 cr Li ⟨sn, sl, sp⟩ = S at hp c1
    obtain ⟨sc, SL⟩ := S
    dsimp only at hp c1
    by_cases h0 : sc = 0
    case neg =>
      rw [if_neg h0] at hp
      rw [hp] at hit
      have hit := hit h0
      conv => whnf
      repeat' (first | (refine ZC c1 ?_) | refine Zh ?_ | refine Za ?_ | refine Zb ?_ | refine Zc ?_ | refine Zd ?_ | refine Ze ?_ | refine Zg ?_ | refine Zv (fun h => ?_) (fun h => ?_) | refine Zj ?_ | refine Zk ?_ | refine Zl ?_ | refine Zm ?_ | refine Zn ?_ | refine Zo ?_ | refine Zp ?_ | refine Zq ?_ | refine Zu (fun l hl => ?_) | refine Zr ?_) <;> try (conv => whnf)
      all_goals exact zxm hit
    rw [if_pos h0] at hp
    rw [hp] at hit stp
    subst h0
    conv => whnf
    repeat' (first | (refine ZC c1 ?_) | refine Zh ?_ | refine Za ?_ | refine Zb ?_ | refine Zc ?_ | refine Zd ?_ | refine Ze ?_ | refine Zg ?_ | refine Zv (fun h => ?_) (fun h => ?_) | refine Zj ?_ | refine Zk ?_ | refine Zl ?_ | refine Zm ?_ | refine Zn ?_ | refine Zo ?_ | refine Zp ?_ | refine Zq ?_ | refine Zu (fun l hl => ?_) | refine Zr ?_) <;> try (conv => whnf)
    refine LoopN.rule (α := Nat × List ByteArray) (fun k => ⟨43, [(0, .map lm), (2, .sc (.bool cr)), (6, i64 0), (13, .vec (ze7 ps)), (14, i64 (ze7 ps).length), (15, i64 i), (28, .vec (hps hs)), (29, i64 (hps hs).length), (30, i64 k.1)], []⟩)
      (fun k => upd τ lm (.mq true (yf k.2))) (fun k => hs.length - k.1) (fun k => k.1 ≤ hs.length ∧ zex (zxz cr) (hs.take k.1) SL = (0, k.2)) ?_ (0, SL) ⟨by dsimp only; omega, rfl⟩ ?_
    rotate_left
    · exact ZW
    rintro ⟨k, Lk⟩ K ⟨h3, h4⟩ hK2
    dsimp only at h3 h4 hK2 ⊢
    have hm3 : (upd τ lm (.mq true (yf Lk))) lm = some (.mq true (yf Lk)) := za _ _ _
    by_cases hk : k < hs.length
    · obtain ⟨⟨hn, hkd, hw, ⟨xn, xl, xp⟩⟩, um, ug, ug'⟩ := za5 (f := Hp.cv) hk
      have d1 := z45 (cr := cr) hm3 (t3 _ um) (t5 _ um)
      rw [xe] at d1
      have hit2 := zim (f := zxz cr) ug h4
      have stp2 := zlk (f := zxz cr) ug h4
      generalize zxz cr Lk ⟨hn, hkd, hw, ⟨xn, xl, xp⟩⟩ = S at hit2 stp2 d1
      obtain ⟨sc, SL2⟩ := S
      dsimp only at hit2 stp2 d1
      by_cases h0 : sc = 0
      case neg =>
        have hit2 := hit2 h0
        rw [hit2] at hit
        have hit := hit h0
        conv => whnf
        repeat' (first | (refine ZC d1 ?_) | refine Zh ?_ | refine Za ?_ | refine Zb ?_ | refine Zc ?_ | refine Zd ?_ | refine Ze ?_ | refine Zg ?_ | refine Zv (fun h => ?_) (fun h => ?_) | refine Zj ?_ | refine Zk ?_ | refine Zl ?_ | refine Zm ?_ | refine Zn ?_ | refine Zo ?_ | refine Zp ?_ | refine Zq ?_ | refine Zu (fun l hl => ?_) | refine Zr ?_) <;> try (conv => whnf)
        all_goals exact zxm hit
      have stp3 := stp2 h0
      clear stp2
      subst h0
      conv => whnf
      repeat' (first | (refine ZC d1 ?_) | refine Zh ?_ | refine Za ?_ | refine Zb ?_ | refine Zc ?_ | refine Zd ?_ | refine Ze ?_ | refine Zg ?_ | refine Zv (fun h => ?_) (fun h => ?_) | refine Zj ?_ | refine Zk ?_ | refine Zl ?_ | refine Zm ?_ | refine Zn ?_ | refine Zo ?_ | refine Zp ?_ | refine Zq ?_ | refine Zu (fun l hl => ?_) | refine Zr ?_) <;> try (conv => whnf)
      refine hK2 (k + 1, SL2) _ _ ⟨by dsimp only; omega, stp3⟩ (by dsimp only; omega) ?_
      exact ZW
    · rw [List.take_of_length_le (by omega)] at h4
      rw [h4] at stp
      have stp := stp rfl
      conv => whnf
      repeat' (first | refine Zh ?_ | refine Za ?_ | refine Zb ?_ | refine Zc ?_ | refine Zd ?_ | refine Ze ?_ | refine Zg ?_ | refine Zv (fun h => ?_) (fun h => ?_) | refine Zj ?_ | refine Zk ?_ | refine Zl ?_ | refine Zm ?_ | refine Zn ?_ | refine Zo ?_ | refine Zp ?_ | refine Zq ?_ | refine Zu (fun l hl => ?_) | refine Zr ?_) <;> try (conv => whnf)
      refine hK (i + 1, Lk) _ _ ⟨by dsimp only; omega, stp⟩ (by dsimp only; omega) ?_
      exact ZW
  · rw [List.take_of_length_le (by omega), ← hQ] at h2
    rw [h2]
    conv => whnf
    repeat' (first | refine Zh ?_ | refine Za ?_ | refine Zb ?_ | refine Zc ?_ | refine Zd ?_ | refine Ze ?_ | refine Zg ?_ | refine Zv (fun h => ?_) (fun h => ?_) | refine Zj ?_ | refine Zk ?_ | refine Zl ?_ | refine Zm ?_ | refine Zn ?_ | refine Zo ?_ | refine Zp ?_ | refine Zq ?_ | refine Zu (fun l hl => ?_) | refine Zr ?_) <;> try (conv => whnf)
    all_goals rfl
end Go.Proofs.YtlamgfimgadnmaaGreat
