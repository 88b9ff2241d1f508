/-
  Contracts of the functions that the law reaches.
-/
import Derived.Test.YthllnbfkfobcjaaGreatPta
import Derived.Test.YthllnbfkfobcjaaGreatPt
import Derived.Test.YthllnbfkfobcjaaGreatFwa
set_option linter.unusedVariables false
set_option linter.unusedSimpArgs false
namespace Go.Proofs.YthllnbfkfobcjaaGreat
open Go Go.CL
set_option maxRecDepth 10000
mutual
def subsE : Exp → List Exp
  | .mk k v s c ps => .mk k v s c ps :: subsL ps
def subsL : List Exp → List Exp
  | [] => []
  | e :: r => subsE e ++ subsL r
end
theorem subsL_map (l : List Exp) : subsL l = (l.map subsE).flatten := by
  induction l with
  | nil => rfl
  | cons e r ih => simp [subsL, ih]
theorem subsL_take {l : List Exp} {i : Nat} {e : Exp} (h : l[i]? = some e) : subsL (l.take (i + 1)) = subsL (l.take i) ++ subsE e := by
  rw [subsL_map, subsL_map, List.take_add_one, h]; simp
def WalkO (J : List Exp → Heap → Prop) (K : Heap → Prop) (l : List Exp) (out : COut) : Prop := (∃ σ, J l σ ∧ out = .ret (.sc (.bool true)) σ) ∨ ∃ σ, K σ ∧ out = .ret (.sc (.bool false)) σ
def yv (l : Nat) : CV := .fn (.yield l) [] []
theorem passExpr_c {l : Nat} {J : List Exp → Heap → Prop} {K : Heap → Prop} {all : List Exp} (hy : ∀ pre x r σ, pre ++ x :: r = all → J pre σ → YRun Tryz.prog l [x.cv] σ (WalkO J K (pre ++ [x]))) {e : Exp} (he : ETame e) :
    ∀ {pre rest : List Exp} {σ : Heap}, pre ++ (subsE e ++ rest) = all → J pre σ → CRun Tryz.prog 140 [e.cv, .fn (.yield l) [] []] σ (WalkO J K (pre ++ subsE e)) := by
  induction he with
  | @mk k v s c ps hv hs hc hl hps ih =>
    intro pre rest σ hall hJ
    have e3 := ecvs_length ps
    have hall' : pre ++ (Exp.mk k v s c ps) :: (subsL ps ++ rest) = all := by rw [← hall]; simp [subsE]
    have y1 := hy pre _ _ σ hall' hJ
    obtain ⟨vk, vn, vt, vl⟩ := v
    have hE : pre ++ subsE (.mk k (.mk vk vn vt vl) s c ps) = (pre ++ [.mk k (.mk vk vn vt vl) s c ps]) ++ subsL ps := by simp [subsE]
    refine crun_ofF (X := X) X_ok X_sat (body := bodyOf Tryz.f140) Tryz.func140 rfl (by kernel_rfl) (by kernel_rfl) ?_
    rw [Tryz.ntmps140]
    conv => whnf
    repeat' (first | (refine YN.many y1 ?_; rintro _ (⟨σ1, hJ1, rfl⟩ | ⟨σ1, hJ1, rfl⟩)) | refine finGo ?_) <;> try (conv => whnf)
    · refine LoopN.rule (α := Nat × Heap) (fun i => ⟨23, [(1, .fn (.yield l) [] []), (4, .sc (.bool false)), (12, .vec (Exp.cvs ps)), (13, i64 (Exp.cvs ps).length), (14, i64 i.1)], []⟩)
        (fun i => i.2) (fun i => ps.length - i.1) (fun i => i.1 ≤ ps.length ∧ J ((pre ++ [.mk k (.mk vk vn vt vl) s c ps]) ++ subsL (ps.take i.1)) i.2) ?_ (0, σ1) ⟨by omega, by simpa [subsL] using hJ1⟩ ?_
      rotate_left
      · (refine ⟨rfl, ?_, ?_, Sub.refl _⟩ <;> repeat' (first | exact EnvLe.nil | exact LocsLe.nil | refine EnvLe.cons _ _ _ ?_ ?_ | refine LocsLe.cons _ _ _ ?_ ?_ | exact CVle.same _ rfl | exact CVle.vec _ _ | exact CVle.nil | exact CVle.tok _ _ _ rfl rfl | exact ObLe.tok _ _ rfl | exact CVles.nil | refine CVles.cons ?_ ?_ | exact ObLe.same _ rfl rfl | refine ObLe.cells rfl ?_))
      rintro ⟨i, τ⟩ K' ⟨h1, h2⟩ hK
      dsimp only at h1 h2 hK ⊢
      by_cases hi : i < ps.length
      · obtain ⟨⟨wk, ⟨a1, a2, a3, a4⟩, ws, wc, wp⟩, hm, hg, hg'⟩ := ecvs_at hi
        have c1 := ih _ hm (pre := (pre ++ [.mk k (.mk vk vn vt vl) s c ps]) ++ subsL (ps.take i)) (rest := subsL (ps.drop (i + 1)) ++ rest) (σ := τ) (by
          have e0 : subsE (.mk k (.mk vk vn vt vl) s c ps) = .mk k (.mk vk vn vt vl) s c ps :: subsL ps := by simp only [subsE]
          have : subsL ps = subsL (ps.take i) ++ subsE (.mk wk (.mk a1 a2 a3 a4) ws wc wp) ++ subsL (ps.drop (i + 1)) := by
            rw [subsL_map, subsL_map, subsL_map]
            conv => lhs; rw [← List.take_append_drop i ps, List.drop_eq_getElem_cons hi]
            rw [(List.getElem_eq_iff hi).2 hg]; simp
          rw [← hall, e0, this]; simp) h2
        conv => whnf
        repeat' (first | (refine CallN.many c1 ?_; rintro _ (⟨σ2, hJ2, rfl⟩ | ⟨σ2, hJ2, rfl⟩)) | refine Fork.yp ?_ | refine Need.go ?_ | refine ElemN.go ?_ | refine ExtN.wr ?_ | refine finGo ?_) <;> try (conv => whnf)
        · refine hK (i + 1, σ2) _ _ ⟨by dsimp only; omega, ?_⟩ (by dsimp only; omega) ?_
          · dsimp only; rw [subsL_take hg, ← List.append_assoc]; exact hJ2
          (refine ⟨rfl, ?_, ?_, Sub.refl _⟩ <;> repeat' (first | exact EnvLe.nil | exact LocsLe.nil | refine EnvLe.cons _ _ _ ?_ ?_ | refine LocsLe.cons _ _ _ ?_ ?_ | exact CVle.same _ rfl | exact CVle.vec _ _ | exact CVle.nil | exact CVle.tok _ _ _ rfl rfl | exact ObLe.tok _ _ rfl | exact CVles.nil | refine CVles.cons ?_ ?_ | exact ObLe.same _ rfl rfl | refine ObLe.cells rfl ?_))
        · exact .inr ⟨_, hJ2, rfl⟩
      · rw [List.take_of_length_le (by omega)] at h2
        conv => whnf
        repeat' (first | refine Fork.np ?_ | refine finGo ?_) <;> try (conv => whnf)
        exact .inl ⟨_, by rw [hE]; exact h2, rfl⟩
    · exact .inr ⟨_, hJ1, rfl⟩
theorem eachIter_c {l lb : Nat} {J : List Exp → Heap → Prop} {K : Heap → Prop} {all : List Exp} (hy : ∀ pre x r σ, pre ++ x :: r = all → J pre σ → YRun Tryz.prog l [x.cv] σ (WalkO J K (pre ++ [x]))) {σ : Heap}
    {k vk vn : Int} {vt : ByteArray} {vl : List Val} {s c : ByteArray} {ps : List Exp} (he : ETame (.mk k (.mk vk vn vt vl) s c ps)) (hall : subsE (.mk k (.mk vk vn vt vl) s c ps) = all) (hJ : J [] σ)
    (hl : σ lb = some (.cells [i64 k, i64 vk, i64 vn, .sc (.string vt), .vec (Val.cvs vl), .sc (.string s), .sc (.string c), .vec (Exp.cvs ps)])) :
    CRun Tryz.prog 139 [.fn (.yield l) [] [], .ptr (.g lb) 0] σ (fun out => (∃ σ', J all σ' ∧ out = .ret (.tup []) σ') ∨ ∃ σ', K σ' ∧ out = .ret (.tup []) σ') := by
  have c1 := passExpr_c hy he (pre := []) (rest := []) (by simpa using hall) hJ
  rw [List.nil_append, hall] at c1
  refine crun_ofF (X := X) X_ok X_sat (body := bodyOf Tryz.f139) Tryz.func139 rfl (by kernel_rfl) (by kernel_rfl) ?_
  rw [Tryz.ntmps139]
  conv => whnf
  repeat' (first | (refine CallN.many c1 ?_; rintro _ (⟨σ2, hJ2, rfl⟩ | ⟨σ2, hJ2, rfl⟩)) | refine GetN.go ?_ | refine ExtN.wr ?_ | refine finGo ?_) <;> try (conv => whnf)
  · exact .inl ⟨_, hJ2, rfl⟩
  · exact .inr ⟨_, hJ2, rfl⟩
theorem eachExpr_c {σ : Heap} {k vk vn : Int} {vt : ByteArray} {vl : List Val} {s c : ByteArray} {ps : List Exp} : CRun Tryz.prog 61 [Exp.cv (.mk k (.mk vk vn vt vl) s c ps)] σ (fun out => ∃ lb, σ lb = none ∧
    out = .ret (.fn (.func 139) [] [.ptr (.g lb) 0]) (upd σ lb (.cells [i64 k, i64 vk, i64 vn, .sc (.string vt), .vec (Val.cvs vl), .sc (.string s), .sc (.string c), .vec (Exp.cvs ps)]))) := by
  refine crun_of (X := G [1]) (G_ok _) (G_sat _) (body := bodyOf Tryz.f61) Tryz.func61 rfl (by kernel_rfl) (by kernel_rfl) ?_
  rw [Tryz.ntmps61]
  conv => whnf
  repeat' (first | refine AllocN.go (fun l hl => ?_) | refine finGo ?_) <;> try (conv => whnf)
  exact ⟨_, ‹_›, rfl⟩
theorem ins_same : ∀ {l : List ByteArray} {s x : ByteArray} {i : Nat}, (∀ j y, j < i → l[j]? = some y → lt y s = true) → l[i]? = some x → lt x s = false → x = s → ins l s = l
  | y :: r, s, x, 0, _, h, h1, h2 => by simp at h; subst h; subst h2; simp [ins, h1]
  | y :: r, s, x, i + 1, h0, h, h1, h2 => by
    have := h0 0 y (by omega) rfl
    simp only [ins, this, if_true]
    rw [ins_same (fun j z hj hz => h0 (j + 1) z (Nat.succ_lt_succ hj) (by simpa using hz)) (by simpa using h) h1 h2]
theorem ins_new : ∀ {l : List ByteArray} {s : ByteArray} {i : Nat}, (∀ j y, j < i → l[j]? = some y → lt y s = true) → i ≤ l.length → (∀ x, l[i]? = some x → lt x s = false ∧ ¬ x = s) → ins l s = l.take i ++ s :: l.drop i
  | [], s, i, _, hi, _ => by have : i = 0 := by simpa using hi
                             subst this; rfl
  | y :: r, s, 0, _, _, h => by obtain ⟨h1, h2⟩ := h y rfl; simp [ins, h1, h2]
  | y :: r, s, i + 1, h0, hi, h => by
    have := h0 0 y (by omega) rfl
    simp only [ins, this, if_true]
    rw [ins_new (fun j z hj hz => h0 (j + 1) z (Nat.succ_lt_succ hj) (by simpa using hz)) (by simpa using hi) (fun x hx => h x (by simpa using hx))]
    simp
theorem ins_len (l : List ByteArray) (s : ByteArray) : (ins l s).length ≤ l.length + 1 := by
  induction l with
  | nil => simp [ins]
  | cons y r ih => unfold ins; split; · simp; omega
                   · split <;> simp <;> omega
theorem strs_app (a b : List ByteArray) : strs (a ++ b) = strs a ++ strs b := by simp [strs]
theorem strs_take (a : List ByteArray) (i : Nat) : (strs a).take i = strs (a.take i) := by simp [strs]
theorem strs_drop (a : List ByteArray) (i : Nat) : (strs a).drop i = strs (a.drop i) := by simp [strs]
theorem els_strs {l : List ByteArray} {a b : Nat} : ElsOk 1 (List.drop a (List.take b (strs l))) := fun x hx => by
  have := List.mem_of_mem_take (List.mem_of_mem_drop hx)
  simp only [strs, List.mem_map] at this
  obtain ⟨s, _, rfl⟩ := this
  exact ⟨rfl, rfl⟩
theorem strs_one {l : List ByteArray} : ∀ x ∈ strs l, x.cells.length = 1 := fun x hx => by
  simp only [strs, List.mem_map] at hx
  obtain ⟨s, _, rfl⟩ := hx
  rfl
theorem l2Add_c {σ : Heap} {l : List ByteArray} {s : ByteArray} (hl : l.length ≤ 1000) : CRun Tryz.prog 111 [.vec (strs l), .sc (.string s)] σ (· = .ret (.vec (strs (ins l s))) σ) := by
  have e3 := strs_len l
  refine crun_of (X := X) X_ok X_sat (body := bodyOf Tryz.f111) Tryz.func111 rfl (by kernel_rfl) (by kernel_rfl) ?_
  rw [Tryz.ntmps111]
  conv => whnf
  repeat' (first | refine OrdN.one ?_ | refine Fork.yp ?_ | refine Fork.np ?_ | refine Fork.ny ?_ | refine Fork.nn ?_ | refine Fork.yb ?_ | refine Fork.nb ?_ | refine Fork.dp (fun h => ?_) (fun h => ?_) | refine Fork.dn (fun h => ?_) (fun h => ?_) | (refine Fork.mk (fun h => ?_) (fun h => ?_) <;> simp only [decide_eq_true_eq, decide_eq_false_iff_not, Bool.not_eq_true', Bool.not_eq_false', Bool.or_eq_true, Bool.or_eq_false_iff] at h) | refine GetN.go ?_ | refine Need.ap1 ?_ | refine Need.ap0 ?_ | refine Need.go ?_ | refine Need.draw ?_ | refine ElemN.go ?_ | refine ExtN.ext ?_ | refine ExtN.wr ?_ | refine AllocN.go (fun l hl => ?_) | refine finGo ?_) <;> try (conv => whnf)
  refine LoopN.rule (α := Nat) (fun i => ⟨45, [(0, .vec (strs l)), (1, .sc (.string s)), (4, .nil), (5, i64 i)], []⟩)
    (fun _ => σ) (fun i => l.length - i) (fun i => i ≤ l.length ∧ ∀ j y, j < i → l[j]? = some y → lt y s = true) ?_ 0 ⟨by omega, by omega⟩ ?_
  rotate_left
  · (refine ⟨rfl, ?_, ?_, Sub.refl _⟩ <;> repeat' (first | exact EnvLe.nil | exact LocsLe.nil | refine EnvLe.cons _ _ _ ?_ ?_ | refine LocsLe.cons _ _ _ ?_ ?_ | exact CVle.same _ rfl | exact CVle.vec _ _ | exact CVle.nil | exact CVle.tok _ _ _ rfl rfl | exact ObLe.tok _ _ rfl | exact CVles.nil | refine CVles.cons ?_ ?_ | exact ObLe.same _ rfl rfl | refine ObLe.cells rfl ?_))
  rintro i K ⟨h1, h2⟩ hK
  dsimp only at h1 h2 ⊢
  have newE := fun h => ins_new h2 h1 h
  have same := fun x (h : l[i]? = some x) => ins_same h2 h
  have eT : ∀ f : ByteArray → CV, List.take l.length (l.map f) = l.map f := fun f => List.take_of_length_le (by simp)
  by_cases hi : i < l.length
  · obtain ⟨x, hm, hg, hg'⟩ := strs_at hi
    cases hx : lt x s with
    | true =>
      unfold lt at hx
      conv => whnf
      repeat' (first | refine Fork.yp ?_ | refine Fork.yb ?_ | refine Need.go ?_ | refine ElemN.go ?_) <;> try (conv => whnf)
      refine hK (i + 1) _ _ ⟨by omega, fun j y hj hy => ?_⟩ (by omega) ?_
      · rcases Nat.lt_succ_iff_lt_or_eq.1 hj with e | e
        · exact h2 j y e hy
        · subst e; rw [hg] at hy; cases hy; exact hx
      (refine ⟨rfl, ?_, ?_, Sub.refl _⟩ <;> repeat' (first | exact EnvLe.nil | exact LocsLe.nil | refine EnvLe.cons _ _ _ ?_ ?_ | refine LocsLe.cons _ _ _ ?_ ?_ | exact CVle.same _ rfl | exact CVle.vec _ _ | exact CVle.nil | exact CVle.tok _ _ _ rfl rfl | exact ObLe.tok _ _ rfl | exact CVles.nil | refine CVles.cons ?_ ?_ | exact ObLe.same _ rfl rfl | refine ObLe.cells rfl ?_))
    | false =>
      have same := same x hg hx
      have hx' := hx
      unfold lt at hx
      by_cases he : x = s
      · have same := same he
        conv => whnf
        repeat' (first | refine Fork.yp ?_ | refine Fork.nb ?_ | refine Need.go ?_ | refine ElemN.go ?_ | refine finGo ?_) <;> try (conv => whnf)
        all_goals exact ansC (by rw [same])
      · have newE := newE (fun y hy => by rw [hg] at hy; cases hy; exact ⟨hx', he⟩)
        have b2 : (List.drop ((i : Int)).toNat (List.take (((strs l).length : Nat) : Int).toNat (strs l))).isEmpty = false := by
          rw [Int.toNat_natCast, Int.toNat_natCast, List.take_length, List.drop_eq_getElem_cons (by omega)]; rfl
        cases i with
        | zero =>
          have b1 : (List.drop (Int.toNat 0) (List.take (((0 : Nat) : Int)).toNat (strs l))).isEmpty = true := rfl
          conv => whnf
          repeat' (first | (refine Need.mk ⟨by omega, by omega, by omega, .inr strs_one⟩ ?_) | (refine Need.ap1 ?_ (h1 := by simp only [List.length_replicate, List.length_append, List.length_drop, List.length_take, List.length_cons, List.length_nil, Int.toNat_natCast]; omega) (h2 := by first | rfl | (simp only [List.length_append]))) | (refine Need.ap2 ?_ (h := els_strs) (h1 := by simp only [List.length_replicate, List.length_append, List.length_drop, List.length_take, List.length_cons, List.length_nil, Int.toNat_natCast]; omega) (h3 := by simp only [List.length_replicate, List.length_append, List.length_drop, List.length_take, List.length_cons, List.length_nil, Int.toNat_natCast]; omega) (h2 := by first | rfl | (simp only [List.length_append]))) | refine Fork.yp ?_ | refine Fork.np ?_ | refine Fork.nn ?_ | refine Fork.nb ?_ | refine Need.go ?_ | refine Need.draw ?_ | refine ElemN.go ?_ | refine finGo ?_) <;> try (conv => whnf)
          all_goals exact ansC (by rw [newE]; simp [strs, eT])
        | succ i =>
          have b1 : (List.drop (Int.toNat 0) (List.take (((i + 1 : Nat) : Int)).toNat (strs l))).isEmpty = false := by
            rw [Int.toNat_natCast]
            cases h : strs l with
            | nil => rw [h] at hg'; simp at hg'
            | cons _ _ => rfl
          conv => whnf
          repeat' (first | (refine Need.mk ⟨by omega, by omega, by omega, .inr strs_one⟩ ?_) | (refine Need.ap1 ?_ (h1 := by simp only [List.length_replicate, List.length_append, List.length_drop, List.length_take, List.length_cons, List.length_nil, Int.toNat_natCast]; omega) (h2 := by first | rfl | (simp only [List.length_append]))) | (refine Need.ap2 ?_ (h := els_strs) (h1 := by simp only [List.length_replicate, List.length_append, List.length_drop, List.length_take, List.length_cons, List.length_nil, Int.toNat_natCast]; omega) (h3 := by simp only [List.length_replicate, List.length_append, List.length_drop, List.length_take, List.length_cons, List.length_nil, Int.toNat_natCast]; omega) (h2 := by first | rfl | (simp only [List.length_append]))) | refine Fork.yp ?_ | refine Fork.np ?_ | refine Fork.nb ?_ | refine Need.go ?_ | refine Need.draw ?_ | refine ElemN.go ?_ | refine finGo ?_) <;> try (conv => whnf)
          all_goals exact ansC (by rw [newE]; simp [strs, eT])
  · have nE := newE (fun y hy => by rw [List.getElem?_eq_none (by omega)] at hy; cases hy)
    clear newE
    rw [List.take_of_length_le (by omega), List.drop_eq_nil_of_le (by omega)] at nE
    have hil : i = l.length := by omega
    have b2 : (List.drop ((i : Int)).toNat (List.take (((strs l).length : Nat) : Int).toNat (strs l))).isEmpty = true := by
      rw [Int.toNat_natCast, Int.toNat_natCast, List.take_length, List.drop_eq_nil_of_le (by omega)]; rfl
    cases i with
    | zero =>
      have b1 : (List.drop (Int.toNat 0) (List.take (((0 : Nat) : Int)).toNat (strs l))).isEmpty = true := rfl
      conv => whnf
      repeat' (first | (refine Need.mk ⟨by omega, by omega, by omega, .inr strs_one⟩ ?_) | (refine Need.ap1 ?_ (h1 := by simp only [List.length_replicate, List.length_append, List.length_drop, List.length_take, List.length_cons, List.length_nil, Int.toNat_natCast]; omega) (h2 := by first | rfl | (simp only [List.length_append]))) | refine Fork.yp ?_ | refine Fork.np ?_ | refine Fork.nn ?_ | refine Fork.yb ?_ | refine Need.go ?_ | refine Need.draw ?_ | refine finGo ?_) <;> try (conv => whnf)
      all_goals exact ansC (by rw [nE]; obtain rfl : l = [] := List.eq_nil_of_length_eq_zero hil.symm; simp [strs])
    | succ i =>
      have b1 : (List.drop (Int.toNat 0) (List.take (((i + 1 : Nat) : Int)).toNat (strs l))).isEmpty = false := by
        rw [Int.toNat_natCast]
        cases h : strs l with
        | nil => rw [h] at e3; simp at e3; omega
        | cons _ _ => rfl
      conv => whnf
      repeat' (first | (refine Need.mk ⟨by omega, by omega, by omega, .inr strs_one⟩ ?_) | (refine Need.ap1 ?_ (h1 := by simp only [List.length_replicate, List.length_append, List.length_drop, List.length_take, List.length_cons, List.length_nil, Int.toNat_natCast]; omega) (h2 := by first | rfl | (simp only [List.length_append]))) | (refine Need.ap2 ?_ (h := els_strs) (h1 := by simp only [List.length_replicate, List.length_append, List.length_drop, List.length_take, List.length_cons, List.length_nil, Int.toNat_natCast]; omega) (h3 := by simp only [List.length_replicate, List.length_append, List.length_drop, List.length_take, List.length_cons, List.length_nil, Int.toNat_natCast]; omega) (h2 := by first | rfl | (simp only [List.length_append]))) | refine Fork.np ?_ | refine Fork.yb ?_ | refine Fork.nb ?_ | refine Need.go ?_ | refine Need.draw ?_ | refine finGo ?_) <;> try (conv => whnf)
      all_goals exact ansC (by rw [nE]; simp only [strs, Int.toNat_zero, List.drop_zero, Int.toNat_natCast, List.map_append, List.map_cons, List.map_nil, List.replicate_zero, List.nil_append]; rw [List.take_of_length_le (by rw [List.length_map]; omega)])
def asks (k : Int) : Bool := decide (k = 2) || decide (k = 3)
def nameIf : Exp → List ByteArray
  | .mk k _ s _ _ => if k = 2 ∨ k = 3 then [s] else []
def namesOf (l : List Exp) : List ByteArray := (l.map nameIf).flatten
theorem namesOf_app (a b : List Exp) : namesOf (a ++ b) = namesOf a ++ namesOf b := by simp [namesOf]
theorem namesOf_cons (e : Exp) (b : List Exp) : namesOf (e :: b) = nameIf e ++ namesOf b := by simp [namesOf]
theorem nameIf_len (e : Exp) : (nameIf e).length ≤ 1 := by
  obtain ⟨k, v, s, c, ps⟩ := e
  show (if k = 2 ∨ k = 3 then [s] else []).length ≤ 1
  split <;> simp
theorem namesOf_len (l : List Exp) : (namesOf l).length ≤ l.length := by
  induction l with
  | nil => simp [namesOf]
  | cons e r ih => rw [namesOf_cons, List.length_append, List.length_cons]; have := nameIf_len e; omega
theorem fold_len (l out : List ByteArray) : (l.foldl ins out).length ≤ out.length + l.length := by
  induction l generalizing out with
  | nil => simp
  | cons s l ih => have := ih (ins out s); have := ins_len out s; simp only [List.foldl_cons, List.length_cons]; omega
theorem subsL_len (l : List Exp) (i : Nat) : (subsL (l.take i)).length ≤ (subsL l).length := by
  conv => rhs; rw [← List.take_append_drop i l]
  rw [subsL_map, subsL_map, List.map_append, List.flatten_append, List.length_append]; omega
theorem l4Names_c {e : Exp} (he : ETame e) : ∀ {out : List ByteArray} {σ : Heap}, out.length + (subsE e).length ≤ 1000 → CRun Tryz.prog 48 [e.cv, .vec (strs out)] σ (· = .ret (.vec (strs ((namesOf (subsE e)).foldl ins out))) σ) := by
  induction he with
  | @mk k v s c ps hv hs hc hl hps ih =>
    intro out σ hlen
    have e3 := ecvs_length ps
    obtain ⟨vk, vn, vt, vl⟩ := v
    have eS : subsE (.mk k (.mk vk vn vt vl) s c ps) = .mk k (.mk vk vn vt vl) s c ps :: subsL ps := by simp only [subsE]
    rw [eS, List.length_cons] at hlen
    rw [eS, namesOf_cons, List.foldl_append]
    have a1 := l2Add_c (σ := σ) (l := out) (s := s) (by omega)
    by_cases hk : k = 2 ∨ k = 3
    · rw [show nameIf (.mk k (.mk vk vn vt vl) s c ps) = [s] from if_pos hk, List.foldl_cons, List.foldl_nil]
      have hl2 := ins_len out s
      generalize ins out s = out1 at a1 hl2 ⊢
      refine crun_of (X := X) X_ok X_sat (body := bodyOf Tryz.f48) Tryz.func48 rfl (by kernel_rfl) (by kernel_rfl) ?_
      rw [Tryz.ntmps48]
      conv => whnf
      repeat' (first | (refine CallN.one a1 ?_) | refine Fork.yp ?_ | refine Fork.dp (fun h => ?_) (fun h => ?_) | refine ExtN.ext ?_) <;> try (conv => whnf)
      all_goals
        refine LoopN.rule (α := Nat) (fun i => ⟨33, [(1, .vec (strs ((namesOf (subsL (ps.take i))).foldl ins out1))), (2, .ptr (.f 2) 0), (4, .nil), (5, i64 i)], [(2, .cells [i64 k, i64 vk, i64 vn, .sc (.string vt), .vec (Val.cvs vl), .sc (.string s), .sc (.string c), .vec (Exp.cvs ps)])]⟩)
          (fun _ => σ) (fun i => ps.length - i) (fun i => i ≤ ps.length) ?_ 0 (by omega) ?_
        rotate_left
        · (refine ⟨rfl, ?_, ?_, Sub.refl _⟩ <;> repeat' (first | exact EnvLe.nil | exact LocsLe.nil | refine EnvLe.cons _ _ _ ?_ ?_ | refine LocsLe.cons _ _ _ ?_ ?_ | exact CVle.same _ rfl | exact CVle.vec _ _ | exact CVle.nil | exact CVle.tok _ _ _ rfl rfl | exact ObLe.tok _ _ rfl | exact CVles.nil | refine CVles.cons ?_ ?_ | exact ObLe.same _ rfl rfl | refine ObLe.cells rfl ?_))
        rintro i K h1 hK
        dsimp only at h1 hK ⊢
        by_cases hi : i < ps.length
        · obtain ⟨⟨wk, ⟨b1, b2, b3, b4⟩, ws, wc, wp⟩, hm, hg, hg'⟩ := ecvs_at hi
          have tk := subsL_take hg
          have hsub := subsL_len ps (i + 1)
          have c1 := ih _ hm (out := (namesOf (subsL (ps.take i))).foldl ins out1) (σ := σ) (by
            have h2 := fold_len (namesOf (subsL (ps.take i))) out1
            have h3 := namesOf_len (subsL (ps.take i))
            rw [tk, List.length_append] at hsub
            omega)
          rw [← List.foldl_append, ← namesOf_app, ← tk] at c1
          conv => whnf
          repeat' (first | (refine CallN.one c1 ?_) | refine Fork.yp ?_ | refine Need.go ?_ | refine ElemN.go ?_ | refine ExtN.ext ?_) <;> try (conv => whnf)
          refine hK (i + 1) _ _ (by omega) (by omega) ?_
          (refine ⟨rfl, ?_, ?_, Sub.refl _⟩ <;> repeat' (first | exact EnvLe.nil | exact LocsLe.nil | refine EnvLe.cons _ _ _ ?_ ?_ | refine LocsLe.cons _ _ _ ?_ ?_ | exact CVle.same _ rfl | exact CVle.vec _ _ | exact CVle.nil | exact CVle.tok _ _ _ rfl rfl | exact ObLe.tok _ _ rfl | exact CVles.nil | refine CVles.cons ?_ ?_ | exact ObLe.same _ rfl rfl | refine ObLe.cells rfl ?_))
        · conv => whnf
          repeat' (first | refine Fork.np ?_ | refine finGo ?_) <;> try (conv => whnf)
          all_goals exact ansC (by rw [List.take_of_length_le (by omega)])
    · rw [show nameIf (.mk k (.mk vk vn vt vl) s c ps) = [] from if_neg hk, List.foldl_nil]
      clear a1
      have hl2 : out.length ≤ out.length + 1 := by omega
      generalize out = out1 at hlen hl2 ⊢
      refine crun_of (X := X) X_ok X_sat (body := bodyOf Tryz.f48) Tryz.func48 rfl (by kernel_rfl) (by kernel_rfl) ?_
      rw [Tryz.ntmps48]
      conv => whnf
      repeat' (first | refine Fork.np ?_) <;> try (conv => whnf)
      all_goals
        refine LoopN.rule (α := Nat) (fun i => ⟨33, [(1, .vec (strs ((namesOf (subsL (ps.take i))).foldl ins out1))), (2, .ptr (.f 2) 0), (4, .nil), (5, i64 i)], [(2, .cells [i64 k, i64 vk, i64 vn, .sc (.string vt), .vec (Val.cvs vl), .sc (.string s), .sc (.string c), .vec (Exp.cvs ps)])]⟩)
          (fun _ => σ) (fun i => ps.length - i) (fun i => i ≤ ps.length) ?_ 0 (by omega) ?_
        rotate_left
        · (refine ⟨rfl, ?_, ?_, Sub.refl _⟩ <;> repeat' (first | exact EnvLe.nil | exact LocsLe.nil | refine EnvLe.cons _ _ _ ?_ ?_ | refine LocsLe.cons _ _ _ ?_ ?_ | exact CVle.same _ rfl | exact CVle.vec _ _ | exact CVle.nil | exact CVle.tok _ _ _ rfl rfl | exact ObLe.tok _ _ rfl | exact CVles.nil | refine CVles.cons ?_ ?_ | exact ObLe.same _ rfl rfl | refine ObLe.cells rfl ?_))
        rintro i K h1 hK
        dsimp only at h1 hK ⊢
        by_cases hi : i < ps.length
        · obtain ⟨⟨wk, ⟨b1, b2, b3, b4⟩, ws, wc, wp⟩, hm, hg, hg'⟩ := ecvs_at hi
          have tk := subsL_take hg
          have hsub := subsL_len ps (i + 1)
          have c1 := ih _ hm (out := (namesOf (subsL (ps.take i))).foldl ins out1) (σ := σ) (by
            have h2 := fold_len (namesOf (subsL (ps.take i))) out1
            have h3 := namesOf_len (subsL (ps.take i))
            rw [tk, List.length_append] at hsub
            omega)
          rw [← List.foldl_append, ← namesOf_app, ← tk] at c1
          conv => whnf
          repeat' (first | (refine CallN.one c1 ?_) | refine Fork.yp ?_ | refine Need.go ?_ | refine ElemN.go ?_ | refine ExtN.ext ?_) <;> try (conv => whnf)
          refine hK (i + 1) _ _ (by omega) (by omega) ?_
          (refine ⟨rfl, ?_, ?_, Sub.refl _⟩ <;> repeat' (first | exact EnvLe.nil | exact LocsLe.nil | refine EnvLe.cons _ _ _ ?_ ?_ | refine LocsLe.cons _ _ _ ?_ ?_ | exact CVle.same _ rfl | exact CVle.vec _ _ | exact CVle.nil | exact CVle.tok _ _ _ rfl rfl | exact ObLe.tok _ _ rfl | exact CVles.nil | refine CVles.cons ?_ ?_ | exact ObLe.same _ rfl rfl | refine ObLe.cells rfl ?_))
        · conv => whnf
          repeat' (first | refine Fork.np ?_ | refine finGo ?_) <;> try (conv => whnf)
          all_goals exact ansC (by rw [List.take_of_length_le (by omega)])
end Go.Proofs.YthllnbfkfobcjaaGreat
namespace Go.Proofs.YthllnbfkfobcjaaGreat
open Go Go.CL Go.Proofs
set_option maxRecDepth 10000
theorem len64_0 {σ : Heap} : CRun Tryz.prog 212 [.sc (.int .u64 0)] σ (· = .ret (i64 0) σ) := by
  refine crun_of (X := X) X_ok X_sat (body := bodyOf Tryz.f212) Tryz.func212 rfl (by kernel_rfl) (by kernel_rfl) ?_
  rw [Tryz.ntmps212]
  conv => whnf
  repeat' (first | (refine Need.mk ⟨by omega, Nat.le_of_ble_eq_true (by kernel_rfl)⟩ ?_) | (refine Need.mk (by simp only [inR]; exact ⟨by omega, Int.le_trans (Int.ofNat_le.2 (Nat.le_of_lt (UInt8.toNat_lt _))) (by decide)⟩) ?_) | (refine Need.mk (by simp only [inR]; exact ⟨by omega, Int.le_trans (Int.add_le_add_left (Int.ofNat_le.2 (Nat.le_of_lt (UInt8.toNat_lt _))) 0) (by decide)⟩) ?_) | refine Fork.np ?_ | refine Need.go ?_ | refine finGo ?_) <;> try (conv => whnf)
  all_goals exact ansC (by kernel_rfl)
theorem len_0 {σ : Heap} : CRun Tryz.prog 142 [.sc (.int .u64 0)] σ (· = .ret (i64 0) σ) := by
  refine crun_of (X := X) X_ok X_sat (body := bodyOf Tryz.f142) Tryz.func142 rfl (by kernel_rfl) (by kernel_rfl) ?_
  rw [Tryz.ntmps142]
  conv => whnf
  repeat' (first | (refine CallN.one len64_0 ?_) | refine ExtN.ext ?_ | refine finGo ?_) <;> try (conv => whnf)
  all_goals rfl
theorem insSort_nil {σ : Heap} : CRun Tryz.prog 202 [.vec [], i64 0, i64 0] σ (· = .ret (.tup []) σ) := by
  refine crun_of (X := X) X_ok X_sat (body := bodyOf Tryz.f202) Tryz.func202 rfl (by kernel_rfl) (by kernel_rfl) ?_
  rw [Tryz.ntmps202]
  conv => whnf
  repeat' (first | refine Need.go ?_) <;> try (conv => whnf)
  refine LoopN.rule (α := Unit) (fun _ => ⟨49, [(1, i64 0), (2, i64 0), (6, i64 1)], []⟩) (fun _ => σ) (fun _ => 0) (fun _ => True) ?_ () trivial ?_
  rotate_left
  · (refine ⟨rfl, ?_, ?_, Sub.refl _⟩ <;> repeat' (first | exact EnvLe.nil | exact LocsLe.nil | refine EnvLe.cons _ _ _ ?_ ?_ | refine LocsLe.cons _ _ _ ?_ ?_ | exact CVle.same _ rfl | exact CVle.vec _ _ | exact CVle.nil | exact CVle.tok _ _ _ rfl rfl | exact ObLe.tok _ _ rfl | exact CVles.nil | refine CVles.cons ?_ ?_ | exact ObLe.same _ rfl rfl | refine ObLe.cells rfl ?_))
  rintro _ K _ hK
  conv => whnf
  repeat' (first | refine Fork.np ?_ | refine finGo ?_) <;> try (conv => whnf)
  all_goals rfl
theorem pdq_nil {σ : Heap} : CRun Tryz.prog 141 [.vec [], i64 0, i64 0, i64 0] σ (· = .ret (.tup []) σ) := by
  have c1 := insSort_nil (σ := σ)
  refine crun_of (X := X) X_ok X_sat (body := bodyOf Tryz.f141) Tryz.func141 rfl (by kernel_rfl) (by kernel_rfl) ?_
  rw [Tryz.ntmps141]
  conv => whnf
  repeat' (first | (refine CallN.one c1 ?_) | refine OrdN.one ?_ | refine Fork.yp ?_ | refine Fork.np ?_ | refine Fork.ny ?_ | refine Fork.nn ?_ | refine Fork.yb ?_ | refine Fork.nb ?_ | refine Fork.dp (fun h => ?_) (fun h => ?_) | refine Fork.dn (fun h => ?_) (fun h => ?_) | (refine Fork.mk (fun h => ?_) (fun h => ?_) <;> simp only [decide_eq_true_eq, decide_eq_false_iff_not, Bool.not_eq_true', Bool.not_eq_false', Bool.or_eq_true, Bool.or_eq_false_iff] at h) | refine GetN.go ?_ | refine Need.ap1 ?_ | refine Need.ap0 ?_ | refine Need.go ?_ | refine Need.draw ?_ | refine ElemN.go ?_ | refine ExtN.ext ?_ | refine ExtN.wr ?_ | refine AllocN.go (fun l hl => ?_) | refine finGo ?_) <;> try (conv => whnf)
  refine LoopN.rule (α := Unit) (fun _ => ⟨134, [(0, .vec []), (1, i64 0), (2, i64 0), (3, i64 0)], []⟩) (fun _ => σ) (fun _ => 0) (fun _ => True) ?_ () trivial ?_
  rotate_left
  · (refine ⟨rfl, ?_, ?_, Sub.refl _⟩ <;> repeat' (first | exact EnvLe.nil | exact LocsLe.nil | refine EnvLe.cons _ _ _ ?_ ?_ | refine LocsLe.cons _ _ _ ?_ ?_ | exact CVle.same _ rfl | exact CVle.vec _ _ | exact CVle.nil | exact CVle.tok _ _ _ rfl rfl | exact ObLe.tok _ _ rfl | exact CVles.nil | refine CVles.cons ?_ ?_ | exact ObLe.same _ rfl rfl | refine ObLe.cells rfl ?_))
  rintro _ K _ hK
  conv => whnf
  repeat' (first | (refine CallN.one c1 ?_) | refine Fork.yp ?_ | refine Need.go ?_ | refine ExtN.ext ?_ | refine finGo ?_) <;> try (conv => whnf)
  all_goals rfl
theorem sort_nil {σ : Heap} : CRun Tryz.prog 62 [.vec []] σ (· = .ret (.tup []) σ) := by
  have c1 := len_0 (σ := σ)
  have c2 := pdq_nil (σ := σ)
  refine crun_of (X := X) X_ok X_sat (body := bodyOf Tryz.f62) Tryz.func62 rfl (by kernel_rfl) (by kernel_rfl) ?_
  rw [Tryz.ntmps62]
  conv => whnf
  repeat' (first | (refine CallN.one c1 ?_) | (refine CallN.one c2 ?_) | refine Need.go ?_ | refine ExtN.ext ?_ | refine finGo ?_) <;> try (conv => whnf)
  all_goals rfl
structure NJ (σ : Heap) (lo l : Nat) (ob : Ob) (pre : List Exp) (τ : Heap) : Prop where
  sub : Sub σ τ
  rec_ : τ l = some ob
  out : (namesOf pre = [] ∧ τ lo = some (.cells [.nil])) ∨ ∃ la cap, namesOf pre ≠ [] ∧ la ≠ lo ∧ la ≠ l ∧ σ la = none ∧ τ lo = some (.cells [.grow la (namesOf pre).length cap]) ∧
    τ la = some (.arr 9 1 cap (strs (namesOf pre))) ∧ (namesOf pre).length ≤ cap
theorem getA {σ : Heap} {l8 l9 : Nat} {Z Y : Ob} (h : upd σ l8 Z l9 = none) : upd (upd σ l8 Z) l9 Y l8 = some Z := by
  have hne : l8 ≠ l9 := fun e => by subst e; rw [upd_same] at h; cases h
  rw [upd_ne _ _ hne]; exact upd_same _ _ _
theorem gotB {σ : Heap} {lo l2 : Nat} {Z Y : Ob} (h : σ lo = some Z) (hl : σ l2 = none) : upd σ l2 Y lo = some Z := by
  rw [upd_ne _ _ (fun e => by subst e; rw [h] at hl; cases hl)]; exact h
theorem gotC {σ : Heap} {lo l2 : Nat} {Z Y : Ob} (hne : l2 ≠ lo) (h : σ lo = some Z) : upd σ l2 Y lo = some Z := by
  rw [upd_ne _ _ (Ne.symm hne)]; exact h
theorem subNone {σ τ : Heap} {l : Nat} (h : Sub σ τ) (hl : τ l = none) : σ l = none := by
  cases e : σ l with
  | none => rfl
  | some ob => rw [h _ _ e] at hl; cases hl
theorem nj_put {σ τ2 : Heap} {lo lr l2 : Nat} {ob X B : Ob} {pre : List Exp} {cap n : Nat} {arr : List CV} (bs : Sub σ τ2) (z0 : σ lo = none) (z2 : σ lr = none) (zl : σ l2 = none) (a1 : l2 ≠ lo) (a2 : l2 ≠ lr) (a3 : lr ≠ lo)
    (hB : τ2 lr = some B) (hn : n = (namesOf pre).length) (ha : arr = strs (namesOf pre)) (h0 : namesOf pre ≠ []) (hc : n ≤ cap) (hX : ob = X) :
    (upd (upd τ2 l2 (.arr 9 1 cap arr)) lo (.cells [.grow l2 n cap])) lr = some B ∧ NJ σ lo lr ob pre (upd (upd (upd τ2 l2 (.arr 9 1 cap arr)) lo (.cells [.grow l2 n cap])) lr X) := by
  subst hn ha hX
  refine ⟨by rw [upd_ne _ _ a3, upd_ne _ _ (Ne.symm a2)]; exact hB, ((bs.upd zl).upd z0).upd z2, upd_same _ _ _, .inr ⟨l2, cap, h0, a1, a2, zl, ?_, ?_, hc⟩⟩
  · rw [upd_ne _ _ (Ne.symm a3)]; exact upd_same _ _ _
  · rw [upd_ne _ _ a2, upd_ne _ _ a1]; exact upd_same _ _ _
theorem nj_same {σ τ2 : Heap} {lo lr : Nat} {ob X B : Ob} {pre pre' : List Exp} {τ : Heap} (bs : Sub σ τ2) (z2 : σ lr = none) (a3 : lr ≠ lo) (hB : τ2 lr = some B) (hX : ob = X) (nm : namesOf pre' = namesOf pre) (b0 : ∀ y, y ≠ lr → τ2 y = τ y)
    (hJ : (namesOf pre = [] ∧ τ lo = some (.cells [.nil])) ∨ ∃ la cap, namesOf pre ≠ [] ∧ la ≠ lo ∧ la ≠ lr ∧ σ la = none ∧ τ lo = some (.cells [.grow la (namesOf pre).length cap]) ∧
    τ la = some (.arr 9 1 cap (strs (namesOf pre))) ∧ (namesOf pre).length ≤ cap) : NJ σ lo lr ob pre' (upd τ2 lr X) := by
  subst hX
  refine ⟨bs.upd z2, upd_same _ _ _, ?_⟩
  rw [nm]
  rcases hJ with ⟨h1, h2⟩ | ⟨la, cap, h1, m1, m2, m3, h2, h3, h4⟩
  · exact .inl ⟨h1, by rw [upd_ne _ _ (Ne.symm a3), b0 _ (Ne.symm a3)]; exact h2⟩
  · exact .inr ⟨la, cap, h1, m1, m2, m3, by rw [upd_ne _ _ (Ne.symm a3), b0 _ (Ne.symm a3)]; exact h2, by rw [upd_ne _ _ m2, b0 _ m2]; exact h3, h4⟩
theorem strs_bl (l : List ByteArray) : strs l = (l.map bl).map strV := by
  unfold strs; rw [List.map_map]; exact List.map_congr_left fun s _ => (strV_bl s).symm
theorem namesIn_c {σ : Heap} {k vk vn : Int} {vt : ByteArray} {vl : List Val} {s c : ByteArray} {ps : List Exp} (he : ETame (.mk k (.mk vk vn vt vl) s c ps)) (hlen : (subsE (.mk k (.mk vk vn vt vl) s c ps)).length ≤ 1000) :
    CRun Tryz.prog 37 [Exp.cv (.mk k (.mk vk vn vt vl) s c ps)] σ (· = .ret (.vec (strs ((namesOf (subsE (.mk k (.mk vk vn vt vl) s c ps))).foldl ins []))) σ) := by
  obtain ⟨N, hN⟩ : ∃ N, N = (namesOf (subsE (.mk k (.mk vk vn vt vl) s c ps))).foldl ins [] := ⟨_, rfl⟩
  rw [← hN]
  suffices hs : CRun Tryz.prog 37 [Exp.cv (.mk k (.mk vk vn vt vl) s c ps)] σ (fun out => (N = [] ∧ ∃ τ, Sub σ τ ∧ out = .ret (.vec []) τ) ∨ ∃ la cap τ, Sub σ τ ∧ σ la = none ∧ τ la = some (.arr 9 1 cap (strs N)) ∧ out = .ret (.grow la (strs N).length cap) τ) by
    refine hs.freeze fun out h => ?_
    rcases h with ⟨h0, τ, hs, rfl⟩ | ⟨la, cap, τ, hs, hl, hla, rfl⟩
    · exact ⟨.ret (.vec (strs N)) σ, ⟨hs, [], .inl (.one (by rw [h0]; exact .same _)), by simp⟩, rfl⟩
    · refine ⟨.ret (.vec (strs N)) σ, ⟨hs, [la], .inl (.one ?_), fun l' h' => by rw [List.mem_singleton.1 h']; exact hl⟩, rfl⟩
      have := Frz.grow (σ := τ) la (strs N).length cap _ _ _ hla (Nat.le_refl _)
      rwa [List.take_of_length_le (Nat.le_refl _)] at this
  refine crun_ofF (X := G [1,3,20]) (G_ok _) (G_sat _) (body := bodyOf Tryz.f37) Tryz.func37 rfl (by kernel_rfl) (by kernel_rfl) ?_
  rw [Tryz.ntmps37]
  conv => whnf
  repeat' (first | (refine GetN.go ?_ (h := by exact getA ‹_›)) | (refine CallN.many (eachExpr_c) ?_; rintro _ ⟨lb, hlb, rfl⟩) | refine ExtN.wr ?_ | refine AllocN.go (fun l hl => ?_)) <;> try (conv => whnf)
  rename_i l1 h1
  refine RngN.all rfl fun f lr ob hob hlr => ?_
  have n1 : l ≠ l1 := fun e => by subst e; rw [upd_same] at hl; cases hl
  have n2 : lb ≠ l := fun e => by subst e; rw [upd_same] at hlb; cases hlb
  have n3 : lb ≠ l1 := fun e => by subst e; rw [upd_ne _ _ (Ne.symm n1), upd_same] at hlb; cases hlb
  have n4 : lr ≠ lb := fun e => by subst e; rw [upd_same] at hlr; cases hlr
  have n5 : lr ≠ l := fun e => by subst e; rw [upd_ne _ _ (Ne.symm n2), upd_same] at hlr; cases hlr
  have z0 : σ l = none := by rwa [upd_ne _ _ n1] at hl
  have z1 : σ lb = none := by rwa [upd_ne _ _ n2, upd_ne _ _ n3] at hlb
  have n6 : lr ≠ l1 := fun e => by subst e; rw [upd_ne _ _ (Ne.symm n3), upd_ne _ _ (Ne.symm n1), upd_same] at hlr; cases hlr
  have z2 : σ lr = none := by rwa [upd_ne _ _ n4, upd_ne _ _ n5, upd_ne _ _ n6] at hlr
  refine ⟨NJ σ l lr ob (subsE (.mk k (.mk vk vn vt vl) s c ps)), ?_, fun τ hJ => hJ.rec_, ?_⟩
  · have start : NJ σ l lr ob [] (upd (upd (upd (upd σ l1 (.cells [i64 k, i64 vk, i64 vn, .sc (.string vt), .vec (Val.cvs vl), .sc (.string s), .sc (.string c), .vec (Exp.cvs ps)])) l (.cells [.nil])) lb
        (.cells [i64 k, i64 vk, i64 vn, .sc (.string vt), .vec (Val.cvs vl), .sc (.string s), .sc (.string c), .vec (Exp.cvs ps)])) lr ob) :=
      ⟨((((Sub.refl σ).upd h1).upd z0).upd z1).upd z2, upd_same _ _ _, .inl ⟨rfl, by rw [upd_ne _ _ (Ne.symm n5), upd_ne _ _ (Ne.symm n2)]; exact upd_same _ _ _⟩⟩
    refine CRun.mono (eachIter_c (l := lr) (lb := lb) (J := NJ σ l lr ob) (K := fun _ => False) ?_ he rfl start (by rw [upd_ne _ _ (Ne.symm n4)]; exact upd_same _ _ _)) ?_
    · intro pre x r τ hall hJ
      obtain ⟨hsub, hrec, hout⟩ := hJ
      rw [hob] at hrec
      have hpl : pre.length ≤ 999 := by rw [← hall] at hlen; simp at hlen; omega
      have hnl := namesOf_len pre
      obtain ⟨xk, ⟨x1, x2, x3, x4⟩, xs, xc, xp⟩ := x
      refine yrun_of (X := G [1,3,20]) (G_ok _) (G_sat _) hrec rfl rfl rfl ?_
      conv => whnf
      repeat' (first | refine OrdN.one ?_ | refine Fork.yp ?_ | refine Fork.np ?_ | refine Fork.ny ?_ | refine Fork.nn ?_ | refine Fork.yb ?_ | refine Fork.nb ?_ | refine Fork.dp (fun h => ?_) (fun h => ?_) | refine Fork.dn (fun h => ?_) (fun h => ?_) | (refine Fork.mk (fun h => ?_) (fun h => ?_) <;> simp only [decide_eq_true_eq, decide_eq_false_iff_not, Bool.not_eq_true', Bool.not_eq_false', Bool.or_eq_true, Bool.or_eq_false_iff] at h) | refine GetN.go ?_ | refine Need.ap1 ?_ | refine Need.ap0 ?_ | refine Need.go ?_ | refine Need.draw ?_ | refine ElemN.go ?_ | refine ExtN.ext ?_ | refine ExtN.wr ?_ | refine AllocN.go (fun l hl => ?_) | refine finGo ?_) <;> try (conv => whnf)
      refine AsgN.mk hrec fun τ2 hτ2 => ?_
      have b0 : ∀ y, y ≠ lr → τ2 y = τ y := fun y hy => by rw [hτ2, upd_ne _ _ hy]
      have bl := hτ2 ▸ upd_same τ lr _
      have bs : Sub σ τ2 := by rw [hτ2]; exact hsub.upd z2
      have b3 := b0 l (Ne.symm n5)
      have nm := namesOf_app pre [.mk xk (.mk x1 x2 x3 x4) xs xc xp]
      by_cases hx : xk = 2 ∨ xk = 3
      · rw [namesOf_cons, show nameIf (.mk xk (.mk x1 x2 x3 x4) xs xc xp) = [xs] from if_pos hx, show namesOf [] = [] from rfl, List.append_nil] at nm
        have nm0 : namesOf (pre ++ [.mk xk (.mk x1 x2 x3 x4) xs xc xp]) ≠ [] := by rw [nm]; simp
        have nml : (namesOf (pre ++ [.mk xk (.mk x1 x2 x3 x4) xs xc xp])).length = (namesOf pre).length + 1 := by rw [nm]; simp
        rcases hout with ⟨e0, h4⟩ | ⟨la, cap, e0, m1, m2, m3, h4, h5, h6⟩
        · rw [← b3] at h4
          have arr0 : [CV.sc (.string xs)] = strs (namesOf (pre ++ [.mk xk (.mk x1 x2 x3 x4) xs xc xp])) := by rw [nm, e0]; rfl
          have len0 : 1 = (namesOf (pre ++ [.mk xk (.mk x1 x2 x3 x4) xs xc xp])).length := by rw [nml, e0]; rfl
          clear hτ2 hall
          conv => whnf
          repeat' (first | (refine Need.mk ⟨by simp only [List.length_cons, List.length_nil]; omega, by simp only [List.length_cons, List.length_nil]; omega, ElsOk.one rfl rfl⟩ ?_) | (refine AllocC.go (fun l2 cap2 hl2 hcap2 => ?_)) | (refine GetN.go ?_ (h := by exact gotB h4 ‹_›)) | refine Fork.yp ?_ | refine Fork.nb ?_ | refine Fork.dp (fun h => ?_) (fun h => ?_) | refine GetN.go ?_) <;> try (conv => whnf)
          all_goals
            have q := fun X (hX : ob = X) => nj_put (ob := ob) (X := X) (n := 1) (cap := cap2) (l2 := l2) bs z0 z2 (subNone bs hl2) (fun e => by subst e; rw [h4] at hl2; cases hl2) (fun e => by subst e; rw [bl] at hl2; cases hl2) n5 bl len0 arr0 nm0 hcap2 hX
            exact RndN.mk (q _ hob).1 ⟨_, Sub.refl _, .inl ⟨_, (q _ hob).2, rfl⟩⟩
        · have b4 := b0 la m2
          rw [← b3] at h4
          rw [← b4] at h5
          have et : List.take (namesOf pre).length (strs (namesOf pre)) = strs (namesOf pre) := List.take_of_length_le (by rw [strs_len]; omega)
          have ed : List.drop ((namesOf pre).length + [CV.sc (.string xs)].length) (strs (namesOf pre)) = [] := List.drop_eq_nil_of_le (by rw [strs_len]; simp)
          have arrN : List.take (namesOf pre).length (strs (namesOf pre)) ++ [CV.sc (.string xs)] = strs (namesOf (pre ++ [.mk xk (.mk x1 x2 x3 x4) xs xc xp])) := by rw [et, nm, strs_app]; rfl
          have arrI : List.take (namesOf pre).length (strs (namesOf pre)) ++ [CV.sc (.string xs)] ++ List.drop ((namesOf pre).length + [CV.sc (.string xs)].length) (strs (namesOf pre)) = strs (namesOf (pre ++ [.mk xk (.mk x1 x2 x3 x4) xs xc xp])) := by rw [ed, List.append_nil]; exact arrN
          clear hτ2 hall et ed
          conv => whnf
          repeat' (first | (refine Need.mk ⟨rfl, by rw [strs_len]; omega, by simp only [List.length_cons, List.length_nil]; omega, by simp only [List.length_cons, List.length_nil]; omega, ElsOk.one rfl rfl⟩ ?_) | (refine AllocC.go (fun l2 cap2 hl2 hcap2 => ?_)) | (refine GetN.go ?_ (h := by first | exact gotB h4 ‹_› | exact gotC m1 h4)) | refine Fork.yp ?_ | refine Fork.nb ?_ | refine Fork.dp (fun h => ?_) (fun h => ?_) | refine GetN.go ?_) <;> try (conv => whnf)
          all_goals first
            | exact RndN.mk (nj_put (ob := ob) (n := (namesOf pre).length + 1) (cap := cap) (l2 := la) bs z0 z2 m3 m1 m2 n5 bl nml.symm arrI nm0 (by simpa using h) hob).1
                ⟨_, Sub.refl _, .inl ⟨_, (nj_put (ob := ob) (n := (namesOf pre).length + 1) (cap := cap) (l2 := la) bs z0 z2 m3 m1 m2 n5 bl nml.symm arrI nm0 (by simpa using h) hob).2, rfl⟩⟩
            | exact RndN.mk (nj_put (ob := ob) (n := (namesOf pre).length + 1) (cap := cap2) (l2 := l2) bs z0 z2 (subNone bs hl2) (fun e => by subst e; rw [h4] at hl2; cases hl2) (fun e => by subst e; rw [bl] at hl2; cases hl2) n5 bl nml.symm arrN nm0 hcap2 hob).1
                ⟨_, Sub.refl _, .inl ⟨_, (nj_put (ob := ob) (n := (namesOf pre).length + 1) (cap := cap2) (l2 := l2) bs z0 z2 (subNone bs hl2) (fun e => by subst e; rw [h4] at hl2; cases hl2) (fun e => by subst e; rw [bl] at hl2; cases hl2) n5 bl nml.symm arrN nm0 hcap2 hob).2, rfl⟩⟩
      · rw [namesOf_cons, show nameIf (.mk xk (.mk x1 x2 x3 x4) xs xc xp) = [] from if_neg hx, show namesOf [] = [] from rfl, List.append_nil, List.append_nil] at nm
        have q := fun X hX => nj_same (ob := ob) (X := X) bs z2 n5 bl hX nm b0 hout
        clear hτ2 hall
        conv => whnf
        repeat' (first | refine Fork.np ?_) <;> try (conv => whnf)
        all_goals exact RndN.mk bl ⟨_, Sub.refl _, .inl ⟨_, q _ hob, rfl⟩⟩
    · rintro out (⟨τ, hJ, rfl⟩ | ⟨τ, hK, rfl⟩)
      · exact ⟨_, _, hJ, rfl⟩
      · exact hK.elim
  · rintro τ τ' ⟨hsub, hrec, hout⟩ hd
    have d0 : ∀ y, y ≠ lr → τ' y = τ y := fun y hy => by rw [hd, del_ne _ hy]
    have hs' : Sub σ τ' := fun y o hy => by
      have : y ≠ lr := fun e => by subst e; rw [z2] at hy; cases hy
      rw [d0 y this]; exact hsub y o hy
    have d1 := d0 l (Ne.symm n5)
    have hnl := namesOf_len (subsE (.mk k (.mk vk vn vt vl) s c ps))
    generalize namesOf (subsE (.mk k (.mk vk vn vt vl) s c ps)) = ns at hN hout hnl
    rcases hout with ⟨e0, h4⟩ | ⟨la, cap, e0, m1, m2, m3, h4, h5, h6⟩
    · rw [← d1] at h4
      rw [e0] at hN
      have c1 := sort_nil (σ := τ')
      have c2 : CRun Tryz.prog 63 [.vec []] τ' (· = .ret (.vec []) τ') := crun_compact_nil lays194 (by kernel_rfl) (by kernel_rfl)
      clear hd d0 d1 hob he
      conv => whnf
      repeat' (first | (refine CallN.one c1 ?_) | (refine CallN.one c2 ?_) | refine GetN.go ?_ | refine ExtN.ext ?_ | refine finGo ?_) <;> try (conv => whnf)
      all_goals exact .inl ⟨hN, _, hs', rfl⟩
    · have d2 := d0 la m2
      rw [← d1] at h4
      rw [← d2, strs_bl] at h5
      have so := sort_once ns
      rw [← hN] at so
      have lb1 : (ns.map bl).length = ns.length := List.length_map ..
      have lb2 : ((ns.map bl).mergeSort fun x y => decide (x ≤ y)).length = ns.length := by rw [List.length_mergeSort, lb1]
      have c1 : CRun Tryz.prog 62 [.grow la ns.length cap] τ' (· = .ret (.tup []) (upd τ' la (.arr 9 1 cap (((ns.map bl).mergeSort fun x y => decide (x ≤ y)).map strV)))) :=
        crun_sort lays190 (by kernel_rfl) (by kernel_rfl) h5 lb1.symm (by omega)
      have c2 : CRun Tryz.prog 63 [.grow la ns.length cap] (upd τ' la (.arr 9 1 cap (((ns.map bl).mergeSort fun x y => decide (x ≤ y)).map strV))) _ :=
        crun_compact lays194 (by kernel_rfl) (by kernel_rfl) (upd_same _ _ _) lb2.symm (by omega) (compact_len _)
      rw [so, ← strs_bl, upd_upd, List.length_map] at c2
      have h4' : (upd τ' la (.arr 9 1 cap (((ns.map bl).mergeSort fun x y => decide (x ≤ y)).map strV))) l = some (.cells [.grow la ns.length cap]) := gotC m1 h4
      have hlN : N.length = (strs N).length := (strs_len N).symm
      rw [hlN] at c2
      have hsf : Sub σ (upd τ' la (.arr 9 1 cap (strs N))) := hs'.upd m3
      clear hd d0 d1 d2 hob he so lb1 lb2 hN h5
      generalize upd τ' la (.arr 9 1 cap (((ns.map bl).mergeSort fun x y => decide (x ≤ y)).map strV)) = τ2 at c1 c2 h4'
      conv => whnf
      repeat' (first | (refine CallN.one c1 ?_) | (refine CallN.one c2 ?_) | refine GetN.go ?_ | refine ExtN.wr ?_ | refine finGo ?_) <;> try (conv => whnf)
      all_goals exact .inr ⟨la, cap, _, hsf, m3, upd_same _ _ _, rfl⟩
end Go.Proofs.YthllnbfkfobcjaaGreat
namespace Go.Proofs.YthllnbfkfobcjaaGreat
open Go Go.CL
set_option maxRecDepth 10000
theorem null_tame' : Tame nullV := .mk (by omega) (by omega) (by decide) (by decide) (by simp)
set_option maxHeartbeats 4000000 in
theorem l4Ok_c {σ : Heap} {e : Exp} (he : ETame e) : ∀ {d : Int}, -10 ≤ d → d ≤ 1000 → CRun Tryz.prog 107 [e.cv, i64 d] σ (· = .ret (.sc (.bool (okE d e))) σ) := by
  induction he with
  | @mk k v s c ps hv hs hc hl hps ih =>
    intro d hd hd'
    have e3 := ecvs_length ps
    have a1 := fun k => arity_c (σ := σ) (k := k)
    have n1 := l2Name_c (σ := σ) (t := s) (by omega)
    have n2 := l2Name_c (σ := σ) (t := c) (by omega)
    have v1 := specOk_c (σ := σ) hv
    have v2 := lit_c (σ := σ) hv
    have v4 := l1Same_c (σ := σ) hv null_tame'
    rw [← empty_same] at v4
    by_cases hH : OkH d k v s c ps.length
    case neg =>
      have no : COut.ret (.sc (.bool false)) σ = .ret (.sc (.bool (okE d (.mk k v s c ps)))) σ := ansB (okE_no hH)
      have n1 := split n1
      have n2 := split n2
      have v1 := split v1
      have v2 := split v2
      have v4 := split v4
      obtain ⟨vk, vn, vt, vl⟩ := v
      refine crun_of (X := X) X_ok X_sat (body := bodyOf Tryz.f107) Tryz.func107 rfl (by kernel_rfl) (by kernel_rfl) ?_
      rw [Tryz.ntmps107]
      conv => whnf
      repeat' (first | (refine CallN.one (a1 _) ?_) | (refine CallN.many n1 ?_; rintro _ (⟨w1, rfl⟩ | ⟨w1, rfl⟩)) | (refine CallN.many n2 ?_; rintro _ (⟨w2, rfl⟩ | ⟨w2, rfl⟩)) | (refine CallN.many v1 ?_; rintro _ (⟨w3, rfl⟩ | ⟨w3, rfl⟩)) | (refine CallN.many v2 ?_; rintro _ (⟨w4, rfl⟩ | ⟨w4, rfl⟩)) | (refine CallN.many v4 ?_; rintro _ (⟨w6, rfl⟩ | ⟨w6, rfl⟩)) | refine OrdN.one ?_ | refine Fork.yp ?_ | refine Fork.np ?_ | refine Fork.ny ?_ | refine Fork.nn ?_ | refine Fork.dp (fun h => ?_) (fun h => ?_) | refine Fork.dn (fun h => ?_) (fun h => ?_) | refine Need.draw ?_ | refine ExtN.ext ?_ | refine finGo ?_) <;> try (conv => whnf)
      all_goals first
        | exact no
        | exact absurd ⟨by omega, by omega, fun h => by first | assumption | (unfold Named at h; omega), fun h => by first | assumption | exact absurd (by unfold Named; omega) h,
            fun h => by first | assumption | omega, fun h => by first | assumption | omega, fun h => by first | assumption | omega,
            fun h => by first | assumption | omega, fun h => by first | assumption | omega⟩ hH
    have one0 := hH.deep
    have har := hH.ar
    by_cases k1 : k = 1
    · have hs0 := hH.nm' (by unfold Named; omega)
      have hc0 := hH.ky' (by omega)
      rw [hH.vl k1] at v1
      rw [hH.vt k1] at v2
      obtain ⟨vk, vn, vt, vl⟩ := v
      subst hs0 hc0
      refine crun_of (X := X) X_ok X_sat (body := bodyOf Tryz.f107) Tryz.func107 rfl (by kernel_rfl) (by kernel_rfl) ?_
      rw [Tryz.ntmps107]
      conv => whnf
      repeat' (first | (refine CallN.one (a1 _) ?_) | (refine CallN.one v1 ?_) | (refine CallN.one v2 ?_) | refine OrdN.one ?_ | refine Fork.yp ?_ | refine Fork.np ?_ | refine Fork.ny ?_ | refine Fork.nn ?_ | refine Fork.yb ?_ | refine Need.draw ?_ | refine ExtN.ext ?_) <;> try (conv => whnf)
      refine LoopN.rule (α := Nat) (fun i => ⟨119, [(1, i64 d), (2, .ptr (.f 2) 0), (4, .sc (.bool false)), (9, i64 i)], [(2, .cells [i64 k, i64 vk, i64 vn, .sc (.string vt), .vec (Val.cvs vl), .sc (.string ⟨#[]⟩), .sc (.string ⟨#[]⟩), .vec (Exp.cvs ps)])]⟩)
        (fun _ => σ) (fun i => ps.length - i) (fun i => i ≤ ps.length ∧ ∀ j v, j < i → ps[j]? = some v → okE (d - 1) v = true) ?_ 0 ⟨by omega, by omega⟩ ?_
      · rintro i K ⟨h1, h2⟩ hK
        dsimp only at h1 h2 ⊢
        by_cases hi : i < ps.length
        · obtain ⟨⟨ek, ⟨evk, evn, evt, evl⟩, es, ec, eps⟩, hm, hg, hg'⟩ := ecvs_at hi
          have hc := ih _ hm (d := d - 1) (by omega) (by omega)
          cases hz : okE (d - 1) (.mk ek (.mk evk evn evt evl) es ec eps) <;> rw [hz] at hc
          · conv => whnf
            repeat' (first | (refine CallN.one hc ?_) | refine Fork.yp ?_ | refine Need.go ?_ | refine ElemN.go ?_ | refine ExtN.ext ?_ | refine finGo ?_) <;> try (conv => whnf)
            exact ansB (by rw [okE_yes hH, okEL_all]; exact List.all_eq_false.2 ⟨_, hm, by rw [hz]; simp⟩)
          · conv => whnf
            repeat' (first | (refine CallN.one hc ?_) | refine Fork.yp ?_ | refine Need.go ?_ | refine ElemN.go ?_ | refine ExtN.ext ?_) <;> try (conv => whnf)
            refine hK (i + 1) _ _ ⟨by omega, stepG h2 hg hz⟩ (by omega) ?_
            (refine ⟨rfl, ?_, ?_, Sub.refl _⟩ <;> repeat' (first | exact EnvLe.nil | exact LocsLe.nil | refine EnvLe.cons _ _ _ ?_ ?_ | refine LocsLe.cons _ _ _ ?_ ?_ | exact CVle.same _ rfl | exact CVle.vec _ _ | exact CVle.nil | exact CVle.tok _ _ _ rfl rfl | exact ObLe.tok _ _ rfl | exact CVles.nil | refine CVles.cons ?_ ?_ | exact ObLe.same _ rfl rfl | refine ObLe.cells rfl ?_))
        · have hall : okEL (d - 1) ps = true := by rw [okEL_all]; exact all_of fun j v hj => h2 j v (by omega)
          conv => whnf
          repeat' (first | refine Fork.np ?_ | refine finGo ?_) <;> try (conv => whnf)
          exact ansB (by rw [okE_yes hH, hall])
      · (refine ⟨rfl, ?_, ?_, Sub.refl _⟩ <;> repeat' (first | exact EnvLe.nil | exact LocsLe.nil | refine EnvLe.cons _ _ _ ?_ ?_ | refine LocsLe.cons _ _ _ ?_ ?_ | exact CVle.same _ rfl | exact CVle.vec _ _ | exact CVle.nil | exact CVle.tok _ _ _ rfl rfl | exact ObLe.tok _ _ rfl | exact CVles.nil | refine CVles.cons ?_ ?_ | exact ObLe.same _ rfl rfl | refine ObLe.cells rfl ?_))
    have hv1 := hH.vl' k1
    rw [hv1] at v4
    obtain ⟨vk, vn, vt, vl⟩ := v
    by_cases kn : Named k
    · have hs0 := hH.nm kn
      rw [hs0] at n1
      unfold Named at kn
      by_cases k3 : k = 3
      · have hc0 := hH.ky k3
        rw [hc0] at n2
        refine crun_of (X := X) X_ok X_sat (body := bodyOf Tryz.f107) Tryz.func107 rfl (by kernel_rfl) (by kernel_rfl) ?_
        rw [Tryz.ntmps107]
        conv => whnf
        repeat' (first | (refine CallN.one (a1 _) ?_) | (refine CallN.one n1 ?_) | (refine CallN.one n2 ?_) | (refine CallN.one v4 ?_) | refine OrdN.one ?_ | refine Fork.yp ?_ | refine Fork.np ?_ | refine Fork.ny ?_ | refine Fork.nn ?_ | refine Need.draw ?_ | refine ExtN.ext ?_) <;> try (conv => whnf)
        refine LoopN.rule (α := Nat) (fun i => ⟨119, [(1, i64 d), (2, .ptr (.f 2) 0), (4, .sc (.bool false)), (9, i64 i)], [(2, .cells [i64 k, i64 vk, i64 vn, .sc (.string vt), .vec (Val.cvs vl), .sc (.string s), .sc (.string c), .vec (Exp.cvs ps)])]⟩)
          (fun _ => σ) (fun i => ps.length - i) (fun i => i ≤ ps.length ∧ ∀ j v, j < i → ps[j]? = some v → okE (d - 1) v = true) ?_ 0 ⟨by omega, by omega⟩ ?_
        · rintro i K ⟨h1, h2⟩ hK
          dsimp only at h1 h2 ⊢
          by_cases hi : i < ps.length
          · obtain ⟨⟨ek, ⟨evk, evn, evt, evl⟩, es, ec, eps⟩, hm, hg, hg'⟩ := ecvs_at hi
            have hc := ih _ hm (d := d - 1) (by omega) (by omega)
            cases hz : okE (d - 1) (.mk ek (.mk evk evn evt evl) es ec eps) <;> rw [hz] at hc
            · conv => whnf
              repeat' (first | (refine CallN.one hc ?_) | refine Fork.yp ?_ | refine Need.go ?_ | refine ElemN.go ?_ | refine ExtN.ext ?_ | refine finGo ?_) <;> try (conv => whnf)
              exact ansB (by rw [okE_yes hH, okEL_all]; exact List.all_eq_false.2 ⟨_, hm, by rw [hz]; simp⟩)
            · conv => whnf
              repeat' (first | (refine CallN.one hc ?_) | refine Fork.yp ?_ | refine Need.go ?_ | refine ElemN.go ?_ | refine ExtN.ext ?_) <;> try (conv => whnf)
              refine hK (i + 1) _ _ ⟨by omega, stepG h2 hg hz⟩ (by omega) ?_
              (refine ⟨rfl, ?_, ?_, Sub.refl _⟩ <;> repeat' (first | exact EnvLe.nil | exact LocsLe.nil | refine EnvLe.cons _ _ _ ?_ ?_ | refine LocsLe.cons _ _ _ ?_ ?_ | exact CVle.same _ rfl | exact CVle.vec _ _ | exact CVle.nil | exact CVle.tok _ _ _ rfl rfl | exact ObLe.tok _ _ rfl | exact CVles.nil | refine CVles.cons ?_ ?_ | exact ObLe.same _ rfl rfl | refine ObLe.cells rfl ?_))
          · have hall : okEL (d - 1) ps = true := by rw [okEL_all]; exact all_of fun j v hj => h2 j v (by omega)
            conv => whnf
            repeat' (first | refine Fork.np ?_ | refine finGo ?_) <;> try (conv => whnf)
            exact ansB (by rw [okE_yes hH, hall])
        · (refine ⟨rfl, ?_, ?_, Sub.refl _⟩ <;> repeat' (first | exact EnvLe.nil | exact LocsLe.nil | refine EnvLe.cons _ _ _ ?_ ?_ | refine LocsLe.cons _ _ _ ?_ ?_ | exact CVle.same _ rfl | exact CVle.vec _ _ | exact CVle.nil | exact CVle.tok _ _ _ rfl rfl | exact ObLe.tok _ _ rfl | exact CVles.nil | refine CVles.cons ?_ ?_ | exact ObLe.same _ rfl rfl | refine ObLe.cells rfl ?_))
      · have hc0 := hH.ky' k3
        subst hc0
        refine crun_of (X := X) X_ok X_sat (body := bodyOf Tryz.f107) Tryz.func107 rfl (by kernel_rfl) (by kernel_rfl) ?_
        rw [Tryz.ntmps107]
        conv => whnf
        repeat' (first | (refine CallN.one (a1 _) ?_) | (refine CallN.one n1 ?_) | (refine CallN.one v4 ?_) | refine OrdN.one ?_ | refine Fork.yp ?_ | refine Fork.np ?_ | refine Fork.ny ?_ | refine Fork.nn ?_ | refine Fork.yb ?_ | refine Fork.dp (fun h => ?_) (fun h => ?_) | refine Need.draw ?_ | refine ExtN.ext ?_) <;> try (conv => whnf)
        all_goals
          refine LoopN.rule (α := Nat) (fun i => ⟨119, [(1, i64 d), (2, .ptr (.f 2) 0), (4, .sc (.bool false)), (9, i64 i)], [(2, .cells [i64 k, i64 vk, i64 vn, .sc (.string vt), .vec (Val.cvs vl), .sc (.string s), .sc (.string ⟨#[]⟩), .vec (Exp.cvs ps)])]⟩)
            (fun _ => σ) (fun i => ps.length - i) (fun i => i ≤ ps.length ∧ ∀ j v, j < i → ps[j]? = some v → okE (d - 1) v = true) ?_ 0 ⟨by omega, by omega⟩ ?_
          · rintro i K ⟨h1, h2⟩ hK
            dsimp only at h1 h2 ⊢
            by_cases hi : i < ps.length
            · obtain ⟨⟨ek, ⟨evk, evn, evt, evl⟩, es, ec, eps⟩, hm, hg, hg'⟩ := ecvs_at hi
              have hc := ih _ hm (d := d - 1) (by omega) (by omega)
              cases hz : okE (d - 1) (.mk ek (.mk evk evn evt evl) es ec eps) <;> rw [hz] at hc
              · conv => whnf
                repeat' (first | (refine CallN.one hc ?_) | refine Fork.yp ?_ | refine Need.go ?_ | refine ElemN.go ?_ | refine ExtN.ext ?_ | refine finGo ?_) <;> try (conv => whnf)
                exact ansB (by rw [okE_yes hH, okEL_all]; exact List.all_eq_false.2 ⟨_, hm, by rw [hz]; simp⟩)
              · conv => whnf
                repeat' (first | (refine CallN.one hc ?_) | refine Fork.yp ?_ | refine Need.go ?_ | refine ElemN.go ?_ | refine ExtN.ext ?_) <;> try (conv => whnf)
                refine hK (i + 1) _ _ ⟨by omega, stepG h2 hg hz⟩ (by omega) ?_
                (refine ⟨rfl, ?_, ?_, Sub.refl _⟩ <;> repeat' (first | exact EnvLe.nil | exact LocsLe.nil | refine EnvLe.cons _ _ _ ?_ ?_ | refine LocsLe.cons _ _ _ ?_ ?_ | exact CVle.same _ rfl | exact CVle.vec _ _ | exact CVle.nil | exact CVle.tok _ _ _ rfl rfl | exact ObLe.tok _ _ rfl | exact CVles.nil | refine CVles.cons ?_ ?_ | exact ObLe.same _ rfl rfl | refine ObLe.cells rfl ?_))
            · have hall : okEL (d - 1) ps = true := by rw [okEL_all]; exact all_of fun j v hj => h2 j v (by omega)
              conv => whnf
              repeat' (first | refine Fork.np ?_ | refine finGo ?_) <;> try (conv => whnf)
              exact ansB (by rw [okE_yes hH, hall])
          · (refine ⟨rfl, ?_, ?_, Sub.refl _⟩ <;> repeat' (first | exact EnvLe.nil | exact LocsLe.nil | refine EnvLe.cons _ _ _ ?_ ?_ | refine LocsLe.cons _ _ _ ?_ ?_ | exact CVle.same _ rfl | exact CVle.vec _ _ | exact CVle.nil | exact CVle.tok _ _ _ rfl rfl | exact ObLe.tok _ _ rfl | exact CVles.nil | refine CVles.cons ?_ ?_ | exact ObLe.same _ rfl rfl | refine ObLe.cells rfl ?_))
    · have hs0 := hH.nm' kn
      have hc0 := hH.ky' (by unfold Named at kn; omega)
      have k2 : ¬ k = 2 ∧ ¬ k = 3 ∧ ¬ k = 4 := by unfold Named at kn; omega
      obtain ⟨k2, k3, k4⟩ := k2
      subst hs0 hc0
      refine crun_of (X := X) X_ok X_sat (body := bodyOf Tryz.f107) Tryz.func107 rfl (by kernel_rfl) (by kernel_rfl) ?_
      rw [Tryz.ntmps107]
      conv => whnf
      repeat' (first | (refine CallN.one (a1 _) ?_) | (refine CallN.one v4 ?_) | refine OrdN.one ?_ | refine Fork.np ?_ | refine Fork.ny ?_ | refine Fork.nn ?_ | refine Fork.yb ?_ | refine Need.draw ?_ | refine ExtN.ext ?_) <;> try (conv => whnf)
      refine LoopN.rule (α := Nat) (fun i => ⟨119, [(1, i64 d), (2, .ptr (.f 2) 0), (4, .sc (.bool false)), (9, i64 i)], [(2, .cells [i64 k, i64 vk, i64 vn, .sc (.string vt), .vec (Val.cvs vl), .sc (.string ⟨#[]⟩), .sc (.string ⟨#[]⟩), .vec (Exp.cvs ps)])]⟩)
        (fun _ => σ) (fun i => ps.length - i) (fun i => i ≤ ps.length ∧ ∀ j v, j < i → ps[j]? = some v → okE (d - 1) v = true) ?_ 0 ⟨by omega, by omega⟩ ?_
      · rintro i K ⟨h1, h2⟩ hK
        dsimp only at h1 h2 ⊢
        by_cases hi : i < ps.length
        · obtain ⟨⟨ek, ⟨evk, evn, evt, evl⟩, es, ec, eps⟩, hm, hg, hg'⟩ := ecvs_at hi
          have hc := ih _ hm (d := d - 1) (by omega) (by omega)
          cases hz : okE (d - 1) (.mk ek (.mk evk evn evt evl) es ec eps) <;> rw [hz] at hc
          · conv => whnf
            repeat' (first | (refine CallN.one hc ?_) | refine Fork.yp ?_ | refine Need.go ?_ | refine ElemN.go ?_ | refine ExtN.ext ?_ | refine finGo ?_) <;> try (conv => whnf)
            exact ansB (by rw [okE_yes hH, okEL_all]; exact List.all_eq_false.2 ⟨_, hm, by rw [hz]; simp⟩)
          · conv => whnf
            repeat' (first | (refine CallN.one hc ?_) | refine Fork.yp ?_ | refine Need.go ?_ | refine ElemN.go ?_ | refine ExtN.ext ?_) <;> try (conv => whnf)
            refine hK (i + 1) _ _ ⟨by omega, stepG h2 hg hz⟩ (by omega) ?_
            (refine ⟨rfl, ?_, ?_, Sub.refl _⟩ <;> repeat' (first | exact EnvLe.nil | exact LocsLe.nil | refine EnvLe.cons _ _ _ ?_ ?_ | refine LocsLe.cons _ _ _ ?_ ?_ | exact CVle.same _ rfl | exact CVle.vec _ _ | exact CVle.nil | exact CVle.tok _ _ _ rfl rfl | exact ObLe.tok _ _ rfl | exact CVles.nil | refine CVles.cons ?_ ?_ | exact ObLe.same _ rfl rfl | refine ObLe.cells rfl ?_))
        · have hall : okEL (d - 1) ps = true := by rw [okEL_all]; exact all_of fun j v hj => h2 j v (by omega)
          conv => whnf
          repeat' (first | refine Fork.np ?_ | refine finGo ?_) <;> try (conv => whnf)
          exact ansB (by rw [okE_yes hH, hall])
      · (refine ⟨rfl, ?_, ?_, Sub.refl _⟩ <;> repeat' (first | exact EnvLe.nil | exact LocsLe.nil | refine EnvLe.cons _ _ _ ?_ ?_ | refine LocsLe.cons _ _ _ ?_ ?_ | exact CVle.same _ rfl | exact CVle.vec _ _ | exact CVle.nil | exact CVle.tok _ _ _ rfl rfl | exact ObLe.tok _ _ rfl | exact CVles.nil | refine CVles.cons ?_ ?_ | exact ObLe.same _ rfl rfl | refine ObLe.cells rfl ?_))
theorem implExprOk_c {σ : Heap} {e : Exp} (he : ETame e) : CRun Tryz.prog 36 [e.cv] σ (· = .ret (.sc (.bool (okE 4 e))) σ) := by
  have c := exprFits_c (σ := σ) he (d := 4) (by omega) (by omega)
  obtain ⟨k, ⟨vk, vn, vt, vl⟩, s, c', ps⟩ := e
  refine crun_of (X := X) X_ok X_sat (body := bodyOf Tryz.f36) Tryz.func36 rfl (by kernel_rfl) (by kernel_rfl) ?_
  rw [Tryz.ntmps36]
  conv => whnf
  repeat' (first | (refine CallN.one c ?_) | refine ExtN.ext ?_ | refine finGo ?_) <;> try (conv => whnf)
  all_goals rfl
theorem specExprOk_c {σ : Heap} {e : Exp} (he : ETame e) : CRun Tryz.prog 46 [e.cv] σ (· = .ret (.sc (.bool (okE 4 e))) σ) := by
  have c := l4Ok_c (σ := σ) he (d := 4) (by omega) (by omega)
  obtain ⟨k, ⟨vk, vn, vt, vl⟩, s, c', ps⟩ := e
  refine crun_of (X := X) X_ok X_sat (body := bodyOf Tryz.f46) Tryz.func46 rfl (by kernel_rfl) (by kernel_rfl) ?_
  rw [Tryz.ntmps46]
  conv => whnf
  repeat' (first | (refine CallN.one c ?_) | refine ExtN.ext ?_ | refine finGo ?_) <;> try (conv => whnf)
  all_goals rfl
theorem null_of {k n d : Int} {t : ByteArray} {l : List Val} (hk : okV d (.mk k n t l) = true) (h : k = 0) : (Val.mk k n t l) = nullV := by
  subst h
  obtain ⟨rfl, rfl⟩ := okV_num hk (by decide) (by decide)
  have e6 : n = 0 := by rcases okV_kind hk with ⟨_, e3⟩ | h | h | h | h | h | h <;> omega
  rw [e6]; rfl
set_option maxHeartbeats 1000000 in
theorem l4In_c {σ : Heap} {a b : Val} (ha : Tame a) (hb : Tame b) (hok : okV 3 b = true) : CRun Tryz.prog 183 [a.cv, b.cv] σ (· = outS σ (memR a b)) := by
  have y0 := @bool_t σ
  obtain ⟨k, n, t, l⟩ := b
  obtain ⟨_, _, ht, hl, hall⟩ := hb.inv
  have e3 := cvs_length l
  have hd : memR a (.mk k n t l) = if k = 0 then .ok nullV else if k = 4 then .ok (in3 a l).v else .err 1 := rfl
  have heq := fun w (hm : w ∈ l) => l1Equal_c (σ := σ) ha (hall w hm)
  obtain ⟨ak, an, at', al⟩ := a
  by_cases k0 : k = 0
  · rw [hd, if_pos k0, null_of hok k0]
    unfold nullV
    refine crun_of (X := X) X_ok X_sat (body := bodyOf Tryz.f183) Tryz.func183 rfl (by kernel_rfl) (by kernel_rfl) ?_
    rw [Tryz.ntmps183]
    conv => whnf
    repeat' (first | refine Fork.yp ?_ | refine finGo ?_) <;> try (conv => whnf)
    all_goals rfl
  by_cases k4 : k = 4
  case neg =>
    rw [hd, if_neg k0, if_neg k4]
    refine crun_of (X := X) X_ok X_sat (body := bodyOf Tryz.f183) Tryz.func183 rfl (by kernel_rfl) (by kernel_rfl) ?_
    rw [Tryz.ntmps183]
    conv => whnf
    repeat' (first | refine Fork.np ?_ | refine Fork.ny ?_ | refine finGo ?_) <;> try (conv => whnf)
    all_goals rfl
  rw [hd, if_neg k0, if_pos k4]
  have o : ∀ q : T3, combI true (in3 (.mk ak an at' al) l) = q → COut.ret (.tup [q.v.cv, i64 0]) σ = outS σ (.ok (in3 (.mk ak an at' al) l).v) := fun q h => by rw [← h]; rfl
  refine crun_of (X := X) X_ok X_sat (body := bodyOf Tryz.f183) Tryz.func183 rfl (by kernel_rfl) (by kernel_rfl) ?_
  rw [Tryz.ntmps183]
  conv => whnf
  repeat' (first | refine Fork.np ?_ | refine Fork.nn ?_) <;> try (conv => whnf)
  refine LoopN.rule (α := Nat × Bool) (fun s => ⟨50, [(2, .ptr (.f 2) 0), (3, .ptr (.f 3) 0), (4, .ptr (.f 4) 0), (6, .sc (.bool s.2)), (7, i64 s.1)],
      [(2, .cells [i64 ak, i64 an, .sc (.string at'), .vec (Val.cvs al)]), (3, .cells [i64 k, i64 n, .sc (.string t), .vec (Val.cvs l)]), (4, .cells [i64 0, i64 0, .sc (.string ⟨#[]⟩), .nil])]⟩)
    (fun _ => σ) (fun s => l.length - s.1) (fun s => s.1 ≤ l.length ∧ combI true (in3 (.mk ak an at' al) l) = combI s.2 (in3 (.mk ak an at' al) (l.drop s.1))) ?_ (0, true) ⟨Nat.zero_le _, rfl⟩ ?_
  rotate_left
  · (refine ⟨rfl, ?_, ?_, Sub.refl _⟩ <;> repeat' (first | exact EnvLe.nil | exact LocsLe.nil | refine EnvLe.cons _ _ _ ?_ ?_ | refine LocsLe.cons _ _ _ ?_ ?_ | exact CVle.same _ rfl | exact CVle.vec _ _ | exact CVle.nil | exact CVle.tok _ _ _ rfl rfl | exact ObLe.tok _ _ rfl | exact CVles.nil | refine CVles.cons ?_ ?_ | exact ObLe.same _ rfl rfl | refine ObLe.cells rfl ?_))
  rintro ⟨i, kn⟩ K ⟨g1, g3⟩ hK
  dsimp only at g1 g3 ⊢
  by_cases hi : i < l.length
  · obtain ⟨w, hm, hw, hg⟩ := cvs_at hi
    have hc := heq w hm
    rw [drop_get hw] at g3
    obtain ⟨wk, wn, wt, wl⟩ := w
    cases hz : eq3 (.mk ak an at' al) (.mk wk wn wt wl) with
    | no =>
      rw [hz] at hc
      rw [combI_no hz] at g3
      cases kn
      · conv => whnf
        repeat' (first | (refine CallN.one hc ?_) | refine OrdN.one ?_ | refine Fork.yp ?_ | refine Fork.np ?_ | refine Need.go ?_ | refine Need.draw ?_ | refine ElemN.go ?_ | refine ExtN.ext ?_) <;> try (conv => whnf)
        refine hK (i + 1, false) _ _ ⟨by dsimp only; omega, g3⟩ (by dsimp only; omega) ?_
        (refine ⟨rfl, ?_, ?_, Sub.refl _⟩ <;> repeat' (first | exact EnvLe.nil | exact LocsLe.nil | refine EnvLe.cons _ _ _ ?_ ?_ | refine LocsLe.cons _ _ _ ?_ ?_ | exact CVle.same _ rfl | exact CVle.vec _ _ | exact CVle.nil | exact CVle.tok _ _ _ rfl rfl | exact ObLe.tok _ _ rfl | exact CVles.nil | refine CVles.cons ?_ ?_ | exact ObLe.same _ rfl rfl | refine ObLe.cells rfl ?_))
      · conv => whnf
        repeat' (first | (refine CallN.one hc ?_) | refine OrdN.one ?_ | refine Fork.yp ?_ | refine Fork.np ?_ | refine Need.go ?_ | refine Need.draw ?_ | refine ElemN.go ?_ | refine ExtN.ext ?_) <;> try (conv => whnf)
        refine hK (i + 1, true) _ _ ⟨by dsimp only; omega, g3⟩ (by dsimp only; omega) ?_
        (refine ⟨rfl, ?_, ?_, Sub.refl _⟩ <;> repeat' (first | exact EnvLe.nil | exact LocsLe.nil | refine EnvLe.cons _ _ _ ?_ ?_ | refine LocsLe.cons _ _ _ ?_ ?_ | exact CVle.same _ rfl | exact CVle.vec _ _ | exact CVle.nil | exact CVle.tok _ _ _ rfl rfl | exact ObLe.tok _ _ rfl | exact CVles.nil | refine CVles.cons ?_ ?_ | exact ObLe.same _ rfl rfl | refine ObLe.cells rfl ?_))
    | unk =>
      rw [hz] at hc
      rw [combI_unk hz] at g3
      cases kn
      all_goals
        conv => whnf
        repeat' (first | (refine CallN.one hc ?_) | refine OrdN.one ?_ | refine Fork.yp ?_ | refine Fork.np ?_ | refine Need.go ?_ | refine Need.draw ?_ | refine ElemN.go ?_ | refine ExtN.ext ?_) <;> try (conv => whnf)
        refine hK (i + 1, false) _ _ ⟨by dsimp only; omega, g3⟩ (by dsimp only; omega) ?_
        (refine ⟨rfl, ?_, ?_, Sub.refl _⟩ <;> repeat' (first | exact EnvLe.nil | exact LocsLe.nil | refine EnvLe.cons _ _ _ ?_ ?_ | refine LocsLe.cons _ _ _ ?_ ?_ | exact CVle.same _ rfl | exact CVle.vec _ _ | exact CVle.nil | exact CVle.tok _ _ _ rfl rfl | exact ObLe.tok _ _ rfl | exact CVles.nil | refine CVles.cons ?_ ?_ | exact ObLe.same _ rfl rfl | refine ObLe.cells rfl ?_))
    | yes =>
      rw [hz] at hc
      rw [combI_yes hz] at g3
      cases kn
      all_goals
        conv => whnf
        repeat' (first | (refine CallN.one hc ?_) | refine OrdN.one ?_ | refine Fork.yp ?_ | refine Need.go ?_ | refine Need.draw ?_ | refine ElemN.go ?_ | refine ExtN.ext ?_ | refine finGo ?_) <;> try (conv => whnf)
        exact o _ g3
  · rw [List.drop_eq_nil_of_le (by omega)] at g3
    cases kn
    · conv => whnf
      repeat' (first | refine Fork.np ?_ | refine finGo ?_) <;> try (conv => whnf)
      exact o .unk g3
    · conv => whnf
      repeat' (first | (refine CallN.one y0 ?_) | refine Fork.np ?_ | refine ExtN.ext ?_ | refine finGo ?_) <;> try (conv => whnf)
      exact o .no g3
theorem placeS_look : ∀ (l : List Pr) (s : ByteArray) (k : Nat), (placeS l s k = -1 ∧ lookP l s = none) ∨ ∃ (i : Nat) (p : Pr), l[i]? = some p ∧ placeS l s k = ((k + i : Nat) : Int) ∧ lookP l s = some p.val
  | [], s, k => .inl ⟨rfl, rfl⟩
  | p :: r, s, k => by
    simp only [placeS, lookP]
    by_cases h : p.name = s
    · rw [if_pos h, if_pos h]; exact .inr ⟨0, p, rfl, by simp, rfl⟩
    · rw [if_neg h, if_neg h]
      rcases placeS_look r s (k + 1) with ⟨h1, h2⟩ | ⟨i, q, h1, h2, h3⟩
      · exact .inl ⟨h1, h2⟩
      · exact .inr ⟨i + 1, q, by simpa using h1, by rw [h2]; congr 1; omega, h3⟩
def leafR (g : Gr) (row given : List Pr) : Exp → Rs
  | .mk k v s c _ => if k = 1 then .ok v else match lookP (if k = 4 then given else row) s with
    | none => .err 3
    | some w => if k = 3 then askR g w c else .ok w
theorem leafR_mk {g : Gr} {row given : List Pr} {k : Int} {v : Val} {s c : ByteArray} {ps : List Exp} : leafR g row given (.mk k v s c ps) = if k = 1 then .ok v else match lookP (if k = 4 then given else row) s with
    | none => .err 3
    | some w => if k = 3 then askR g w c else .ok w := rfl
set_option maxHeartbeats 1000000 in
theorem l4Leaf_c {σ : Heap} {g : Gr} {row given : List Pr} {e : Exp} (hg : GrTame g) (hr : row.length ≤ 1000) (hrt : ∀ p ∈ row, PrTame p) (hv : given.length ≤ 1000) (hvt : ∀ p ∈ given, PrTame p) (he : ETame e) :
    CRun Tryz.prog 108 [g.cv, .vec (prs row), .vec (prs given), e.cv] σ (· = outS σ (leafR g row given e)) := by
  obtain ⟨k, v, s, c, ps⟩ := e
  obtain ⟨t1, _, _, _, _⟩ := he.inv
  have cv := copy_c (σ := σ) t1
  rw [leafR_mk]
  obtain ⟨vk, vn, vt, vl⟩ := v
  by_cases k1 : k = 1
  · rw [if_pos k1]
    refine crun_of (X := X) X_ok X_sat (body := bodyOf Tryz.f108) Tryz.func108 rfl (by kernel_rfl) (by kernel_rfl) ?_
    rw [Tryz.ntmps108]
    conv => whnf
    repeat' (first | (refine CallN.one cv ?_) | refine Fork.yp ?_ | refine Fork.np ?_ | refine ExtN.ext ?_ | refine finGo ?_) <;> try (conv => whnf)
    all_goals rfl
  rw [if_neg k1]
  have main : ∀ (from' : List Pr), from'.length ≤ 1000 → (∀ p ∈ from', PrTame p) → (if k = 4 then given else row) = from' →
      CRun Tryz.prog 108 [g.cv, .vec (prs row), .vec (prs given), (Exp.mk k (.mk vk vn vt vl) s c ps).cv] σ (· = outS σ (match lookP from' s with
    | none => .err 3
    | some w => if k = 3 then askR g w c else .ok w)) := by
    intro fr hf hft hfr
    have c1 := l4Cell_c (σ := σ) (s := s) hf
    have hfr' : (k = 4 ∧ fr = given) ∨ (¬ k = 4 ∧ fr = row) := by
      by_cases h : k = 4
      · rw [if_pos h] at hfr; exact .inl ⟨h, hfr.symm⟩
      · rw [if_neg h] at hfr; exact .inr ⟨h, hfr.symm⟩
    have e3 := prs_len fr
    rcases placeS_look fr s 0 with ⟨h1, h2⟩ | ⟨i, ⟨nm, w⟩, h1, h2, h3⟩
    · rw [h1] at c1
      rw [h2]
      dsimp only
      rcases hfr' with ⟨h4, rfl⟩ | ⟨h4, rfl⟩
      all_goals
        refine crun_of (X := X) X_ok X_sat (body := bodyOf Tryz.f108) Tryz.func108 rfl (by kernel_rfl) (by kernel_rfl) ?_
        rw [Tryz.ntmps108]
        conv => whnf
        repeat' (first | (refine CallN.one c1 ?_) | refine Fork.yp ?_ | refine Fork.np ?_ | refine ExtN.ext ?_ | refine finGo ?_) <;> try (conv => whnf)
        all_goals rfl
    · rw [h2] at c1
      rw [Nat.zero_add] at c1
      rw [h3]
      dsimp only
      obtain ⟨hi, _⟩ := List.getElem?_eq_some_iff.1 h1
      obtain ⟨s', wk, wn, wt, wl, hm, hg1, hg2⟩ := prs_at hi
      rw [hg1] at h1
      cases h1
      have cw := copy_c (σ := σ) (hft _ hm).val
      have cg := l2Get_c (σ := σ) (v := .mk wk wn wt wl) (s := c) hg
      dsimp only at cw
      by_cases k3 : k = 3
      · rw [if_pos k3]
        have hd : askR g (.mk wk wn wt wl) c = if wk = 5 ∨ wk = 6 ∨ wk = 0 then .ok (getG g (.mk wk wn wt wl) c) else .err 1 := rfl
        rw [hd]
        obtain ⟨h4, rfl⟩ : ¬ k = 4 ∧ fr = row := by
          rcases hfr' with h | h
          · omega
          · exact h
        by_cases hw : wk = 5 ∨ wk = 6 ∨ wk = 0
        · rw [if_pos hw]
          generalize getG g (.mk wk wn wt wl) c = r at cg ⊢
          obtain ⟨rk, rn, rt, rl⟩ := r
          refine crun_of (X := X) X_ok X_sat (body := bodyOf Tryz.f108) Tryz.func108 rfl (by kernel_rfl) (by kernel_rfl) ?_
          rw [Tryz.ntmps108]
          rcases hw with hw | hw | hw
          all_goals
            conv => whnf
            repeat' (first | (refine CallN.one c1 ?_) | (refine CallN.one cw ?_) | (refine CallN.one cg ?_) | refine Fork.np ?_ | refine Fork.ny ?_ | refine Fork.nn ?_ | refine Need.go ?_ | refine ElemN.go ?_ | refine ExtN.ext ?_ | refine finGo ?_) <;> try (conv => whnf)
            all_goals rfl
        · rw [if_neg hw]
          have q1 : ¬ wk = 5 := by omega
          have q2 : ¬ wk = 6 := by omega
          have q3 : ¬ wk = 0 := by omega
          refine crun_of (X := X) X_ok X_sat (body := bodyOf Tryz.f108) Tryz.func108 rfl (by kernel_rfl) (by kernel_rfl) ?_
          rw [Tryz.ntmps108]
          conv => whnf
          repeat' (first | (refine CallN.one c1 ?_) | (refine CallN.one cw ?_) | refine Fork.np ?_ | refine Fork.ny ?_ | refine Fork.nn ?_ | refine Need.go ?_ | refine ElemN.go ?_ | refine ExtN.ext ?_ | refine finGo ?_) <;> try (conv => whnf)
          all_goals rfl
      · rw [if_neg k3]
        rcases hfr' with ⟨h4, rfl⟩ | ⟨h4, rfl⟩
        all_goals
          refine crun_of (X := X) X_ok X_sat (body := bodyOf Tryz.f108) Tryz.func108 rfl (by kernel_rfl) (by kernel_rfl) ?_
          rw [Tryz.ntmps108]
          conv => whnf
          repeat' (first | (refine CallN.one c1 ?_) | (refine CallN.one cw ?_) | refine Fork.yp ?_ | refine Fork.np ?_ | refine Fork.ny ?_ | refine Need.go ?_ | refine ElemN.go ?_ | refine ExtN.ext ?_ | refine finGo ?_) <;> try (conv => whnf)
          all_goals rfl
  by_cases h4 : k = 4
  · have := main given hv hvt (if_pos h4)
    rw [if_pos h4]; exact this
  · have := main row hr hrt (if_neg h4)
    rw [if_neg h4]; exact this
def chk (v : Val) : Rs := if okV 3 v = true then .ok v else .err 2
def addR : Val → Val → Rs
  | .mk k n t l, .mk k' n' t' l' => if k = 0 ∨ k' = 0 then .ok nullV else if k = 2 ∧ k' = 2 then chk (.mk 2 (n + n') ⟨#[]⟩ []) else if k = 3 ∧ k' = 3 then chk (.mk 3 0 (t ++ t') []) else if k = 4 ∧ k' = 4 then chk (.mk 4 0 ⟨#[]⟩ (l ++ l')) else .err 1
theorem addR_mk {k n k' n' : Int} {t t' : ByteArray} {l l' : List Val} : addR (.mk k n t l) (.mk k' n' t' l') = if k = 0 ∨ k' = 0 then .ok nullV else if k = 2 ∧ k' = 2 then chk (.mk 2 (n + n') ⟨#[]⟩ []) else if k = 3 ∧ k' = 3 then chk (.mk 3 0 (t ++ t') []) else if k = 4 ∧ k' = 4 then chk (.mk 4 0 ⟨#[]⟩ (l ++ l')) else .err 1 := rfl
theorem okV_nums {d k n : Int} {t : ByteArray} {l : List Val} (h : okV d (.mk k n t l) = true) : (-1000000000 ≤ n ∧ n ≤ 1000000000) ∧ t.size ≤ 16 ∧ l.length ≤ 6 := by
  have e0 : (⟨#[]⟩ : ByteArray).size = 0 := rfl
  rcases okV_kind h with ⟨h1, h2⟩ | h1 | h1 | h1 | h1 | h1 | h1 <;> subst h1
  · obtain ⟨e1, e2⟩ := okV_num h (by decide) (by decide); subst e1 e2 h2; exact ⟨by omega, by decide, by simp⟩
  · obtain ⟨e1, e2⟩ := okV_num h (by decide) (by decide); subst e1 e2; simp [okV] at h; simp; omega
  · obtain ⟨e1, e2⟩ := okV_num h (by decide) (by decide); subst e1 e2; simp [okV] at h; simp; omega
  · obtain ⟨e1, e2⟩ := okV_text h
    subst e1 e2
    simp [okV, textOk] at h
    simp; omega
  · obtain ⟨e1, e2⟩ := okV_list0 h
    subst e1 e2
    simp [okV] at h
    simp; omega
  · obtain ⟨e1, e2⟩ := okV_num h (by decide) (by decide); subst e1 e2; simp [okV] at h; simp; omega
  · obtain ⟨e1, e2⟩ := okV_num h (by decide) (by decide); subst e1 e2; simp [okV] at h; simp; omega
theorem chk_ok {v : Val} (h : okV 3 v = true) : chk v = .ok v := if_pos h
theorem chk_no {v : Val} (h : okV 3 v = false) : chk v = .err 2 := if_neg (by simp [h])
theorem len_app {l l' : List Val} : Val.cvs l ++ Val.cvs l' = Val.cvs (l ++ l') := (cvs_append l l').symm
theorem cvs_els : ∀ (l : List Val), ElsOk 4 (Val.cvs l)
  | [] => .nil
  | .mk k n t v :: r => .cons rfl rfl (cvs_els r)
theorem cvs_full {l : List Val} (h : ¬ l = []) : (Val.cvs l).isEmpty = false ∧ 1 ≤ (Val.cvs l).length := by
  cases l with
  | nil => exact absurd rfl h
  | cons v r => exact ⟨rfl, by simp [Val.cvs]⟩
set_option maxHeartbeats 2000000 in
theorem l4Add_c {σ : Heap} {a b : Val} (ha : Tame a) (hb : Tame b) (oa : okV 3 a = true) (ob : okV 3 b = true) : CRun Tryz.prog 182 [a.cv, b.cv] σ (· = outS σ (addR a b)) := by
  have ca := copy_c (σ := σ) ha
  have cb := copy_c (σ := σ) hb
  obtain ⟨k, n, t, l⟩ := a
  obtain ⟨k', n', t', l'⟩ := b
  obtain ⟨_, _, _, _, ja⟩ := ha.inv
  obtain ⟨_, _, _, _, jb⟩ := hb.inv
  obtain ⟨b1, b2, b3⟩ := okV_nums oa
  obtain ⟨b4, b5, b6⟩ := okV_nums ob
  have e3 := cvs_length l
  have e4 := cvs_length l'
  rw [addR_mk]
  by_cases z : k = 0 ∨ k' = 0
  · rw [if_pos z]
    refine crun_of (X := X) X_ok X_sat (body := bodyOf Tryz.f182) Tryz.func182 rfl (by kernel_rfl) (by kernel_rfl) ?_
    rw [Tryz.ntmps182]
    rcases z with z | z
    all_goals
      conv => whnf
      repeat' (first | refine Fork.yp ?_ | refine Fork.dp (fun h => ?_) (fun h => ?_) | refine finGo ?_) <;> try (conv => whnf)
      all_goals rfl
  rw [if_neg z]
  have z1 : ¬ k = 0 := by omega
  have z2 : ¬ k' = 0 := by omega
  by_cases k2 : k = 2 ∧ k' = 2
  · rw [if_pos k2]
    obtain ⟨q1, q2⟩ := k2
    have cc := specOk_c (σ := σ) (v := .mk 2 (n + n') ⟨#[]⟩ []) (.mk (by omega) (by omega) (by decide) (by decide) (by simp))
    cases ho : okV 3 (.mk 2 (n + n') ⟨#[]⟩ []) <;> rw [ho] at cc
    · rw [chk_no ho]
      refine crun_of (X := X) X_ok X_sat (body := bodyOf Tryz.f182) Tryz.func182 rfl (by kernel_rfl) (by kernel_rfl) ?_
      rw [Tryz.ntmps182]
      conv => whnf
      repeat' (first | (refine CallN.one cc ?_) | refine Fork.yp ?_ | refine Fork.np ?_ | refine Need.go ?_ | refine ExtN.ext ?_ | refine finGo ?_) <;> try (conv => whnf)
      all_goals rfl
    · rw [chk_ok ho]
      refine crun_of (X := X) X_ok X_sat (body := bodyOf Tryz.f182) Tryz.func182 rfl (by kernel_rfl) (by kernel_rfl) ?_
      rw [Tryz.ntmps182]
      conv => whnf
      repeat' (first | (refine CallN.one cc ?_) | refine Fork.yp ?_ | refine Fork.np ?_ | refine Need.go ?_ | refine ExtN.ext ?_ | refine finGo ?_) <;> try (conv => whnf)
      all_goals rfl
  rw [if_neg k2]
  by_cases k3 : k = 3 ∧ k' = 3
  · rw [if_pos k3]
    obtain ⟨q1, q2⟩ := k3
    have cc := specOk_c (σ := σ) (v := .mk 3 0 (t ++ t') []) (.mk (by omega) (by omega) (by simp [ByteArray.size_append]; omega) (by decide) (by simp))
    cases ho : okV 3 (.mk 3 0 (t ++ t') []) <;> rw [ho] at cc
    · rw [chk_no ho]
      refine crun_of (X := X) X_ok X_sat (body := bodyOf Tryz.f182) Tryz.func182 rfl (by kernel_rfl) (by kernel_rfl) ?_
      rw [Tryz.ntmps182]
      conv => whnf
      repeat' (first | (refine CallN.one cc ?_) | refine Fork.yp ?_ | refine Fork.np ?_ | refine Need.go ?_ | refine ExtN.ext ?_ | refine finGo ?_) <;> try (conv => whnf)
      all_goals rfl
    · rw [chk_ok ho]
      refine crun_of (X := X) X_ok X_sat (body := bodyOf Tryz.f182) Tryz.func182 rfl (by kernel_rfl) (by kernel_rfl) ?_
      rw [Tryz.ntmps182]
      conv => whnf
      repeat' (first | (refine CallN.one cc ?_) | refine Fork.yp ?_ | refine Fork.np ?_ | refine Need.go ?_ | refine ExtN.ext ?_ | refine finGo ?_) <;> try (conv => whnf)
      all_goals rfl
  rw [if_neg k3]
  by_cases k4 : k = 4 ∧ k' = 4
  · rw [if_pos k4]
    obtain ⟨q1, q2⟩ := k4
    have cc := specOk_c (σ := σ) (v := .mk 4 0 ⟨#[]⟩ (l ++ l')) (.mk (by omega) (by omega) (by decide) (by simp; omega) (by
      intro v hv
      rcases List.mem_append.1 hv with h | h
      · exact ja v h
      · exact jb v h))
    have el : ElsOk 4 (Val.cvs l) := cvs_els l
    have el' : ElsOk 4 (Val.cvs l') := cvs_els l'
    have fin : ∀ b, okV 3 (.mk 4 0 ⟨#[]⟩ (l ++ l')) = b → CRun Tryz.prog 105 [.agg [i64 4, i64 0, .sc (.string ⟨#[]⟩), .vec (Val.cvs l ++ Val.cvs l')]] σ (· = .ret (.sc (.bool b)) σ) := by
      intro b hb
      rw [len_app, ← hb]; exact cc
    have res : COut.ret (.tup [.agg [i64 4, i64 0, .sc (.string ⟨#[]⟩), .vec (Val.cvs l ++ Val.cvs l')], i64 0]) σ = outS σ (.ok (.mk 4 0 ⟨#[]⟩ (l ++ l'))) := by rw [len_app]; rfl
    cases ho : okV 3 (.mk 4 0 ⟨#[]⟩ (l ++ l'))
    · have cc := fin _ ho
      rw [chk_no ho]
      clear fin res ho
      by_cases h0 : l = [] <;> by_cases h1 : l' = []
      · subst h0 h1
        refine crun_of (X := X) X_ok X_sat (body := bodyOf Tryz.f182) Tryz.func182 rfl (by kernel_rfl) (by kernel_rfl) ?_
        rw [Tryz.ntmps182]
        conv => whnf
        repeat' (first | (refine CallN.one ca ?_) | (refine CallN.one cb ?_) | (refine CallN.one cc ?_) | refine OrdN.one ?_ | refine Fork.yp ?_ | refine Fork.np ?_ | refine Fork.yb ?_ | refine Need.go ?_ | refine Need.draw ?_ | refine ExtN.ext ?_ | refine finGo ?_) <;> try (conv => whnf)
        all_goals rfl
      · subst h0
        obtain ⟨f1, f2⟩ := cvs_full h1
        refine crun_of (X := X) X_ok X_sat (body := bodyOf Tryz.f182) Tryz.func182 rfl (by kernel_rfl) (by kernel_rfl) ?_
        rw [Tryz.ntmps182]
        conv => whnf
        repeat' (first | (refine CallN.one ca ?_) | (refine CallN.one cb ?_) | (refine CallN.one cc ?_) | (refine Need.ap2 ?_ (h := by first | exact el | exact el') (h1 := by simp; omega) (h3 := by assumption) (h2 := by first | exact rfl | simp)) | refine OrdN.one ?_ | refine Fork.yp ?_ | refine Fork.np ?_ | refine Fork.yb ?_ | refine Fork.nb ?_ | refine Need.go ?_ | refine Need.draw ?_ | refine ExtN.ext ?_ | refine finGo ?_) <;> try (conv => whnf)
        all_goals rfl
      · subst h1
        obtain ⟨f1, f2⟩ := cvs_full h0
        have ea : Val.cvs l ++ Val.cvs [] = Val.cvs l := by simp [Val.cvs]
        rw [ea] at cc
        refine crun_of (X := X) X_ok X_sat (body := bodyOf Tryz.f182) Tryz.func182 rfl (by kernel_rfl) (by kernel_rfl) ?_
        rw [Tryz.ntmps182]
        conv => whnf
        repeat' (first | (refine CallN.one ca ?_) | (refine CallN.one cb ?_) | (refine CallN.one cc ?_) | (refine Need.ap2 ?_ (h := by first | exact el | exact el') (h1 := by simp; omega) (h3 := by assumption) (h2 := by first | exact rfl | simp)) | refine OrdN.one ?_ | refine Fork.yp ?_ | refine Fork.np ?_ | refine Fork.yb ?_ | refine Fork.nb ?_ | refine Need.go ?_ | refine Need.draw ?_ | refine ExtN.ext ?_ | refine finGo ?_) <;> try (conv => whnf)
        all_goals rfl
      · obtain ⟨f1, f2⟩ := cvs_full h0
        obtain ⟨g1, g2⟩ := cvs_full h1
        refine crun_of (X := X) X_ok X_sat (body := bodyOf Tryz.f182) Tryz.func182 rfl (by kernel_rfl) (by kernel_rfl) ?_
        rw [Tryz.ntmps182]
        conv => whnf
        repeat' (first | (refine CallN.one ca ?_) | (refine CallN.one cb ?_) | (refine CallN.one cc ?_) | (refine Need.ap2 ?_ (h := by first | exact el | exact el') (h1 := by simp; omega) (h3 := by assumption) (h2 := by first | exact rfl | simp)) | refine OrdN.one ?_ | refine Fork.yp ?_ | refine Fork.np ?_ | refine Fork.nb ?_ | refine Need.draw ?_ | refine ExtN.ext ?_ | refine finGo ?_) <;> try (conv => whnf)
        all_goals rfl
    · have cc := fin _ ho
      rw [chk_ok ho]
      clear fin ho
      by_cases h0 : l = [] <;> by_cases h1 : l' = []
      · subst h0 h1
        refine crun_of (X := X) X_ok X_sat (body := bodyOf Tryz.f182) Tryz.func182 rfl (by kernel_rfl) (by kernel_rfl) ?_
        rw [Tryz.ntmps182]
        conv => whnf
        repeat' (first | (refine CallN.one ca ?_) | (refine CallN.one cb ?_) | (refine CallN.one cc ?_) | refine OrdN.one ?_ | refine Fork.yp ?_ | refine Fork.np ?_ | refine Fork.yb ?_ | refine Need.go ?_ | refine Need.draw ?_ | refine ExtN.ext ?_ | refine finGo ?_) <;> try (conv => whnf)
        all_goals first | exact res | rfl
      · subst h0
        obtain ⟨f1, f2⟩ := cvs_full h1
        refine crun_of (X := X) X_ok X_sat (body := bodyOf Tryz.f182) Tryz.func182 rfl (by kernel_rfl) (by kernel_rfl) ?_
        rw [Tryz.ntmps182]
        conv => whnf
        repeat' (first | (refine CallN.one ca ?_) | (refine CallN.one cb ?_) | (refine CallN.one cc ?_) | (refine Need.ap2 ?_ (h := by first | exact el | exact el') (h1 := by simp; omega) (h3 := by assumption) (h2 := by first | exact rfl | simp)) | refine OrdN.one ?_ | refine Fork.yp ?_ | refine Fork.np ?_ | refine Fork.yb ?_ | refine Fork.nb ?_ | refine Need.go ?_ | refine Need.draw ?_ | refine ExtN.ext ?_ | refine finGo ?_) <;> try (conv => whnf)
        all_goals first | exact res | rfl
      · subst h1
        obtain ⟨f1, f2⟩ := cvs_full h0
        have ea : Val.cvs l ++ Val.cvs [] = Val.cvs l := by simp [Val.cvs]
        rw [ea] at cc res
        refine crun_of (X := X) X_ok X_sat (body := bodyOf Tryz.f182) Tryz.func182 rfl (by kernel_rfl) (by kernel_rfl) ?_
        rw [Tryz.ntmps182]
        conv => whnf
        repeat' (first | (refine CallN.one ca ?_) | (refine CallN.one cb ?_) | (refine CallN.one cc ?_) | (refine Need.ap2 ?_ (h := by first | exact el | exact el') (h1 := by simp; omega) (h3 := by assumption) (h2 := by first | exact rfl | simp)) | refine OrdN.one ?_ | refine Fork.yp ?_ | refine Fork.np ?_ | refine Fork.yb ?_ | refine Fork.nb ?_ | refine Need.go ?_ | refine Need.draw ?_ | refine ExtN.ext ?_ | refine finGo ?_) <;> try (conv => whnf)
        all_goals first | exact res | rfl
      · obtain ⟨f1, f2⟩ := cvs_full h0
        obtain ⟨g1, g2⟩ := cvs_full h1
        refine crun_of (X := X) X_ok X_sat (body := bodyOf Tryz.f182) Tryz.func182 rfl (by kernel_rfl) (by kernel_rfl) ?_
        rw [Tryz.ntmps182]
        conv => whnf
        repeat' (first | (refine CallN.one ca ?_) | (refine CallN.one cb ?_) | (refine CallN.one cc ?_) | (refine Need.ap2 ?_ (h := by first | exact el | exact el') (h1 := by simp; omega) (h3 := by assumption) (h2 := by first | exact rfl | simp)) | refine OrdN.one ?_ | refine Fork.yp ?_ | refine Fork.np ?_ | refine Fork.nb ?_ | refine Need.draw ?_ | refine ExtN.ext ?_ | refine finGo ?_) <;> try (conv => whnf)
        all_goals first | exact res | rfl
  · rw [if_neg k4]
    refine crun_of (X := X) X_ok X_sat (body := bodyOf Tryz.f182) Tryz.func182 rfl (by kernel_rfl) (by kernel_rfl) ?_
    rw [Tryz.ntmps182]
    conv => whnf
    repeat' (first | refine Fork.np ?_ | refine Fork.dp (fun h => ?_) (fun h => ?_) | refine finGo ?_) <;> try (conv => whnf)
    all_goals first | rfl | (exfalso; omega)
def twoR (kind : Int) (a b : Val) : Rs := if kind = 5 then .ok (eq3 a b).v else if kind = 6 then .ok (lessF a b) else if kind = 10 then addR a b else if kind = 12 then memR a b else if kind = 7 then and2R a b else or2R a b
theorem outS_ok {σ : Heap} {v : Val} : outS σ (.ok v) = .ret (.tup [v.cv, i64 0]) σ := rfl
theorem outS_err {σ : Heap} {c : Int} : outS σ (.err c) = .ret (.tup [nullV.cv, i64 c]) σ := rfl
set_option maxHeartbeats 2000000 in
theorem l4Two_c {σ : Heap} {kind : Int} {a b : Val} (ha : Tame a) (hb : Tame b) (oa : okV 3 a = true) (ob : okV 3 b = true) : CRun Tryz.prog 110 [i64 kind, a.cv, b.cv] σ (· = outS σ (twoR kind a b)) := by
  have d0 : twoR kind a b = if kind = 5 then .ok (eq3 a b).v else if kind = 6 then .ok (lessF a b) else if kind = 10 then addR a b else if kind = 12 then memR a b else if kind = 7 then and2R a b else or2R a b := rfl
  rw [d0]
  by_cases q5 : kind = 5
  · rw [if_pos q5]
    have c := l1Equal_c (σ := σ) ha hb
    generalize eq3 a b = r at c ⊢
    obtain ⟨k, n, t, l⟩ := a
    obtain ⟨k', n', t', l'⟩ := b
    refine crun_of (X := X) X_ok X_sat (body := bodyOf Tryz.f110) Tryz.func110 rfl (by kernel_rfl) (by kernel_rfl) ?_
    rw [Tryz.ntmps110]
    cases r
    all_goals
      conv => whnf
      repeat' (first | (refine CallN.one c ?_) | refine Fork.yp ?_ | refine ExtN.ext ?_ | refine finGo ?_) <;> try (conv => whnf)
      all_goals rfl
  rw [if_neg q5]
  by_cases q6 : kind = 6
  · rw [if_pos q6]
    have c := specLess0 (σ := σ) ha hb
    generalize lessF a b = r at c ⊢
    obtain ⟨rk, rn, rt, rl⟩ := r
    obtain ⟨k, n, t, l⟩ := a
    obtain ⟨k', n', t', l'⟩ := b
    refine crun_of (X := X) X_ok X_sat (body := bodyOf Tryz.f110) Tryz.func110 rfl (by kernel_rfl) (by kernel_rfl) ?_
    rw [Tryz.ntmps110]
    conv => whnf
    repeat' (first | (refine CallN.one c ?_) | refine Fork.yp ?_ | refine Fork.np ?_ | refine ExtN.ext ?_ | refine finGo ?_) <;> try (conv => whnf)
    all_goals rfl
  rw [if_neg q6]
  by_cases q10 : kind = 10
  · rw [if_pos q10]
    have c := l4Add_c (σ := σ) ha hb oa ob
    generalize addR a b = r at c ⊢
    obtain ⟨k, n, t, l⟩ := a
    obtain ⟨k', n', t', l'⟩ := b
    cases r with
    | ok r =>
      obtain ⟨rk, rn, rt, rl⟩ := r
      rw [outS_ok] at c
      refine crun_of (X := X) X_ok X_sat (body := bodyOf Tryz.f110) Tryz.func110 rfl (by kernel_rfl) (by kernel_rfl) ?_
      rw [Tryz.ntmps110]
      conv => whnf
      repeat' (first | (refine CallN.one c ?_) | refine Fork.yp ?_ | refine Fork.np ?_ | refine ExtN.ext ?_ | refine finGo ?_) <;> try (conv => whnf)
      all_goals rfl
    | err e =>
      rw [outS_err] at c
      refine crun_of (X := X) X_ok X_sat (body := bodyOf Tryz.f110) Tryz.func110 rfl (by kernel_rfl) (by kernel_rfl) ?_
      rw [Tryz.ntmps110]
      conv => whnf
      repeat' (first | (refine CallN.one c ?_) | refine Fork.yp ?_ | refine Fork.np ?_ | refine ExtN.ext ?_ | refine finGo ?_) <;> try (conv => whnf)
      all_goals rfl
  rw [if_neg q10]
  by_cases q12 : kind = 12
  · rw [if_pos q12]
    have c := l4In_c (σ := σ) ha hb ob
    generalize memR a b = r at c ⊢
    obtain ⟨k, n, t, l⟩ := a
    obtain ⟨k', n', t', l'⟩ := b
    cases r with
    | ok r =>
      obtain ⟨rk, rn, rt, rl⟩ := r
      rw [outS_ok] at c
      refine crun_of (X := X) X_ok X_sat (body := bodyOf Tryz.f110) Tryz.func110 rfl (by kernel_rfl) (by kernel_rfl) ?_
      rw [Tryz.ntmps110]
      conv => whnf
      repeat' (first | (refine CallN.one c ?_) | refine Fork.yp ?_ | refine Fork.np ?_ | refine ExtN.ext ?_ | refine finGo ?_) <;> try (conv => whnf)
      all_goals rfl
    | err e =>
      rw [outS_err] at c
      refine crun_of (X := X) X_ok X_sat (body := bodyOf Tryz.f110) Tryz.func110 rfl (by kernel_rfl) (by kernel_rfl) ?_
      rw [Tryz.ntmps110]
      conv => whnf
      repeat' (first | (refine CallN.one c ?_) | refine Fork.yp ?_ | refine Fork.np ?_ | refine ExtN.ext ?_ | refine finGo ?_) <;> try (conv => whnf)
      all_goals rfl
  rw [if_neg q12]
  have y := @l4Yes_v σ
  have ny : ∀ {k n : Int} {t : ByteArray} {l : List Val}, t3 (.mk k n t l) = none → decide (k = 1 ∨ k = 0) = false := fun h => decide_eq_false (by have := t3_none h; omega)
  cases ht : t3 a with
  | none =>
    have o1 : and2R a b = .err 1 := by unfold and2R; rw [ht]
    have o2 : or2R a b = .err 1 := by unfold or2R; rw [ht]
    rw [o1, o2, ite_self]
    obtain ⟨k, n, t, l⟩ := a
    obtain ⟨k', n', t', l'⟩ := b
    have y := y (n := n) (t := t) (l := Val.cvs l) (ny ht)
    refine crun_of (X := X) X_ok X_sat (body := bodyOf Tryz.f110) Tryz.func110 rfl (by kernel_rfl) (by kernel_rfl) ?_
    rw [Tryz.ntmps110]
    conv => whnf
    repeat' (first | (refine CallN.one y ?_) | refine Fork.np ?_ | refine ExtN.ext ?_ | refine finGo ?_) <;> try (conv => whnf)
    all_goals rfl
  | some t =>
    have ea := t3_of ht oa
    cases hu : t3 b with
    | none =>
      have o1 : and2R a b = .err 1 := by unfold and2R; rw [ht, hu]
      have o2 : or2R a b = .err 1 := by unfold or2R; rw [ht, hu]
      rw [o1, o2, ite_self, ea]
      obtain ⟨k', n', t', l'⟩ := b
      have yb := y (n := n') (t := t') (l := Val.cvs l') (ny hu)
      refine crun_of (X := X) X_ok X_sat (body := bodyOf Tryz.f110) Tryz.func110 rfl (by kernel_rfl) (by kernel_rfl) ?_
      rw [Tryz.ntmps110]
      cases t
      all_goals
        conv => whnf
        repeat' (first | (refine CallN.one (y (b := true) rfl) ?_) | (refine CallN.one yb ?_) | refine Fork.np ?_ | refine ExtN.ext ?_ | refine finGo ?_) <;> try (conv => whnf)
        all_goals rfl
    | some u =>
      have eb := t3_of hu ob
      have o1 : and2R a b = .ok (and3 t u).v := by unfold and2R; rw [ht, hu]
      have o2 : or2R a b = .ok (not3 (and3 (not3 t) (not3 u))).v := by unfold or2R; rw [ht, hu]
      rw [o1, o2, ea, eb]
      have ca := @l4And_c σ
      have cn := @l4Not_c σ
      by_cases q7 : kind = 7
      · rw [if_pos q7]
        have c := ca (t := t) (u := u)
        refine crun_of (X := X) X_ok X_sat (body := bodyOf Tryz.f110) Tryz.func110 rfl (by kernel_rfl) (by kernel_rfl) ?_
        rw [Tryz.ntmps110]
        cases t <;> cases u
        all_goals
          conv => whnf
          repeat' (first | (refine CallN.one (y (b := true) rfl) ?_) | (refine CallN.one c ?_) | refine Fork.yp ?_ | refine Fork.np ?_ | refine ExtN.ext ?_ | refine finGo ?_) <;> try (conv => whnf)
          all_goals rfl
      · rw [if_neg q7]
        have c1 := cn (t := t)
        have c2 := cn (t := u)
        have c3 := ca (t := not3 t) (u := not3 u)
        have c4 := cn (t := and3 (not3 t) (not3 u))
        refine crun_of (X := X) X_ok X_sat (body := bodyOf Tryz.f110) Tryz.func110 rfl (by kernel_rfl) (by kernel_rfl) ?_
        rw [Tryz.ntmps110]
        cases t <;> cases u
        all_goals
          conv => whnf
          repeat' (first | (refine CallN.one (y (b := true) rfl) ?_) | (refine CallN.one c1 ?_) | (refine CallN.one c2 ?_) | (refine CallN.one c3 ?_) | (refine CallN.one c4 ?_) | refine OrdN.one ?_ | refine Fork.np ?_ | refine Need.draw ?_ | refine ExtN.ext ?_ | refine finGo ?_) <;> try (conv => whnf)
          all_goals rfl
noncomputable def O (i : Nat) (l : List Nat) : Ctx := { P := Tryz.prog, tt := tt, gl := fun _ => false, ord := fun n => match Nat.beq n i with | true => some l | false => none }
theorem O_ok (i : Nat) (l : List Nat) : (O i l).ok := X_ok
theorem O_sat (i : Nat) (l : List Nat) : DrawSat (O i l) := drawSat (O_ok i l) X_draw
theorem t3_okV' (t : T3) : okV 3 t.v = true := by cases t <;> decide
theorem isNull_c {σ : Heap} {v : Val} : CRun Tryz.prog 162 [v.cv] σ (· = outI σ (nullR v)) := by
  have y0 := @yes_t σ
  obtain ⟨k, n, t, l⟩ := v
  by_cases k0 : k = 0
  · have o : nullR (.mk k n t l) = .ok T3.yes.v := by unfold nullR isKind; rw [decide_eq_true k0]; rfl
    rw [o]
    refine crun_of (X := X) X_ok X_sat (body := bodyOf Tryz.f162) Tryz.func162 rfl (by kernel_rfl) (by kernel_rfl) ?_
    rw [Tryz.ntmps162]
    conv => whnf
    repeat' (first | (refine CallN.one y0 ?_) | refine Fork.yp ?_ | refine ExtN.ext ?_ | refine finGo ?_) <;> try (conv => whnf)
    all_goals rfl
  · have o : nullR (.mk k n t l) = .ok T3.no.v := by unfold nullR isKind; rw [decide_eq_false k0]; rfl
    rw [o]
    refine crun_of (X := X) X_ok X_sat (body := bodyOf Tryz.f162) Tryz.func162 rfl (by kernel_rfl) (by kernel_rfl) ?_
    rw [Tryz.ntmps162]
    conv => whnf
    repeat' (first | (refine CallN.one y0 ?_) | refine Fork.np ?_ | refine ExtN.ext ?_ | refine finGo ?_) <;> try (conv => whnf)
    all_goals rfl
theorem notOf_t {σ : Heap} {t : T3} : CRun Tryz.prog 160 [t.v.cv] σ (· = .ret (not3 t).v.cv σ) := by
  have c := notOf_c (σ := σ) (t3_okV' t)
  unfold notR at c
  rw [t3_v] at c
  exact c
theorem orOf_c {σ : Heap} {v w : Val} (hv : okV 3 v = true) (hw : okV 3 w = true) : CRun Tryz.prog 167 [v.cv, w.cv] σ (· = outI σ (or2R v w)) := by
  cases ht : t3 v with
  | none =>
    have o : or2R v w = .err 1 := by unfold or2R; rw [ht]
    rw [o]
    have c := notOf_c (σ := σ) hv
    unfold notR at c
    rw [ht] at c
    have c : CRun Tryz.prog 160 [v.cv] σ (· = .pan (.iface 127 (i64 1)) σ) := c
    obtain ⟨k, n, t, l⟩ := v
    obtain ⟨k', n', t', l'⟩ := w
    refine crun_of (X := (O 1 [0,2,1,3,4,5,6])) (O_ok _ _) (O_sat _ _) (body := bodyOf Tryz.f167) Tryz.func167 rfl (by kernel_rfl) (by kernel_rfl) ?_
    rw [Tryz.ntmps167]
    conv => whnf
    repeat' (first | (refine CallN.one c ?_) | (refine finPGo ?_) | ((refine ⟨⟨by kernel_rfl, by kernel_rfl⟩, ?_⟩)) | refine OrdN.one ?_) <;> try (conv => whnf)
    all_goals rfl
  | some t =>
    have ea := t3_of ht hv
    cases hu : t3 w with
    | none =>
      have o : or2R v w = .err 1 := by unfold or2R; rw [ht, hu]
      rw [o]
      have c := notOf_c (σ := σ) hw
      unfold notR at c
      rw [hu] at c
      have c : CRun Tryz.prog 160 [w.cv] σ (· = .pan (.iface 127 (i64 1)) σ) := c
      have c1 := notOf_t (σ := σ) (t := t)
      rw [ea]
      obtain ⟨k', n', t', l'⟩ := w
      refine crun_of (X := X) X_ok X_sat (body := bodyOf Tryz.f167) Tryz.func167 rfl (by kernel_rfl) (by kernel_rfl) ?_
      rw [Tryz.ntmps167]
      cases t
      all_goals
        conv => whnf
        repeat' (first | (refine CallN.one c1 ?_) | (refine CallN.one c ?_) | (refine finPGo ?_) | ((refine ⟨⟨by kernel_rfl, by kernel_rfl⟩, ?_⟩)) | refine OrdN.one ?_ | refine ExtN.ext ?_) <;> try (conv => whnf)
        all_goals rfl
    | some u =>
      have eb := t3_of hu hw
      have o : or2R v w = .ok (not3 (and3 (not3 t) (not3 u))).v := by unfold or2R; rw [ht, hu]
      rw [o, ea, eb]
      have c1 := notOf_t (σ := σ) (t := t)
      have c2 := notOf_t (σ := σ) (t := u)
      have c3 := andOf_t (σ := σ) (t := not3 t) (u := not3 u)
      have c4 := notOf_t (σ := σ) (t := and3 (not3 t) (not3 u))
      refine crun_of (X := X) X_ok X_sat (body := bodyOf Tryz.f167) Tryz.func167 rfl (by kernel_rfl) (by kernel_rfl) ?_
      rw [Tryz.ntmps167]
      cases t <;> cases u
      all_goals
        conv => whnf
        repeat' (first | (refine CallN.one c1 ?_) | (refine CallN.one c2 ?_) | (refine CallN.one c3 ?_) | (refine CallN.one c4 ?_) | refine OrdN.one ?_ | refine Need.draw ?_ | refine ExtN.ext ?_ | refine finGo ?_) <;> try (conv => whnf)
        all_goals rfl
def oneF (kind : Int) : Nat := if kind = 9 then 160 else if kind = 13 then 161 else 162
theorem oneOf_c {σ : Heap} {kind : Int} : CRun Tryz.prog 97 [i64 kind] σ (· = .ret (.fn (.func (oneF kind)) [] []) σ) := by
  have d0 : oneF kind = if kind = 9 then 160 else if kind = 13 then 161 else 162 := rfl
  rw [d0]
  by_cases q1 : kind = 9
  · rw [if_pos q1]
    refine crun_of (X := X) X_ok X_sat (body := bodyOf Tryz.f97) Tryz.func97 rfl (by kernel_rfl) (by kernel_rfl) ?_
    rw [Tryz.ntmps97]
    conv => whnf
    repeat' (first | refine Fork.yp ?_ | refine finGo ?_) <;> try (conv => whnf)
    all_goals rfl
  rw [if_neg q1]
  by_cases q2 : kind = 13
  · rw [if_pos q2]
    refine crun_of (X := X) X_ok X_sat (body := bodyOf Tryz.f97) Tryz.func97 rfl (by kernel_rfl) (by kernel_rfl) ?_
    rw [Tryz.ntmps97]
    conv => whnf
    repeat' (first | refine Fork.yp ?_ | refine Fork.np ?_ | refine finGo ?_) <;> try (conv => whnf)
    all_goals rfl
  rw [if_neg q2]
  refine crun_of (X := X) X_ok X_sat (body := bodyOf Tryz.f97) Tryz.func97 rfl (by kernel_rfl) (by kernel_rfl) ?_
  rw [Tryz.ntmps97]
  conv => whnf
  repeat' (first | refine Fork.np ?_ | refine finGo ?_) <;> try (conv => whnf)
  all_goals rfl
theorem oneF_c {σ : Heap} {kind : Int} {v : Val} (hk : kind = 9 ∨ kind = 11 ∨ kind = 13) (hv : Tame v) (ho : okV 3 v = true) : CRun Tryz.prog (oneF kind) [v.cv] σ (· = outI σ (oneR kind v)) := by
  rcases hk with rfl | rfl | rfl
  · exact notOf_c ho
  · exact isNull_c
  · exact sizeOf_c hv
def twoF (kind : Int) : Nat := if kind = 5 then 164 else if kind = 6 then 165 else if kind = 7 then 166 else if kind = 8 then 167 else if kind = 12 then 168 else 169
theorem twoOf_c {σ : Heap} {kind : Int} : CRun Tryz.prog 99 [i64 kind] σ (· = .ret (.fn (.func (twoF kind)) [] []) σ) := by
  have d0 : twoF kind = if kind = 5 then 164 else if kind = 6 then 165 else if kind = 7 then 166 else if kind = 8 then 167 else if kind = 12 then 168 else 169 := rfl
  rw [d0]
  by_cases q1 : kind = 5
  · rw [if_pos q1]
    refine crun_of (X := X) X_ok X_sat (body := bodyOf Tryz.f99) Tryz.func99 rfl (by kernel_rfl) (by kernel_rfl) ?_
    rw [Tryz.ntmps99]
    conv => whnf
    repeat' (first | refine Fork.yp ?_ | refine finGo ?_) <;> try (conv => whnf)
    all_goals rfl
  rw [if_neg q1]
  by_cases q2 : kind = 6
  · rw [if_pos q2]
    refine crun_of (X := X) X_ok X_sat (body := bodyOf Tryz.f99) Tryz.func99 rfl (by kernel_rfl) (by kernel_rfl) ?_
    rw [Tryz.ntmps99]
    conv => whnf
    repeat' (first | refine Fork.yp ?_ | refine Fork.np ?_ | refine finGo ?_) <;> try (conv => whnf)
    all_goals rfl
  rw [if_neg q2]
  by_cases q3 : kind = 7
  · rw [if_pos q3]
    refine crun_of (X := X) X_ok X_sat (body := bodyOf Tryz.f99) Tryz.func99 rfl (by kernel_rfl) (by kernel_rfl) ?_
    rw [Tryz.ntmps99]
    conv => whnf
    repeat' (first | refine Fork.yp ?_ | refine Fork.np ?_ | refine finGo ?_) <;> try (conv => whnf)
    all_goals rfl
  rw [if_neg q3]
  by_cases q4 : kind = 8
  · rw [if_pos q4]
    refine crun_of (X := X) X_ok X_sat (body := bodyOf Tryz.f99) Tryz.func99 rfl (by kernel_rfl) (by kernel_rfl) ?_
    rw [Tryz.ntmps99]
    conv => whnf
    repeat' (first | refine Fork.yp ?_ | refine Fork.np ?_ | refine finGo ?_) <;> try (conv => whnf)
    all_goals rfl
  rw [if_neg q4]
  by_cases q5 : kind = 12
  · rw [if_pos q5]
    refine crun_of (X := X) X_ok X_sat (body := bodyOf Tryz.f99) Tryz.func99 rfl (by kernel_rfl) (by kernel_rfl) ?_
    rw [Tryz.ntmps99]
    conv => whnf
    repeat' (first | refine Fork.yp ?_ | refine Fork.np ?_ | refine finGo ?_) <;> try (conv => whnf)
    all_goals rfl
  rw [if_neg q5]
  refine crun_of (X := X) X_ok X_sat (body := bodyOf Tryz.f99) Tryz.func99 rfl (by kernel_rfl) (by kernel_rfl) ?_
  rw [Tryz.ntmps99]
  conv => whnf
  repeat' (first | refine Fork.np ?_ | refine finGo ?_) <;> try (conv => whnf)
  all_goals rfl
theorem caught_nil {σ : Heap} : CRun Tryz.prog 41 [.sc .nilIface] σ (· = .ret (i64 0) σ) := by
  refine crun_of (X := X) X_ok X_sat (body := bodyOf Tryz.f41) Tryz.func41 rfl (by kernel_rfl) (by kernel_rfl) ?_
  rw [Tryz.ntmps41]
  conv => whnf
  repeat' (first | refine finGo ?_) <;> try (conv => whnf)
  all_goals rfl
theorem caught_tr {σ : Heap} {c : Int} : CRun Tryz.prog 41 [.iface 127 (i64 c)] σ (· = .ret (i64 c) σ) := by
  refine crun_of (X := X) X_ok X_sat (body := bodyOf Tryz.f41) Tryz.func41 rfl (by kernel_rfl) (by kernel_rfl) ?_
  rw [Tryz.ntmps41]
  conv => whnf
  repeat' (first | refine finGo ?_) <;> try (conv => whnf)
  all_goals rfl
theorem put0 {σ : Heap} {lv lc : Nat} : DRun Tryz.prog (.fn (.func 40) [] [.ptr (.g lv) 0, .ptr (.g lc) 0]) σ none false (· = σ) := by
  refine drun_rec (X := X) X_ok X_sat (rest := _) Tryz.func40 rfl (by kernel_rfl) (by kernel_rfl) rfl rfl rfl rfl rfl rfl ?_
  conv => whnf
  repeat' (first | (refine CallN.one caught_nil ?_) | refine Fork.nn ?_ | refine ExtN.ext ?_) <;> try (conv => whnf)
  all_goals exact ⟨rfl, rfl⟩
theorem put1 {σ : Heap} {lv lc : Nat} {v : List CV} {n : Int} {c : Int} (hc : ¬ c = 0) (hne : ¬ lv = lc) (hv : σ lv = some (.cells [i64 0, i64 0, .sc (.string ⟨#[]⟩), .vec []])) (hn : σ lc = some (.cells [i64 n])) :
    DRun Tryz.prog (.fn (.func 40) [] [.ptr (.g lv) 0, .ptr (.g lc) 0]) σ (some (.iface 127 (i64 c))) true (· = upd (upd σ lv (.cells [i64 0, i64 0, .sc (.string ⟨#[]⟩), .vec []])) lc (.cells [i64 c])) := by
  refine drun_rec (X := X) X_ok X_sat (rest := _) Tryz.func40 rfl (by kernel_rfl) (by kernel_rfl) rfl rfl rfl rfl rfl rfl ?_
  have h2 : (upd σ lv (.cells [i64 0, i64 0, .sc (.string ⟨#[]⟩), .vec []])) lc = some (.cells [i64 n]) := by rw [upd_ne _ _ (Ne.symm hne)]; exact hn
  conv => whnf
  repeat' (first | (refine CallN.one caught_tr ?_) | refine Fork.ny ?_ | refine GetN.go ?_ | refine ExtN.ext ?_) <;> try (conv => whnf)
  all_goals exact ⟨rfl, rfl⟩
theorem tame_of : ∀ (v : Val) {d : Int}, okV d v = true → Tame v
  | .mk k n t l, d, h => by
    obtain ⟨h1, h2, h3⟩ := okV_nums h
    have hk : 0 ≤ k ∧ k ≤ 6 := by rcases okV_kind h with ⟨h, _⟩ | h | h | h | h | h | h <;> omega
    have hl : ∀ v ∈ l, Tame v := by
      by_cases h4 : k = 4
      · subst h4
        have := okV_list h
        exact fun v hv => tame_of v (this v hv)
      · by_cases h3 : k = 3
        · subst h3
          rw [(okV_text h).2]; simp
        · rw [(okV_num h h3 h4).2]; simp
    exact .mk (by omega) (by omega) (by omega) (by omega) hl
  termination_by v => SizeOf.sizeOf v
theorem t3_okV (t : T3) : okV 3 t.v = true := by cases t <;> decide
theorem null_okV : okV 3 nullV = true := by decide
theorem num_okV {n : Int} (h : 0 ≤ n ∧ n ≤ 100) : okV 3 (numV n) = true := by
  unfold numV
  simp [okV]
  omega
def RsOk (r : Rs) : Prop := match r with
  | .ok v => okV 3 v = true
  | .err c => c = 1 ∨ c = 2 ∨ c = 3
theorem one_ok {kind : Int} {v : Val} (h : okV 3 v = true) : RsOk (oneR kind v) := by
  unfold oneR
  split
  · exact t3_okV _
  split
  · unfold notR
    split
    · exact t3_okV _
    · exact .inl rfl
  · obtain ⟨k, n, t, l⟩ := v
    obtain ⟨h1, h2, h3⟩ := okV_nums h
    unfold sizeR
    dsimp only
    split
    · exact null_okV
    split
    · exact num_okV (by omega)
    split
    · exact num_okV (by omega)
    · exact .inl rfl
theorem chk_okR (v : Val) : RsOk (chk v) := by
  unfold chk
  split
  · assumption
  · exact .inr (.inl rfl)
theorem two_ok {kind : Int} {a b : Val} : RsOk (twoR kind a b) := by
  unfold twoR
  split
  · exact t3_okV _
  split
  · obtain ⟨k, n, t, l⟩ := a
    obtain ⟨k', n', t', l'⟩ := b
    show okV 3 (lessF _ _) = true
    unfold lessF
    dsimp only
    split
    · rw [ofB]; exact t3_okV _
    · exact null_okV
  split
  · obtain ⟨k, n, t, l⟩ := a
    obtain ⟨k', n', t', l'⟩ := b
    rw [addR_mk]
    split
    · exact null_okV
    split
    · exact chk_okR _
    split
    · exact chk_okR _
    split
    · exact chk_okR _
    · exact .inl rfl
  split
  · obtain ⟨k', n', t', l'⟩ := b
    unfold memR
    dsimp only
    split
    · exact null_okV
    split
    · exact t3_okV _
    · exact .inl rfl
  split
  · unfold and2R
    split
    · exact t3_okV _
    · exact .inl rfl
  · unfold or2R
    split
    · exact t3_okV _
    · exact .inl rfl
def CellsOk (l : List Pr) : Prop := ∀ p ∈ l, okV 3 p.val = true
theorem look_mem : ∀ {l : List Pr} {s : ByteArray} {v : Val}, lookP l s = some v → ∃ p ∈ l, p.val = v
  | p :: r, s, v, h => by
    simp only [lookP] at h
    by_cases e : p.name = s
    · rw [if_pos e] at h; cases h; exact ⟨p, by simp, rfl⟩
    · rw [if_neg e] at h
      obtain ⟨q, hq, e⟩ := look_mem h
      exact ⟨q, by simp [hq], e⟩
theorem props_ok {l : List Pr} (h : propsOk l = true) : CellsOk l := by
  intro p hp
  unfold propsOk at h
  rw [Bool.and_eq_true] at h
  obtain ⟨j, hj, e⟩ := List.getElem_of_mem hp
  have h2 := List.all_eq_true.1 h.2 j (List.mem_range.2 hj)
  unfold propAt at h2
  rw [List.getElem?_eq_getElem hj, e] at h2
  simp only [propOk, storeV, Bool.and_eq_true] at h2
  exact h2.1.2.1
theorem graph_ok {g : Gr} (h : graphOk g = true) (v : Val) (s : ByteArray) : okV 3 (getG g v s) = true := by
  have key : ∀ ps, propsG g v = some ps → CellsOk ps := by
    obtain ⟨k, n, t, l⟩ := v
    unfold graphOk at h
    simp only [Bool.and_eq_true] at h
    obtain ⟨_, _, _, h3, h4⟩ := h
    intro ps' hp
    rcases propsG_cases g k n t l with ⟨k5, i, d, ls, ps, hi, hpp, hm, hg', hps⟩ | ⟨k6, i, d, q, a, b, ps, hi, hpp, hm, hg', hps⟩ | ⟨hps, h5, h6⟩
    · rw [hps] at hp; cases hp
      have := List.all_eq_true.1 h3 _ hm
      simp only [nodeOkB, Bool.and_eq_true] at this
      exact props_ok this.2
    · rw [hps] at hp; cases hp
      have := List.all_eq_true.1 h4 _ hm
      simp only [edgeOkB, Bool.and_eq_true] at this
      exact props_ok this.2.1
    · rw [hps] at hp; cases hp
  unfold getG
  cases hp : propsG g v with
  | none => exact null_okV
  | some ps =>
    dsimp only
    cases hl : lookP ps s with
    | none => exact null_okV
    | some v =>
      obtain ⟨p, hm, e⟩ := look_mem hl
      rw [← e]; exact key ps hp p hm
theorem leaf_ok {g : Gr} {row given : List Pr} {k : Int} {v : Val} {s c : ByteArray} {ps : List Exp} (hg : graphOk g = true) (hr : CellsOk row) (hv : CellsOk given) (h1 : k = 1 → okV 3 v = true) : RsOk (leafR g row given (.mk k v s c ps)) := by
  rw [leafR_mk]
  by_cases k1 : k = 1
  · rw [if_pos k1]; exact h1 k1
  rw [if_neg k1]
  cases hl : lookP (if k = 4 then given else row) s with
  | none => exact .inr (.inr rfl)
  | some w =>
    obtain ⟨p, hm, e⟩ := look_mem hl
    have hw : okV 3 w = true := by
      rw [← e]
      split at hm
      · exact hv p hm
      · exact hr p hm
    dsimp only
    split
    · unfold askR
      split
      · exact graph_ok hg _ _
      · exact .inl rfl
    · exact hw
def joinR (k : Int) (leaf : Rs) : List Rs → Rs
  | [] => leaf
  | [a] => match a with
    | .ok x => oneR k x
    | .err e => .err e
  | a :: b :: _ => match a with
    | .err e => .err e
    | .ok x => match b with
      | .err e => .err e
      | .ok y => twoR k x y
mutual
def evR (g : Gr) (row given : List Pr) : Exp → Rs
  | .mk k v s c ps => if k = 14 ∨ k = 15 then .err 1 else joinR k (leafR g row given (.mk k v s c [])) (evL g row given ps)
def evL (g : Gr) (row given : List Pr) : List Exp → List Rs
  | [] => []
  | e :: r => evR g row given e :: evL g row given r
end
theorem okE_parts {d k : Int} {v : Val} {s c : ByteArray} {ps : List Exp} (h : okE d (.mk k v s c ps) = true) : OkH d k v s c ps.length ∧ ∀ e ∈ ps, okE (d - 1) e = true := by
  simp only [okE, Bool.and_eq_true] at h
  refine ⟨okH_iff.1 h.1, ?_⟩
  rw [okEL_all] at h
  exact List.all_eq_true.1 h.2
structure SceneOk (g : Gr) (row given : List Pr) : Prop where
  gt : GrTame g
  go : graphOk g = true
  rl : row.length ≤ 1000
  rt : ∀ p ∈ row, PrTame p
  ro : CellsOk row
  vl : given.length ≤ 1000
  vt : ∀ p ∈ given, PrTame p
  vo : CellsOk given
mutual
theorem ev_ok {g : Gr} {row given : List Pr} (hs : SceneOk g row given) : ∀ (e : Exp) {d : Int}, okE d e = true → RsOk (evR g row given e)
  | .mk k v s c ps, d, h => by
    obtain ⟨h1, h2⟩ := okE_parts h
    have hl := evL_ok hs ps h2
    simp only [evR]
    split
    · exact .inl rfl
    · have hleaf := leaf_ok (ps := []) (s := s) (c := c) hs.go hs.ro hs.vo h1.vl
      generalize evL g row given ps = rs at hl
      match rs, hl with
      | [], _ => exact hleaf
      | [.ok x], hl => exact one_ok (hl (.ok x) (by simp))
      | [.err e], hl => exact hl (.err e) (by simp)
      | .err e :: b :: _, hl => exact hl (.err e) (by simp)
      | .ok x :: .err e :: _, hl => exact hl (.err e) (by simp)
      | .ok x :: .ok y :: _, hl => exact two_ok
theorem evL_ok {g : Gr} {row given : List Pr} (hs : SceneOk g row given) : ∀ (l : List Exp) {d : Int}, (∀ e ∈ l, okE d e = true) → ∀ r ∈ evL g row given l, RsOk r
  | [], _, _ => by simp [evL]
  | e :: r, d, h => by
    have h1 := ev_ok hs e (h e (by simp))
    have h2 := evL_ok hs r fun e he => h e (by simp [he])
    intro x hx
    simp only [evL, List.mem_cons] at hx
    rcases hx with rfl | hx
    · exact h1
    · exact h2 x hx
end
set_option maxHeartbeats 2000000 in
theorem l4Eval_c {σ : Heap} {g : Gr} {row given : List Pr} (hs : SceneOk g row given) {e : Exp} (he : ETame e) : ∀ {d : Int}, okE d e = true → CRun Tryz.prog 47 [g.cv, .vec (prs row), .vec (prs given), e.cv] σ (· = outS σ (evR g row given e)) := by
  induction he with
  | @mk k v s c ps hv hsz hc hl hps ih =>
    intro d hok
    obtain ⟨h1, h2⟩ := okE_parts hok
    have e3 := ecvs_length ps
    have d0 : evR g row given (.mk k v s c ps) = if k = 14 ∨ k = 15 then .err 1 else joinR k (leafR g row given (.mk k v s c [])) (evL g row given ps) := by simp only [evR]
    have cl := l4Leaf_c (σ := σ) hs.gt hs.rl hs.rt hs.vl hs.vt (.mk (k := k) hv hsz hc hl hps)
    obtain ⟨vk, vn, vt, vl⟩ := v
    by_cases k14 : k = 14 ∨ k = 15
    · rw [d0, if_pos k14]
      refine crun_of (X := X) X_ok X_sat (body := bodyOf Tryz.f47) Tryz.func47 rfl (by kernel_rfl) (by kernel_rfl) ?_
      rw [Tryz.ntmps47]
      rcases k14 with k14 | k14
      all_goals
        conv => whnf
        repeat' (first | refine Fork.yp ?_ | refine Fork.np ?_ | refine finGo ?_) <;> try (conv => whnf)
        all_goals rfl
    rw [d0, if_neg k14]
    have q1 : ¬ k = 14 := by omega
    have q2 : ¬ k = 15 := by omega
    have hlen := h1.ar
    by_cases p0 : ps = []
    · have z : ps.length = 0 := by rw [p0]; rfl
      have o : joinR k (leafR g row given (.mk k (.mk vk vn vt vl) s c [])) (evL g row given ps) = leafR g row given (.mk k (.mk vk vn vt vl) s c ps) := by rw [p0]; simp only [evL, joinR]
      rw [o]
      generalize leafR g row given (.mk k (.mk vk vn vt vl) s c ps) = r at cl ⊢
      cases r with
      | ok r =>
        obtain ⟨rk, rn, rt, rl⟩ := r
        rw [outS_ok] at cl
        refine crun_of (X := X) X_ok X_sat (body := bodyOf Tryz.f47) Tryz.func47 rfl (by kernel_rfl) (by kernel_rfl) ?_
        rw [Tryz.ntmps47]
        conv => whnf
        repeat' (first | (refine CallN.one cl ?_) | refine Fork.yp ?_ | refine Fork.np ?_ | refine ExtN.ext ?_ | refine finGo ?_) <;> try (conv => whnf)
        all_goals rfl
      | err e =>
        rw [outS_err] at cl
        refine crun_of (X := X) X_ok X_sat (body := bodyOf Tryz.f47) Tryz.func47 rfl (by kernel_rfl) (by kernel_rfl) ?_
        rw [Tryz.ntmps47]
        conv => whnf
        repeat' (first | (refine CallN.one cl ?_) | refine Fork.yp ?_ | refine Fork.np ?_ | refine ExtN.ext ?_ | refine finGo ?_) <;> try (conv => whnf)
        all_goals rfl
    obtain ⟨a, r, hp⟩ : ∃ a r, ps = a :: r := by
      cases ps with
      | nil => exact absurd rfl p0
      | cons a r => exact ⟨a, r, rfl⟩
    have am : a ∈ ps := by rw [hp]; simp
    have ca := ih a am (h2 a am)
    have aok := ev_ok hs a (h2 a am)
    have ag : (Exp.cvs ps)[0]? = some a.cv := by rw [hp]; rfl
    clear cl
    by_cases pr : r = []
    · subst pr
      have z : ps.length = 1 := by rw [hp]; rfl
      have o : joinR k (leafR g row given (.mk k (.mk vk vn vt vl) s c [])) (evL g row given ps) = match evR g row given a with | .ok x => oneR k x | .err e => .err e := by rw [hp]; simp only [evL, joinR]
      rw [o]
      clear o d0 ih
      generalize evR g row given a = ra at ca aok ⊢
      obtain ⟨ak, ⟨avk, avn, avt, avl⟩, as1, ac, aps⟩ := a
      cases ra with
      | err e =>
        have he0 : ¬ e = 0 := by rcases aok with h | h | h <;> omega
        rw [outS_err] at ca
        refine crun_of (X := X) X_ok X_sat (body := bodyOf Tryz.f47) Tryz.func47 rfl (by kernel_rfl) (by kernel_rfl) ?_
        rw [Tryz.ntmps47]
        conv => whnf
        repeat' (first | (refine CallN.one ca ?_) | refine OrdN.one ?_ | refine Fork.np ?_ | refine Fork.ny ?_ | refine Need.go ?_ | refine Need.draw ?_ | refine ElemN.go ?_ | refine ExtN.ext ?_ | refine finGo ?_) <;> try (conv => whnf)
        all_goals rfl
      | ok x =>
        rw [outS_ok] at ca
        have c1 := l4One_c (σ := σ) (kind := k) (tame_of x aok) aok
        dsimp only
        generalize oneR k x = rr at c1 ⊢
        obtain ⟨xk, xn, xt, xl⟩ := x
        cases rr with
        | ok rr =>
          obtain ⟨rk, rn, rt, rl⟩ := rr
          rw [outS_ok] at c1
          refine crun_of (X := X) X_ok X_sat (body := bodyOf Tryz.f47) Tryz.func47 rfl (by kernel_rfl) (by kernel_rfl) ?_
          rw [Tryz.ntmps47]
          conv => whnf
          repeat' (first | (refine CallN.one ca ?_) | (refine CallN.one c1 ?_) | refine OrdN.one ?_ | refine Fork.yp ?_ | refine Fork.np ?_ | refine Fork.nn ?_ | refine Need.go ?_ | refine Need.draw ?_ | refine ElemN.go ?_ | refine ExtN.ext ?_ | refine finGo ?_) <;> try (conv => whnf)
          all_goals rfl
        | err e =>
          rw [outS_err] at c1
          refine crun_of (X := X) X_ok X_sat (body := bodyOf Tryz.f47) Tryz.func47 rfl (by kernel_rfl) (by kernel_rfl) ?_
          rw [Tryz.ntmps47]
          conv => whnf
          repeat' (first | (refine CallN.one ca ?_) | (refine CallN.one c1 ?_) | refine OrdN.one ?_ | refine Fork.yp ?_ | refine Fork.np ?_ | refine Fork.nn ?_ | refine Need.go ?_ | refine Need.draw ?_ | refine ElemN.go ?_ | refine ExtN.ext ?_ | refine finGo ?_) <;> try (conv => whnf)
          all_goals rfl
    obtain ⟨b, r', hr⟩ : ∃ a r', r = a :: r' := by
      cases r with
      | nil => exact absurd rfl pr
      | cons a r => exact ⟨a, r, rfl⟩
    subst hr
    have z : 2 ≤ ps.length := by rw [hp]; simp
    have bm : b ∈ ps := by rw [hp]; simp
    have cb := ih b bm (h2 b bm)
    have bok := ev_ok hs b (h2 b bm)
    have bg : (Exp.cvs ps)[1]? = some b.cv := by rw [hp]; rfl
    have o : joinR k (leafR g row given (.mk k (.mk vk vn vt vl) s c [])) (evL g row given ps) = match evR g row given a with | .err e => .err e | .ok x => match evR g row given b with | .err e => .err e | .ok y => twoR k x y := by rw [hp]; simp only [evL, joinR]
    rw [o]
    clear o d0 ih
    generalize evR g row given a = ra at ca aok ⊢
    generalize evR g row given b = rb at cb bok ⊢
    obtain ⟨ak, ⟨avk, avn, avt, avl⟩, as1, ac, aps⟩ := a
    obtain ⟨bk, ⟨bvk, bvn, bvt, bvl⟩, bs1, bc, bps⟩ := b
    cases ra with
    | err e =>
      have he0 : ¬ e = 0 := by rcases aok with h | h | h <;> omega
      rw [outS_err] at ca
      refine crun_of (X := X) X_ok X_sat (body := bodyOf Tryz.f47) Tryz.func47 rfl (by kernel_rfl) (by kernel_rfl) ?_
      rw [Tryz.ntmps47]
      conv => whnf
      repeat' (first | (refine CallN.one ca ?_) | refine OrdN.one ?_ | refine Fork.np ?_ | refine Fork.ny ?_ | refine Need.go ?_ | refine Need.draw ?_ | refine ElemN.go ?_ | refine ExtN.ext ?_ | refine finGo ?_) <;> try (conv => whnf)
      all_goals rfl
    | ok x =>
      rw [outS_ok] at ca
      cases rb with
      | err e =>
        have he0 : ¬ e = 0 := by rcases bok with h | h | h <;> omega
        rw [outS_err] at cb
        obtain ⟨xk, xn, xt, xl⟩ := x
        refine crun_of (X := X) X_ok X_sat (body := bodyOf Tryz.f47) Tryz.func47 rfl (by kernel_rfl) (by kernel_rfl) ?_
        rw [Tryz.ntmps47]
        conv => whnf
        repeat' (first | (refine CallN.one ca ?_) | (refine CallN.one cb ?_) | refine OrdN.one ?_ | refine Fork.np ?_ | refine Fork.ny ?_ | refine Fork.nn ?_ | refine Need.go ?_ | refine Need.draw ?_ | refine ElemN.go ?_ | refine ExtN.ext ?_ | refine finGo ?_) <;> try (conv => whnf)
        all_goals rfl
      | ok y =>
        rw [outS_ok] at cb
        have c1 := l4Two_c (σ := σ) (kind := k) (tame_of x aok) (tame_of y bok) aok bok
        dsimp only
        generalize twoR k x y = rr at c1 ⊢
        obtain ⟨xk, xn, xt, xl⟩ := x
        obtain ⟨yk, yn, yt, yl⟩ := y
        cases rr with
        | ok rr =>
          obtain ⟨rk, rn, rt, rl⟩ := rr
          rw [outS_ok] at c1
          refine crun_of (X := X) X_ok X_sat (body := bodyOf Tryz.f47) Tryz.func47 rfl (by kernel_rfl) (by kernel_rfl) ?_
          rw [Tryz.ntmps47]
          conv => whnf
          repeat' (first | (refine CallN.one ca ?_) | (refine CallN.one cb ?_) | (refine CallN.one c1 ?_) | refine OrdN.one ?_ | refine Fork.np ?_ | refine Need.go ?_ | refine Need.draw ?_ | refine ElemN.go ?_ | refine ExtN.ext ?_ | refine finGo ?_) <;> try (conv => whnf)
          all_goals rfl
        | err e =>
          rw [outS_err] at c1
          refine crun_of (X := X) X_ok X_sat (body := bodyOf Tryz.f47) Tryz.func47 rfl (by kernel_rfl) (by kernel_rfl) ?_
          rw [Tryz.ntmps47]
          conv => whnf
          repeat' (first | (refine CallN.one ca ?_) | (refine CallN.one cb ?_) | (refine CallN.one c1 ?_) | refine OrdN.one ?_ | refine Fork.np ?_ | refine Need.go ?_ | refine Need.draw ?_ | refine ElemN.go ?_ | refine ExtN.ext ?_ | refine finGo ?_) <;> try (conv => whnf)
          all_goals rfl
structure SceneTame (g : Gr) (row given : List Pr) : Prop where
  gt : GrTame g
  rl : row.length ≤ 1000
  rt : ∀ p ∈ row, PrTame p
  vl : given.length ≤ 1000
  vt : ∀ p ∈ given, PrTame p
theorem cells_ok {l : List Pr} (h : cellsOk l = true) : CellsOk l := by
  intro p hp
  unfold cellsOk at h
  obtain ⟨j, hj, e⟩ := List.getElem_of_mem hp
  have h2 := List.all_eq_true.1 h j (List.mem_range.2 hj)
  rw [cellAt_of (List.getElem?_eq_getElem hj), e] at h2
  simp only [Bool.and_eq_true] at h2
  exact h2.2.1
structure AllOk (g : Gr) (row given : List Pr) (e : Exp) : Prop where
  go : graphOk g = true
  ro : cellsOk row = true
  vo : cellsOk given = true
  eo : okE 4 e = true
theorem AllOk.scene {g : Gr} {row given : List Pr} {e : Exp} (h : AllOk g row given e) (t : SceneTame g row given) : SceneOk g row given :=
  ⟨t.gt, h.go, t.rl, t.rt, cells_ok h.ro, t.vl, t.vt, cells_ok h.vo⟩
open Classical in
noncomputable def evalR (g : Gr) (row given : List Pr) (e : Exp) : Rs := if AllOk g row given e then evR g row given e else .err 8
set_option maxHeartbeats 1000000 in
theorem specEval_c {σ : Heap} {g : Gr} {row given : List Pr} {e : Exp} (t : SceneTame g row given) (he : ETame e) : CRun Tryz.prog 11 [g.cv, .vec (prs row), .vec (prs given), e.cv] σ (· = outS σ (evalR g row given e)) := by
  have c1 := specGraph_c (σ := σ) t.gt
  have c2 := l4Cells_c (σ := σ) t.rl t.rt
  have c3 := l4Cells_c (σ := σ) t.vl t.vt
  have c4 := specExprOk_c (σ := σ) he
  by_cases hA : AllOk g row given e
  case neg =>
    have o : evalR g row given e = .err 8 := by unfold evalR; rw [if_neg hA]
    rw [o]
    obtain ⟨k, ⟨vk, vn, vt, vl⟩, s, c, ps⟩ := e
    cases h1 : graphOk g <;> rw [h1] at c1
    · skip
      refine crun_of (X := X) X_ok X_sat (body := bodyOf Tryz.f11) Tryz.func11 rfl (by kernel_rfl) (by kernel_rfl) ?_
      rw [Tryz.ntmps11]
      conv => whnf
      repeat' (first | (refine CallN.one c1 ?_) | refine ExtN.ext ?_ | refine finGo ?_) <;> try (conv => whnf)
      all_goals rfl
    cases h2 : cellsOk row <;> rw [h2] at c2
    · skip
      refine crun_of (X := X) X_ok X_sat (body := bodyOf Tryz.f11) Tryz.func11 rfl (by kernel_rfl) (by kernel_rfl) ?_
      rw [Tryz.ntmps11]
      conv => whnf
      repeat' (first | (refine CallN.one c1 ?_) | (refine CallN.one c2 ?_) | refine ExtN.ext ?_ | refine finGo ?_) <;> try (conv => whnf)
      all_goals rfl
    cases h3 : cellsOk given <;> rw [h3] at c3
    · skip
      refine crun_of (X := X) X_ok X_sat (body := bodyOf Tryz.f11) Tryz.func11 rfl (by kernel_rfl) (by kernel_rfl) ?_
      rw [Tryz.ntmps11]
      conv => whnf
      repeat' (first | (refine CallN.one c1 ?_) | (refine CallN.one c2 ?_) | (refine CallN.one c3 ?_) | refine ExtN.ext ?_ | refine finGo ?_) <;> try (conv => whnf)
      all_goals rfl
    cases h4 : okE 4 (.mk k (.mk vk vn vt vl) s c ps) <;> rw [h4] at c4
    · skip
      refine crun_of (X := X) X_ok X_sat (body := bodyOf Tryz.f11) Tryz.func11 rfl (by kernel_rfl) (by kernel_rfl) ?_
      rw [Tryz.ntmps11]
      conv => whnf
      repeat' (first | (refine CallN.one c1 ?_) | (refine CallN.one c2 ?_) | (refine CallN.one c3 ?_) | (refine CallN.one c4 ?_) | refine ExtN.ext ?_ | refine finGo ?_) <;> try (conv => whnf)
      all_goals rfl
    exact absurd ⟨h1, h2, h3, h4⟩ hA
  have o : evalR g row given e = evR g row given e := by unfold evalR; rw [if_pos hA]
  rw [o]
  have ce := l4Eval_c (σ := σ) (hA.scene t) he hA.eo
  rw [hA.go] at c1
  rw [hA.ro] at c2
  rw [hA.vo] at c3
  rw [hA.eo] at c4
  generalize evR g row given e = r at ce ⊢
  obtain ⟨k, ⟨vk, vn, vt, vl⟩, s, c, ps⟩ := e
  cases r with
  | ok r =>
    obtain ⟨rk, rn, rt, rl⟩ := r
    rw [outS_ok] at ce
    refine crun_of (X := X) X_ok X_sat (body := bodyOf Tryz.f11) Tryz.func11 rfl (by kernel_rfl) (by kernel_rfl) ?_
    rw [Tryz.ntmps11]
    conv => whnf
    repeat' (first | (refine CallN.one c1 ?_) | (refine CallN.one c2 ?_) | (refine CallN.one c3 ?_) | (refine CallN.one c4 ?_) | (refine CallN.one ce ?_) | refine ExtN.ext ?_ | refine finGo ?_) <;> try (conv => whnf)
    all_goals rfl
  | err e =>
    rw [outS_err] at ce
    refine crun_of (X := X) X_ok X_sat (body := bodyOf Tryz.f11) Tryz.func11 rfl (by kernel_rfl) (by kernel_rfl) ?_
    rw [Tryz.ntmps11]
    conv => whnf
    repeat' (first | (refine CallN.one c1 ?_) | (refine CallN.one c2 ?_) | (refine CallN.one c3 ?_) | (refine CallN.one c4 ?_) | (refine CallN.one ce ?_) | refine ExtN.ext ?_ | refine finGo ?_) <;> try (conv => whnf)
    all_goals rfl
def sceneC (g : Gr) (row given : List Pr) : CV := .agg [.vec (nds g.nodes), .vec (eds g.edges), i64 g.nn, i64 g.ne, .vec (prs row), .vec (prs given)]
def expC (k vk vn : Int) (vt : ByteArray) (vl : List Val) (s c : ByteArray) (ps : List Exp) : List CV := [i64 k, i64 vk, i64 vn, .sc (.string vt), .vec (Val.cvs vl), .sc (.string s), .sc (.string c), .vec (Exp.cvs ps)]
theorem asker1_c {σ : Heap} {g : Gr} {row given : List Pr} {l : Nat} {k vk vn : Int} {vt : ByteArray} {vl : List Val} {s c : ByteArray} {ps : List Exp} (h : σ l = some (.cells (expC k vk vn vt vl s c ps))) :
    CRun Tryz.prog 90 [sceneC g row given, .ptr (.g l) 0] σ (· = .ret (Val.mk vk vn vt vl).cv σ) := by
  refine crun_of (X := X) X_ok X_sat (body := bodyOf Tryz.f90) Tryz.func90 rfl (by kernel_rfl) (by kernel_rfl) ?_
  rw [Tryz.ntmps90]
  conv => whnf
  repeat' (first | refine GetN.go ?_ | refine finGo ?_) <;> try (conv => whnf)
  all_goals rfl
theorem asker5_c {σ : Heap} {g : Gr} {row given : List Pr} : CRun Tryz.prog 96 [sceneC g row given] σ (· = outI σ (.err 1)) := by
  refine crun_of (X := X) X_ok X_sat (body := bodyOf Tryz.f96) Tryz.func96 rfl (by kernel_rfl) (by kernel_rfl) ?_
  rw [Tryz.ntmps96]
  conv => whnf
  repeat' (first | (refine finPGo ?_)) <;> try (conv => whnf)
  all_goals rfl
theorem outI_ok {σ : Heap} {v : Val} : outI σ (.ok v) = .ret v.cv σ := rfl
theorem outI_err {σ : Heap} {c : Int} : outI σ (.err c) = .pan (.iface 127 (i64 c)) σ := rfl
theorem asker2_c {σ : Heap} {g : Gr} {row given : List Pr} {l : Nat} {k vk vn : Int} {vt : ByteArray} {vl : List Val} {s c : ByteArray} {ps : List Exp} (hr : row.length ≤ 1000) (h : σ l = some (.cells (expC k vk vn vt vl s c ps))) :
    CRun Tryz.prog 91 [sceneC g row given, .ptr (.g l) 0] σ (· = outI σ (mustR row s)) := by
  have cm := mustBe_c (σ := σ) (s := s) hr
  generalize mustR row s = r at cm ⊢
  cases r with
  | ok v =>
    obtain ⟨rk, rn, rt, rl⟩ := v
    rw [outI_ok] at cm
    refine crun_of (X := X) X_ok X_sat (body := bodyOf Tryz.f91) Tryz.func91 rfl (by kernel_rfl) (by kernel_rfl) ?_
    rw [Tryz.ntmps91]
    conv => whnf
    repeat' (first | (refine CallN.one cm ?_) | refine GetN.go ?_ | refine ExtN.ext ?_ | refine finGo ?_) <;> try (conv => whnf)
    all_goals rfl
  | err e =>
    rw [outI_err] at cm
    refine crun_of (X := X) X_ok X_sat (body := bodyOf Tryz.f91) Tryz.func91 rfl (by kernel_rfl) (by kernel_rfl) ?_
    rw [Tryz.ntmps91]
    conv => whnf
    repeat' (first | (refine CallN.one cm ?_) | (refine finPGo ?_) | refine GetN.go ?_) <;> try (conv => whnf)
    all_goals rfl
theorem asker3_c {σ : Heap} {g : Gr} {row given : List Pr} {l : Nat} {k vk vn : Int} {vt : ByteArray} {vl : List Val} {s c : ByteArray} {ps : List Exp} (hr : given.length ≤ 1000) (h : σ l = some (.cells (expC k vk vn vt vl s c ps))) :
    CRun Tryz.prog 93 [sceneC g row given, .ptr (.g l) 0] σ (· = outI σ (mustR given s)) := by
  have cm := mustBe_c (σ := σ) (s := s) hr
  generalize mustR given s = r at cm ⊢
  cases r with
  | ok v =>
    obtain ⟨rk, rn, rt, rl⟩ := v
    rw [outI_ok] at cm
    refine crun_of (X := X) X_ok X_sat (body := bodyOf Tryz.f93) Tryz.func93 rfl (by kernel_rfl) (by kernel_rfl) ?_
    rw [Tryz.ntmps93]
    conv => whnf
    repeat' (first | (refine CallN.one cm ?_) | refine GetN.go ?_ | refine ExtN.ext ?_ | refine finGo ?_) <;> try (conv => whnf)
    all_goals rfl
  | err e =>
    rw [outI_err] at cm
    refine crun_of (X := X) X_ok X_sat (body := bodyOf Tryz.f93) Tryz.func93 rfl (by kernel_rfl) (by kernel_rfl) ?_
    rw [Tryz.ntmps93]
    conv => whnf
    repeat' (first | (refine CallN.one cm ?_) | (refine finPGo ?_) | refine GetN.go ?_) <;> try (conv => whnf)
    all_goals rfl
theorem asker4_c {σ : Heap} {g : Gr} {row given : List Pr} {l : Nat} {k vk vn : Int} {vt : ByteArray} {vl : List Val} {s c : ByteArray} {ps : List Exp} (hg : GrTame g) (hr : row.length ≤ 1000) (h : σ l = some (.cells (expC k vk vn vt vl s c ps))) :
    CRun Tryz.prog 94 [sceneC g row given, .ptr (.g l) 0] σ (· = outI σ (match lookP row s with | none => .err 3 | some w => askR g w c)) := by
  have cm := mustBe_c (σ := σ) (s := s) hr
  cases hl : lookP row s with
  | none =>
    have o : mustR row s = .err 3 := by unfold mustR; rw [hl]
    rw [o, outI_err] at cm
    refine crun_of (X := (O 1 [0,1,2,3,4,5,7,8,6,9,10])) (O_ok _ _) (O_sat _ _) (body := bodyOf Tryz.f94) Tryz.func94 rfl (by kernel_rfl) (by kernel_rfl) ?_
    rw [Tryz.ntmps94]
    conv => whnf
    repeat' (first | (refine CallN.one cm ?_) | (refine finPGo ?_) | ((refine ⟨⟨by kernel_rfl, by kernel_rfl⟩, ?_⟩)) | refine OrdN.one ?_ | refine GetN.go ?_) <;> try (conv => whnf)
    all_goals rfl
  | some w =>
    have o : mustR row s = .ok w := by unfold mustR; rw [hl]
    rw [o, outI_ok] at cm
    have ca := propAsked_c (σ := σ) (v := w) (s := c) hg
    dsimp only
    generalize askR g w c = r at ca ⊢
    obtain ⟨wk, wn, wt, wl⟩ := w
    cases r with
    | ok v =>
      obtain ⟨rk, rn, rt, rl⟩ := v
      rw [outI_ok] at ca
      refine crun_of (X := (O 1 [0,1,2,3,4,5,7,8,6,9,10])) (O_ok _ _) (O_sat _ _) (body := bodyOf Tryz.f94) Tryz.func94 rfl (by kernel_rfl) (by kernel_rfl) ?_
      rw [Tryz.ntmps94]
      conv => whnf
      repeat' (first | (refine CallN.one cm ?_) | (refine CallN.one ca ?_) | refine OrdN.one ?_ | refine GetN.go ?_ | refine Need.draw ?_ | refine ExtN.ext ?_ | refine finGo ?_) <;> try (conv => whnf)
      all_goals rfl
    | err e =>
      rw [outI_err] at ca
      refine crun_of (X := (O 1 [0,1,2,3,4,5,7,8,6,9,10])) (O_ok _ _) (O_sat _ _) (body := bodyOf Tryz.f94) Tryz.func94 rfl (by kernel_rfl) (by kernel_rfl) ?_
      rw [Tryz.ntmps94]
      conv => whnf
      repeat' (first | (refine CallN.one cm ?_) | (refine CallN.one ca ?_) | (refine finPGo ?_) | ((refine ⟨⟨by kernel_rfl, by kernel_rfl⟩, ?_⟩)) | refine OrdN.one ?_ | refine GetN.go ?_ | refine ExtN.ext ?_) <;> try (conv => whnf)
      all_goals rfl
def seenOf (l : List Pr) : List (MK × Value) := l.map fun p => (.s p.name, .int .i64 1)
theorem seen_none : ∀ {l : List Pr} {s : ByteArray} {k : Nat}, (∀ p ∈ l, ¬ p.name = s) → mpFind (.s s) (seenOf l) k = none
  | [], _, _, _ => rfl
  | p :: r, s, k, h => by
    have h1 := h p (by simp)
    show (if MK.s s = MK.s p.name then _ else mpFind (.s s) (seenOf r) (k + 1)) = none
    rw [if_neg (fun e => h1 (by cases e; rfl)), seen_none fun q hq => h q (by simp [hq])]
theorem seen_some : ∀ {l : List Pr} {s : ByteArray} {k : Nat}, (¬ ∀ p ∈ l, ¬ p.name = s) → ∃ j, mpFind (.s s) (seenOf l) k = some (j, .int .i64 1)
  | [], _, _, h => absurd (by simp) h
  | p :: r, s, k, h => by
    show ∃ j, (if MK.s s = MK.s p.name then some (k, Value.int .i64 1) else mpFind (.s s) (seenOf r) (k + 1)) = _
    by_cases hp : p.name = s
    · exact ⟨k, by rw [if_pos (by rw [hp])]⟩
    · obtain ⟨j, hj⟩ := seen_some (l := r) (s := s) (k := k + 1) (fun hr => h (fun q hq => by
        rcases List.mem_cons.1 hq with rfl | hq
        · exact hp
        · exact hr q hq))
      exact ⟨j, by rw [if_neg (fun e => hp (by cases e; rfl)), hj]⟩
theorem placeS_first : ∀ {l : List Pr} {i k : Nat} {p : Pr}, l[i]? = some p → (placeS l p.name k = ((k + i : Nat) : Int) ↔ ∀ q ∈ l.take i, ¬ q.name = p.name)
  | [], _, _, _, h => by simp at h
  | x :: r, 0, k, p, h => by simp at h; subst h; simp [placeS]
  | x :: r, i + 1, k, p, h => by
    have ih := placeS_first (l := r) (i := i) (k := k + 1) (p := p) (by simpa using h)
    simp only [placeS, List.take_succ_cons, List.mem_cons, forall_eq_or_imp]
    by_cases hx : x.name = p.name
    · simp only [hx, if_true, not_true, false_and, iff_false]
      omega
    · rw [if_neg hx]
      constructor
      · intro e; exact ⟨hx, ih.1 (by rw [e]; omega)⟩
      · intro e; rw [ih.2 e.2]; omega
theorem seen_take {l : List Pr} {i : Nat} {p : Pr} (h : l[i]? = some p) : seenOf (l.take (i + 1)) = seenOf (l.take i) ++ [(.s p.name, .int .i64 1)] := by
  unfold seenOf
  rw [List.take_add_one, h]; simp
theorem finS {raw : List CV} {v : CV} {σ τ : Heap} {post : COut → Prop} (hs : Sub σ τ) (h : post (.ret v σ)) : Fin raw v τ post := .ret σ hs h
theorem cellsOk_c {σ : Heap} {ps : List Pr} (hlen : ps.length ≤ 1000) (ht : ∀ s ∈ ps, PrTame s) : CRun Tryz.prog 39 [.vec (prs ps)] σ (· = .ret (.sc (.bool (cellsOk ps))) σ) := by
  have e3 := prs_len ps
  have no : ∀ i, i < ps.length → cellAt ps i = false → COut.ret (.sc (.bool false)) σ = .ret (.sc (.bool (cellsOk ps))) σ := fun i hi h => ansB (by unfold cellsOk; rw [range_no hi h])
  refine crun_of (X := X) X_ok X_sat (body := bodyOf Tryz.f39) Tryz.func39 rfl (by kernel_rfl) (by kernel_rfl) ?_
  rw [Tryz.ntmps39]
  conv => whnf
  repeat' (first | refine AllocN.go (fun l hl => ?_)) <;> try (conv => whnf)
  refine LoopN.rule (α := Nat) (fun i => ⟨36, [(0, .vec (prs ps)), (2, .sc (.bool false)), (3, .map l), (7, .vec (prs ps)), (8, i64 (prs ps).length), (9, i64 i)], []⟩)
    (fun i => upd σ l (.mp true (seenOf (ps.take i)))) (fun i => ps.length - i) (fun i => i ≤ ps.length ∧ ∀ j, j < i → cellAt ps j = true) ?_ 0 ⟨by omega, by omega⟩ ?_
  · rintro i K ⟨h1, h2⟩ hK
    try dsimp only at h1 h2 ⊢
    have hsub : Sub σ (upd σ l (.mp true (seenOf (ps.take i)))) := (Sub.refl σ).upd hl
    have hgl : (upd σ l (.mp true (seenOf (ps.take i)))) l = some (.mp true (seenOf (ps.take i))) := upd_same _ _ _
    have eH : ∀ B, upd σ l B = upd (upd σ l (.mp true (seenOf (ps.take i)))) l B := fun B => (upd_upd _ _ _ _).symm
    have hK := hK (i + 1)
    try dsimp only at hK
    rw [eH] at hK
    clear eH
    generalize upd σ l (.mp true (seenOf (ps.take i))) = τ at hsub hgl hK ⊢
    by_cases hi : i < ps.length
    · obtain ⟨s, vk, vn, vt, vl, hm, hg, hg'⟩ := prs_at hi
      rw [seen_take hg] at hK
      have c1 := nameOk_c (σ := τ) (t := s) (by have := (ht _ hm).name; dsimp only at this; omega)
      have c2 := implOk_c (σ := τ) (ht _ hm).val
      have no := no i hi
      have e := cellAt_of hg
      try dsimp only at e hK
      cases hn : nameOk s <;> rw [hn] at c1 e
      · conv => whnf
        repeat' (first | (refine CallN.one c1 ?_) | (refine finS hsub ?_) | refine Fork.yp ?_ | refine Need.go ?_ | refine ElemN.go ?_ | refine ExtN.ext ?_) <;> try (conv => whnf)
        exact no e
      cases hv : okV 3 (.mk vk vn vt vl) <;> rw [hv] at c2 e
      · conv => whnf
        repeat' (first | (refine CallN.one c1 ?_) | (refine CallN.one c2 ?_) | (refine finS hsub ?_) | refine Fork.yp ?_ | refine Need.go ?_ | refine ElemN.go ?_ | refine ExtN.ext ?_) <;> try (conv => whnf)
        exact no e
      have hp := placeS_first (k := 0) hg
      rw [Nat.zero_add] at hp
      dsimp only at hp
      by_cases hq : ∀ q ∈ ps.take i, ¬ q.name = s
      · rw [decide_eq_true (hp.2 hq)] at e
        have hf := seen_none (k := 0) hq
        conv => whnf
        repeat' (first | (refine CallN.one c1 ?_) | (refine CallN.one c2 ?_) | (refine MapN.go ?_ hf) | refine Fork.yp ?_ | refine Fork.np ?_ | refine GetN.go ?_ | refine Need.go ?_ | refine ElemN.go ?_ | refine ExtN.ext ?_) <;> try (conv => whnf)
        refine hK _ _ ⟨by omega, stepAll h2 e⟩ (by omega) ?_
        (refine ⟨rfl, ?_, ?_, Sub.refl _⟩ <;> repeat' (first | exact EnvLe.nil | exact LocsLe.nil | refine EnvLe.cons _ _ _ ?_ ?_ | refine LocsLe.cons _ _ _ ?_ ?_ | exact CVle.same _ rfl | exact CVle.vec _ _ | exact CVle.nil | exact CVle.tok _ _ _ rfl rfl | exact ObLe.tok _ _ rfl | exact CVles.nil | refine CVles.cons ?_ ?_ | exact ObLe.same _ rfl rfl | refine ObLe.cells rfl ?_))
      · rw [decide_eq_false (fun x => hq (hp.1 x))] at e
        obtain ⟨j, hf⟩ := seen_some (k := 0) hq
        conv => whnf
        repeat' (first | (refine CallN.one c1 ?_) | (refine CallN.one c2 ?_) | (refine finS hsub ?_) | (refine MapN.go ?_ hf) | refine Fork.yp ?_ | refine GetN.go ?_ | refine Need.go ?_ | refine ElemN.go ?_ | refine ExtN.ext ?_) <;> try (conv => whnf)
        exact no e
    · have hall : ∀ i, i < ps.length → cellAt ps i = true := fun j hj => h2 j (by omega)
      conv => whnf
      repeat' (first | (refine finS hsub ?_) | refine Fork.np ?_) <;> try (conv => whnf)
      exact ansB (by unfold cellsOk; rw [range_yes hall])
  · (refine ⟨rfl, ?_, ?_, Sub.refl _⟩ <;> repeat' (first | exact EnvLe.nil | exact LocsLe.nil | refine EnvLe.cons _ _ _ ?_ ?_ | refine LocsLe.cons _ _ _ ?_ ?_ | exact CVle.same _ rfl | exact CVle.vec _ _ | exact CVle.nil | exact CVle.tok _ _ _ rfl rfl | exact ObLe.tok _ _ rfl | exact CVles.nil | refine CVles.cons ?_ ?_ | exact ObLe.same _ rfl rfl | refine ObLe.cells rfl ?_))
def zeroC : CV := .agg [i64 0, i64 0, .sc (.string ⟨#[]⟩), .vec []]
theorem grow0_c {σ : Heap} : CRun Tryz.prog 241 [.nil, i64 0] σ (· = .ret (.vec []) σ) := by
  refine crun_of (X := X) X_ok X_sat (body := bodyOf Tryz.f241) Tryz.func241 rfl (by kernel_rfl) (by kernel_rfl) ?_
  rw [Tryz.ntmps241]
  conv => whnf
  repeat' (first | (refine Need.go ?_ (h := by simp only [inR, List.length_nil]; omega)) | refine Fork.np ?_ | refine Fork.nb ?_ | refine finGo ?_) <;> try (conv => whnf)
  all_goals rfl
theorem grow_c {σ : Heap} {n : Int} (h1 : 1 ≤ n) (h2 : n ≤ 1000) : CRun Tryz.prog 241 [.nil, i64 n] σ
    (fun out => ∃ l cap, σ l = none ∧ n.toNat ≤ cap ∧ out = .ret (.grow l 0 cap) (upd σ l (.arr 30 4 cap (List.replicate n.toNat zeroC)))) := by
  have e : (n - 0 : Int) = n := by omega
  refine crun_of (X := G [22]) (G_ok _) (G_sat _) (body := bodyOf Tryz.f241) Tryz.func241 rfl (by kernel_rfl) (by kernel_rfl) ?_
  rw [Tryz.ntmps241]
  conv => whnf
  repeat' (first | (refine AllocC.go (fun l cap hl hcap => ?_)) | (refine Need.go ?_ (h := by simp only [inR, List.length_nil]; omega)) | refine Fork.yp ?_ | refine Fork.np ?_ | refine Need.go ?_ | refine finGo ?_) <;> try (conv => whnf)
  all_goals exact ⟨l, cap, hl, by simp only [List.length_nil] at hcap; omega, by rw [show (n - (0 - (([] : List CV).length : Int)) : Int) = n by simp]; rfl⟩
def listsC (xss : List (List Val)) : List CV := xss.map fun l => .vec (Val.cvs l)
theorem lists_len (xss : List (List Val)) : (listsC xss).length = xss.length := by simp [listsC]
theorem lists_at {xss : List (List Val)} {i : Nat} (hi : i < xss.length) : ∃ l, l ∈ xss ∧ (listsC xss)[i]? = some (.vec (Val.cvs l)) ∧ (xss.take (i + 1)).flatten = (xss.take i).flatten ++ l := by
  refine ⟨xss[i], List.getElem_mem hi, ?_, ?_⟩
  · unfold listsC; rw [List.getElem?_map, List.getElem?_eq_getElem hi]; rfl
  · rw [List.take_add_one, List.getElem?_eq_getElem hi, Option.toList_some, List.flatten_append, List.flatten_cons, List.flatten_nil, List.append_nil]
theorem flat_le {xss : List (List Val)} (h : ∀ l ∈ xss, l.length ≤ 100) : xss.flatten.length ≤ 100 * xss.length := by
  induction xss with
  | nil => simp
  | cons l r ih =>
    have h1 := h l (by simp)
    have h2 := ih fun m hm => h m (by simp [hm])
    simp only [List.flatten_cons, List.length_append, List.length_cons]; omega
theorem flat_take (xss : List (List Val)) (i : Nat) : (xss.take i).flatten.length ≤ xss.flatten.length := by
  have : xss.flatten = (xss.take i).flatten ++ (xss.drop i).flatten := by rw [← List.flatten_append, List.take_append_drop]
  rw [this, List.length_append]; omega
theorem arr_step (a b : List CV) (z : CV) (m : Nat) : (a ++ List.replicate (b.length + m) z).take a.length ++ b ++ (a ++ List.replicate (b.length + m) z).drop (a.length + b.length) = (a ++ b) ++ List.replicate m z := by
  rw [List.take_left]
  congr 1
  rw [List.drop_append, List.drop_eq_nil_of_le (by omega), List.nil_append, List.drop_replicate]
  congr 1; omega
theorem concat_c {σ : Heap} {xss : List (List Val)} (h1 : xss.length ≤ 10) (h2 : ∀ l ∈ xss, l.length ≤ 100) : CRun Tryz.prog 222 [.vec (listsC xss)] σ (· = .ret (.vec (Val.cvs xss.flatten)) σ) := by
  have e3 := lists_len xss
  have hN := flat_le h2
  by_cases hz : xss.flatten.length = 0
  · have e0 : xss.flatten = [] := List.eq_nil_of_length_eq_zero hz
    rw [e0]
    have hall : ∀ l ∈ xss, l = [] := fun l hl => List.eq_nil_of_length_eq_zero (by
      have := List.flatten_eq_nil_iff.1 e0 l hl
      rw [this]; rfl)
    have c1 := @grow0_c σ
    refine crun_of (X := X) X_ok X_sat (body := bodyOf Tryz.f222) Tryz.func222 rfl (by kernel_rfl) (by kernel_rfl) ?_
    rw [Tryz.ntmps222]
    conv => whnf
    repeat' (first | refine OrdN.one ?_ | refine Fork.yp ?_ | refine Fork.np ?_ | refine Fork.ny ?_ | refine Fork.nn ?_ | refine Fork.yb ?_ | refine Fork.nb ?_ | refine Fork.dp (fun h => ?_) (fun h => ?_) | refine Fork.dn (fun h => ?_) (fun h => ?_) | (refine Fork.mk (fun h => ?_) (fun h => ?_) <;> simp only [decide_eq_true_eq, decide_eq_false_iff_not, Bool.not_eq_true', Bool.not_eq_false', Bool.or_eq_true, Bool.or_eq_false_iff] at h) | refine GetN.go ?_ | refine Need.ap1 ?_ | refine Need.ap0 ?_ | refine Need.go ?_ | refine Need.draw ?_ | refine ElemN.go ?_ | refine ExtN.ext ?_ | refine ExtN.wr ?_ | refine AllocN.go (fun l hl => ?_) | refine finGo ?_) <;> try (conv => whnf)
    refine LoopN.rule (α := Nat) (fun i => ⟨36, [(0, .vec (listsC xss)), (2, .nil), (3, i64 0), (9, .vec (listsC xss)), (10, i64 (listsC xss).length), (11, i64 i)], []⟩)
      (fun _ => σ) (fun i => xss.length - i) (fun i => i ≤ xss.length) ?_ 0 (by omega) ?_
    · intro i K hi0 hK
      dsimp only at hi0 ⊢
      by_cases hi : i < xss.length
      · obtain ⟨l, hm, hg, _⟩ := lists_at hi
        have hl := hall l hm
        subst hl
        have z0 : (Val.cvs ([] : List Val)).length = 0 := rfl
        conv => whnf
        repeat' (first | refine Fork.yp ?_ | refine Fork.np ?_ | refine Need.go ?_ | refine ElemN.go ?_) <;> try (conv => whnf)
        refine hK (i + 1) _ _ (by omega) (by omega) ?_
        (refine ⟨rfl, ?_, ?_, Sub.refl _⟩ <;> repeat' (first | exact EnvLe.nil | exact LocsLe.nil | refine EnvLe.cons _ _ _ ?_ ?_ | refine LocsLe.cons _ _ _ ?_ ?_ | exact CVle.same _ rfl | exact CVle.vec _ _ | exact CVle.nil | exact CVle.tok _ _ _ rfl rfl | exact ObLe.tok _ _ rfl | exact CVles.nil | refine CVles.cons ?_ ?_ | exact ObLe.same _ rfl rfl | refine ObLe.cells rfl ?_))
      · conv => whnf
        repeat' (first | (refine CallN.one0 c1 ?_) | refine Fork.np ?_ | refine ExtN.ext ?_) <;> try (conv => whnf)
        refine LoopN.rule (α := Nat) (fun i => ⟨36, [(6, .vec []), (25, .vec (listsC xss)), (26, i64 (listsC xss).length), (27, i64 i)], []⟩)
          (fun _ => σ) (fun i => xss.length - i) (fun i => i ≤ xss.length) ?_ 0 (by omega) ?_
        · intro i K hi0 hK
          try dsimp only at hi0 ⊢
          by_cases hi : i < xss.length
          · obtain ⟨l, hm, hg, _⟩ := lists_at hi
            have hl := hall l hm
            subst hl
            conv => whnf
            repeat' (first | refine Fork.yp ?_ | refine Fork.yb ?_ | refine Need.go ?_ | refine ElemN.go ?_) <;> try (conv => whnf)
            refine hK (i + 1) _ _ (by omega) (by omega) ?_
            (refine ⟨rfl, ?_, ?_, Sub.refl _⟩ <;> repeat' (first | exact EnvLe.nil | exact LocsLe.nil | refine EnvLe.cons _ _ _ ?_ ?_ | refine LocsLe.cons _ _ _ ?_ ?_ | exact CVle.same _ rfl | exact CVle.vec _ _ | exact CVle.nil | exact CVle.tok _ _ _ rfl rfl | exact ObLe.tok _ _ rfl | exact CVles.nil | refine CVles.cons ?_ ?_ | exact ObLe.same _ rfl rfl | refine ObLe.cells rfl ?_))
          · conv => whnf
            repeat' (first | refine Fork.np ?_ | refine finGo ?_) <;> try (conv => whnf)
            all_goals rfl
        · (refine ⟨rfl, ?_, ?_, Sub.refl _⟩ <;> repeat' (first | exact EnvLe.nil | exact LocsLe.nil | refine EnvLe.cons _ _ _ ?_ ?_ | refine LocsLe.cons _ _ _ ?_ ?_ | exact CVle.same _ rfl | exact CVle.vec _ _ | exact CVle.nil | exact CVle.tok _ _ _ rfl rfl | exact ObLe.tok _ _ rfl | exact CVles.nil | refine CVles.cons ?_ ?_ | exact ObLe.same _ rfl rfl | refine ObLe.cells rfl ?_))
    · (refine ⟨rfl, ?_, ?_, Sub.refl _⟩ <;> repeat' (first | exact EnvLe.nil | exact LocsLe.nil | refine EnvLe.cons _ _ _ ?_ ?_ | refine LocsLe.cons _ _ _ ?_ ?_ | exact CVle.same _ rfl | exact CVle.vec _ _ | exact CVle.nil | exact CVle.tok _ _ _ rfl rfl | exact ObLe.tok _ _ rfl | exact CVles.nil | refine CVles.cons ?_ ?_ | exact ObLe.same _ rfl rfl | refine ObLe.cells rfl ?_))
  · suffices hs : CRun Tryz.prog 222 [.vec (listsC xss)] σ (fun out => ∃ l cap, σ l = none ∧ out = .ret (.grow l xss.flatten.length cap) (upd σ l (.arr 30 4 cap (Val.cvs xss.flatten)))) by
      refine hs.freeze fun out ⟨l, cap, hl, e⟩ => ?_
      subst e
      refine ⟨.ret (.vec (Val.cvs xss.flatten)) σ, ⟨(Sub.refl σ).upd hl, [l], .inl (.one ?_), fun l' h' => by rw [List.mem_singleton.1 h']; exact hl⟩, rfl⟩
      have e4 := cvs_length xss.flatten
      have := Frz.grow (σ := upd σ l (.arr 30 4 cap (Val.cvs xss.flatten))) l xss.flatten.length cap _ _ _ (upd_same _ _ _) (by omega)
      rwa [List.take_of_length_le (by omega)] at this
    have c1 := grow_c (σ := σ) (n := xss.flatten.length) (by omega) (by omega)
    refine crun_of (X := X) X_ok X_sat (body := bodyOf Tryz.f222) Tryz.func222 rfl (by kernel_rfl) (by kernel_rfl) ?_
    rw [Tryz.ntmps222]
    conv => whnf
    repeat' (first | refine OrdN.one ?_ | refine Fork.yp ?_ | refine Fork.np ?_ | refine Fork.ny ?_ | refine Fork.nn ?_ | refine Fork.yb ?_ | refine Fork.nb ?_ | refine Fork.dp (fun h => ?_) (fun h => ?_) | refine Fork.dn (fun h => ?_) (fun h => ?_) | (refine Fork.mk (fun h => ?_) (fun h => ?_) <;> simp only [decide_eq_true_eq, decide_eq_false_iff_not, Bool.not_eq_true', Bool.not_eq_false', Bool.or_eq_true, Bool.or_eq_false_iff] at h) | refine GetN.go ?_ | refine Need.ap1 ?_ | refine Need.ap0 ?_ | refine Need.go ?_ | refine Need.draw ?_ | refine ElemN.go ?_ | refine ExtN.ext ?_ | refine ExtN.wr ?_ | refine AllocN.go (fun l hl => ?_) | refine finGo ?_) <;> try (conv => whnf)
    refine LoopN.rule (α := Nat) (fun i => ⟨36, [(0, .vec (listsC xss)), (2, .nil), (3, i64 (xss.take i).flatten.length), (9, .vec (listsC xss)), (10, i64 (listsC xss).length), (11, i64 i)], []⟩)
      (fun _ => σ) (fun i => xss.length - i) (fun i => i ≤ xss.length) ?_ 0 (by omega) ?_
    · intro i K hi0 hK
      dsimp only at hi0 ⊢
      have b1 := flat_take xss i
      by_cases hi : i < xss.length
      · obtain ⟨l, hm, hg, hf⟩ := lists_at hi
        have b2 := h2 l hm
        have e4 := cvs_length l
        have e5 : ((xss.take (i + 1)).flatten.length : Int) = (xss.take i).flatten.length + (Val.cvs l).length := by rw [hf, List.length_append, e4]; omega
        have hK := hK (i + 1)
        try dsimp only at hK
        rw [e5] at hK
        conv => whnf
        repeat' (first | refine Fork.yp ?_ | refine Fork.np ?_ | refine Need.go ?_ | refine ElemN.go ?_) <;> try (conv => whnf)
        refine hK _ _ (by omega) (by omega) ?_
        (refine ⟨rfl, ?_, ?_, Sub.refl _⟩ <;> repeat' (first | exact EnvLe.nil | exact LocsLe.nil | refine EnvLe.cons _ _ _ ?_ ?_ | refine LocsLe.cons _ _ _ ?_ ?_ | exact CVle.same _ rfl | exact CVle.vec _ _ | exact CVle.nil | exact CVle.tok _ _ _ rfl rfl | exact ObLe.tok _ _ rfl | exact CVles.nil | refine CVles.cons ?_ ?_ | exact ObLe.same _ rfl rfl | refine ObLe.cells rfl ?_))
      · have e6 : xss.take i = xss := List.take_of_length_le (by omega)
        rw [e6]
        conv => whnf
        repeat' (first | ((refine CallN.many0 c1 ?_; rintro _ ⟨l, cap, hl, hcap, rfl⟩)) | (refine ExtN.ext ?_ ((Sub.refl _).upd hl)) | refine Fork.np ?_) <;> try (conv => whnf)
        refine LoopN.rule (α := Nat) (fun i => ⟨36, [(6, .grow l (xss.take i).flatten.length cap), (25, .vec (listsC xss)), (26, i64 (listsC xss).length), (27, i64 i)], []⟩)
          (fun i => upd σ l (.arr 30 4 cap (Val.cvs (xss.take i).flatten ++ List.replicate (xss.flatten.length - (xss.take i).flatten.length) zeroC))) (fun i => xss.length - i) (fun i => i ≤ xss.length) ?_ 0 (by omega) ?_
        · intro i K hi0 hK
          try dsimp only at hi0 ⊢
          have b1 := flat_take xss i
          have b2 := flat_take xss (i + 1)
          have hgl : (upd σ l (.arr 30 4 cap (Val.cvs (xss.take i).flatten ++ List.replicate (xss.flatten.length - (xss.take i).flatten.length) zeroC))) l = some (.arr 30 4 cap (Val.cvs (xss.take i).flatten ++ List.replicate (xss.flatten.length - (xss.take i).flatten.length) zeroC)) := upd_same _ _ _
          have eH : ∀ B, upd σ l B = upd (upd σ l (.arr 30 4 cap (Val.cvs (xss.take i).flatten ++ List.replicate (xss.flatten.length - (xss.take i).flatten.length) zeroC))) l B := fun B => (upd_upd _ _ _ _).symm
          by_cases hi : i < xss.length
          · obtain ⟨m, hm, hg, hf⟩ := lists_at hi
            have e4 := cvs_length m
            have e5 := cvs_length (xss.take i).flatten
            have hK := hK (i + 1)
            try dsimp only at hK
            rw [hf, List.length_append] at b2
            by_cases hm0 : m = []
            · subst hm0
              rw [hf, List.append_nil] at hK
              clear eH
              generalize upd σ l (.arr 30 4 cap (Val.cvs (xss.take i).flatten ++ List.replicate (xss.flatten.length - (xss.take i).flatten.length) zeroC)) = τ at hgl hK ⊢
              conv => whnf
              repeat' (first | refine Fork.yp ?_ | refine Fork.yb ?_ | refine Need.go ?_ | refine ElemN.go ?_) <;> try (conv => whnf)
              refine hK _ _ (by omega) (by omega) ?_
              (refine ⟨rfl, ?_, ?_, Sub.refl _⟩ <;> repeat' (first | exact EnvLe.nil | exact LocsLe.nil | refine EnvLe.cons _ _ _ ?_ ?_ | refine LocsLe.cons _ _ _ ?_ ?_ | exact CVle.same _ rfl | exact CVle.vec _ _ | exact CVle.nil | exact CVle.tok _ _ _ rfl rfl | exact ObLe.tok _ _ rfl | exact CVles.nil | refine CVles.cons ?_ ?_ | exact ObLe.same _ rfl rfl | refine ObLe.cells rfl ?_))
            · obtain ⟨f1, f2⟩ := cvs_full hm0
              have key := arr_step (Val.cvs (xss.take i).flatten) (Val.cvs m) zeroC (xss.flatten.length - ((xss.take i).flatten.length + m.length))
              rw [← cvs_append, e4, e5, show m.length + (xss.flatten.length - ((xss.take i).flatten.length + m.length)) = xss.flatten.length - (xss.take i).flatten.length by omega] at key
              rw [eH, hf, List.length_append, ← key] at hK
              have hx : (Val.cvs (xss.take i).flatten ++ List.replicate (xss.flatten.length - (xss.take i).flatten.length) zeroC).length = xss.flatten.length := by rw [List.length_append, e5, List.length_replicate]; omega
              clear eH key
              generalize upd σ l (.arr 30 4 cap (Val.cvs (xss.take i).flatten ++ List.replicate (xss.flatten.length - (xss.take i).flatten.length) zeroC)) = τ at hgl hK ⊢
              generalize Val.cvs (xss.take i).flatten ++ List.replicate (xss.flatten.length - (xss.take i).flatten.length) zeroC = xs at hgl hK hx
              rw [← e4] at hK
              conv => whnf
              repeat' (first | (refine Need.go ?_ (h := ⟨rfl, by omega, by simp only []; omega, by omega, cvs_els m⟩)) | refine Fork.yp ?_ | refine Fork.nb ?_ | refine GetN.go ?_ | refine Need.go ?_ | refine ElemN.go ?_) <;> try (conv => whnf)
              refine hK _ _ (by omega) (by omega) ?_
              (refine ⟨rfl, ?_, ?_, Sub.refl _⟩ <;> repeat' (first | exact EnvLe.nil | exact LocsLe.nil | refine EnvLe.cons _ _ _ ?_ ?_ | refine LocsLe.cons _ _ _ ?_ ?_ | exact CVle.same _ rfl | exact CVle.vec _ _ | exact CVle.nil | exact CVle.tok _ _ _ rfl rfl | exact ObLe.tok _ _ rfl | exact CVles.nil | refine CVles.cons ?_ ?_ | exact ObLe.same _ rfl rfl | refine ObLe.cells rfl ?_))
          · have e6 : xss.take i = xss := List.take_of_length_le (by omega)
            rw [e6, Nat.sub_self, List.replicate_zero, List.append_nil]
            conv => whnf
            repeat' (first | refine Fork.np ?_ | refine finGo ?_) <;> try (conv => whnf)
            exact ⟨l, cap, hl, rfl⟩
        · refine ⟨rfl, ?_, ?_, ?_⟩
          rotate_left
          rotate_left
          · simpa [Val.cvs] using Sub.refl _
          all_goals repeat' (first | exact EnvLe.nil | exact LocsLe.nil | refine EnvLe.cons _ _ _ ?_ ?_ | exact CVle.same _ rfl)
    · (refine ⟨rfl, ?_, ?_, Sub.refl _⟩ <;> repeat' (first | exact EnvLe.nil | exact LocsLe.nil | refine EnvLe.cons _ _ _ ?_ ?_ | refine LocsLe.cons _ _ _ ?_ ?_ | exact CVle.same _ rfl | exact CVle.vec _ _ | exact CVle.nil | exact CVle.tok _ _ _ rfl rfl | exact ObLe.tok _ _ rfl | exact CVles.nil | refine CVles.cons ?_ ?_ | exact ObLe.same _ rfl rfl | refine ObLe.cells rfl ?_))
theorem okV_mono : ∀ (v : Val) {d d' : Int}, d ≤ d' → okV d v = true → okV d' v = true
  | .mk k n t l, d, d', hd, h => by
    simp only [okV, Bool.and_eq_true, decide_eq_true_eq] at h ⊢
    obtain ⟨h1, h2⟩ := h
    refine ⟨by omega, ?_⟩
    by_cases c : k = 4
    · subst c
      simp only [okL_all] at h2 ⊢
      simp at h2 ⊢
      exact ⟨h2.1, fun v hv => okV_mono v (by omega) (h2.2 v hv)⟩
    · simp only [c, if_false] at h2 ⊢
      exact h2
  termination_by v => SizeOf.sizeOf v
theorem set_step (a : List CV) (b z : CV) (m : Nat) : (a ++ List.replicate (m + 1) z).set a.length b = (a ++ [b]) ++ List.replicate m z := by
  rw [List.set_append_right _ _ (Nat.le_refl _), Nat.sub_self, List.replicate_succ, List.set_cons_zero]; simp
theorem cloneVs_c {vl : List Val} (ih : ∀ w ∈ vl, ∀ σ, CRun Tryz.prog 42 [w.cv] σ (· = .ret w.cv σ)) (hlen : vl.length ≤ 100) {σ : Heap} : CRun Tryz.prog 89 [.vec (Val.cvs vl)] σ (· = .ret (.vec (Val.cvs vl)) σ) := by
  have e3 := cvs_length vl
  by_cases hz : vl = []
  · subst hz
    refine crun_of (X := X) X_ok X_sat (body := bodyOf Tryz.f89) Tryz.func89 rfl (by kernel_rfl) (by kernel_rfl) ?_
    rw [Tryz.ntmps89]
    conv => whnf
    repeat' (first | refine Fork.yb ?_ | refine finGo ?_) <;> try (conv => whnf)
    all_goals rfl
  have hpos : ¬ vl.length = 0 := fun e => hz (List.eq_nil_of_length_eq_zero e)
  suffices hs : CRun Tryz.prog 89 [.vec (Val.cvs vl)] σ (fun out => ∃ l, σ l = none ∧ out = .ret (.grow l (Val.cvs vl).length (Val.cvs vl).length) (upd σ l (.arr 30 4 (Val.cvs vl).length (Val.cvs vl)))) by
    refine hs.freeze fun out ⟨l, hl, e⟩ => ?_
    subst e
    refine ⟨.ret (.vec (Val.cvs vl)) σ, ⟨(Sub.refl σ).upd hl, [l], .inl (.one ?_), fun l' h' => by rw [List.mem_singleton.1 h']; exact hl⟩, rfl⟩
    have := Frz.grow (σ := upd σ l (.arr 30 4 (Val.cvs vl).length (Val.cvs vl))) l (Val.cvs vl).length (Val.cvs vl).length _ _ _ (upd_same _ _ _) (Nat.le_refl _)
    rwa [List.take_of_length_le (Nat.le_refl _)] at this
  refine crun_of (X := G [11]) (G_ok _) (G_sat _) (body := bodyOf Tryz.f89) Tryz.func89 rfl (by kernel_rfl) (by kernel_rfl) ?_
  rw [Tryz.ntmps89]
  conv => whnf
  repeat' (first | refine Fork.np ?_ | refine Need.go ?_ | refine AllocN.go (fun l hl => ?_)) <;> try (conv => whnf)
  refine LoopN.rule (α := Nat) (fun i => ⟨26, [(2, .nil), (3, .grow l (Val.cvs vl).length (Val.cvs vl).length), (12, .vec (Val.cvs vl)), (13, i64 (Val.cvs vl).length), (14, i64 i)], []⟩)
    (fun i => upd σ l (.arr 30 4 (Val.cvs vl).length (Val.cvs (vl.take i) ++ List.replicate ((Val.cvs vl).length - i) zeroC))) (fun i => vl.length - i) (fun i => i ≤ vl.length) ?_ 0 (by omega) ?_
  · intro i K hi0 hK
    try dsimp only at hi0 ⊢
    have hgl : (upd σ l (.arr 30 4 (Val.cvs vl).length (Val.cvs (vl.take i) ++ List.replicate ((Val.cvs vl).length - i) zeroC))) l = some (.arr 30 4 (Val.cvs vl).length (Val.cvs (vl.take i) ++ List.replicate ((Val.cvs vl).length - i) zeroC)) := upd_same _ _ _
    have eH : ∀ B, upd σ l B = upd (upd σ l (.arr 30 4 (Val.cvs vl).length (Val.cvs (vl.take i) ++ List.replicate ((Val.cvs vl).length - i) zeroC))) l B := fun B => (upd_upd _ _ _ _).symm
    have e4 := cvs_length (vl.take i)
    rw [List.length_take, Nat.min_eq_left hi0] at e4
    by_cases hi : i < vl.length
    · obtain ⟨⟨wk, wn, wt, wl⟩, hm, hg, htk⟩ := cvs_get hi
      have key := set_step (Val.cvs (vl.take i)) (Val.cv (.mk wk wn wt wl)) zeroC ((Val.cvs vl).length - (i + 1))
      rw [show (Val.cvs vl).length - (i + 1) + 1 = (Val.cvs vl).length - i by omega, e4] at key
      have hx : (Val.cvs (vl.take i) ++ List.replicate ((Val.cvs vl).length - i) zeroC)[(i : Int).toNat]? = some zeroC := by
        rw [Int.toNat_natCast, List.getElem?_append_right (by omega), e4, Nat.sub_self, List.getElem?_replicate, if_pos (by omega)]
      have hK := hK (i + 1)
      try dsimp only at hK
      rw [htk, cvs_append, show Val.cvs [.mk wk wn wt wl] = [Val.cv (.mk wk wn wt wl)] from rfl, ← key, eH] at hK
      clear key eH
      have c1 := fun τ => ih _ hm τ
      generalize upd σ l (.arr 30 4 (Val.cvs vl).length (Val.cvs (vl.take i) ++ List.replicate ((Val.cvs vl).length - i) zeroC)) = τ at hgl hK ⊢
      generalize Val.cvs (vl.take i) ++ List.replicate ((Val.cvs vl).length - i) zeroC = xs at hgl hK hx
      conv => whnf
      repeat' (first | (refine CallN.one (c1 τ) ?_) | refine Fork.yp ?_ | refine GetN.go ?_ | refine Need.go ?_ | refine ElemN.go ?_ | refine ExtN.ext ?_) <;> try (conv => whnf)
      refine hK _ _ (by omega) (by omega) ?_
      (refine ⟨rfl, ?_, ?_, Sub.refl _⟩ <;> repeat' (first | exact EnvLe.nil | exact LocsLe.nil | refine EnvLe.cons _ _ _ ?_ ?_ | refine LocsLe.cons _ _ _ ?_ ?_ | exact CVle.same _ rfl | exact CVle.vec _ _ | exact CVle.nil | exact CVle.tok _ _ _ rfl rfl | exact ObLe.tok _ _ rfl | exact CVles.nil | refine CVles.cons ?_ ?_ | exact ObLe.same _ rfl rfl | refine ObLe.cells rfl ?_))
    · have e6 : vl.take i = vl := List.take_of_length_le (by omega)
      rw [e6, show (Val.cvs vl).length - i = 0 by omega, List.replicate_zero, List.append_nil]
      conv => whnf
      repeat' (first | refine Fork.np ?_ | refine finGo ?_) <;> try (conv => whnf)
      exact ⟨l, hl, rfl⟩
  · (refine ⟨rfl, ?_, ?_, Sub.refl _⟩ <;> repeat' (first | exact EnvLe.nil | exact LocsLe.nil | refine EnvLe.cons _ _ _ ?_ ?_ | refine LocsLe.cons _ _ _ ?_ ?_ | exact CVle.same _ rfl | exact CVle.vec _ _ | exact CVle.nil | exact CVle.tok _ _ _ rfl rfl | exact ObLe.tok _ _ rfl | exact CVles.nil | refine CVles.cons ?_ ?_ | exact ObLe.same _ rfl rfl | refine ObLe.cells rfl ?_))
theorem cloneV_c : ∀ (v : Val), Tame v → okV 3 v = true → ∀ (σ : Heap), CRun Tryz.prog 42 [v.cv] σ (· = .ret v.cv σ)
  | .mk k n t l, hv, ho, σ => by
    have c0 := implOk_c (σ := σ) hv
    rw [ho] at c0
    have hl : ∀ w ∈ l, okV 3 w = true := by
      by_cases h4 : k = 4
      · subst h4
        have := okV_list ho
        exact fun v hv => okV_mono v (by omega) (this v hv)
      · by_cases h3 : k = 3
        · subst h3
          rw [(okV_text ho).2]; simp
        · rw [(okV_num ho h3 h4).2]; simp
    have c1 := cloneVs_c (vl := l) (fun w hw => cloneV_c w (hv.inv.2.2.2.2 w hw) (hl w hw)) hv.inv.2.2.2.1 (σ := σ)
    refine crun_of (X := X) X_ok X_sat (body := bodyOf Tryz.f42) Tryz.func42 rfl (by kernel_rfl) (by kernel_rfl) ?_
    rw [Tryz.ntmps42]
    conv => whnf
    repeat' (first | (refine CallN.one c0 ?_) | (refine CallN.one c1 ?_) | refine OrdN.one ?_ | refine Need.draw ?_ | refine ExtN.ext ?_ | refine finGo ?_) <;> try (conv => whnf)
    all_goals rfl
  termination_by v => SizeOf.sizeOf v
set_option maxHeartbeats 1000000 in
theorem addOf_c {σ : Heap} {a b : Val} (ha : Tame a) (hb : Tame b) (oa : okV 3 a = true) (ob : okV 3 b = true) : CRun Tryz.prog 169 [a.cv, b.cv] σ (· = outI σ (addR a b)) := by
  obtain ⟨k, n, t, l⟩ := a
  obtain ⟨k', n', t', l'⟩ := b
  obtain ⟨_, _, _, _, ja⟩ := ha.inv
  obtain ⟨_, _, _, _, jb⟩ := hb.inv
  obtain ⟨b1, b2, b3⟩ := okV_nums oa
  obtain ⟨b4, b5, b6⟩ := okV_nums ob
  have e3 := cvs_length l
  have e4 := cvs_length l'
  rw [addR_mk]
  by_cases z : k = 0 ∨ k' = 0
  · rw [if_pos z]
    refine crun_of (X := X) X_ok X_sat (body := bodyOf Tryz.f169) Tryz.func169 rfl (by kernel_rfl) (by kernel_rfl) ?_
    rw [Tryz.ntmps169]
    rcases z with z | z
    all_goals
      conv => whnf
      repeat' (first | refine Fork.yp ?_ | refine Fork.dp (fun h => ?_) (fun h => ?_) | refine finGo ?_) <;> try (conv => whnf)
      all_goals rfl
  rw [if_neg z]
  have z1 : ¬ k = 0 := by omega
  have z2 : ¬ k' = 0 := by omega
  by_cases k2 : k = 2 ∧ k' = 2
  · rw [if_pos k2]
    obtain ⟨q1, q2⟩ := k2
    have cc := implOk_c (σ := σ) (v := .mk 2 (n + n') ⟨#[]⟩ []) (.mk (by omega) (by omega) (by decide) (by decide) (by simp))
    cases ho : okV 3 (.mk 2 (n + n') ⟨#[]⟩ []) <;> rw [ho] at cc
    · rw [chk_no ho]
      subst q1 q2
      refine crun_of (X := X) X_ok X_sat (body := bodyOf Tryz.f169) Tryz.func169 rfl (by kernel_rfl) (by kernel_rfl) ?_
      rw [Tryz.ntmps169]
      conv => whnf
      repeat' (first | (refine CallN.one cc ?_) | (refine finPGo ?_) | refine Fork.yp ?_ | refine Fork.np ?_ | refine Need.go ?_ | refine ExtN.ext ?_) <;> try (conv => whnf)
      all_goals rfl
    · rw [chk_ok ho]
      subst q1 q2
      refine crun_of (X := X) X_ok X_sat (body := bodyOf Tryz.f169) Tryz.func169 rfl (by kernel_rfl) (by kernel_rfl) ?_
      rw [Tryz.ntmps169]
      conv => whnf
      repeat' (first | (refine CallN.one cc ?_) | refine Fork.yp ?_ | refine Fork.np ?_ | refine Need.go ?_ | refine ExtN.ext ?_ | refine finGo ?_) <;> try (conv => whnf)
      all_goals rfl
  rw [if_neg k2]
  by_cases k3 : k = 3 ∧ k' = 3
  · rw [if_pos k3]
    obtain ⟨q1, q2⟩ := k3
    have cc := implOk_c (σ := σ) (v := .mk 3 0 (t ++ t') []) (.mk (by omega) (by omega) (by simp [ByteArray.size_append]; omega) (by decide) (by simp))
    cases ho : okV 3 (.mk 3 0 (t ++ t') []) <;> rw [ho] at cc
    · rw [chk_no ho]
      subst q1 q2
      refine crun_of (X := X) X_ok X_sat (body := bodyOf Tryz.f169) Tryz.func169 rfl (by kernel_rfl) (by kernel_rfl) ?_
      rw [Tryz.ntmps169]
      conv => whnf
      repeat' (first | (refine CallN.one cc ?_) | (refine finPGo ?_) | refine Fork.yp ?_ | refine Fork.np ?_ | refine Need.go ?_ | refine ExtN.ext ?_) <;> try (conv => whnf)
      all_goals rfl
    · rw [chk_ok ho]
      subst q1 q2
      refine crun_of (X := X) X_ok X_sat (body := bodyOf Tryz.f169) Tryz.func169 rfl (by kernel_rfl) (by kernel_rfl) ?_
      rw [Tryz.ntmps169]
      conv => whnf
      repeat' (first | (refine CallN.one cc ?_) | refine Fork.yp ?_ | refine Fork.np ?_ | refine Need.go ?_ | refine ExtN.ext ?_ | refine finGo ?_) <;> try (conv => whnf)
      all_goals rfl
  rw [if_neg k3]
  by_cases k4 : k = 4 ∧ k' = 4
  · rw [if_pos k4]
    obtain ⟨q1, q2⟩ := k4
    have happ : (l ++ l').length ≤ 100 := by rw [List.length_append]; omega
    have cc := implOk_c (σ := σ) (v := .mk 4 0 ⟨#[]⟩ (l ++ l')) (.mk (by omega) (by omega) (by decide) (by omega) (by
      intro v hv
      rcases List.mem_append.1 hv with h | h
      · exact ja v h
      · exact jb v h))
    have cx : CRun Tryz.prog 222 [.vec [.vec (Val.cvs l), .vec (Val.cvs l')]] σ (· = .ret (.vec (Val.cvs (l ++ l'))) σ) := by
      have := concat_c (σ := σ) (xss := [l, l']) (by simp) (by simp; omega)
      simp only [List.flatten_cons, List.flatten_nil, List.append_nil] at this
      exact this
    generalize l ++ l' = ll at cc cx ⊢
    cases ho : okV 3 (.mk 4 0 ⟨#[]⟩ ll) <;> rw [ho] at cc
    · rw [chk_no ho]
      subst q1 q2
      refine crun_of (X := X) X_ok X_sat (body := bodyOf Tryz.f169) Tryz.func169 rfl (by kernel_rfl) (by kernel_rfl) ?_
      rw [Tryz.ntmps169]
      conv => whnf
      repeat' (first | (refine CallN.one cc ?_) | (refine CallN.one cx ?_) | (refine finPGo ?_) | refine Fork.yp ?_ | refine Fork.np ?_ | refine ExtN.ext ?_) <;> try (conv => whnf)
      all_goals rfl
    · rw [chk_ok ho]
      subst q1 q2
      refine crun_of (X := X) X_ok X_sat (body := bodyOf Tryz.f169) Tryz.func169 rfl (by kernel_rfl) (by kernel_rfl) ?_
      rw [Tryz.ntmps169]
      conv => whnf
      repeat' (first | (refine CallN.one cc ?_) | (refine CallN.one cx ?_) | refine Fork.yp ?_ | refine Fork.np ?_ | refine ExtN.ext ?_ | refine finGo ?_) <;> try (conv => whnf)
      all_goals rfl
  · rw [if_neg k4]
    refine crun_of (X := X) X_ok X_sat (body := bodyOf Tryz.f169) Tryz.func169 rfl (by kernel_rfl) (by kernel_rfl) ?_
    rw [Tryz.ntmps169]
    conv => whnf
    repeat' (first | (refine finPGo ?_) | refine Fork.np ?_ | refine Fork.dn (fun h => ?_) (fun h => ?_)) <;> try (conv => whnf)
    all_goals first | rfl | (exfalso; omega)
theorem twoF_c {σ : Heap} {kind : Int} {a b : Val} (hk : kind = 5 ∨ kind = 6 ∨ kind = 7 ∨ kind = 8 ∨ kind = 10 ∨ kind = 12) (ha : Tame a) (hb : Tame b) (oa : okV 3 a = true) (ob : okV 3 b = true) : CRun Tryz.prog (twoF kind) [a.cv, b.cv] σ (· = outI σ (twoR kind a b)) := by
  rcases hk with rfl | rfl | rfl | rfl | rfl | rfl
  · exact equalOf_c ha hb
  · exact implLess0 ha hb oa ob
  · exact andOf_c oa ob
  · exact orOf_c oa ob
  · exact addOf_c ha hb oa ob
  · exact inOf_c ha hb
def one1 (kind : Int) : Rs → Rs
  | .ok x => oneR kind x
  | .err e => .err e
def two2 (kind : Int) (a b : Rs) : Rs := match a with
  | .err e => .err e
  | .ok x => match b with
    | .err e => .err e
    | .ok y => twoR kind x y
theorem asker6_c {σ : Heap} {g : Gr} {row given : List Pr} {l6 l3 l28 : Nat} {c0 : CV} {r : Rs} {kind : Int} (h6 : σ l6 = some (.cells [.fn (.func (oneF kind)) [] []])) (h3 : σ l3 = some (.cells [.grow l28 1 1])) (h28 : σ l28 = some (.arr 72 1 1 [.opq c0]))
    (hv : VRun Tryz.prog c0 [sceneC g row given] σ (· = outI σ r)) (hr : RsOk r) (hk : kind = 9 ∨ kind = 11 ∨ kind = 13) :
    CRun Tryz.prog 98 [sceneC g row given, .ptr (.g l6) 0, .ptr (.g l3) 0] σ (· = outI σ (one1 kind r)) := by
  cases r with
  | ok v =>
    have c1 := oneF_c (σ := σ) hk (tame_of v hr) hr
    have e : one1 kind (.ok v) = oneR kind v := rfl
    rw [e]
    generalize oneR kind v = q at c1 ⊢
    generalize oneF kind = f at c1 h6
    obtain ⟨vk, vn, vt, vl⟩ := v
    rw [outI_ok] at hv
    cases q with
    | ok q =>
      obtain ⟨qk, qn, qt, ql⟩ := q
      rw [outI_ok] at c1
      refine crun_of (X := X) X_ok X_sat (body := bodyOf Tryz.f98) Tryz.func98 rfl (by kernel_rfl) (by kernel_rfl) ?_
      rw [Tryz.ntmps98]
      conv => whnf
      repeat' (first | (refine CallVN.one hv ?_) | (refine CallN.one c1 ?_) | refine OrdN.one ?_ | refine GetN.go ?_ | refine Need.go ?_ | refine Need.draw ?_ | refine ElemN.go ?_ | refine ExtN.ext ?_ | refine finGo ?_) <;> try (conv => whnf)
      all_goals rfl
    | err e =>
      rw [outI_err] at c1
      refine crun_of (X := X) X_ok X_sat (body := bodyOf Tryz.f98) Tryz.func98 rfl (by kernel_rfl) (by kernel_rfl) ?_
      rw [Tryz.ntmps98]
      conv => whnf
      repeat' (first | (refine CallVN.one hv ?_) | (refine CallN.one c1 ?_) | (refine finPGo ?_) | ((refine ⟨⟨by kernel_rfl, by kernel_rfl⟩, ?_⟩)) | refine OrdN.one ?_ | refine GetN.go ?_ | refine Need.go ?_ | refine ElemN.go ?_ | refine ExtN.ext ?_) <;> try (conv => whnf)
      all_goals rfl
  | err e =>
    rw [outI_err] at hv
    generalize oneF kind = f at h6
    refine crun_of (X := X) X_ok X_sat (body := bodyOf Tryz.f98) Tryz.func98 rfl (by kernel_rfl) (by kernel_rfl) ?_
    rw [Tryz.ntmps98]
    conv => whnf
    repeat' (first | (refine CallVN.one hv ?_) | (refine finPGo ?_) | ((refine ⟨⟨by kernel_rfl, by kernel_rfl⟩, ?_⟩)) | refine OrdN.one ?_ | refine GetN.go ?_ | refine Need.go ?_ | refine ElemN.go ?_) <;> try (conv => whnf)
    all_goals rfl
theorem asker7_c {σ : Heap} {g : Gr} {row given : List Pr} {l7 l3 l28 : Nat} {c0 c1 : CV} {r0 r1 : Rs} {kind : Int} (h7 : σ l7 = some (.cells [.fn (.func (twoF kind)) [] []])) (h3 : σ l3 = some (.cells [.grow l28 2 2])) (h28 : σ l28 = some (.arr 72 1 2 [.opq c0, .opq c1]))
    (hv0 : VRun Tryz.prog c0 [sceneC g row given] σ (· = outI σ r0)) (hv1 : VRun Tryz.prog c1 [sceneC g row given] σ (· = outI σ r1)) (hr0 : RsOk r0) (hr1 : RsOk r1) (hk : kind = 5 ∨ kind = 6 ∨ kind = 7 ∨ kind = 8 ∨ kind = 10 ∨ kind = 12) :
    CRun Tryz.prog 100 [sceneC g row given, .ptr (.g l3) 0, .ptr (.g l7) 0] σ (· = outI σ (two2 kind r0 r1)) := by
  cases r0 with
  | err e =>
    rw [outI_err] at hv0
    generalize twoF kind = f at h7
    refine crun_of (X := (O 1 [0,1,2,3,5,4,6])) (O_ok _ _) (O_sat _ _) (body := bodyOf Tryz.f100) Tryz.func100 rfl (by kernel_rfl) (by kernel_rfl) ?_
    rw [Tryz.ntmps100]
    conv => whnf
    repeat' (first | (refine CallVN.one hv0 ?_) | (refine finPGo ?_) | ((refine ⟨⟨by kernel_rfl, by kernel_rfl⟩, ?_⟩)) | refine OrdN.one ?_ | refine GetN.go ?_ | refine Need.go ?_ | refine ElemN.go ?_) <;> try (conv => whnf)
    all_goals rfl
  | ok v =>
    rw [outI_ok] at hv0
    cases r1 with
    | err e =>
      rw [outI_err] at hv1
      generalize twoF kind = f at h7
      obtain ⟨vk, vn, vt, vl⟩ := v
      refine crun_of (X := (O 2 [0,1,2,3,5,4,6])) (O_ok _ _) (O_sat _ _) (body := bodyOf Tryz.f100) Tryz.func100 rfl (by kernel_rfl) (by kernel_rfl) ?_
      rw [Tryz.ntmps100]
      conv => whnf
      repeat' (first | (refine CallVN.one hv0 ?_) | (refine CallVN.one hv1 ?_) | (refine finPGo ?_) | ((refine ⟨⟨by kernel_rfl, by kernel_rfl⟩, ?_⟩)) | refine OrdN.one ?_ | refine GetN.go ?_ | refine Need.go ?_ | refine ElemN.go ?_ | refine ExtN.ext ?_) <;> try (conv => whnf)
      all_goals rfl
    | ok w =>
      rw [outI_ok] at hv1
      have cf := twoF_c (σ := σ) hk (tame_of v hr0) (tame_of w hr1) hr0 hr1
      have e : two2 kind (.ok v) (.ok w) = twoR kind v w := rfl
      rw [e]
      generalize twoR kind v w = q at cf ⊢
      generalize twoF kind = f at cf h7
      obtain ⟨vk, vn, vt, vl⟩ := v
      obtain ⟨wk, wn, wt, wl⟩ := w
      cases q with
      | ok q =>
        obtain ⟨qk, qn, qt, ql⟩ := q
        rw [outI_ok] at cf
        refine crun_of (X := X) X_ok X_sat (body := bodyOf Tryz.f100) Tryz.func100 rfl (by kernel_rfl) (by kernel_rfl) ?_
        rw [Tryz.ntmps100]
        conv => whnf
        repeat' (first | (refine CallVN.one hv0 ?_) | (refine CallVN.one hv1 ?_) | (refine CallN.one cf ?_) | refine OrdN.one ?_ | refine GetN.go ?_ | refine Need.go ?_ | refine Need.draw ?_ | refine ElemN.go ?_ | refine ExtN.ext ?_ | refine finGo ?_) <;> try (conv => whnf)
        all_goals rfl
      | err e =>
        rw [outI_err] at cf
        refine crun_of (X := X) X_ok X_sat (body := bodyOf Tryz.f100) Tryz.func100 rfl (by kernel_rfl) (by kernel_rfl) ?_
        rw [Tryz.ntmps100]
        conv => whnf
        repeat' (first | (refine CallVN.one hv0 ?_) | (refine CallVN.one hv1 ?_) | (refine CallN.one cf ?_) | (refine finPGo ?_) | ((refine ⟨⟨by kernel_rfl, by kernel_rfl⟩, ?_⟩)) | refine OrdN.one ?_ | refine GetN.go ?_ | refine Need.go ?_ | refine ElemN.go ?_ | refine ExtN.ext ?_) <;> try (conv => whnf)
        all_goals rfl
def AskOk (e : Exp) (c : CV) (τ : Heap) : Prop := ∀ τ', Sub τ τ' → ∀ g row given, SceneOk g row given → VRun Tryz.prog c [sceneC g row given] τ' (· = outI τ' (evR g row given e))
def AskPost (e : Exp) (σ : Heap) (out : COut) : Prop := ∃ c τ, out = .ret (.opq c) τ ∧ Sub σ τ ∧ AskOk e c τ
def AskPre (e : Exp) (σ : Heap) (out : COut) : Prop := ∃ c τ, out = .ret c τ ∧ c.one = true ∧ Sub σ τ ∧ AskOk e c τ
theorem sub_trans {a b c : Heap} (h : Sub a b) (k : Sub b c) : Sub a c := fun l o e => k l o (h l o e)
theorem AskOk.mono {e : Exp} {c : CV} {τ τ' : Heap} (h : AskOk e c τ) (hs : Sub τ τ') : AskOk e c τ' := fun τ'' h' => h τ'' (sub_trans hs h')
theorem ask_post {e : Exp} {σ : Heap} (h : CRun Tryz.prog 43 [e.cv] σ (AskPre e σ)) : CRun Tryz.prog 43 [e.cv] σ (AskPost e σ) :=
  h.opq fun out ⟨c, τ, e1, h1, h2, h3⟩ => ⟨c, τ, e1, h1, c, τ, rfl, h2, h3⟩
def AskAll (ps : List Exp) (cs : List CV) (τ : Heap) : Prop := ∀ (j : Nat) c e, cs[j]? = some c → ps[j]? = some e → AskOk e c τ
theorem AskAll.mono {ps : List Exp} {cs : List CV} {τ τ' : Heap} (h : AskAll ps cs τ) (hs : Sub τ τ') : AskAll ps cs τ' := fun j c e h1 h2 => (h j c e h1 h2).mono hs
theorem AskAll.snoc {ps : List Exp} {cs : List CV} {τ : Heap} {e : Exp} {c : CV} (h : AskAll ps cs τ) (he : ps[cs.length]? = some e) (hc : AskOk e c τ) : AskAll ps (cs ++ [c]) τ := by
  intro j c' e' h1 h2
  by_cases hj : j < cs.length
  · rw [List.getElem?_append_left hj] at h1; exact h j c' e' h1 h2
  · rw [List.getElem?_append_right (by omega)] at h1
    have : j = cs.length := by
      have := (List.getElem?_eq_some_iff.1 h1).1
      simp at this; omega
    subst this
    simp at h1
    rw [he] at h2; cases h2
    rw [← h1]; exact hc
def arrO (l28 N : Nat) (cs : List CV) (τ : Heap) : Heap := upd τ l28 (.arr 72 1 N (cs.map .opq ++ List.replicate (N - cs.length) (.sc .nilFunc)))
theorem part_c {e : Exp} {τ : Heap} {l28 : Nat} {ob : Ob} (h : CRun Tryz.prog 43 [e.cv] τ (AskPost e τ)) (hl : τ l28 = none) :
    CRun Tryz.prog 43 [e.cv] (upd τ l28 ob) (fun out => ∃ c τ0, τ0 l28 = none ∧ Sub τ τ0 ∧ Sub (upd τ l28 ob) (upd τ0 l28 ob) ∧ AskOk e c τ0 ∧ out = .ret (.opq c) (upd τ0 l28 ob)) := by
  refine (h.frame hl).mono fun out ho => ?_
  cases out with
  | ret v τ2 =>
    obtain ⟨τ0, rfl, h0, c, τ1, e1, h1, h2⟩ := ho
    cases e1
    refine ⟨c, τ0, h0, h1, fun x y hx => ?_, h2, rfl⟩
    by_cases hxl : x = l28
    · subst hxl; rw [upd_same] at hx ⊢; exact hx
    · rw [upd_ne _ _ hxl] at hx ⊢; exact h1 x y hx
  | pan v τ2 =>
    obtain ⟨τ0, rfl, h0, c, τ1, e1, h1, h2⟩ := ho
    cases e1
theorem sub_arr {τ : Heap} {l28 N : Nat} {cs : List CV} (h : τ l28 = none) : Sub τ (arrO l28 N cs τ) := (Sub.refl τ).upd h
theorem ask6 {σ τ : Heap} {e a : Exp} {c : CV} {l28 l3 l6 : Nat} {Z : Ob} {k d : Int} (hk : k = 9 ∨ k = 11 ∨ k = 13) (hev : ∀ g row given, evR g row given e = one1 k (evR g row given a)) (ha : okE d a = true)
    (h28 : τ l28 = none) (h3 : τ l3 = some (.cells [.grow l28 1 1])) (hs : Sub σ τ) (hc : AskOk a c τ) (h6 : arrO l28 1 [c] τ l6 = none) :
    AskPre e σ (.ret (.fn (.func 98) [] [.ptr (.g l6) 0, .ptr (.g l3) 0]) (upd (upd (arrO l28 1 [c] τ) l6 Z) l6 (.cells [.fn (.func (oneF k)) [] []]))) := by
  rw [upd_upd]
  have s1 : Sub (arrO l28 1 [c] τ) (upd (arrO l28 1 [c] τ) l6 (.cells [.fn (.func (oneF k)) [] []])) := (Sub.refl _).upd h6
  have s2 := sub_trans (sub_arr (N := 1) (cs := [c]) h28) s1
  refine ⟨_, _, rfl, rfl, sub_trans hs s2, fun τ' hτ g row given hsc => ⟨_, [], [.ptr (.g l6) 0, .ptr (.g l3) 0], [], [.ptr (.g l6) 0, .ptr (.g l3) 0], rfl, rfl, rfl, ?_⟩⟩
  rw [hev]
  exact asker6_c (hτ l6 _ (upd_same _ _ _)) (hτ l3 _ (s2 l3 _ h3)) (hτ l28 _ (s1 l28 _ (upd_same _ _ _))) (hc τ' (sub_trans s2 hτ) g row given hsc) (ev_ok hsc a ha) hk
theorem ask7 {σ τ : Heap} {e a b : Exp} {c c' : CV} {l28 l3 l7 : Nat} {Z : Ob} {k d : Int} (hk : k = 5 ∨ k = 6 ∨ k = 7 ∨ k = 8 ∨ k = 10 ∨ k = 12) (hev : ∀ g row given, evR g row given e = two2 k (evR g row given a) (evR g row given b)) (ha : okE d a = true) (hb : okE d b = true)
    (h28 : τ l28 = none) (h3 : τ l3 = some (.cells [.grow l28 2 2])) (hs : Sub σ τ) (hc : AskOk a c τ) (hc' : AskOk b c' τ) (h7 : arrO l28 2 [c, c'] τ l7 = none) :
    AskPre e σ (.ret (.fn (.func 100) [] [.ptr (.g l3) 0, .ptr (.g l7) 0]) (upd (upd (arrO l28 2 [c, c'] τ) l7 Z) l7 (.cells [.fn (.func (twoF k)) [] []]))) := by
  rw [upd_upd]
  have s1 : Sub (arrO l28 2 [c, c'] τ) (upd (arrO l28 2 [c, c'] τ) l7 (.cells [.fn (.func (twoF k)) [] []])) := (Sub.refl _).upd h7
  have s2 := sub_trans (sub_arr (N := 2) (cs := [c, c']) h28) s1
  refine ⟨_, _, rfl, rfl, sub_trans hs s2, fun τ' hτ g row given hsc => ⟨_, [], [.ptr (.g l3) 0, .ptr (.g l7) 0], [], [.ptr (.g l3) 0, .ptr (.g l7) 0], rfl, rfl, rfl, ?_⟩⟩
  rw [hev]
  exact asker7_c (hτ l7 _ (upd_same _ _ _)) (hτ l3 _ (s2 l3 _ h3)) (hτ l28 _ (s1 l28 _ (upd_same _ _ _))) (hc τ' (sub_trans s2 hτ) g row given hsc) (hc' τ' (sub_trans s2 hτ) g row given hsc) (ev_ok hsc a ha) (ev_ok hsc b hb) hk
theorem upd_old {τ : Heap} {x l : Nat} {ob ob' : Ob} (h : τ x = some ob) (hl : τ l = none) : upd τ l ob' x = some ob := by
  have : x ≠ l := fun e => by subst e; rw [h] at hl; cases hl
  rw [upd_ne _ _ this]; exact h
theorem upd_old2 {τ : Heap} {x l : Nat} {ob ob' ob'' : Ob} (h : τ x = some ob) (hl : τ l = none) : upd (upd τ l ob') l ob'' x = some ob := by
  rw [upd_upd]; exact upd_old h hl
theorem len_one {α : Type} {l : List α} (h : l.length = 1) : ∃ a, l = [a] := List.length_eq_one_iff.1 h
theorem len_two {α : Type} {l : List α} (h : l.length = 2) : ∃ a b, l = [a, b] := by
  match l, h with
  | [a, b], _ => exact ⟨a, b, rfl⟩
theorem upd_arr {τ τ0 : Heap} {l28 N i : Nat} {cs : List CV} {c : CV} {A : Ob} (hc : cs.length = i) (hi : i < N) :
    upd (upd τ0 l28 A) l28 (.arr 72 1 N ((cs.map CV.opq ++ List.replicate (N - cs.length) (CV.sc .nilFunc)).set (i : Int).toNat (.opq c))) = arrO l28 N (cs ++ [c]) τ0 := by
  rw [upd_upd]
  unfold arrO
  have key := set_step (cs.map CV.opq) (CV.opq c) (CV.sc .nilFunc) (N - (i + 1))
  rw [List.length_map, show N - (i + 1) + 1 = N - cs.length by omega] at key
  rw [Int.toNat_natCast, ← hc, key, List.map_append, List.length_append]
  rw [show N - (cs.length + [c].length) = N - (i + 1) by simp; omega]
  rfl
set_option maxHeartbeats 2000000 in
theorem askerOf_c {e : Exp} (he : ETame e) : ∀ {d : Int}, okE d e = true → ∀ (σ : Heap), CRun Tryz.prog 43 [e.cv] σ (AskPost e σ) := by
  induction he with
  | @mk k v s c ps hv hsz hcz hl' hps ih =>
    intro d hok σ
    obtain ⟨h1, h2⟩ := okE_parts hok
    refine ask_post ?_
    have e3 := ecvs_length ps
    obtain ⟨vk, vn, vt, vl⟩ := v
    have leaf : ∀ (f : Nat) (σ1 : Heap) (l : Nat), σ l = none → σ1 = upd σ l (.cells (expC k vk vn vt vl s c ps)) →
        (∀ τ', τ' l = some (.cells (expC k vk vn vt vl s c ps)) → ∀ g row given, SceneOk g row given → CRun Tryz.prog f [sceneC g row given, .ptr (.g l) 0] τ' (· = outI τ' (evR g row given (.mk k (.mk vk vn vt vl) s c ps)))) →
        AskPre (.mk k (.mk vk vn vt vl) s c ps) σ (.ret (.fn (.func f) [] [.ptr (.g l) 0]) σ1) := by
      intro f σ1 l hl e hc
      subst e
      exact ⟨_, _, rfl, rfl, (Sub.refl σ).upd hl, fun τ' hs g row given hsc => ⟨f, [], [.ptr (.g l) 0], [], [.ptr (.g l) 0], rfl, rfl, rfl, hc τ' (hs l _ (upd_same _ _ _)) g row given hsc⟩⟩
    have ev0 : ps = [] → ¬ (k = 14 ∨ k = 15) → ∀ g row given, evR g row given (.mk k (.mk vk vn vt vl) s c ps) = leafR g row given (.mk k (.mk vk vn vt vl) s c []) := by
      intro e hk g row given
      subst e
      simp only [evR, if_neg hk, evL, joinR]
    by_cases k1 : k = 1
    · have z : ps = [] := List.eq_nil_of_length_eq_zero (by have h := h1.ar; rw [k1] at h; simpa [arityF] using h)
      have lf := leaf 90
      subst k1
      refine crun_of (X := G [1,3,6,7,28]) (G_ok _) (G_sat _) (body := bodyOf Tryz.f43) Tryz.func43 rfl (by kernel_rfl) (by kernel_rfl) ?_
      rw [Tryz.ntmps43]
      conv => whnf
      repeat' (first | refine Fork.yp ?_ | refine GetN.go ?_ | refine AllocN.go (fun l hl => ?_) | refine finGo ?_) <;> try (conv => whnf)
      refine lf _ l hl rfl fun τ' hτ g row given hsc => ?_
      rw [ev0 z (by omega), leafR_mk, if_pos rfl]
      exact asker1_c hτ
    by_cases k2 : k = 2
    · have z : ps = [] := List.eq_nil_of_length_eq_zero (by have h := h1.ar; rw [k2] at h; simpa [arityF] using h)
      have lf := leaf 91
      subst k2
      refine crun_of (X := G [1,3,6,7,28]) (G_ok _) (G_sat _) (body := bodyOf Tryz.f43) Tryz.func43 rfl (by kernel_rfl) (by kernel_rfl) ?_
      rw [Tryz.ntmps43]
      conv => whnf
      repeat' (first | refine Fork.yp ?_ | refine Fork.np ?_ | refine GetN.go ?_ | refine AllocN.go (fun l hl => ?_) | refine finGo ?_) <;> try (conv => whnf)
      refine lf _ l hl rfl fun τ' hτ g row given hsc => ?_
      rw [ev0 z (by omega), leafR_mk, if_neg (by decide), if_neg (by decide)]
      have := asker2_c (g := g) (given := given) hsc.rl hτ
      unfold mustR at this
      cases hlk : lookP row s with
      | none => rw [hlk] at this; exact this
      | some w => rw [hlk] at this; dsimp only; rw [if_neg (by decide)]; exact this
    by_cases k4 : k = 4
    · have z : ps = [] := List.eq_nil_of_length_eq_zero (by have h := h1.ar; rw [k4] at h; simpa [arityF] using h)
      have lf := leaf 93
      subst k4
      refine crun_of (X := G [1,3,6,7,28]) (G_ok _) (G_sat _) (body := bodyOf Tryz.f43) Tryz.func43 rfl (by kernel_rfl) (by kernel_rfl) ?_
      rw [Tryz.ntmps43]
      conv => whnf
      repeat' (first | refine Fork.yp ?_ | refine Fork.np ?_ | refine GetN.go ?_ | refine AllocN.go (fun l hl => ?_) | refine finGo ?_) <;> try (conv => whnf)
      refine lf _ l hl rfl fun τ' hτ g row given hsc => ?_
      rw [ev0 z (by omega), leafR_mk, if_neg (by decide), if_pos rfl]
      have := asker3_c (g := g) (row := row) hsc.vl hτ
      unfold mustR at this
      cases hlk : lookP given s with
      | none => rw [hlk] at this; exact this
      | some w => rw [hlk] at this; dsimp only; rw [if_neg (by decide)]; exact this
    by_cases k3 : k = 3
    · have z : ps = [] := List.eq_nil_of_length_eq_zero (by have h := h1.ar; rw [k3] at h; simpa [arityF] using h)
      have lf := leaf 94
      subst k3
      refine crun_of (X := G [1,3,6,7,28]) (G_ok _) (G_sat _) (body := bodyOf Tryz.f43) Tryz.func43 rfl (by kernel_rfl) (by kernel_rfl) ?_
      rw [Tryz.ntmps43]
      conv => whnf
      repeat' (first | refine Fork.yp ?_ | refine Fork.np ?_ | refine GetN.go ?_ | refine AllocN.go (fun l hl => ?_) | refine finGo ?_) <;> try (conv => whnf)
      refine lf _ l hl rfl fun τ' hτ g row given hsc => ?_
      rw [ev0 z (by omega), leafR_mk, if_neg (by decide), if_neg (by decide)]
      have := asker4_c (given := given) hsc.gt hsc.rl hτ
      cases hlk : lookP row s with
      | none => rw [hlk] at this; exact this
      | some w => rw [hlk] at this; dsimp only; rw [if_pos rfl]; exact this
    by_cases k14 : k = 14 ∨ k = 15
    · have fin : ∀ l, σ l = none → AskPre (.mk k (.mk vk vn vt vl) s c ps) σ (.ret (.fn (.func 96) [] []) (upd σ l (.cells (expC k vk vn vt vl s c ps)))) := by
        intro l hl
        refine ⟨_, _, rfl, rfl, (Sub.refl σ).upd hl, fun τ' hs g row given hsc => ⟨_, [], [], [], [], rfl, rfl, rfl, ?_⟩⟩
        have e : evR g row given (.mk k (.mk vk vn vt vl) s c ps) = .err 1 := by simp only [evR, if_pos k14]
        rw [e]
        exact asker5_c
      clear leaf ev0
      refine crun_of (X := G [1,3,6,7,28]) (G_ok _) (G_sat _) (body := bodyOf Tryz.f43) Tryz.func43 rfl (by kernel_rfl) (by kernel_rfl) ?_
      rw [Tryz.ntmps43]
      rcases k14 with k14 | k14
      all_goals
        conv => whnf
        repeat' (first | refine Fork.yp ?_ | refine Fork.np ?_ | refine GetN.go ?_ | refine AllocN.go (fun l hl => ?_) | refine finGo ?_) <;> try (conv => whnf)
        exact fin l hl
    have q14 : ¬ k = 14 := by omega
    have q15 : ¬ k = 15 := by omega
    clear ev0
    have hkind : ((k = 9 ∨ k = 11 ∨ k = 13) ∧ ps.length = 1) ∨ ((k = 5 ∨ k = 6 ∨ k = 7 ∨ k = 8 ∨ k = 10 ∨ k = 12) ∧ ps.length = 2) := by
      have ar := h1.ar
      unfold arityF at ar
      rw [if_neg (by omega)] at ar
      by_cases c1 : k = 9 ∨ k = 11 ∨ k = 13 ∨ k = 15
      · rw [if_pos c1] at ar; exact .inl ⟨by omega, by omega⟩
      · rw [if_neg c1] at ar
        by_cases c2 : (5 ≤ k ∧ k ≤ 8) ∨ k = 10 ∨ k = 12
        · rw [if_pos c2] at ar; exact .inr ⟨by omega, by omega⟩
        · rw [if_neg c2] at ar; omega
    have hev : ∀ g row given, evR g row given (.mk k (.mk vk vn vt vl) s c ps) = joinR k (leafR g row given (.mk k (.mk vk vn vt vl) s c [])) (evL g row given ps) := by
      intro g row given
      simp only [evR, if_neg k14]
    have o1 := @oneOf_c
    have o2 := @twoOf_c
    clear h1
    refine crun_of (X := G [1,3,6,7,28]) (G_ok _) (G_sat _) (body := bodyOf Tryz.f43) Tryz.func43 rfl (by kernel_rfl) (by kernel_rfl) ?_
    rw [Tryz.ntmps43]
    conv => whnf
    repeat' (first | (refine GetN.go ?_ (h := by first | exact upd_same _ _ _ | exact upd_old (upd_same _ _ _) ‹_› | exact upd_old (upd_old (upd_same _ _ _) ‹_›) ‹_› | exact upd_old2 (upd_old (upd_same _ _ _) ‹_›) ‹_›)) | refine Fork.np ?_ | refine Need.go ?_ | refine AllocN.go (fun l hl => ?_)) <;> try (conv => whnf)
    rename_i l1 hl1 l28 hl28
    refine LoopN.rule (α := Nat × Heap × List CV) (fun a => ⟨54, [(1, .ptr (.g l1) 0), (2, .sc .nilFunc), (3, .ptr (.g l) 0), (30, .vec (Exp.cvs ps)), (31, i64 (Exp.cvs ps).length), (32, i64 a.1)], []⟩)
      (fun a => arrO l28 (Exp.cvs ps).length a.2.2 a.2.1) (fun a => ps.length - a.1)
      (fun a => a.1 ≤ ps.length ∧ a.2.2.length = a.1 ∧ a.2.1 l28 = none ∧ a.2.1 l1 = some (.cells (expC k vk vn vt vl s c ps)) ∧ a.2.1 l = some (.cells [.grow l28 (Exp.cvs ps).length (Exp.cvs ps).length]) ∧ Sub σ a.2.1 ∧ AskAll ps a.2.2 a.2.1) ?_
      (0, upd (upd σ l1 (.cells (expC k vk vn vt vl s c ps))) l (.cells [.grow l28 (Exp.cvs ps).length (Exp.cvs ps).length]), []) ?_ ?_
    rotate_left
    · have ne1 : l28 ≠ l1 := fun e => by subst e; rw [upd_same] at hl28; cases hl28
      have ne2 : l ≠ l28 := fun e => by subst e; rw [upd_same] at hl; cases hl
      have ne3 : l ≠ l1 := fun e => by subst e; rw [upd_ne _ _ ne2, upd_same] at hl; cases hl
      have hl0 : (upd σ l1 (.cells (expC k vk vn vt vl s c ps))) l = none := by rw [upd_ne _ _ ne2] at hl; exact hl
      refine ⟨Nat.zero_le _, rfl, ?_, ?_, upd_same _ _ _, sub_trans ((Sub.refl σ).upd hl1) ((Sub.refl _).upd hl0), fun j c e h => by simp at h⟩
      · show (upd (upd σ l1 _) l _) l28 = none
        rw [upd_ne _ _ (Ne.symm ne2)]; exact hl28
      · show (upd (upd σ l1 _) l _) l1 = _
        rw [upd_ne _ _ (Ne.symm ne3)]; exact upd_same _ _ _
    · have ne2 : l28 ≠ l := fun e => by subst e; rw [upd_same] at hl; cases hl
      refine ⟨rfl, ?_, ?_, ?_⟩
      rotate_left
      rotate_left
      · rw [upd_upd, upd_comm _ _ _ ne2]; exact Sub.refl _
      all_goals repeat' (first | exact EnvLe.nil | exact LocsLe.nil | refine EnvLe.cons _ _ _ ?_ ?_ | exact CVle.same _ rfl)
    · rintro ⟨i, τ, cs⟩ K ⟨i1, i2, i3, i4, i5, i6, i7⟩ hK
      dsimp only at i1 i2 i3 i4 i5 i6 i7 ⊢
      have ne1 : l1 ≠ l28 := fun e => by subst e; rw [i3] at i4; cases i4
      have ne2 : l ≠ l28 := fun e => by subst e; rw [i3] at i5; cases i5
      have g1 : arrO l28 (Exp.cvs ps).length cs τ l1 = some (.cells (expC k vk vn vt vl s c ps)) := by unfold arrO; rw [upd_ne _ _ ne1]; exact i4
      have g2 : arrO l28 (Exp.cvs ps).length cs τ l = some (.cells [.grow l28 (Exp.cvs ps).length (Exp.cvs ps).length]) := by unfold arrO; rw [upd_ne _ _ ne2]; exact i5
      by_cases hi : i < ps.length
      · obtain ⟨⟨ek, ⟨evk, evn, evt, evl⟩, es1, ec, eps⟩, hm, hg', hg⟩ := ecvs_at hi
        have ca : CRun Tryz.prog 43 [Exp.cv (.mk ek (.mk evk evn evt evl) es1 ec eps)] (arrO l28 (Exp.cvs ps).length cs τ) _ := part_c (ih _ hm (h2 _ hm) τ) i3
        have hx : (cs.map CV.opq ++ List.replicate ((Exp.cvs ps).length - cs.length) (CV.sc .nilFunc)).length = (Exp.cvs ps).length := by simp; omega
        clear hl hl28 hl1 hkind hev o1 o2 leaf
        conv => whnf
        repeat' (first | (refine CallN.many ca ?_; rintro _ ⟨c0, τ0, t1, t2, t3, t4, rfl⟩) | refine OrdN.go ?_ | refine Fork.yp ?_ | refine GetN.go ?_ | refine Need.go ?_ | refine Need.draw ?_ | refine ElemN.go ?_ | refine ExtN.ext ?_) <;> try (conv => whnf)
        refine hK (i + 1, τ0, cs ++ [c0]) _ _ ⟨by simp only; omega, by simp [i2], t1, t2 _ _ i4, t2 _ _ i5, sub_trans i6 t2, (i7.mono t2).snoc (by rw [i2]; exact hg') t4⟩ (by simp only; omega) ?_
        refine ⟨rfl, ?_, ?_, ?_⟩
        rotate_left
        rotate_left
        · rw [upd_arr (τ := τ) i2 (by omega)]; exact Sub.refl _
        all_goals repeat' (first | exact EnvLe.nil | exact LocsLe.nil | refine EnvLe.cons _ _ _ ?_ ?_ | exact CVle.same _ rfl)
      · rcases hkind with ⟨hk, hN⟩ | ⟨hk, hN⟩
        · obtain ⟨a, rfl⟩ := len_one hN
          obtain ⟨c0, rfl⟩ := len_one (by omega : cs.length = 1)
          have fin := fun l6 Z => ask6 (σ := σ) (l6 := l6) (Z := Z) hk (fun g row given => by rw [hev]; rfl) (h2 a (by simp)) i3 i5 i6 (i7 0 c0 a rfl rfl)
          conv => whnf
          repeat' (first | (refine CallN.one o1 ?_) | refine Fork.yp ?_ | refine Fork.np ?_ | refine GetN.go ?_ | refine ExtN.ext ?_ | refine AllocN.go (fun l hl => ?_) | refine finGo ?_) <;> try (conv => whnf)
          exact fin _ _ ‹_›
        · obtain ⟨a, b, rfl⟩ := len_two hN
          obtain ⟨c0, c1, rfl⟩ := len_two (by omega : cs.length = 2)
          have fin := fun l7 Z => ask7 (σ := σ) (l7 := l7) (Z := Z) hk (fun g row given => by rw [hev]; rfl) (h2 a (by simp)) (h2 b (by simp)) i3 i5 i6 (i7 0 c0 a rfl rfl) (i7 1 c1 b rfl rfl)
          conv => whnf
          repeat' (first | (refine CallN.one o2 ?_) | refine Fork.np ?_ | refine GetN.go ?_ | refine ExtN.ext ?_ | refine AllocN.go (fun l hl => ?_) | refine finGo ?_) <;> try (conv => whnf)
          exact fin _ _ ‹_›
noncomputable def GO (g : List Nat) (i : Nat) (l : List Nat) : Ctx := { P := Tryz.prog, tt := tt, gl := fun n => g.contains n, ord := fun n => match Nat.beq n i with | true => some l | false => none }
theorem GO_ok (g : List Nat) (i : Nat) (l : List Nat) : (GO g i l).ok := X_ok
theorem GO_sat (g : List Nat) (i : Nat) (l : List Nat) : DrawSat (GO g i l) := drawSat (GO_ok g i l) X_draw
structure GoodP (q : Pr) : Prop where
  name : q.name.size ≤ 7
  val : Tame q.val
def Cs (xs : List CV) : Prop := ∃ ps, xs = prs ps ∧ ∀ q ∈ ps, GoodP q
theorem Cs.nil : Cs [] := ⟨[], rfl, by simp⟩
theorem Cs.snoc {xs : List CV} {s : ByteArray} {k n : Int} {t : ByteArray} {l : List Val} (h : Cs xs) (hs : s.size ≤ 7) (hv : Tame (.mk k n t l)) : Cs (xs ++ [.agg [.sc (.string s), i64 k, i64 n, .sc (.string t), .vec (Val.cvs l)]]) := by
  obtain ⟨ps, rfl, hp⟩ := h
  refine ⟨ps ++ [⟨s, .mk k n t l⟩], by simp [prs, Pr.cv], fun q hq => ?_⟩
  rcases List.mem_append.1 hq with hq | hq
  · exact hp q hq
  · rw [List.mem_singleton.1 hq]; exact ⟨hs, hv⟩
def CellsP (σ : Heap) (l : Nat) (bs : List CV) (p : Int) (N m : Nat) (out : COut) : Prop := ∃ ps p', (∀ q ∈ ps, GoodP q) ∧ ps.length ≤ m ∧ p ≤ p' ∧ p' ≤ p + N ∧ out = .ret (.vec (prs ps)) (rd σ l bs p')
theorem cells_end {σ : Heap} {l : Nat} {bs : List CV} {p p' : Int} {N m : Nat} {xs : List CV} (h : Cs xs) (hl : xs.length ≤ m) (h1 : p ≤ p') (h2 : p' ≤ p + N) : CellsP σ l bs p N m (.ret (.vec xs) (rd σ l bs p')) := by
  obtain ⟨ps, rfl, hp⟩ := h
  exact ⟨ps, p', hp, by rw [← prs_len]; exact hl, h1, h2, rfl⟩
theorem tame0 {k n : Int} (hk : -100 ≤ k ∧ k ≤ 100) (hn : -2000000000 ≤ n ∧ n ≤ 2000000000) : Tame (.mk k n ⟨#[]⟩ []) := .mk hk hn (by decide) (by decide) (by simp)
theorem drawLit_c {l : Nat} {σ : Heap} {bs : List CV} (hb : BytesOk bs) (hl : bs.length ≤ 2000) {p : Int} (hp : 0 ≤ p) (hp' : p < 549755813888) : CRun Tryz.prog 76 [.ptr (.g l) 0] (rd σ l bs p) (VPost σ l bs p 30) := by
  have c1 : cost 1 = 20 := rfl
  refine crun_of (X := X) X_ok X_sat (body := bodyOf Tryz.f76) Tryz.func76 rfl (by kernel_rfl) (by kernel_rfl) ?_
  rw [Tryz.ntmps76]
  conv => whnf
  repeat' (first | (refine CallN.many (pick_n hb hl (by omega) (by omega)) ?_; rintro _ ⟨k, hk1, hk2, rfl⟩) | (refine CallN.many (plain_c hb hl 1 (by omega) (by omega) (by omega) (by omega) (by omega)) ?_; rintro _ ⟨⟨vk, vn, vt, vl⟩, p', hv, hp1, hp2, rfl⟩) | refine Fork.dp (fun h => ?_) (fun h => ?_) | refine ExtN.wr ?_ | refine finGo ?_) <;> try (conv => whnf)
  all_goals first
    | exact ⟨.mk _ _ _ [], _, tame0 (by omega) (by omega), by omega, by omega, rfl⟩
    | exact ⟨.mk vk vn vt vl, p', hv, by omega, by omega, rfl⟩
theorem thing_c {l : Nat} {σ : Heap} {bs : List CV} (hb : BytesOk bs) (hl : bs.length ≤ 2000) {p : Int} (hp : 0 ≤ p) (hp' : p < 274877906944) : CRun Tryz.prog 74 [.ptr (.g l) 0] (rd σ l bs p) (VPost σ l bs p 510) := by
  refine crun_of (X := X) X_ok X_sat (body := bodyOf Tryz.f74) Tryz.func74 rfl (by kernel_rfl) (by kernel_rfl) ?_
  rw [Tryz.ntmps74]
  conv => whnf
  repeat' (first | (refine CallN.many (pick_n hb hl (by omega) (by omega)) ?_; rintro _ ⟨k, hk1, hk2, rfl⟩) | (refine CallN.many (any_c hb hl (by omega) (by omega)) ?_; rintro _ ⟨⟨vk, vn, vt, vl⟩, p', hv, hp1, hp2, rfl⟩) | refine Fork.dp (fun h => ?_) (fun h => ?_) | refine Need.go ?_ | refine ExtN.wr ?_ | refine finGo ?_) <;> try (conv => whnf)
  all_goals first
    | exact ⟨.mk _ _ _ [], _, tame0 (by omega) (by omega), by omega, by omega, rfl⟩
    | exact ⟨.mk vk vn vt vl, p', hv, by omega, by omega, rfl⟩
theorem drawCells_c {l : Nat} {σ : Heap} {bs : List CV} (hb : BytesOk bs) (hl : bs.length ≤ 2000) {p : Int} (hp : 0 ≤ p) (hp' : p < 137438953472) : CRun Tryz.prog 33 [.ptr (.g l) 0] (rd σ l bs p) (CellsP σ l bs p 2000 3) := by
  have c1 : costV 1 = 8 + 20 + 4 * (8 + 4) := rfl
  refine crun_of (X := X) X_ok X_sat (body := bodyOf Tryz.f33) Tryz.func33 rfl (by kernel_rfl) (by kernel_rfl) ?_
  rw [Tryz.ntmps33]
  conv => whnf
  repeat' (first | (refine Need.ap1 ?_ (h1 := by simp only [List.length_replicate, List.length_append, List.length_cons, List.length_nil]; omega)) | (refine CallN.many (pick_n hb hl (by omega) (by omega)) ?_; rintro _ ⟨k, hk1, hk2, rfl⟩) | (refine CallN.many (thing_c hb hl (by omega) (by omega)) ?_; rintro _ ⟨⟨vk, vn, vt, vl⟩, p', hv, hp1, hp2, rfl⟩) | (refine CallN.many (value_c hb hl 1 (by omega) (by omega) (by omega) (by omega) (by omega)) ?_; rintro _ ⟨⟨wk, wn, wt, wl⟩, p2, hw, hp3, hp4, rfl⟩) | refine Fork.nn ?_ | refine Fork.nb ?_ | refine Fork.dp (fun h => ?_) (fun h => ?_) | refine ExtN.wr ?_ | refine finGo ?_) <;> try (conv => whnf)
  all_goals
    refine cells_end (N := 2000) (m := 3) ?_ (by simp only [List.length_replicate, List.length_append, List.length_cons, List.length_nil]; omega) (by omega) (by omega)
    repeat' (first | exact Cs.nil | (show Cs (List.replicate 0 _); exact Cs.nil) | refine Cs.snoc ?_ (by decide) hw | refine Cs.snoc ?_ (by decide) hv | refine Cs.snoc (l := []) ?_ (by decide) (tame0 (by omega) (by omega)))
theorem drawGiven_c {l : Nat} {σ : Heap} {bs : List CV} (hb : BytesOk bs) (hl : bs.length ≤ 2000) {p : Int} (hp : 0 ≤ p) (hp' : p < 137438953472) : CRun Tryz.prog 34 [.ptr (.g l) 0] (rd σ l bs p) (CellsP σ l bs p 2000 3) := by
  refine crun_of (X := X) X_ok X_sat (body := bodyOf Tryz.f34) Tryz.func34 rfl (by kernel_rfl) (by kernel_rfl) ?_
  rw [Tryz.ntmps34]
  conv => whnf
  repeat' (first | (refine Need.ap1 ?_ (h1 := by simp only [List.length_replicate, List.length_append, List.length_cons, List.length_nil]; omega)) | (refine CallN.many (pick_n hb hl (by omega) (by omega)) ?_; rintro _ ⟨k, hk1, hk2, rfl⟩) | (refine CallN.many (drawLit_c hb hl (by omega) (by omega)) ?_; rintro _ ⟨⟨vk, vn, vt, vl⟩, p', hv, hp1, hp2, rfl⟩) | (refine CallN.many (any_c hb hl (by omega) (by omega)) ?_; rintro _ ⟨⟨wk, wn, wt, wl⟩, p2, hw, hp3, hp4, rfl⟩) | (refine CallN.many (of_c (m := 7) hb hl (by omega) (by omega) ?_ (Nat.le_of_ble_eq_true rfl) (Nat.le_of_ble_eq_true rfl)) ?_; (repeat' (first | exact (trivial : True) | refine And.intro ?_ ?_ | refine ⟨_, rfl, ?_⟩ | omega | decide)); rintro _ ⟨t, ht, rfl⟩) | refine Fork.nb ?_ | refine Fork.dp (fun h => ?_) (fun h => ?_) | refine ExtN.wr ?_ | refine finGo ?_) <;> try (conv => whnf)
  all_goals
    refine cells_end (N := 2000) (m := 3) ?_ (by simp only [List.length_replicate, List.length_append, List.length_cons, List.length_nil]; omega) (by omega) (by omega)
    repeat' (first | exact Cs.nil | (show Cs (List.replicate 0 _); exact Cs.nil) | refine Cs.snoc ?_ (by first | decide | exact ht) (by assumption))
section
variable {σ τ : Heap} {l8 l9 : Nat} {Z Y V W : Ob}
theorem ne_of (h : upd σ l8 Z l9 = none) : l9 ≠ l8 := fun e => by subst e; rw [upd_same] at h; cases h
theorem none_of (h : upd σ l8 Z l9 = none) : σ l9 = none := by rw [upd_ne _ _ (ne_of h)] at h; exact h
theorem gA (h : upd σ l8 Z l9 = none) : upd (upd σ l8 Z) l9 Y l8 = some Z := by rw [upd_ne _ _ (Ne.symm (ne_of h))]; exact upd_same _ _ _
theorem gB (h : upd σ l8 Z l9 = none) : upd (upd (upd σ l8 Z) l9 Y) l8 V l9 = some Y := by rw [upd_ne _ _ (ne_of h)]; exact upd_same _ _ _
theorem gC (h : upd σ l8 Z l9 = none) : upd (upd τ l8 V) l9 W l8 = some V := by rw [upd_ne _ _ (Ne.symm (ne_of h))]; exact upd_same _ _ _
theorem gD (h : upd σ l8 Z l9 = none) (hs : Sub (upd (upd σ l8 Z) l9 Y) τ) : τ l8 = some Z := hs _ _ (gA h)
theorem gE (hs : Sub (upd (upd σ l8 Z) l9 Y) τ) : τ l9 = some Y := hs _ _ (upd_same _ _ _)
theorem gF (h : upd σ l8 Z l9 = none) (hs : Sub (upd (upd σ l8 Z) l9 Y) τ) : upd τ l8 V l9 = some Y := by rw [upd_ne _ _ (ne_of h)]; exact gE hs
theorem sA (h8 : σ l8 = none) (h : upd σ l8 Z l9 = none) : Sub σ (upd (upd (upd (upd σ l8 Z) l9 Y) l8 V) l9 W) := ((((Sub.refl σ).upd h8).upd (none_of h)).upd h8).upd (none_of h)
theorem sB (h8 : σ l8 = none) (h : upd σ l8 Z l9 = none) (hs : Sub (upd (upd σ l8 Z) l9 Y) τ) : Sub σ (upd (upd τ l8 V) l9 W) :=
  ((sub_trans (((Sub.refl σ).upd h8).upd (none_of h)) hs).upd h8).upd (none_of h)
end
theorem panFr_look {ops : Array Oper} {fr : Fr} {t : Nat} (h : givesB ops t = false) : CL.look (panFr ops fr).env t = CL.look fr.env t := by
  unfold panFr
  rw [look_filter (fun s => !givesB ops s) t, h]; rfl
set_option maxHeartbeats 1000000 in
theorem implEval_c {σ : Heap} {g : Gr} {row given : List Pr} {e : Exp} (t : SceneTame g row given) (he : ETame e) : CRun Tryz.prog 10 [g.cv, .vec (prs row), .vec (prs given), e.cv] σ (· = outS σ (evalR g row given e)) := by
  have c1 := fun σ => implGraph_c (σ := σ) t.gt
  have c2 := fun σ => cellsOk_c (σ := σ) t.rl t.rt
  have c3 := fun σ => cellsOk_c (σ := σ) t.vl t.vt
  have c4 := fun σ => implExprOk_c (σ := σ) he
  by_cases hA : AllOk g row given e
  case neg =>
    have o : evalR g row given e = .err 8 := by unfold evalR; rw [if_neg hA]
    rw [o]
    obtain ⟨k, ⟨vk, vn, vt, vl⟩, s, c, ps⟩ := e
    have main : ∀ b1 b2 b3 b4, (b1 && (b2 && (b3 && b4))) = false → (∀ σ, CRun Tryz.prog 38 [g.cv] σ (· = .ret (.sc (.bool b1)) σ)) → (∀ σ, CRun Tryz.prog 36 [Exp.cv (.mk k (.mk vk vn vt vl) s c ps)] σ (· = .ret (.sc (.bool b2)) σ)) →
        (∀ σ, CRun Tryz.prog 39 [.vec (prs row)] σ (· = .ret (.sc (.bool b3)) σ)) → (∀ σ, CRun Tryz.prog 39 [.vec (prs given)] σ (· = .ret (.sc (.bool b4)) σ)) →
        CRun Tryz.prog 10 [g.cv, .vec (prs row), .vec (prs given), Exp.cv (.mk k (.mk vk vn vt vl) s c ps)] σ (· = outS σ (.err 8)) := by
      intro b1 b2 b3 b4 hb c1 c2 c3 c4
      refine crun_ofD (X := G [8,9]) (G_ok _) (G_sat _) (body := bodyOf Tryz.f10) Tryz.func10 rfl (by kernel_rfl) (by kernel_rfl) ?_
      rw [Tryz.ntmps10]
      cases b1 <;> cases b2 <;> cases b3 <;> cases b4 <;> try (exact absurd hb (by decide))
      all_goals
        conv => whnf
        repeat' (first | (refine CallN.one (c1 _) ?_) | (refine CallN.one (c2 _) ?_) | (refine CallN.one (c3 _) ?_) | (refine CallN.one (c4 _) ?_) | (refine GetN.go ?_ (h := by first | exact upd_same _ _ _ | exact gA ‹_› | exact gB ‹_› | exact gC ‹_›)) | (refine finS (sA ‹_› ‹_›) ?_) | refine ExtN.ext ?_ | refine AllocN.go (fun l hl => ?_)) <;> try (conv => whnf)
        all_goals rfl
    refine main (graphOk g) (okE 4 (.mk k (.mk vk vn vt vl) s c ps)) (cellsOk row) (cellsOk given) ?_ c1 c4 c2 c3
    cases h1 : graphOk g <;> cases h2 : okE 4 (.mk k (.mk vk vn vt vl) s c ps) <;> cases h3 : cellsOk row <;> cases h4 : cellsOk given <;> first | rfl | exact absurd ⟨h1, h3, h4, h2⟩ hA
  have o : evalR g row given e = evR g row given e := by unfold evalR; rw [if_pos hA]
  rw [o]
  have hsc := hA.scene t
  have ask := fun σ => askerOf_c he hA.eo σ
  have rok := ev_ok hsc e hA.eo
  rw [hA.go] at c1
  rw [hA.ro] at c2
  rw [hA.vo] at c3
  rw [hA.eo] at c4
  have ca : ∀ h0 : Heap, CRun Tryz.prog 43 [e.cv] h0 (fun out => ∃ c τ, Sub h0 τ ∧ VRun Tryz.prog c [sceneC g row given] τ (· = outI τ (evR g row given e)) ∧ out = .ret (.opq c) τ) := fun h0 => (ask h0).mono fun out ⟨c, τ, e1, h1, h2⟩ => ⟨c, τ, h1, h2 τ (Sub.refl _) g row given hsc, e1⟩
  clear ask o
  generalize evR g row given e = r at ca rok ⊢
  obtain ⟨k, ⟨vk, vn, vt, vl⟩, s, c, ps⟩ := e
  obtain ⟨gns, ges, gnn, gne⟩ := g
  refine crun_ofD (X := GO [8,9] 4 [0,2,3,4,5,1,6,7,8,9]) (GO_ok _ _ _) (GO_sat _ _ _) (body := bodyOf Tryz.f10) Tryz.func10 rfl (by kernel_rfl) (by kernel_rfl) ?_
  rw [Tryz.ntmps10]
  cases r with
  | ok v =>
    have cl := cloneV_c v (tame_of v rok) rok
    obtain ⟨rk, rn, rt, rl⟩ := v
    conv => whnf
    repeat' (first | (refine CallN.one (c1 _) ?_) | (refine CallN.one (c2 _) ?_) | (refine CallN.one (c3 _) ?_) | (refine CallN.one (c4 _) ?_) | ((refine CallN.many (ca _) ?_; rintro _ ⟨c, τ, hs, hv, rfl⟩)) | (refine CallVN.one hv ?_) | (refine CallN.one (cl _) ?_) | (refine GetN.go ?_ (h := by first | exact upd_same _ _ _ | exact gA ‹_› | exact gD ‹_› ‹_› | exact gF ‹_› ‹_› | exact gC ‹_›)) | (refine finS (sB ‹_› ‹_› ‹_›) ?_) | ((refine ⟨⟨false, _, put0, ?_⟩⟩; rintro _ rfl)) | refine OrdN.go ?_ | refine Need.draw ?_ | refine ExtN.ext ?_ | refine AllocN.go (fun l hl => ?_)) <;> try (conv => whnf)
    all_goals rfl
  | err c0 =>
    have hc0 : ¬ c0 = 0 := by rcases rok with h | h | h <;> omega
    conv => whnf
    repeat' (first | (refine CallN.one (c1 _) ?_) | (refine CallN.one (c2 _) ?_) | (refine CallN.one (c3 _) ?_) | (refine CallN.one (c4 _) ?_) | ((refine CallN.many (ca _) ?_; rintro _ ⟨c, τ, hs, hv, rfl⟩)) | (refine CallVN.one hv ?_) | (refine GetN.go ?_ (h := by first | exact upd_same _ _ _ | exact gA ‹_› | exact gD ‹_› ‹_› | exact gF ‹_› ‹_› | exact gC ‹_›)) | (refine finS (sB ‹_› ‹_› ‹_›) ?_) | ((refine ⟨⟨by kernel_rfl, by kernel_rfl⟩, ?_⟩)) | ((refine ⟨⟨true, _, put1 (v := []) hc0 (Ne.symm (ne_of ‹_›)) (gD ‹_› ‹_›) (gE ‹_›), ?_⟩⟩; rintro _ rfl)) | (rw [panFr_look (by simp [givesB]; decide)]) | refine OrdN.go ?_ | refine ExtN.ext ?_ | refine AllocN.go (fun l hl => ?_)) <;> try (conv => whnf)
    all_goals rfl
inductive ESm : Exp → Prop
  | mk {k : Int} {v : Val} {s c : ByteArray} {ps : List Exp} (hs : s.size ≤ 7) (h : ∀ e ∈ ps, ESm e) : ESm (.mk k v s c ps)
theorem ESm.inv {k : Int} {v : Val} {s c : ByteArray} {ps : List Exp} (h : ESm (.mk k v s c ps)) : s.size ≤ 7 ∧ ∀ e ∈ ps, ESm e := by
  cases h with
  | mk h1 h2 => exact ⟨h1, h2⟩
def PartsO (σ σ' : Heap) (l0 : Nat) (P : CV) (ps : List Exp) : Prop := (P = .nil ∧ ps = []) ∨ ∃ l1 cap, P = .grow l1 (Exp.cvs ps).length cap ∧ σ l1 = none ∧ l1 ≠ l0 ∧ σ' l1 = some (.arr 33 8 cap (Exp.cvs ps))
def ListO (L : CV) (vl : List Val) : Prop := (L = .nil ∧ vl = []) ∨ L = .vec (Val.cvs vl)
theorem ListO.nil : ListO .nil [] := .inl ⟨rfl, rfl⟩
theorem ListO.vec {vl : List Val} : ListO (.vec (Val.cvs vl)) vl := .inr rfl
structure EGood (k vk vn : Int) (vt : ByteArray) (vl : List Val) (s c : ByteArray) (ps : List Exp) : Prop where
  t : ETame (.mk k (.mk vk vn vt vl) s c ps)
  m : ESm (.mk k (.mk vk vn vt vl) s c ps)
  l : ps.length ≤ 3
def EOpen (σ : Heap) (l0 : Nat) (bs : List CV) (p : Int) (N : Nat) (out : COut) : Prop := ∃ k vk vn vt vl s c ps L P σ' p', EGood k vk vn vt vl s c ps ∧ p ≤ p' ∧ p' ≤ p + N ∧ Sub σ σ' ∧ ListO L vl ∧ PartsO σ σ' l0 P ps ∧
  out = .ret (.agg [i64 k, i64 vk, i64 vn, .sc (.string vt), L, .sc (.string s), .sc (.string c), P]) (rd σ' l0 bs p')
def EDraw (σ : Heap) (l0 : Nat) (bs : List CV) (p : Int) (N : Nat) (out : COut) : Prop := ∃ k vk vn vt vl s c ps p', EGood k vk vn vt vl s c ps ∧ p ≤ p' ∧ p' ≤ p + N ∧ out = .ret (Exp.cv (.mk k (.mk vk vn vt vl) s c ps)) (rd σ l0 bs p')
theorem rd_sub {σ σ' : Heap} {l0 : Nat} {bs : List CV} {p : Int} (h : Sub σ σ') : Sub (rd σ l0 bs p) (rd σ' l0 bs p) := by
  intro x ob hx
  unfold rd at hx ⊢
  by_cases e : x = l0
  · subst e; rw [upd_same] at hx ⊢; exact hx
  · rw [upd_ne _ _ e] at hx ⊢; exact h x ob hx
theorem rd_ne {σ : Heap} {l0 x : Nat} {bs : List CV} {p : Int} (h : x ≠ l0) : rd σ l0 bs p x = σ x := upd_ne _ _ h
theorem ne_rd {σ : Heap} {l0 x : Nat} {bs : List CV} {p : Int} (h : rd σ l0 bs p x = none) : x ≠ l0 := fun e => by subst e; unfold rd at h; rw [upd_same] at h; cases h
theorem no_rd {σ : Heap} {l0 x : Nat} {bs : List CV} {p : Int} (h : rd σ l0 bs p x = none) : σ x = none := by rw [rd_ne (ne_rd h)] at h; exact h
theorem rd_upd {σ : Heap} {l0 x : Nat} {bs : List CV} {p : Int} {A : Ob} (h : rd σ l0 bs p x = none) : upd (rd σ l0 bs p) x A = rd (upd σ x A) l0 bs p := by
  unfold rd; exact upd_comm _ _ _ (Ne.symm (ne_rd h))
theorem rd_upd' {σ : Heap} {l0 x : Nat} {bs : List CV} {p : Int} {A : Ob} (h : x ≠ l0) : upd (rd σ l0 bs p) x A = rd (upd σ x A) l0 bs p := by
  unfold rd; exact upd_comm _ _ _ (Ne.symm h)
theorem to_rd {f : FuncId} {args : List CV} {post : COut → Prop} {σ : Heap} {l0 x : Nat} {bs : List CV} {p : Int} {A : Ob} (hn : rd σ l0 bs p x = none) (h : CRun Tryz.prog f args (rd (upd σ x A) l0 bs p) post) : CRun Tryz.prog f args (upd (rd σ l0 bs p) x A) post := by
  rw [rd_upd hn]; exact h
def PartsF (P : CV) (ps : List Exp) : Prop := (P = .nil ∧ ps = []) ∨ P = .vec (Exp.cvs ps)
theorem eopen_frz {σ σ' : Heap} {l0 : Nat} {bs : List CV} {p' : Int} {k vk vn : Int} {vt s c : ByteArray} {ps : List Exp} {L P : CV} (hs : Sub σ σ') (hP : PartsO σ σ' l0 P ps) :
    ∃ P', PartsF P' ps ∧ FrzOut (.ret (.agg [i64 k, i64 vk, i64 vn, .sc (.string vt), L, .sc (.string s), .sc (.string c), P]) (rd σ' l0 bs p')) (.ret (.agg [i64 k, i64 vk, i64 vn, .sc (.string vt), L, .sc (.string s), .sc (.string c), P']) (rd σ l0 bs p')) := by
  rcases hP with ⟨rfl, rfl⟩ | ⟨l1, cap, rfl, h1, h2, h3⟩
  · exact ⟨.nil, .inl ⟨rfl, rfl⟩, rd_sub hs, [], .inl (.one (.same _)), by simp⟩
  · refine ⟨.vec (Exp.cvs ps), .inr rfl, rd_sub hs, [l1], .inl (.agg ?_), fun x hx => ?_⟩
    · have hg : rd σ' l0 bs p' l1 = some (.arr 33 8 cap (Exp.cvs ps)) := by rw [rd_ne h2]; exact h3
      have := Frz.grow (σ := rd σ' l0 bs p') l1 (Exp.cvs ps).length cap _ _ _ hg (Nat.le_refl _)
      rw [List.take_of_length_le (Nat.le_refl _)] at this
      exact .cons (.same _) (.cons (.same _) (.cons (.same _) (.cons (.same _) (.cons (.same _) (.cons (.same _) (.cons (.same _) (.cons this .nil)))))))
    · rw [List.mem_singleton.1 hx, rd_ne h2]; exact h1
theorem eopen_weak {τ : Heap} {k vk vn : Int} {vt s c : ByteArray} {vl : List Val} {ps : List Exp} {L P : CV} (hL : ListO L vl) (hP : PartsF P ps) :
    OutW (.ret (.agg [i64 k, i64 vk, i64 vn, .sc (.string vt), L, .sc (.string s), .sc (.string c), P]) τ) (.ret (Exp.cv (.mk k (.mk vk vn vt vl) s c ps)) τ) := by
  have w1 : NilW L (.vec (Val.cvs vl)) := by
    rcases hL with ⟨rfl, rfl⟩ | rfl
    · exact .inr ⟨rfl, rfl⟩
    · exact .inl rfl
  have w2 : NilW P (.vec (Exp.cvs ps)) := by
    rcases hP with ⟨rfl, rfl⟩ | rfl
    · exact .inr ⟨rfl, rfl⟩
    · exact .inl rfl
  exact ⟨rfl, NilWs.agg (.cons (.inl rfl) (.cons (.inl rfl) (.cons (.inl rfl) (.cons (.inl rfl) (.cons w1 (.cons (.inl rfl) (.cons (.inl rfl) (.cons w2 .nil))))))))⟩
theorem eopen_split {f : FuncId} {args : List CV} {σ0 : Heap} {σ : Heap} {l0 : Nat} {bs : List CV} {p : Int} {N : Nat} (C : Int → Prop) (h : CRun Tryz.prog f args σ0 (EOpen σ l0 bs p N)) :
    CRun Tryz.prog f args σ0 (fun out => (∃ k vk vn vt vl s c ps L P σ' p', C p' ∧ EGood k vk vn vt vl s c ps ∧ p ≤ p' ∧ p' ≤ p + N ∧ Sub σ σ' ∧ ListO L vl ∧ PartsO σ σ' l0 P ps ∧
      out = .ret (.agg [i64 k, i64 vk, i64 vn, .sc (.string vt), L, .sc (.string s), .sc (.string c), P]) (rd σ' l0 bs p')) ∨
      ∃ k vk vn vt vl s c ps p', ¬ C p' ∧ EGood k vk vn vt vl s c ps ∧ p ≤ p' ∧ p' ≤ p + N ∧ out = .ret (Exp.cv (.mk k (.mk vk vn vt vl) s c ps)) (rd σ l0 bs p')) := by
  classical
  have h1 : CRun Tryz.prog f args σ0 (fun out => (∃ k vk vn vt vl s c ps L P σ' p', C p' ∧ EGood k vk vn vt vl s c ps ∧ p ≤ p' ∧ p' ≤ p + N ∧ Sub σ σ' ∧ ListO L vl ∧ PartsO σ σ' l0 P ps ∧
      out = .ret (.agg [i64 k, i64 vk, i64 vn, .sc (.string vt), L, .sc (.string s), .sc (.string c), P]) (rd σ' l0 bs p')) ∨
      ∃ k vk vn vt vl s c ps L P p', ¬ C p' ∧ EGood k vk vn vt vl s c ps ∧ p ≤ p' ∧ p' ≤ p + N ∧ ListO L vl ∧ PartsF P ps ∧ out = .ret (.agg [i64 k, i64 vk, i64 vn, .sc (.string vt), L, .sc (.string s), .sc (.string c), P]) (rd σ l0 bs p')) := by
    refine h.freeze fun out ⟨k, vk, vn, vt, vl, s, c, ps, L, P, σ', p', g, q1, q2, hs, hL, hP, e⟩ => ?_
    subst e
    by_cases hC : C p'
    · exact ⟨_, FrzOut.refl _, .inl ⟨k, vk, vn, vt, vl, s, c, ps, L, P, σ', p', hC, g, q1, q2, hs, hL, hP, rfl⟩⟩
    · obtain ⟨P', hP', hf⟩ := eopen_frz (bs := bs) (p' := p') (k := k) (vk := vk) (vn := vn) (vt := vt) (s := s) (c := c) (L := L) hs hP
      exact ⟨_, hf, .inr ⟨k, vk, vn, vt, vl, s, c, ps, L, P', p', hC, g, q1, q2, hL, hP', rfl⟩⟩
  refine h1.weak fun out hout => ?_
  rcases hout with hout | ⟨k, vk, vn, vt, vl, s, c, ps, L, P, p', hC, g, q1, q2, hL, hP, e⟩
  · exact ⟨out, OutW.refl _, .inl hout⟩
  · subst e
    exact ⟨_, eopen_weak hL hP, .inr ⟨k, vk, vn, vt, vl, s, c, ps, p', hC, g, q1, q2, rfl⟩⟩
theorem eopen_draw {f : FuncId} {args : List CV} {σ0 : Heap} {σ : Heap} {l0 : Nat} {bs : List CV} {p : Int} {N : Nat} (h : CRun Tryz.prog f args σ0 (EOpen σ l0 bs p N)) : CRun Tryz.prog f args σ0 (EDraw σ l0 bs p N) :=
  (eopen_split (fun _ => False) h).mono fun out ho => by
    rcases ho with ⟨k, vk, vn, vt, vl, s, c, ps, L, P, σ', p', hC, _⟩ | ⟨k, vk, vn, vt, vl, s, c, ps, p', _, g, q1, q2, e⟩
    · exact hC.elim
    · exact ⟨k, vk, vn, vt, vl, s, c, ps, p', g, q1, q2, e⟩
def costE : Nat → Nat
  | 0 => 50
  | d + 1 => 60 + 2 * costE d
theorem egood0 {k vk vn : Int} {vt : ByteArray} {vl : List Val} {s c : ByteArray} (hv : Tame (.mk vk vn vt vl)) (hs : s.size ≤ 7) (hc : c.size ≤ 7) : EGood k vk vn vt vl s c [] :=
  ⟨.mk hv (by omega) (by omega) (by simp) (by simp), .mk hs (by simp), by simp⟩
theorem egoodN {k : Int} {ps : List Exp} (hl : ps.length ≤ 3) (h1 : ∀ e ∈ ps, ETame e) (h2 : ∀ e ∈ ps, ESm e) : EGood k 0 0 ⟨#[]⟩ [] ⟨#[]⟩ ⟨#[]⟩ ps :=
  ⟨.mk (tame0 (by omega) (by omega)) (by decide) (by decide) (by omega) h1, .mk (by decide) h2, hl⟩
theorem eopen_leaf {σ : Heap} {l0 : Nat} {bs : List CV} {p p' : Int} {N : Nat} {k vk vn : Int} {vt : ByteArray} {vl : List Val} {s c : ByteArray} {L : CV} (hv : Tame (.mk vk vn vt vl)) (hs : s.size ≤ 7) (hc : c.size ≤ 7) (h1 : p ≤ p') (h2 : p' ≤ p + N) (hL : ListO L vl) :
    EOpen σ l0 bs p N (.ret (.agg [i64 k, i64 vk, i64 vn, .sc (.string vt), L, .sc (.string s), .sc (.string c), .nil]) (rd σ l0 bs p')) :=
  ⟨k, vk, vn, vt, vl, s, c, [], L, .nil, σ, p', egood0 hv hs hc, h1, h2, Sub.refl _, hL, .inl ⟨rfl, rfl⟩, rfl⟩
def NamesD (xs : List CV) : Prop := Each (fun x => ∃ t : ByteArray, x = .sc (.string t) ∧ t.size ≤ 7) xs ∧ xs.length ≤ 1000
theorem eopen1 {σ : Heap} {l0 l1 : Nat} {bs : List CV} {p p' : Int} {N : Nat} {k : Int} {e1 : Exp} (h1 : rd σ l0 bs p' l1 = none) (t1 : ETame e1) (m1 : ESm e1) (q1 : p ≤ p') (q2 : p' ≤ p + N) :
    EOpen σ l0 bs p N (.ret (.agg [i64 k, i64 0, i64 0, .sc (.string ⟨#[]⟩), .nil, .sc (.string ⟨#[]⟩), .sc (.string ⟨#[]⟩), .grow l1 1 1]) (upd (rd σ l0 bs p') l1 (.arr 33 8 1 [e1.cv]))) := by
  rw [rd_upd h1]
  exact ⟨k, 0, 0, ⟨#[]⟩, [], ⟨#[]⟩, ⟨#[]⟩, [e1], .nil, _, _, p', egoodN (by simp) (by simpa using t1) (by simpa using m1), q1, q2, (Sub.refl σ).upd (no_rd h1), .nil, .inr ⟨l1, 1, rfl, no_rd h1, ne_rd h1, upd_same _ _ _⟩, rfl⟩
theorem none_upd {σ : Heap} {l8 l9 : Nat} {Z : Ob} (h : upd σ l8 Z l9 = none) : σ l9 = none := by
  have ne : l9 ≠ l8 := fun e => by subst e; rw [upd_same] at h; cases h
  rw [upd_ne _ _ ne] at h; exact h
theorem eopen2 {σ : Heap} {l0 l1 l2 : Nat} {bs : List CV} {p p' : Int} {N cap : Nat} {k : Int} {e1 e2 : Exp} {A : Ob} (h1 : σ l1 = none) (h2 : rd (upd σ l1 A) l0 bs p' l2 = none) (t1 : ETame e1) (m1 : ESm e1) (t2 : ETame e2) (m2 : ESm e2) (q1 : p ≤ p') (q2 : p' ≤ p + N) :
    EOpen σ l0 bs p N (.ret (.agg [i64 k, i64 0, i64 0, .sc (.string ⟨#[]⟩), .nil, .sc (.string ⟨#[]⟩), .sc (.string ⟨#[]⟩), .grow l2 2 cap]) (upd (rd (upd σ l1 A) l0 bs p') l2 (.arr 33 8 cap [e1.cv, e2.cv]))) := by
  rw [rd_upd h2]
  exact ⟨k, 0, 0, ⟨#[]⟩, [], ⟨#[]⟩, ⟨#[]⟩, [e1, e2], .nil, _, _, p', egoodN (by simp) (by simpa using ⟨t1, t2⟩) (by simpa using ⟨m1, m2⟩), q1, q2, ((Sub.refl σ).upd h1).upd (none_upd (no_rd h2)), .nil, .inr ⟨l2, cap, rfl, none_upd (no_rd h2), ne_rd h2, upd_same _ _ _⟩, rfl⟩
theorem get_rd {σ : Heap} {l0 l1 : Nat} {bs : List CV} {p q : Int} {A : Ob} (h1 : rd σ l0 bs p l1 = none) : rd (upd σ l1 A) l0 bs q l1 = some A := by rw [rd_ne (ne_rd h1)]; exact upd_same _ _ _
set_option maxHeartbeats 2000000 in
theorem expr_c {l : Nat} {bs xs : List CV} (hb : BytesOk bs) (hl : bs.length ≤ 2000) (hN : NamesD xs) : ∀ (d : Nat) {deep p : Int}, deep ≤ d + 1 → -10 ≤ deep → deep ≤ 1000 → 0 ≤ p → p + costE d < 137438953472 → ∀ (σ : Heap),
    CRun Tryz.prog 79 [.ptr (.g l) 0, .vec xs, i64 deep] (rd σ l bs p) (EOpen σ l bs p (costE d)) := by
  obtain ⟨hx, hlx⟩ := hN
  intro d
  induction d with
  | zero =>
    intro deep p hd hd' hd'' hp hp' σ
    simp only [costE] at hp' ⊢
    refine crun_of (X := G [61,74]) (G_ok _) (G_sat _) (body := bodyOf Tryz.f79) Tryz.func79 rfl (by kernel_rfl) (by kernel_rfl) ?_
    rw [Tryz.ntmps79]
    conv => whnf
    repeat' (first | (refine CallN.many (pick_n hb hl (by omega) (by omega)) ?_; rintro _ ⟨k, hk1, hk2, rfl⟩) | (refine CallN.many (drawLit_c hb hl (by omega) (by omega)) ?_; rintro _ ⟨⟨vk, vn, vt, vl⟩, p', hv, hp1, hp2, rfl⟩) | (refine CallN.many (of_c (m := 7) hb hl (by omega) (by omega) hx (by omega) hlx) ?_; rintro _ ⟨t, ht, rfl⟩) | (refine CallN.many (of_c (m := 7) hb hl (by omega) (by omega) ?_ (Nat.le_of_ble_eq_true rfl) (Nat.le_of_ble_eq_true rfl)) ?_; (repeat' (first | exact (trivial : True) | refine And.intro ?_ ?_ | refine ⟨_, rfl, ?_⟩ | omega | decide)); rintro _ ⟨t2, ht2, rfl⟩) | (refine fin0 ?_) | refine Fork.yp ?_ | refine Fork.dp (fun h => ?_) (fun h => ?_) | refine ExtN.wr ?_) <;> try (conv => whnf)
    all_goals first
      | exact eopen_leaf hv (by decide) (by decide) (by omega) (by omega) .vec
      | exact eopen_leaf (tame0 (by omega) (by omega)) ht ht2 (by omega) (by omega) .nil
      | exact eopen_leaf (tame0 (by omega) (by omega)) ht (by decide) (by omega) (by omega) .nil
      | exact eopen_leaf (tame0 (by omega) (by omega)) ht2 (by decide) (by omega) (by omega) .nil
  | succ d ih =>
    intro deep p hd hd' hd'' hp hp' σ
    simp only [costE] at hp' ⊢
    have ih1 : ∀ {deep p : Int}, deep ≤ d + 1 → -10 ≤ deep → deep ≤ 1000 → 0 ≤ p → p + costE d < 137438953472 → ∀ (σ : Heap), CRun Tryz.prog 79 [.ptr (.g l) 0, .vec xs, i64 deep] (rd σ l bs p) (EDraw σ l bs p (costE d)) := fun h1 h2 h3 h4 h5 σ => eopen_draw (ih h1 h2 h3 h4 h5 σ)
    have ca := fun σ k => @arity_c σ k
    refine crun_of (X := G [61,74]) (G_ok _) (G_sat _) (body := bodyOf Tryz.f79) Tryz.func79 rfl (by kernel_rfl) (by kernel_rfl) ?_
    rw [Tryz.ntmps79]
    conv => whnf
    repeat' (first | (refine CallN.many (pick_n hb hl (by omega) (by omega)) ?_; rintro _ ⟨k, hk1, hk2, rfl⟩) | (refine CallN.many (drawLit_c hb hl (by omega) (by omega)) ?_; rintro _ ⟨⟨vk, vn, vt, vl⟩, p', hv, hp1, hp2, rfl⟩) | (refine CallN.many (of_c (m := 7) hb hl (by omega) (by omega) hx (by omega) hlx) ?_; rintro _ ⟨t, ht, rfl⟩) | (refine CallN.many (of_c (m := 7) hb hl (by omega) (by omega) ?_ (Nat.le_of_ble_eq_true rfl) (Nat.le_of_ble_eq_true rfl)) ?_; (repeat' (first | exact (trivial : True) | refine And.intro ?_ ?_ | refine ⟨_, rfl, ?_⟩ | omega | decide)); rintro _ ⟨t2, ht2, rfl⟩) | (refine CallN.many (one_c (lo := 5) (hi := 13) hb hl (by omega) (by omega) ?_ (Nat.le_of_ble_eq_true rfl) (Nat.le_of_ble_eq_true rfl)) ?_; (repeat' (first | exact (trivial : True) | refine And.intro ?_ ?_ | refine ⟨_, rfl, ?_⟩ | omega | decide)); rintro _ ⟨kk, hkk1, hkk2, rfl⟩) | ((refine CallN.many (ih1 (by omega) (by omega) (by omega) (by omega) (by omega) _) ?_; rintro _ ⟨ek, evk, evn, evt, evl, es, ec, eps, p1, g1, hq1, hq2, rfl⟩)) | ((refine CallN.many (to_rd ‹_› (ih1 (by omega) (by omega) (by omega) (by omega) (by omega) _)) ?_; rintro _ ⟨fk, fvk, fvn, fvt, fvl, fs, fc, fps, p2, g2, hq3, hq4, rfl⟩)) | (refine CallN.one (ca _ _) ?_) | (refine AllocN.go (fun l1 hl1 => ?_)) | (refine AllocC.go (fun l2 cap hl2 hcap => ?_)) | (refine GetN.go ?_ (h := get_rd ‹_›)) | (refine Need.go ?_ (h := ⟨rfl, Nat.le_of_ble_eq_true rfl, Nat.le_of_ble_eq_true rfl, Nat.le_of_ble_eq_true rfl, ElsOk.one rfl rfl⟩)) | (refine fin0 ?_) | refine OrdN.go ?_ | refine Fork.nb ?_ | refine Fork.dp (fun h => ?_) (fun h => ?_) | refine Need.go ?_ | refine Need.draw ?_ | refine ExtN.ext ?_ | refine ExtN.wr ?_) <;> try (conv => whnf)
    all_goals first
      | exact eopen_leaf hv (by decide) (by decide) (by omega) (by omega) .vec
      | exact eopen_leaf (tame0 (by omega) (by omega)) ht ht2 (by omega) (by omega) .nil
      | exact eopen_leaf (tame0 (by omega) (by omega)) ht (by decide) (by omega) (by omega) .nil
      | exact eopen_leaf (tame0 (by omega) (by omega)) ht2 (by decide) (by omega) (by omega) .nil
      | exact eopen2 (no_rd hl1) hl2 g1.t g1.m g2.t g2.m (by omega) (by omega)
      | exact eopen1 hl1 g1.t g1.m (by omega) (by omega)
def EFin (σ : Heap) (l0 : Nat) (bs : List CV) (p : Int) (N : Nat) (out : COut) : Prop := ∃ e p', ETame e ∧ ESm e ∧ p ≤ p' ∧ p' ≤ p + N ∧ out = .ret (Exp.cv e) (rd σ l0 bs p')
def PartsT (ρ τ : Heap) (P : CV) (ps : List Exp) : Prop := PartsF P ps ∨ ∃ l1 cap xs, P = .grow l1 (Exp.cvs ps).length cap ∧ ρ l1 = none ∧ τ l1 = some (.arr 33 8 cap xs) ∧ xs.take (Exp.cvs ps).length = Exp.cvs ps ∧ (Exp.cvs ps).length ≤ xs.length
def EOut (σ : Heap) (l0 : Nat) (bs : List CV) (p : Int) (N : Nat) (out : COut) : Prop := ∃ k vk vn vt vl s c ps L P τ p', ETame (.mk k (.mk vk vn vt vl) s c ps) ∧ ESm (.mk k (.mk vk vn vt vl) s c ps) ∧ p ≤ p' ∧ p' ≤ p + N ∧ Sub (rd σ l0 bs p') τ ∧ ListO L vl ∧ PartsT (rd σ l0 bs p') τ P ps ∧
  out = .ret (.agg [i64 k, i64 vk, i64 vn, .sc (.string vt), L, .sc (.string s), .sc (.string c), P]) τ
theorem eout_fin {f : FuncId} {args : List CV} {σ0 : Heap} {σ : Heap} {l0 : Nat} {bs : List CV} {p : Int} {N : Nat} (h : CRun Tryz.prog f args σ0 (EOut σ l0 bs p N)) : CRun Tryz.prog f args σ0 (EFin σ l0 bs p N) := by
  have h1 : CRun Tryz.prog f args σ0 (fun out => ∃ k vk vn vt vl s c ps L P p', ETame (.mk k (.mk vk vn vt vl) s c ps) ∧ ESm (.mk k (.mk vk vn vt vl) s c ps) ∧ p ≤ p' ∧ p' ≤ p + N ∧ ListO L vl ∧ PartsF P ps ∧
      out = .ret (.agg [i64 k, i64 vk, i64 vn, .sc (.string vt), L, .sc (.string s), .sc (.string c), P]) (rd σ l0 bs p')) := by
    refine h.freeze fun out ⟨k, vk, vn, vt, vl, s, c, ps, L, P, τ, p', g1, g2, q1, q2, hs, hL, hP, e⟩ => ?_
    subst e
    rcases hP with hP | ⟨l1, cap, xs, rfl, n1, n2, n3, n4⟩
    · exact ⟨.ret (.agg [i64 k, i64 vk, i64 vn, .sc (.string vt), L, .sc (.string s), .sc (.string c), P]) (rd σ l0 bs p'), ⟨hs, [], .inl (.one (.same _)), by simp⟩, k, vk, vn, vt, vl, s, c, ps, L, P, p', g1, g2, q1, q2, hL, hP, rfl⟩
    · refine ⟨.ret (.agg [i64 k, i64 vk, i64 vn, .sc (.string vt), L, .sc (.string s), .sc (.string c), .vec (Exp.cvs ps)]) (rd σ l0 bs p'), ⟨hs, [l1], .inl (.agg ?_), fun x hx => ?_⟩, k, vk, vn, vt, vl, s, c, ps, L, _, p', g1, g2, q1, q2, hL, .inr rfl, rfl⟩
      · have := Frz.grow (σ := τ) l1 (Exp.cvs ps).length cap _ _ _ n2 n4
        rw [n3] at this
        exact .cons (.same _) (.cons (.same _) (.cons (.same _) (.cons (.same _) (.cons (.same _) (.cons (.same _) (.cons (.same _) (.cons this .nil)))))))
      · rw [List.mem_singleton.1 hx]; exact n1
  refine h1.weak fun out ⟨k, vk, vn, vt, vl, s, c, ps, L, P, p', g1, g2, q1, q2, hL, hP, e⟩ => ?_
  subst e
  exact ⟨_, eopen_weak hL hP, _, p', g1, g2, q1, q2, rfl⟩
def eCells : Exp → List CV
  | .mk k (.mk vk vn vt vl) s c ps => [i64 k, i64 vk, i64 vn, .sc (.string vt), .vec (Val.cvs vl), .sc (.string s), .sc (.string c), .vec (Exp.cvs ps)]
theorem get_rd2 {σ : Heap} {l0 l1 : Nat} {bs : List CV} {q : Int} {A : Ob} (h : σ l1 = some A) (h1 : l1 ≠ l0) : rd σ l0 bs q l1 = some A := by rw [rd_ne h1]; exact h
theorem esm_set {k k' : Int} {v v' : Val} {s s' c c' : ByteArray} {ps : List Exp} (h : ESm (.mk k v s c ps)) (hs : s'.size ≤ 7) : ESm (.mk k' v' s' c' ps) := .mk hs h.inv.2
theorem etame_set {k k' : Int} {v : Val} {s s' c : ByteArray} {ps : List Exp} (h : ETame (.mk k v s c ps)) (hs : s'.size ≤ 1000) : ETame (.mk k' v s' c ps) := by
  obtain ⟨h1, h2, h3, h4, h5⟩ := h.inv
  exact .mk h1 hs h3 h4 h5
theorem eout_f {σ : Heap} {l0 : Nat} {bs : List CV} {p p' : Int} {N : Nat} {k vk vn : Int} {vt : ByteArray} {vl : List Val} {s c : ByteArray} {ps : List Exp} {L P : CV} (g1 : ETame (.mk k (.mk vk vn vt vl) s c ps)) (g2 : ESm (.mk k (.mk vk vn vt vl) s c ps)) (q1 : p ≤ p') (q2 : p' ≤ p + N) (hL : ListO L vl) (hP : PartsF P ps) :
    EOut σ l0 bs p N (.ret (.agg [i64 k, i64 vk, i64 vn, .sc (.string vt), L, .sc (.string s), .sc (.string c), P]) (rd σ l0 bs p')) :=
  ⟨k, vk, vn, vt, vl, s, c, ps, L, P, _, p', g1, g2, q1, q2, Sub.refl _, hL, .inl hP, rfl⟩
def xE : Exp := .mk 2 (.mk 0 0 ⟨#[]⟩ []) ⟨#[120]⟩ ⟨#[]⟩ []
theorem xE_t : ETame xE := .mk (tame0 (by omega) (by omega)) (by decide) (by decide) (by simp) (by simp)
theorem xE_m : ESm xE := .mk (by decide) (by simp)
theorem esnoc {k vk vn : Int} {vt : ByteArray} {vl : List Val} {s c : ByteArray} {ps : List Exp} (g : EGood k vk vn vt vl s c ps) : ETame (.mk k (.mk vk vn vt vl) s c (ps ++ [xE])) ∧ ESm (.mk k (.mk vk vn vt vl) s c (ps ++ [xE])) := by
  obtain ⟨h1, h2, h3, h4, h5⟩ := g.t.inv
  obtain ⟨m1, m2⟩ := g.m.inv
  have hl := g.l
  refine ⟨.mk h1 h2 h3 (by simp; omega) fun e he => ?_, .mk m1 fun e he => ?_⟩
  · rcases List.mem_append.1 he with he | he
    · exact h5 e he
    · rw [List.mem_singleton.1 he]; exact xE_t
  · rcases List.mem_append.1 he with he | he
    · exact m2 e he
    · rw [List.mem_singleton.1 he]; exact xE_m
theorem xE_cvs {ps : List Exp} : Exp.cvs (ps ++ [xE]) = Exp.cvs ps ++ [xE.cv] := by simp [ecvs_map]
theorem eout_nil {σ σ' : Heap} {l0 : Nat} {bs : List CV} {p p' : Int} {N : Nat} {k vk vn : Int} {vt : ByteArray} {vl : List Val} {s c : ByteArray} {L : CV} (g : EGood k vk vn vt vl s c []) (q1 : p ≤ p') (q2 : p' + 1 ≤ p + N) (hs : Sub σ σ') (hL : ListO L vl) :
    EOut σ l0 bs p N (.ret (.agg [i64 k, i64 vk, i64 vn, .sc (.string vt), L, .sc (.string s), .sc (.string c), .vec [xE.cv]]) (rd σ' l0 bs (p' + 1))) :=
  ⟨k, vk, vn, vt, vl, s, c, [xE], L, _, _, p' + 1, (esnoc g).1, (esnoc g).2, by omega, q2, rd_sub hs, hL, .inl (.inr rfl), rfl⟩
theorem sub_upd {ρ τ : Heap} {x : Nat} {B : Ob} (h : Sub ρ τ) (hx : ρ x = none) : Sub ρ (upd τ x B) := h.upd hx
theorem eout_in {σ σ' : Heap} {l0 l1 cap : Nat} {bs : List CV} {p p' : Int} {N : Nat} {k vk vn : Int} {vt : ByteArray} {vl : List Val} {s c : ByteArray} {ps : List Exp} {L : CV} (g : EGood k vk vn vt vl s c ps) (q1 : p ≤ p') (q2 : p' + 1 ≤ p + N) (hs : Sub σ σ') (hL : ListO L vl) (n1 : σ l1 = none) (n2 : l1 ≠ l0) :
    EOut σ l0 bs p N (.ret (.agg [i64 k, i64 vk, i64 vn, .sc (.string vt), L, .sc (.string s), .sc (.string c), .grow l1 ((Exp.cvs ps).length + 1) cap]) (upd (rd σ' l0 bs (p' + 1)) l1 (.arr 33 8 cap ((Exp.cvs ps).take (Exp.cvs ps).length ++ [xE.cv] ++ (Exp.cvs ps).drop ((Exp.cvs ps).length + 1))))) := by
  have hn : rd σ l0 bs (p' + 1) l1 = none := by rw [rd_ne n2]; exact n1
  have hlen : (Exp.cvs (ps ++ [xE])).length = (Exp.cvs ps).length + 1 := by rw [xE_cvs]; simp
  refine ⟨k, vk, vn, vt, vl, s, c, ps ++ [xE], L, _, _, p' + 1, (esnoc g).1, (esnoc g).2, by omega, q2, (rd_sub hs).upd hn, hL, .inr ⟨l1, cap, _, ?_, hn, upd_same _ _ _, ?_, ?_⟩, rfl⟩
  · rw [hlen]
  · rw [hlen, xE_cvs, List.take_of_length_le (Nat.le_refl _), List.drop_eq_nil_of_le (by omega), List.append_nil, List.take_of_length_le (by simp)]
  · rw [hlen, List.take_of_length_le (Nat.le_refl _), List.drop_eq_nil_of_le (by omega)]; simp
theorem eout_new {σ σ' : Heap} {l0 l2 cap : Nat} {bs : List CV} {p p' : Int} {N : Nat} {k vk vn : Int} {vt : ByteArray} {vl : List Val} {s c : ByteArray} {ps : List Exp} {L : CV} (g : EGood k vk vn vt vl s c ps) (q1 : p ≤ p') (q2 : p' + 1 ≤ p + N) (hs : Sub σ σ') (hL : ListO L vl) (h2 : rd σ' l0 bs (p' + 1) l2 = none) :
    EOut σ l0 bs p N (.ret (.agg [i64 k, i64 vk, i64 vn, .sc (.string vt), L, .sc (.string s), .sc (.string c), .grow l2 ((Exp.cvs ps).length + 1) cap]) (upd (rd σ' l0 bs (p' + 1)) l2 (.arr 33 8 cap ((Exp.cvs ps).take (Exp.cvs ps).length ++ [xE.cv])))) := by
  have hn : rd σ l0 bs (p' + 1) l2 = none := by
    rw [rd_ne (ne_rd h2)]
    cases e : σ l2 with
    | none => rfl
    | some ob => have := no_rd h2; rw [hs _ _ e] at this; cases this
  have hlen : (Exp.cvs (ps ++ [xE])).length = (Exp.cvs ps).length + 1 := by rw [xE_cvs]; simp
  refine ⟨k, vk, vn, vt, vl, s, c, ps ++ [xE], L, _, _, p' + 1, (esnoc g).1, (esnoc g).2, by omega, q2, (rd_sub hs).upd hn, hL, .inr ⟨l2, cap, _, ?_, hn, upd_same _ _ _, ?_, ?_⟩, rfl⟩
  · rw [hlen]
  · rw [hlen, xE_cvs, List.take_of_length_le (Nat.le_refl _), List.take_of_length_le (by simp)]
  · rw [hlen, List.take_of_length_le (Nat.le_refl _)]; simp
def wrapE (k : Int) (e : Exp) : Exp := .mk k (.mk 0 0 ⟨#[]⟩ []) ⟨#[]⟩ ⟨#[]⟩ [e]
theorem wrap_t {k : Int} {e : Exp} (h : ETame e) (m : ESm e) : ETame (wrapE k e) ∧ ESm (wrapE k e) :=
  ⟨.mk (tame0 (by omega) (by omega)) (by decide) (by decide) (by simp) (by simpa using h), .mk (by decide) (by simpa using m)⟩
set_option maxHeartbeats 2000000 in
theorem drawExpr_c {l : Nat} {σ : Heap} {bs : List CV} (hb : BytesOk bs) (hl : bs.length ≤ 2000) {p : Int} (hp : 0 ≤ p) (hp' : p < 68719476736) : CRun Tryz.prog 35 [.ptr (.g l) 0] (rd σ l bs p) (EFin σ l bs p 1000) := by
  refine eout_fin ?_
  have hN : NamesD [.sc (.string ⟨#[97]⟩), .sc (.string ⟨#[98]⟩), .sc (.string ⟨#[120]⟩)] := ⟨⟨⟨_, rfl, by decide⟩, ⟨_, rfl, by decide⟩, ⟨_, rfl, by decide⟩, trivial⟩, by simp⟩
  have c2 : costE 2 = 60 + 2 * (60 + 2 * 50) := rfl
  have ce := eopen_split (fun p' => pickF bs p' 14 = 2) (expr_c (l := l) hb hl hN 2 (deep := 3) (p := p) (by omega) (by omega) (by omega) hp (by omega) σ)
  refine crun_of (X := X) X_ok X_sat (body := bodyOf Tryz.f35) Tryz.func35 rfl (by kernel_rfl) (by kernel_rfl) ?_
  rw [Tryz.ntmps35]
  conv => whnf
  repeat' (first | ((refine CallN.many ce ?_; rintro _ (⟨k, vk, vn, vt, vl, s, c, ps, L, P, σ', p', hC, g, q1, q2, hs, (⟨rfl, rfl⟩ | rfl), (⟨rfl, rfl⟩ | ⟨l1, cap, rfl, n1, n2, n3⟩), rfl⟩ | ⟨k, vk, vn, vt, vl, s, c, ps, p', hC, g, q1, q2, rfl⟩))) | (refine CallN.one (pick_c (n := 14) hb (by omega) (by omega) hl) ?_) | (refine CallN.many (pick_n hb hl (by omega) (by omega)) ?_; rintro _ ⟨kk, hk1, hk2, rfl⟩) | (refine CallN.many (of_c (m := 7) hb hl (by omega) (by omega) ?_ (Nat.le_of_ble_eq_true rfl) (Nat.le_of_ble_eq_true rfl)) ?_; (repeat' (first | exact (trivial : True) | refine And.intro ?_ ?_ | refine ⟨_, rfl, ?_⟩ | omega | decide)); rintro _ ⟨t, ht, rfl⟩) | (refine AllocC.go (fun l2 cap2 hl2 hcap => ?_)) | (refine GetN.go ?_ (h := get_rd2 ‹_› ‹_›)) | (refine Need.go ?_ (h := ⟨rfl, Nat.le_refl _, by have := g.l; have := ecvs_length ps; simp only [List.length_cons, List.length_nil]; omega, by have := g.l; have := ecvs_length ps; simp only [List.length_cons, List.length_nil]; omega, ElsOk.one rfl rfl⟩)) | (refine fin0 ?_) | refine Fork.yp ?_ | refine Fork.np ?_ | refine Fork.nb ?_ | refine Fork.dp (fun h => ?_) (fun h => ?_) | refine Need.ap0 ?_ | refine ExtN.wr ?_) <;> try (conv => whnf)
  all_goals first
    | exact eout_nil (N := 1000) g q1 (by omega) hs (by first | exact .nil | exact .vec)
    | exact eout_in (N := 1000) g q1 (by omega) hs (by first | exact .nil | exact .vec) n1 n2
    | exact eout_new (N := 1000) g q1 (by omega) hs (by first | exact .nil | exact .vec) hl2
    | exact eout_f (N := 1000) (etame_set g.t (by have := g.m.inv.1; omega)) (esm_set g.m g.m.inv.1) (by omega) (by omega) .vec (.inr rfl)
    | exact eout_f (N := 1000) (etame_set g.t (by omega)) (esm_set g.m ht) (by omega) (by omega) .vec (.inr rfl)
    | exact eout_f (N := 1000) (wrap_t (k := 15) g.t g.m).1 (wrap_t (k := 15) g.t g.m).2 (by omega) (by omega) .nil (.inr rfl)
    | skip
  refine LoopN.rule (α := Nat × Exp) (fun a => ⟨44, [(2, .ptr (.f 2) 0), (3, .ptr (.f 3) 0), (4, i64 a.1)], [(2, .cells [i64 0, i64 0, i64 0, .sc (.string ⟨#[]⟩), .nil, .sc (.string ⟨#[]⟩), .sc (.string ⟨#[]⟩), .nil]), (3, .cells (eCells a.2))]⟩)
    (fun _ => rd σ l bs (p' + 1)) (fun a => 2 - a.1) (fun a => a.1 ≤ 2 ∧ ETame a.2 ∧ ESm a.2) ?_ (0, .mk k (.mk vk vn vt vl) s c ps) ⟨by simp, g.t, g.m⟩ ?_
  · rintro ⟨i, ⟨ek, ⟨evk, evn, evt, evl⟩, es, ec, eps⟩⟩ K ⟨i1, i2, i3⟩ hK
    dsimp only at i1 i2 i3 ⊢
    have hw := wrap_t (k := 9) i2 i3
    by_cases hi : i < 2
    · conv => whnf
      repeat' (first | refine Fork.yp ?_ | refine Need.go ?_) <;> try (conv => whnf)
      refine hK (i + 1, wrapE 9 (.mk ek (.mk evk evn evt evl) es ec eps)) _ _ ⟨by simp only; omega, hw.1, hw.2⟩ (by simp only; omega) ?_
      (refine ⟨rfl, ?_, ?_, Sub.refl _⟩ <;> repeat' (first | exact EnvLe.nil | exact LocsLe.nil | refine EnvLe.cons _ _ _ ?_ ?_ | refine LocsLe.cons _ _ _ ?_ ?_ | exact CVle.same _ rfl | exact CVle.vec _ _ | exact CVle.nil | exact CVle.tok _ _ _ rfl rfl | exact ObLe.tok _ _ rfl | exact CVles.nil | refine CVles.cons ?_ ?_ | exact ObLe.same _ rfl rfl | refine ObLe.cells rfl ?_))
    · conv => whnf
      repeat' (first | (refine fin0 ?_) | refine Fork.np ?_) <;> try (conv => whnf)
      exact eout_f (N := 1000) i2 i3 (by omega) (by omega) .vec (.inr rfl)
  · (refine ⟨rfl, ?_, ?_, Sub.refl _⟩ <;> repeat' (first | exact EnvLe.nil | exact LocsLe.nil | refine EnvLe.cons _ _ _ ?_ ?_ | refine LocsLe.cons _ _ _ ?_ ?_ | exact CVle.same _ rfl | exact CVle.vec _ _ | exact CVle.nil | exact CVle.tok _ _ _ rfl rfl | exact ObLe.tok _ _ rfl | exact CVles.nil | refine CVles.cons ?_ ?_ | exact ObLe.same _ rfl rfl | refine ObLe.cells rfl ?_))
def LOpen (T sz : Nat) (good : List CV → Prop) (σ : Heap) (l0 : Nat) (bs : List CV) (p : Int) (N : Nat) (out : COut) : Prop := ∃ xs n l1 cap σ' p', good xs ∧ n = xs.length ∧ p ≤ p' ∧ p' ≤ p + N ∧ Sub σ σ' ∧ σ l1 = none ∧ l1 ≠ l0 ∧ σ' l1 = some (.arr T sz cap xs) ∧ out = .ret (.grow l1 n cap) (rd σ' l0 bs p')
def LDraw (good : List CV → Prop) (σ : Heap) (l0 : Nat) (bs : List CV) (p : Int) (N : Nat) (out : COut) : Prop := ∃ xs p', good xs ∧ p ≤ p' ∧ p' ≤ p + N ∧ out = .ret (.vec xs) (rd σ l0 bs p')
theorem lopen_draw {f : FuncId} {args : List CV} {T sz : Nat} {good : List CV → Prop} {σ0 : Heap} {σ : Heap} {l0 : Nat} {bs : List CV} {p : Int} {N : Nat} (h : CRun Tryz.prog f args σ0 (LOpen T sz good σ l0 bs p N)) : CRun Tryz.prog f args σ0 (LDraw good σ l0 bs p N) := by
  refine h.freeze fun out ⟨xs, n, l1, cap, σ', p', g, hn, q1, q2, hs, n1, n2, n3, e⟩ => ?_
  subst e; subst hn
  refine ⟨.ret (.vec xs) (rd σ l0 bs p'), ⟨rd_sub hs, [l1], .inl (.one ?_), fun x hx => by rw [List.mem_singleton.1 hx, rd_ne n2]; exact n1⟩, xs, p', g, q1, q2, rfl⟩
  have hg : rd σ' l0 bs p' l1 = some (.arr T sz cap xs) := by rw [rd_ne n2]; exact n3
  have := Frz.grow (σ := rd σ' l0 bs p') l1 xs.length cap _ _ _ hg (Nat.le_refl _)
  rwa [List.take_of_length_le (Nat.le_refl _)] at this
section
variable {T sz : Nat} {good : List CV → Prop} {σ σ' : Heap} {l0 lx n cap : Nat} {bs : List CV} {p p' : Int} {N : Nat} {xs : List CV}
theorem lo_a (g : good xs) (hn : n = xs.length) (q1 : p ≤ p') (q2 : p' ≤ p + N) (hs : Sub σ σ') (n1 : σ lx = none) (n2 : lx ≠ l0) (n3 : σ' lx = some (.arr T sz cap xs)) : LOpen T sz good σ l0 bs p N (.ret (.grow lx n cap) (rd σ' l0 bs p')) :=
  ⟨xs, n, lx, cap, σ', p', g, hn, q1, q2, hs, n1, n2, n3, rfl⟩
theorem lo_b (g : good xs) (hn : n = xs.length) (q1 : p ≤ p') (q2 : p' ≤ p + N) (hs : Sub σ σ') (n1 : σ lx = none) (n2 : lx ≠ l0) : LOpen T sz good σ l0 bs p N (.ret (.grow lx n cap) (upd (rd σ' l0 bs p') lx (.arr T sz cap xs))) := by
  rw [rd_upd' n2]
  exact ⟨xs, n, lx, cap, _, p', g, hn, q1, q2, hs.upd n1, n1, n2, upd_same _ _ _, rfl⟩
theorem fresh_sub (hs : Sub σ σ') {q : Int} (h : rd σ' l0 bs q lx = none) : σ lx = none := by
  cases e : σ lx with
  | none => rfl
  | some ob => have := no_rd h; rw [hs _ _ e] at this; cases this
theorem lo_c (g : good xs) (hn : n = xs.length) (q1 : p ≤ p') (q2 : p' ≤ p + N) (hs : Sub σ σ') (h : rd σ' l0 bs p' lx = none) : LOpen T sz good σ l0 bs p N (.ret (.grow lx n cap) (upd (rd σ' l0 bs p') lx (.arr T sz cap xs))) :=
  lo_b g hn q1 q2 hs (fresh_sub hs h) (ne_rd h)
end
theorem grow_in {xs : List CV} {n : Nat} (h : n = xs.length) (ys : List CV) (m : Nat) : xs.take n ++ ys ++ xs.drop (n + m) = xs ++ ys := by
  subst h
  rw [List.take_of_length_le (Nat.le_refl _), List.drop_eq_nil_of_le (by omega), List.append_nil]
theorem grow_new {xs : List CV} {n : Nat} (h : n = xs.length) (ys : List CV) : xs.take n ++ ys = xs ++ ys := by
  subst h
  rw [List.take_of_length_le (Nat.le_refl _)]
structure LabG (xs : List CV) : Prop where
  h : ∃ ls, xs = strs ls ∧ ∀ s ∈ ls, s.size ≤ 7
  l : xs.length ≤ 4
theorem LabG.nil : LabG [] := ⟨⟨[], rfl, by simp⟩, by simp⟩
theorem LabG.snoc {xs : List CV} {s : ByteArray} (h : LabG xs) (hs : s.size ≤ 7) (hl : xs.length ≤ 3) : LabG (xs ++ [.sc (.string s)]) := by
  obtain ⟨⟨ls, rfl, h2⟩, _⟩ := h
  refine ⟨⟨ls ++ [s], by simp [strs], fun x hx => ?_⟩, by simp; omega⟩
  rcases List.mem_append.1 hx with hx | hx
  · exact h2 x hx
  · rw [List.mem_singleton.1 hx]; exact hs
set_option maxHeartbeats 1000000 in
theorem labels_o {l : Nat} {σ : Heap} {bs : List CV} (hb : BytesOk bs) (hl : bs.length ≤ 2000) {p : Int} (hp : 0 ≤ p) (hp' : p < 549755813888) : CRun Tryz.prog 145 [.ptr (.g l) 0] (rd σ l bs p) (LOpen 9 1 (fun xs => LabG xs ∧ xs.length ≤ 2) σ l bs p 2) := by
  have gP : LabG [.sc (.string ⟨#[80]⟩)] := LabG.snoc .nil (by decide) (by simp)
  have gQ : LabG [.sc (.string ⟨#[81]⟩)] := LabG.snoc .nil (by decide) (by simp)
  have gPQ : LabG [.sc (.string ⟨#[80]⟩), .sc (.string ⟨#[81]⟩)] := LabG.snoc gP (by decide) (by simp)
  have s1 : ∀ {l1 : Nat} {A : Ob}, rd σ l bs p l1 = none → Sub σ (upd σ l1 A) := fun h => (Sub.refl σ).upd (no_rd h)
  refine crun_of (X := G [4,10,16]) (G_ok _) (G_sat _) (body := bodyOf Tryz.f145) Tryz.func145 rfl (by kernel_rfl) (by kernel_rfl) ?_
  rw [Tryz.ntmps145]
  conv => whnf
  repeat' (first | (refine CallN.many (pick_n hb hl (by omega) (by omega)) ?_; rintro _ ⟨k, hk1, hk2, rfl⟩) | ((refine CallN.many (to_rd ‹_› (pick_n hb hl (by omega) (by omega))) ?_; rintro _ ⟨k, hk1, hk2, rfl⟩)) | (refine AllocN.go (fun l1 hl1 => ?_)) | ((have hl2' := hl2; refine AllocC.go (fun l3 cap3 hl3 hcap3 => ?_))) | (refine AllocC.go (fun l2 cap2 hl2 hcap2 => ?_)) | (refine GetN.go ?_ (h := get_rd ‹_›)) | (refine Need.go ?_ (h := ⟨rfl, Nat.le_of_ble_eq_true rfl, Nat.le_of_ble_eq_true rfl, Nat.le_of_ble_eq_true rfl, ElsOk.one rfl rfl⟩)) | refine Fork.nb ?_ | refine Fork.dp (fun h => ?_) (fun h => ?_) | refine ExtN.wr ?_ | refine finGo ?_) <;> try (conv => whnf)
  all_goals first
    | exact lo_a (xs := []) ⟨.nil, by simp⟩ rfl (by omega) (by omega) (s1 hl1) (no_rd hl1) (ne_rd hl1) (upd_same _ _ _)
    | exact lo_a (xs := [.sc (.string ⟨#[80]⟩)]) ⟨gP, by simp⟩ rfl (by omega) (by omega) ((s1 hl1).upd (fresh_sub (s1 hl1) hl2)) (fresh_sub (s1 hl1) hl2) (ne_rd hl2) (upd_same _ _ _)
    | exact lo_c (xs := [.sc (.string ⟨#[81]⟩)]) ⟨gQ, by simp⟩ rfl (by omega) (by omega) (s1 hl1) hl2
    | exact lo_b (xs := [.sc (.string ⟨#[80]⟩), .sc (.string ⟨#[81]⟩)]) ⟨gPQ, by simp⟩ rfl (by omega) (by omega) ((s1 hl1).upd (fresh_sub (s1 hl1) hl2)) (fresh_sub (s1 hl1) hl2) (ne_rd hl2)
    | exact lo_c (xs := [.sc (.string ⟨#[80]⟩), .sc (.string ⟨#[81]⟩)]) ⟨gPQ, by simp⟩ rfl (by omega) (by omega) ((s1 hl1).upd (fresh_sub (s1 hl1) hl2)) hl3
theorem labels_d {l : Nat} {σ : Heap} {bs : List CV} (hb : BytesOk bs) (hl : bs.length ≤ 2000) {p : Int} (hp : 0 ≤ p) (hp' : p < 549755813888) : CRun Tryz.prog 145 [.ptr (.g l) 0] (rd σ l bs p) (LDraw (fun xs => LabG xs ∧ xs.length ≤ 2) σ l bs p 2) := lopen_draw (labels_o hb hl hp hp')
theorem anyLabels_o {l : Nat} {σ : Heap} {bs : List CV} (hb : BytesOk bs) (hl : bs.length ≤ 2000) {p : Int} (hp : 0 ≤ p) (hp' : p < 274877906944) : CRun Tryz.prog 73 [.ptr (.g l) 0] (rd σ l bs p) (LOpen 9 1 LabG σ l bs p 10) := by
  refine crun_of (X := X) X_ok X_sat (body := bodyOf Tryz.f73) Tryz.func73 rfl (by kernel_rfl) (by kernel_rfl) ?_
  rw [Tryz.ntmps73]
  conv => whnf
  repeat' (first | ((refine CallN.many (labels_o hb hl (by omega) (by omega)) ?_; rintro _ ⟨xs, n, l1, cap, σ', p', ⟨g, gl⟩, hn, q1, q2, hs, n1, n2, n3, rfl⟩)) | (refine CallN.many (pick_n hb hl (by omega) (by omega)) ?_; rintro _ ⟨k, hk1, hk2, rfl⟩) | (refine CallN.many (of_c (m := 7) hb hl (by omega) (by omega) ?_ (Nat.le_of_ble_eq_true rfl) (Nat.le_of_ble_eq_true rfl)) ?_; (repeat' (first | exact (trivial : True) | refine And.intro ?_ ?_ | refine ⟨_, rfl, ?_⟩ | omega | decide)); rintro _ ⟨t, ht, rfl⟩) | (refine AllocC.go (fun l2 cap2 hl2 hcap2 => ?_)) | (refine GetN.go ?_ (h := get_rd2 ‹_› ‹_›)) | (refine Need.go ?_ (h := ⟨rfl, by omega, by simp only [List.length_cons, List.length_nil]; omega, by simp only [List.length_cons, List.length_nil]; omega, ElsOk.one rfl rfl⟩)) | refine Fork.nb ?_ | refine Fork.dp (fun h => ?_) (fun h => ?_) | refine ExtN.wr ?_ | refine finGo ?_) <;> try (conv => whnf)
  all_goals first
    | exact lo_a g hn (by omega) (by omega) hs n1 n2 n3
    | exact lo_b (by rw [grow_in hn]; exact g.snoc ht (by omega)) (by rw [grow_in hn, List.length_append]; simp only [List.length_cons, List.length_nil]; omega) (by omega) (by omega) hs n1 n2
    | exact lo_c (by rw [grow_new hn]; exact g.snoc ht (by omega)) (by rw [grow_new hn, List.length_append]; simp only [List.length_cons, List.length_nil]; omega) (by omega) (by omega) hs hl2
theorem anyLabels_d {l : Nat} {σ : Heap} {bs : List CV} (hb : BytesOk bs) (hl : bs.length ≤ 2000) {p : Int} (hp : 0 ≤ p) (hp' : p < 274877906944) : CRun Tryz.prog 73 [.ptr (.g l) 0] (rd σ l bs p) (LDraw LabG σ l bs p 10) := lopen_draw (anyLabels_o hb hl hp hp')
structure PropG (xs : List CV) : Prop where
  h : Cs xs
  l : xs.length ≤ 6
structure LSt where
  i : Nat
  n : Nat
  xs : List CV
  s : Heap
  l : Nat
  cap : Nat
  q : Int
def names3 : List CV := [.sc (.string ⟨#[110]⟩), .sc (.string ⟨#[110, 97, 109, 101]⟩), .sc (.string ⟨#[120]⟩)]
set_option maxHeartbeats 1000000 in
theorem props_o {l : Nat} {σ : Heap} {bs : List CV} (hb : BytesOk bs) (hl : bs.length ≤ 2000) {p : Int} (hp : 0 ≤ p) (hp' : p < 274877906944) : CRun Tryz.prog 146 [.ptr (.g l) 0] (rd σ l bs p) (LOpen 178 5 (fun xs => PropG xs ∧ xs.length ≤ 3) σ l bs p 100) := by
  have c1 : cost 1 = 20 := rfl
  refine crun_of (X := G [6,24]) (G_ok _) (G_sat _) (body := bodyOf Tryz.f146) Tryz.func146 rfl (by kernel_rfl) (by kernel_rfl) ?_
  rw [Tryz.ntmps146]
  conv => whnf
  repeat' (first | (refine AllocN.go (fun l1 hl1 => ?_))) <;> try (conv => whnf)
  refine LoopN.rule (α := LSt) (fun a => ⟨26, [(0, .ptr (.g l) 0), (3, .grow a.l a.n a.cap), (4, .vec names3), (5, i64 a.i)], []⟩)
    (fun a => rd a.s l bs a.q) (fun a => 3 - a.i) (fun a => a.i ≤ 3 ∧ a.n = a.xs.length ∧ a.n ≤ a.i ∧ Cs a.xs ∧ p ≤ a.q ∧ a.q ≤ p + a.i * 25 ∧ Sub σ a.s ∧ σ a.l = none ∧ a.l ≠ l ∧ a.s a.l = some (.arr 178 5 a.cap a.xs)) ?_
    ⟨0, 0, [], upd σ l1 (.arr 178 5 0 []), l1, 0, p⟩ ⟨Nat.zero_le _, rfl, Nat.le_refl _, .nil, Int.le_refl _, by show p ≤ p + ((0 : Nat) : Int) * 25; omega, (Sub.refl σ).upd (no_rd hl1), no_rd hl1, ne_rd hl1, upd_same _ _ _⟩ ?_
  · rintro ⟨i, n, xs, σ', l1, cap, q⟩ K ⟨i1, i2, i3, i4, i5, i6, i7, i8, i9, i10⟩ hK
    dsimp only at i1 i2 i3 i4 i5 i6 i7 i8 i9 i10 ⊢
    by_cases hi : i < 3
    · obtain ⟨t, hg, ht⟩ : ∃ t : ByteArray, names3[(i : Int).toNat]? = some (.sc (.string t)) ∧ t.size ≤ 7 := by
        rcases (by omega : i = 0 ∨ i = 1 ∨ i = 2) with rfl | rfl | rfl <;> exact ⟨_, rfl, by decide⟩
      clear hl1
      conv => whnf
      repeat' (first | (refine CallN.many (pick_n hb hl (by omega) (by omega)) ?_; rintro _ ⟨k, hk1, hk2, rfl⟩) | (refine CallN.many (plain_c hb hl 1 (by omega) (by omega) (by omega) (by omega) (by omega)) ?_; rintro _ ⟨⟨vk, vn, vt, vl⟩, p', hv, hp1, hp2, rfl⟩) | (refine AllocC.go (fun l2 cap2 hl2 hcap2 => ?_)) | (refine GetN.go ?_ (h := get_rd2 ‹_› ‹_›)) | (refine Need.go ?_ (h := ⟨rfl, by omega, by simp only [List.length_cons, List.length_nil]; omega, by simp only [List.length_cons, List.length_nil]; omega, ElsOk.one rfl rfl⟩)) | refine OrdN.go ?_ | refine Fork.yp ?_ | refine Fork.nb ?_ | refine Fork.dp (fun h => ?_) (fun h => ?_) | refine Need.go ?_ | refine Need.draw ?_ | refine ElemN.go ?_ | refine ExtN.wr ?_) <;> try (conv => whnf)
      · refine hK ⟨i + 1, n + 1, xs.take n ++ [.agg [.sc (.string t), i64 vk, i64 vn, .sc (.string vt), .vec (Val.cvs vl)]] ++ xs.drop (n + 1), upd σ' l1 (.arr 178 5 cap (xs.take n ++ [.agg [.sc (.string t), i64 vk, i64 vn, .sc (.string vt), .vec (Val.cvs vl)]] ++ xs.drop (n + 1))), l1, cap, p'⟩ _ _
          ⟨by simp only; omega, by simp only; rw [grow_in i2, List.length_append]; simp only [List.length_cons, List.length_nil]; omega, by simp only; omega, by simp only; rw [grow_in i2]; exact i4.snoc ht hv, by simp only; omega, by simp only; omega, i7.upd i8, i8, i9, upd_same _ _ _⟩ (by simp only; omega) ?_
        refine ⟨rfl, ?_, ?_, ?_⟩
        rotate_left
        rotate_left
        · show Sub (rd (upd σ' l1 _) l bs p') _; rw [← rd_upd' i9]; exact Sub.refl _
        all_goals repeat' (first | exact EnvLe.nil | exact LocsLe.nil | refine EnvLe.cons _ _ _ ?_ ?_ | exact CVle.same _ rfl | exact CVle.vec _ _)
      · refine hK ⟨i + 1, n + 1, xs.take n ++ [.agg [.sc (.string t), i64 vk, i64 vn, .sc (.string vt), .vec (Val.cvs vl)]], upd σ' l2 (.arr 178 5 cap2 (xs.take n ++ [.agg [.sc (.string t), i64 vk, i64 vn, .sc (.string vt), .vec (Val.cvs vl)]])), l2, cap2, p'⟩ _ _
          ⟨by simp only; omega, by simp only; rw [grow_new i2, List.length_append]; simp only [List.length_cons, List.length_nil]; omega, by simp only; omega, by simp only; rw [grow_new i2]; exact i4.snoc ht hv, by simp only; omega, by simp only; omega, i7.upd (fresh_sub i7 hl2), fresh_sub i7 hl2, ne_rd hl2, upd_same _ _ _⟩ (by simp only; omega) ?_
        refine ⟨rfl, ?_, ?_, ?_⟩
        rotate_left
        rotate_left
        · show Sub (rd (upd σ' l2 _) l bs p') _; rw [← rd_upd hl2]; exact Sub.refl _
        all_goals repeat' (first | exact EnvLe.nil | exact LocsLe.nil | refine EnvLe.cons _ _ _ ?_ ?_ | exact CVle.same _ rfl | exact CVle.vec _ _)
      · refine hK ⟨i + 1, n, xs, σ', l1, cap, q + 1⟩ _ _ ⟨by simp only; omega, i2, by simp only; omega, i4, by simp only; omega, by simp only; omega, i7, i8, i9, i10⟩ (by simp only; omega) ?_
        (refine ⟨rfl, ?_, ?_, Sub.refl _⟩ <;> repeat' (first | exact EnvLe.nil | exact LocsLe.nil | refine EnvLe.cons _ _ _ ?_ ?_ | refine LocsLe.cons _ _ _ ?_ ?_ | exact CVle.same _ rfl | exact CVle.vec _ _ | exact CVle.nil | exact CVle.tok _ _ _ rfl rfl | exact ObLe.tok _ _ rfl | exact CVles.nil | refine CVles.cons ?_ ?_ | exact ObLe.same _ rfl rfl | refine ObLe.cells rfl ?_))
    · conv => whnf
      repeat' (first | refine Fork.np ?_ | refine finGo ?_) <;> try (conv => whnf)
      exact lo_a ⟨⟨i4, by omega⟩, by omega⟩ i2 i5 (by omega) i7 i8 i9 i10
  · refine ⟨rfl, ?_, ?_, ?_⟩
    rotate_left
    rotate_left
    · show Sub (rd (upd σ l1 (.arr 178 5 0 [])) l bs p) _
      rw [← rd_upd hl1]; exact Sub.refl _
    all_goals repeat' (first | exact EnvLe.nil | exact LocsLe.nil | refine EnvLe.cons _ _ _ ?_ ?_ | exact CVle.same _ rfl | exact CVle.vec _ _)
end Go.Proofs.YthllnbfkfobcjaaGreat
