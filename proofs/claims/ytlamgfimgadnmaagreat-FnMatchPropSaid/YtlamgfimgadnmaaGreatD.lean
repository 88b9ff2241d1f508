/-
  Contracts of the functions that the law reaches.
-/
import Derived.Test.YtlamgfimgadnmaaGreatB
import Derived.Test.YtlamgfimgadnmaaGreatFwc
import Derived.Test.YtlamgfimgadnmaaGreatC
import Derived.Test.YtlamgfimgadnmaaGreatA
set_option linter.unusedVariables false
set_option linter.unusedSimpArgs false
namespace Go.Proofs.YtlamgfimgadnmaaGreat
open Go Go.CL Go.Proofs
set_option maxRecDepth 10000
abbrev BL := List UInt8
def bl (s : ByteArray) : BL := s.data.toList
theorem z54 {s t : ByteArray} (h : bl s = bl t) : s = t := by
  obtain ⟨⟨a⟩⟩ := s; obtain ⟨⟨b⟩⟩ := t
  simp [bl] at h; rw [h]
theorem z1v (s : ByteArray) : strV (bl s) = .sc (.string s) := by
  obtain ⟨⟨a⟩⟩ := s; rfl
theorem z47 (s t : ByteArray) : lt s t = decide (bl s < bl t) := by
  unfold lt; rw [bytesLess_eq, Lib.toList_data, Lib.toList_data]; rfl
theorem zeg (a : BL) : ¬ a < a := List.lt_irrefl a
theorem zn0 {a b c : BL} (h : a < b) (k : b < c) : a < c := List.lt_trans h k
theorem z52 {a b : BL} (h : ¬ a < b) (k : ¬ a = b) : b < a := by
  rcases List.le_total a b with e | e
  · exact absurd (List.le_antisymm e (List.not_lt.1 h)) k
  · rcases Decidable.em (b < a) with e' | e'
    · exact e'
    · exact absurd (List.le_antisymm (List.not_lt.1 e') e) k
def ins : List ByteArray → ByteArray → List ByteArray
  | [], s => [s]
  | x :: r, s => if lt x s then x :: ins r s else if x = s then x :: r else s :: x :: r
theorem ins_mem : ∀ {l : List ByteArray} {s x : ByteArray}, x ∈ ins l s ↔ x ∈ l ∨ x = s
  | [], s, x => by simp [ins]
  | y :: r, s, x => by
    unfold ins
    split
    · rw [List.mem_cons, ins_mem, List.mem_cons, or_assoc]
    · split
      · rename_i e; subst e; simp; intro h; exact .inl h
      · simp only [List.mem_cons]; exact or_comm
def Inc (l : List ByteArray) : Prop := l.Pairwise fun a b => bl a < bl b
theorem zvy : ∀ {l : List ByteArray} {s : ByteArray}, Inc l → Inc (ins l s)
  | [], s, _ => by simp [ins, Inc]
  | y :: r, s, h => by
    obtain ⟨h1, h2⟩ := List.pairwise_cons.1 h
    unfold ins
    split
    · rename_i e
      rw [z47] at e
      refine List.pairwise_cons.2 ⟨fun x hx => ?_, zvy h2⟩
      rcases ins_mem.1 hx with hx | rfl
      · exact h1 x hx
      · simpa using e
    · split
      · exact h
      · rename_i e1 e2
        rw [z47] at e1
        have := z52 (by simpa using e1) (fun e => e2 (z54 e))
        refine List.pairwise_cons.2 ⟨fun x hx => ?_, h⟩
        rcases List.mem_cons.1 hx with rfl | hx
        · exact this
        · exact zn0 this (h1 x hx)
theorem zrm : ∀ (l out : List ByteArray), Inc out → Inc (l.foldl ins out) ∧ ∀ x, x ∈ l.foldl ins out ↔ x ∈ out ∨ x ∈ l
  | [], out, h => ⟨h, by simp⟩
  | s :: l, out, h => by
    obtain ⟨h1, h2⟩ := zrm l (ins out s) (zvy h)
    refine ⟨h1, fun x => ?_⟩
    rw [List.foldl_cons, h2, ins_mem, List.mem_cons, or_assoc]
theorem zrb : ∀ (a b : List BL), a.Pairwise (· < ·) → b.Pairwise (· < ·) → (∀ x, x ∈ a ↔ x ∈ b) → a = b
  | [], [], _, _, _ => rfl
  | [], y :: b, _, _, h => absurd ((h y).2 (List.mem_cons_self ..)) (by simp)
  | x :: a, [], _, _, h => absurd ((h x).1 (List.mem_cons_self ..)) (by simp)
  | x :: a, y :: b, ha, hb, h => by
    obtain ⟨a1, a2⟩ := List.pairwise_cons.1 ha
    obtain ⟨b1, b2⟩ := List.pairwise_cons.1 hb
    have hxy : x = y := by
      rcases List.mem_cons.1 ((h x).1 (List.mem_cons_self ..)) with e | e
      · exact e
      · rcases List.mem_cons.1 ((h y).2 (List.mem_cons_self ..)) with e' | e'
        · exact e'.symm
        · exact absurd (zn0 (b1 x e) (a1 y e')) (zeg _)
    subst hxy
    rw [zrb a b a2 b2 fun z => ?_]
    have := h z
    simp only [List.mem_cons] at this
    constructor
    · intro hz
      rcases this.1 (.inr hz) with rfl | e
      · exact absurd (a1 z hz) (zeg _)
      · exact e
    · intro hz
      rcases this.2 (.inr hz) with rfl | e
      · exact absurd (b1 z hz) (zeg _)
      · exact e
theorem zp4 {z : List BL} (h : z.Pairwise (· ≤ ·)) : (Lib.compact z).Pairwise (· < ·) ∧ ∀ x, x ∈ Lib.compact z ↔ x ∈ z := by
  have hle : ∀ i j, i ≤ j → j < z.length → z.toArray[i]! ≤ z.toArray[j]! := fun i j hij hj => by
    have hi : i < z.length := by omega
    simp only [List.getElem!_toArray, getElem!_pos, hi, hj]
    rcases Nat.lt_or_eq_of_le hij with e | e
    · exact List.pairwise_iff_getElem.1 h i j hi hj e
    · subst e; exact List.le_refl _
  unfold Lib.compact Lib.compactUpTo
  constructor
  · rw [List.pairwise_map]
    have := (List.pairwise_lt_range (n := z.length)).filter (Lib.keeps z.toArray)
    refine this.imp_of_mem ?_
    intro i j hi hj hij
    have hj' := (List.mem_filter.1 hj)
    have hjl : j < z.length := by simpa using hj'.1
    have hk : j = 0 ∨ z.toArray[j]! ≠ z.toArray[j - 1]! := by simpa [Lib.keeps] using hj'.2
    have h1 := hle i (j - 1) (by omega) (by omega)
    have h2 := hle (j - 1) j (by omega) hjl
    have h3 : ¬ z.toArray[j - 1]! = z.toArray[j]! := fun e => by
      rcases hk with e' | e'
      · omega
      · exact e' e.symm
    rcases Decidable.em (z.toArray[i]! < z.toArray[j]!) with e | e
    · exact e
    · have h4 := List.not_lt.1 e
      exact absurd (List.le_antisymm h2 (List.le_trans h4 h1)) h3
  · intro x
    simp only [List.mem_map, List.mem_filter, List.mem_range]
    constructor
    · rintro ⟨i, ⟨hi, _⟩, rfl⟩
      simp [getElem!_pos, hi]
    · intro hx
      have : ∀ n i, i < z.length → i ≤ n → z.toArray[i]! = x → ∃ a, (a < z.length ∧ Lib.keeps z.toArray a = true) ∧ z.toArray[a]! = x := by
        intro n
        induction n with
        | zero => intro i hi hn hz; exact ⟨i, ⟨hi, by simp [Lib.keeps]; left; omega⟩, hz⟩
        | succ n ih =>
          intro i hi hn hz
          by_cases hk : Lib.keeps z.toArray i = true
          · exact ⟨i, ⟨hi, hk⟩, hz⟩
          · have hk : ¬ (i = 0 ∨ z.toArray[i]! ≠ z.toArray[i - 1]!) := by simpa [Lib.keeps] using hk
            have h0 : i ≠ 0 := fun e => hk (.inl e)
            have h1 : z.toArray[i]! = z.toArray[i - 1]! := Decidable.byContradiction fun e => hk (.inr e)
            exact ih (i - 1) (by omega) (by omega) (h1.symm.trans hz)
      obtain ⟨i, hi, rfl⟩ := List.mem_iff_getElem.1 hx
      exact this i i hi (Nat.le_refl _) (by simp [getElem!_pos, hi])
theorem zt9 (l : List ByteArray) : Lib.compact ((l.map bl).mergeSort fun x y => decide (x ≤ y)) = (l.foldl ins []).map bl := by
  have hs : ((l.map bl).mergeSort fun x y => decide (x ≤ y)).Pairwise (· ≤ ·) := by
    have := List.pairwise_mergeSort (le := fun x y : BL => decide (x ≤ y)) (fun a b c h k => by simp at h k ⊢; exact List.le_trans h k) (fun a b => by simp; exact List.le_total a b) (l.map bl)
    simpa using this
  obtain ⟨c1, c2⟩ := zp4 hs
  obtain ⟨f1, f2⟩ := zrm l [] (by simp [Inc])
  refine zrb _ _ c1 (by rw [List.pairwise_map]; exact f1) fun x => ?_
  rw [c2, (List.mergeSort_perm _ _).mem_iff]
  simp [f2]
theorem zp3 (z : List BL) : (Lib.compact z).length ≤ z.length := by
  unfold Lib.compact Lib.compactUpTo
  rw [List.length_map]
  exact Nat.le_trans (List.length_filter_le _ _) (by simp)
end Go.Proofs.YtlamgfimgadnmaaGreat
namespace Go.Proofs.YtlamgfimgadnmaaGreat
open Go Go.CL
set_option maxRecDepth 10000
mutual
def vu : Exp → List Exp
  | .mk k v s c ps => .mk k v s c ps :: zac ps
def zac : List Exp → List Exp
  | [] => []
  | e :: r => vu e ++ zac r
end
theorem zba (l : List Exp) : zac l = (l.map vu).flatten := by
  induction l with
  | nil => rfl
  | cons e r ih => simp [zac, ih]
theorem zsc {l : List Exp} {i : Nat} {e : Exp} (h : l[i]? = some e) : zac (l.take (i + 1)) = zac (l.take i) ++ vu e := by
  rw [zba, zba, List.take_add_one, h]; simp
def z3r (J : List Exp → Heap → Prop) (K : Heap → Prop) (l : List Exp) (out : COut) : Prop := (∃ σ, J l σ ∧ out = .ret (.sc (.bool true)) σ) ∨ ∃ σ, K σ ∧ out = .ret (.sc (.bool false)) σ
theorem zsj {l : Nat} {J : List Exp → Heap → Prop} {K : Heap → Prop} {all : List Exp} (hy : ∀ pre x r σ, pre ++ x :: r = all → J pre σ → z35 Tryz.prog l [x.cv] σ (z3r J K (pre ++ [x]))) {e : Exp} (he : ETame e) :
    ∀ {pre rest : List Exp} {σ : Heap}, pre ++ (vu e ++ rest) = all → J pre σ → CRun Tryz.prog 142 [e.cv, .fn (.yield l) [] []] σ (z3r J K (pre ++ vu e)) := by
  induction he with
  | @mk k v s c ps hv hs hc hl hps ih =>
    intro pre rest σ hall hJ
    have e3 := zaz ps
    have hall' : pre ++ (Exp.mk k v s c ps) :: (zac ps ++ rest) = all := by rw [← hall]; simp [vu]
    have y1 := hy pre _ _ σ hall' hJ
    obtain ⟨vk, vn, vt, vl⟩ := v
    have hE : pre ++ vu (.mk k (.mk vk vn vt vl) s c ps) = (pre ++ [.mk k (.mk vk vn vt vl) s c ps]) ++ zac ps := by simp [vu]
    refine jq (X := X) zr5 zg9 (body := yz Tryz.f142) Tryz.func142 rfl (by kernel_rfl) (by kernel_rfl) ?_
    rw [Tryz.ntmps142]
    conv => whnf
    repeat' (first | (refine YN.many y1 ?_; rintro _ (⟨σ1, hJ1, rfl⟩ | ⟨σ1, hJ1, rfl⟩)) | refine Zr ?_) <;> try (conv => whnf)
    · refine LoopN.rule (α := Nat × Heap) (fun i => ⟨23, [(1, .fn (.yield l) [] []), (4, .sc (.bool false)), (12, .vec (Exp.cvs ps)), (13, i64 (Exp.cvs ps).length), (14, i64 i.1)], []⟩)
        (fun i => i.2) (fun i => ps.length - i.1) (fun i => i.1 ≤ ps.length ∧ J ((pre ++ [.mk k (.mk vk vn vt vl) s c ps]) ++ zac (ps.take i.1)) i.2) ?_ (0, σ1) ⟨by omega, by simpa [zac] using hJ1⟩ ?_
      rotate_left
      · exact ZW
      rintro ⟨i, τ⟩ K' ⟨h1, h2⟩ hK
      dsimp only at h1 h2 hK ⊢
      by_cases hi : i < ps.length
      · obtain ⟨⟨wk, ⟨a1, a2, a3, a4⟩, ws, wc, wp⟩, hm, hg, hg'⟩ := za0 hi
        have c1 := ih _ hm (pre := (pre ++ [.mk k (.mk vk vn vt vl) s c ps]) ++ zac (ps.take i)) (rest := zac (ps.drop (i + 1)) ++ rest) (σ := τ) (by
          have e0 : vu (.mk k (.mk vk vn vt vl) s c ps) = .mk k (.mk vk vn vt vl) s c ps :: zac ps := by simp only [vu]
          have : zac ps = zac (ps.take i) ++ vu (.mk wk (.mk a1 a2 a3 a4) ws wc wp) ++ zac (ps.drop (i + 1)) := by
            rw [zba, zba, zba]
            conv => lhs; rw [← List.take_append_drop i ps, List.drop_eq_getElem_cons hi]
            rw [(List.getElem_eq_iff hi).2 hg]; simp
          rw [← hall, e0, this]; simp) h2
        conv => whnf
        repeat' (first | (refine CallN.many c1 ?_; rintro _ (⟨σ2, hJ2, rfl⟩ | ⟨σ2, hJ2, rfl⟩)) | refine Za ?_ | refine Zm ?_ | refine Zo ?_ | refine Zq ?_ | refine Zr ?_) <;> try (conv => whnf)
        · refine hK (i + 1, σ2) _ _ ⟨by dsimp only; omega, ?_⟩ (by dsimp only; omega) ?_
          · dsimp only; rw [zsc hg, ← List.append_assoc]; exact hJ2
          exact ZW
        · exact .inr ⟨_, hJ2, rfl⟩
      · rw [List.take_of_length_le (by omega)] at h2
        conv => whnf
        repeat' (first | refine Zb ?_ | refine Zr ?_) <;> try (conv => whnf)
        exact .inl ⟨_, by rw [hE]; exact h2, rfl⟩
    · exact .inr ⟨_, hJ1, rfl⟩
theorem zh6 {l lb : Nat} {J : List Exp → Heap → Prop} {K : Heap → Prop} {all : List Exp} (hy : ∀ pre x r σ, pre ++ x :: r = all → J pre σ → z35 Tryz.prog l [x.cv] σ (z3r J K (pre ++ [x]))) {σ : Heap}
    {k vk vn : Int} {vt : ByteArray} {vl : List Val} {s c : ByteArray} {ps : List Exp} (he : ETame (.mk k (.mk vk vn vt vl) s c ps)) (hall : vu (.mk k (.mk vk vn vt vl) s c ps) = all) (hJ : J [] σ)
    (hl : σ lb = some (.cells [i64 k, i64 vk, i64 vn, .sc (.string vt), .vec (Val.cvs vl), .sc (.string s), .sc (.string c), .vec (Exp.cvs ps)])) :
    CRun Tryz.prog 141 [.fn (.yield l) [] [], .ptr (.g lb) 0] σ (fun out => (∃ σ', J all σ' ∧ out = .ret (.tup []) σ') ∨ ∃ σ', K σ' ∧ out = .ret (.tup []) σ') := by
  have c1 := zsj hy he (pre := []) (rest := []) (by simpa using hall) hJ
  rw [List.nil_append, hall] at c1
  refine jq (X := X) zr5 zg9 (body := yz Tryz.f141) Tryz.func141 rfl (by kernel_rfl) (by kernel_rfl) ?_
  rw [Tryz.ntmps141]
  conv => whnf
  repeat' (first | (refine CallN.many c1 ?_; rintro _ (⟨σ2, hJ2, rfl⟩ | ⟨σ2, hJ2, rfl⟩)) | refine Zj ?_ | refine Zq ?_ | refine Zr ?_) <;> try (conv => whnf)
  · exact .inl ⟨_, hJ2, rfl⟩
  · exact .inr ⟨_, hJ2, rfl⟩
theorem zh7 {σ : Heap} {k vk vn : Int} {vt : ByteArray} {vl : List Val} {s c : ByteArray} {ps : List Exp} : CRun Tryz.prog 125 [Exp.cv (.mk k (.mk vk vn vt vl) s c ps)] σ (fun out => ∃ lb, σ lb = none ∧
    out = .ret (.fn (.func 141) [] [.ptr (.g lb) 0]) (upd σ lb (.cells [i64 k, i64 vk, i64 vn, .sc (.string vt), .vec (Val.cvs vl), .sc (.string s), .sc (.string c), .vec (Exp.cvs ps)]))) := by
  refine ZG [1] Tryz.func125 Tryz.ntmps125 ?_
  conv => whnf
  repeat' (first | refine Zu (fun l hl => ?_) | refine Zr ?_) <;> try (conv => whnf)
  exact ⟨_, ‹_›, rfl⟩
theorem z2q (l : List ByteArray) (s : ByteArray) : (ins l s).length ≤ l.length + 1 := by
  induction l with
  | nil => simp [ins]
  | cons y r ih => unfold ins; split; · simp; omega
                   · split <;> simp <;> omega
theorem zx9 (a b : List ByteArray) : wq (a ++ b) = wq a ++ wq b := by simp [wq]
def zm4 : Exp → List ByteArray
  | .mk k _ s _ _ => if k = 2 ∨ k = 3 then [s] else []
def zh (l : List Exp) : List ByteArray := (l.map zm4).flatten
theorem zpd (a b : List Exp) : zh (a ++ b) = zh a ++ zh b := by simp [zh]
theorem zbh (e : Exp) (b : List Exp) : zh (e :: b) = zm4 e ++ zh b := by simp [zh]
theorem zsv (e : Exp) : (zm4 e).length ≤ 1 := by
  obtain ⟨k, v, s, c, ps⟩ := e
  show (if k = 2 ∨ k = 3 then [s] else []).length ≤ 1
  split <;> simp
theorem zck (l : List Exp) : (zh l).length ≤ l.length := by
  induction l with
  | nil => simp [zh]
  | cons e r ih => rw [zbh, List.length_append, List.length_cons]; have := zsv e; omega
theorem zzi (l out : List ByteArray) : (l.foldl ins out).length ≤ out.length + l.length := by
  induction l generalizing out with
  | nil => simp
  | cons s l ih => have := ih (ins out s); have := z2q out s; simp only [List.foldl_cons, List.length_cons]; omega
end Go.Proofs.YtlamgfimgadnmaaGreat
namespace Go.Proofs.YtlamgfimgadnmaaGreat
open Go Go.CL Go.Proofs
set_option maxRecDepth 10000
theorem z2l {σ : Heap} : CRun Tryz.prog 164 [.sc (.int .u64 0)] σ (· = .ret (i64 0) σ) := by
  refine ZX Tryz.func164 Tryz.ntmps164 ?_
  conv => whnf
  repeat' (first | (refine Need.mk ⟨by omega, Nat.le_of_ble_eq_true (by kernel_rfl)⟩ ?_) | (refine Need.mk (by simp only [inR]; exact ⟨by omega, Int.le_trans (Int.ofNat_le.2 (Nat.le_of_lt (UInt8.toNat_lt _))) (by decide)⟩) ?_) | (refine Need.mk (by simp only [inR]; exact ⟨by omega, Int.le_trans (Int.add_le_add_left (Int.ofNat_le.2 (Nat.le_of_lt (UInt8.toNat_lt _))) 0) (by decide)⟩) ?_) | refine Zb ?_ | refine Zm ?_ | refine Zr ?_) <;> try (conv => whnf)
  all_goals exact z1d (by kernel_rfl)
theorem z67 {σ : Heap} : CRun Tryz.prog 144 [.sc (.int .u64 0)] σ (· = .ret (i64 0) σ) := by
  refine ZX Tryz.func144 Tryz.ntmps144 ?_
  conv => whnf
  repeat' (first | (refine ZC z2l ?_) | refine Zp ?_ | refine Zr ?_) <;> try (conv => whnf)
  all_goals rfl
theorem zpk {σ : Heap} : CRun Tryz.prog 154 [.vec [], i64 0, i64 0] σ (· = .ret (.tup []) σ) := by
  refine ZX Tryz.func154 Tryz.ntmps154 ?_
  conv => whnf
  repeat' (first | refine Zm ?_) <;> try (conv => whnf)
  refine LoopN.rule (α := Unit) (fun _ => ⟨49, [(1, i64 0), (2, i64 0), (6, i64 1)], []⟩) (fun _ => σ) (fun _ => 0) (fun _ => True) ?_ () trivial ?_
  rotate_left
  · exact ZW
  rintro _ K _ hK
  conv => whnf
  repeat' (first | refine Zb ?_ | refine Zr ?_) <;> try (conv => whnf)
  all_goals rfl
theorem z15 {σ : Heap} : CRun Tryz.prog 143 [.vec [], i64 0, i64 0, i64 0] σ (· = .ret (.tup []) σ) := by
  have c1 := zpk (σ := σ)
  refine ZX Tryz.func143 Tryz.ntmps143 ?_
  conv => whnf
  repeat' (first | (refine ZC c1 ?_) | refine Zh ?_ | refine Za ?_ | refine Zb ?_ | refine Zc ?_ | refine Zd ?_ | refine Ze ?_ | refine Zg ?_ | refine Zv (fun h => ?_) (fun h => ?_) | refine Zj ?_ | refine Zk ?_ | refine Zl ?_ | refine Zm ?_ | refine Zn ?_ | refine Zo ?_ | refine Zp ?_ | refine Zq ?_ | refine Zu (fun l hl => ?_) | refine Zr ?_) <;> try (conv => whnf)
  refine LoopN.rule (α := Unit) (fun _ => ⟨134, [(0, .vec []), (1, i64 0), (2, i64 0), (3, i64 0)], []⟩) (fun _ => σ) (fun _ => 0) (fun _ => True) ?_ () trivial ?_
  rotate_left
  · exact ZW
  rintro _ K _ hK
  conv => whnf
  repeat' (first | (refine ZC c1 ?_) | refine Za ?_ | refine Zm ?_ | refine Zp ?_ | refine Zr ?_) <;> try (conv => whnf)
  all_goals rfl
theorem zyb {σ : Heap} : CRun Tryz.prog 126 [.vec []] σ (· = .ret (.tup []) σ) := by
  have c1 := z67 (σ := σ)
  have c2 := z15 (σ := σ)
  refine ZX Tryz.func126 Tryz.ntmps126 ?_
  conv => whnf
  repeat' (first | (refine ZC c1 ?_) | (refine ZC c2 ?_) | refine Zm ?_ | refine Zp ?_ | refine Zr ?_) <;> try (conv => whnf)
  all_goals rfl
structure NJ (σ : Heap) (lo l : Nat) (ob : Ob) (pre : List Exp) (τ : Heap) : Prop where
  sub : Sub σ τ
  rec_ : τ l = some ob
  out : (zh pre = [] ∧ τ lo = some (.cells [.nil])) ∨ ∃ la cap, zh pre ≠ [] ∧ la ≠ lo ∧ la ≠ l ∧ σ la = none ∧ τ lo = some (.cells [.grow la (zh pre).length cap]) ∧
    τ la = some (.arr 9 1 cap (wq (zh pre))) ∧ (zh pre).length ≤ cap
theorem z7u {σ : Heap} {l8 l9 : Nat} {Z Y : Ob} (h : upd σ l8 Z l9 = none) : upd (upd σ l8 Z) l9 Y l8 = some Z := by
  have hne : l8 ≠ l9 := fun e => by subst e; rw [za] at h; cases h
  rw [zb _ _ hne]; exact za _ _ _
theorem z7t {σ : Heap} {lo l2 : Nat} {Z Y : Ob} (h : σ lo = some Z) (hl : σ l2 = none) : upd σ l2 Y lo = some Z := by
  rw [zb _ _ (fun e => by subst e; rw [h] at hl; cases hl)]; exact h
theorem z7s {σ : Heap} {lo l2 : Nat} {Z Y : Ob} (hne : l2 ≠ lo) (h : σ lo = some Z) : upd σ l2 Y lo = some Z := by
  rw [zb _ _ (Ne.symm hne)]; exact h
theorem zoj {σ τ : Heap} {l : Nat} (h : Sub σ τ) (hl : τ l = none) : σ l = none := by
  cases e : σ l with
  | none => rfl
  | some ob => rw [h _ _ e] at hl; cases hl
theorem zm3 {σ τ2 : Heap} {lo lr l2 : Nat} {ob X B : Ob} {pre : List Exp} {cap n : Nat} {arr : List CV} (bs : Sub σ τ2) (z0 : σ lo = none) (z2 : σ lr = none) (zl : σ l2 = none) (a1 : l2 ≠ lo) (a2 : l2 ≠ lr) (a3 : lr ≠ lo)
    (hB : τ2 lr = some B) (hn : n = (zh pre).length) (ha : arr = wq (zh pre)) (h0 : zh pre ≠ []) (hc : n ≤ cap) (hX : ob = X) :
    (upd (upd τ2 l2 (.arr 9 1 cap arr)) lo (.cells [.grow l2 n cap])) lr = some B ∧ NJ σ lo lr ob pre (upd (upd (upd τ2 l2 (.arr 9 1 cap arr)) lo (.cells [.grow l2 n cap])) lr X) := by
  subst hn ha hX
  refine ⟨by rw [zb _ _ a3, zb _ _ (Ne.symm a2)]; exact hB, ((bs.upd zl).upd z0).upd z2, za _ _ _, .inr ⟨l2, cap, h0, a1, a2, zl, ?_, ?_, hc⟩⟩
  · rw [zb _ _ (Ne.symm a3)]; exact za _ _ _
  · rw [zb _ _ a2, zb _ _ a1]; exact za _ _ _
theorem z2f {σ τ2 : Heap} {lo lr : Nat} {ob X B : Ob} {pre pre' : List Exp} {τ : Heap} (bs : Sub σ τ2) (z2 : σ lr = none) (a3 : lr ≠ lo) (hB : τ2 lr = some B) (hX : ob = X) (nm : zh pre' = zh pre) (b0 : ∀ y, y ≠ lr → τ2 y = τ y)
    (hJ : (zh pre = [] ∧ τ lo = some (.cells [.nil])) ∨ ∃ la cap, zh pre ≠ [] ∧ la ≠ lo ∧ la ≠ lr ∧ σ la = none ∧ τ lo = some (.cells [.grow la (zh pre).length cap]) ∧
    τ la = some (.arr 9 1 cap (wq (zh pre))) ∧ (zh pre).length ≤ cap) : NJ σ lo lr ob pre' (upd τ2 lr X) := by
  subst hX
  refine ⟨bs.upd z2, za _ _ _, ?_⟩
  rw [nm]
  rcases hJ with ⟨h1, h2⟩ | ⟨la, cap, h1, m1, m2, m3, h2, h3, h4⟩
  · exact .inl ⟨h1, by rw [zb _ _ (Ne.symm a3), b0 _ (Ne.symm a3)]; exact h2⟩
  · exact .inr ⟨la, cap, h1, m1, m2, m3, by rw [zb _ _ (Ne.symm a3), b0 _ (Ne.symm a3)]; exact h2, by rw [zb _ _ m2, b0 _ m2]; exact h3, h4⟩
theorem zt5 (l : List ByteArray) : wq l = (l.map bl).map strV := by
  unfold wq; rw [List.map_map]; exact List.map_congr_left fun s _ => (z1v s).symm
theorem zu9 {σ : Heap} {k vk vn : Int} {vt : ByteArray} {vl : List Val} {s c : ByteArray} {ps : List Exp} (he : ETame (.mk k (.mk vk vn vt vl) s c ps)) (hlen : (vu (.mk k (.mk vk vn vt vl) s c ps)).length ≤ 1000) :
    CRun Tryz.prog 118 [Exp.cv (.mk k (.mk vk vn vt vl) s c ps)] σ (· = .ret (.vec (wq ((zh (vu (.mk k (.mk vk vn vt vl) s c ps))).foldl ins []))) σ) := by
  obtain ⟨N, hN⟩ : ∃ N, N = (zh (vu (.mk k (.mk vk vn vt vl) s c ps))).foldl ins [] := ⟨_, rfl⟩
  rw [← hN]
  suffices hs : CRun Tryz.prog 118 [Exp.cv (.mk k (.mk vk vn vt vl) s c ps)] σ (fun out => (N = [] ∧ ∃ τ, Sub σ τ ∧ out = .ret (.vec []) τ) ∨ ∃ la cap τ, Sub σ τ ∧ σ la = none ∧ τ la = some (.arr 9 1 cap (wq N)) ∧ out = .ret (.grow la (wq N).length cap) τ) by
    refine hs.freeze fun out h => ?_
    rcases h with ⟨h0, τ, hs, rfl⟩ | ⟨la, cap, τ, hs, hl, hla, rfl⟩
    · exact ⟨.ret (.vec (wq N)) σ, ⟨hs, [], .inl (.one (by rw [h0]; exact .same _)), by simp⟩, rfl⟩
    · refine ⟨.ret (.vec (wq N)) σ, ⟨hs, [la], .inl (.one ?_), fun l' h' => by rw [List.mem_singleton.1 h']; exact hl⟩, rfl⟩
      have := Frz.grow (σ := τ) la (wq N).length cap _ _ _ hla (Nat.le_refl _)
      rwa [List.take_of_length_le (Nat.le_refl _)] at this
  refine jq (X := G [1,3,20]) (z0h _) (zn8 _) (body := yz Tryz.f118) Tryz.func118 rfl (by kernel_rfl) (by kernel_rfl) ?_
  rw [Tryz.ntmps118]
  conv => whnf
  repeat' (first | (refine GetN.go ?_ (h := by exact z7u ‹_›)) | (refine CallN.many (zh7) ?_; rintro _ ⟨lb, hlb, rfl⟩) | refine Zq ?_ | refine Zu (fun l hl => ?_)) <;> try (conv => whnf)
  rename_i l1 h1
  refine RngN.all rfl fun f lr ob hfn hob hlr => ?_
  have n1 : l ≠ l1 := fun e => by subst e; rw [za] at hl; cases hl
  have n2 : lb ≠ l := fun e => by subst e; rw [za] at hlb; cases hlb
  have n3 : lb ≠ l1 := fun e => by subst e; rw [zb _ _ (Ne.symm n1), za] at hlb; cases hlb
  have n4 : lr ≠ lb := fun e => by subst e; rw [za] at hlr; cases hlr
  have n5 : lr ≠ l := fun e => by subst e; rw [zb _ _ (Ne.symm n2), za] at hlr; cases hlr
  have z0 : σ l = none := by rwa [zb _ _ n1] at hl
  have z1 : σ lb = none := by rwa [zb _ _ n2, zb _ _ n3] at hlb
  have n6 : lr ≠ l1 := fun e => by subst e; rw [zb _ _ (Ne.symm n3), zb _ _ (Ne.symm n1), za] at hlr; cases hlr
  have z2 : σ lr = none := by rwa [zb _ _ n4, zb _ _ n5, zb _ _ n6] at hlr
  refine ⟨NJ σ l lr ob (vu (.mk k (.mk vk vn vt vl) s c ps)), ?_, fun τ hJ => hJ.rec_, ?_⟩
  · have start : NJ σ l lr ob [] (upd (upd (upd (upd σ l1 (.cells [i64 k, i64 vk, i64 vn, .sc (.string vt), .vec (Val.cvs vl), .sc (.string s), .sc (.string c), .vec (Exp.cvs ps)])) l (.cells [.nil])) lb
        (.cells [i64 k, i64 vk, i64 vn, .sc (.string vt), .vec (Val.cvs vl), .sc (.string s), .sc (.string c), .vec (Exp.cvs ps)])) lr ob) :=
      ⟨((((Sub.refl σ).upd h1).upd z0).upd z1).upd z2, za _ _ _, .inl ⟨rfl, by rw [zb _ _ (Ne.symm n5), zb _ _ (Ne.symm n2)]; exact za _ _ _⟩⟩
    refine CRun.mono (zh6 (l := lr) (lb := lb) (J := NJ σ l lr ob) (K := fun _ => False) ?_ he rfl start (by rw [zb _ _ (Ne.symm n4)]; exact za _ _ _)) ?_
    · intro pre x r τ hall hJ
      obtain ⟨hsub, hrec, hout⟩ := hJ
      rw [hob] at hrec
      have hpl : pre.length ≤ 999 := by rw [← hall] at hlen; simp at hlen; omega
      have hnl := zck pre
      obtain ⟨xk, ⟨x1, x2, x3, x4⟩, xs, xc, xp⟩ := x
      refine zod (X := G [1,3,20]) (z0h _) (zn8 _) hfn hrec rfl rfl rfl ?_
      conv => whnf
      repeat' (first | refine Zh ?_ | refine Za ?_ | refine Zb ?_ | refine Zc ?_ | refine Zd ?_ | refine Ze ?_ | refine Zg ?_ | refine Zv (fun h => ?_) (fun h => ?_) | refine Zj ?_ | refine Zk ?_ | refine Zl ?_ | refine Zm ?_ | refine Zn ?_ | refine Zo ?_ | refine Zp ?_ | refine Zq ?_ | refine Zu (fun l hl => ?_) | refine Zr ?_) <;> try (conv => whnf)
      refine AsgN.mk hrec fun τ2 hτ2 => ?_
      have b0 : ∀ y, y ≠ lr → τ2 y = τ y := fun y hy => by rw [hτ2, zb _ _ hy]
      have bl := hτ2 ▸ za τ lr _
      have bs : Sub σ τ2 := by rw [hτ2]; exact hsub.upd z2
      have b3 := b0 l (Ne.symm n5)
      have nm := zpd pre [.mk xk (.mk x1 x2 x3 x4) xs xc xp]
      by_cases hx : xk = 2 ∨ xk = 3
      · rw [zbh, show zm4 (.mk xk (.mk x1 x2 x3 x4) xs xc xp) = [xs] from if_pos hx, show zh [] = [] from rfl, List.append_nil] at nm
        have nm0 : zh (pre ++ [.mk xk (.mk x1 x2 x3 x4) xs xc xp]) ≠ [] := by rw [nm]; simp
        have nml : (zh (pre ++ [.mk xk (.mk x1 x2 x3 x4) xs xc xp])).length = (zh pre).length + 1 := by rw [nm]; simp
        rcases hout with ⟨e0, h4⟩ | ⟨la, cap, e0, m1, m2, m3, h4, h5, h6⟩
        · rw [← b3] at h4
          have arr0 : [CV.sc (.string xs)] = wq (zh (pre ++ [.mk xk (.mk x1 x2 x3 x4) xs xc xp])) := by rw [nm, e0]; rfl
          have len0 : 1 = (zh (pre ++ [.mk xk (.mk x1 x2 x3 x4) xs xc xp])).length := by rw [nml, e0]; rfl
          clear hτ2 hall
          conv => whnf
          repeat' (first | (refine Need.mk ⟨by simp only [List.length_cons, List.length_nil]; omega, by simp only [List.length_cons, List.length_nil]; omega, ElsOk.one rfl rfl⟩ ?_) | (refine AllocC.go (fun l2 cap2 hl2 hcap2 => ?_)) | (refine GetN.go ?_ (h := by exact z7t h4 ‹_›)) | refine Za ?_ | refine Zg ?_ | refine Zv (fun h => ?_) (fun h => ?_) | refine Zj ?_) <;> try (conv => whnf)
          all_goals
            have q := fun X (hX : ob = X) => zm3 (ob := ob) (X := X) (n := 1) (cap := cap2) (l2 := l2) bs z0 z2 (zoj bs hl2) (fun e => by subst e; rw [h4] at hl2; cases hl2) (fun e => by subst e; rw [bl] at hl2; cases hl2) n5 bl len0 arr0 nm0 hcap2 hX
            exact RndN.mk (q _ hob).1 ⟨_, Sub.refl _, .inl ⟨_, (q _ hob).2, rfl⟩⟩
        · have b4 := b0 la m2
          rw [← b3] at h4
          rw [← b4] at h5
          have et : List.take (zh pre).length (wq (zh pre)) = wq (zh pre) := List.take_of_length_le (by rw [jk]; omega)
          have ed : List.drop ((zh pre).length + [CV.sc (.string xs)].length) (wq (zh pre)) = [] := List.drop_eq_nil_of_le (by rw [jk]; simp)
          have arrN : List.take (zh pre).length (wq (zh pre)) ++ [CV.sc (.string xs)] = wq (zh (pre ++ [.mk xk (.mk x1 x2 x3 x4) xs xc xp])) := by rw [et, nm, zx9]; rfl
          have arrI : List.take (zh pre).length (wq (zh pre)) ++ [CV.sc (.string xs)] ++ List.drop ((zh pre).length + [CV.sc (.string xs)].length) (wq (zh pre)) = wq (zh (pre ++ [.mk xk (.mk x1 x2 x3 x4) xs xc xp])) := by rw [ed, List.append_nil]; exact arrN
          clear hτ2 hall et ed
          conv => whnf
          repeat' (first | (refine Need.mk ⟨rfl, by rw [jk]; omega, by simp only [List.length_cons, List.length_nil]; omega, by simp only [List.length_cons, List.length_nil]; omega, ElsOk.one rfl rfl⟩ ?_) | (refine AllocC.go (fun l2 cap2 hl2 hcap2 => ?_)) | (refine GetN.go ?_ (h := by first | exact z7t h4 ‹_› | exact z7s m1 h4)) | refine Za ?_ | refine Zg ?_ | refine Zv (fun h => ?_) (fun h => ?_) | refine Zj ?_) <;> try (conv => whnf)
          all_goals first
            | exact RndN.mk (zm3 (ob := ob) (n := (zh pre).length + 1) (cap := cap) (l2 := la) bs z0 z2 m3 m1 m2 n5 bl nml.symm arrI nm0 (by simpa using h) hob).1
                ⟨_, Sub.refl _, .inl ⟨_, (zm3 (ob := ob) (n := (zh pre).length + 1) (cap := cap) (l2 := la) bs z0 z2 m3 m1 m2 n5 bl nml.symm arrI nm0 (by simpa using h) hob).2, rfl⟩⟩
            | exact RndN.mk (zm3 (ob := ob) (n := (zh pre).length + 1) (cap := cap2) (l2 := l2) bs z0 z2 (zoj bs hl2) (fun e => by subst e; rw [h4] at hl2; cases hl2) (fun e => by subst e; rw [bl] at hl2; cases hl2) n5 bl nml.symm arrN nm0 hcap2 hob).1
                ⟨_, Sub.refl _, .inl ⟨_, (zm3 (ob := ob) (n := (zh pre).length + 1) (cap := cap2) (l2 := l2) bs z0 z2 (zoj bs hl2) (fun e => by subst e; rw [h4] at hl2; cases hl2) (fun e => by subst e; rw [bl] at hl2; cases hl2) n5 bl nml.symm arrN nm0 hcap2 hob).2, rfl⟩⟩
      · rw [zbh, show zm4 (.mk xk (.mk x1 x2 x3 x4) xs xc xp) = [] from if_neg hx, show zh [] = [] from rfl, List.append_nil, List.append_nil] at nm
        have q := fun X hX => z2f (ob := ob) (X := X) bs z2 n5 bl hX nm b0 hout
        clear hτ2 hall
        conv => whnf
        repeat' (first | refine Zb ?_) <;> try (conv => whnf)
        all_goals exact RndN.mk bl ⟨_, Sub.refl _, .inl ⟨_, q _ hob, rfl⟩⟩
    · rintro out (⟨τ, hJ, rfl⟩ | ⟨τ, hK, rfl⟩)
      · exact ⟨_, _, hJ, rfl⟩
      · exact hK.elim
  · rintro τ τ' ⟨hsub, hrec, hout⟩ hd
    have d0 : ∀ y, y ≠ lr → τ' y = τ y := fun y hy => by rw [hd, zbr _ hy]
    have hs' : Sub σ τ' := fun y o hy => by
      have : y ≠ lr := fun e => by subst e; rw [z2] at hy; cases hy
      rw [d0 y this]; exact hsub y o hy
    have d1 := d0 l (Ne.symm n5)
    have hnl := zck (vu (.mk k (.mk vk vn vt vl) s c ps))
    generalize zh (vu (.mk k (.mk vk vn vt vl) s c ps)) = ns at hN hout hnl
    rcases hout with ⟨e0, h4⟩ | ⟨la, cap, e0, m1, m2, m3, h4, h5, h6⟩
    · rw [← d1] at h4
      rw [e0] at hN
      have c1 := zyb (σ := τ')
      have c2 : CRun Tryz.prog 127 [.vec []] τ' (· = .ret (.vec []) τ') := ze2 zvs (by kernel_rfl) (by kernel_rfl)
      clear hd d0 d1 hob he
      conv => whnf
      repeat' (first | (refine ZC c1 ?_) | (refine ZC c2 ?_) | refine Zj ?_ | refine Zp ?_ | refine Zr ?_) <;> try (conv => whnf)
      all_goals exact .inl ⟨hN, _, hs', rfl⟩
    · have d2 := d0 la m2
      rw [← d1] at h4
      rw [← d2, zt5] at h5
      have so := zt9 ns
      rw [← hN] at so
      have lb1 : (ns.map bl).length = ns.length := List.length_map ..
      have lb2 : ((ns.map bl).mergeSort fun x y => decide (x ≤ y)).length = ns.length := by rw [List.length_mergeSort, lb1]
      have c1 : CRun Tryz.prog 126 [.grow la ns.length cap] τ' (· = .ret (.tup []) (upd τ' la (.arr 9 1 cap (((ns.map bl).mergeSort fun x y => decide (x ≤ y)).map strV)))) :=
        zw4 z2n (by kernel_rfl) (by kernel_rfl) h5 lb1.symm (by omega)
      have c2 : CRun Tryz.prog 127 [.grow la ns.length cap] (upd τ' la (.arr 9 1 cap (((ns.map bl).mergeSort fun x y => decide (x ≤ y)).map strV))) _ :=
        zns zvs (by kernel_rfl) (by kernel_rfl) (za _ _ _) lb2.symm (by omega) (zp3 _)
      rw [so, ← zt5, xe, List.length_map] at c2
      have h4' : (upd τ' la (.arr 9 1 cap (((ns.map bl).mergeSort fun x y => decide (x ≤ y)).map strV))) l = some (.cells [.grow la ns.length cap]) := z7s m1 h4
      have hlN : N.length = (wq N).length := (jk N).symm
      rw [hlN] at c2
      have hsf : Sub σ (upd τ' la (.arr 9 1 cap (wq N))) := hs'.upd m3
      clear hd d0 d1 d2 hob he so lb1 lb2 hN h5
      generalize upd τ' la (.arr 9 1 cap (((ns.map bl).mergeSort fun x y => decide (x ≤ y)).map strV)) = τ2 at c1 c2 h4'
      conv => whnf
      repeat' (first | (refine ZC c1 ?_) | (refine ZC c2 ?_) | refine Zj ?_ | refine Zq ?_ | refine Zr ?_) <;> try (conv => whnf)
      all_goals exact .inr ⟨la, cap, _, hsf, m3, za _ _ _, rfl⟩
end Go.Proofs.YtlamgfimgadnmaaGreat
namespace Go.Proofs.YtlamgfimgadnmaaGreat
open Go Go.CL
set_option maxRecDepth 10000
def zax (l : List ByteArray) (s : ByteArray) : Bool := l.any fun x => decide (x = s)
theorem hasB_iff {l : List ByteArray} {s : ByteArray} : zax l s = true ↔ s ∈ l := by
  simp only [zax, List.any_eq_true, decide_eq_true_eq]
  constructor
  · rintro ⟨x, h, rfl⟩; exact h
  · intro h; exact ⟨s, h, rfl⟩
theorem z2x {l : List ByteArray} {s : ByteArray} (h : ∀ x ∈ l, ¬ x = s) : zax l s = false := by
  rw [← Bool.not_eq_true, hasB_iff]; exact fun e => h s e rfl
theorem zpv {raw : List CV} {v : CV} {σ τ : Heap} {post : COut → Prop} (hs : Sub σ τ) (h : post (.ret v σ)) : Fin raw v τ post := .ret σ hs h
end Go.Proofs.YtlamgfimgadnmaaGreat
