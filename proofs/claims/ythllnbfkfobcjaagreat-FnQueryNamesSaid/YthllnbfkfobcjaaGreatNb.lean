/-
  Contracts of the functions that the law reaches.
-/
import Derived.Test.YthllnbfkfobcjaaGreatNa
set_option linter.unusedVariables false
set_option linter.unusedSimpArgs false
namespace Go.Proofs.YthllnbfkfobcjaaGreat
open Go Go.CL
set_option maxRecDepth 10000
def In04 (k : Int) : Prop := 0 ≤ k ∧ k ≤ 4
theorem firstN_in {α : Type} {f : α → Int} (h : ∀ x, In04 (f x)) : ∀ l, In04 (firstN f l)
  | [] => ⟨by simp [firstN], by simp [firstN]⟩
  | x :: r => by
    simp only [firstN]
    split
    · exact firstN_in h r
    · exact h x
theorem runN_in {α : Type} {f : List ByteArray → α → Int × List ByteArray} (h : ∀ L x, In04 (f L x).1) : ∀ l L, In04 (runN f l L).1
  | [], L => ⟨by simp [runN], by simp [runN]⟩
  | x :: r, L => by
    simp only [runN]
    split
    · exact runN_in h r _
    · exact h L x
theorem exprN_in (L : List ByteArray) (e : Exp) : In04 (exprN L e) := by
  unfold exprN In04; split
  · omega
  · split <;> omega
theorem spotN_in (cr : Bool) (L : List ByteArray) (s : Sp) : In04 (spotN cr L s).1 := by
  unfold spotN
  split
  · split
    · exact ⟨by dsimp only; omega, by dsimp only; omega⟩
    · exact ⟨by dsimp only; omega, by dsimp only; omega⟩
  · exact firstN_in (f := patN L) (fun p => exprN_in L p.e) _
theorem pathN_in (cr : Bool) (L : List ByteArray) (p : Pth) : In04 (pathN cr L p).1 := by
  unfold pathN
  split
  · refine runN_in (fun L h => ?_) _ _
    unfold hopN
    split
    · exact ⟨by dsimp only; omega, by dsimp only; omega⟩
    · split
      · exact ⟨by dsimp only; omega, by dsimp only; omega⟩
      · exact spotN_in _ _ _
  · exact spotN_in _ _ _
theorem itN_in (L : List ByteArray) (i : It) : In04 (itN L i) := by
  obtain ⟨⟨k, v, s, c, ps⟩, n⟩ := i
  have hN : itN L ⟨.mk k v s c ps, n⟩ = if k = 14 then 0 else if k = 15 then headN L ps else exprN L (.mk k v s c ps) := rfl
  rw [hN]
  split
  · exact ⟨by omega, by omega⟩
  · split
    · cases ps with
      | nil => exact ⟨by simp [headN], by simp [headN]⟩
      | cons x r => exact exprN_in L x
    · exact exprN_in L _
theorem clN_in (L : List ByteArray) (c : Cl) : In04 (clN L c).1 := by
  unfold clN
  split
  · exact runN_in (fun L p => pathN_in _ L p) _ _
  · split
    · split
      · exact ⟨by dsimp only; omega, by dsimp only; omega⟩
      · exact firstN_in (itN_in L) _
    · split
      · refine firstN_in (fun t => ?_) _
        unfold toN; split
        · exact exprN_in L _
        · exact ⟨by omega, by omega⟩
      · split
        · refine firstN_in (fun t => ?_) _
          unfold nmN; split
          · exact ⟨by omega, by omega⟩
          · exact ⟨by omega, by omega⟩
        · split
          · split
            · exact ⟨by dsimp only; omega, by dsimp only; omega⟩
            · exact ⟨by dsimp only; omega, by dsimp only; omega⟩
          · exact exprN_in L _
theorem checkN_in (q : List Cl) : In04 (checkN q) := by
  unfold checkN
  split
  · split
    · exact runN_in clN_in _ _
    · exact ⟨by omega, by omega⟩
  · exact ⟨by omega, by omega⟩
def yesC : Cl := ⟨3, [], .mk 1 (.mk 1 1 ⟨#[]⟩ []) ⟨#[]⟩ ⟨#[]⟩ [], ⟨#[]⟩, [], false, [], -1, -1, [], [], false⟩
def noC : Cl := ⟨3, [], .mk 2 (.mk 0 0 ⟨#[]⟩ []) ⟨#[110, 111, 116, 116, 104, 101, 114, 101]⟩ ⟨#[]⟩ [], ⟨#[]⟩, [], false, [], -1, -1, [], [], false⟩
theorem yesC_g : ClG yesC := clgE ⟨by omega, by omega⟩ (.mk (.mk (by omega) (by omega) (by decide) (by simp) (by simp)) (by decide) (by decide) (by simp) (by simp)) (Nat.zero_le _)
theorem noC_g : ClG noC := clgE ⟨by omega, by omega⟩ (.mk (.mk (by omega) (by omega) (by decide) (by simp) (by simp)) (by decide) (by decide) (by simp) (by simp)) (Nat.zero_le _)
theorem yesC_ok : clOk yesC = true := by decide +kernel
theorem noC_ok : clOk noC = true := by decide +kernel
theorem yesC_n : clN [] yesC = (0, []) := by decide +kernel
theorem noC_n : (clN [] noC).1 = 3 := by decide +kernel
theorem ends_cons {q : List Cl} {c : Cl} (h1 : 1 ≤ q.length) (hc : ¬ c.kind = 6) (h : endsOk q = true) : endsOk (c :: q) = true := by
  refine List.all_eq_true.2 fun i hi => ?_
  have hi := List.mem_range.1 hi
  rw [List.length_cons] at hi
  match i with
  | 0 =>
    rw [endAt_of (c := c) rfl, List.length_cons, if_neg (by omega), decide_eq_false hc]; rfl
  | i + 1 =>
    have hi' : i < q.length := by omega
    have h2 := List.all_eq_true.1 h i (List.mem_range.2 hi')
    rw [endAt_of (List.getElem?_eq_getElem hi')] at h2
    rw [endAt_of (c := q[i]) (by rw [List.getElem?_cons_succ]; exact List.getElem?_eq_getElem hi'), List.length_cons]
    by_cases e : i + 1 = q.length
    · rw [if_pos e] at h2; rw [if_pos (by omega)]; exact h2
    · rw [if_neg e] at h2; rw [if_neg (by omega)]; exact h2
theorem check_parts {q : List Cl} (h : checkN q = 0) : clsOk q = true ∧ endsOk q = true ∧ (runN clN q []).1 = 0 := by
  unfold checkN at h
  split at h
  · rename_i h1
    split at h
    · rename_i h2; exact ⟨h1, h2, h⟩
    · cases h
  · cases h
theorem cls_cons {q : List Cl} {c : Cl} (hc : clOk c = true) (hl : q.length < 8) (h : clsOk q = true) : clsOk (c :: q) = true := by
  simp only [clsOk, Bool.and_eq_true, decide_eq_true_eq] at h ⊢
  refine ⟨⟨by simp, by simp; omega⟩, ?_⟩
  rw [List.all_cons, hc, h.2]; rfl
theorem check_yes {q : List Cl} (h : checkN q = 0) (hl : q.length < 8) : checkN (yesC :: q) = 0 := by
  obtain ⟨h1, h2, h3⟩ := check_parts h
  have h0 : 1 ≤ q.length := by simp only [clsOk, Bool.and_eq_true, decide_eq_true_eq] at h1; omega
  unfold checkN
  rw [if_pos (cls_cons yesC_ok hl h1), if_pos (ends_cons h0 (by decide) h2)]
  simp only [runN, yesC_n, if_true]
  exact h3
theorem check_no {q : List Cl} (h : checkN q = 0) (hl : q.length < 8) : checkN (noC :: q) = 3 := by
  obtain ⟨h1, h2, h3⟩ := check_parts h
  have h0 : 1 ≤ q.length := by simp only [clsOk, Bool.and_eq_true, decide_eq_true_eq] at h1; omega
  unfold checkN
  rw [if_pos (cls_cons noC_ok hl h1), if_pos (ends_cons h0 (by decide) h2)]
  simp only [runN]
  rw [if_neg (by rw [noC_n]; decide), noC_n]
theorem check_end {q : List Cl} (h : checkN q = 0) (hl : q.length < 8) : checkN (q ++ [yesC]) = 2 := by
  obtain ⟨h1, h2, h3⟩ := check_parts h
  have h4 : clsOk (q ++ [yesC]) = true := by
    simp only [clsOk, Bool.and_eq_true, decide_eq_true_eq] at h1 ⊢
    refine ⟨⟨by simp, by simp; omega⟩, ?_⟩
    rw [List.all_append, h1.2, List.all_cons, yesC_ok]; rfl
  have h5 : endsOk (q ++ [yesC]) = false := by
    rw [← Bool.not_eq_true]
    intro h
    have h6 := List.all_eq_true.1 h q.length (List.mem_range.2 (by simp))
    rw [endAt_of (c := yesC) (by simp), if_pos (by simp)] at h6
    exact absurd h6 (by decide)
  unfold checkN
  rw [if_pos h4, h5]; rfl
set_option maxHeartbeats 4000000 in
theorem lawCheck {σ : Heap} {bs : List CV} (hb : BytesOk bs) : CRun Tryz.prog 4 [.vec bs] σ Yes := by
  refine crun_of (X := X) X_ok X_sat (body := bodyOf Tryz.f4) Tryz.func4 rfl (by kernel_rfl) (by kernel_rfl) ?_
  rw [Tryz.ntmps4]
  by_cases h2 : 1048576 < bs.length
  · conv => whnf
    repeat' (first | refine Fork.yp ?_ | refine finGo ?_) <;> try (conv => whnf)
    exact ⟨_, rfl⟩
  conv => whnf
  repeat' (first | ((refine CallN.many (drawQ_c hb (by omega)) ?_; rintro _ ⟨cs, σ1, g, h1, h9, rfl⟩)) | refine Fork.np ?_ | refine ExtN.wr ?_) <;> try (conv => whnf)
  have e3 := cls_len cs
  have hin := checkN_in cs
  unfold In04 at hin
  have con : ∀ {q : List Cl} (τ : Heap), q.length ≤ 1000 → (∀ x ∈ q, ClG x) → CRun Tryz.prog 18 [.vec (cls q)] τ (· = .ret (i64 (checkN q)) τ) := fun τ hl hg => iCheck_c hl (fun c hc => (hg c hc).t) (fun c hc hk => (clOk_sh hk).1)
  have c1 := con σ1 (by omega) g
  have c2 := sCheck_c (σ := σ1) (q := cs) (by omega) (fun c hc => (g c hc).t) (fun c hc => (g c hc).o) (fun c hc hk => clOk_sh hk)
  by_cases hk : checkN cs = 0 ∧ cs.length < 8
  case neg =>
    generalize checkN cs = k at *
    conv => whnf
    repeat' (first | (refine CallN.one c1 ?_) | (refine CallN.one c2 ?_) | refine Fork.yp ?_ | refine Fork.nn ?_ | refine Fork.dn (fun h => ?_) (fun h => ?_) | refine ExtN.ext ?_ | refine finGo ?_) <;> try (conv => whnf)
    all_goals first
      | (exfalso; omega)
      | exact ⟨_, rfl⟩
  obtain ⟨hk0, hk8⟩ := hk
  have c3 := con σ1 (q := yesC :: cs) (by simp; omega) (fun x hx => by
    rcases List.mem_cons.1 hx with rfl | hx
    · exact yesC_g
    · exact g x hx)
  have c4 := con σ1 (q := noC :: cs) (by simp; omega) (fun x hx => by
    rcases List.mem_cons.1 hx with rfl | hx
    · exact noC_g
    · exact g x hx)
  have c5 := con σ1 (q := cs ++ [yesC]) (by simp; omega) (mem_snoc g yesC_g)
  rw [check_yes hk0 hk8] at c3
  rw [check_no hk0 hk8] at c4
  rw [check_end hk0 hk8, cls_app] at c5
  rw [hk0] at c1 c2
  have ne : (cls cs).isEmpty = false := List.isEmpty_eq_false_iff.2 (List.ne_nil_of_length_pos (by omega))
  conv => whnf
  repeat' (first | (refine CallN.one c1 ?_) | (refine CallN.one c2 ?_) | (refine CallN.one c3 ?_) | (refine CallN.one c4 ?_) | (refine CallN.one c5 ?_) | (refine Need.ap2 ?_ (h := cls_els) (h1 := by simp only [List.length_replicate, List.length_cons, List.length_nil]; omega) (h3 := by omega) (h2 := rfl)) | (refine Need.ap1 ?_ (h1 := by simp only [List.length_replicate, List.length_append]; omega) (h2 := by simp only [List.length_append])) | refine Fork.yp ?_ | refine Fork.np ?_ | refine Fork.nn ?_ | refine Fork.nb ?_ | refine Need.draw ?_ | refine ExtN.ext ?_ | refine finGo ?_) <;> try (conv => whnf)
  all_goals exact ⟨_, rfl⟩
end Go.Proofs.YthllnbfkfobcjaaGreat
