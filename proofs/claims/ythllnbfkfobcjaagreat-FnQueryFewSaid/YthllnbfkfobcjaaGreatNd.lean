/-
  Contracts of the functions that the law reaches.
-/
import Derived.Test.YthllnbfkfobcjaaGreatNc
set_option linter.unusedVariables false
set_option linter.unusedSimpArgs false
namespace Go.Proofs.YthllnbfkfobcjaaGreat
open Go Go.CL
set_option maxRecDepth 10000
def retC (is : List It) : Cl := ⟨6, [], .mk 0 (.mk 0 0 ⟨#[]⟩ []) ⟨#[]⟩ ⟨#[]⟩ [], ⟨#[]⟩, is, false, [], -1, -1, [], [], false⟩
def fewQ (q : List Cl) : List Cl := q.dropLast ++ [retC ((lastC q).items.take 1)]
theorem asReturn_c {σ : Heap} {is : List It} : CRun Tryz.prog 24 [.vec (its is)] σ (· = .ret (Cl.cv (retC is)) σ) := by
  refine crun_of (X := X) X_ok X_sat (body := bodyOf Tryz.f24) Tryz.func24 rfl (by kernel_rfl) (by kernel_rfl) ?_
  rw [Tryz.ntmps24]
  conv => whnf
  repeat' (first | refine OrdN.one ?_ | refine Fork.yp ?_ | refine Fork.np ?_ | refine Fork.ny ?_ | refine Fork.nn ?_ | refine Fork.yb ?_ | refine Fork.nb ?_ | refine Fork.dp (fun h => ?_) (fun h => ?_) | refine Fork.dn (fun h => ?_) (fun h => ?_) | (refine Fork.mk (fun h => ?_) (fun h => ?_) <;> simp only [decide_eq_true_eq, decide_eq_false_iff_not, Bool.not_eq_true', Bool.not_eq_false', Bool.or_eq_true, Bool.or_eq_false_iff] at h) | refine GetN.go ?_ | refine Need.ap1 ?_ | refine Need.ap0 ?_ | refine Need.go ?_ | refine Need.draw ?_ | refine ElemN.go ?_ | refine ExtN.ext ?_ | refine ExtN.wr ?_ | refine AllocN.go (fun l hl => ?_) | refine finGo ?_) <;> try (conv => whnf)
  all_goals rfl
theorem cls_drop {q : List Cl} (h : 1 ≤ q.length) : List.drop (Int.toNat 0) (List.take (((cls q).length : Int) - 1).toNat (cls q)) = cls q.dropLast := by
  have e : (((cls q).length : Int) - 1).toNat = q.length - 1 := by rw [cls_len]; omega
  rw [e]
  show List.drop 0 _ = _
  rw [List.drop_zero, List.dropLast_eq_take]
  unfold cls; rw [List.map_take]
theorem asEnd_c {σ : Heap} {q : List Cl} (h1 : 1 ≤ q.length) (h9 : q.length ≤ 100) {c : Cl} : CRun Tryz.prog 23 [.vec (cls q), c.cv] σ (· = .ret (.vec (cls (q.dropLast ++ [c]))) σ) := by
  have e3 := cls_len q
  have e4 := cls_len q.dropLast
  have e5 : q.dropLast.length = q.length - 1 := List.length_dropLast
  have hd := cls_drop h1
  have hl : (List.drop (Int.toNat 0) (List.take (((cls q).length : Int) - 1).toNat (cls q))).length = q.length - 1 := by rw [hd]; omega
  have hN1 : ∀ n : Nat, n ≤ 100 → n * 296 ≤ 140737488355328 ∧ n ≤ 9223372036854775807 := fun n hn => by omega
  have hf : ∀ (x : List CV), x = cls q.dropLast → COut.ret (.vec (x ++ [c.cv])) σ = .ret (.vec (cls (q.dropLast ++ [c]))) σ := fun x hx => by rw [hx, cls_app]
  have hf0 : (List.drop (Int.toNat 0) (List.take (((cls q).length : Int) - 1).toNat (cls q))).isEmpty = true → COut.ret (.vec [c.cv]) σ = .ret (.vec (cls (q.dropLast ++ [c]))) σ := fun h => by
    rw [hd, List.isEmpty_iff] at h
    rw [cls_app, h]; rfl
  obtain ⟨k, ps, ⟨ek, ⟨vk, vn, vt, vl⟩, es, ec, ep⟩, n, is, di, os, sk, li, ts, ns, de⟩ := c
  cases hb : (List.drop (Int.toNat 0) (List.take (((cls q).length : Int) - 1).toNat (cls q))).isEmpty
  all_goals
    refine crun_of (X := X) X_ok X_sat (body := bodyOf Tryz.f23) Tryz.func23 rfl (by kernel_rfl) (by kernel_rfl) ?_
    rw [Tryz.ntmps23]
    conv => whnf
    repeat' (first | (refine Need.mk ⟨by omega, by omega, by omega, .inl rfl⟩ ?_) | (refine Need.ap2 ?_ (h := cls_sub) (h1 := hN1 _ (by simp only [List.length_replicate, List.length_append]; omega)) (h3 := List.length_pos_iff.2 (List.isEmpty_eq_false_iff.1 hb)) (h2 := by first | rfl | simp only [List.length_append])) | (refine Need.ap1 ?_ (h1 := hN1 _ (by simp only [List.length_replicate, List.length_append, List.length_nil]; omega)) (h2 := by first | rfl | simp only [List.length_append])) | refine OrdN.one ?_ | refine Fork.yp ?_ | refine Fork.np ?_ | refine Fork.ny ?_ | refine Fork.nn ?_ | refine Fork.yb ?_ | refine Fork.nb ?_ | refine Fork.dp (fun h => ?_) (fun h => ?_) | refine Fork.dn (fun h => ?_) (fun h => ?_) | (refine Fork.mk (fun h => ?_) (fun h => ?_) <;> simp only [decide_eq_true_eq, decide_eq_false_iff_not, Bool.not_eq_true', Bool.not_eq_false', Bool.or_eq_true, Bool.or_eq_false_iff] at h) | refine GetN.go ?_ | refine Need.ap1 ?_ | refine Need.ap0 ?_ | refine Need.go ?_ | refine Need.draw ?_ | refine ElemN.go ?_ | refine ExtN.ext ?_ | refine ExtN.wr ?_ | refine AllocN.go (fun l hl => ?_) | refine finGo ?_) <;> try (conv => whnf)
  · exact hf _ hd
  · exact hf0 hb
theorem runN_snoc {α : Type} {f : List ByteArray → α → Int × List ByteArray} : ∀ {l : List α} {c : α} {L : List ByteArray}, runN f (l ++ [c]) L = if (runN f l L).1 = 0 then f (runN f l L).2 c else runN f l L
  | [], c, L => by
    simp only [List.nil_append, runN, if_true]
    split
    · rename_i h
      rw [← h]
    · rfl
  | x :: r, c, L => by
    simp only [List.cons_append, runN]
    split
    · rename_i h
      exact runN_snoc
    · rename_i h
      first | rfl | rw [if_neg h]
theorem firstN_take {α : Type} {f : α → Int} : ∀ {l : List α}, firstN f l = 0 → firstN f (l.take 1) = 0
  | [], _ => rfl
  | x :: r, h => by
    simp only [firstN] at h
    simp only [List.take_succ_cons, List.take_zero, firstN]
    by_cases e : f x = 0
    · rw [if_pos e]
    · rw [if_neg e] at h ⊢; exact h
theorem last_split {q : List Cl} (h : 1 ≤ q.length) : q = q.dropLast ++ [lastC q] := by
  have hn : q ≠ [] := fun e => by subst e; simp at h
  have e : q.getLast hn = lastC q := by
    have := last_get h
    rw [List.getLast_eq_getElem]
    rw [List.getElem?_eq_getElem (by omega)] at this
    exact Option.some.inj this
  rw [← e]; exact (List.dropLast_concat_getLast hn).symm
theorem retC_g {is : List It} (h : ∀ x ∈ is, ItT x) (h1 : 1 ≤ is.length) (h3 : is.length ≤ 3) : ClG (retC is) := colsG ⟨by omega, by omega⟩ h1 h3 h (by simp) (by simp) ⟨by omega, by omega⟩ ⟨by omega, by omega⟩
theorem retC_ok {is : List It} {os : List Od} {sk li : Int} (h : rowsOk is os sk li = true) : clOk (retC (is.take 1)) = true := by
  simp only [rowsOk, Bool.and_eq_true, decide_eq_true_eq] at h
  have h0 := h.1
  have h1 := List.all_eq_true.1 h.2.2.2.2.1 0 (List.mem_range.2 (by omega))
  have e1 : (is.take 1).length = 1 := by rw [List.length_take]; omega
  have h2 : rowsOk (is.take 1) [] (-1) (-1) = true := by
    simp only [rowsOk, Bool.and_eq_true, decide_eq_true_eq]
    refine ⟨⟨by omega, by omega⟩, by simp, ⟨by omega, by omega⟩, ⟨by omega, by omega⟩, ?_, by simp⟩
    rw [e1]
    refine List.all_eq_true.2 fun i hi => ?_
    have hi := List.mem_range.1 hi
    have : i = 0 := by omega
    subst this
    have hx : (is.take 1)[0]? = is[0]? := by rw [List.getElem?_take, if_pos (by omega)]
    unfold itAt at h1 ⊢
    rw [hx]
    rw [List.getElem?_eq_getElem (show 0 < is.length by omega)] at h1 ⊢
    exact h1
  unfold clOk retC
  dsimp only
  rw [if_neg (by omega), if_neg (by omega), if_neg (by omega), if_pos (by omega), h2]
  rfl
theorem few_law {q : List Cl} (h : checkN q = 0) (h6 : (lastC q).kind = 6) : checkN (fewQ q) = 0 ∧ namesQ (fewQ q) = (namesC (lastC q)).take 1 ∧ writesQ (fewQ q) = writesQ q := by
  obtain ⟨h1, h8, ho, k1, k2⟩ := last_ok h
  obtain ⟨p1, p2, p3⟩ := check_parts h
  have hq := last_split h1
  rcases end_form ho k1 k2 with ⟨-, hr⟩ | ⟨hn, -⟩
  rotate_left
  · exact absurd h6 hn
  have el : (fewQ q).length = q.length := by unfold fewQ; rw [List.length_append, List.length_dropLast]; simp; omega
  have hlast : lastC (fewQ q) = retC ((lastC q).items.take 1) := by
    have := last_get (q := fewQ q) (by omega)
    rw [el] at this
    have e2 : (fewQ q)[q.length - 1]? = some (retC ((lastC q).items.take 1)) := by
      unfold fewQ
      rw [List.getElem?_append_right (by rw [List.length_dropLast]; omega), List.length_dropLast]; simp
    rw [e2] at this
    exact (Option.some.inj this).symm
  have q1 : clsOk (fewQ q) = true := by
    simp only [clsOk, Bool.and_eq_true, decide_eq_true_eq] at p1 ⊢
    refine ⟨by omega, ?_⟩
    have h2 := p1.2
    rw [hq, List.all_append, Bool.and_eq_true] at h2
    unfold fewQ
    rw [List.all_append, h2.1, List.all_cons, retC_ok hr]; rfl
  have q2 : endsOk (fewQ q) = true := by
    refine List.all_eq_true.2 fun i hi => ?_
    have hi := List.mem_range.1 hi
    rw [el] at hi
    by_cases e : i + 1 = q.length
    · have e3 : i = (fewQ q).length - 1 := by omega
      have hx := last_get (q := fewQ q) (by omega)
      rw [← e3, hlast] at hx
      rw [endAt_of hx, if_pos (by omega)]
      exact decide_eq_true ⟨by show (6 : Int) ≤ 6; omega, by show (6 : Int) ≤ 9; omega⟩
    · have h2 := List.all_eq_true.1 p2 i (List.mem_range.2 hi)
      have hd : i < q.dropLast.length := by rw [List.length_dropLast]; omega
      have a1 : q[i]? = some q.dropLast[i] := by
        conv => lhs; rw [hq]
        rw [List.getElem?_append_left hd, List.getElem?_eq_getElem hd]
      have a2 : (fewQ q)[i]? = some q.dropLast[i] := by
        unfold fewQ
        rw [List.getElem?_append_left hd, List.getElem?_eq_getElem hd]
      rw [endAt_of a1, if_neg e] at h2
      rw [endAt_of a2, if_neg (by omega)]
      exact h2
  have q3 : (runN clN (fewQ q) []).1 = 0 := by
    rw [hq, runN_snoc] at p3
    unfold fewQ
    rw [runN_snoc]
    by_cases e : (runN clN q.dropLast []).1 = 0
    · rw [if_pos e] at p3 ⊢
      generalize (runN clN q.dropLast []).2 = L at *
      unfold clN at p3
      rw [if_neg (by omega), if_pos (by omega)] at p3
      have f0 : firstN (itN L) (lastC q).items = 0 := by
        by_cases e2 : firstN (itN L) (lastC q).items = 0
        · exact e2
        · rw [if_neg e2] at p3; exact absurd p3 e2
      unfold clN retC
      dsimp only
      rw [if_neg (by omega), if_pos (by omega), if_pos (firstN_take f0)]
    · rw [if_neg e] at p3; exact absurd p3 e
  have hc : checkN (fewQ q) = 0 := by unfold checkN; rw [if_pos q1, if_pos q2]; exact q3
  refine ⟨hc, ?_, ?_⟩
  · unfold namesQ
    rw [if_pos hc, hlast]
    unfold namesC retC
    dsimp only
    rw [List.map_take]
  · unfold writesQ
    rw [decide_eq_true hc, decide_eq_true h, Bool.true_and, Bool.true_and]
    conv => rhs; rw [hq]
    unfold fewQ
    have w1 : wrC (lastC q) = false := decide_eq_false (by omega)
    have w2 : wrC (retC ((lastC q).items.take 1)) = false := rfl
    rw [List.any_append, List.any_append, List.any_cons, List.any_cons, w1, w2]
set_option maxHeartbeats 4000000 in
theorem lawFew {σ : Heap} {bs : List CV} (hb : BytesOk bs) : CRun Tryz.prog 5 [.vec bs] σ Yes := by
  refine crun_of (X := X) X_ok X_sat (body := bodyOf Tryz.f5) Tryz.func5 rfl (by kernel_rfl) (by kernel_rfl) ?_
  rw [Tryz.ntmps5]
  by_cases h2 : 1048576 < bs.length
  · conv => whnf
    repeat' (first | refine OrdN.one ?_ | refine Fork.yp ?_ | refine Fork.np ?_ | refine Fork.ny ?_ | refine Fork.nn ?_ | refine Fork.yb ?_ | refine Fork.nb ?_ | refine Fork.dp (fun h => ?_) (fun h => ?_) | refine Fork.dn (fun h => ?_) (fun h => ?_) | (refine Fork.mk (fun h => ?_) (fun h => ?_) <;> simp only [decide_eq_true_eq, decide_eq_false_iff_not, Bool.not_eq_true', Bool.not_eq_false', Bool.or_eq_true, Bool.or_eq_false_iff] at h) | refine GetN.go ?_ | refine Need.ap1 ?_ | refine Need.ap0 ?_ | refine Need.go ?_ | refine Need.draw ?_ | refine ElemN.go ?_ | refine ExtN.ext ?_ | refine ExtN.wr ?_ | refine AllocN.go (fun l hl => ?_) | refine finGo ?_) <;> try (conv => whnf)
    exact ⟨_, rfl⟩
  conv => whnf
  repeat' (first | ((refine CallN.many (drawN_c hb (by omega)) ?_; rintro _ ⟨q, σ1, g, h1, h9, rfl⟩)) | refine OrdN.go ?_ | refine Fork.yp ?_ | refine Fork.np ?_ | refine Fork.ny ?_ | refine Fork.nn ?_ | refine Fork.yb ?_ | refine Fork.nb ?_ | refine Fork.dp (fun h => ?_) (fun h => ?_) | refine Fork.dn (fun h => ?_) (fun h => ?_) | (refine Fork.mk (fun h => ?_) (fun h => ?_) <;> simp only [decide_eq_true_eq, decide_eq_false_iff_not, Bool.not_eq_true', Bool.not_eq_false', Bool.or_eq_true, Bool.or_eq_false_iff] at h) | refine GetN.go ?_ | refine Need.ap1 ?_ | refine Need.ap0 ?_ | refine Need.go ?_ | refine Need.draw ?_ | refine ElemN.go ?_ | refine ExtN.ext ?_ | refine ExtN.wr ?_ | refine AllocN.go (fun l hl => ?_) | refine finGo ?_) <;> try (conv => whnf)
  have e3 := cls_len q
  have c1 := iNames_c (σ := σ1) h1 (by omega) g
  have c3 := sNames_c (σ := σ1) h1 (by omega) g
  have e4 := sts_len (namesQ q)
  by_cases h0 : (namesQ q).length = 0
  · have e0 : namesQ q = [] := List.eq_nil_of_length_eq_zero h0
    rw [e0] at c1 c3
    have c6 := asText_c (σ := σ1) (a := []) (b := []) (by simp) (by simp)
    rw [decide_eq_true rfl] at c6
    conv => whnf
    repeat' (first | (refine CallN.one c1 ?_) | (refine CallN.one c3 ?_) | (refine CallN.one c6 ?_) | refine OrdN.one ?_ | refine Fork.yp ?_ | refine Fork.np ?_ | refine Fork.ny ?_ | refine Fork.nn ?_ | refine Fork.yb ?_ | refine Fork.nb ?_ | refine Fork.dp (fun h => ?_) (fun h => ?_) | refine Fork.dn (fun h => ?_) (fun h => ?_) | (refine Fork.mk (fun h => ?_) (fun h => ?_) <;> simp only [decide_eq_true_eq, decide_eq_false_iff_not, Bool.not_eq_true', Bool.not_eq_false', Bool.or_eq_true, Bool.or_eq_false_iff] at h) | refine GetN.go ?_ | refine Need.ap1 ?_ | refine Need.ap0 ?_ | refine Need.go ?_ | refine Need.draw ?_ | refine ElemN.go ?_ | refine ExtN.ext ?_ | refine ExtN.wr ?_ | refine AllocN.go (fun l hl => ?_) | refine finGo ?_) <;> try (conv => whnf)
    all_goals exact ⟨_, rfl⟩
  have hk : checkN q = 0 := by
    by_cases hk : checkN q = 0
    · exact hk
    · exact absurd (by unfold namesQ; rw [if_neg hk]; rfl) h0
  have e0 : namesQ q = namesC (lastC q) := by unfold namesQ; rw [if_pos hk]
  obtain ⟨x1, x2, -, -⟩ := end_law hk
  rw [e0] at h0 e4 c1 c3
  have h6 := x2.1 (by omega)
  obtain ⟨f1, f2, f3⟩ := few_law hk h6
  obtain ⟨l1, l2⟩ := last_at h1
  have hi : (lastC q).items.length = (namesC (lastC q)).length := by unfold namesC; rw [List.length_map]
  have gr : ClG (retC ((lastC q).items.take 1)) := retC_g (fun x hx => (g _ l2).t.it x (List.mem_of_mem_take hx)) (by rw [List.length_take]; omega) (by rw [List.length_take]; omega)
  have gf : ∀ x ∈ fewQ q, ClG x := mem_snoc (fun x hx => g x (by rw [List.dropLast_eq_take] at hx; exact List.mem_of_mem_take hx)) gr
  have el : (fewQ q).length = q.length := by unfold fewQ; rw [List.length_append, List.length_dropLast]; simp; omega
  have c4 := iNames_c (σ := σ1) (q := fewQ q) (by omega) (by omega) gf
  have c5 := iCheck_c (σ := σ1) (q := fewQ q) (by omega) (fun c hc => (gf c hc).t) (fun c hc hk => (clOk_sh hk).1)
  have c6 := iWrites_c (σ := σ1) (q := fewQ q) (by omega) gf
  have c7 := iWrites_c (σ := σ1) (q := q) (by omega) g
  have c8 := asReturn_c (σ := σ1) (is := (lastC q).items.take 1)
  have c9 := asEnd_c (σ := σ1) h1 (by omega) (c := retC ((lastC q).items.take 1))
  have ca := asText_c (σ := σ1) (a := namesC (lastC q)) (b := namesC (lastC q)) (by omega) (by omega)
  have cb := asText_c (σ := σ1) (a := (namesC (lastC q)).take 1) (b := (namesC (lastC q)).take 1) (by rw [List.length_take]; omega) (by rw [List.length_take]; omega)
  rw [f1] at c5
  rw [f2] at c4
  rw [f3] at c6
  rw [decide_eq_true rfl] at ca cb
  have m1 : ∀ l : List ByteArray, sts (l.take 1) = (sts l).take 1 := fun l => by unfold sts; rw [List.map_take]
  have m2 : ∀ l : List It, its (l.take 1) = (its l).take 1 := fun l => by unfold its; rw [List.map_take]
  have cc : CRun Tryz.prog 12 [.vec (sts ((namesC (lastC q)).take 1)), .vec ((sts (namesC (lastC q))).take 1)] σ1 (· = .ret (.sc (.bool true)) σ1) := by
    rw [← m1]; exact cb
  rw [m2] at c8
  have c9 : CRun Tryz.prog 23 [.vec (cls q), (retC ((lastC q).items.take 1)).cv] σ1 (· = .ret (.vec (cls (fewQ q))) σ1) := c9
  generalize fewQ q = fq at *
  generalize namesC (lastC q) = N at *
  generalize hr : retC ((lastC q).items.take 1) = rc at *
  generalize lastC q = lc at *
  obtain ⟨k, ps, ⟨ek, ⟨vk, vn, vt, vl⟩, es, ec, ep⟩, n, is, di, os, sk, li, ts, ns, de⟩ := lc
  dsimp only at hi c8
  have e5 := its_len is
  subst hr
  cases hw : writesQ q <;> rw [hw] at c6 c7
  all_goals
    conv => whnf
    repeat' (first | (refine CallN.one c1 ?_) | (refine CallN.one c3 ?_) | (refine CallN.one c4 ?_) | (refine CallN.one c5 ?_) | (refine CallN.one c6 ?_) | (refine CallN.one c7 ?_) | (refine CallN.one c8 ?_) | (refine CallN.one c9 ?_) | (refine CallN.one ca ?_) | (refine CallN.one cc ?_) | (refine ElemN.go ?_ (h := l1)) | (refine Need.mk ⟨by omega, by omega, by omega, .inl rfl⟩ ?_) | refine OrdN.one ?_ | refine Fork.yp ?_ | refine Fork.np ?_ | refine Fork.ny ?_ | refine Fork.nn ?_ | refine Fork.yb ?_ | refine Fork.nb ?_ | refine Fork.dp (fun h => ?_) (fun h => ?_) | refine Fork.dn (fun h => ?_) (fun h => ?_) | (refine Fork.mk (fun h => ?_) (fun h => ?_) <;> simp only [decide_eq_true_eq, decide_eq_false_iff_not, Bool.not_eq_true', Bool.not_eq_false', Bool.or_eq_true, Bool.or_eq_false_iff] at h) | refine GetN.go ?_ | refine Need.ap1 ?_ | refine Need.ap0 ?_ | refine Need.go ?_ | refine Need.draw ?_ | refine ElemN.go ?_ | refine ExtN.ext ?_ | refine ExtN.wr ?_ | refine AllocN.go (fun l hl => ?_) | refine finGo ?_) <;> try (conv => whnf)
    all_goals exact ⟨_, rfl⟩
end Go.Proofs.YthllnbfkfobcjaaGreat
