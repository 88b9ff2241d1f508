/-
  Contracts of the functions that the law reaches.
-/
import Derived.Test.YthllnbfkfobcjaaGreatGC
import Derived.Test.YthllnbfkfobcjaaGreatGFwb
set_option linter.unusedVariables false
set_option linter.unusedSimpArgs false
namespace Go.Proofs.YthllnbfkfobcjaaGreat
open Go Go.CL
set_option maxRecDepth 10000
structure GoodP (q : Pr) : Prop where
  name : q.name.size ≤ 7
  val : Tame q.val
def Cs (xs : List CV) : Prop := ∃ ps, xs = prs ps ∧ ∀ q ∈ ps, GoodP q
theorem Cs.nil : Cs [] := ⟨[], rfl, by simp⟩
theorem Cs.snoc {xs : List CV} {s : ByteArray} {k n : Int} {t : ByteArray} {l : List Val} (h : Cs xs) (hs : s.size ≤ 7) (hv : Tame (.mk k n t l)) : Cs (xs ++ [.agg [.sc (.string s), i64 k, i64 n, .sc (.string t), .vec (Val.cvs l)]]) := by
  obtain ⟨ps, rfl, hp⟩ := h
  refine ⟨ps ++ [⟨s, .mk k n t l⟩], by simp [prs, Pr.cv], fun q hq => ?_⟩
  rcases List.mem_append.1 hq with hq | hq
  · exact hp q hq
  · rw [List.mem_singleton.1 hq]; exact ⟨hs, hv⟩
theorem tame0 {k n : Int} (hk : -100 ≤ k ∧ k ≤ 100) (hn : -2000000000 ≤ n ∧ n ≤ 2000000000) : Tame (.mk k n ⟨#[]⟩ []) := .mk hk hn (by decide) (by decide) (by simp)
theorem drawLit_c {l : Nat} {σ : Heap} {bs : List CV} (hb : BytesOk bs) (hl : bs.length ≤ 2000) {p : Int} (hp : 0 ≤ p) (hp' : p < 549755813888) : CRun Tryz.prog 76 [.ptr (.g l) 0] (rd σ l bs p) (VPost σ l bs p 30) := by
  have c1 : cost 1 = 20 := rfl
  refine crun_of (X := X) X_ok X_sat (body := bodyOf Tryz.f76) Tryz.func76 rfl (by kernel_rfl) (by kernel_rfl) ?_
  rw [Tryz.ntmps76]
  conv => whnf
  repeat' (first | (refine CallN.many (pick_n hb hl (by omega) (by omega)) ?_; rintro _ ⟨k, hk1, hk2, rfl⟩) | (refine CallN.many (plain_c hb hl 1 (by omega) (by omega) (by omega) (by omega) (by omega)) ?_; rintro _ ⟨⟨vk, vn, vt, vl⟩, p', hv, hp1, hp2, rfl⟩) | refine Fork.dp (fun h => ?_) (fun h => ?_) | refine ExtN.wr ?_ | refine finGo ?_) <;> try (conv => whnf)
  all_goals first
    | exact ⟨.mk _ _ _ [], _, tame0 (by omega) (by omega), by omega, by omega, rfl⟩
    | exact ⟨.mk vk vn vt vl, p', hv, by omega, by omega, rfl⟩
inductive ESm : Exp → Prop
  | mk {k : Int} {v : Val} {s c : ByteArray} {ps : List Exp} (hs : s.size ≤ 7) (h : ∀ e ∈ ps, ESm e) : ESm (.mk k v s c ps)
theorem ESm.inv {k : Int} {v : Val} {s c : ByteArray} {ps : List Exp} (h : ESm (.mk k v s c ps)) : s.size ≤ 7 ∧ ∀ e ∈ ps, ESm e := by
  cases h with
  | mk h1 h2 => exact ⟨h1, h2⟩
def PartsO (σ σ' : Heap) (l0 : Nat) (P : CV) (ps : List Exp) : Prop := (P = .nil ∧ ps = []) ∨ ∃ l1 cap, P = .grow l1 (Exp.cvs ps).length cap ∧ σ l1 = none ∧ l1 ≠ l0 ∧ σ' l1 = some (.arr 33 8 cap (Exp.cvs ps))
def ListO (L : CV) (vl : List Val) : Prop := (L = .nil ∧ vl = []) ∨ L = .vec (Val.cvs vl)
theorem ListO.nil : ListO .nil [] := .inl ⟨rfl, rfl⟩
theorem ListO.vec {vl : List Val} : ListO (.vec (Val.cvs vl)) vl := .inr rfl
structure EGood (k vk vn : Int) (vt : ByteArray) (vl : List Val) (s c : ByteArray) (ps : List Exp) : Prop where
  t : ETame (.mk k (.mk vk vn vt vl) s c ps)
  m : ESm (.mk k (.mk vk vn vt vl) s c ps)
  l : ps.length ≤ 3
def EOpen (σ : Heap) (l0 : Nat) (bs : List CV) (p : Int) (N : Nat) (out : COut) : Prop := ∃ k vk vn vt vl s c ps L P σ' p', EGood k vk vn vt vl s c ps ∧ p ≤ p' ∧ p' ≤ p + N ∧ Sub σ σ' ∧ ListO L vl ∧ PartsO σ σ' l0 P ps ∧
  out = .ret (.agg [i64 k, i64 vk, i64 vn, .sc (.string vt), L, .sc (.string s), .sc (.string c), P]) (rd σ' l0 bs p')
def EDraw (σ : Heap) (l0 : Nat) (bs : List CV) (p : Int) (N : Nat) (out : COut) : Prop := ∃ k vk vn vt vl s c ps p', EGood k vk vn vt vl s c ps ∧ p ≤ p' ∧ p' ≤ p + N ∧ out = .ret (Exp.cv (.mk k (.mk vk vn vt vl) s c ps)) (rd σ l0 bs p')
theorem rd_sub {σ σ' : Heap} {l0 : Nat} {bs : List CV} {p : Int} (h : Sub σ σ') : Sub (rd σ l0 bs p) (rd σ' l0 bs p) := by
  intro x ob hx
  unfold rd at hx ⊢
  by_cases e : x = l0
  · subst e; rw [upd_same] at hx ⊢; exact hx
  · rw [upd_ne _ _ e] at hx ⊢; exact h x ob hx
theorem rd_ne {σ : Heap} {l0 x : Nat} {bs : List CV} {p : Int} (h : x ≠ l0) : rd σ l0 bs p x = σ x := upd_ne _ _ h
theorem ne_rd {σ : Heap} {l0 x : Nat} {bs : List CV} {p : Int} (h : rd σ l0 bs p x = none) : x ≠ l0 := fun e => by subst e; unfold rd at h; rw [upd_same] at h; cases h
theorem no_rd {σ : Heap} {l0 x : Nat} {bs : List CV} {p : Int} (h : rd σ l0 bs p x = none) : σ x = none := by rw [rd_ne (ne_rd h)] at h; exact h
theorem rd_upd {σ : Heap} {l0 x : Nat} {bs : List CV} {p : Int} {A : Ob} (h : rd σ l0 bs p x = none) : upd (rd σ l0 bs p) x A = rd (upd σ x A) l0 bs p := by
  unfold rd; exact upd_comm _ _ _ (Ne.symm (ne_rd h))
theorem rd_upd' {σ : Heap} {l0 x : Nat} {bs : List CV} {p : Int} {A : Ob} (h : x ≠ l0) : upd (rd σ l0 bs p) x A = rd (upd σ x A) l0 bs p := by
  unfold rd; exact upd_comm _ _ _ (Ne.symm h)
theorem to_rd {f : FuncId} {args : List CV} {post : COut → Prop} {σ : Heap} {l0 x : Nat} {bs : List CV} {p : Int} {A : Ob} (hn : rd σ l0 bs p x = none) (h : CRun Tryz.prog f args (rd (upd σ x A) l0 bs p) post) : CRun Tryz.prog f args (upd (rd σ l0 bs p) x A) post := by
  rw [rd_upd hn]; exact h
def PartsF (P : CV) (ps : List Exp) : Prop := (P = .nil ∧ ps = []) ∨ P = .vec (Exp.cvs ps)
theorem eopen_frz {σ σ' : Heap} {l0 : Nat} {bs : List CV} {p' : Int} {k vk vn : Int} {vt s c : ByteArray} {ps : List Exp} {L P : CV} (hs : Sub σ σ') (hP : PartsO σ σ' l0 P ps) :
    ∃ P', PartsF P' ps ∧ FrzOut (.ret (.agg [i64 k, i64 vk, i64 vn, .sc (.string vt), L, .sc (.string s), .sc (.string c), P]) (rd σ' l0 bs p')) (.ret (.agg [i64 k, i64 vk, i64 vn, .sc (.string vt), L, .sc (.string s), .sc (.string c), P']) (rd σ l0 bs p')) := by
  rcases hP with ⟨rfl, rfl⟩ | ⟨l1, cap, rfl, h1, h2, h3⟩
  · exact ⟨.nil, .inl ⟨rfl, rfl⟩, rd_sub hs, [], .inl (.one (.same _)), by simp⟩
  · refine ⟨.vec (Exp.cvs ps), .inr rfl, rd_sub hs, [l1], .inl (.agg ?_), fun x hx => ?_⟩
    · have hg : rd σ' l0 bs p' l1 = some (.arr 33 8 cap (Exp.cvs ps)) := by rw [rd_ne h2]; exact h3
      have := Frz.grow (σ := rd σ' l0 bs p') l1 (Exp.cvs ps).length cap _ _ _ hg (Nat.le_refl _)
      rw [List.take_of_length_le (Nat.le_refl _)] at this
      exact .cons (.same _) (.cons (.same _) (.cons (.same _) (.cons (.same _) (.cons (.same _) (.cons (.same _) (.cons (.same _) (.cons this .nil)))))))
    · rw [List.mem_singleton.1 hx, rd_ne h2]; exact h1
theorem eopen_weak {τ : Heap} {k vk vn : Int} {vt s c : ByteArray} {vl : List Val} {ps : List Exp} {L P : CV} (hL : ListO L vl) (hP : PartsF P ps) :
    OutW (.ret (.agg [i64 k, i64 vk, i64 vn, .sc (.string vt), L, .sc (.string s), .sc (.string c), P]) τ) (.ret (Exp.cv (.mk k (.mk vk vn vt vl) s c ps)) τ) := by
  have w1 : NilW L (.vec (Val.cvs vl)) := by
    rcases hL with ⟨rfl, rfl⟩ | rfl
    · exact .inr ⟨rfl, rfl⟩
    · exact .inl rfl
  have w2 : NilW P (.vec (Exp.cvs ps)) := by
    rcases hP with ⟨rfl, rfl⟩ | rfl
    · exact .inr ⟨rfl, rfl⟩
    · exact .inl rfl
  exact ⟨rfl, NilWs.agg (.cons (.inl rfl) (.cons (.inl rfl) (.cons (.inl rfl) (.cons (.inl rfl) (.cons w1 (.cons (.inl rfl) (.cons (.inl rfl) (.cons w2 .nil))))))))⟩
theorem eopen_split {f : FuncId} {args : List CV} {σ0 : Heap} {σ : Heap} {l0 : Nat} {bs : List CV} {p : Int} {N : Nat} (C : Int → Prop) (h : CRun Tryz.prog f args σ0 (EOpen σ l0 bs p N)) :
    CRun Tryz.prog f args σ0 (fun out => (∃ k vk vn vt vl s c ps L P σ' p', C p' ∧ EGood k vk vn vt vl s c ps ∧ p ≤ p' ∧ p' ≤ p + N ∧ Sub σ σ' ∧ ListO L vl ∧ PartsO σ σ' l0 P ps ∧
      out = .ret (.agg [i64 k, i64 vk, i64 vn, .sc (.string vt), L, .sc (.string s), .sc (.string c), P]) (rd σ' l0 bs p')) ∨
      ∃ k vk vn vt vl s c ps p', ¬ C p' ∧ EGood k vk vn vt vl s c ps ∧ p ≤ p' ∧ p' ≤ p + N ∧ out = .ret (Exp.cv (.mk k (.mk vk vn vt vl) s c ps)) (rd σ l0 bs p')) := by
  classical
  have h1 : CRun Tryz.prog f args σ0 (fun out => (∃ k vk vn vt vl s c ps L P σ' p', C p' ∧ EGood k vk vn vt vl s c ps ∧ p ≤ p' ∧ p' ≤ p + N ∧ Sub σ σ' ∧ ListO L vl ∧ PartsO σ σ' l0 P ps ∧
      out = .ret (.agg [i64 k, i64 vk, i64 vn, .sc (.string vt), L, .sc (.string s), .sc (.string c), P]) (rd σ' l0 bs p')) ∨
      ∃ k vk vn vt vl s c ps L P p', ¬ C p' ∧ EGood k vk vn vt vl s c ps ∧ p ≤ p' ∧ p' ≤ p + N ∧ ListO L vl ∧ PartsF P ps ∧ out = .ret (.agg [i64 k, i64 vk, i64 vn, .sc (.string vt), L, .sc (.string s), .sc (.string c), P]) (rd σ l0 bs p')) := by
    refine h.freeze fun out ⟨k, vk, vn, vt, vl, s, c, ps, L, P, σ', p', g, q1, q2, hs, hL, hP, e⟩ => ?_
    subst e
    by_cases hC : C p'
    · exact ⟨_, FrzOut.refl _, .inl ⟨k, vk, vn, vt, vl, s, c, ps, L, P, σ', p', hC, g, q1, q2, hs, hL, hP, rfl⟩⟩
    · obtain ⟨P', hP', hf⟩ := eopen_frz (bs := bs) (p' := p') (k := k) (vk := vk) (vn := vn) (vt := vt) (s := s) (c := c) (L := L) hs hP
      exact ⟨_, hf, .inr ⟨k, vk, vn, vt, vl, s, c, ps, L, P', p', hC, g, q1, q2, hL, hP', rfl⟩⟩
  refine h1.weak fun out hout => ?_
  rcases hout with hout | ⟨k, vk, vn, vt, vl, s, c, ps, L, P, p', hC, g, q1, q2, hL, hP, e⟩
  · exact ⟨out, OutW.refl _, .inl hout⟩
  · subst e
    exact ⟨_, eopen_weak hL hP, .inr ⟨k, vk, vn, vt, vl, s, c, ps, p', hC, g, q1, q2, rfl⟩⟩
theorem eopen_draw {f : FuncId} {args : List CV} {σ0 : Heap} {σ : Heap} {l0 : Nat} {bs : List CV} {p : Int} {N : Nat} (h : CRun Tryz.prog f args σ0 (EOpen σ l0 bs p N)) : CRun Tryz.prog f args σ0 (EDraw σ l0 bs p N) :=
  (eopen_split (fun _ => False) h).mono fun out ho => by
    rcases ho with ⟨k, vk, vn, vt, vl, s, c, ps, L, P, σ', p', hC, _⟩ | ⟨k, vk, vn, vt, vl, s, c, ps, p', _, g, q1, q2, e⟩
    · exact hC.elim
    · exact ⟨k, vk, vn, vt, vl, s, c, ps, p', g, q1, q2, e⟩
def costE : Nat → Nat
  | 0 => 50
  | d + 1 => 60 + 2 * costE d
theorem egood0 {k vk vn : Int} {vt : ByteArray} {vl : List Val} {s c : ByteArray} (hv : Tame (.mk vk vn vt vl)) (hs : s.size ≤ 7) (hc : c.size ≤ 7) : EGood k vk vn vt vl s c [] :=
  ⟨.mk hv (by omega) (by omega) (by simp) (by simp), .mk hs (by simp), by simp⟩
theorem egoodN {k : Int} {ps : List Exp} (hl : ps.length ≤ 3) (h1 : ∀ e ∈ ps, ETame e) (h2 : ∀ e ∈ ps, ESm e) : EGood k 0 0 ⟨#[]⟩ [] ⟨#[]⟩ ⟨#[]⟩ ps :=
  ⟨.mk (tame0 (by omega) (by omega)) (by decide) (by decide) (by omega) h1, .mk (by decide) h2, hl⟩
theorem eopen_leaf {σ : Heap} {l0 : Nat} {bs : List CV} {p p' : Int} {N : Nat} {k vk vn : Int} {vt : ByteArray} {vl : List Val} {s c : ByteArray} {L : CV} (hv : Tame (.mk vk vn vt vl)) (hs : s.size ≤ 7) (hc : c.size ≤ 7) (h1 : p ≤ p') (h2 : p' ≤ p + N) (hL : ListO L vl) :
    EOpen σ l0 bs p N (.ret (.agg [i64 k, i64 vk, i64 vn, .sc (.string vt), L, .sc (.string s), .sc (.string c), .nil]) (rd σ l0 bs p')) :=
  ⟨k, vk, vn, vt, vl, s, c, [], L, .nil, σ, p', egood0 hv hs hc, h1, h2, Sub.refl _, hL, .inl ⟨rfl, rfl⟩, rfl⟩
def NamesD (xs : List CV) : Prop := Each (fun x => ∃ t : ByteArray, x = .sc (.string t) ∧ t.size ≤ 7) xs ∧ xs.length ≤ 1000
theorem eopen1 {σ : Heap} {l0 l1 : Nat} {bs : List CV} {p p' : Int} {N : Nat} {k : Int} {e1 : Exp} (h1 : rd σ l0 bs p' l1 = none) (t1 : ETame e1) (m1 : ESm e1) (q1 : p ≤ p') (q2 : p' ≤ p + N) :
    EOpen σ l0 bs p N (.ret (.agg [i64 k, i64 0, i64 0, .sc (.string ⟨#[]⟩), .nil, .sc (.string ⟨#[]⟩), .sc (.string ⟨#[]⟩), .grow l1 1 1]) (upd (rd σ l0 bs p') l1 (.arr 33 8 1 [e1.cv]))) := by
  rw [rd_upd h1]
  exact ⟨k, 0, 0, ⟨#[]⟩, [], ⟨#[]⟩, ⟨#[]⟩, [e1], .nil, _, _, p', egoodN (by simp) (by simpa using t1) (by simpa using m1), q1, q2, (Sub.refl σ).upd (no_rd h1), .nil, .inr ⟨l1, 1, rfl, no_rd h1, ne_rd h1, upd_same _ _ _⟩, rfl⟩
theorem none_upd {σ : Heap} {l8 l9 : Nat} {Z : Ob} (h : upd σ l8 Z l9 = none) : σ l9 = none := by
  have ne : l9 ≠ l8 := fun e => by subst e; rw [upd_same] at h; cases h
  rw [upd_ne _ _ ne] at h; exact h
theorem eopen2 {σ : Heap} {l0 l1 l2 : Nat} {bs : List CV} {p p' : Int} {N cap : Nat} {k : Int} {e1 e2 : Exp} {A : Ob} (h1 : σ l1 = none) (h2 : rd (upd σ l1 A) l0 bs p' l2 = none) (t1 : ETame e1) (m1 : ESm e1) (t2 : ETame e2) (m2 : ESm e2) (q1 : p ≤ p') (q2 : p' ≤ p + N) :
    EOpen σ l0 bs p N (.ret (.agg [i64 k, i64 0, i64 0, .sc (.string ⟨#[]⟩), .nil, .sc (.string ⟨#[]⟩), .sc (.string ⟨#[]⟩), .grow l2 2 cap]) (upd (rd (upd σ l1 A) l0 bs p') l2 (.arr 33 8 cap [e1.cv, e2.cv]))) := by
  rw [rd_upd h2]
  exact ⟨k, 0, 0, ⟨#[]⟩, [], ⟨#[]⟩, ⟨#[]⟩, [e1, e2], .nil, _, _, p', egoodN (by simp) (by simpa using ⟨t1, t2⟩) (by simpa using ⟨m1, m2⟩), q1, q2, ((Sub.refl σ).upd h1).upd (none_upd (no_rd h2)), .nil, .inr ⟨l2, cap, rfl, none_upd (no_rd h2), ne_rd h2, upd_same _ _ _⟩, rfl⟩
theorem get_rd {σ : Heap} {l0 l1 : Nat} {bs : List CV} {p q : Int} {A : Ob} (h1 : rd σ l0 bs p l1 = none) : rd (upd σ l1 A) l0 bs q l1 = some A := by rw [rd_ne (ne_rd h1)]; exact upd_same _ _ _
set_option maxHeartbeats 2000000 in
theorem expr_c {l : Nat} {bs xs : List CV} (hb : BytesOk bs) (hl : bs.length ≤ 2000) (hN : NamesD xs) : ∀ (d : Nat) {deep p : Int}, deep ≤ d + 1 → -10 ≤ deep → deep ≤ 1000 → 0 ≤ p → p + costE d < 137438953472 → ∀ (σ : Heap),
    CRun Tryz.prog 79 [.ptr (.g l) 0, .vec xs, i64 deep] (rd σ l bs p) (EOpen σ l bs p (costE d)) := by
  obtain ⟨hx, hlx⟩ := hN
  intro d
  induction d with
  | zero =>
    intro deep p hd hd' hd'' hp hp' σ
    simp only [costE] at hp' ⊢
    refine crun_of (X := G [61,74]) (G_ok _) (G_sat _) (body := bodyOf Tryz.f79) Tryz.func79 rfl (by kernel_rfl) (by kernel_rfl) ?_
    rw [Tryz.ntmps79]
    conv => whnf
    repeat' (first | (refine CallN.many (pick_n hb hl (by omega) (by omega)) ?_; rintro _ ⟨k, hk1, hk2, rfl⟩) | (refine CallN.many (drawLit_c hb hl (by omega) (by omega)) ?_; rintro _ ⟨⟨vk, vn, vt, vl⟩, p', hv, hp1, hp2, rfl⟩) | (refine CallN.many (of_c (m := 7) hb hl (by omega) (by omega) hx (by omega) hlx) ?_; rintro _ ⟨t, ht, rfl⟩) | (refine CallN.many (of_c (m := 7) hb hl (by omega) (by omega) ?_ (Nat.le_of_ble_eq_true rfl) (Nat.le_of_ble_eq_true rfl)) ?_; (repeat' (first | exact (trivial : True) | refine And.intro ?_ ?_ | refine ⟨_, rfl, ?_⟩ | omega | decide)); rintro _ ⟨t2, ht2, rfl⟩) | (refine fin0 ?_) | refine Fork.yp ?_ | refine Fork.dp (fun h => ?_) (fun h => ?_) | refine ExtN.wr ?_) <;> try (conv => whnf)
    all_goals first
      | exact eopen_leaf hv (by decide) (by decide) (by omega) (by omega) .vec
      | exact eopen_leaf (tame0 (by omega) (by omega)) ht ht2 (by omega) (by omega) .nil
      | exact eopen_leaf (tame0 (by omega) (by omega)) ht (by decide) (by omega) (by omega) .nil
      | exact eopen_leaf (tame0 (by omega) (by omega)) ht2 (by decide) (by omega) (by omega) .nil
  | succ d ih =>
    intro deep p hd hd' hd'' hp hp' σ
    simp only [costE] at hp' ⊢
    have ih1 : ∀ {deep p : Int}, deep ≤ d + 1 → -10 ≤ deep → deep ≤ 1000 → 0 ≤ p → p + costE d < 137438953472 → ∀ (σ : Heap), CRun Tryz.prog 79 [.ptr (.g l) 0, .vec xs, i64 deep] (rd σ l bs p) (EDraw σ l bs p (costE d)) := fun h1 h2 h3 h4 h5 σ => eopen_draw (ih h1 h2 h3 h4 h5 σ)
    have ca := fun σ k => @arity_c σ k
    refine crun_of (X := G [61,74]) (G_ok _) (G_sat _) (body := bodyOf Tryz.f79) Tryz.func79 rfl (by kernel_rfl) (by kernel_rfl) ?_
    rw [Tryz.ntmps79]
    conv => whnf
    repeat' (first | (refine CallN.many (pick_n hb hl (by omega) (by omega)) ?_; rintro _ ⟨k, hk1, hk2, rfl⟩) | (refine CallN.many (drawLit_c hb hl (by omega) (by omega)) ?_; rintro _ ⟨⟨vk, vn, vt, vl⟩, p', hv, hp1, hp2, rfl⟩) | (refine CallN.many (of_c (m := 7) hb hl (by omega) (by omega) hx (by omega) hlx) ?_; rintro _ ⟨t, ht, rfl⟩) | (refine CallN.many (of_c (m := 7) hb hl (by omega) (by omega) ?_ (Nat.le_of_ble_eq_true rfl) (Nat.le_of_ble_eq_true rfl)) ?_; (repeat' (first | exact (trivial : True) | refine And.intro ?_ ?_ | refine ⟨_, rfl, ?_⟩ | omega | decide)); rintro _ ⟨t2, ht2, rfl⟩) | (refine CallN.many (one_c (lo := 5) (hi := 13) hb hl (by omega) (by omega) ?_ (Nat.le_of_ble_eq_true rfl) (Nat.le_of_ble_eq_true rfl)) ?_; (repeat' (first | exact (trivial : True) | refine And.intro ?_ ?_ | refine ⟨_, rfl, ?_⟩ | omega | decide)); rintro _ ⟨kk, hkk1, hkk2, rfl⟩) | ((refine CallN.many (ih1 (by omega) (by omega) (by omega) (by omega) (by omega) _) ?_; rintro _ ⟨ek, evk, evn, evt, evl, es, ec, eps, p1, g1, hq1, hq2, rfl⟩)) | ((refine CallN.many (to_rd ‹_› (ih1 (by omega) (by omega) (by omega) (by omega) (by omega) _)) ?_; rintro _ ⟨fk, fvk, fvn, fvt, fvl, fs, fc, fps, p2, g2, hq3, hq4, rfl⟩)) | (refine CallN.one (ca _ _) ?_) | (refine AllocN.go (fun l1 hl1 => ?_)) | (refine AllocC.go (fun l2 cap hl2 hcap => ?_)) | (refine GetN.go ?_ (h := get_rd ‹_›)) | (refine Need.go ?_ (h := ⟨rfl, Nat.le_of_ble_eq_true rfl, Nat.le_of_ble_eq_true rfl, Nat.le_of_ble_eq_true rfl, ElsOk.one rfl rfl⟩)) | (refine fin0 ?_) | refine OrdN.go ?_ | refine Fork.nb ?_ | refine Fork.dp (fun h => ?_) (fun h => ?_) | refine Need.go ?_ | refine Need.draw ?_ | refine ExtN.ext ?_ | refine ExtN.wr ?_) <;> try (conv => whnf)
    all_goals first
      | exact eopen_leaf hv (by decide) (by decide) (by omega) (by omega) .vec
      | exact eopen_leaf (tame0 (by omega) (by omega)) ht ht2 (by omega) (by omega) .nil
      | exact eopen_leaf (tame0 (by omega) (by omega)) ht (by decide) (by omega) (by omega) .nil
      | exact eopen_leaf (tame0 (by omega) (by omega)) ht2 (by decide) (by omega) (by omega) .nil
      | exact eopen2 (no_rd hl1) hl2 g1.t g1.m g2.t g2.m (by omega) (by omega)
      | exact eopen1 hl1 g1.t g1.m (by omega) (by omega)
def EFin (σ : Heap) (l0 : Nat) (bs : List CV) (p : Int) (N : Nat) (out : COut) : Prop := ∃ e p', ETame e ∧ ESm e ∧ p ≤ p' ∧ p' ≤ p + N ∧ out = .ret (Exp.cv e) (rd σ l0 bs p')
def PartsT (ρ τ : Heap) (P : CV) (ps : List Exp) : Prop := PartsF P ps ∨ ∃ l1 cap xs, P = .grow l1 (Exp.cvs ps).length cap ∧ ρ l1 = none ∧ τ l1 = some (.arr 33 8 cap xs) ∧ xs.take (Exp.cvs ps).length = Exp.cvs ps ∧ (Exp.cvs ps).length ≤ xs.length
def EOut (σ : Heap) (l0 : Nat) (bs : List CV) (p : Int) (N : Nat) (out : COut) : Prop := ∃ k vk vn vt vl s c ps L P τ p', ETame (.mk k (.mk vk vn vt vl) s c ps) ∧ ESm (.mk k (.mk vk vn vt vl) s c ps) ∧ p ≤ p' ∧ p' ≤ p + N ∧ Sub (rd σ l0 bs p') τ ∧ ListO L vl ∧ PartsT (rd σ l0 bs p') τ P ps ∧
  out = .ret (.agg [i64 k, i64 vk, i64 vn, .sc (.string vt), L, .sc (.string s), .sc (.string c), P]) τ
theorem eout_fin {f : FuncId} {args : List CV} {σ0 : Heap} {σ : Heap} {l0 : Nat} {bs : List CV} {p : Int} {N : Nat} (h : CRun Tryz.prog f args σ0 (EOut σ l0 bs p N)) : CRun Tryz.prog f args σ0 (EFin σ l0 bs p N) := by
  have h1 : CRun Tryz.prog f args σ0 (fun out => ∃ k vk vn vt vl s c ps L P p', ETame (.mk k (.mk vk vn vt vl) s c ps) ∧ ESm (.mk k (.mk vk vn vt vl) s c ps) ∧ p ≤ p' ∧ p' ≤ p + N ∧ ListO L vl ∧ PartsF P ps ∧
      out = .ret (.agg [i64 k, i64 vk, i64 vn, .sc (.string vt), L, .sc (.string s), .sc (.string c), P]) (rd σ l0 bs p')) := by
    refine h.freeze fun out ⟨k, vk, vn, vt, vl, s, c, ps, L, P, τ, p', g1, g2, q1, q2, hs, hL, hP, e⟩ => ?_
    subst e
    rcases hP with hP | ⟨l1, cap, xs, rfl, n1, n2, n3, n4⟩
    · exact ⟨.ret (.agg [i64 k, i64 vk, i64 vn, .sc (.string vt), L, .sc (.string s), .sc (.string c), P]) (rd σ l0 bs p'), ⟨hs, [], .inl (.one (.same _)), by simp⟩, k, vk, vn, vt, vl, s, c, ps, L, P, p', g1, g2, q1, q2, hL, hP, rfl⟩
    · refine ⟨.ret (.agg [i64 k, i64 vk, i64 vn, .sc (.string vt), L, .sc (.string s), .sc (.string c), .vec (Exp.cvs ps)]) (rd σ l0 bs p'), ⟨hs, [l1], .inl (.agg ?_), fun x hx => ?_⟩, k, vk, vn, vt, vl, s, c, ps, L, _, p', g1, g2, q1, q2, hL, .inr rfl, rfl⟩
      · have := Frz.grow (σ := τ) l1 (Exp.cvs ps).length cap _ _ _ n2 n4
        rw [n3] at this
        exact .cons (.same _) (.cons (.same _) (.cons (.same _) (.cons (.same _) (.cons (.same _) (.cons (.same _) (.cons (.same _) (.cons this .nil)))))))
      · rw [List.mem_singleton.1 hx]; exact n1
  refine h1.weak fun out ⟨k, vk, vn, vt, vl, s, c, ps, L, P, p', g1, g2, q1, q2, hL, hP, e⟩ => ?_
  subst e
  exact ⟨_, eopen_weak hL hP, _, p', g1, g2, q1, q2, rfl⟩
def eCells : Exp → List CV
  | .mk k (.mk vk vn vt vl) s c ps => [i64 k, i64 vk, i64 vn, .sc (.string vt), .vec (Val.cvs vl), .sc (.string s), .sc (.string c), .vec (Exp.cvs ps)]
theorem get_rd2 {σ : Heap} {l0 l1 : Nat} {bs : List CV} {q : Int} {A : Ob} (h : σ l1 = some A) (h1 : l1 ≠ l0) : rd σ l0 bs q l1 = some A := by rw [rd_ne h1]; exact h
theorem esm_set {k k' : Int} {v v' : Val} {s s' c c' : ByteArray} {ps : List Exp} (h : ESm (.mk k v s c ps)) (hs : s'.size ≤ 7) : ESm (.mk k' v' s' c' ps) := .mk hs h.inv.2
theorem etame_set {k k' : Int} {v : Val} {s s' c : ByteArray} {ps : List Exp} (h : ETame (.mk k v s c ps)) (hs : s'.size ≤ 1000) : ETame (.mk k' v s' c ps) := by
  obtain ⟨h1, h2, h3, h4, h5⟩ := h.inv
  exact .mk h1 hs h3 h4 h5
theorem eout_f {σ : Heap} {l0 : Nat} {bs : List CV} {p p' : Int} {N : Nat} {k vk vn : Int} {vt : ByteArray} {vl : List Val} {s c : ByteArray} {ps : List Exp} {L P : CV} (g1 : ETame (.mk k (.mk vk vn vt vl) s c ps)) (g2 : ESm (.mk k (.mk vk vn vt vl) s c ps)) (q1 : p ≤ p') (q2 : p' ≤ p + N) (hL : ListO L vl) (hP : PartsF P ps) :
    EOut σ l0 bs p N (.ret (.agg [i64 k, i64 vk, i64 vn, .sc (.string vt), L, .sc (.string s), .sc (.string c), P]) (rd σ l0 bs p')) :=
  ⟨k, vk, vn, vt, vl, s, c, ps, L, P, _, p', g1, g2, q1, q2, Sub.refl _, hL, .inl hP, rfl⟩
def xE : Exp := .mk 2 (.mk 0 0 ⟨#[]⟩ []) ⟨#[120]⟩ ⟨#[]⟩ []
theorem xE_t : ETame xE := .mk (tame0 (by omega) (by omega)) (by decide) (by decide) (by simp) (by simp)
theorem xE_m : ESm xE := .mk (by decide) (by simp)
theorem esnoc {k vk vn : Int} {vt : ByteArray} {vl : List Val} {s c : ByteArray} {ps : List Exp} (g : EGood k vk vn vt vl s c ps) : ETame (.mk k (.mk vk vn vt vl) s c (ps ++ [xE])) ∧ ESm (.mk k (.mk vk vn vt vl) s c (ps ++ [xE])) := by
  obtain ⟨h1, h2, h3, h4, h5⟩ := g.t.inv
  obtain ⟨m1, m2⟩ := g.m.inv
  have hl := g.l
  refine ⟨.mk h1 h2 h3 (by simp; omega) fun e he => ?_, .mk m1 fun e he => ?_⟩
  · rcases List.mem_append.1 he with he | he
    · exact h5 e he
    · rw [List.mem_singleton.1 he]; exact xE_t
  · rcases List.mem_append.1 he with he | he
    · exact m2 e he
    · rw [List.mem_singleton.1 he]; exact xE_m
theorem xE_cvs {ps : List Exp} : Exp.cvs (ps ++ [xE]) = Exp.cvs ps ++ [xE.cv] := by simp [ecvs_map]
theorem eout_nil {σ σ' : Heap} {l0 : Nat} {bs : List CV} {p p' : Int} {N : Nat} {k vk vn : Int} {vt : ByteArray} {vl : List Val} {s c : ByteArray} {L : CV} (g : EGood k vk vn vt vl s c []) (q1 : p ≤ p') (q2 : p' + 1 ≤ p + N) (hs : Sub σ σ') (hL : ListO L vl) :
    EOut σ l0 bs p N (.ret (.agg [i64 k, i64 vk, i64 vn, .sc (.string vt), L, .sc (.string s), .sc (.string c), .vec [xE.cv]]) (rd σ' l0 bs (p' + 1))) :=
  ⟨k, vk, vn, vt, vl, s, c, [xE], L, _, _, p' + 1, (esnoc g).1, (esnoc g).2, by omega, q2, rd_sub hs, hL, .inl (.inr rfl), rfl⟩
theorem eout_in {σ σ' : Heap} {l0 l1 cap : Nat} {bs : List CV} {p p' : Int} {N : Nat} {k vk vn : Int} {vt : ByteArray} {vl : List Val} {s c : ByteArray} {ps : List Exp} {L : CV} (g : EGood k vk vn vt vl s c ps) (q1 : p ≤ p') (q2 : p' + 1 ≤ p + N) (hs : Sub σ σ') (hL : ListO L vl) (n1 : σ l1 = none) (n2 : l1 ≠ l0) :
    EOut σ l0 bs p N (.ret (.agg [i64 k, i64 vk, i64 vn, .sc (.string vt), L, .sc (.string s), .sc (.string c), .grow l1 ((Exp.cvs ps).length + 1) cap]) (upd (rd σ' l0 bs (p' + 1)) l1 (.arr 33 8 cap ((Exp.cvs ps).take (Exp.cvs ps).length ++ [xE.cv] ++ (Exp.cvs ps).drop ((Exp.cvs ps).length + 1))))) := by
  have hn : rd σ l0 bs (p' + 1) l1 = none := by rw [rd_ne n2]; exact n1
  have hlen : (Exp.cvs (ps ++ [xE])).length = (Exp.cvs ps).length + 1 := by rw [xE_cvs]; simp
  refine ⟨k, vk, vn, vt, vl, s, c, ps ++ [xE], L, _, _, p' + 1, (esnoc g).1, (esnoc g).2, by omega, q2, (rd_sub hs).upd hn, hL, .inr ⟨l1, cap, _, ?_, hn, upd_same _ _ _, ?_, ?_⟩, rfl⟩
  · rw [hlen]
  · rw [hlen, xE_cvs, List.take_of_length_le (Nat.le_refl _), List.drop_eq_nil_of_le (by omega), List.append_nil, List.take_of_length_le (by simp)]
  · rw [hlen, List.take_of_length_le (Nat.le_refl _), List.drop_eq_nil_of_le (by omega)]; simp
theorem eout_new {σ σ' : Heap} {l0 l2 cap : Nat} {bs : List CV} {p p' : Int} {N : Nat} {k vk vn : Int} {vt : ByteArray} {vl : List Val} {s c : ByteArray} {ps : List Exp} {L : CV} (g : EGood k vk vn vt vl s c ps) (q1 : p ≤ p') (q2 : p' + 1 ≤ p + N) (hs : Sub σ σ') (hL : ListO L vl) (h2 : rd σ' l0 bs (p' + 1) l2 = none) :
    EOut σ l0 bs p N (.ret (.agg [i64 k, i64 vk, i64 vn, .sc (.string vt), L, .sc (.string s), .sc (.string c), .grow l2 ((Exp.cvs ps).length + 1) cap]) (upd (rd σ' l0 bs (p' + 1)) l2 (.arr 33 8 cap ((Exp.cvs ps).take (Exp.cvs ps).length ++ [xE.cv])))) := by
  have hn : rd σ l0 bs (p' + 1) l2 = none := by
    rw [rd_ne (ne_rd h2)]
    cases e : σ l2 with
    | none => rfl
    | some ob => have := no_rd h2; rw [hs _ _ e] at this; cases this
  have hlen : (Exp.cvs (ps ++ [xE])).length = (Exp.cvs ps).length + 1 := by rw [xE_cvs]; simp
  refine ⟨k, vk, vn, vt, vl, s, c, ps ++ [xE], L, _, _, p' + 1, (esnoc g).1, (esnoc g).2, by omega, q2, (rd_sub hs).upd hn, hL, .inr ⟨l2, cap, _, ?_, hn, upd_same _ _ _, ?_, ?_⟩, rfl⟩
  · rw [hlen]
  · rw [hlen, xE_cvs, List.take_of_length_le (Nat.le_refl _), List.take_of_length_le (by simp)]
  · rw [hlen, List.take_of_length_le (Nat.le_refl _)]; simp
def wrapE (k : Int) (e : Exp) : Exp := .mk k (.mk 0 0 ⟨#[]⟩ []) ⟨#[]⟩ ⟨#[]⟩ [e]
theorem wrap_t {k : Int} {e : Exp} (h : ETame e) (m : ESm e) : ETame (wrapE k e) ∧ ESm (wrapE k e) :=
  ⟨.mk (tame0 (by omega) (by omega)) (by decide) (by decide) (by simp) (by simpa using h), .mk (by decide) (by simpa using m)⟩
set_option maxHeartbeats 2000000 in
theorem drawExpr_c {l : Nat} {σ : Heap} {bs : List CV} (hb : BytesOk bs) (hl : bs.length ≤ 2000) {p : Int} (hp : 0 ≤ p) (hp' : p < 68719476736) : CRun Tryz.prog 35 [.ptr (.g l) 0] (rd σ l bs p) (EFin σ l bs p 1000) := by
  refine eout_fin ?_
  have hN : NamesD [.sc (.string ⟨#[97]⟩), .sc (.string ⟨#[98]⟩), .sc (.string ⟨#[120]⟩)] := ⟨⟨⟨_, rfl, by decide⟩, ⟨_, rfl, by decide⟩, ⟨_, rfl, by decide⟩, trivial⟩, by simp⟩
  have c2 : costE 2 = 60 + 2 * (60 + 2 * 50) := rfl
  have ce := eopen_split (fun p' => pickF bs p' 14 = 2) (expr_c (l := l) hb hl hN 2 (deep := 3) (p := p) (by omega) (by omega) (by omega) hp (by omega) σ)
  refine crun_of (X := X) X_ok X_sat (body := bodyOf Tryz.f35) Tryz.func35 rfl (by kernel_rfl) (by kernel_rfl) ?_
  rw [Tryz.ntmps35]
  conv => whnf
  repeat' (first | ((refine CallN.many ce ?_; rintro _ (⟨k, vk, vn, vt, vl, s, c, ps, L, P, σ', p', hC, g, q1, q2, hs, (⟨rfl, rfl⟩ | rfl), (⟨rfl, rfl⟩ | ⟨l1, cap, rfl, n1, n2, n3⟩), rfl⟩ | ⟨k, vk, vn, vt, vl, s, c, ps, p', hC, g, q1, q2, rfl⟩))) | (refine CallN.one (pick_c (n := 14) hb (by omega) (by omega) hl) ?_) | (refine CallN.many (pick_n hb hl (by omega) (by omega)) ?_; rintro _ ⟨kk, hk1, hk2, rfl⟩) | (refine CallN.many (of_c (m := 7) hb hl (by omega) (by omega) ?_ (Nat.le_of_ble_eq_true rfl) (Nat.le_of_ble_eq_true rfl)) ?_; (repeat' (first | exact (trivial : True) | refine And.intro ?_ ?_ | refine ⟨_, rfl, ?_⟩ | omega | decide)); rintro _ ⟨t, ht, rfl⟩) | (refine AllocC.go (fun l2 cap2 hl2 hcap => ?_)) | (refine GetN.go ?_ (h := get_rd2 ‹_› ‹_›)) | (refine Need.go ?_ (h := ⟨rfl, Nat.le_refl _, by have := g.l; have := ecvs_length ps; simp only [List.length_cons, List.length_nil]; omega, by have := g.l; have := ecvs_length ps; simp only [List.length_cons, List.length_nil]; omega, ElsOk.one rfl rfl⟩)) | (refine fin0 ?_) | refine Fork.yp ?_ | refine Fork.np ?_ | refine Fork.nb ?_ | refine Fork.dp (fun h => ?_) (fun h => ?_) | refine Need.ap0 ?_ | refine ExtN.wr ?_) <;> try (conv => whnf)
  all_goals first
    | exact eout_nil (N := 1000) g q1 (by omega) hs (by first | exact .nil | exact .vec)
    | exact eout_in (N := 1000) g q1 (by omega) hs (by first | exact .nil | exact .vec) n1 n2
    | exact eout_new (N := 1000) g q1 (by omega) hs (by first | exact .nil | exact .vec) hl2
    | exact eout_f (N := 1000) (etame_set g.t (by have := g.m.inv.1; omega)) (esm_set g.m g.m.inv.1) (by omega) (by omega) .vec (.inr rfl)
    | exact eout_f (N := 1000) (etame_set g.t (by omega)) (esm_set g.m ht) (by omega) (by omega) .vec (.inr rfl)
    | exact eout_f (N := 1000) (wrap_t (k := 15) g.t g.m).1 (wrap_t (k := 15) g.t g.m).2 (by omega) (by omega) .nil (.inr rfl)
    | skip
  refine LoopN.rule (α := Nat × Exp) (fun a => ⟨44, [(2, .ptr (.f 2) 0), (3, .ptr (.f 3) 0), (4, i64 a.1)], [(2, .cells [i64 0, i64 0, i64 0, .sc (.string ⟨#[]⟩), .nil, .sc (.string ⟨#[]⟩), .sc (.string ⟨#[]⟩), .nil]), (3, .cells (eCells a.2))]⟩)
    (fun _ => rd σ l bs (p' + 1)) (fun a => 2 - a.1) (fun a => a.1 ≤ 2 ∧ ETame a.2 ∧ ESm a.2) ?_ (0, .mk k (.mk vk vn vt vl) s c ps) ⟨by simp, g.t, g.m⟩ ?_
  · rintro ⟨i, ⟨ek, ⟨evk, evn, evt, evl⟩, es, ec, eps⟩⟩ K ⟨i1, i2, i3⟩ hK
    dsimp only at i1 i2 i3 ⊢
    have hw := wrap_t (k := 9) i2 i3
    by_cases hi : i < 2
    · conv => whnf
      repeat' (first | refine Fork.yp ?_ | refine Need.go ?_) <;> try (conv => whnf)
      refine hK (i + 1, wrapE 9 (.mk ek (.mk evk evn evt evl) es ec eps)) _ _ ⟨by simp only; omega, hw.1, hw.2⟩ (by simp only; omega) ?_
      (refine ⟨rfl, ?_, ?_, Sub.refl _⟩ <;> repeat' (first | exact EnvLe.nil | exact LocsLe.nil | refine EnvLe.cons _ _ _ ?_ ?_ | refine LocsLe.cons _ _ _ ?_ ?_ | exact CVle.same _ rfl | exact CVle.vec _ _ | exact CVle.nil | exact CVle.tok _ _ _ rfl rfl | exact ObLe.tok _ _ rfl | exact CVles.nil | refine CVles.cons ?_ ?_ | exact ObLe.same _ rfl rfl | refine ObLe.cells rfl ?_))
    · conv => whnf
      repeat' (first | (refine fin0 ?_) | refine Fork.np ?_) <;> try (conv => whnf)
      exact eout_f (N := 1000) i2 i3 (by omega) (by omega) .vec (.inr rfl)
  · (refine ⟨rfl, ?_, ?_, Sub.refl _⟩ <;> repeat' (first | exact EnvLe.nil | exact LocsLe.nil | refine EnvLe.cons _ _ _ ?_ ?_ | refine LocsLe.cons _ _ _ ?_ ?_ | exact CVle.same _ rfl | exact CVle.vec _ _ | exact CVle.nil | exact CVle.tok _ _ _ rfl rfl | exact ObLe.tok _ _ rfl | exact CVles.nil | refine CVles.cons ?_ ?_ | exact ObLe.same _ rfl rfl | refine ObLe.cells rfl ?_))
end Go.Proofs.YthllnbfkfobcjaaGreat
