/-
  Contracts of the functions that the law reaches.
-/
import Derived.Test.YthllnbfkfobcjaaGreatGJd
set_option linter.unusedVariables false
set_option linter.unusedSimpArgs false
namespace Go.Proofs.YthllnbfkfobcjaaGreat
open Go Go.CL
set_option maxRecDepth 10000
theorem query_split {f : FuncId} {args : List CV} {σ0 : Heap} {σ : Heap} {l0 : Nat} {bs : List CV} {p : Int} (C : Int → Prop) (h : CRun Tryz.prog f args σ0 (QueryO σ l0 bs p)) :
    CRun Tryz.prog f args σ0 (fun out => (∃ cs c l1 cap σ' p', C p' ∧ (∀ x ∈ cs, ClG x) ∧ c = cs.length ∧ 1 ≤ c ∧ c ≤ 4 ∧ p ≤ p' ∧ p' ≤ p + 9000 ∧ Sub σ σ' ∧ σ l1 = none ∧ l1 ≠ l0 ∧ σ' l1 = some (.arr 55 19 cap (cls cs)) ∧ out = .ret (.grow l1 c cap) (rd σ' l0 bs p')) ∨
      ∃ cs p', ¬ C p' ∧ (∀ x ∈ cs, ClG x) ∧ 1 ≤ cs.length ∧ cs.length ≤ 4 ∧ p ≤ p' ∧ p' ≤ p + 9000 ∧ out = .ret (.vec (cls cs)) (rd σ l0 bs p')) := by
  classical
  refine h.freeze fun out ⟨cs, c, l1, cap, σ', p', g, hn, h1, h4, q1, q2, hs, n1, n2, n3, e⟩ => ?_
  subst e
  by_cases hC : C p'
  · exact ⟨_, FrzOut.refl _, .inl ⟨cs, c, l1, cap, σ', p', hC, g, hn, h1, h4, q1, q2, hs, n1, n2, n3, rfl⟩⟩
  · refine ⟨.ret (.vec (cls cs)) (rd σ l0 bs p'), ⟨rd_sub hs, [l1], .inl (.one ?_), fun x hx => by rw [List.mem_singleton.1 hx, rd_ne n2]; exact n1⟩, .inr ⟨cs, p', hC, g, by omega, by omega, q1, q2, rfl⟩⟩
    subst hn
    have hg : rd σ' l0 bs p' l1 = some (.arr 55 19 cap (cls cs)) := by rw [rd_ne n2]; exact n3
    have := Frz.grow (σ := rd σ' l0 bs p') l1 cs.length cap _ _ _ hg (by rw [cls_len]; exact Nat.le_refl _)
    rwa [List.take_of_length_le (by rw [cls_len]; exact Nat.le_refl _)] at this
theorem cls_at {cs : List Cl} {i : Nat} {x : Cl} (h : cs[i]? = some x) : (cls cs)[i]? = some x.cv := by unfold cls; rw [List.getElem?_map, h]; rfl
theorem cls_cells {cs : List Cl} : ∀ x ∈ cls cs, x.cells.length = 19 := fun x hx => by
  obtain ⟨c, _, rfl⟩ := List.mem_map.1 hx
  obtain ⟨k, ps, ⟨ek, ⟨vk, vn, vt, vl⟩, es, ec, ep⟩, n, is, di, os, sk, li, ts, ns, de⟩ := c
  rfl
def AnyQ (σ : Heap) (l : Nat) (bs : List CV) (p : Int) (out : COut) : Prop := ∃ cs p', (∀ x ∈ cs, ClG x) ∧ 1 ≤ cs.length ∧ cs.length ≤ 9 ∧ p ≤ p' ∧ p' ≤ p + 12000 ∧ out = .ret (.vec (cls cs)) (rd σ l bs p')
def AnyI (σ : Heap) (l : Nat) (bs : List CV) (p : Int) (out : COut) : Prop := AnyQ σ l bs p out ∨ ∃ cs l1 cap σ' p', (∀ x ∈ cs, ClG x) ∧ 1 ≤ cs.length ∧ cs.length ≤ 9 ∧ p ≤ p' ∧ p' ≤ p + 12000 ∧ Sub σ σ' ∧ σ l1 = none ∧ l1 ≠ l ∧ σ' l1 = some (.arr 55 19 cap (cls cs)) ∧ out = .ret (.grow l1 cs.length cap) (rd σ' l bs p')
theorem cls_set {cs : List Cl} {i : Nat} {y : Cl} : (cls cs).set i y.cv = cls (cs.set i y) := by unfold cls; rw [List.map_set]
theorem any_set {σ s : Heap} {l l1 cap c i : Nat} {bs : List CV} {p q : Int} {cs : List Cl} (y : Cl) (g : ∀ x ∈ cs, ClG x) (gy : ClG y) (hn : c = cs.length) (h1 : 1 ≤ c) (h4 : c ≤ 4) (q1 : p ≤ q) (q2 : q ≤ p + 12000) (hs : Sub σ s) (n1 : σ l1 = none) (n2 : l1 ≠ l) :
    AnyI σ l bs p (.ret (.grow l1 c cap) (upd (rd s l bs q) l1 (.arr 55 19 cap ((cls cs).set i y.cv)))) := by
  refine .inr ⟨cs.set i y, l1, cap, upd s l1 (.arr 55 19 cap (cls (cs.set i y))), q, fun x hx => ?_, by simp; omega, by simp; omega, q1, q2, hs.upd n1, n1, n2, upd_same _ _ _, ?_⟩
  · rcases List.mem_or_eq_of_mem_set hx with hx | rfl
    · exact g x hx
    · exact gy
  · rw [cls_set, rd_upd' n2, List.length_set, hn]
section
variable {k : Int} {ps : List Pth} {e : Exp} {n : ByteArray} {is : List It} {di : Bool} {os : List Od} {sk li : Int} {ts : List Tg} {ns : List ByteArray} {de : Bool} (g : ClG ⟨k, ps, e, n, is, di, os, sk, li, ts, ns, de⟩)
include g
theorem ClG.setK {k' : Int} (h : Sm k') : ClG ⟨k', ps, e, n, is, di, os, sk, li, ts, ns, de⟩ :=
  ⟨⟨h, g.t.p, g.t.pt, g.t.e, g.t.n, g.t.i, g.t.it, g.t.o, g.t.ot, g.t.s, g.t.l, g.t.t, g.t.tt, g.t.m, g.t.mt⟩, ⟨g.o.r, g.o.n, g.o.o⟩⟩
theorem ClG.setN {n' : ByteArray} (h : n'.size ≤ 1000) : ClG ⟨k, ps, e, n', is, di, os, sk, li, ts, ns, de⟩ :=
  ⟨⟨g.t.k, g.t.p, g.t.pt, g.t.e, h, g.t.i, g.t.it, g.t.o, g.t.ot, g.t.s, g.t.l, g.t.t, g.t.tt, g.t.m, g.t.mt⟩, ⟨g.o.r, g.o.n, g.o.o⟩⟩
theorem ClG.setS {s' : Int} (h : Sm s') : ClG ⟨k, ps, e, n, is, di, os, s', li, ts, ns, de⟩ :=
  ⟨⟨g.t.k, g.t.p, g.t.pt, g.t.e, g.t.n, g.t.i, g.t.it, g.t.o, g.t.ot, h, g.t.l, g.t.t, g.t.tt, g.t.m, g.t.mt⟩, ⟨g.o.r, g.o.n, g.o.o⟩⟩
theorem ClG.setE {e' : Exp} (h : ETame e') : ClG ⟨k, ps, e', n, is, di, os, sk, li, ts, ns, de⟩ :=
  ⟨⟨g.t.k, g.t.p, g.t.pt, h, g.t.n, g.t.i, g.t.it, g.t.o, g.t.ot, g.t.s, g.t.l, g.t.t, g.t.tt, g.t.m, g.t.mt⟩, ⟨g.o.r, g.o.n, g.o.o⟩⟩
end
theorem cls_els {cs : List Cl} : ElsOk 19 (cls cs) := fun x hx => by
  obtain ⟨c, _, rfl⟩ := List.mem_map.1 hx
  obtain ⟨k, ps, ⟨ek, ⟨vk, vn, vt, vl⟩, es, ec, ep⟩, n, is, di, os, sk, li, ts, ns, de⟩ := c
  exact ⟨rfl, rfl⟩
theorem cls_sub {cs : List Cl} {a b : Nat} : ElsOk 19 (List.drop a (List.take b (cls cs))) := fun x hx => cls_els x (List.mem_of_mem_take (List.mem_of_mem_drop hx))
theorem cls_cut {cs : List Cl} {k : Nat} : [] ++ List.drop k (List.take ((cls cs).length : Int).toNat (cls cs)) ++ List.drop (Int.toNat 0) (List.take k (cls cs)) = cls (cs.drop k ++ cs.take k) := by
  rw [Int.toNat_natCast, List.take_length]
  show [] ++ _ ++ List.drop 0 _ = _
  simp [cls]
theorem cls_cut0 {cs : List Cl} {k : Nat} : [] ++ List.drop k (List.take ((cls cs).length : Int).toNat (cls cs)) = cls (cs.drop k) := by
  rw [Int.toNat_natCast, List.take_length]
  show [] ++ _ = _
  simp [cls]
def OpenC (bs : List CV) (p : Int) : Prop := pickF bs (p + 1) 16 = 0 ∨ pickF bs (p + 1) 16 = 1 ∨ pickF bs (p + 1) 16 = 2 ∨ pickF bs (p + 1) 16 = 4
set_option maxHeartbeats 4000000 in
theorem anyQuery_i {σ : Heap} {l : Nat} {bs : List CV} (hb : BytesOk bs) (hl : bs.length ≤ 2000) {p : Int} (hp : 0 ≤ p) (hp' : p ≤ 300000) :
    CRun Tryz.prog 50 [.ptr (.g l) 0] (rd σ l bs p) (AnyI σ l bs p) := by
  have cq := query_split (OpenC bs) (query_o hb hl hp (by omega) (σ := σ) (l := l))
  refine crun_of (X := X) X_ok X_sat (body := bodyOf Tryz.f50) Tryz.func50 rfl (by kernel_rfl) (by kernel_rfl) ?_
  rw [Tryz.ntmps50]
  conv => whnf
  repeat' (first | ((refine CallN.many cq ?_; rintro _ (⟨cs, c, l1, cap, s, q, hC, g, hn, h1, h4, i6, i7, i8, i9, i10, i12, rfl⟩ | ⟨cs, q, hC, g, h1, h4, i6, i7, rfl⟩))) | refine ExtN.wr ?_) <;> try (conv => whnf)
  all_goals unfold OpenC at hC
  · have e3 := cls_len cs
    have r1 := pickF_range hb (p := q) (n := (c : Int)) (by omega) (by omega) hl (by omega)
    have hg : ∀ q', rd s l bs q' l1 = some (.arr 55 19 cap (cls cs)) := fun q' => by rw [rd_ne i10]; exact i12
    have lt1 : (pickF bs q (c : Int)).toNat < cs.length := by omega
    obtain ⟨⟨kd, ps, ⟨ek, ⟨evk, evn, evt, evl⟩, es, ec, ep⟩, nm, is, di, os, sk, li, ts, ns, de⟩, hx⟩ : ∃ x, cs[(pickF bs q (c : Int)).toNat]? = some x := ⟨_, List.getElem?_eq_getElem lt1⟩
    have hxc := cls_at hx
    have r3 := pickF_range hb (p := q + 1 + 1) (n := 11) (by omega) (by omega) hl (by omega)
    have gx := g _ (List.mem_of_getElem? hx)
    simp only [Cl.cv] at hxc
    conv => whnf
    repeat' (first | (refine GetN.go ?_ (h := hg _)) | (refine ElemN.go ?_ (h := hxc)) | ((refine CallN.many (of_c (m := 7) hb hl (by omega) (by omega) ?_ (Nat.le_of_ble_eq_true rfl) (Nat.le_of_ble_eq_true rfl)) ?_; (repeat' (first | exact (trivial : True) | refine And.intro ?_ ?_ | refine ⟨_, rfl, ?_⟩ | omega | decide)); rintro _ ⟨t', ht', rfl⟩)) | ((refine CallN.many (one_c (lo := -2) (hi := 1001) hb hl (by omega) (by omega) ?_ (Nat.le_of_ble_eq_true rfl) (Nat.le_of_ble_eq_true rfl)) ?_; (repeat' (first | exact (trivial : True) | refine And.intro ?_ ?_ | refine ⟨_, rfl, ?_⟩ | omega | decide)); rintro _ ⟨w, hw1, hw2, rfl⟩)) | ((refine CallN.many (drawExpr_c hb hl (by omega) (by omega)) ?_; rintro _ ⟨⟨xk, ⟨vk, vn, vt, vl⟩, xs, xc, xp⟩, p1, he, hs, hq1, hq2, rfl⟩)) | (refine CallN.one (pick_c hb (by omega) (by omega) hl) ?_) | refine Fork.yp ?_ | refine Fork.np ?_ | refine Fork.dp (fun h => ?_) (fun h => ?_) | refine Need.go ?_ | refine ExtN.wr ?_ | refine finGo ?_) <;> try (conv => whnf)
    all_goals first
      | (exfalso; omega)
      | exact any_set _ g (gx.setK (k' := pickF bs (q + 1 + 1) 11) ⟨by omega, by omega⟩) hn h1 h4 (by omega) (by omega) i8 i9 i10
      | exact any_set _ g (gx.setN (n' := t') (by omega)) hn h1 h4 (by omega) (by omega) i8 i9 i10
      | exact any_set _ g (gx.setS (s' := w) ⟨by omega, by omega⟩) hn h1 h4 (by omega) (by omega) i8 i9 i10
      | exact any_set _ g (gx.setE he) hn h1 h4 (by omega) (by omega) i8 i9 i10
  · have e3 := cls_len cs
    have r1 := pickF_range hb (p := q) (n := ((cls cs).length : Int)) (by omega) (by omega) hl (by omega)
    have dl1 : (List.drop (pickF bs q ((cls cs).length : Int)).toNat (List.take ((cls cs).length : Int).toNat (cls cs))).length = cs.length - (pickF bs q ((cls cs).length : Int)).toNat := by rw [Int.toNat_natCast, List.take_length, List.length_drop, e3]
    have dl2 : (List.drop (Int.toNat 0) (List.take (pickF bs q ((cls cs).length : Int)).toNat (cls cs))).length = (pickF bs q ((cls cs).length : Int)).toNat := by
      show (List.drop 0 _).length = _
      rw [List.drop_zero, List.length_take]; omega
    have dl2b : (List.drop 0 (List.take (pickF bs q ((cls cs).length : Int)).toNat (cls cs))).length = (pickF bs q ((cls cs).length : Int)).toNat := dl2
    have de1 : (List.drop (pickF bs q ((cls cs).length : Int)).toNat (List.take ((cls cs).length : Int).toNat (cls cs))).isEmpty = false := List.isEmpty_eq_false_iff.2 (List.ne_nil_of_length_pos (by omega))
    have kk1 : (pickF bs q ((cls cs).length : Int)).toNat < cs.length := by omega
    have ds4 : 0 + (List.drop (pickF bs q ((cls cs).length : Int)).toNat (List.take ((cls cs).length : Int).toNat (cls cs))).length + (List.drop (Int.toNat 0) (List.take (pickF bs q ((cls cs).length : Int)).toNat (cls cs))).length ≤ 4 := by
      rw [dl1, dl2]
      generalize (pickF bs q ((cls cs).length : Int)).toNat = k at kk1
      omega
    have hN1 : ∀ n : Nat, n ≤ 4 → n * 296 ≤ 140737488355328 ∧ n ≤ 9223372036854775807 := fun n hn => by omega
    have gd : ∀ {k : Nat}, ∀ x ∈ cs.drop k ++ cs.take k, ClG x := fun x hx => g x (by
      rcases List.mem_append.1 hx with hx | hx
      · exact List.mem_of_mem_drop hx
      · exact List.mem_of_mem_take hx)
    have ld : ∀ k : Nat, k < cs.length → (cs.drop k ++ cs.take k).length = cs.length := fun k hk => by simp; omega
    cases hb2 : (List.drop (Int.toNat 0) (List.take (pickF bs q ((cls cs).length : Int)).toNat (cls cs))).isEmpty
    all_goals
      conv => whnf
      repeat' (first | (refine CallN.one (pick_c hb (by omega) (by omega) hl) ?_) | (refine Need.mk ⟨by omega, by omega, by omega, .inr cls_cells⟩ ?_) | (refine Need.ap2 ?_ (h := cls_sub) (h1 := by simp only [List.length_replicate, List.length_append]; omega) (h3 := by omega) (h2 := rfl)) | (refine Need.ap2 ?_ (h := cls_sub) (h1 := hN1 _ (by simp only [List.length_replicate, List.length_append]; exact ds4)) (h3 := List.length_pos_iff.2 (List.isEmpty_eq_false_iff.1 hb2)) (h2 := by simp only [List.length_append])) | refine Fork.np ?_ | refine Fork.yb ?_ | refine Fork.nb ?_ | refine Fork.dp (fun h => ?_) (fun h => ?_) | refine Need.go ?_ | refine Need.draw ?_ | refine ExtN.wr ?_ | refine finGo ?_) <;> try (conv => whnf)
    all_goals first
      | (exfalso; omega)
      | exact .inl ⟨cs, _, g, h1, by omega, by omega, by omega, rfl⟩
      | exact .inl ⟨cs.drop (pickF bs q ((cls cs).length : Int)).toNat, _, fun x hx => g x (List.mem_of_mem_drop hx), by rw [List.length_drop]; omega, by rw [List.length_drop]; omega, by omega, by omega, congrArg (fun v => COut.ret (CV.vec v) (rd σ l bs (q + 1 + 1))) cls_cut0⟩
      | exact .inl ⟨cs.drop (pickF bs q ((cls cs).length : Int)).toNat ++ cs.take (pickF bs q ((cls cs).length : Int)).toNat, _, gd, by rw [ld _ (by omega)]; omega, by rw [ld _ (by omega)]; omega, by omega, by omega, congrArg (fun v => COut.ret (CV.vec v) (rd σ l bs (q + 1 + 1))) cls_cut⟩
      | skip
    all_goals
      refine LoopN.rule (α := List Cl × Int) (fun a => ⟨76, [(0, .ptr (.g l) 0), (3, .vec (cls a.1))], []⟩) (fun a => rd σ l bs a.2) (fun a => 9 - a.1.length) (fun a => (∀ x ∈ a.1, ClG x) ∧ 1 ≤ a.1.length ∧ a.1.length ≤ 9 ∧ p ≤ a.2 ∧ a.2 ≤ p + 9002 + a.1.length) ?_ (cs, q + 1 + 1) ⟨g, h1, by dsimp only; omega, by dsimp only; omega, by dsimp only; omega⟩ ?_
      rotate_left
      · (refine ⟨rfl, ?_, ?_, Sub.refl _⟩ <;> repeat' (first | exact EnvLe.nil | exact LocsLe.nil | refine EnvLe.cons _ _ _ ?_ ?_ | refine LocsLe.cons _ _ _ ?_ ?_ | exact CVle.same _ rfl | exact CVle.vec _ _ | exact CVle.nil | exact CVle.tok _ _ _ rfl rfl | exact ObLe.tok _ _ rfl | exact CVles.nil | refine CVles.cons ?_ ?_ | exact ObLe.same _ rfl rfl | refine ObLe.cells rfl ?_))
      rintro ⟨cs, q⟩ K ⟨j1, j2, j3, j4, j5⟩ hK
      dsimp only at j1 j2 j3 j4 j5 ⊢
      have e3 := cls_len cs
      have ne : (cls cs).isEmpty = false := List.isEmpty_eq_false_iff.2 (List.ne_nil_of_length_pos (by omega))
      conv => whnf
      repeat' (first | ((refine CallN.many (pick_n hb hl (by omega) (by omega)) ?_; rintro _ ⟨j, hj1, hj2, rfl⟩)) | (refine CallN.one clause_d ?_) | (refine CallN.one bool_c ?_) | (refine Need.ap2 ?_ (h := cls_els) (h1 := by simp only [List.length_cons, List.length_nil]; omega) (h3 := by omega) (h2 := rfl)) | refine Fork.nb ?_ | refine Fork.dp (fun h => ?_) (fun h => ?_) | refine Need.go ?_ | refine ExtN.ext ?_ | refine ExtN.wr ?_ | refine finGo ?_) <;> try (conv => whnf)
      · refine hK (⟨3, [], .mk 1 (.mk 1 1 ⟨#[]⟩ []) ⟨#[]⟩ ⟨#[]⟩ [], ⟨#[]⟩, [], false, [], -1, -1, [], [], false⟩ :: cs, q + 1) _ _ ⟨fun x hx => ?_, by dsimp only [List.length_cons]; omega, by dsimp only [List.length_cons]; omega, by dsimp only [List.length_cons]; omega, by dsimp only [List.length_cons]; omega⟩ (by dsimp only [List.length_cons]; omega) ?_
        · rcases List.mem_cons.1 hx with rfl | hx
          · exact clgE ⟨by omega, by omega⟩ (.mk (.mk (by omega) (by omega) (by decide) (by simp) (by simp)) (by decide) (by decide) (by simp) (by simp)) (Nat.zero_le _)
          · exact j1 x hx
        · (refine ⟨rfl, ?_, ?_, Sub.refl _⟩ <;> repeat' (first | exact EnvLe.nil | exact LocsLe.nil | refine EnvLe.cons _ _ _ ?_ ?_ | refine LocsLe.cons _ _ _ ?_ ?_ | exact CVle.same _ rfl | exact CVle.vec _ _ | exact CVle.nil | exact CVle.tok _ _ _ rfl rfl | exact ObLe.tok _ _ rfl | exact CVles.nil | refine CVles.cons ?_ ?_ | exact ObLe.same _ rfl rfl | refine ObLe.cells rfl ?_))
      · exact .inl ⟨cs, _, j1, j2, j3, by omega, by omega, rfl⟩
end Go.Proofs.YthllnbfkfobcjaaGreat
