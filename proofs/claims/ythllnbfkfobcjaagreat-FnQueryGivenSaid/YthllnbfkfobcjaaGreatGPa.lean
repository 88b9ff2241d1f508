/-
  Contracts of the functions that the law reaches.
-/
import Derived.Test.YthllnbfkfobcjaaGreatGJc
set_option linter.unusedVariables false
set_option linter.unusedSimpArgs false
namespace Go.Proofs.YthllnbfkfobcjaaGreat
open Go Go.CL
set_option maxRecDepth 10000
theorem needTail {ops : Array Oper} {ord : List Nat} {ds : List Did} {n m k l : Nat} {T : Prop} (t : T) (h1 : tailOk ops ord n = true := by kernel_rfl) (h2 : drawOk ops ord ds m = true := by kernel_rfl) (h3 : Nat.blt k l = true := by kernel_rfl) :
    Need (tailOk ops ord n = true ∧ drawOk ops ord ds m = true ∧ Nat.blt k l = true) T := ⟨⟨h1, h2, h3⟩, t⟩
def EO (σ τ : Heap) (lo : Nat) (es : List Exp) : Prop := Sub σ τ ∧ σ lo = none ∧ ((es = [] ∧ τ lo = some (.cells [.nil])) ∨ ∃ la cap, es ≠ [] ∧ la ≠ lo ∧ σ la = none ∧ τ lo = some (.cells [.grow la es.length cap]) ∧ τ la = some (.arr 33 8 cap (Exp.cvs es)))
theorem pts_get {l : List Pt} {i : Nat} (hi : i < l.length) : ∃ t k vk vn vt vl s c ps, l[i]? = some ⟨t, .mk k (.mk vk vn vt vl) s c ps⟩ ∧ (pts l)[i]? = some (.agg [.sc (.string t), i64 k, i64 vk, i64 vn, .sc (.string vt), .vec (Val.cvs vl), .sc (.string s), .sc (.string c), .vec (Exp.cvs ps)]) ∧ (l.take (i + 1)).map Pt.e = (l.take i).map Pt.e ++ [.mk k (.mk vk vn vt vl) s c ps] := by
  rcases h : l[i] with ⟨t, ⟨k, ⟨vk, vn, vt, vl⟩, s, c, ps⟩⟩
  refine ⟨t, k, vk, vn, vt, vl, s, c, ps, by rw [List.getElem?_eq_getElem hi, h], ?_, ?_⟩
  · unfold pts; rw [List.getElem?_map, List.getElem?_eq_getElem hi, h]; rfl
  · rw [List.take_add_one, List.getElem?_eq_getElem hi, h]; simp
theorem got2 {σ : Heap} {lo l2 : Nat} {Z Y Y' : Ob} (h : σ lo = some Z) (hl : σ l2 = none) : upd (upd σ l2 Y) l2 Y' lo = some Z := by rw [upd_upd]; exact gotB h hl
theorem got2c {σ : Heap} {lo l2 : Nat} {Z Y Y' : Ob} (hne : l2 ≠ lo) (h : σ lo = some Z) : upd (upd σ l2 Y) l2 Y' lo = some Z := by rw [upd_upd]; exact gotC hne h
theorem ecvs_snoc (L : List Exp) (e : Exp) : Exp.cvs (L ++ [e]) = Exp.cvs L ++ [e.cv] := by simp [ecvs_map]
theorem set_in {L : List Exp} {e : Exp} {z : CV} {n : Nat} (h : n = L.length) : ((Exp.cvs L).take n ++ [z] ++ (Exp.cvs L).drop (n + 1)).set n e.cv = Exp.cvs (L ++ [e]) := by
  have h1 : n = (Exp.cvs L).length := by rw [ecvs_length]; exact h
  rw [growC_in h1, ecvs_snoc, List.set_append_right _ _ (by omega)]
  subst h1; simp
theorem set_new {L : List Exp} {e : Exp} {z : CV} {n : Nat} (h : n = L.length) : ((Exp.cvs L).take n ++ [z]).set n e.cv = Exp.cvs (L ++ [e]) := by
  have h1 : n = (Exp.cvs L).length := by rw [ecvs_length]; exact h
  rw [growC_new h1, ecvs_snoc, List.set_append_right _ _ (by omega)]
  subst h1; simp
def zE : CV := .agg [i64 0, i64 0, i64 0, .sc (.string ⟨#[]⟩), .vec [], .sc (.string ⟨#[]⟩), .sc (.string ⟨#[]⟩), .vec []]
theorem at_in {L : List Exp} {z : CV} {m : Nat} : ((Exp.cvs L).take L.length ++ [z] ++ (Exp.cvs L).drop (L.length + m))[((L.length : Nat) : Int).toNat]? = some z := by
  rw [growC_in (ecvs_length L).symm, Int.toNat_natCast, List.getElem?_append_right (by rw [ecvs_length]; omega), ecvs_length]; simp
theorem at_new {L : List Exp} {z : CV} : ((Exp.cvs L).take L.length ++ [z])[((L.length : Nat) : Int).toNat]? = some z := by
  rw [growC_new (ecvs_length L).symm, Int.toNat_natCast, List.getElem?_append_right (by rw [ecvs_length]; omega), ecvs_length]; simp
theorem eo_put {σ s : Heap} {lo l2 n cap : Nat} {L : List Exp} {e : Exp} {Y : Ob} {xs : List CV} (hs : Sub σ s) (h0 : σ lo = none) (hl : σ l2 = none) (hne : l2 ≠ lo) (hx : xs = Exp.cvs (L ++ [e])) (hn : n = L.length + 1) :
    EO σ (upd (upd (upd s l2 Y) l2 (.arr 33 8 cap xs)) lo (.cells [.grow l2 n cap])) lo (L ++ [e]) := by
  subst hx hn
  refine ⟨((hs.upd hl).upd hl).upd h0, h0, .inr ⟨l2, cap, by simp, hne, hl, ?_, ?_⟩⟩
  · rw [upd_same, List.length_append]; rfl
  · rw [upd_ne _ _ hne, upd_same]
theorem got3 {σ : Heap} {lo l2 : Nat} {Y Z : Ob} (hne : l2 ≠ lo) : upd (upd σ l2 Y) lo Z l2 = some Y := by rw [upd_ne _ _ hne, upd_same]
theorem eo_put2 {σ s : Heap} {lo l2 n cap : Nat} {L : List Exp} {e : Exp} {Y : Ob} {xs : List CV} (hs : Sub σ s) (h0 : σ lo = none) (hl : σ l2 = none) (hne : l2 ≠ lo) (hx : xs = Exp.cvs (L ++ [e])) (hn : n = L.length + 1) :
    EO σ (upd (upd (upd s l2 Y) lo (.cells [.grow l2 n cap])) l2 (.arr 33 8 cap xs)) lo (L ++ [e]) := by
  rw [upd_comm _ _ _ (Ne.symm hne)]
  exact eo_put hs h0 hl hne hx hn
theorem eo_fr {σ s : Heap} {lo l2 : Nat} {Z : Ob} (hs : Sub σ s) (h : s lo = some Z) (hl : s l2 = none) : σ l2 = none ∧ l2 ≠ lo := by
  refine ⟨?_, fun e => by subst e; rw [h] at hl; cases hl⟩
  cases e : σ l2 with
  | none => rfl
  | some ob => rw [hs _ _ e] at hl; cases hl
structure WSt where
  i : Nat
  s : Heap
theorem spotEs_c {σ τ : Heap} {lo : Nat} {es : List Exp} (h : EO σ τ lo es) {s : Sp} (hs : s.props.length ≤ 1000) (he : es.length ≤ 1000000) :
    CRun Tryz.prog 138 [s.cv, .ptr (.g lo) 0] τ (fun out => ∃ τ', EO σ τ' lo (es ++ s.props.map Pt.e) ∧ out = .ret (.tup []) τ') := by
  obtain ⟨sn, sl, ps⟩ := s
  dsimp only at hs ⊢
  have e3 := pts_len ps
  refine crun_of (X := (GM [17] fun n => match Nat.beq n 4 with | true => some [0,1,2,3,4,5,6,7,8] | false => (match Nat.beq n 100004 with | true => some [0,0,0,0,0,0] | false => (none)))) (GM_ok _ _) (GM_sat _ _) (body := bodyOf Tryz.f138) Tryz.func138 rfl (by kernel_rfl) (by kernel_rfl) ?_
  rw [Tryz.ntmps138]
  conv => whnf
  repeat' (first | refine OrdN.one ?_ | refine Fork.yp ?_ | refine Fork.np ?_ | refine Fork.ny ?_ | refine Fork.nn ?_ | refine Fork.yb ?_ | refine Fork.nb ?_ | refine Fork.dp (fun h => ?_) (fun h => ?_) | refine Fork.dn (fun h => ?_) (fun h => ?_) | (refine Fork.mk (fun h => ?_) (fun h => ?_) <;> simp only [decide_eq_true_eq, decide_eq_false_iff_not, Bool.not_eq_true', Bool.not_eq_false', Bool.or_eq_true, Bool.or_eq_false_iff] at h) | refine GetN.go ?_ | refine Need.ap1 ?_ | refine Need.ap0 ?_ | refine Need.go ?_ | refine Need.draw ?_ | refine ElemN.go ?_ | refine ExtN.ext ?_ | refine ExtN.wr ?_ | refine AllocN.go (fun l hl => ?_) | refine finGo ?_) <;> try (conv => whnf)
  refine LoopN.rule (α := WSt) (fun a => ⟨20, [(1, .ptr (.g lo) 0), (6, .vec (pts ps)), (7, i64 (pts ps).length), (8, i64 a.i)], []⟩)
    (fun a => a.s) (fun a => ps.length - a.i) (fun a => a.i ≤ ps.length ∧ EO σ a.s lo (es ++ (ps.take a.i).map Pt.e)) ?_ ⟨0, τ⟩ ⟨by dsimp only; omega, by simpa using h⟩ ?_
  rotate_left
  · (refine ⟨rfl, ?_, ?_, Sub.refl _⟩ <;> repeat' (first | exact EnvLe.nil | exact LocsLe.nil | refine EnvLe.cons _ _ _ ?_ ?_ | refine LocsLe.cons _ _ _ ?_ ?_ | exact CVle.same _ rfl | exact CVle.vec _ _ | exact CVle.nil | exact CVle.tok _ _ _ rfl rfl | exact ObLe.tok _ _ rfl | exact CVles.nil | refine CVles.cons ?_ ?_ | exact ObLe.same _ rfl rfl | refine ObLe.cells rfl ?_))
  rintro ⟨i, s⟩ K ⟨i1, i2⟩ hK
  dsimp only at i1 i2 ⊢
  by_cases hi : i < ps.length
  · obtain ⟨t, k, vk, vn, vt, vl, es2, ec, ep, -, hx, hsn⟩ := pts_get hi
    generalize hL : es ++ (ps.take i).map Pt.e = L at i2
    have hLl : L.length ≤ 1001000 := by rw [← hL]; simp; omega
    obtain ⟨i3, i4, (⟨i5, i6⟩ | ⟨la, cap, i5, i6, i7, i8, i9⟩)⟩ := i2
    · subst i5
      conv => whnf
      repeat' (first | (refine AndN.mk ?_ ?_) | (refine needTail ?_) | (refine GetN.go ?_ (h := i6)) | (refine ElemN.go ?_ (h := hx)) | (refine AllocC.go (fun l2 cap2 hl2 hcap2 => ?_)) | (refine Need.mk ⟨by simp only [List.length_cons, List.length_nil]; omega, by simp only [List.length_cons, List.length_nil]; omega, ElsOk.one rfl rfl⟩ ?_) | (refine ExtN.ext ?_) | (refine GetN.go ?_ (h := got2 i6 ‹_›)) | (refine GetN.go ?_ (h := gotB i6 ‹_›)) | (refine GetN.go ?_ (h := got3 (fun e => by subst e; rw [i6] at hl2; cases hl2))) | refine OrdN.go ?_ | refine Fork.yp ?_ | refine Fork.np ?_ | refine Fork.ny ?_ | refine Fork.nn ?_ | refine Fork.yb ?_ | refine Fork.nb ?_ | refine Fork.dp (fun h => ?_) (fun h => ?_) | refine Fork.dn (fun h => ?_) (fun h => ?_) | (refine Fork.mk (fun h => ?_) (fun h => ?_) <;> simp only [decide_eq_true_eq, decide_eq_false_iff_not, Bool.not_eq_true', Bool.not_eq_false', Bool.or_eq_true, Bool.or_eq_false_iff] at h) | refine GetN.go ?_ | refine Need.ap1 ?_ | refine Need.ap0 ?_ | refine Need.go ?_ | refine Need.draw ?_ | refine ElemN.go ?_ | refine ExtN.ext ?_ | refine ExtN.wr ?_ | refine AllocN.go (fun l hl => ?_) | refine finGo ?_) <;> try (conv => whnf)
      all_goals
        have fr := eo_fr i3 i6 hl2
        have hq := eo_put (L := []) (e := .mk k (.mk vk vn vt vl) es2 ec ep) (n := 1) (cap := cap2) (Y := .arr 33 8 cap2 [zE]) (xs := [Exp.cv (.mk k (.mk vk vn vt vl) es2 ec ep)]) i3 i4 fr.1 fr.2 rfl rfl
        have hq2 := eo_put2 (L := []) (e := .mk k (.mk vk vn vt vl) es2 ec ep) (n := 1) (cap := cap2) (Y := .arr 33 8 cap2 [zE]) (xs := [Exp.cv (.mk k (.mk vk vn vt vl) es2 ec ep)]) i3 i4 fr.1 fr.2 rfl rfl
        first
          | (refine hK ⟨i + 1, _⟩ _ _ ⟨by dsimp only; omega, by dsimp only; rw [hsn, ← List.append_assoc, hL]; exact hq⟩ (by dsimp only; omega) ?_
             (refine ⟨rfl, ?_, ?_, Sub.refl _⟩ <;> repeat' (first | exact EnvLe.nil | exact LocsLe.nil | refine EnvLe.cons _ _ _ ?_ ?_ | refine LocsLe.cons _ _ _ ?_ ?_ | exact CVle.same _ rfl | exact CVle.vec _ _ | exact CVle.nil | exact CVle.tok _ _ _ rfl rfl | exact ObLe.tok _ _ rfl | exact CVles.nil | refine CVles.cons ?_ ?_ | exact ObLe.same _ rfl rfl | refine ObLe.cells rfl ?_))
             done)
          | (refine hK ⟨i + 1, _⟩ _ _ ⟨by dsimp only; omega, by dsimp only; rw [hsn, ← List.append_assoc, hL]; exact hq2⟩ (by dsimp only; omega) ?_
             (refine ⟨rfl, ?_, ?_, Sub.refl _⟩ <;> repeat' (first | exact EnvLe.nil | exact LocsLe.nil | refine EnvLe.cons _ _ _ ?_ ?_ | refine LocsLe.cons _ _ _ ?_ ?_ | exact CVle.same _ rfl | exact CVle.vec _ _ | exact CVle.nil | exact CVle.tok _ _ _ rfl rfl | exact ObLe.tok _ _ rfl | exact CVles.nil | refine CVles.cons ?_ ?_ | exact ObLe.same _ rfl rfl | refine ObLe.cells rfl ?_))
             done)
    · have e6 := ecvs_length L
      conv => whnf
      repeat' (first | (refine AndN.mk ?_ ?_) | (refine needTail ?_) | (refine GetN.go ?_ (h := i8)) | (refine GetN.go ?_ (h := i9)) | (refine ElemN.go ?_ (h := hx)) | (refine AllocC.go (fun l2 cap2 hl2 hcap2 => ?_)) | (refine Need.mk ⟨rfl, by omega, by simp only [List.length_cons, List.length_nil]; omega, by simp only [List.length_cons, List.length_nil]; omega, ElsOk.one rfl rfl⟩ ?_) | (refine ExtN.ext ?_) | (refine GetN.go ?_ (h := got2 i8 ‹_›)) | (refine GetN.go ?_ (h := gotB i8 ‹_›)) | (refine GetN.go ?_ (h := got3 (fun e => by subst e; rw [i8] at hl2; cases hl2))) | (refine GetN.go ?_ (h := got2c i6 i8)) | (refine GetN.go ?_ (h := gotC i6 i8)) | (refine GetN.go ?_ (h := got3 i6)) | (refine ElemN.go ?_ (h := at_in)) | (refine ElemN.go ?_ (h := at_new)) | refine OrdN.go ?_ | refine Fork.yp ?_ | refine Fork.np ?_ | refine Fork.ny ?_ | refine Fork.nn ?_ | refine Fork.yb ?_ | refine Fork.nb ?_ | refine Fork.dp (fun h => ?_) (fun h => ?_) | refine Fork.dn (fun h => ?_) (fun h => ?_) | (refine Fork.mk (fun h => ?_) (fun h => ?_) <;> simp only [decide_eq_true_eq, decide_eq_false_iff_not, Bool.not_eq_true', Bool.not_eq_false', Bool.or_eq_true, Bool.or_eq_false_iff] at h) | refine GetN.go ?_ | refine Need.ap1 ?_ | refine Need.ap0 ?_ | refine Need.go ?_ | refine Need.draw ?_ | refine ElemN.go ?_ | refine ExtN.ext ?_ | refine ExtN.wr ?_ | refine AllocN.go (fun l hl => ?_) | refine finGo ?_) <;> try (conv => whnf)
      all_goals first
        | (have hq := eo_put (L := L) (e := .mk k (.mk vk vn vt vl) es2 ec ep) (n := L.length + 1) (cap := cap) (Y := .arr 33 8 cap ((Exp.cvs L).take L.length ++ [zE] ++ (Exp.cvs L).drop (L.length + 1))) (xs := ((Exp.cvs L).take L.length ++ [zE] ++ (Exp.cvs L).drop (L.length + 1)).set L.length (Exp.cv (.mk k (.mk vk vn vt vl) es2 ec ep))) i3 i4 i7 i6 (set_in rfl) rfl
           have hq2 := eo_put2 (L := L) (e := .mk k (.mk vk vn vt vl) es2 ec ep) (n := L.length + 1) (cap := cap) (Y := .arr 33 8 cap ((Exp.cvs L).take L.length ++ [zE] ++ (Exp.cvs L).drop (L.length + 1))) (xs := ((Exp.cvs L).take L.length ++ [zE] ++ (Exp.cvs L).drop (L.length + 1)).set L.length (Exp.cv (.mk k (.mk vk vn vt vl) es2 ec ep))) i3 i4 i7 i6 (set_in rfl) rfl
           first
             | (refine hK ⟨i + 1, _⟩ _ _ ⟨by dsimp only; omega, by dsimp only; rw [hsn, ← List.append_assoc, hL]; exact hq⟩ (by dsimp only; omega) ?_
                (refine ⟨rfl, ?_, ?_, Sub.refl _⟩ <;> repeat' (first | exact EnvLe.nil | exact LocsLe.nil | refine EnvLe.cons _ _ _ ?_ ?_ | refine LocsLe.cons _ _ _ ?_ ?_ | exact CVle.same _ rfl | exact CVle.vec _ _ | exact CVle.nil | exact CVle.tok _ _ _ rfl rfl | exact ObLe.tok _ _ rfl | exact CVles.nil | refine CVles.cons ?_ ?_ | exact ObLe.same _ rfl rfl | refine ObLe.cells rfl ?_))
                done)
             | (refine hK ⟨i + 1, _⟩ _ _ ⟨by dsimp only; omega, by dsimp only; rw [hsn, ← List.append_assoc, hL]; exact hq2⟩ (by dsimp only; omega) ?_
                (refine ⟨rfl, ?_, ?_, Sub.refl _⟩ <;> repeat' (first | exact EnvLe.nil | exact LocsLe.nil | refine EnvLe.cons _ _ _ ?_ ?_ | refine LocsLe.cons _ _ _ ?_ ?_ | exact CVle.same _ rfl | exact CVle.vec _ _ | exact CVle.nil | exact CVle.tok _ _ _ rfl rfl | exact ObLe.tok _ _ rfl | exact CVles.nil | refine CVles.cons ?_ ?_ | exact ObLe.same _ rfl rfl | refine ObLe.cells rfl ?_))
                done))
        | (have fr := eo_fr i3 i8 hl2
           have hp := eo_put (L := L) (e := .mk k (.mk vk vn vt vl) es2 ec ep) (n := L.length + 1) (cap := cap2) (Y := .arr 33 8 cap2 ((Exp.cvs L).take L.length ++ [zE])) (xs := ((Exp.cvs L).take L.length ++ [zE]).set L.length (Exp.cv (.mk k (.mk vk vn vt vl) es2 ec ep))) i3 i4 fr.1 fr.2 (set_new rfl) rfl
           have hp2 := eo_put2 (L := L) (e := .mk k (.mk vk vn vt vl) es2 ec ep) (n := L.length + 1) (cap := cap2) (Y := .arr 33 8 cap2 ((Exp.cvs L).take L.length ++ [zE])) (xs := ((Exp.cvs L).take L.length ++ [zE]).set L.length (Exp.cv (.mk k (.mk vk vn vt vl) es2 ec ep))) i3 i4 fr.1 fr.2 (set_new rfl) rfl
           first
             | (refine hK ⟨i + 1, _⟩ _ _ ⟨by dsimp only; omega, by dsimp only; rw [hsn, ← List.append_assoc, hL]; exact hp⟩ (by dsimp only; omega) ?_
                (refine ⟨rfl, ?_, ?_, Sub.refl _⟩ <;> repeat' (first | exact EnvLe.nil | exact LocsLe.nil | refine EnvLe.cons _ _ _ ?_ ?_ | refine LocsLe.cons _ _ _ ?_ ?_ | exact CVle.same _ rfl | exact CVle.vec _ _ | exact CVle.nil | exact CVle.tok _ _ _ rfl rfl | exact ObLe.tok _ _ rfl | exact CVles.nil | refine CVles.cons ?_ ?_ | exact ObLe.same _ rfl rfl | refine ObLe.cells rfl ?_))
                done)
             | (refine hK ⟨i + 1, _⟩ _ _ ⟨by dsimp only; omega, by dsimp only; rw [hsn, ← List.append_assoc, hL]; exact hp2⟩ (by dsimp only; omega) ?_
                (refine ⟨rfl, ?_, ?_, Sub.refl _⟩ <;> repeat' (first | exact EnvLe.nil | exact LocsLe.nil | refine EnvLe.cons _ _ _ ?_ ?_ | refine LocsLe.cons _ _ _ ?_ ?_ | exact CVle.same _ rfl | exact CVle.vec _ _ | exact CVle.nil | exact CVle.tok _ _ _ rfl rfl | exact ObLe.tok _ _ rfl | exact CVles.nil | refine CVles.cons ?_ ?_ | exact ObLe.same _ rfl rfl | refine ObLe.cells rfl ?_))
                done))
  · rw [List.take_of_length_le (by omega)] at i2
    conv => whnf
    repeat' (first | refine OrdN.one ?_ | refine Fork.yp ?_ | refine Fork.np ?_ | refine Fork.ny ?_ | refine Fork.nn ?_ | refine Fork.yb ?_ | refine Fork.nb ?_ | refine Fork.dp (fun h => ?_) (fun h => ?_) | refine Fork.dn (fun h => ?_) (fun h => ?_) | (refine Fork.mk (fun h => ?_) (fun h => ?_) <;> simp only [decide_eq_true_eq, decide_eq_false_iff_not, Bool.not_eq_true', Bool.not_eq_false', Bool.or_eq_true, Bool.or_eq_false_iff] at h) | refine GetN.go ?_ | refine Need.ap1 ?_ | refine Need.ap0 ?_ | refine Need.go ?_ | refine Need.draw ?_ | refine ElemN.go ?_ | refine ExtN.ext ?_ | refine ExtN.wr ?_ | refine AllocN.go (fun l hl => ?_) | refine finGo ?_) <;> try (conv => whnf)
    exact ⟨_, i2, rfl⟩
theorem l2AddB_c {σ : Heap} {l : List ByteArray} {s : ByteArray} (hl : l.length ≤ 1000000) : CRun Tryz.prog 111 [.vec (strs l), .sc (.string s)] σ (· = .ret (.vec (strs (ins l s))) σ) := by
  have e3 := strs_len l
  refine crun_of (X := X) X_ok X_sat (body := bodyOf Tryz.f111) Tryz.func111 rfl (by kernel_rfl) (by kernel_rfl) ?_
  rw [Tryz.ntmps111]
  conv => whnf
  repeat' (first | refine OrdN.one ?_ | refine Fork.yp ?_ | refine Fork.np ?_ | refine Fork.ny ?_ | refine Fork.nn ?_ | refine Fork.yb ?_ | refine Fork.nb ?_ | refine Fork.dp (fun h => ?_) (fun h => ?_) | refine Fork.dn (fun h => ?_) (fun h => ?_) | (refine Fork.mk (fun h => ?_) (fun h => ?_) <;> simp only [decide_eq_true_eq, decide_eq_false_iff_not, Bool.not_eq_true', Bool.not_eq_false', Bool.or_eq_true, Bool.or_eq_false_iff] at h) | refine GetN.go ?_ | refine Need.ap1 ?_ | refine Need.ap0 ?_ | refine Need.go ?_ | refine Need.draw ?_ | refine ElemN.go ?_ | refine ExtN.ext ?_ | refine ExtN.wr ?_ | refine AllocN.go (fun l hl => ?_) | refine finGo ?_) <;> try (conv => whnf)
  refine LoopN.rule (α := Nat) (fun i => ⟨45, [(0, .vec (strs l)), (1, .sc (.string s)), (4, .nil), (5, i64 i)], []⟩)
    (fun _ => σ) (fun i => l.length - i) (fun i => i ≤ l.length ∧ ∀ j y, j < i → l[j]? = some y → lt y s = true) ?_ 0 ⟨by omega, by omega⟩ ?_
  rotate_left
  · (refine ⟨rfl, ?_, ?_, Sub.refl _⟩ <;> repeat' (first | exact EnvLe.nil | exact LocsLe.nil | refine EnvLe.cons _ _ _ ?_ ?_ | refine LocsLe.cons _ _ _ ?_ ?_ | exact CVle.same _ rfl | exact CVle.vec _ _ | exact CVle.nil | exact CVle.tok _ _ _ rfl rfl | exact ObLe.tok _ _ rfl | exact CVles.nil | refine CVles.cons ?_ ?_ | exact ObLe.same _ rfl rfl | refine ObLe.cells rfl ?_))
  rintro i K ⟨h1, h2⟩ hK
  dsimp only at h1 h2 ⊢
  have newE := fun h => ins_new h2 h1 h
  have same := fun x (h : l[i]? = some x) => ins_same h2 h
  have eT : ∀ f : ByteArray → CV, List.take l.length (l.map f) = l.map f := fun f => List.take_of_length_le (by simp)
  by_cases hi : i < l.length
  · obtain ⟨x, hm, hg, hg'⟩ := strs_at hi
    cases hx : lt x s with
    | true =>
      unfold lt at hx
      conv => whnf
      repeat' (first | refine OrdN.one ?_ | refine Fork.yp ?_ | refine Fork.np ?_ | refine Fork.ny ?_ | refine Fork.nn ?_ | refine Fork.yb ?_ | refine Fork.nb ?_ | refine Fork.dp (fun h => ?_) (fun h => ?_) | refine Fork.dn (fun h => ?_) (fun h => ?_) | (refine Fork.mk (fun h => ?_) (fun h => ?_) <;> simp only [decide_eq_true_eq, decide_eq_false_iff_not, Bool.not_eq_true', Bool.not_eq_false', Bool.or_eq_true, Bool.or_eq_false_iff] at h) | refine GetN.go ?_ | refine Need.ap1 ?_ | refine Need.ap0 ?_ | refine Need.go ?_ | refine Need.draw ?_ | refine ElemN.go ?_ | refine ExtN.ext ?_ | refine ExtN.wr ?_ | refine AllocN.go (fun l hl => ?_) | refine finGo ?_) <;> try (conv => whnf)
      refine hK (i + 1) _ _ ⟨by omega, fun j y hj hy => ?_⟩ (by omega) ?_
      · rcases Nat.lt_succ_iff_lt_or_eq.1 hj with e | e
        · exact h2 j y e hy
        · subst e; rw [hg] at hy; cases hy; exact hx
      (refine ⟨rfl, ?_, ?_, Sub.refl _⟩ <;> repeat' (first | exact EnvLe.nil | exact LocsLe.nil | refine EnvLe.cons _ _ _ ?_ ?_ | refine LocsLe.cons _ _ _ ?_ ?_ | exact CVle.same _ rfl | exact CVle.vec _ _ | exact CVle.nil | exact CVle.tok _ _ _ rfl rfl | exact ObLe.tok _ _ rfl | exact CVles.nil | refine CVles.cons ?_ ?_ | exact ObLe.same _ rfl rfl | refine ObLe.cells rfl ?_))
    | false =>
      have same := same x hg hx
      have hx' := hx
      unfold lt at hx
      by_cases he : x = s
      · have same := same he
        conv => whnf
        repeat' (first | refine OrdN.one ?_ | refine Fork.yp ?_ | refine Fork.np ?_ | refine Fork.ny ?_ | refine Fork.nn ?_ | refine Fork.yb ?_ | refine Fork.nb ?_ | refine Fork.dp (fun h => ?_) (fun h => ?_) | refine Fork.dn (fun h => ?_) (fun h => ?_) | (refine Fork.mk (fun h => ?_) (fun h => ?_) <;> simp only [decide_eq_true_eq, decide_eq_false_iff_not, Bool.not_eq_true', Bool.not_eq_false', Bool.or_eq_true, Bool.or_eq_false_iff] at h) | refine GetN.go ?_ | refine Need.ap1 ?_ | refine Need.ap0 ?_ | refine Need.go ?_ | refine Need.draw ?_ | refine ElemN.go ?_ | refine ExtN.ext ?_ | refine ExtN.wr ?_ | refine AllocN.go (fun l hl => ?_) | refine finGo ?_) <;> try (conv => whnf)
        all_goals exact ansC (by rw [same])
      · have newE := newE (fun y hy => by rw [hg] at hy; cases hy; exact ⟨hx', he⟩)
        have b2 : (List.drop ((i : Int)).toNat (List.take (((strs l).length : Nat) : Int).toNat (strs l))).isEmpty = false := by
          rw [Int.toNat_natCast, Int.toNat_natCast, List.take_length, List.drop_eq_getElem_cons (by omega)]; rfl
        cases i with
        | zero =>
          have b1 : (List.drop (Int.toNat 0) (List.take (((0 : Nat) : Int)).toNat (strs l))).isEmpty = true := rfl
          conv => whnf
          repeat' (first | (refine Need.mk ⟨by omega, by omega, by omega, .inr strs_one⟩ ?_) | (refine Need.ap1 ?_ (h1 := by simp only [List.length_replicate, List.length_append, List.length_drop, List.length_take, List.length_cons, List.length_nil, Int.toNat_natCast]; omega) (h2 := by first | rfl | (simp only [List.length_append]))) | (refine Need.ap2 ?_ (h := els_strs) (h1 := by simp only [List.length_replicate, List.length_append, List.length_drop, List.length_take, List.length_cons, List.length_nil, Int.toNat_natCast]; omega) (h3 := by simp only [List.length_replicate, List.length_append, List.length_drop, List.length_take, List.length_cons, List.length_nil, Int.toNat_natCast]; omega) (h2 := by first | rfl | (simp only [List.length_append]))) | refine OrdN.one ?_ | refine Fork.yp ?_ | refine Fork.np ?_ | refine Fork.ny ?_ | refine Fork.nn ?_ | refine Fork.yb ?_ | refine Fork.nb ?_ | refine Fork.dp (fun h => ?_) (fun h => ?_) | refine Fork.dn (fun h => ?_) (fun h => ?_) | (refine Fork.mk (fun h => ?_) (fun h => ?_) <;> simp only [decide_eq_true_eq, decide_eq_false_iff_not, Bool.not_eq_true', Bool.not_eq_false', Bool.or_eq_true, Bool.or_eq_false_iff] at h) | refine GetN.go ?_ | refine Need.ap1 ?_ | refine Need.ap0 ?_ | refine Need.go ?_ | refine Need.draw ?_ | refine ElemN.go ?_ | refine ExtN.ext ?_ | refine ExtN.wr ?_ | refine AllocN.go (fun l hl => ?_) | refine finGo ?_) <;> try (conv => whnf)
          all_goals exact ansC (by rw [newE]; simp [strs, eT])
        | succ i =>
          have b1 : (List.drop (Int.toNat 0) (List.take (((i + 1 : Nat) : Int)).toNat (strs l))).isEmpty = false := by
            rw [Int.toNat_natCast]
            cases h : strs l with
            | nil => rw [h] at hg'; simp at hg'
            | cons _ _ => rfl
          conv => whnf
          repeat' (first | (refine Need.mk ⟨by omega, by omega, by omega, .inr strs_one⟩ ?_) | (refine Need.ap1 ?_ (h1 := by simp only [List.length_replicate, List.length_append, List.length_drop, List.length_take, List.length_cons, List.length_nil, Int.toNat_natCast]; omega) (h2 := by first | rfl | (simp only [List.length_append]))) | (refine Need.ap2 ?_ (h := els_strs) (h1 := by simp only [List.length_replicate, List.length_append, List.length_drop, List.length_take, List.length_cons, List.length_nil, Int.toNat_natCast]; omega) (h3 := by simp only [List.length_replicate, List.length_append, List.length_drop, List.length_take, List.length_cons, List.length_nil, Int.toNat_natCast]; omega) (h2 := by first | rfl | (simp only [List.length_append]))) | refine OrdN.one ?_ | refine Fork.yp ?_ | refine Fork.np ?_ | refine Fork.ny ?_ | refine Fork.nn ?_ | refine Fork.yb ?_ | refine Fork.nb ?_ | refine Fork.dp (fun h => ?_) (fun h => ?_) | refine Fork.dn (fun h => ?_) (fun h => ?_) | (refine Fork.mk (fun h => ?_) (fun h => ?_) <;> simp only [decide_eq_true_eq, decide_eq_false_iff_not, Bool.not_eq_true', Bool.not_eq_false', Bool.or_eq_true, Bool.or_eq_false_iff] at h) | refine GetN.go ?_ | refine Need.ap1 ?_ | refine Need.ap0 ?_ | refine Need.go ?_ | refine Need.draw ?_ | refine ElemN.go ?_ | refine ExtN.ext ?_ | refine ExtN.wr ?_ | refine AllocN.go (fun l hl => ?_) | refine finGo ?_) <;> try (conv => whnf)
          all_goals exact ansC (by rw [newE]; simp [strs, eT])
  · have nE := newE (fun y hy => by rw [List.getElem?_eq_none (by omega)] at hy; cases hy)
    clear newE
    rw [List.take_of_length_le (by omega), List.drop_eq_nil_of_le (by omega)] at nE
    have hil : i = l.length := by omega
    have b2 : (List.drop ((i : Int)).toNat (List.take (((strs l).length : Nat) : Int).toNat (strs l))).isEmpty = true := by
      rw [Int.toNat_natCast, Int.toNat_natCast, List.take_length, List.drop_eq_nil_of_le (by omega)]; rfl
    cases i with
    | zero =>
      have b1 : (List.drop (Int.toNat 0) (List.take (((0 : Nat) : Int)).toNat (strs l))).isEmpty = true := rfl
      conv => whnf
      repeat' (first | (refine Need.mk ⟨by omega, by omega, by omega, .inr strs_one⟩ ?_) | (refine Need.ap1 ?_ (h1 := by simp only [List.length_replicate, List.length_append, List.length_drop, List.length_take, List.length_cons, List.length_nil, Int.toNat_natCast]; omega) (h2 := by first | rfl | (simp only [List.length_append]))) | (refine Need.ap2 ?_ (h := els_strs) (h1 := by simp only [List.length_replicate, List.length_append, List.length_drop, List.length_take, List.length_cons, List.length_nil, Int.toNat_natCast]; omega) (h3 := by simp only [List.length_replicate, List.length_append, List.length_drop, List.length_take, List.length_cons, List.length_nil, Int.toNat_natCast]; omega) (h2 := by first | rfl | (simp only [List.length_append]))) | refine OrdN.one ?_ | refine Fork.yp ?_ | refine Fork.np ?_ | refine Fork.ny ?_ | refine Fork.nn ?_ | refine Fork.yb ?_ | refine Fork.nb ?_ | refine Fork.dp (fun h => ?_) (fun h => ?_) | refine Fork.dn (fun h => ?_) (fun h => ?_) | (refine Fork.mk (fun h => ?_) (fun h => ?_) <;> simp only [decide_eq_true_eq, decide_eq_false_iff_not, Bool.not_eq_true', Bool.not_eq_false', Bool.or_eq_true, Bool.or_eq_false_iff] at h) | refine GetN.go ?_ | refine Need.ap1 ?_ | refine Need.ap0 ?_ | refine Need.go ?_ | refine Need.draw ?_ | refine ElemN.go ?_ | refine ExtN.ext ?_ | refine ExtN.wr ?_ | refine AllocN.go (fun l hl => ?_) | refine finGo ?_) <;> try (conv => whnf)
      all_goals exact ansC (by rw [nE]; obtain rfl : l = [] := List.eq_nil_of_length_eq_zero hil.symm; simp [strs])
    | succ i =>
      have b1 : (List.drop (Int.toNat 0) (List.take (((i + 1 : Nat) : Int)).toNat (strs l))).isEmpty = false := by
        rw [Int.toNat_natCast]
        cases h : strs l with
        | nil => rw [h] at e3; simp at e3; omega
        | cons _ _ => rfl
      conv => whnf
      repeat' (first | (refine Need.mk ⟨by omega, by omega, by omega, .inr strs_one⟩ ?_) | (refine Need.ap1 ?_ (h1 := by simp only [List.length_replicate, List.length_append, List.length_drop, List.length_take, List.length_cons, List.length_nil, Int.toNat_natCast]; omega) (h2 := by first | rfl | (simp only [List.length_append]))) | (refine Need.ap2 ?_ (h := els_strs) (h1 := by simp only [List.length_replicate, List.length_append, List.length_drop, List.length_take, List.length_cons, List.length_nil, Int.toNat_natCast]; omega) (h3 := by simp only [List.length_replicate, List.length_append, List.length_drop, List.length_take, List.length_cons, List.length_nil, Int.toNat_natCast]; omega) (h2 := by first | rfl | (simp only [List.length_append]))) | refine OrdN.one ?_ | refine Fork.yp ?_ | refine Fork.np ?_ | refine Fork.ny ?_ | refine Fork.nn ?_ | refine Fork.yb ?_ | refine Fork.nb ?_ | refine Fork.dp (fun h => ?_) (fun h => ?_) | refine Fork.dn (fun h => ?_) (fun h => ?_) | (refine Fork.mk (fun h => ?_) (fun h => ?_) <;> simp only [decide_eq_true_eq, decide_eq_false_iff_not, Bool.not_eq_true', Bool.not_eq_false', Bool.or_eq_true, Bool.or_eq_false_iff] at h) | refine GetN.go ?_ | refine Need.ap1 ?_ | refine Need.ap0 ?_ | refine Need.go ?_ | refine Need.draw ?_ | refine ElemN.go ?_ | refine ExtN.ext ?_ | refine ExtN.wr ?_ | refine AllocN.go (fun l hl => ?_) | refine finGo ?_) <;> try (conv => whnf)
      all_goals exact ansC (by rw [nE]; simp only [strs, Int.toNat_zero, List.drop_zero, Int.toNat_natCast, List.map_append, List.map_cons, List.map_nil, List.replicate_zero, List.nil_append]; rw [List.take_of_length_le (by rw [List.length_map]; omega)])
def giveIf : Exp → List ByteArray
  | .mk k _ s _ _ => if k = 4 then [s] else []
def givesOf (l : List Exp) : List ByteArray := (l.map giveIf).flatten
theorem givesOf_app (a b : List Exp) : givesOf (a ++ b) = givesOf a ++ givesOf b := by simp [givesOf]
theorem givesOf_cons (e : Exp) (b : List Exp) : givesOf (e :: b) = giveIf e ++ givesOf b := by simp [givesOf]
theorem giveIf_len (e : Exp) : (giveIf e).length ≤ 1 := by
  obtain ⟨k, v, s, c, ps⟩ := e
  show (if k = 4 then [s] else []).length ≤ 1
  split <;> simp
theorem givesOf_len (l : List Exp) : (givesOf l).length ≤ l.length := by
  induction l with
  | nil => simp [givesOf]
  | cons e r ih => rw [givesOf_cons, List.length_append, List.length_cons]; have := giveIf_len e; omega
theorem l5Given_c {e : Exp} (he : ETame e) : ∀ {out : List ByteArray} {σ : Heap}, out.length + (subsE e).length ≤ 1000000 → CRun Tryz.prog 65 [e.cv, .vec (strs out)] σ (· = .ret (.vec (strs ((givesOf (subsE e)).foldl ins out))) σ) := by
  induction he with
  | @mk k v s c ps hv hs hc hl hps ih =>
    intro out σ hlen
    have e3 := ecvs_length ps
    obtain ⟨vk, vn, vt, vl⟩ := v
    have eS : subsE (.mk k (.mk vk vn vt vl) s c ps) = .mk k (.mk vk vn vt vl) s c ps :: subsL ps := by simp only [subsE]
    rw [eS, List.length_cons] at hlen
    rw [eS, givesOf_cons, List.foldl_append]
    have a1 := l2AddB_c (σ := σ) (l := out) (s := s) (by omega)
    by_cases hk : k = 4
    · rw [show giveIf (.mk k (.mk vk vn vt vl) s c ps) = [s] from if_pos hk, List.foldl_cons, List.foldl_nil]
      have hl2 := ins_len out s
      generalize ins out s = out1 at a1 hl2 ⊢
      refine crun_of (X := X) X_ok X_sat (body := bodyOf Tryz.f65) Tryz.func65 rfl (by kernel_rfl) (by kernel_rfl) ?_
      rw [Tryz.ntmps65]
      conv => whnf
      repeat' (first | (refine CallN.one a1 ?_) | refine OrdN.one ?_ | refine Fork.yp ?_ | refine Fork.np ?_ | refine Fork.ny ?_ | refine Fork.nn ?_ | refine Fork.yb ?_ | refine Fork.nb ?_ | refine Fork.dp (fun h => ?_) (fun h => ?_) | refine Fork.dn (fun h => ?_) (fun h => ?_) | (refine Fork.mk (fun h => ?_) (fun h => ?_) <;> simp only [decide_eq_true_eq, decide_eq_false_iff_not, Bool.not_eq_true', Bool.not_eq_false', Bool.or_eq_true, Bool.or_eq_false_iff] at h) | refine GetN.go ?_ | refine Need.ap1 ?_ | refine Need.ap0 ?_ | refine Need.go ?_ | refine Need.draw ?_ | refine ElemN.go ?_ | refine ExtN.ext ?_ | refine ExtN.wr ?_ | refine AllocN.go (fun l hl => ?_) | refine finGo ?_) <;> try (conv => whnf)
      all_goals
        refine LoopN.rule (α := Nat) (fun i => ⟨28, [(1, .vec (strs ((givesOf (subsL (ps.take i))).foldl ins out1))), (2, .ptr (.f 2) 0), (4, .nil), (5, i64 i)], [(2, .cells [i64 k, i64 vk, i64 vn, .sc (.string vt), .vec (Val.cvs vl), .sc (.string s), .sc (.string c), .vec (Exp.cvs ps)])]⟩)
          (fun _ => σ) (fun i => ps.length - i) (fun i => i ≤ ps.length) ?_ 0 (by omega) ?_
        rotate_left
        · (refine ⟨rfl, ?_, ?_, Sub.refl _⟩ <;> repeat' (first | exact EnvLe.nil | exact LocsLe.nil | refine EnvLe.cons _ _ _ ?_ ?_ | refine LocsLe.cons _ _ _ ?_ ?_ | exact CVle.same _ rfl | exact CVle.vec _ _ | exact CVle.nil | exact CVle.tok _ _ _ rfl rfl | exact ObLe.tok _ _ rfl | exact CVles.nil | refine CVles.cons ?_ ?_ | exact ObLe.same _ rfl rfl | refine ObLe.cells rfl ?_))
        rintro i K h1 hK
        dsimp only at h1 hK ⊢
        by_cases hi : i < ps.length
        · obtain ⟨⟨wk, ⟨b1, b2, b3, b4⟩, ws, wc, wp⟩, hm, hg, hg'⟩ := ecvs_at hi
          have tk := subsL_take hg
          have hsub := subsL_len ps (i + 1)
          have c1 := ih _ hm (out := (givesOf (subsL (ps.take i))).foldl ins out1) (σ := σ) (by
            have h2 := fold_len (givesOf (subsL (ps.take i))) out1
            have h3 := givesOf_len (subsL (ps.take i))
            rw [tk, List.length_append] at hsub
            omega)
          rw [← List.foldl_append, ← givesOf_app, ← tk] at c1
          conv => whnf
          repeat' (first | (refine CallN.one c1 ?_) | refine OrdN.one ?_ | refine Fork.yp ?_ | refine Fork.np ?_ | refine Fork.ny ?_ | refine Fork.nn ?_ | refine Fork.yb ?_ | refine Fork.nb ?_ | refine Fork.dp (fun h => ?_) (fun h => ?_) | refine Fork.dn (fun h => ?_) (fun h => ?_) | (refine Fork.mk (fun h => ?_) (fun h => ?_) <;> simp only [decide_eq_true_eq, decide_eq_false_iff_not, Bool.not_eq_true', Bool.not_eq_false', Bool.or_eq_true, Bool.or_eq_false_iff] at h) | refine GetN.go ?_ | refine Need.ap1 ?_ | refine Need.ap0 ?_ | refine Need.go ?_ | refine Need.draw ?_ | refine ElemN.go ?_ | refine ExtN.ext ?_ | refine ExtN.wr ?_ | refine AllocN.go (fun l hl => ?_) | refine finGo ?_) <;> try (conv => whnf)
          refine hK (i + 1) _ _ (by omega) (by omega) ?_
          (refine ⟨rfl, ?_, ?_, Sub.refl _⟩ <;> repeat' (first | exact EnvLe.nil | exact LocsLe.nil | refine EnvLe.cons _ _ _ ?_ ?_ | refine LocsLe.cons _ _ _ ?_ ?_ | exact CVle.same _ rfl | exact CVle.vec _ _ | exact CVle.nil | exact CVle.tok _ _ _ rfl rfl | exact ObLe.tok _ _ rfl | exact CVles.nil | refine CVles.cons ?_ ?_ | exact ObLe.same _ rfl rfl | refine ObLe.cells rfl ?_))
        · conv => whnf
          repeat' (first | refine OrdN.one ?_ | refine Fork.yp ?_ | refine Fork.np ?_ | refine Fork.ny ?_ | refine Fork.nn ?_ | refine Fork.yb ?_ | refine Fork.nb ?_ | refine Fork.dp (fun h => ?_) (fun h => ?_) | refine Fork.dn (fun h => ?_) (fun h => ?_) | (refine Fork.mk (fun h => ?_) (fun h => ?_) <;> simp only [decide_eq_true_eq, decide_eq_false_iff_not, Bool.not_eq_true', Bool.not_eq_false', Bool.or_eq_true, Bool.or_eq_false_iff] at h) | refine GetN.go ?_ | refine Need.ap1 ?_ | refine Need.ap0 ?_ | refine Need.go ?_ | refine Need.draw ?_ | refine ElemN.go ?_ | refine ExtN.ext ?_ | refine ExtN.wr ?_ | refine AllocN.go (fun l hl => ?_) | refine finGo ?_) <;> try (conv => whnf)
          all_goals exact ansC (by rw [List.take_of_length_le (by omega)])
    · rw [show giveIf (.mk k (.mk vk vn vt vl) s c ps) = [] from if_neg hk, List.foldl_nil]
      clear a1
      have hl2 : out.length ≤ out.length + 1 := by omega
      generalize out = out1 at hlen hl2 ⊢
      refine crun_of (X := X) X_ok X_sat (body := bodyOf Tryz.f65) Tryz.func65 rfl (by kernel_rfl) (by kernel_rfl) ?_
      rw [Tryz.ntmps65]
      conv => whnf
      repeat' (first | refine OrdN.one ?_ | refine Fork.yp ?_ | refine Fork.np ?_ | refine Fork.ny ?_ | refine Fork.nn ?_ | refine Fork.yb ?_ | refine Fork.nb ?_ | refine Fork.dp (fun h => ?_) (fun h => ?_) | refine Fork.dn (fun h => ?_) (fun h => ?_) | (refine Fork.mk (fun h => ?_) (fun h => ?_) <;> simp only [decide_eq_true_eq, decide_eq_false_iff_not, Bool.not_eq_true', Bool.not_eq_false', Bool.or_eq_true, Bool.or_eq_false_iff] at h) | refine GetN.go ?_ | refine Need.ap1 ?_ | refine Need.ap0 ?_ | refine Need.go ?_ | refine Need.draw ?_ | refine ElemN.go ?_ | refine ExtN.ext ?_ | refine ExtN.wr ?_ | refine AllocN.go (fun l hl => ?_) | refine finGo ?_) <;> try (conv => whnf)
      all_goals
        refine LoopN.rule (α := Nat) (fun i => ⟨28, [(1, .vec (strs ((givesOf (subsL (ps.take i))).foldl ins out1))), (2, .ptr (.f 2) 0), (4, .nil), (5, i64 i)], [(2, .cells [i64 k, i64 vk, i64 vn, .sc (.string vt), .vec (Val.cvs vl), .sc (.string s), .sc (.string c), .vec (Exp.cvs ps)])]⟩)
          (fun _ => σ) (fun i => ps.length - i) (fun i => i ≤ ps.length) ?_ 0 (by omega) ?_
        rotate_left
        · (refine ⟨rfl, ?_, ?_, Sub.refl _⟩ <;> repeat' (first | exact EnvLe.nil | exact LocsLe.nil | refine EnvLe.cons _ _ _ ?_ ?_ | refine LocsLe.cons _ _ _ ?_ ?_ | exact CVle.same _ rfl | exact CVle.vec _ _ | exact CVle.nil | exact CVle.tok _ _ _ rfl rfl | exact ObLe.tok _ _ rfl | exact CVles.nil | refine CVles.cons ?_ ?_ | exact ObLe.same _ rfl rfl | refine ObLe.cells rfl ?_))
        rintro i K h1 hK
        dsimp only at h1 hK ⊢
        by_cases hi : i < ps.length
        · obtain ⟨⟨wk, ⟨b1, b2, b3, b4⟩, ws, wc, wp⟩, hm, hg, hg'⟩ := ecvs_at hi
          have tk := subsL_take hg
          have hsub := subsL_len ps (i + 1)
          have c1 := ih _ hm (out := (givesOf (subsL (ps.take i))).foldl ins out1) (σ := σ) (by
            have h2 := fold_len (givesOf (subsL (ps.take i))) out1
            have h3 := givesOf_len (subsL (ps.take i))
            rw [tk, List.length_append] at hsub
            omega)
          rw [← List.foldl_append, ← givesOf_app, ← tk] at c1
          conv => whnf
          repeat' (first | (refine CallN.one c1 ?_) | refine OrdN.one ?_ | refine Fork.yp ?_ | refine Fork.np ?_ | refine Fork.ny ?_ | refine Fork.nn ?_ | refine Fork.yb ?_ | refine Fork.nb ?_ | refine Fork.dp (fun h => ?_) (fun h => ?_) | refine Fork.dn (fun h => ?_) (fun h => ?_) | (refine Fork.mk (fun h => ?_) (fun h => ?_) <;> simp only [decide_eq_true_eq, decide_eq_false_iff_not, Bool.not_eq_true', Bool.not_eq_false', Bool.or_eq_true, Bool.or_eq_false_iff] at h) | refine GetN.go ?_ | refine Need.ap1 ?_ | refine Need.ap0 ?_ | refine Need.go ?_ | refine Need.draw ?_ | refine ElemN.go ?_ | refine ExtN.ext ?_ | refine ExtN.wr ?_ | refine AllocN.go (fun l hl => ?_) | refine finGo ?_) <;> try (conv => whnf)
          refine hK (i + 1) _ _ (by omega) (by omega) ?_
          (refine ⟨rfl, ?_, ?_, Sub.refl _⟩ <;> repeat' (first | exact EnvLe.nil | exact LocsLe.nil | refine EnvLe.cons _ _ _ ?_ ?_ | refine LocsLe.cons _ _ _ ?_ ?_ | exact CVle.same _ rfl | exact CVle.vec _ _ | exact CVle.nil | exact CVle.tok _ _ _ rfl rfl | exact ObLe.tok _ _ rfl | exact CVles.nil | refine CVles.cons ?_ ?_ | exact ObLe.same _ rfl rfl | refine ObLe.cells rfl ?_))
        · conv => whnf
          repeat' (first | refine OrdN.one ?_ | refine Fork.yp ?_ | refine Fork.np ?_ | refine Fork.ny ?_ | refine Fork.nn ?_ | refine Fork.yb ?_ | refine Fork.nb ?_ | refine Fork.dp (fun h => ?_) (fun h => ?_) | refine Fork.dn (fun h => ?_) (fun h => ?_) | (refine Fork.mk (fun h => ?_) (fun h => ?_) <;> simp only [decide_eq_true_eq, decide_eq_false_iff_not, Bool.not_eq_true', Bool.not_eq_false', Bool.or_eq_true, Bool.or_eq_false_iff] at h) | refine GetN.go ?_ | refine Need.ap1 ?_ | refine Need.ap0 ?_ | refine Need.go ?_ | refine Need.draw ?_ | refine ElemN.go ?_ | refine ExtN.ext ?_ | refine ExtN.wr ?_ | refine AllocN.go (fun l hl => ?_) | refine finGo ?_) <;> try (conv => whnf)
          all_goals exact ansC (by rw [List.take_of_length_le (by omega)])
end Go.Proofs.YthllnbfkfobcjaaGreat
