/-
  Contracts of the functions that the law reaches.
-/
import Derived.Test.YtlamgfimgadnmaaGreatB
import Derived.Test.YtlamgfimgadnmaaGreatC
import Derived.Test.YtlamgfimgadnmaaGreatFwd
import Derived.Test.YtlamgfimgadnmaaGreatJ
import Derived.Test.YtlamgfimgadnmaaGreatN
set_option linter.unusedVariables false
set_option linter.unusedSimpArgs false
namespace Go.Proofs.YtlamgfimgadnmaaGreat
open Go Go.CL
set_option maxRecDepth 10000
def chk (v : Val) : Rs := if okV 3 v = true then .ok v else .err 2
def z7l : Val → Val → Rs
  | .mk k n t l, .mk k' n' t' l' => if k = 0 ∨ k' = 0 then .ok nullV else if k = 2 ∧ k' = 2 then chk (.mk 2 (n + n') ⟨#[]⟩ []) else if k = 3 ∧ k' = 3 then chk (.mk 3 0 (t ++ t') []) else if k = 4 ∧ k' = 4 then chk (.mk 4 0 ⟨#[]⟩ (l ++ l')) else .err 1
theorem zxo {k n k' n' : Int} {t t' : ByteArray} {l l' : List Val} : z7l (.mk k n t l) (.mk k' n' t' l') = if k = 0 ∨ k' = 0 then .ok nullV else if k = 2 ∧ k' = 2 then chk (.mk 2 (n + n') ⟨#[]⟩ []) else if k = 3 ∧ k' = 3 then chk (.mk 3 0 (t ++ t') []) else if k = 4 ∧ k' = 4 then chk (.mk 4 0 ⟨#[]⟩ (l ++ l')) else .err 1 := rfl
theorem zfe {d k n : Int} {t : ByteArray} {l : List Val} (h : okV d (.mk k n t l) = true) : (-1000000000 ≤ n ∧ n ≤ 1000000000) ∧ t.size ≤ 16 ∧ l.length ≤ 6 := by
  have e0 : (⟨#[]⟩ : ByteArray).size = 0 := rfl
  rcases zar h with ⟨h1, h2⟩ | h1 | h1 | h1 | h1 | h1 | h1 <;> subst h1
  · obtain ⟨e1, e2⟩ := j9 h (by decide) (by decide); subst e1 e2 h2; exact ⟨by omega, by decide, by simp⟩
  · obtain ⟨e1, e2⟩ := j9 h (by decide) (by decide); subst e1 e2; simp [okV] at h; simp; omega
  · obtain ⟨e1, e2⟩ := j9 h (by decide) (by decide); subst e1 e2; simp [okV] at h; simp; omega
  · obtain ⟨e1, e2⟩ := zb0 h
    subst e1 e2
    simp [okV, vr] at h
    simp; omega
  · obtain ⟨e1, e2⟩ := zf2 h
    subst e1 e2
    simp [okV] at h
    simp; omega
  · obtain ⟨e1, e2⟩ := j9 h (by decide) (by decide); subst e1 e2; simp [okV] at h; simp; omega
  · obtain ⟨e1, e2⟩ := j9 h (by decide) (by decide); subst e1 e2; simp [okV] at h; simp; omega
theorem zw8 {v : Val} (h : okV 3 v = true) : chk v = .ok v := if_pos h
theorem zw9 {v : Val} (h : okV 3 v = false) : chk v = .err 2 := if_neg (by simp [h])
theorem zw2 : ∀ (l : List Val), ElsOk 4 (Val.cvs l)
  | [] => .nil
  | .mk k n t v :: r => .cons rfl rfl (zw2 r)
theorem zzr {l : List Val} (h : ¬ l = []) : (Val.cvs l).isEmpty = false ∧ 1 ≤ (Val.cvs l).length := by
  cases l with
  | nil => exact absurd rfl h
  | cons v r => exact ⟨rfl, by simp [Val.cvs]⟩
def z1r (kind : Int) (a b : Val) : Rs := if kind = 5 then .ok (eq3 a b).v else if kind = 6 then .ok (zna a b) else if kind = 10 then z7l a b else if kind = 12 then z6n a b else if kind = 7 then zk1 a b else zyq a b
def zeroC : CV := .agg [i64 0, i64 0, .sc (.string ⟨#[]⟩), .vec []]
theorem z2y {σ : Heap} : CRun Tryz.prog 177 [.nil, i64 0] σ (· = .ret (.vec []) σ) := by
  refine ZX Tryz.func177 Tryz.ntmps177 ?_
  conv => whnf
  repeat' (first | (refine Need.go ?_ (h := by simp only [inR, List.length_nil]; omega)) | refine Zb ?_ | refine Zg ?_ | refine Zr ?_) <;> try (conv => whnf)
  all_goals rfl
theorem z5k {σ : Heap} {n : Int} (h1 : 1 ≤ n) (h2 : n ≤ 1000) : CRun Tryz.prog 177 [.nil, i64 n] σ
    (fun out => ∃ l cap, σ l = none ∧ n.toNat ≤ cap ∧ out = .ret (.grow l 0 cap) (upd σ l (.arr 55 4 cap (List.replicate n.toNat zeroC)))) := by
  have e : (n - 0 : Int) = n := by omega
  refine ZG [22] Tryz.func177 Tryz.ntmps177 ?_
  conv => whnf
  repeat' (first | (refine AllocC.go (fun l cap hl hcap => ?_)) | (refine Need.go ?_ (h := by simp only [inR, List.length_nil]; omega)) | refine Za ?_ | refine Zb ?_ | refine Zm ?_ | refine Zr ?_) <;> try (conv => whnf)
  all_goals exact ⟨l, cap, hl, by simp only [List.length_nil] at hcap; omega, by rw [show (n - (0 - (([] : List CV).length : Int)) : Int) = n by simp]; rfl⟩
def kg (xss : List (List Val)) : List CV := xss.map fun l => .vec (Val.cvs l)
theorem zvn (xss : List (List Val)) : (kg xss).length = xss.length := by simp [kg]
theorem zfh {xss : List (List Val)} {i : Nat} (hi : i < xss.length) : ∃ l, l ∈ xss ∧ (kg xss)[i]? = some (.vec (Val.cvs l)) ∧ (xss.take (i + 1)).flatten = (xss.take i).flatten ++ l := by
  refine ⟨xss[i], List.getElem_mem hi, ?_, ?_⟩
  · unfold kg; rw [List.getElem?_map, List.getElem?_eq_getElem hi]; rfl
  · rw [List.take_add_one, List.getElem?_eq_getElem hi, Option.toList_some, List.flatten_append, List.flatten_cons, List.flatten_nil, List.append_nil]
theorem z25 {xss : List (List Val)} (h : ∀ l ∈ xss, l.length ≤ 100) : xss.flatten.length ≤ 100 * xss.length := by
  induction xss with
  | nil => simp
  | cons l r ih =>
    have h1 := h l (by simp)
    have h2 := ih fun m hm => h m (by simp [hm])
    simp only [List.flatten_cons, List.length_append, List.length_cons]; omega
theorem zgg (xss : List (List Val)) (i : Nat) : (xss.take i).flatten.length ≤ xss.flatten.length := by
  have : xss.flatten = (xss.take i).flatten ++ (xss.drop i).flatten := by rw [← List.flatten_append, List.take_append_drop]
  rw [this, List.length_append]; omega
theorem z0c (a b : List CV) (z : CV) (m : Nat) : (a ++ List.replicate (b.length + m) z).take a.length ++ b ++ (a ++ List.replicate (b.length + m) z).drop (a.length + b.length) = (a ++ b) ++ List.replicate m z := by
  rw [List.take_left]
  congr 1
  rw [List.drop_append, List.drop_eq_nil_of_le (by omega), List.nil_append, List.drop_replicate]
  congr 1; omega
theorem zzt {σ : Heap} {xss : List (List Val)} (h1 : xss.length ≤ 10) (h2 : ∀ l ∈ xss, l.length ≤ 100) : CRun Tryz.prog 168 [.vec (kg xss)] σ (· = .ret (.vec (Val.cvs xss.flatten)) σ) := by
  have e3 := zvn xss
  have hN := z25 h2
  by_cases hz : xss.flatten.length = 0
  · have e0 : xss.flatten = [] := List.eq_nil_of_length_eq_zero hz
    rw [e0]
    have hall : ∀ l ∈ xss, l = [] := fun l hl => List.eq_nil_of_length_eq_zero (by
      have := List.flatten_eq_nil_iff.1 e0 l hl
      rw [this]; rfl)
    have c1 := @z2y σ
    refine ZX Tryz.func168 Tryz.ntmps168 ?_
    conv => whnf
    repeat' (first | refine Zh ?_ | refine Za ?_ | refine Zb ?_ | refine Zc ?_ | refine Zd ?_ | refine Ze ?_ | refine Zg ?_ | refine Zv (fun h => ?_) (fun h => ?_) | refine Zj ?_ | refine Zk ?_ | refine Zl ?_ | refine Zm ?_ | refine Zn ?_ | refine Zo ?_ | refine Zp ?_ | refine Zq ?_ | refine Zu (fun l hl => ?_) | refine Zr ?_) <;> try (conv => whnf)
    refine LoopN.rule (α := Nat) (fun i => ⟨36, [(0, .vec (kg xss)), (2, .nil), (3, i64 0), (9, .vec (kg xss)), (10, i64 (kg xss).length), (11, i64 i)], []⟩)
      (fun _ => σ) (fun i => xss.length - i) (fun i => i ≤ xss.length) ?_ 0 (by omega) ?_
    · intro i K hi0 hK
      dsimp only at hi0 ⊢
      by_cases hi : i < xss.length
      · obtain ⟨l, hm, hg, _⟩ := zfh hi
        have hl := hall l hm
        subst hl
        have z0 : (Val.cvs ([] : List Val)).length = 0 := rfl
        conv => whnf
        repeat' (first | refine Za ?_ | refine Zb ?_ | refine Zm ?_ | refine Zo ?_) <;> try (conv => whnf)
        refine hK (i + 1) _ _ (by omega) (by omega) ?_
        exact ZW
      · conv => whnf
        repeat' (first | (refine CallN.one0 c1 ?_) | refine Zb ?_ | refine Zp ?_) <;> try (conv => whnf)
        refine LoopN.rule (α := Nat) (fun i => ⟨36, [(6, .vec []), (25, .vec (kg xss)), (26, i64 (kg xss).length), (27, i64 i)], []⟩)
          (fun _ => σ) (fun i => xss.length - i) (fun i => i ≤ xss.length) ?_ 0 (by omega) ?_
        · intro i K hi0 hK
          try dsimp only at hi0 ⊢
          by_cases hi : i < xss.length
          · obtain ⟨l, hm, hg, _⟩ := zfh hi
            have hl := hall l hm
            subst hl
            conv => whnf
            repeat' (first | refine Za ?_ | refine Ze ?_ | refine Zm ?_ | refine Zo ?_) <;> try (conv => whnf)
            refine hK (i + 1) _ _ (by omega) (by omega) ?_
            exact ZW
          · conv => whnf
            repeat' (first | refine Zb ?_ | refine Zr ?_) <;> try (conv => whnf)
            all_goals rfl
        · exact ZW
    · exact ZW
  · suffices hs : CRun Tryz.prog 168 [.vec (kg xss)] σ (fun out => ∃ l cap, σ l = none ∧ out = .ret (.grow l xss.flatten.length cap) (upd σ l (.arr 55 4 cap (Val.cvs xss.flatten)))) by
      refine hs.freeze fun out ⟨l, cap, hl, e⟩ => ?_
      subst e
      refine ⟨.ret (.vec (Val.cvs xss.flatten)) σ, ⟨(Sub.refl σ).upd hl, [l], .inl (.one ?_), fun l' h' => by rw [List.mem_singleton.1 h']; exact hl⟩, rfl⟩
      have e4 := zj xss.flatten
      have := Frz.grow (σ := upd σ l (.arr 55 4 cap (Val.cvs xss.flatten))) l xss.flatten.length cap _ _ _ (za _ _ _) (by omega)
      rwa [List.take_of_length_le (by omega)] at this
    have c1 := z5k (σ := σ) (n := xss.flatten.length) (by omega) (by omega)
    refine ZX Tryz.func168 Tryz.ntmps168 ?_
    conv => whnf
    repeat' (first | refine Zh ?_ | refine Za ?_ | refine Zb ?_ | refine Zc ?_ | refine Zd ?_ | refine Ze ?_ | refine Zg ?_ | refine Zv (fun h => ?_) (fun h => ?_) | refine Zj ?_ | refine Zk ?_ | refine Zl ?_ | refine Zm ?_ | refine Zn ?_ | refine Zo ?_ | refine Zp ?_ | refine Zq ?_ | refine Zu (fun l hl => ?_) | refine Zr ?_) <;> try (conv => whnf)
    refine LoopN.rule (α := Nat) (fun i => ⟨36, [(0, .vec (kg xss)), (2, .nil), (3, i64 (xss.take i).flatten.length), (9, .vec (kg xss)), (10, i64 (kg xss).length), (11, i64 i)], []⟩)
      (fun _ => σ) (fun i => xss.length - i) (fun i => i ≤ xss.length) ?_ 0 (by omega) ?_
    · intro i K hi0 hK
      dsimp only at hi0 ⊢
      have b1 := zgg xss i
      by_cases hi : i < xss.length
      · obtain ⟨l, hm, hg, hf⟩ := zfh hi
        have b2 := h2 l hm
        have e4 := zj l
        have e5 : ((xss.take (i + 1)).flatten.length : Int) = (xss.take i).flatten.length + (Val.cvs l).length := by rw [hf, List.length_append, e4]; omega
        have hK := hK (i + 1)
        try dsimp only at hK
        rw [e5] at hK
        conv => whnf
        repeat' (first | refine Za ?_ | refine Zb ?_ | refine Zm ?_ | refine Zo ?_) <;> try (conv => whnf)
        refine hK _ _ (by omega) (by omega) ?_
        exact ZW
      · have e6 : xss.take i = xss := List.take_of_length_le (by omega)
        rw [e6]
        conv => whnf
        repeat' (first | ((refine CallN.many0 c1 ?_; rintro _ ⟨l, cap, hl, hcap, rfl⟩)) | (refine ExtN.ext ?_ ((Sub.refl _).upd hl)) | refine Zb ?_) <;> try (conv => whnf)
        refine LoopN.rule (α := Nat) (fun i => ⟨36, [(6, .grow l (xss.take i).flatten.length cap), (25, .vec (kg xss)), (26, i64 (kg xss).length), (27, i64 i)], []⟩)
          (fun i => upd σ l (.arr 55 4 cap (Val.cvs (xss.take i).flatten ++ List.replicate (xss.flatten.length - (xss.take i).flatten.length) zeroC))) (fun i => xss.length - i) (fun i => i ≤ xss.length) ?_ 0 (by omega) ?_
        · intro i K hi0 hK
          try dsimp only at hi0 ⊢
          have b1 := zgg xss i
          have b2 := zgg xss (i + 1)
          have hgl : (upd σ l (.arr 55 4 cap (Val.cvs (xss.take i).flatten ++ List.replicate (xss.flatten.length - (xss.take i).flatten.length) zeroC))) l = some (.arr 55 4 cap (Val.cvs (xss.take i).flatten ++ List.replicate (xss.flatten.length - (xss.take i).flatten.length) zeroC)) := za _ _ _
          have eH : ∀ B, upd σ l B = upd (upd σ l (.arr 55 4 cap (Val.cvs (xss.take i).flatten ++ List.replicate (xss.flatten.length - (xss.take i).flatten.length) zeroC))) l B := fun B => (xe _ _ _ _).symm
          by_cases hi : i < xss.length
          · obtain ⟨m, hm, hg, hf⟩ := zfh hi
            have e4 := zj m
            have e5 := zj (xss.take i).flatten
            have hK := hK (i + 1)
            try dsimp only at hK
            rw [hf, List.length_append] at b2
            by_cases hm0 : m = []
            · subst hm0
              rw [hf, List.append_nil] at hK
              clear eH
              generalize upd σ l (.arr 55 4 cap (Val.cvs (xss.take i).flatten ++ List.replicate (xss.flatten.length - (xss.take i).flatten.length) zeroC)) = τ at hgl hK ⊢
              conv => whnf
              repeat' (first | refine Za ?_ | refine Ze ?_ | refine Zm ?_ | refine Zo ?_) <;> try (conv => whnf)
              refine hK _ _ (by omega) (by omega) ?_
              exact ZW
            · obtain ⟨f1, f2⟩ := zzr hm0
              have key := z0c (Val.cvs (xss.take i).flatten) (Val.cvs m) zeroC (xss.flatten.length - ((xss.take i).flatten.length + m.length))
              rw [← ko, e4, e5, show m.length + (xss.flatten.length - ((xss.take i).flatten.length + m.length)) = xss.flatten.length - (xss.take i).flatten.length by omega] at key
              rw [eH, hf, List.length_append, ← key] at hK
              have hx : (Val.cvs (xss.take i).flatten ++ List.replicate (xss.flatten.length - (xss.take i).flatten.length) zeroC).length = xss.flatten.length := by rw [List.length_append, e5, List.length_replicate]; omega
              clear eH key
              generalize upd σ l (.arr 55 4 cap (Val.cvs (xss.take i).flatten ++ List.replicate (xss.flatten.length - (xss.take i).flatten.length) zeroC)) = τ at hgl hK ⊢
              generalize Val.cvs (xss.take i).flatten ++ List.replicate (xss.flatten.length - (xss.take i).flatten.length) zeroC = xs at hgl hK hx
              rw [← e4] at hK
              conv => whnf
              repeat' (first | (refine Need.go ?_ (h := ⟨rfl, by omega, by simp only []; omega, by omega, zw2 m⟩)) | refine Za ?_ | refine Zg ?_ | refine Zj ?_ | refine Zm ?_ | refine Zo ?_) <;> try (conv => whnf)
              refine hK _ _ (by omega) (by omega) ?_
              exact ZW
          · have e6 : xss.take i = xss := List.take_of_length_le (by omega)
            rw [e6, Nat.sub_self, List.replicate_zero, List.append_nil]
            conv => whnf
            repeat' (first | refine Zb ?_ | refine Zr ?_) <;> try (conv => whnf)
            exact ⟨l, cap, hl, rfl⟩
        · refine ⟨rfl, ?_, ?_, ?_⟩
          rotate_left
          rotate_left
          · simpa [Val.cvs] using Sub.refl _
          all_goals repeat' (first | exact EnvLe.nil | exact LocsLe.nil | refine EnvLe.cons _ _ _ ?_ ?_ | exact CVle.same _ rfl)
    · exact ZW
theorem zqy : ∀ (v : Val) {d d' : Int}, d ≤ d' → okV d v = true → okV d' v = true
  | .mk k n t l, d, d', hd, h => by
    simp only [okV, Bool.and_eq_true, decide_eq_true_eq] at h ⊢
    obtain ⟨h1, h2⟩ := h
    refine ⟨by omega, ?_⟩
    by_cases c : k = 4
    · subst c
      simp only [zjx] at h2 ⊢
      simp at h2 ⊢
      exact ⟨h2.1, fun v hv => zqy v (by omega) (h2.2 v hv)⟩
    · simp only [c, if_false] at h2 ⊢
      exact h2
  termination_by v => SizeOf.sizeOf v
theorem zik (a : List CV) (b z : CV) (m : Nat) : (a ++ List.replicate (m + 1) z).set a.length b = (a ++ [b]) ++ List.replicate m z := by
  rw [List.set_append_right _ _ (Nat.le_refl _), Nat.sub_self, List.replicate_succ, List.set_cons_zero]; simp
theorem zw7 {vl : List Val} (ih : ∀ w ∈ vl, ∀ σ, CRun Tryz.prog 78 [w.cv] σ (· = .ret w.cv σ)) (hlen : vl.length ≤ 100) {σ : Heap} : CRun Tryz.prog 108 [.vec (Val.cvs vl)] σ (· = .ret (.vec (Val.cvs vl)) σ) := by
  have e3 := zj vl
  by_cases hz : vl = []
  · subst hz
    refine ZX Tryz.func108 Tryz.ntmps108 ?_
    conv => whnf
    repeat' (first | refine Ze ?_ | refine Zr ?_) <;> try (conv => whnf)
    all_goals rfl
  have hpos : ¬ vl.length = 0 := fun e => hz (List.eq_nil_of_length_eq_zero e)
  suffices hs : CRun Tryz.prog 108 [.vec (Val.cvs vl)] σ (fun out => ∃ l, σ l = none ∧ out = .ret (.grow l (Val.cvs vl).length (Val.cvs vl).length) (upd σ l (.arr 55 4 (Val.cvs vl).length (Val.cvs vl)))) by
    refine hs.freeze fun out ⟨l, hl, e⟩ => ?_
    subst e
    refine ⟨.ret (.vec (Val.cvs vl)) σ, ⟨(Sub.refl σ).upd hl, [l], .inl (.one ?_), fun l' h' => by rw [List.mem_singleton.1 h']; exact hl⟩, rfl⟩
    have := Frz.grow (σ := upd σ l (.arr 55 4 (Val.cvs vl).length (Val.cvs vl))) l (Val.cvs vl).length (Val.cvs vl).length _ _ _ (za _ _ _) (Nat.le_refl _)
    rwa [List.take_of_length_le (Nat.le_refl _)] at this
  refine ZG [11] Tryz.func108 Tryz.ntmps108 ?_
  conv => whnf
  repeat' (first | refine Zb ?_ | refine Zm ?_ | refine Zu (fun l hl => ?_)) <;> try (conv => whnf)
  refine LoopN.rule (α := Nat) (fun i => ⟨26, [(2, .nil), (3, .grow l (Val.cvs vl).length (Val.cvs vl).length), (12, .vec (Val.cvs vl)), (13, i64 (Val.cvs vl).length), (14, i64 i)], []⟩)
    (fun i => upd σ l (.arr 55 4 (Val.cvs vl).length (Val.cvs (vl.take i) ++ List.replicate ((Val.cvs vl).length - i) zeroC))) (fun i => vl.length - i) (fun i => i ≤ vl.length) ?_ 0 (by omega) ?_
  · intro i K hi0 hK
    try dsimp only at hi0 ⊢
    have hgl : (upd σ l (.arr 55 4 (Val.cvs vl).length (Val.cvs (vl.take i) ++ List.replicate ((Val.cvs vl).length - i) zeroC))) l = some (.arr 55 4 (Val.cvs vl).length (Val.cvs (vl.take i) ++ List.replicate ((Val.cvs vl).length - i) zeroC)) := za _ _ _
    have eH : ∀ B, upd σ l B = upd (upd σ l (.arr 55 4 (Val.cvs vl).length (Val.cvs (vl.take i) ++ List.replicate ((Val.cvs vl).length - i) zeroC))) l B := fun B => (xe _ _ _ _).symm
    have e4 := zj (vl.take i)
    rw [List.length_take, Nat.min_eq_left hi0] at e4
    by_cases hi : i < vl.length
    · obtain ⟨⟨wk, wn, wt, wl⟩, hm, hg, htk⟩ := zkv hi
      have key := zik (Val.cvs (vl.take i)) (Val.cv (.mk wk wn wt wl)) zeroC ((Val.cvs vl).length - (i + 1))
      rw [show (Val.cvs vl).length - (i + 1) + 1 = (Val.cvs vl).length - i by omega, e4] at key
      have hx : (Val.cvs (vl.take i) ++ List.replicate ((Val.cvs vl).length - i) zeroC)[(i : Int).toNat]? = some zeroC := by
        rw [Int.toNat_natCast, List.getElem?_append_right (by omega), e4, Nat.sub_self, List.getElem?_replicate, if_pos (by omega)]
      have hK := hK (i + 1)
      try dsimp only at hK
      rw [htk, ko, show Val.cvs [.mk wk wn wt wl] = [Val.cv (.mk wk wn wt wl)] from rfl, ← key, eH] at hK
      clear key eH
      have c1 := fun τ => ih _ hm τ
      generalize upd σ l (.arr 55 4 (Val.cvs vl).length (Val.cvs (vl.take i) ++ List.replicate ((Val.cvs vl).length - i) zeroC)) = τ at hgl hK ⊢
      generalize Val.cvs (vl.take i) ++ List.replicate ((Val.cvs vl).length - i) zeroC = xs at hgl hK hx
      conv => whnf
      repeat' (first | (refine ZC (c1 τ) ?_) | refine Za ?_ | refine Zj ?_ | refine Zm ?_ | refine Zo ?_ | refine Zp ?_) <;> try (conv => whnf)
      refine hK _ _ (by omega) (by omega) ?_
      exact ZW
    · have e6 : vl.take i = vl := List.take_of_length_le (by omega)
      rw [e6, show (Val.cvs vl).length - i = 0 by omega, List.replicate_zero, List.append_nil]
      conv => whnf
      repeat' (first | refine Zb ?_ | refine Zr ?_) <;> try (conv => whnf)
      exact ⟨l, hl, rfl⟩
  · exact ZW
theorem zrz : ∀ (v : Val), Tame v → okV 3 v = true → ∀ (σ : Heap), CRun Tryz.prog 78 [v.cv] σ (· = .ret v.cv σ)
  | .mk k n t l, hv, ho, σ => by
    have c0 := qj (σ := σ) hv
    rw [ho] at c0
    have hl : ∀ w ∈ l, okV 3 w = true := by
      by_cases h4 : k = 4
      · subst h4
        have := kh ho
        exact fun v hv => zqy v (by omega) (this v hv)
      · by_cases h3 : k = 3
        · subst h3
          rw [(zb0 ho).2]; simp
        · rw [(j9 ho h3 h4).2]; simp
    have c1 := zw7 (vl := l) (fun w hw => zrz w (hv.inv.2.2.2.2 w hw) (hl w hw)) hv.inv.2.2.2.1 (σ := σ)
    refine ZX Tryz.func78 Tryz.ntmps78 ?_
    conv => whnf
    repeat' (first | (refine ZC c0 ?_) | (refine ZC c1 ?_) | refine Zh ?_ | refine Zn ?_ | refine Zp ?_ | refine Zr ?_) <;> try (conv => whnf)
    all_goals rfl
  termination_by v => SizeOf.sizeOf v
noncomputable def O (i : Nat) (l : List Nat) : Ctx := { P := Tryz.prog, tt := tt, gl := fun _ => false, ord := fun n => match Nat.beq n i with | true => some l | false => none }
theorem z0g (i : Nat) (l : List Nat) : (O i l).ok := zr5
theorem zn6 (i : Nat) (l : List Nat) : ji (O i l) := zkt (z0g i l) zr6
theorem z1t (t : T3) : okV 3 t.v = true := by cases t <;> decide
theorem zy8 {σ : Heap} {v : Val} : CRun Tryz.prog 148 [v.cv] σ (· = zep σ (zst v)) := by
  have y0 := @zt0 σ
  obtain ⟨k, n, t, l⟩ := v
  by_cases k0 : k = 0
  · have o : zst (.mk k n t l) = .ok T3.yes.v := by unfold zst zhy; rw [decide_eq_true k0]; rfl
    rw [o]
    refine ZX Tryz.func148 Tryz.ntmps148 ?_
    conv => whnf
    repeat' (first | (refine ZC y0 ?_) | refine Za ?_ | refine Zp ?_ | refine Zr ?_) <;> try (conv => whnf)
    all_goals rfl
  · have o : zst (.mk k n t l) = .ok T3.no.v := by unfold zst zhy; rw [decide_eq_false k0]; rfl
    rw [o]
    refine ZX Tryz.func148 Tryz.ntmps148 ?_
    conv => whnf
    repeat' (first | (refine ZC y0 ?_) | refine Zb ?_ | refine Zp ?_ | refine Zr ?_) <;> try (conv => whnf)
    all_goals rfl
theorem zjy {σ : Heap} {t : T3} : CRun Tryz.prog 146 [t.v.cv] σ (· = .ret (zsu t).v.cv σ) := by
  have c := zjz (σ := σ) (z1t t)
  unfold zxy at c
  rw [z71] at c
  exact c
theorem z4v {σ : Heap} {v w : Val} (hv : okV 3 v = true) (hw : okV 3 w = true) : CRun Tryz.prog 151 [v.cv, w.cv] σ (· = zep σ (zyq v w)) := by
  cases ht : t3 v with
  | none =>
    have o : zyq v w = .err 1 := by unfold zyq; rw [ht]
    rw [o]
    have c := zjz (σ := σ) hv
    unfold zxy at c
    rw [ht] at c
    have c : CRun Tryz.prog 146 [v.cv] σ (· = .pan (.iface 120 (i64 1)) σ) := c
    obtain ⟨k, n, t, l⟩ := v
    obtain ⟨k', n', t', l'⟩ := w
    refine jh (X := (O 1 [0,2,1,3,4,5,6])) (z0g _ _) (zn6 _ _) (body := yz Tryz.f151) Tryz.func151 rfl (by kernel_rfl) (by kernel_rfl) ?_
    rw [Tryz.ntmps151]
    conv => whnf
    repeat' (first | (refine ZC c ?_) | (refine yx ?_) | ((refine ⟨⟨by kernel_rfl, by kernel_rfl⟩, ?_⟩)) | refine Zh ?_) <;> try (conv => whnf)
    all_goals rfl
  | some t =>
    have ea := zsb ht hv
    cases hu : t3 w with
    | none =>
      have o : zyq v w = .err 1 := by unfold zyq; rw [ht, hu]
      rw [o]
      have c := zjz (σ := σ) hw
      unfold zxy at c
      rw [hu] at c
      have c : CRun Tryz.prog 146 [w.cv] σ (· = .pan (.iface 120 (i64 1)) σ) := c
      have c1 := zjy (σ := σ) (t := t)
      rw [ea]
      obtain ⟨k', n', t', l'⟩ := w
      refine ZX Tryz.func151 Tryz.ntmps151 ?_
      cases t
      all_goals
        conv => whnf
        repeat' (first | (refine ZC c1 ?_) | (refine ZC c ?_) | (refine yx ?_) | ((refine ⟨⟨by kernel_rfl, by kernel_rfl⟩, ?_⟩)) | refine Zh ?_ | refine Zp ?_) <;> try (conv => whnf)
        all_goals rfl
    | some u =>
      have eb := zsb hu hw
      have o : zyq v w = .ok (zsu (z34 (zsu t) (zsu u))).v := by unfold zyq; rw [ht, hu]
      rw [o, ea, eb]
      have c1 := zjy (σ := σ) (t := t)
      have c2 := zjy (σ := σ) (t := u)
      have c3 := zxn (σ := σ) (t := zsu t) (u := zsu u)
      have c4 := zjy (σ := σ) (t := z34 (zsu t) (zsu u))
      refine ZX Tryz.func151 Tryz.ntmps151 ?_
      cases t <;> cases u
      all_goals
        conv => whnf
        repeat' (first | (refine ZC c1 ?_) | (refine ZC c2 ?_) | (refine ZC c3 ?_) | (refine ZC c4 ?_) | refine Zh ?_ | refine Zn ?_ | refine Zp ?_ | refine Zr ?_) <;> try (conv => whnf)
        all_goals rfl
def z0t (kind : Int) : Nat := if kind = 9 then 146 else if kind = 13 then 147 else 148
theorem z18 {σ : Heap} {kind : Int} : CRun Tryz.prog 135 [i64 kind] σ (· = .ret (.fn (.func (z0t kind)) [] []) σ) := by
  have d0 : z0t kind = if kind = 9 then 146 else if kind = 13 then 147 else 148 := rfl
  rw [d0]
  by_cases q1 : kind = 9
  · rw [if_pos q1]
    refine ZX Tryz.func135 Tryz.ntmps135 ?_
    conv => whnf
    repeat' (first | refine Za ?_ | refine Zr ?_) <;> try (conv => whnf)
    all_goals rfl
  rw [if_neg q1]
  by_cases q2 : kind = 13
  · rw [if_pos q2]
    refine ZX Tryz.func135 Tryz.ntmps135 ?_
    conv => whnf
    repeat' (first | refine Za ?_ | refine Zb ?_ | refine Zr ?_) <;> try (conv => whnf)
    all_goals rfl
  rw [if_neg q2]
  refine ZX Tryz.func135 Tryz.ntmps135 ?_
  conv => whnf
  repeat' (first | refine Zb ?_ | refine Zr ?_) <;> try (conv => whnf)
  all_goals rfl
theorem z4y {σ : Heap} {kind : Int} {v : Val} (hk : kind = 9 ∨ kind = 11 ∨ kind = 13) (hv : Tame v) (ho : okV 3 v = true) : CRun Tryz.prog (z0t kind) [v.cv] σ (· = zep σ (z17 kind v)) := by
  rcases hk with rfl | rfl | rfl
  · exact zjz ho
  · exact zy8
  · exact zyd hv
def zx8 (kind : Int) : Nat := if kind = 5 then 122 else if kind = 6 then 149 else if kind = 7 then 150 else if kind = 8 then 151 else if kind = 12 then 152 else 153
theorem z1s {σ : Heap} {kind : Int} : CRun Tryz.prog 137 [i64 kind] σ (· = .ret (.fn (.func (zx8 kind)) [] []) σ) := by
  have d0 : zx8 kind = if kind = 5 then 122 else if kind = 6 then 149 else if kind = 7 then 150 else if kind = 8 then 151 else if kind = 12 then 152 else 153 := rfl
  rw [d0]
  by_cases q1 : kind = 5
  · rw [if_pos q1]
    refine ZX Tryz.func137 Tryz.ntmps137 ?_
    conv => whnf
    repeat' (first | refine Za ?_ | refine Zr ?_) <;> try (conv => whnf)
    all_goals rfl
  rw [if_neg q1]
  by_cases q2 : kind = 6
  · rw [if_pos q2]
    refine ZX Tryz.func137 Tryz.ntmps137 ?_
    conv => whnf
    repeat' (first | refine Za ?_ | refine Zb ?_ | refine Zr ?_) <;> try (conv => whnf)
    all_goals rfl
  rw [if_neg q2]
  by_cases q3 : kind = 7
  · rw [if_pos q3]
    refine ZX Tryz.func137 Tryz.ntmps137 ?_
    conv => whnf
    repeat' (first | refine Za ?_ | refine Zb ?_ | refine Zr ?_) <;> try (conv => whnf)
    all_goals rfl
  rw [if_neg q3]
  by_cases q4 : kind = 8
  · rw [if_pos q4]
    refine ZX Tryz.func137 Tryz.ntmps137 ?_
    conv => whnf
    repeat' (first | refine Za ?_ | refine Zb ?_ | refine Zr ?_) <;> try (conv => whnf)
    all_goals rfl
  rw [if_neg q4]
  by_cases q5 : kind = 12
  · rw [if_pos q5]
    refine ZX Tryz.func137 Tryz.ntmps137 ?_
    conv => whnf
    repeat' (first | refine Za ?_ | refine Zb ?_ | refine Zr ?_) <;> try (conv => whnf)
    all_goals rfl
  rw [if_neg q5]
  refine ZX Tryz.func137 Tryz.ntmps137 ?_
  conv => whnf
  repeat' (first | refine Zb ?_ | refine Zr ?_) <;> try (conv => whnf)
  all_goals rfl
set_option maxHeartbeats 1000000 in
theorem z3q {σ : Heap} {a b : Val} (ha : Tame a) (hb : Tame b) (oa : okV 3 a = true) (ob : okV 3 b = true) : CRun Tryz.prog 153 [a.cv, b.cv] σ (· = zep σ (z7l a b)) := by
  obtain ⟨k, n, t, l⟩ := a
  obtain ⟨k', n', t', l'⟩ := b
  obtain ⟨_, _, _, _, ja⟩ := ha.inv
  obtain ⟨_, _, _, _, jb⟩ := hb.inv
  obtain ⟨b1, b2, b3⟩ := zfe oa
  obtain ⟨b4, b5, b6⟩ := zfe ob
  have e3 := zj l
  have e4 := zj l'
  rw [zxo]
  by_cases z : k = 0 ∨ k' = 0
  · rw [if_pos z]
    refine ZX Tryz.func153 Tryz.ntmps153 ?_
    rcases z with z | z
    all_goals
      conv => whnf
      repeat' (first | refine Za ?_ | refine Zv (fun h => ?_) (fun h => ?_) | refine Zr ?_) <;> try (conv => whnf)
      all_goals rfl
  rw [if_neg z]
  have z1 : ¬ k = 0 := by omega
  have z2 : ¬ k' = 0 := by omega
  by_cases k2 : k = 2 ∧ k' = 2
  · rw [if_pos k2]
    obtain ⟨q1, q2⟩ := k2
    have cc := qj (σ := σ) (v := .mk 2 (n + n') ⟨#[]⟩ []) (.mk (by omega) (by omega) (by decide) (by decide) (by simp))
    cases ho : okV 3 (.mk 2 (n + n') ⟨#[]⟩ []) <;> rw [ho] at cc
    · rw [zw9 ho]
      subst q1 q2
      refine ZX Tryz.func153 Tryz.ntmps153 ?_
      conv => whnf
      repeat' (first | (refine ZC cc ?_) | (refine yx ?_) | refine Za ?_ | refine Zb ?_ | refine Zm ?_ | refine Zp ?_) <;> try (conv => whnf)
      all_goals rfl
    · rw [zw8 ho]
      subst q1 q2
      refine ZX Tryz.func153 Tryz.ntmps153 ?_
      conv => whnf
      repeat' (first | (refine ZC cc ?_) | refine Za ?_ | refine Zb ?_ | refine Zm ?_ | refine Zp ?_ | refine Zr ?_) <;> try (conv => whnf)
      all_goals rfl
  rw [if_neg k2]
  by_cases k3 : k = 3 ∧ k' = 3
  · rw [if_pos k3]
    obtain ⟨q1, q2⟩ := k3
    have cc := qj (σ := σ) (v := .mk 3 0 (t ++ t') []) (.mk (by omega) (by omega) (by simp [ByteArray.size_append]; omega) (by decide) (by simp))
    cases ho : okV 3 (.mk 3 0 (t ++ t') []) <;> rw [ho] at cc
    · rw [zw9 ho]
      subst q1 q2
      refine ZX Tryz.func153 Tryz.ntmps153 ?_
      conv => whnf
      repeat' (first | (refine ZC cc ?_) | (refine yx ?_) | refine Za ?_ | refine Zb ?_ | refine Zm ?_ | refine Zp ?_) <;> try (conv => whnf)
      all_goals rfl
    · rw [zw8 ho]
      subst q1 q2
      refine ZX Tryz.func153 Tryz.ntmps153 ?_
      conv => whnf
      repeat' (first | (refine ZC cc ?_) | refine Za ?_ | refine Zb ?_ | refine Zm ?_ | refine Zp ?_ | refine Zr ?_) <;> try (conv => whnf)
      all_goals rfl
  rw [if_neg k3]
  by_cases k4 : k = 4 ∧ k' = 4
  · rw [if_pos k4]
    obtain ⟨q1, q2⟩ := k4
    have happ : (l ++ l').length ≤ 100 := by rw [List.length_append]; omega
    have cc := qj (σ := σ) (v := .mk 4 0 ⟨#[]⟩ (l ++ l')) (.mk (by omega) (by omega) (by decide) (by omega) (by
      intro v hv
      rcases List.mem_append.1 hv with h | h
      · exact ja v h
      · exact jb v h))
    have cx : CRun Tryz.prog 168 [.vec [.vec (Val.cvs l), .vec (Val.cvs l')]] σ (· = .ret (.vec (Val.cvs (l ++ l'))) σ) := by
      have := zzt (σ := σ) (xss := [l, l']) (by simp) (by simp; omega)
      simp only [List.flatten_cons, List.flatten_nil, List.append_nil] at this
      exact this
    generalize l ++ l' = ll at cc cx ⊢
    cases ho : okV 3 (.mk 4 0 ⟨#[]⟩ ll) <;> rw [ho] at cc
    · rw [zw9 ho]
      subst q1 q2
      refine ZX Tryz.func153 Tryz.ntmps153 ?_
      conv => whnf
      repeat' (first | (refine ZC cc ?_) | (refine ZC cx ?_) | (refine yx ?_) | refine Za ?_ | refine Zb ?_ | refine Zp ?_) <;> try (conv => whnf)
      all_goals rfl
    · rw [zw8 ho]
      subst q1 q2
      refine ZX Tryz.func153 Tryz.ntmps153 ?_
      conv => whnf
      repeat' (first | (refine ZC cc ?_) | (refine ZC cx ?_) | refine Za ?_ | refine Zb ?_ | refine Zp ?_ | refine Zr ?_) <;> try (conv => whnf)
      all_goals rfl
  · rw [if_neg k4]
    refine ZX Tryz.func153 Tryz.ntmps153 ?_
    conv => whnf
    repeat' (first | (refine yx ?_) | refine Zb ?_ | refine Zv (fun h => ?_) (fun h => ?_)) <;> try (conv => whnf)
    all_goals first | rfl | (exfalso; omega)
theorem z4d {σ : Heap} {kind : Int} {a b : Val} (hk : kind = 5 ∨ kind = 6 ∨ kind = 7 ∨ kind = 8 ∨ kind = 10 ∨ kind = 12) (ha : Tame a) (hb : Tame b) (oa : okV 3 a = true) (ob : okV 3 b = true) : CRun Tryz.prog (zx8 kind) [a.cv, b.cv] σ (· = zep σ (z1r kind a b)) := by
  rcases hk with rfl | rfl | rfl | rfl | rfl | rfl
  · exact zgj ha hb
  · exact zvz ha hb oa ob
  · exact z3n oa ob
  · exact z4v oa ob
  · exact z3q ha hb oa ob
  · exact z5h ha hb
def zaf (l : List Pr) : List (MK × Value) := l.map fun p => (.s p.name, .int .i64 1)
theorem zlg : ∀ {l : List Pr} {s : ByteArray} {k : Nat}, (∀ p ∈ l, ¬ p.name = s) → ze (.s s) (zaf l) k = none
  | [], _, _, _ => rfl
  | p :: r, s, k, h => by
    have h1 := h p (by simp)
    show (if MK.s s = MK.s p.name then _ else ze (.s s) (zaf r) (k + 1)) = none
    rw [if_neg (fun e => h1 (by cases e; rfl)), zlg fun q hq => h q (by simp [hq])]
theorem zlf : ∀ {l : List Pr} {s : ByteArray} {k : Nat}, (¬ ∀ p ∈ l, ¬ p.name = s) → ∃ j, ze (.s s) (zaf l) k = some (j, .int .i64 1)
  | [], _, _, h => absurd (by simp) h
  | p :: r, s, k, h => by
    show ∃ j, (if MK.s s = MK.s p.name then some (k, Value.int .i64 1) else ze (.s s) (zaf r) (k + 1)) = _
    by_cases hp : p.name = s
    · exact ⟨k, by rw [if_pos (by rw [hp])]⟩
    · obtain ⟨j, hj⟩ := zlf (l := r) (s := s) (k := k + 1) (fun hr => h (fun q hq => by
        rcases List.mem_cons.1 hq with rfl | hq
        · exact hp
        · exact hr q hq))
      exact ⟨j, by rw [if_neg (fun e => hp (by cases e; rfl)), hj]⟩
theorem zen : ∀ {l : List Pr} {i k : Nat} {p : Pr}, l[i]? = some p → (zhs l p.name k = ((k + i : Nat) : Int) ↔ ∀ q ∈ l.take i, ¬ q.name = p.name)
  | [], _, _, _, h => by simp at h
  | x :: r, 0, k, p, h => by simp at h; subst h; simp [zhs]
  | x :: r, i + 1, k, p, h => by
    have ih := zen (l := r) (i := i) (k := k + 1) (p := p) (by simpa using h)
    simp only [zhs, List.take_succ_cons, List.mem_cons, forall_eq_or_imp]
    by_cases hx : x.name = p.name
    · simp only [hx, if_true, not_true, false_and, iff_false]
      omega
    · rw [if_neg hx]
      constructor
      · intro e; exact ⟨hx, ih.1 (by rw [e]; omega)⟩
      · intro e; rw [ih.2 e.2]; omega
theorem zua {l : List Pr} {i : Nat} {p : Pr} (h : l[i]? = some p) : zaf (l.take (i + 1)) = zaf (l.take i) ++ [(.s p.name, .int .i64 1)] := by
  unfold zaf
  rw [List.take_add_one, h]; simp
theorem z6r {raw : List CV} {v : CV} {σ τ : Heap} {post : COut → Prop} (hs : Sub σ τ) (h : post (.ret v σ)) : Fin raw v τ post := .ret σ hs h
theorem znw {σ : Heap} {ps : List Pr} (hlen : ps.length ≤ 1000) (ht : ∀ s ∈ ps, PrTame s) : CRun Tryz.prog 37 [.vec (prs ps)] σ (· = .ret (.sc (.bool (zbs ps))) σ) := by
  have e3 := vw ps
  have no : ∀ i, i < ps.length → zh9 ps i = false → COut.ret (.sc (.bool false)) σ = .ret (.sc (.bool (zbs ps))) σ := fun i hi h => z7 (by unfold zbs; rw [jm hi h])
  refine ZX Tryz.func37 Tryz.ntmps37 ?_
  conv => whnf
  repeat' (first | refine Zu (fun l hl => ?_)) <;> try (conv => whnf)
  refine LoopN.rule (α := Nat) (fun i => ⟨36, [(0, .vec (prs ps)), (2, .sc (.bool false)), (3, .map l), (7, .vec (prs ps)), (8, i64 (prs ps).length), (9, i64 i)], []⟩)
    (fun i => upd σ l (.mp true (zaf (ps.take i)))) (fun i => ps.length - i) (fun i => i ≤ ps.length ∧ ∀ j, j < i → zh9 ps j = true) ?_ 0 ⟨by omega, by omega⟩ ?_
  · rintro i K ⟨h1, h2⟩ hK
    try dsimp only at h1 h2 ⊢
    have hsub : Sub σ (upd σ l (.mp true (zaf (ps.take i)))) := (Sub.refl σ).upd hl
    have hgl : (upd σ l (.mp true (zaf (ps.take i)))) l = some (.mp true (zaf (ps.take i))) := za _ _ _
    have eH : ∀ B, upd σ l B = upd (upd σ l (.mp true (zaf (ps.take i)))) l B := fun B => (xe _ _ _ _).symm
    have hK := hK (i + 1)
    try dsimp only at hK
    rw [eH] at hK
    clear eH
    generalize upd σ l (.mp true (zaf (ps.take i))) = τ at hsub hgl hK ⊢
    by_cases hi : i < ps.length
    · obtain ⟨s, vk, vn, vt, vl, hm, hg, hg'⟩ := zcd hi
      rw [zua hg] at hK
      have c1 := qh (σ := τ) (t := s) (by have := (ht _ hm).name; dsimp only at this; omega)
      have c2 := qj (σ := τ) (ht _ hm).val
      have no := no i hi
      have e := znx hg
      try dsimp only at e hK
      cases hn : ya s <;> rw [hn] at c1 e
      · conv => whnf
        repeat' (first | (refine ZC c1 ?_) | (refine z6r hsub ?_) | refine Za ?_ | refine Zm ?_ | refine Zo ?_ | refine Zp ?_) <;> try (conv => whnf)
        exact no e
      cases hv : okV 3 (.mk vk vn vt vl) <;> rw [hv] at c2 e
      · conv => whnf
        repeat' (first | (refine ZC c1 ?_) | (refine ZC c2 ?_) | (refine z6r hsub ?_) | refine Za ?_ | refine Zm ?_ | refine Zo ?_ | refine Zp ?_) <;> try (conv => whnf)
        exact no e
      have hp := zen (k := 0) hg
      rw [Nat.zero_add] at hp
      dsimp only at hp
      by_cases hq : ∀ q ∈ ps.take i, ¬ q.name = s
      · rw [decide_eq_true (hp.2 hq)] at e
        have hf := zlg (k := 0) hq
        conv => whnf
        repeat' (first | (refine ZC c1 ?_) | (refine ZC c2 ?_) | (refine MapN.go ?_ hf) | refine Za ?_ | refine Zb ?_ | refine Zj ?_ | refine Zm ?_ | refine Zo ?_ | refine Zp ?_) <;> try (conv => whnf)
        refine hK _ _ ⟨by omega, yl h2 e⟩ (by omega) ?_
        exact ZW
      · rw [decide_eq_false (fun x => hq (hp.1 x))] at e
        obtain ⟨j, hf⟩ := zlf (k := 0) hq
        conv => whnf
        repeat' (first | (refine ZC c1 ?_) | (refine ZC c2 ?_) | (refine z6r hsub ?_) | (refine MapN.go ?_ hf) | refine Za ?_ | refine Zj ?_ | refine Zm ?_ | refine Zo ?_ | refine Zp ?_) <;> try (conv => whnf)
        exact no e
    · have hall : ∀ i, i < ps.length → zh9 ps i = true := fun j hj => h2 j (by omega)
      conv => whnf
      repeat' (first | (refine z6r hsub ?_) | refine Zb ?_) <;> try (conv => whnf)
      exact z7 (by unfold zbs; rw [wu hall])
  · exact ZW
theorem ztr {σ : Heap} : CRun Tryz.prog 42 [.sc .nilIface] σ (· = .ret (i64 0) σ) := by
  refine ZX Tryz.func42 Tryz.ntmps42 ?_
  conv => whnf
  repeat' (first | refine Zr ?_) <;> try (conv => whnf)
  all_goals rfl
theorem zxa {σ : Heap} {c : Int} : CRun Tryz.prog 42 [.iface 120 (i64 c)] σ (· = .ret (i64 c) σ) := by
  refine ZX Tryz.func42 Tryz.ntmps42 ?_
  conv => whnf
  repeat' (first | refine Zr ?_) <;> try (conv => whnf)
  all_goals rfl
def zvr (g : Gr) (row given : List Pr) : Exp → Rs
  | .mk k v s c _ => if k = 1 then .ok v else match zx (if k = 4 then given else row) s with
    | none => .err 3
    | some w => if k = 3 then z3i g w c else .ok w
theorem zb5 {g : Gr} {row given : List Pr} {k : Int} {v : Val} {s c : ByteArray} {ps : List Exp} : zvr g row given (.mk k v s c ps) = if k = 1 then .ok v else match zx (if k = 4 then given else row) s with
    | none => .err 3
    | some w => if k = 3 then z3i g w c else .ok w := rfl
theorem zcg : ∀ (v : Val) {d : Int}, okV d v = true → Tame v
  | .mk k n t l, d, h => by
    obtain ⟨h1, h2, h3⟩ := zfe h
    have hk : 0 ≤ k ∧ k ≤ 6 := by rcases zar h with ⟨h, _⟩ | h | h | h | h | h | h <;> omega
    have hl : ∀ v ∈ l, Tame v := by
      by_cases h4 : k = 4
      · subst h4
        have := kh h
        exact fun v hv => zcg v (this v hv)
      · by_cases h3 : k = 3
        · subst h3
          rw [(zb0 h).2]; simp
        · rw [(j9 h h3 h4).2]; simp
    exact .mk (by omega) (by omega) (by omega) (by omega) hl
  termination_by v => SizeOf.sizeOf v
theorem zfo (t : T3) : okV 3 t.v = true := by cases t <;> decide
theorem zb1 : okV 3 nullV = true := by decide
theorem zu4 {n : Int} (h : 0 ≤ n ∧ n ≤ 100) : okV 3 (z30 n) = true := by
  unfold z30
  simp [okV]
  omega
def z0f (r : Rs) : Prop := match r with
  | .ok v => okV 3 v = true
  | .err c => c = 1 ∨ c = 2 ∨ c = 3
theorem z4x {kind : Int} {v : Val} (h : okV 3 v = true) : z0f (z17 kind v) := by
  unfold z17
  split
  · exact zfo _
  split
  · unfold zxy
    split
    · exact zfo _
    · exact .inl rfl
  · obtain ⟨k, n, t, l⟩ := v
    obtain ⟨h1, h2, h3⟩ := zfe h
    unfold zyc
    dsimp only
    split
    · exact zb1
    split
    · exact zu4 (by omega)
    split
    · exact zu4 (by omega)
    · exact .inl rfl
theorem zp5 (v : Val) : z0f (chk v) := by
  unfold chk
  split
  · assumption
  · exact .inr (.inl rfl)
theorem z4c {kind : Int} {a b : Val} : z0f (z1r kind a b) := by
  unfold z1r
  split
  · exact zfo _
  split
  · obtain ⟨k, n, t, l⟩ := a
    obtain ⟨k', n', t', l'⟩ := b
    show okV 3 (zna _ _) = true
    unfold zna
    dsimp only
    split
    · rw [ofB]; exact zfo _
    · exact zb1
  split
  · obtain ⟨k, n, t, l⟩ := a
    obtain ⟨k', n', t', l'⟩ := b
    rw [zxo]
    split
    · exact zb1
    split
    · exact zp5 _
    split
    · exact zp5 _
    split
    · exact zp5 _
    · exact .inl rfl
  split
  · obtain ⟨k', n', t', l'⟩ := b
    unfold z6n
    dsimp only
    split
    · exact zb1
    split
    · exact zfo _
    · exact .inl rfl
  split
  · unfold zk1
    split
    · exact zfo _
    · exact .inl rfl
  · unfold zyq
    split
    · exact zfo _
    · exact .inl rfl
def zcu (l : List Pr) : Prop := ∀ p ∈ l, okV 3 p.val = true
theorem zb3 : ∀ {l : List Pr} {s : ByteArray} {v : Val}, zx l s = some v → ∃ p ∈ l, p.val = v
  | p :: r, s, v, h => by
    simp only [zx] at h
    by_cases e : p.name = s
    · rw [if_pos e] at h; cases h; exact ⟨p, by simp, rfl⟩
    · rw [if_neg e] at h
      obtain ⟨q, hq, e⟩ := zb3 h
      exact ⟨q, by simp [hq], e⟩
theorem zqt {l : List Pr} (h : yi l = true) : zcu l := by
  intro p hp
  unfold yi at h
  rw [Bool.and_eq_true] at h
  obtain ⟨j, hj, e⟩ := List.getElem_of_mem hp
  have h2 := List.all_eq_true.1 h.2 j (List.mem_range.2 hj)
  unfold zai at h2
  rw [List.getElem?_eq_getElem hj, e] at h2
  simp only [zc7, zad, Bool.and_eq_true] at h2
  exact h2.1.2.1
theorem zzb {g : Gr} (h : zn g = true) (v : Val) (s : ByteArray) : okV 3 (zkl g v s) = true := by
  have key : ∀ ps, qf g v = some ps → zcu ps := by
    obtain ⟨k, n, t, l⟩ := v
    unfold zn at h
    simp only [Bool.and_eq_true] at h
    obtain ⟨_, _, _, h3, h4⟩ := h
    intro ps' hp
    rcases qe g k n t l with ⟨k5, i, d, ls, ps, hi, hpp, hm, hg', hps⟩ | ⟨k6, i, d, q, a, b, ps, hi, hpp, hm, hg', hps⟩ | ⟨hps, h5, h6⟩
    · rw [hps] at hp; cases hp
      have := List.all_eq_true.1 h3 _ hm
      simp only [xj, Bool.and_eq_true] at this
      exact zqt this.2
    · rw [hps] at hp; cases hp
      have := List.all_eq_true.1 h4 _ hm
      simp only [yo, Bool.and_eq_true] at this
      exact zqt this.2.1
    · rw [hps] at hp; cases hp
  unfold zkl
  cases hp : qf g v with
  | none => exact zb1
  | some ps =>
    dsimp only
    cases hl : zx ps s with
    | none => exact zb1
    | some v =>
      obtain ⟨p, hm, e⟩ := zb3 hl
      rw [← e]; exact key ps hp p hm
theorem z2m {g : Gr} {row given : List Pr} {k : Int} {v : Val} {s c : ByteArray} {ps : List Exp} (hg : zn g = true) (hr : zcu row) (hv : zcu given) (h1 : k = 1 → okV 3 v = true) : z0f (zvr g row given (.mk k v s c ps)) := by
  rw [zb5]
  by_cases k1 : k = 1
  · rw [if_pos k1]; exact h1 k1
  rw [if_neg k1]
  cases hl : zx (if k = 4 then given else row) s with
  | none => exact .inr (.inr rfl)
  | some w =>
    obtain ⟨p, hm, e⟩ := zb3 hl
    have hw : okV 3 w = true := by
      rw [← e]
      split at hm
      · exact hv p hm
      · exact hr p hm
    dsimp only
    split
    · unfold z3i
      split
      · exact zzb hg _ _
      · exact .inl rfl
    · exact hw
theorem zuq {α : Type} {l : List α} {j : Nat} {x : α} (h : l[j]? = some x) : l[(((j + 1 : Nat) : Int) - 1).toNat]? = some x := by rw [zab]; exact h
theorem zhx {σ : Heap} {n lo hi : Int} {b : Bool} (h : decide (lo ≤ n ∧ n ≤ hi) = b) : CRun Tryz.prog 32 [i64 n, i64 lo, i64 hi] σ (· = .ret (.sc (.bool b)) σ) := h ▸ in_c
set_option maxHeartbeats 2000000 in
theorem zfs {σ : Heap} {g : Gr} (hg : GrTame g) : CRun Tryz.prog 9 [g.cv] σ (· = .ret (.sc (.bool (zn g))) σ) := by
  obtain ⟨hnl, hel, hnn, hne, hns, hes⟩ := hg
  have e1 := ym g.nodes
  have e2 := ye g.edges
  have e3 := zdc g.nodes
  have e4 := zdo g.edges
  refine ZX Tryz.func9 Tryz.ntmps9 ?_
  conv => whnf
  repeat' (first | refine Zh ?_ | refine Za ?_ | refine Zb ?_ | refine Zc ?_ | refine Zd ?_ | refine Ze ?_ | refine Zg ?_ | refine Zv (fun h => ?_) (fun h => ?_) | refine Zj ?_ | refine Zk ?_ | refine Zl ?_ | refine Zm ?_ | refine Zn ?_ | refine Zo ?_ | refine Zp ?_ | refine Zq ?_ | refine Zu (fun l hl => ?_) | refine Zr ?_) <;> try (conv => whnf)
  refine LoopN.rule (α := Nat) (fun i => ⟨135, [(1, .ptr (.f 1) 0), (2, .sc (.bool false)), (3, i64 i)],
      [(1, .cells [.vec (nds g.nodes), .vec (eds g.edges), i64 g.nn, i64 g.ne])]⟩)
    (fun _ => σ) (fun i => g.nodes.length - i) (fun i => i ≤ g.nodes.length ∧ (∀ j, j < i → zg4 (ve g.nodes) g.nn j = true) ∧ ∀ j v, j < i → g.nodes[j]? = some v → xj v = true) ?_ 0 ⟨by omega, by omega, by omega⟩ ?_
  rotate_left
  · exact ZW
  rintro i K ⟨h1, h0, h2⟩ hK
  dsimp only at h1 h0 h2 ⊢
  by_cases hi : i < g.nodes.length
  · obtain ⟨d, ls, ps, hm, hgg, hg', hd⟩ := kf hi
    obtain ⟨t1, t2, t3, t4⟩ := hns _ hm
    have c1 := zhw (σ := σ) t1 t2
    have c2 := zde (σ := σ) t3 t4
    dsimp only at c1 c2
    have noI : zg4 (ve g.nodes) g.nn i = false → zn g = false := fun h => z00 (by unfold kc; exact jm (by omega) h)
    by_cases m0 : 0 ≤ d ∧ d ≤ g.nn - 1
    case neg =>
      have ci := zhx (σ := σ) (decide_eq_false m0)
      have hno : zg4 (ve g.nodes) g.nn i = false := by
        cases i with
        | zero => rw [zal hd, decide_eq_false m0]
        | succ j =>
          obtain ⟨d2, ls2, ps2, hm2, hgg2, hg2', hd2⟩ := kf (l := g.nodes) (i := j) (by omega)
          rw [kx hd hd2, decide_eq_false m0]; rfl
      conv => whnf
      repeat' (first | (refine ZC ci ?_) | refine Zh ?_ | refine Za ?_ | refine Zm ?_ | refine Zn ?_ | refine Zo ?_ | refine Zp ?_ | refine Zr ?_) <;> try (conv => whnf)
      exact z7 (noI hno)
    have ci := zhx (σ := σ) (decide_eq_true m0)
    cases m1 : y3 ls <;> rw [m1] at c1
    · conv => whnf
      repeat' (first | (refine ZC ci ?_) | (refine ZC c1 ?_) | refine Zh ?_ | refine Za ?_ | refine Zm ?_ | refine Zn ?_ | refine Zo ?_ | refine Zp ?_ | refine Zr ?_) <;> try (conv => whnf)
      exact z7 (zrg hm (by simp only [xj]; rw [m1]; rfl))
    cases m2 : yi ps <;> rw [m2] at c2
    · conv => whnf
      repeat' (first | (refine ZC ci ?_) | (refine ZC c1 ?_) | (refine ZC c2 ?_) | refine Zh ?_ | refine Za ?_ | refine Zm ?_ | refine Zn ?_ | refine Zo ?_ | refine Zp ?_ | refine Zr ?_) <;> try (conv => whnf)
      exact z7 (zrg hm (by simp only [xj]; rw [m1, m2]; rfl))
    have hnode : xj ⟨d, ls, ps⟩ = true := by simp only [xj]; rw [m1, m2]; rfl
    cases i with
    | zero =>
      conv => whnf
      repeat' (first | (refine ZC ci ?_) | (refine ZC c1 ?_) | (refine ZC c2 ?_) | refine Zh ?_ | refine Za ?_ | refine Zb ?_ | refine Zm ?_ | refine Zn ?_ | refine Zo ?_ | refine Zp ?_) <;> try (conv => whnf)
      refine hK 1 _ _ ⟨by omega, yl h0 (by rw [zal hd, decide_eq_true m0]), zdw h2 hgg hnode⟩ (by omega) ?_
      exact ZW
    | succ j =>
      obtain ⟨d2, ls2, ps2, hm2, hgg2, hg2', hd2⟩ := kf (l := g.nodes) (i := j) (by omega)
      have hg3 := zuq hg2'
      have key := kx (e := g.nn) hd hd2
      rw [decide_eq_true m0] at key
      by_cases m3 : d2 < d
      · rw [decide_eq_true m3] at key
        conv => whnf
        repeat' (first | (refine ZC ci ?_) | (refine ZC c1 ?_) | (refine ZC c2 ?_) | refine Zh ?_ | refine Za ?_ | refine Zb ?_ | refine Zm ?_ | refine Zn ?_ | refine Zo ?_ | refine Zp ?_) <;> try (conv => whnf)
        refine hK (j + 2) _ _ ⟨by omega, yl h0 key, zdw h2 hgg hnode⟩ (by omega) ?_
        exact ZW
      · rw [decide_eq_false m3] at key
        conv => whnf
        repeat' (first | (refine ZC ci ?_) | (refine ZC c1 ?_) | (refine ZC c2 ?_) | refine Zh ?_ | refine Za ?_ | refine Zm ?_ | refine Zn ?_ | refine Zo ?_ | refine Zp ?_ | refine Zr ?_) <;> try (conv => whnf)
        exact z7 (noI key)
  have hasc : kc (ve g.nodes) g.nn = true := by unfold kc; exact wu fun j hj => h0 j (by omega)
  have hall : g.nodes.all xj = true := zbv fun j v hj => h2 j v (by omega)
  conv => whnf
  repeat' (first | refine Zb ?_) <;> try (conv => whnf)
  refine LoopN.rule (α := Nat) (fun i => ⟨135, [(1, .ptr (.f 1) 0), (2, .sc (.bool false)), (5, i64 i)],
      [(1, .cells [.vec (nds g.nodes), .vec (eds g.edges), i64 g.nn, i64 g.ne])]⟩)
    (fun _ => σ) (fun i => g.edges.length - i) (fun i => i ≤ g.edges.length ∧ (∀ j, j < i → zg4 (zbq g.edges) g.ne j = true) ∧ ∀ j v, j < i → g.edges[j]? = some v → yo (ve g.nodes) v = true) ?_ 0 ⟨by omega, by omega, by omega⟩ ?_
  rotate_left
  · exact ZW
  clear hK h1 h2 hi K h0
  clear i
  rintro i K ⟨h1, h0, h2⟩ hK
  dsimp only at h1 h0 h2 ⊢
  by_cases hi : i < g.edges.length
  · obtain ⟨d, k, a, b, ps, hm, hgg, hg', hd⟩ := qp hi
    obtain ⟨t1, t3, t4⟩ := hes _ hm
    dsimp only at t1 t3 t4
    have c1 := zb6 (σ := σ) (t := k) (by omega)
    have c2 := zde (σ := σ) t3 t4
    have c3 := fun d' => z40 (σ := σ) (g := g) (d' := d') hnl
    have noI : zg4 (zbq g.edges) g.ne i = false → zn g = false := fun h => z01 (by unfold kc; exact jm (by omega) h)
    by_cases m0 : 0 ≤ d ∧ d ≤ g.ne - 1
    case neg =>
      have ci := zhx (σ := σ) (decide_eq_false m0)
      have hno : zg4 (zbq g.edges) g.ne i = false := by
        cases i with
        | zero => rw [zal hd, decide_eq_false m0]
        | succ j =>
          obtain ⟨d2, k2, a2, b2, ps2, hm2, hgg2, hg2', hd2⟩ := qp (l := g.edges) (i := j) (by omega)
          rw [kx hd hd2, decide_eq_false m0]; rfl
      conv => whnf
      repeat' (first | (refine ZC ci ?_) | refine Zh ?_ | refine Za ?_ | refine Zm ?_ | refine Zn ?_ | refine Zo ?_ | refine Zp ?_ | refine Zr ?_) <;> try (conv => whnf)
      exact z7 (noI hno)
    have ci := zhx (σ := σ) (decide_eq_true m0)
    cases m1 : ya k <;> rw [m1] at c1
    · conv => whnf
      repeat' (first | (refine ZC ci ?_) | (refine ZC c1 ?_) | refine Zh ?_ | refine Za ?_ | refine Zm ?_ | refine Zn ?_ | refine Zo ?_ | refine Zp ?_ | refine Zr ?_) <;> try (conv => whnf)
      exact z7 (zet hm (by simp only [yo]; rw [m1]; rfl))
    cases m2 : yi ps <;> rw [m2] at c2
    · conv => whnf
      repeat' (first | (refine ZC ci ?_) | (refine ZC c1 ?_) | (refine ZC c2 ?_) | refine Zh ?_ | refine Za ?_ | refine Zm ?_ | refine Zn ?_ | refine Zo ?_ | refine Zp ?_ | refine Zr ?_) <;> try (conv => whnf)
      exact z7 (zet hm (by simp only [yo]; rw [m1, m2]; rfl))
    by_cases m3 : 0 ≤ zq (ve g.nodes) a 0
    case neg =>
      conv => whnf
      repeat' (first | (refine ZC ci ?_) | (refine ZC c1 ?_) | (refine ZC c2 ?_) | (refine ZC (c3 _) ?_) | refine Zh ?_ | refine Za ?_ | refine Zm ?_ | refine Zn ?_ | refine Zo ?_ | refine Zp ?_ | refine Zr ?_) <;> try (conv => whnf)
      exact z7 (zet hm (by simp only [yo]; rw [m1, m2, decide_eq_false m3]; rfl))
    by_cases m4 : 0 ≤ zq (ve g.nodes) b 0
    case neg =>
      conv => whnf
      repeat' (first | (refine ZC ci ?_) | (refine ZC c1 ?_) | (refine ZC c2 ?_) | (refine ZC (c3 _) ?_) | refine Zh ?_ | refine Za ?_ | refine Zb ?_ | refine Zm ?_ | refine Zn ?_ | refine Zo ?_ | refine Zp ?_ | refine Zr ?_) <;> try (conv => whnf)
      exact z7 (zet hm (by simp only [yo]; rw [m1, m2, decide_eq_true m3, decide_eq_false m4]; rfl))
    have hedge : yo (ve g.nodes) ⟨d, k, a, b, ps⟩ = true := by simp only [yo]; rw [m1, m2, decide_eq_true m3, decide_eq_true m4]; rfl
    cases i with
    | zero =>
      conv => whnf
      repeat' (first | (refine ZC ci ?_) | (refine ZC c1 ?_) | (refine ZC c2 ?_) | (refine ZC (c3 _) ?_) | refine Zh ?_ | refine Za ?_ | refine Zb ?_ | refine Zm ?_ | refine Zn ?_ | refine Zo ?_ | refine Zp ?_) <;> try (conv => whnf)
      refine hK 1 _ _ ⟨by omega, yl h0 (by rw [zal hd, decide_eq_true m0]), zdw h2 hgg hedge⟩ (by omega) ?_
      exact ZW
    | succ j =>
      obtain ⟨d2, k2, a2, b2, ps2, hm2, hgg2, hg2', hd2⟩ := qp (l := g.edges) (i := j) (by omega)
      have hg3 := zuq hg2'
      have key := kx (e := g.ne) hd hd2
      rw [decide_eq_true m0] at key
      by_cases m5 : d2 < d
      · rw [decide_eq_true m5] at key
        conv => whnf
        repeat' (first | (refine ZC ci ?_) | (refine ZC c1 ?_) | (refine ZC c2 ?_) | (refine ZC (c3 _) ?_) | refine Zh ?_ | refine Za ?_ | refine Zb ?_ | refine Zm ?_ | refine Zn ?_ | refine Zo ?_ | refine Zp ?_) <;> try (conv => whnf)
        refine hK (j + 2) _ _ ⟨by omega, yl h0 key, zdw h2 hgg hedge⟩ (by omega) ?_
        exact ZW
      · rw [decide_eq_false m5] at key
        conv => whnf
        repeat' (first | (refine ZC ci ?_) | (refine ZC c1 ?_) | (refine ZC c2 ?_) | (refine ZC (c3 _) ?_) | refine Zh ?_ | refine Za ?_ | refine Zb ?_ | refine Zm ?_ | refine Zn ?_ | refine Zo ?_ | refine Zp ?_ | refine Zr ?_) <;> try (conv => whnf)
        exact z7 (noI key)
  have hasce : kc (zbq g.edges) g.ne = true := by unfold kc; exact wu fun j hj => h0 j (by omega)
  have halle : g.edges.all (yo (ve g.nodes)) = true := zbv fun j v hj => h2 j v (by omega)
  by_cases hb : (0 ≤ g.nn ∧ g.nn ≤ 1000000000) ∧ (0 ≤ g.ne ∧ g.ne ≤ 1000000000) ∧ g.nodes.length ≤ 12 ∧ g.edges.length ≤ 16
  · have b1 := zhx (σ := σ) (decide_eq_true hb.1)
    have b2 := zhx (σ := σ) (decide_eq_true hb.2.1)
    conv => whnf
    repeat' (first | (refine ZC b1 ?_) | (refine ZC b2 ?_) | refine Za ?_ | refine Zb ?_ | refine Zp ?_ | refine Zr ?_) <;> try (conv => whnf)
    exact z7 (z5p hb hasc hasce hall halle)
  · have no := z7 (σ := σ) (zrh hb)
    have b1 := fun n lo hi => z2r (σ := σ) (n := n) (lo := lo) (hi := hi)
    conv => whnf
    repeat' (first | (refine CallN.many (b1 _ _ _) ?_; rintro _ (⟨hr, rfl⟩ | ⟨hr, rfl⟩)) | refine Zb ?_ | refine Zv (fun h => ?_) (fun h => ?_) | refine Zp ?_ | refine Zr ?_) <;> try (conv => whnf)
    all_goals first
      | exact no
      | (exfalso; omega)
def zy7 (k : Int) (leaf : Rs) : List Rs → Rs
  | [] => leaf
  | [a] => match a with
    | .ok x => z17 k x
    | .err e => .err e
  | a :: b :: _ => match a with
    | .err e => .err e
    | .ok x => match b with
      | .err e => .err e
      | .ok y => z1r k x y
mutual
def evR (g : Gr) (row given : List Pr) : Exp → Rs
  | .mk k v s c ps => if k = 14 ∨ k = 15 then .err 1 else zy7 k (zvr g row given (.mk k v s c [])) (evL g row given ps)
def evL (g : Gr) (row given : List Pr) : List Exp → List Rs
  | [] => []
  | e :: r => evR g row given e :: evL g row given r
end
theorem zf3 {d k : Int} {v : Val} {s c : ByteArray} {ps : List Exp} (h : okE d (.mk k v s c ps) = true) : OkH d k v s c ps.length ∧ ∀ e ∈ ps, okE (d - 1) e = true := by
  simp only [okE, Bool.and_eq_true] at h
  refine ⟨okH_iff.1 h.1, ?_⟩
  rw [yr] at h
  exact List.all_eq_true.1 h.2
structure SceneOk (g : Gr) (row given : List Pr) : Prop where
  gt : GrTame g
  go : zn g = true
  rl : row.length ≤ 1000
  rt : ∀ p ∈ row, PrTame p
  ro : zcu row
  vl : given.length ≤ 1000
  vt : ∀ p ∈ given, PrTame p
  vo : zcu given
mutual
theorem ztm {g : Gr} {row given : List Pr} (hs : SceneOk g row given) : ∀ (e : Exp) {d : Int}, okE d e = true → z0f (evR g row given e)
  | .mk k v s c ps, d, h => by
    obtain ⟨h1, h2⟩ := zf3 h
    have hl := z06 hs ps h2
    simp only [evR]
    split
    · exact .inl rfl
    · have hleaf := z2m (ps := []) (s := s) (c := c) hs.go hs.ro hs.vo h1.vl
      generalize evL g row given ps = rs at hl
      match rs, hl with
      | [], _ => exact hleaf
      | [.ok x], hl => exact z4x (hl (.ok x) (by simp))
      | [.err e], hl => exact hl (.err e) (by simp)
      | .err e :: b :: _, hl => exact hl (.err e) (by simp)
      | .ok x :: .err e :: _, hl => exact hl (.err e) (by simp)
      | .ok x :: .ok y :: _, hl => exact z4c
theorem z06 {g : Gr} {row given : List Pr} (hs : SceneOk g row given) : ∀ (l : List Exp) {d : Int}, (∀ e ∈ l, okE d e = true) → ∀ r ∈ evL g row given l, z0f r
  | [], _, _ => by simp [evL]
  | e :: r, d, h => by
    have h1 := ztm hs e (h e (by simp))
    have h2 := z06 hs r fun e he => h e (by simp [he])
    intro x hx
    simp only [evL, List.mem_cons] at hx
    rcases hx with rfl | hx
    · exact h1
    · exact h2 x hx
end
def za3 (g : Gr) (row given : List Pr) : CV := .agg [.vec (nds g.nodes), .vec (eds g.edges), i64 g.nn, i64 g.ne, .vec (prs row), .vec (prs given)]
def zwl (k vk vn : Int) (vt : ByteArray) (vl : List Val) (s c : ByteArray) (ps : List Exp) : List CV := [i64 k, i64 vk, i64 vn, .sc (.string vt), .vec (Val.cvs vl), .sc (.string s), .sc (.string c), .vec (Exp.cvs ps)]
theorem zz8 {σ : Heap} {g : Gr} {row given : List Pr} {l : Nat} {k vk vn : Int} {vt : ByteArray} {vl : List Val} {s c : ByteArray} {ps : List Exp} (h : σ l = some (.cells (zwl k vk vn vt vl s c ps))) :
    CRun Tryz.prog 128 [za3 g row given, .ptr (.g l) 0] σ (· = .ret (Val.mk vk vn vt vl).cv σ) := by
  refine ZX Tryz.func128 Tryz.ntmps128 ?_
  conv => whnf
  repeat' (first | refine Zj ?_ | refine Zr ?_) <;> try (conv => whnf)
  all_goals rfl
theorem zz4 {σ : Heap} {g : Gr} {row given : List Pr} : CRun Tryz.prog 134 [za3 g row given] σ (· = zep σ (.err 1)) := by
  refine ZX Tryz.func134 Tryz.ntmps134 ?_
  conv => whnf
  repeat' (first | (refine yx ?_)) <;> try (conv => whnf)
  all_goals rfl
theorem qw {σ : Heap} {v : Val} : zep σ (.ok v) = .ret v.cv σ := rfl
theorem jo {σ : Heap} {c : Int} : zep σ (.err c) = .pan (.iface 120 (i64 c)) σ := rfl
theorem zz7 {σ : Heap} {g : Gr} {row given : List Pr} {l : Nat} {k vk vn : Int} {vt : ByteArray} {vl : List Val} {s c : ByteArray} {ps : List Exp} (hr : row.length ≤ 1000) (h : σ l = some (.cells (zwl k vk vn vt vl s c ps))) :
    CRun Tryz.prog 129 [za3 g row given, .ptr (.g l) 0] σ (· = zep σ (zcl row s)) := by
  have cm := zj2 (σ := σ) (s := s) hr
  generalize zcl row s = r at cm ⊢
  cases r with
  | ok v =>
    obtain ⟨rk, rn, rt, rl⟩ := v
    rw [qw] at cm
    refine ZX Tryz.func129 Tryz.ntmps129 ?_
    conv => whnf
    repeat' (first | (refine ZC cm ?_) | refine Zj ?_ | refine Zp ?_ | refine Zr ?_) <;> try (conv => whnf)
    all_goals rfl
  | err e =>
    rw [jo] at cm
    refine ZX Tryz.func129 Tryz.ntmps129 ?_
    conv => whnf
    repeat' (first | (refine ZC cm ?_) | (refine yx ?_) | refine Zj ?_) <;> try (conv => whnf)
    all_goals rfl
theorem zz6 {σ : Heap} {g : Gr} {row given : List Pr} {l : Nat} {k vk vn : Int} {vt : ByteArray} {vl : List Val} {s c : ByteArray} {ps : List Exp} (hr : given.length ≤ 1000) (h : σ l = some (.cells (zwl k vk vn vt vl s c ps))) :
    CRun Tryz.prog 131 [za3 g row given, .ptr (.g l) 0] σ (· = zep σ (zcl given s)) := by
  have cm := zj2 (σ := σ) (s := s) hr
  generalize zcl given s = r at cm ⊢
  cases r with
  | ok v =>
    obtain ⟨rk, rn, rt, rl⟩ := v
    rw [qw] at cm
    refine ZX Tryz.func131 Tryz.ntmps131 ?_
    conv => whnf
    repeat' (first | (refine ZC cm ?_) | refine Zj ?_ | refine Zp ?_ | refine Zr ?_) <;> try (conv => whnf)
    all_goals rfl
  | err e =>
    rw [jo] at cm
    refine ZX Tryz.func131 Tryz.ntmps131 ?_
    conv => whnf
    repeat' (first | (refine ZC cm ?_) | (refine yx ?_) | refine Zj ?_) <;> try (conv => whnf)
    all_goals rfl
theorem zz5 {σ : Heap} {g : Gr} {row given : List Pr} {l : Nat} {k vk vn : Int} {vt : ByteArray} {vl : List Val} {s c : ByteArray} {ps : List Exp} (hg : GrTame g) (hr : row.length ≤ 1000) (h : σ l = some (.cells (zwl k vk vn vt vl s c ps))) :
    CRun Tryz.prog 132 [za3 g row given, .ptr (.g l) 0] σ (· = zep σ (match zx row s with | none => .err 3 | some w => z3i g w c)) := by
  have cm := zj2 (σ := σ) (s := s) hr
  cases hl : zx row s with
  | none =>
    have o : zcl row s = .err 3 := by unfold zcl; rw [hl]
    rw [o, jo] at cm
    refine jh (X := (O 1 [0,1,2,3,4,5,7,8,6,9,10])) (z0g _ _) (zn6 _ _) (body := yz Tryz.f132) Tryz.func132 rfl (by kernel_rfl) (by kernel_rfl) ?_
    rw [Tryz.ntmps132]
    conv => whnf
    repeat' (first | (refine ZC cm ?_) | (refine yx ?_) | ((refine ⟨⟨by kernel_rfl, by kernel_rfl⟩, ?_⟩)) | refine Zh ?_ | refine Zj ?_) <;> try (conv => whnf)
    all_goals rfl
  | some w =>
    have o : zcl row s = .ok w := by unfold zcl; rw [hl]
    rw [o, qw] at cm
    have ca := zot (σ := σ) (v := w) (s := c) hg
    dsimp only
    generalize z3i g w c = r at ca ⊢
    obtain ⟨wk, wn, wt, wl⟩ := w
    cases r with
    | ok v =>
      obtain ⟨rk, rn, rt, rl⟩ := v
      rw [qw] at ca
      refine jh (X := (O 1 [0,1,2,3,4,5,7,8,6,9,10])) (z0g _ _) (zn6 _ _) (body := yz Tryz.f132) Tryz.func132 rfl (by kernel_rfl) (by kernel_rfl) ?_
      rw [Tryz.ntmps132]
      conv => whnf
      repeat' (first | (refine ZC cm ?_) | (refine ZC ca ?_) | refine Zh ?_ | refine Zj ?_ | refine Zn ?_ | refine Zp ?_ | refine Zr ?_) <;> try (conv => whnf)
      all_goals rfl
    | err e =>
      rw [jo] at ca
      refine jh (X := (O 1 [0,1,2,3,4,5,7,8,6,9,10])) (z0g _ _) (zn6 _ _) (body := yz Tryz.f132) Tryz.func132 rfl (by kernel_rfl) (by kernel_rfl) ?_
      rw [Tryz.ntmps132]
      conv => whnf
      repeat' (first | (refine ZC cm ?_) | (refine ZC ca ?_) | (refine yx ?_) | ((refine ⟨⟨by kernel_rfl, by kernel_rfl⟩, ?_⟩)) | refine Zh ?_ | refine Zj ?_ | refine Zp ?_) <;> try (conv => whnf)
      all_goals rfl
def z60 (kind : Int) : Rs → Rs
  | .ok x => z17 kind x
  | .err e => .err e
def z6t (kind : Int) (a b : Rs) : Rs := match a with
  | .err e => .err e
  | .ok x => match b with
    | .err e => .err e
    | .ok y => z1r kind x y
theorem zz3 {σ : Heap} {g : Gr} {row given : List Pr} {l6 l3 l28 : Nat} {c0 : CV} {r : Rs} {kind : Int} (h6 : σ l6 = some (.cells [.fn (.func (z0t kind)) [] []])) (h3 : σ l3 = some (.cells [.grow l28 1 1])) (h28 : σ l28 = some (.arr 161 1 1 [.opq c0]))
    (hv : z36 Tryz.prog c0 [za3 g row given] σ (· = zep σ r)) (hr : z0f r) (hk : kind = 9 ∨ kind = 11 ∨ kind = 13) :
    CRun Tryz.prog 136 [za3 g row given, .ptr (.g l6) 0, .ptr (.g l3) 0] σ (· = zep σ (z60 kind r)) := by
  cases r with
  | ok v =>
    have c1 := z4y (σ := σ) hk (zcg v hr) hr
    have e : z60 kind (.ok v) = z17 kind v := rfl
    rw [e]
    generalize z17 kind v = q at c1 ⊢
    generalize z0t kind = f at c1 h6
    obtain ⟨vk, vn, vt, vl⟩ := v
    rw [qw] at hv
    cases q with
    | ok q =>
      obtain ⟨qk, qn, qt, ql⟩ := q
      rw [qw] at c1
      refine ZX Tryz.func136 Tryz.ntmps136 ?_
      conv => whnf
      repeat' (first | (refine CallVN.one hv ?_) | (refine ZC c1 ?_) | refine Zh ?_ | refine Zj ?_ | refine Zm ?_ | refine Zn ?_ | refine Zo ?_ | refine Zp ?_ | refine Zr ?_) <;> try (conv => whnf)
      all_goals rfl
    | err e =>
      rw [jo] at c1
      refine ZX Tryz.func136 Tryz.ntmps136 ?_
      conv => whnf
      repeat' (first | (refine CallVN.one hv ?_) | (refine ZC c1 ?_) | (refine yx ?_) | ((refine ⟨⟨by kernel_rfl, by kernel_rfl⟩, ?_⟩)) | refine Zh ?_ | refine Zj ?_ | refine Zm ?_ | refine Zo ?_ | refine Zp ?_) <;> try (conv => whnf)
      all_goals rfl
  | err e =>
    rw [jo] at hv
    generalize z0t kind = f at h6
    refine ZX Tryz.func136 Tryz.ntmps136 ?_
    conv => whnf
    repeat' (first | (refine CallVN.one hv ?_) | (refine yx ?_) | ((refine ⟨⟨by kernel_rfl, by kernel_rfl⟩, ?_⟩)) | refine Zh ?_ | refine Zj ?_ | refine Zm ?_ | refine Zo ?_) <;> try (conv => whnf)
    all_goals rfl
theorem zz2 {σ : Heap} {g : Gr} {row given : List Pr} {l7 l3 l28 : Nat} {c0 c1 : CV} {r0 r1 : Rs} {kind : Int} (h7 : σ l7 = some (.cells [.fn (.func (zx8 kind)) [] []])) (h3 : σ l3 = some (.cells [.grow l28 2 2])) (h28 : σ l28 = some (.arr 161 1 2 [.opq c0, .opq c1]))
    (hv0 : z36 Tryz.prog c0 [za3 g row given] σ (· = zep σ r0)) (hv1 : z36 Tryz.prog c1 [za3 g row given] σ (· = zep σ r1)) (hr0 : z0f r0) (hr1 : z0f r1) (hk : kind = 5 ∨ kind = 6 ∨ kind = 7 ∨ kind = 8 ∨ kind = 10 ∨ kind = 12) :
    CRun Tryz.prog 138 [za3 g row given, .ptr (.g l3) 0, .ptr (.g l7) 0] σ (· = zep σ (z6t kind r0 r1)) := by
  cases r0 with
  | err e =>
    rw [jo] at hv0
    generalize zx8 kind = f at h7
    refine jh (X := (O 1 [0,1,2,3,5,4,6])) (z0g _ _) (zn6 _ _) (body := yz Tryz.f138) Tryz.func138 rfl (by kernel_rfl) (by kernel_rfl) ?_
    rw [Tryz.ntmps138]
    conv => whnf
    repeat' (first | (refine CallVN.one hv0 ?_) | (refine yx ?_) | ((refine ⟨⟨by kernel_rfl, by kernel_rfl⟩, ?_⟩)) | refine Zh ?_ | refine Zj ?_ | refine Zm ?_ | refine Zo ?_) <;> try (conv => whnf)
    all_goals rfl
  | ok v =>
    rw [qw] at hv0
    cases r1 with
    | err e =>
      rw [jo] at hv1
      generalize zx8 kind = f at h7
      obtain ⟨vk, vn, vt, vl⟩ := v
      refine jh (X := (O 2 [0,1,2,3,5,4,6])) (z0g _ _) (zn6 _ _) (body := yz Tryz.f138) Tryz.func138 rfl (by kernel_rfl) (by kernel_rfl) ?_
      rw [Tryz.ntmps138]
      conv => whnf
      repeat' (first | (refine CallVN.one hv0 ?_) | (refine CallVN.one hv1 ?_) | (refine yx ?_) | ((refine ⟨⟨by kernel_rfl, by kernel_rfl⟩, ?_⟩)) | refine Zh ?_ | refine Zj ?_ | refine Zm ?_ | refine Zo ?_ | refine Zp ?_) <;> try (conv => whnf)
      all_goals rfl
    | ok w =>
      rw [qw] at hv1
      have cf := z4d (σ := σ) hk (zcg v hr0) (zcg w hr1) hr0 hr1
      have e : z6t kind (.ok v) (.ok w) = z1r kind v w := rfl
      rw [e]
      generalize z1r kind v w = q at cf ⊢
      generalize zx8 kind = f at cf h7
      obtain ⟨vk, vn, vt, vl⟩ := v
      obtain ⟨wk, wn, wt, wl⟩ := w
      cases q with
      | ok q =>
        obtain ⟨qk, qn, qt, ql⟩ := q
        rw [qw] at cf
        refine ZX Tryz.func138 Tryz.ntmps138 ?_
        conv => whnf
        repeat' (first | (refine CallVN.one hv0 ?_) | (refine CallVN.one hv1 ?_) | (refine ZC cf ?_) | refine Zh ?_ | refine Zj ?_ | refine Zm ?_ | refine Zn ?_ | refine Zo ?_ | refine Zp ?_ | refine Zr ?_) <;> try (conv => whnf)
        all_goals rfl
      | err e =>
        rw [jo] at cf
        refine ZX Tryz.func138 Tryz.ntmps138 ?_
        conv => whnf
        repeat' (first | (refine CallVN.one hv0 ?_) | (refine CallVN.one hv1 ?_) | (refine ZC cf ?_) | (refine yx ?_) | ((refine ⟨⟨by kernel_rfl, by kernel_rfl⟩, ?_⟩)) | refine Zh ?_ | refine Zj ?_ | refine Zm ?_ | refine Zo ?_ | refine Zp ?_) <;> try (conv => whnf)
        all_goals rfl
def AskOk (e : Exp) (c : CV) (τ : Heap) : Prop := ∀ τ', Sub τ τ' → ∀ g row given, SceneOk g row given → z36 Tryz.prog c [za3 g row given] τ' (· = zep τ' (evR g row given e))
def zqg (e : Exp) (σ : Heap) (out : COut) : Prop := ∃ c τ, out = .ret (.opq c) τ ∧ Sub σ τ ∧ AskOk e c τ
def zn9 (e : Exp) (σ : Heap) (out : COut) : Prop := ∃ c τ, out = .ret c τ ∧ c.one = true ∧ Sub σ τ ∧ AskOk e c τ
theorem zp {a b c : Heap} (h : Sub a b) (k : Sub b c) : Sub a c := fun l o e => k l o (h l o e)
theorem AskOk.mono {e : Exp} {c : CV} {τ τ' : Heap} (h : AskOk e c τ) (hs : Sub τ τ') : AskOk e c τ' := fun τ'' h' => h τ'' (zp hs h')
theorem zz9 {e : Exp} {σ : Heap} (h : CRun Tryz.prog 119 [e.cv] σ (zn9 e σ)) : CRun Tryz.prog 119 [e.cv] σ (zqg e σ) :=
  h.opq fun out ⟨c, τ, e1, h1, h2, h3⟩ => ⟨c, τ, e1, h1, c, τ, rfl, h2, h3⟩
def AskAll (ps : List Exp) (cs : List CV) (τ : Heap) : Prop := ∀ (j : Nat) c e, cs[j]? = some c → ps[j]? = some e → AskOk e c τ
theorem AskAll.mono {ps : List Exp} {cs : List CV} {τ τ' : Heap} (h : AskAll ps cs τ) (hs : Sub τ τ') : AskAll ps cs τ' := fun j c e h1 h2 => (h j c e h1 h2).mono hs
theorem AskAll.snoc {ps : List Exp} {cs : List CV} {τ : Heap} {e : Exp} {c : CV} (h : AskAll ps cs τ) (he : ps[cs.length]? = some e) (hc : AskOk e c τ) : AskAll ps (cs ++ [c]) τ := by
  intro j c' e' h1 h2
  by_cases hj : j < cs.length
  · rw [List.getElem?_append_left hj] at h1; exact h j c' e' h1 h2
  · rw [List.getElem?_append_right (by omega)] at h1
    have : j = cs.length := by
      have := (List.getElem?_eq_some_iff.1 h1).1
      simp at this; omega
    subst this
    simp at h1
    rw [he] at h2; cases h2
    rw [← h1]; exact hc
def zn3 (l28 N : Nat) (cs : List CV) (τ : Heap) : Heap := upd τ l28 (.arr 161 1 N (cs.map .opq ++ List.replicate (N - cs.length) (.sc .nilFunc)))
theorem z4t {e : Exp} {τ : Heap} {l28 : Nat} {ob : Ob} (h : CRun Tryz.prog 119 [e.cv] τ (zqg e τ)) (hl : τ l28 = none) :
    CRun Tryz.prog 119 [e.cv] (upd τ l28 ob) (fun out => ∃ c τ0, τ0 l28 = none ∧ Sub τ τ0 ∧ Sub (upd τ l28 ob) (upd τ0 l28 ob) ∧ AskOk e c τ0 ∧ out = .ret (.opq c) (upd τ0 l28 ob)) := by
  refine (h.frame hl).mono fun out ho => ?_
  cases out with
  | ret v τ2 =>
    obtain ⟨τ0, rfl, h0, c, τ1, e1, h1, h2⟩ := ho
    cases e1
    refine ⟨c, τ0, h0, h1, fun x y hx => ?_, h2, rfl⟩
    by_cases hxl : x = l28
    · subst hxl; rw [za] at hx ⊢; exact hx
    · rw [zb _ _ hxl] at hx ⊢; exact h1 x y hx
  | pan v τ2 =>
    obtain ⟨τ0, rfl, h0, c, τ1, e1, h1, h2⟩ := ho
    cases e1
theorem zt4 {τ : Heap} {l28 N : Nat} {cs : List CV} (h : τ l28 = none) : Sub τ (zn3 l28 N cs τ) := (Sub.refl τ).upd h
theorem z77 {σ τ : Heap} {e a : Exp} {c : CV} {l28 l3 l6 : Nat} {Z : Ob} {k d : Int} (hk : k = 9 ∨ k = 11 ∨ k = 13) (hev : ∀ g row given, evR g row given e = z60 k (evR g row given a)) (ha : okE d a = true)
    (h28 : τ l28 = none) (h3 : τ l3 = some (.cells [.grow l28 1 1])) (hs : Sub σ τ) (hc : AskOk a c τ) (h6 : zn3 l28 1 [c] τ l6 = none) :
    zn9 e σ (.ret (.fn (.func 136) [] [.ptr (.g l6) 0, .ptr (.g l3) 0]) (upd (upd (zn3 l28 1 [c] τ) l6 Z) l6 (.cells [.fn (.func (z0t k)) [] []]))) := by
  rw [xe]
  have s1 : Sub (zn3 l28 1 [c] τ) (upd (zn3 l28 1 [c] τ) l6 (.cells [.fn (.func (z0t k)) [] []])) := (Sub.refl _).upd h6
  have s2 := zp (zt4 (N := 1) (cs := [c]) h28) s1
  refine ⟨_, _, rfl, rfl, zp hs s2, fun τ' hτ g row given hsc => ⟨_, [], [.ptr (.g l6) 0, .ptr (.g l3) 0], [], [.ptr (.g l6) 0, .ptr (.g l3) 0], rfl, rfl, rfl, ?_⟩⟩
  rw [hev]
  exact zz3 (hτ l6 _ (za _ _ _)) (hτ l3 _ (s2 l3 _ h3)) (hτ l28 _ (s1 l28 _ (za _ _ _))) (hc τ' (zp s2 hτ) g row given hsc) (ztm hsc a ha) hk
theorem z76 {σ τ : Heap} {e a b : Exp} {c c' : CV} {l28 l3 l7 : Nat} {Z : Ob} {k d : Int} (hk : k = 5 ∨ k = 6 ∨ k = 7 ∨ k = 8 ∨ k = 10 ∨ k = 12) (hev : ∀ g row given, evR g row given e = z6t k (evR g row given a) (evR g row given b)) (ha : okE d a = true) (hb : okE d b = true)
    (h28 : τ l28 = none) (h3 : τ l3 = some (.cells [.grow l28 2 2])) (hs : Sub σ τ) (hc : AskOk a c τ) (hc' : AskOk b c' τ) (h7 : zn3 l28 2 [c, c'] τ l7 = none) :
    zn9 e σ (.ret (.fn (.func 138) [] [.ptr (.g l3) 0, .ptr (.g l7) 0]) (upd (upd (zn3 l28 2 [c, c'] τ) l7 Z) l7 (.cells [.fn (.func (zx8 k)) [] []]))) := by
  rw [xe]
  have s1 : Sub (zn3 l28 2 [c, c'] τ) (upd (zn3 l28 2 [c, c'] τ) l7 (.cells [.fn (.func (zx8 k)) [] []])) := (Sub.refl _).upd h7
  have s2 := zp (zt4 (N := 2) (cs := [c, c']) h28) s1
  refine ⟨_, _, rfl, rfl, zp hs s2, fun τ' hτ g row given hsc => ⟨_, [], [.ptr (.g l3) 0, .ptr (.g l7) 0], [], [.ptr (.g l3) 0, .ptr (.g l7) 0], rfl, rfl, rfl, ?_⟩⟩
  rw [hev]
  exact zz2 (hτ l7 _ (za _ _ _)) (hτ l3 _ (s2 l3 _ h3)) (hτ l28 _ (s1 l28 _ (za _ _ _))) (hc τ' (zp s2 hτ) g row given hsc) (hc' τ' (zp s2 hτ) g row given hsc) (ztm hsc a ha) (ztm hsc b hb) hk
theorem zfn {τ : Heap} {x l : Nat} {ob ob' : Ob} (h : τ x = some ob) (hl : τ l = none) : upd τ l ob' x = some ob := by
  have : x ≠ l := fun e => by subst e; rw [h] at hl; cases hl
  rw [zb _ _ this]; exact h
theorem zx3 {τ : Heap} {x l : Nat} {ob ob' ob'' : Ob} (h : τ x = some ob) (hl : τ l = none) : upd (upd τ l ob') l ob'' x = some ob := by
  rw [xe]; exact zfn h hl
theorem zvq {α : Type} {l : List α} (h : l.length = 1) : ∃ a, l = [a] := List.length_eq_one_iff.1 h
theorem zvp {α : Type} {l : List α} (h : l.length = 2) : ∃ a b, l = [a, b] := by
  match l, h with
  | [a, b], _ => exact ⟨a, b, rfl⟩
theorem z1q {τ τ0 : Heap} {l28 N i : Nat} {cs : List CV} {c : CV} {A : Ob} (hc : cs.length = i) (hi : i < N) :
    upd (upd τ0 l28 A) l28 (.arr 161 1 N ((cs.map CV.opq ++ List.replicate (N - cs.length) (CV.sc .nilFunc)).set (i : Int).toNat (.opq c))) = zn3 l28 N (cs ++ [c]) τ0 := by
  rw [xe]
  unfold zn3
  have key := zik (cs.map CV.opq) (CV.opq c) (CV.sc .nilFunc) (N - (i + 1))
  rw [List.length_map, show N - (i + 1) + 1 = N - cs.length by omega] at key
  rw [Int.toNat_natCast, ← hc, key, List.map_append, List.length_append]
  rw [show N - (cs.length + [c].length) = N - (i + 1) by simp; omega]
  rfl
set_option maxHeartbeats 2000000 in
theorem zxf {e : Exp} (he : ETame e) : ∀ {d : Int}, okE d e = true → ∀ (σ : Heap), CRun Tryz.prog 119 [e.cv] σ (zqg e σ) := by
  induction he with
  | @mk k v s c ps hv hsz hcz hl' hps ih =>
    intro d hok σ
    obtain ⟨h1, h2⟩ := zf3 hok
    refine zz9 ?_
    have e3 := zaz ps
    obtain ⟨vk, vn, vt, vl⟩ := v
    have leaf : ∀ (f : Nat) (σ1 : Heap) (l : Nat), σ l = none → σ1 = upd σ l (.cells (zwl k vk vn vt vl s c ps)) →
        (∀ τ', τ' l = some (.cells (zwl k vk vn vt vl s c ps)) → ∀ g row given, SceneOk g row given → CRun Tryz.prog f [za3 g row given, .ptr (.g l) 0] τ' (· = zep τ' (evR g row given (.mk k (.mk vk vn vt vl) s c ps)))) →
        zn9 (.mk k (.mk vk vn vt vl) s c ps) σ (.ret (.fn (.func f) [] [.ptr (.g l) 0]) σ1) := by
      intro f σ1 l hl e hc
      subst e
      exact ⟨_, _, rfl, rfl, (Sub.refl σ).upd hl, fun τ' hs g row given hsc => ⟨f, [], [.ptr (.g l) 0], [], [.ptr (.g l) 0], rfl, rfl, rfl, hc τ' (hs l _ (za _ _ _)) g row given hsc⟩⟩
    have ev0 : ps = [] → ¬ (k = 14 ∨ k = 15) → ∀ g row given, evR g row given (.mk k (.mk vk vn vt vl) s c ps) = zvr g row given (.mk k (.mk vk vn vt vl) s c []) := by
      intro e hk g row given
      subst e
      simp only [evR, if_neg hk, evL, zy7]
    by_cases k1 : k = 1
    · have z : ps = [] := List.eq_nil_of_length_eq_zero (by have h := h1.ar; rw [k1] at h; simpa [qr] using h)
      have lf := leaf 128
      subst k1
      refine ZG [1,3,6,7,28] Tryz.func119 Tryz.ntmps119 ?_
      conv => whnf
      repeat' (first | refine Za ?_ | refine Zj ?_ | refine Zu (fun l hl => ?_) | refine Zr ?_) <;> try (conv => whnf)
      refine lf _ l hl rfl fun τ' hτ g row given hsc => ?_
      rw [ev0 z (by omega), zb5, if_pos rfl]
      exact zz8 hτ
    by_cases k2 : k = 2
    · have z : ps = [] := List.eq_nil_of_length_eq_zero (by have h := h1.ar; rw [k2] at h; simpa [qr] using h)
      have lf := leaf 129
      subst k2
      refine ZG [1,3,6,7,28] Tryz.func119 Tryz.ntmps119 ?_
      conv => whnf
      repeat' (first | refine Za ?_ | refine Zb ?_ | refine Zj ?_ | refine Zu (fun l hl => ?_) | refine Zr ?_) <;> try (conv => whnf)
      refine lf _ l hl rfl fun τ' hτ g row given hsc => ?_
      rw [ev0 z (by omega), zb5, if_neg (by decide), if_neg (by decide)]
      have := zz7 (g := g) (given := given) hsc.rl hτ
      unfold zcl at this
      cases hlk : zx row s with
      | none => rw [hlk] at this; exact this
      | some w => rw [hlk] at this; dsimp only; rw [if_neg (by decide)]; exact this
    by_cases k4 : k = 4
    · have z : ps = [] := List.eq_nil_of_length_eq_zero (by have h := h1.ar; rw [k4] at h; simpa [qr] using h)
      have lf := leaf 131
      subst k4
      refine ZG [1,3,6,7,28] Tryz.func119 Tryz.ntmps119 ?_
      conv => whnf
      repeat' (first | refine Za ?_ | refine Zb ?_ | refine Zj ?_ | refine Zu (fun l hl => ?_) | refine Zr ?_) <;> try (conv => whnf)
      refine lf _ l hl rfl fun τ' hτ g row given hsc => ?_
      rw [ev0 z (by omega), zb5, if_neg (by decide), if_pos rfl]
      have := zz6 (g := g) (row := row) hsc.vl hτ
      unfold zcl at this
      cases hlk : zx given s with
      | none => rw [hlk] at this; exact this
      | some w => rw [hlk] at this; dsimp only; rw [if_neg (by decide)]; exact this
    by_cases k3 : k = 3
    · have z : ps = [] := List.eq_nil_of_length_eq_zero (by have h := h1.ar; rw [k3] at h; simpa [qr] using h)
      have lf := leaf 132
      subst k3
      refine ZG [1,3,6,7,28] Tryz.func119 Tryz.ntmps119 ?_
      conv => whnf
      repeat' (first | refine Za ?_ | refine Zb ?_ | refine Zj ?_ | refine Zu (fun l hl => ?_) | refine Zr ?_) <;> try (conv => whnf)
      refine lf _ l hl rfl fun τ' hτ g row given hsc => ?_
      rw [ev0 z (by omega), zb5, if_neg (by decide), if_neg (by decide)]
      have := zz5 (given := given) hsc.gt hsc.rl hτ
      cases hlk : zx row s with
      | none => rw [hlk] at this; exact this
      | some w => rw [hlk] at this; dsimp only; rw [if_pos rfl]; exact this
    by_cases k14 : k = 14 ∨ k = 15
    · have fin : ∀ l, σ l = none → zn9 (.mk k (.mk vk vn vt vl) s c ps) σ (.ret (.fn (.func 134) [] []) (upd σ l (.cells (zwl k vk vn vt vl s c ps)))) := by
        intro l hl
        refine ⟨_, _, rfl, rfl, (Sub.refl σ).upd hl, fun τ' hs g row given hsc => ⟨_, [], [], [], [], rfl, rfl, rfl, ?_⟩⟩
        have e : evR g row given (.mk k (.mk vk vn vt vl) s c ps) = .err 1 := by simp only [evR, if_pos k14]
        rw [e]
        exact zz4
      clear leaf ev0
      refine ZG [1,3,6,7,28] Tryz.func119 Tryz.ntmps119 ?_
      rcases k14 with k14 | k14
      all_goals
        conv => whnf
        repeat' (first | refine Za ?_ | refine Zb ?_ | refine Zj ?_ | refine Zu (fun l hl => ?_) | refine Zr ?_) <;> try (conv => whnf)
        exact fin l hl
    have q14 : ¬ k = 14 := by omega
    have q15 : ¬ k = 15 := by omega
    clear ev0
    have hkind : ((k = 9 ∨ k = 11 ∨ k = 13) ∧ ps.length = 1) ∨ ((k = 5 ∨ k = 6 ∨ k = 7 ∨ k = 8 ∨ k = 10 ∨ k = 12) ∧ ps.length = 2) := by
      have ar := h1.ar
      unfold qr at ar
      rw [if_neg (by omega)] at ar
      by_cases c1 : k = 9 ∨ k = 11 ∨ k = 13 ∨ k = 15
      · rw [if_pos c1] at ar; exact .inl ⟨by omega, by omega⟩
      · rw [if_neg c1] at ar
        by_cases c2 : (5 ≤ k ∧ k ≤ 8) ∨ k = 10 ∨ k = 12
        · rw [if_pos c2] at ar; exact .inr ⟨by omega, by omega⟩
        · rw [if_neg c2] at ar; omega
    have hev : ∀ g row given, evR g row given (.mk k (.mk vk vn vt vl) s c ps) = zy7 k (zvr g row given (.mk k (.mk vk vn vt vl) s c [])) (evL g row given ps) := by
      intro g row given
      simp only [evR, if_neg k14]
    have o1 := @z18
    have o2 := @z1s
    clear h1
    refine ZG [1,3,6,7,28] Tryz.func119 Tryz.ntmps119 ?_
    conv => whnf
    repeat' (first | (refine GetN.go ?_ (h := by first | exact za _ _ _ | exact zfn (za _ _ _) ‹_› | exact zfn (zfn (za _ _ _) ‹_›) ‹_› | exact zx3 (zfn (za _ _ _) ‹_›) ‹_›)) | refine Zb ?_ | refine Zm ?_ | refine Zu (fun l hl => ?_)) <;> try (conv => whnf)
    rename_i l1 hl1 l28 hl28
    refine LoopN.rule (α := Nat × Heap × List CV) (fun a => ⟨54, [(1, .ptr (.g l1) 0), (2, .sc .nilFunc), (3, .ptr (.g l) 0), (30, .vec (Exp.cvs ps)), (31, i64 (Exp.cvs ps).length), (32, i64 a.1)], []⟩)
      (fun a => zn3 l28 (Exp.cvs ps).length a.2.2 a.2.1) (fun a => ps.length - a.1)
      (fun a => a.1 ≤ ps.length ∧ a.2.2.length = a.1 ∧ a.2.1 l28 = none ∧ a.2.1 l1 = some (.cells (zwl k vk vn vt vl s c ps)) ∧ a.2.1 l = some (.cells [.grow l28 (Exp.cvs ps).length (Exp.cvs ps).length]) ∧ Sub σ a.2.1 ∧ AskAll ps a.2.2 a.2.1) ?_
      (0, upd (upd σ l1 (.cells (zwl k vk vn vt vl s c ps))) l (.cells [.grow l28 (Exp.cvs ps).length (Exp.cvs ps).length]), []) ?_ ?_
    rotate_left
    · have ne1 : l28 ≠ l1 := fun e => by subst e; rw [za] at hl28; cases hl28
      have ne2 : l ≠ l28 := fun e => by subst e; rw [za] at hl; cases hl
      have ne3 : l ≠ l1 := fun e => by subst e; rw [zb _ _ ne2, za] at hl; cases hl
      have hl0 : (upd σ l1 (.cells (zwl k vk vn vt vl s c ps))) l = none := by rw [zb _ _ ne2] at hl; exact hl
      refine ⟨Nat.zero_le _, rfl, ?_, ?_, za _ _ _, zp ((Sub.refl σ).upd hl1) ((Sub.refl _).upd hl0), fun j c e h => by simp at h⟩
      · show (upd (upd σ l1 _) l _) l28 = none
        rw [zb _ _ (Ne.symm ne2)]; exact hl28
      · show (upd (upd σ l1 _) l _) l1 = _
        rw [zb _ _ (Ne.symm ne3)]; exact za _ _ _
    · have ne2 : l28 ≠ l := fun e => by subst e; rw [za] at hl; cases hl
      refine ⟨rfl, ?_, ?_, ?_⟩
      rotate_left
      rotate_left
      · rw [xe, zie _ _ _ ne2]; exact Sub.refl _
      all_goals repeat' (first | exact EnvLe.nil | exact LocsLe.nil | refine EnvLe.cons _ _ _ ?_ ?_ | exact CVle.same _ rfl)
    · rintro ⟨i, τ, cs⟩ K ⟨i1, i2, i3, i4, i5, i6, i7⟩ hK
      dsimp only at i1 i2 i3 i4 i5 i6 i7 ⊢
      have ne1 : l1 ≠ l28 := fun e => by subst e; rw [i3] at i4; cases i4
      have ne2 : l ≠ l28 := fun e => by subst e; rw [i3] at i5; cases i5
      have g1 : zn3 l28 (Exp.cvs ps).length cs τ l1 = some (.cells (zwl k vk vn vt vl s c ps)) := by unfold zn3; rw [zb _ _ ne1]; exact i4
      have g2 : zn3 l28 (Exp.cvs ps).length cs τ l = some (.cells [.grow l28 (Exp.cvs ps).length (Exp.cvs ps).length]) := by unfold zn3; rw [zb _ _ ne2]; exact i5
      by_cases hi : i < ps.length
      · obtain ⟨⟨ek, ⟨evk, evn, evt, evl⟩, es1, ec, eps⟩, hm, hg', hg⟩ := za0 hi
        have ca : CRun Tryz.prog 119 [Exp.cv (.mk ek (.mk evk evn evt evl) es1 ec eps)] (zn3 l28 (Exp.cvs ps).length cs τ) _ := z4t (ih _ hm (h2 _ hm) τ) i3
        have hx : (cs.map CV.opq ++ List.replicate ((Exp.cvs ps).length - cs.length) (CV.sc .nilFunc)).length = (Exp.cvs ps).length := by simp; omega
        clear hl hl28 hl1 hkind hev o1 o2 leaf
        conv => whnf
        repeat' (first | (refine CallN.many ca ?_; rintro _ ⟨c0, τ0, t1, t2, t3, t4, rfl⟩) | refine Zi ?_ | refine Za ?_ | refine Zj ?_ | refine Zm ?_ | refine Zn ?_ | refine Zo ?_ | refine Zp ?_) <;> try (conv => whnf)
        refine hK (i + 1, τ0, cs ++ [c0]) _ _ ⟨by simp only; omega, by simp [i2], t1, t2 _ _ i4, t2 _ _ i5, zp i6 t2, (i7.mono t2).snoc (by rw [i2]; exact hg') t4⟩ (by simp only; omega) ?_
        refine ⟨rfl, ?_, ?_, ?_⟩
        rotate_left
        rotate_left
        · rw [z1q (τ := τ) i2 (by omega)]; exact Sub.refl _
        all_goals repeat' (first | exact EnvLe.nil | exact LocsLe.nil | refine EnvLe.cons _ _ _ ?_ ?_ | exact CVle.same _ rfl)
      · rcases hkind with ⟨hk, hN⟩ | ⟨hk, hN⟩
        · obtain ⟨a, rfl⟩ := zvq hN
          obtain ⟨c0, rfl⟩ := zvq (by omega : cs.length = 1)
          have fin := fun l6 Z => z77 (σ := σ) (l6 := l6) (Z := Z) hk (fun g row given => by rw [hev]; rfl) (h2 a (by simp)) i3 i5 i6 (i7 0 c0 a rfl rfl)
          conv => whnf
          repeat' (first | (refine ZC o1 ?_) | refine Za ?_ | refine Zb ?_ | refine Zj ?_ | refine Zp ?_ | refine Zu (fun l hl => ?_) | refine Zr ?_) <;> try (conv => whnf)
          exact fin _ _ ‹_›
        · obtain ⟨a, b, rfl⟩ := zvp hN
          obtain ⟨c0, c1, rfl⟩ := zvp (by omega : cs.length = 2)
          have fin := fun l7 Z => z76 (σ := σ) (l7 := l7) (Z := Z) hk (fun g row given => by rw [hev]; rfl) (h2 a (by simp)) (h2 b (by simp)) i3 i5 i6 (i7 0 c0 a rfl rfl) (i7 1 c1 b rfl rfl)
          conv => whnf
          repeat' (first | (refine ZC o2 ?_) | refine Zb ?_ | refine Zj ?_ | refine Zp ?_ | refine Zu (fun l hl => ?_) | refine Zr ?_) <;> try (conv => whnf)
          exact fin _ _ ‹_›
theorem zr0 {l : List Pr} (h : zbs l = true) : zcu l := by
  intro p hp
  unfold zbs at h
  obtain ⟨j, hj, e⟩ := List.getElem_of_mem hp
  have h2 := List.all_eq_true.1 h j (List.mem_range.2 hj)
  rw [znx (List.getElem?_eq_getElem hj), e] at h2
  simp only [Bool.and_eq_true] at h2
  exact h2.2.1
section
variable {σ τ : Heap} {l8 l9 : Nat} {Z Y V W : Ob}
theorem z42 (h : upd σ l8 Z l9 = none) : l9 ≠ l8 := fun e => by subst e; rw [za] at h; cases h
theorem none_of (h : upd σ l8 Z l9 = none) : σ l9 = none := by rw [zb _ _ (z42 h)] at h; exact h
theorem gE (hs : Sub (upd (upd σ l8 Z) l9 Y) τ) : τ l9 = some Y := hs _ _ (za _ _ _)
theorem gF (h : upd σ l8 Z l9 = none) (hs : Sub (upd (upd σ l8 Z) l9 Y) τ) : upd τ l8 V l9 = some Y := by rw [zb _ _ (z42 h)]; exact gE hs
end
def z8b (σ : Heap) (l0 : Nat) (bs : List CV) (p : Int) (out : COut) : Prop := ∃ ns es nn ne q', GrTame ⟨ns, es, nn, ne⟩ ∧ p ≤ q' ∧ q' ≤ p + 20000 ∧ out = .ret (.agg [.vec (nds ns), .vec (eds es), i64 nn, i64 ne]) (rd σ l0 bs q')
theorem z3m {f : FuncId} {args : List CV} {σ0 σ : Heap} {l0 : Nat} {bs : List CV} {p : Int} (h : CRun Tryz.prog f args σ0 (z37 σ l0 bs p)) : CRun Tryz.prog f args σ0 (z8b σ l0 bs p) := by
  have h1 : CRun Tryz.prog f args σ0 (fun out => ∃ a b ns es nn ne q', NilW a (.vec (nds ns)) ∧ NilW b (.vec (eds es)) ∧ GrTame ⟨ns, es, nn, ne⟩ ∧ p ≤ q' ∧ q' ≤ p + 20000 ∧ out = .ret (.agg [a, b, i64 nn, i64 ne]) (rd σ l0 bs q')) := by
    refine h.freeze fun out ⟨s', cN, cE, ns, es, nn, ne, q', hG, b1, b2, b3, b4, b5, b6, b7, b8, e⟩ => ?_
    subst e
    obtain ⟨a, la, fa, ha, wa⟩ := zq0 (bs := bs) (q := q') hG.oN hG.fN
    obtain ⟨b, lb, fb, hb, wb⟩ := zq0 (bs := bs) (q := q') hG.oE hG.fE
    refine ⟨.ret (.agg [a, b, i64 nn, i64 ne]) (rd σ l0 bs q'), ⟨zqq hG.sub, _, .inl (.agg (.cons fa (.cons fb (.cons (.same _) (.cons (.same _) .nil))))), fun l hl => ?_⟩, a, b, ns, es, nn, ne, q', wa, wb, ⟨by simp only; omega, by simp only; omega, by simp only; omega, by simp only; omega, hG.tn, hG.te⟩, b7, b8, rfl⟩
    simp only [List.append_nil, List.mem_append] at hl
    rcases hl with hl | hl
    · exact ha l hl
    · exact hb l hl
  refine h1.weak fun out ⟨a, b, ns, es, nn, ne, q', wa, wb, t, b7, b8, e⟩ => ?_
  subst e
  exact ⟨.ret (.agg [.vec (nds ns), .vec (eds es), i64 nn, i64 ne]) (rd σ l0 bs q'), ⟨rfl, NilWs.agg (.cons wa (.cons wb (.cons (.inl rfl) (.cons (.inl rfl) .nil))))⟩, ns, es, nn, ne, q', t, b7, b8, rfl⟩
end Go.Proofs.YtlamgfimgadnmaaGreat
