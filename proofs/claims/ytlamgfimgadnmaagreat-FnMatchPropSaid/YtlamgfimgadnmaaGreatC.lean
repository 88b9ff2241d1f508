/-
  Contracts of the functions that the law reaches.
-/
import Derived.Test.YtlamgfimgadnmaaGreatB
set_option linter.unusedVariables false
set_option linter.unusedSimpArgs false
namespace Go.Proofs.YtlamgfimgadnmaaGreat
open Go Go.CL
set_option maxRecDepth 10000
inductive Exp where
  | mk (k : Int) (v : Val) (name key : ByteArray) (parts : List Exp)
mutual
def Exp.cv : Exp → CV
  | .mk k (.mk vk vn vt vl) s c ps => .agg [i64 k, i64 vk, i64 vn, .sc (.string vt), .vec (Val.cvs vl), .sc (.string s), .sc (.string c), .vec (Exp.cvs ps)]
def Exp.cvs : List Exp → List CV
  | [] => []
  | e :: r => e.cv :: Exp.cvs r
end
inductive ETame : Exp → Prop
  | mk {k : Int} {v : Val} {s c : ByteArray} {ps : List Exp} (hv : Tame v) (hs : s.size ≤ 1000) (hc : c.size ≤ 1000) (hl : ps.length ≤ 100) (h : ∀ e ∈ ps, ETame e) : ETame (.mk k v s c ps)
theorem ETame.inv {k : Int} {v : Val} {s c : ByteArray} {ps : List Exp} (h : ETame (.mk k v s c ps)) : Tame v ∧ s.size ≤ 1000 ∧ c.size ≤ 1000 ∧ ps.length ≤ 100 ∧ ∀ e ∈ ps, ETame e := by
  cases h with
  | mk h1 h2 h3 h4 h5 => exact ⟨h1, h2, h3, h4, h5⟩
theorem zrw (l : List Exp) : Exp.cvs l = l.map Exp.cv := by
  induction l with
  | nil => rfl
  | cons v r ih => simp [Exp.cvs, ih]
theorem zaz (l : List Exp) : (Exp.cvs l).length = l.length := by simp [zrw]
theorem za0 {l : List Exp} {i : Nat} (hi : i < l.length) : ∃ e, e ∈ l ∧ l[i]? = some e ∧ (Exp.cvs l)[i]? = some (Exp.cv e) := by
  refine ⟨l[i], List.getElem_mem hi, List.getElem?_eq_getElem hi, ?_⟩
  rw [zrw, List.getElem?_map, List.getElem?_eq_getElem hi]; rfl
def za2 (k : Int) : Prop := k = 2 ∨ k = 3 ∨ k = 4
instance (k : Int) : Decidable (za2 k) := by unfold za2; infer_instance
structure OkH (d k : Int) (v : Val) (s c : ByteArray) (n : Nat) : Prop where
  deep : 1 ≤ d
  ar : (n : Int) = qr k
  nm : za2 k → ya s = true
  nm' : ¬ za2 k → s = ⟨#[]⟩
  ky : k = 3 → ya c = true
  ky' : ¬ k = 3 → c = ⟨#[]⟩
  vl : k = 1 → okV 3 v = true
  vt : k = 1 → litV v = true
  vl' : ¬ k = 1 → zgl v = true
def okH (d k : Int) (v : Val) (s c : ByteArray) (n : Nat) : Bool := decide (1 ≤ d) && (decide ((n : Int) = qr k) && ((if za2 k then ya s else decide (s = ⟨#[]⟩)) && ((if k = 3 then ya c else decide (c = ⟨#[]⟩)) && (if k = 1 then okV 3 v && litV v else zgl v))))
theorem okH_iff {d k : Int} {v : Val} {s c : ByteArray} {n : Nat} : okH d k v s c n = true ↔ OkH d k v s c n := by
  unfold okH
  constructor
  · intro h
    simp only [Bool.and_eq_true, decide_eq_true_eq] at h
    obtain ⟨h1, h2, h3, h4, h5⟩ := h
    refine ⟨h1, h2, fun h => by rw [if_pos h] at h3; exact h3, fun h => by rw [if_neg h] at h3; simpa using h3, fun h => by rw [if_pos h] at h4; exact h4, fun h => by rw [if_neg h] at h4; simpa using h4, fun h => ?_, fun h => ?_, fun h => by rw [if_neg h] at h5; exact h5⟩
    · rw [if_pos h, Bool.and_eq_true] at h5; exact h5.1
    · rw [if_pos h, Bool.and_eq_true] at h5; exact h5.2
  · intro ⟨h1, h2, h3, h3', h4, h4', h5, h6, h7⟩
    simp only [Bool.and_eq_true, decide_eq_true_eq]
    refine ⟨h1, h2, ?_, ?_, ?_⟩
    · split
      · exact h3 ‹_›
      · exact decide_eq_true (h3' ‹_›)
    · split
      · exact h4 ‹_›
      · exact decide_eq_true (h4' ‹_›)
    · split
      · rw [h5 ‹_›, h6 ‹_›]; rfl
      · exact h7 ‹_›
mutual
def okE : Int → Exp → Bool
  | d, .mk k v s c ps => okH d k v s c ps.length && ztx (d - 1) ps
def ztx : Int → List Exp → Bool
  | _, [] => true
  | d, e :: r => okE d e && ztx d r
end
theorem yr {d : Int} {l : List Exp} : ztx d l = l.all (okE d) := by
  induction l with
  | nil => rfl
  | cons v r ih => simp [ztx, ih]
theorem z0u {d k : Int} {v : Val} {s c : ByteArray} {ps : List Exp} (h : ¬ OkH d k v s c ps.length) : okE d (.mk k v s c ps) = false := by
  simp only [okE]
  rw [show okH d k v s c ps.length = false from by rw [← Bool.not_eq_true]; exact fun e => h (okH_iff.1 e)]; rfl
theorem wo {d k : Int} {v : Val} {s c : ByteArray} {ps : List Exp} (h : OkH d k v s c ps.length) : okE d (.mk k v s c ps) = ztx (d - 1) ps := by
  simp only [okE]; rw [okH_iff.2 h]; rfl
theorem jw : ya ⟨#[]⟩ = false := zat (by decide)
theorem zto {v : Val} : zgl v = xf v nullV := by
  obtain ⟨k, n, t, l⟩ := v
  have e : xf (.mk k n t l) nullV = (decide (k = 0 ∧ n = 0 ∧ t = ⟨#[]⟩) && qv l []) := by unfold nullV; simp only [xf]
  rw [e]
  unfold zgl
  cases l with
  | nil => simp [qv]
  | cons v r => simp [qv]
set_option maxHeartbeats 2000000 in
theorem ztg {σ : Heap} {e : Exp} (he : ETame e) : ∀ {d : Int}, -10 ≤ d → d ≤ 1000 → CRun Tryz.prog 116 [e.cv, i64 d] σ (· = .ret (.sc (.bool (okE d e))) σ) := by
  induction he with
  | @mk k v s c ps hv hs hc hl hps ih =>
    intro d hd hd'
    have e3 := zaz ps
    have a1 := fun k => z16 (σ := σ) (k := k)
    have n1 := qh (σ := σ) (t := s) (by omega)
    have n2 := qh (σ := σ) (t := c) (by omega)
    have v1 := qj (σ := σ) hv
    have v2 := z2u (σ := σ) (c := 5) hv
    have v3 := z2u (σ := σ) (c := 6) hv
    have v4 := z29 (σ := σ) hv
    by_cases hH : OkH d k v s c ps.length
    case neg =>
      have no : COut.ret (.sc (.bool false)) σ = .ret (.sc (.bool (okE d (.mk k v s c ps)))) σ := z7 (z0u hH)
      have n1 := split n1
      have n2 := split n2
      have v1 := split v1
      have v2 := split v2
      have v3 := split v3
      have v4 := split v4
      have hlit := @zvl v 3
      obtain ⟨vk, vn, vt, vl⟩ := v
      refine ZX Tryz.func116 Tryz.ntmps116 ?_
      conv => whnf
      repeat' (first | (refine ZC (a1 _) ?_) | (refine CallN.many n1 ?_; rintro _ (⟨w1, rfl⟩ | ⟨w1, rfl⟩)) | (refine CallN.many n2 ?_; rintro _ (⟨w2, rfl⟩ | ⟨w2, rfl⟩)) | (refine CallN.many v1 ?_; rintro _ (⟨w3, rfl⟩ | ⟨w3, rfl⟩)) | (refine CallN.many v2 ?_; rintro _ (⟨w4, rfl⟩ | ⟨w4, rfl⟩)) | (refine CallN.many v3 ?_; rintro _ (⟨w5, rfl⟩ | ⟨w5, rfl⟩)) | (refine CallN.many v4 ?_; rintro _ (⟨w6, rfl⟩ | ⟨w6, rfl⟩)) | refine Zh ?_ | refine Za ?_ | refine Zb ?_ | refine Zv (fun h => ?_) (fun h => ?_) | refine Zn ?_ | refine Zp ?_ | refine Zr ?_) <;> try (conv => whnf)
      all_goals first
        | exact no
        | exact absurd ⟨by omega, by omega, fun h => by first | assumption | (unfold za2 at h; omega), fun h => by first | assumption | exact absurd (by unfold za2; omega) h,
            fun h => by first | assumption | omega, fun h => by first | assumption | omega, fun h => by first | assumption | omega,
            fun h => by first | omega | (rw [hlit ‹_›, ‹zcf 5 _ = _›, ‹zcf 6 _ = _›]; rfl), fun h => by first | assumption | omega⟩ hH
    have one0 := hH.deep
    have har := hH.ar
    by_cases k1 : k = 1
    · have hp : ps = [] := by
        rw [k1] at har
        have : qr 1 = 0 := by decide
        exact List.eq_nil_of_length_eq_zero (by omega)
      have hr := wo hH
      have hs0 := hH.nm' (by unfold za2; omega)
      have hc0 := hH.ky' (by omega)
      rw [hs0, jw] at n1
      rw [hc0, jw] at n2
      have hv1 := hH.vl k1
      have hlit := zvl _ hv1
      rw [hH.vt k1] at hlit
      rw [hv1] at v1
      have w4 : zcf 5 v = false := by
        cases h : zcf 5 v with
        | false => rfl
        | true => rw [h] at hlit; simp at hlit
      have w5 : zcf 6 v = false := by
        cases h : zcf 6 v with
        | false => rfl
        | true => rw [h] at hlit; simp at hlit
      rw [w4] at v2
      rw [w5] at v3
      obtain ⟨vk, vn, vt, vl⟩ := v
      subst hs0 hc0
      refine ZX Tryz.func116 Tryz.ntmps116 ?_
      conv => whnf
      repeat' (first | (refine ZC (a1 _) ?_) | (refine ZC n1 ?_) | (refine ZC v1 ?_) | (refine ZC v2 ?_) | (refine ZC v3 ?_) | refine Zh ?_ | refine Za ?_ | refine Zb ?_ | refine Zd ?_ | refine Zg ?_ | refine Zn ?_ | refine Zp ?_ | refine Zr ?_) <;> try (conv => whnf)
      all_goals exact z7 (by rw [hr, hp]; rfl)
    have hv1 := hH.vl' k1
    rw [hv1] at v4
    obtain ⟨vk, vn, vt, vl⟩ := v
    by_cases kn : za2 k
    · have hs0 := hH.nm kn
      rw [hs0] at n1
      unfold za2 at kn
      by_cases k3 : k = 3
      · have hc0 := hH.ky k3
        rw [hc0] at n2
        refine ZX Tryz.func116 Tryz.ntmps116 ?_
        conv => whnf
        repeat' (first | (refine ZC (a1 _) ?_) | (refine ZC n1 ?_) | (refine ZC n2 ?_) | (refine ZC v4 ?_) | refine Zh ?_ | refine Za ?_ | refine Zb ?_ | refine Zd ?_ | refine Zn ?_ | refine Zp ?_) <;> try (conv => whnf)
        refine LoopN.rule (α := Nat) (fun i => ⟨101, [(1, i64 d), (4, .sc (.bool false)), (89, .vec (Exp.cvs ps)), (90, i64 (Exp.cvs ps).length), (91, i64 i)], []⟩)
          (fun _ => σ) (fun i => ps.length - i) (fun i => i ≤ ps.length ∧ ∀ j v, j < i → ps[j]? = some v → okE (d - 1) v = true) ?_ 0 ⟨by omega, by omega⟩ ?_
        · rintro i K ⟨h1, h2⟩ hK
          dsimp only at h1 h2 ⊢
          by_cases hi : i < ps.length
          · obtain ⟨⟨ek, ⟨evk, evn, evt, evl⟩, es, ec, eps⟩, hm, hg, hg'⟩ := za0 hi
            have hc := ih _ hm (d := d - 1) (by omega) (by omega)
            cases hz : okE (d - 1) (.mk ek (.mk evk evn evt evl) es ec eps) <;> rw [hz] at hc
            · conv => whnf
              repeat' (first | (refine ZC hc ?_) | refine Za ?_ | refine Zm ?_ | refine Zo ?_ | refine Zp ?_ | refine Zr ?_) <;> try (conv => whnf)
              exact z7 (by rw [wo hH, yr]; exact List.all_eq_false.2 ⟨_, hm, by rw [hz]; simp⟩)
            · conv => whnf
              repeat' (first | (refine ZC hc ?_) | refine Za ?_ | refine Zm ?_ | refine Zo ?_ | refine Zp ?_) <;> try (conv => whnf)
              refine hK (i + 1) _ _ ⟨by omega, zdw h2 hg hz⟩ (by omega) ?_
              exact ZW
          · have hall : ztx (d - 1) ps = true := by rw [yr]; exact zbv fun j v hj => h2 j v (by omega)
            conv => whnf
            repeat' (first | refine Zb ?_ | refine Zr ?_) <;> try (conv => whnf)
            exact z7 (by rw [wo hH, hall])
        · exact ZW
      · have hc0 := hH.ky' k3
        rw [hc0, jw] at n2
        have hr := wo hH
        subst hc0
        refine ZX Tryz.func116 Tryz.ntmps116 ?_
        conv => whnf
        repeat' (first | (refine ZC (a1 _) ?_) | (refine ZC n1 ?_) | (refine ZC n2 ?_) | (refine ZC v4 ?_) | refine Zh ?_ | refine Za ?_ | refine Zb ?_ | refine Zd ?_ | refine Zg ?_ | refine Zv (fun h => ?_) (fun h => ?_) | refine Zn ?_ | refine Zp ?_) <;> try (conv => whnf)
        all_goals
          refine LoopN.rule (α := Nat) (fun i => ⟨101, [(1, i64 d), (4, .sc (.bool false)), (89, .vec (Exp.cvs ps)), (90, i64 (Exp.cvs ps).length), (91, i64 i)], []⟩)
            (fun _ => σ) (fun i => ps.length - i) (fun i => i ≤ ps.length ∧ ∀ j v, j < i → ps[j]? = some v → okE (d - 1) v = true) ?_ 0 ⟨by omega, by omega⟩ ?_
          · rintro i K ⟨h1, h2⟩ hK
            dsimp only at h1 h2 ⊢
            by_cases hi : i < ps.length
            · obtain ⟨⟨ek, ⟨evk, evn, evt, evl⟩, es, ec, eps⟩, hm, hg, hg'⟩ := za0 hi
              have hc := ih _ hm (d := d - 1) (by omega) (by omega)
              cases hz : okE (d - 1) (.mk ek (.mk evk evn evt evl) es ec eps) <;> rw [hz] at hc
              · conv => whnf
                repeat' (first | (refine ZC hc ?_) | refine Za ?_ | refine Zm ?_ | refine Zo ?_ | refine Zp ?_ | refine Zr ?_) <;> try (conv => whnf)
                exact z7 (by rw [wo hH, yr]; exact List.all_eq_false.2 ⟨_, hm, by rw [hz]; simp⟩)
              · conv => whnf
                repeat' (first | (refine ZC hc ?_) | refine Za ?_ | refine Zm ?_ | refine Zo ?_ | refine Zp ?_) <;> try (conv => whnf)
                refine hK (i + 1) _ _ ⟨by omega, zdw h2 hg hz⟩ (by omega) ?_
                exact ZW
            · have hall : ztx (d - 1) ps = true := by rw [yr]; exact zbv fun j v hj => h2 j v (by omega)
              conv => whnf
              repeat' (first | refine Zb ?_ | refine Zr ?_) <;> try (conv => whnf)
              exact z7 (by rw [wo hH, hall])
          · exact ZW
    · have hs0 := hH.nm' kn
      have hc0 := hH.ky' (by unfold za2 at kn; omega)
      have k2 : ¬ k = 2 ∧ ¬ k = 3 ∧ ¬ k = 4 := by unfold za2 at kn; omega
      obtain ⟨k2, k3, k4⟩ := k2
      rw [hs0, jw] at n1
      rw [hc0, jw] at n2
      subst hs0 hc0
      refine ZX Tryz.func116 Tryz.ntmps116 ?_
      conv => whnf
      repeat' (first | (refine ZC (a1 _) ?_) | (refine ZC n1 ?_) | (refine ZC v4 ?_) | refine Zh ?_ | refine Zb ?_ | refine Zd ?_ | refine Zg ?_ | refine Zn ?_ | refine Zp ?_) <;> try (conv => whnf)
      refine LoopN.rule (α := Nat) (fun i => ⟨101, [(1, i64 d), (4, .sc (.bool false)), (89, .vec (Exp.cvs ps)), (90, i64 (Exp.cvs ps).length), (91, i64 i)], []⟩)
        (fun _ => σ) (fun i => ps.length - i) (fun i => i ≤ ps.length ∧ ∀ j v, j < i → ps[j]? = some v → okE (d - 1) v = true) ?_ 0 ⟨by omega, by omega⟩ ?_
      · rintro i K ⟨h1, h2⟩ hK
        dsimp only at h1 h2 ⊢
        by_cases hi : i < ps.length
        · obtain ⟨⟨ek, ⟨evk, evn, evt, evl⟩, es, ec, eps⟩, hm, hg, hg'⟩ := za0 hi
          have hc := ih _ hm (d := d - 1) (by omega) (by omega)
          cases hz : okE (d - 1) (.mk ek (.mk evk evn evt evl) es ec eps) <;> rw [hz] at hc
          · conv => whnf
            repeat' (first | (refine ZC hc ?_) | refine Za ?_ | refine Zm ?_ | refine Zo ?_ | refine Zp ?_ | refine Zr ?_) <;> try (conv => whnf)
            exact z7 (by rw [wo hH, yr]; exact List.all_eq_false.2 ⟨_, hm, by rw [hz]; simp⟩)
          · conv => whnf
            repeat' (first | (refine ZC hc ?_) | refine Za ?_ | refine Zm ?_ | refine Zo ?_ | refine Zp ?_) <;> try (conv => whnf)
            refine hK (i + 1) _ _ ⟨by omega, zdw h2 hg hz⟩ (by omega) ?_
            exact ZW
        · have hall : ztx (d - 1) ps = true := by rw [yr]; exact zbv fun j v hj => h2 j v (by omega)
          conv => whnf
          repeat' (first | refine Zb ?_ | refine Zr ?_) <;> try (conv => whnf)
          exact z7 (by rw [wo hH, hall])
      · exact ZW
theorem zss : Tame nullV := .mk (by omega) (by omega) (by decide) (by decide) (by simp)
set_option maxHeartbeats 4000000 in
theorem z5b {σ : Heap} {e : Exp} (he : ETame e) : ∀ {d : Int}, -10 ≤ d → d ≤ 1000 → CRun Tryz.prog 56 [e.cv, i64 d] σ (· = .ret (.sc (.bool (okE d e))) σ) := by
  induction he with
  | @mk k v s c ps hv hs hc hl hps ih =>
    intro d hd hd'
    have e3 := zaz ps
    have a1 := fun k => z3l (σ := σ) (k := k)
    have n1 := zb6 (σ := σ) (t := s) (by omega)
    have n2 := zb6 (σ := σ) (t := c) (by omega)
    have v1 := zij (σ := σ) hv
    have v2 := z66 (σ := σ) hv
    have v4 := zq8 (σ := σ) hv zss
    rw [← zto] at v4
    by_cases hH : OkH d k v s c ps.length
    case neg =>
      have no : COut.ret (.sc (.bool false)) σ = .ret (.sc (.bool (okE d (.mk k v s c ps)))) σ := z7 (z0u hH)
      have n1 := split n1
      have n2 := split n2
      have v1 := split v1
      have v2 := split v2
      have v4 := split v4
      obtain ⟨vk, vn, vt, vl⟩ := v
      refine ZX Tryz.func56 Tryz.ntmps56 ?_
      conv => whnf
      repeat' (first | (refine ZC (a1 _) ?_) | (refine CallN.many n1 ?_; rintro _ (⟨w1, rfl⟩ | ⟨w1, rfl⟩)) | (refine CallN.many n2 ?_; rintro _ (⟨w2, rfl⟩ | ⟨w2, rfl⟩)) | (refine CallN.many v1 ?_; rintro _ (⟨w3, rfl⟩ | ⟨w3, rfl⟩)) | (refine CallN.many v2 ?_; rintro _ (⟨w4, rfl⟩ | ⟨w4, rfl⟩)) | (refine CallN.many v4 ?_; rintro _ (⟨w6, rfl⟩ | ⟨w6, rfl⟩)) | refine Zh ?_ | refine Za ?_ | refine Zb ?_ | refine Zc ?_ | refine Zd ?_ | refine Zv (fun h => ?_) (fun h => ?_) | refine Zn ?_ | refine Zp ?_ | refine Zr ?_) <;> try (conv => whnf)
      all_goals first
        | exact no
        | exact absurd ⟨by omega, by omega, fun h => by first | assumption | (unfold za2 at h; omega), fun h => by first | assumption | exact absurd (by unfold za2; omega) h,
            fun h => by first | assumption | omega, fun h => by first | assumption | omega, fun h => by first | assumption | omega,
            fun h => by first | assumption | omega, fun h => by first | assumption | omega⟩ hH
    have one0 := hH.deep
    have har := hH.ar
    by_cases k1 : k = 1
    · have hs0 := hH.nm' (by unfold za2; omega)
      have hc0 := hH.ky' (by omega)
      rw [hH.vl k1] at v1
      rw [hH.vt k1] at v2
      obtain ⟨vk, vn, vt, vl⟩ := v
      subst hs0 hc0
      refine ZX Tryz.func56 Tryz.ntmps56 ?_
      conv => whnf
      repeat' (first | (refine ZC (a1 _) ?_) | (refine ZC v1 ?_) | (refine ZC v2 ?_) | refine Zh ?_ | refine Za ?_ | refine Zb ?_ | refine Zc ?_ | refine Zd ?_ | refine Ze ?_ | refine Zn ?_ | refine Zp ?_) <;> try (conv => whnf)
      refine LoopN.rule (α := Nat) (fun i => ⟨119, [(1, i64 d), (2, .ptr (.f 2) 0), (4, .sc (.bool false)), (9, i64 i)], [(2, .cells [i64 k, i64 vk, i64 vn, .sc (.string vt), .vec (Val.cvs vl), .sc (.string ⟨#[]⟩), .sc (.string ⟨#[]⟩), .vec (Exp.cvs ps)])]⟩)
        (fun _ => σ) (fun i => ps.length - i) (fun i => i ≤ ps.length ∧ ∀ j v, j < i → ps[j]? = some v → okE (d - 1) v = true) ?_ 0 ⟨by omega, by omega⟩ ?_
      · rintro i K ⟨h1, h2⟩ hK
        dsimp only at h1 h2 ⊢
        by_cases hi : i < ps.length
        · obtain ⟨⟨ek, ⟨evk, evn, evt, evl⟩, es, ec, eps⟩, hm, hg, hg'⟩ := za0 hi
          have hc := ih _ hm (d := d - 1) (by omega) (by omega)
          cases hz : okE (d - 1) (.mk ek (.mk evk evn evt evl) es ec eps) <;> rw [hz] at hc
          · conv => whnf
            repeat' (first | (refine ZC hc ?_) | refine Za ?_ | refine Zm ?_ | refine Zo ?_ | refine Zp ?_ | refine Zr ?_) <;> try (conv => whnf)
            exact z7 (by rw [wo hH, yr]; exact List.all_eq_false.2 ⟨_, hm, by rw [hz]; simp⟩)
          · conv => whnf
            repeat' (first | (refine ZC hc ?_) | refine Za ?_ | refine Zm ?_ | refine Zo ?_ | refine Zp ?_) <;> try (conv => whnf)
            refine hK (i + 1) _ _ ⟨by omega, zdw h2 hg hz⟩ (by omega) ?_
            exact ZW
        · have hall : ztx (d - 1) ps = true := by rw [yr]; exact zbv fun j v hj => h2 j v (by omega)
          conv => whnf
          repeat' (first | refine Zb ?_ | refine Zr ?_) <;> try (conv => whnf)
          exact z7 (by rw [wo hH, hall])
      · exact ZW
    have hv1 := hH.vl' k1
    rw [hv1] at v4
    obtain ⟨vk, vn, vt, vl⟩ := v
    by_cases kn : za2 k
    · have hs0 := hH.nm kn
      rw [hs0] at n1
      unfold za2 at kn
      by_cases k3 : k = 3
      · have hc0 := hH.ky k3
        rw [hc0] at n2
        refine ZX Tryz.func56 Tryz.ntmps56 ?_
        conv => whnf
        repeat' (first | (refine ZC (a1 _) ?_) | (refine ZC n1 ?_) | (refine ZC n2 ?_) | (refine ZC v4 ?_) | refine Zh ?_ | refine Za ?_ | refine Zb ?_ | refine Zc ?_ | refine Zd ?_ | refine Zn ?_ | refine Zp ?_) <;> try (conv => whnf)
        refine LoopN.rule (α := Nat) (fun i => ⟨119, [(1, i64 d), (2, .ptr (.f 2) 0), (4, .sc (.bool false)), (9, i64 i)], [(2, .cells [i64 k, i64 vk, i64 vn, .sc (.string vt), .vec (Val.cvs vl), .sc (.string s), .sc (.string c), .vec (Exp.cvs ps)])]⟩)
          (fun _ => σ) (fun i => ps.length - i) (fun i => i ≤ ps.length ∧ ∀ j v, j < i → ps[j]? = some v → okE (d - 1) v = true) ?_ 0 ⟨by omega, by omega⟩ ?_
        · rintro i K ⟨h1, h2⟩ hK
          dsimp only at h1 h2 ⊢
          by_cases hi : i < ps.length
          · obtain ⟨⟨ek, ⟨evk, evn, evt, evl⟩, es, ec, eps⟩, hm, hg, hg'⟩ := za0 hi
            have hc := ih _ hm (d := d - 1) (by omega) (by omega)
            cases hz : okE (d - 1) (.mk ek (.mk evk evn evt evl) es ec eps) <;> rw [hz] at hc
            · conv => whnf
              repeat' (first | (refine ZC hc ?_) | refine Za ?_ | refine Zm ?_ | refine Zo ?_ | refine Zp ?_ | refine Zr ?_) <;> try (conv => whnf)
              exact z7 (by rw [wo hH, yr]; exact List.all_eq_false.2 ⟨_, hm, by rw [hz]; simp⟩)
            · conv => whnf
              repeat' (first | (refine ZC hc ?_) | refine Za ?_ | refine Zm ?_ | refine Zo ?_ | refine Zp ?_) <;> try (conv => whnf)
              refine hK (i + 1) _ _ ⟨by omega, zdw h2 hg hz⟩ (by omega) ?_
              exact ZW
          · have hall : ztx (d - 1) ps = true := by rw [yr]; exact zbv fun j v hj => h2 j v (by omega)
            conv => whnf
            repeat' (first | refine Zb ?_ | refine Zr ?_) <;> try (conv => whnf)
            exact z7 (by rw [wo hH, hall])
        · exact ZW
      · have hc0 := hH.ky' k3
        subst hc0
        refine ZX Tryz.func56 Tryz.ntmps56 ?_
        conv => whnf
        repeat' (first | (refine ZC (a1 _) ?_) | (refine ZC n1 ?_) | (refine ZC v4 ?_) | refine Zh ?_ | refine Za ?_ | refine Zb ?_ | refine Zc ?_ | refine Zd ?_ | refine Ze ?_ | refine Zv (fun h => ?_) (fun h => ?_) | refine Zn ?_ | refine Zp ?_) <;> try (conv => whnf)
        all_goals
          refine LoopN.rule (α := Nat) (fun i => ⟨119, [(1, i64 d), (2, .ptr (.f 2) 0), (4, .sc (.bool false)), (9, i64 i)], [(2, .cells [i64 k, i64 vk, i64 vn, .sc (.string vt), .vec (Val.cvs vl), .sc (.string s), .sc (.string ⟨#[]⟩), .vec (Exp.cvs ps)])]⟩)
            (fun _ => σ) (fun i => ps.length - i) (fun i => i ≤ ps.length ∧ ∀ j v, j < i → ps[j]? = some v → okE (d - 1) v = true) ?_ 0 ⟨by omega, by omega⟩ ?_
          · rintro i K ⟨h1, h2⟩ hK
            dsimp only at h1 h2 ⊢
            by_cases hi : i < ps.length
            · obtain ⟨⟨ek, ⟨evk, evn, evt, evl⟩, es, ec, eps⟩, hm, hg, hg'⟩ := za0 hi
              have hc := ih _ hm (d := d - 1) (by omega) (by omega)
              cases hz : okE (d - 1) (.mk ek (.mk evk evn evt evl) es ec eps) <;> rw [hz] at hc
              · conv => whnf
                repeat' (first | (refine ZC hc ?_) | refine Za ?_ | refine Zm ?_ | refine Zo ?_ | refine Zp ?_ | refine Zr ?_) <;> try (conv => whnf)
                exact z7 (by rw [wo hH, yr]; exact List.all_eq_false.2 ⟨_, hm, by rw [hz]; simp⟩)
              · conv => whnf
                repeat' (first | (refine ZC hc ?_) | refine Za ?_ | refine Zm ?_ | refine Zo ?_ | refine Zp ?_) <;> try (conv => whnf)
                refine hK (i + 1) _ _ ⟨by omega, zdw h2 hg hz⟩ (by omega) ?_
                exact ZW
            · have hall : ztx (d - 1) ps = true := by rw [yr]; exact zbv fun j v hj => h2 j v (by omega)
              conv => whnf
              repeat' (first | refine Zb ?_ | refine Zr ?_) <;> try (conv => whnf)
              exact z7 (by rw [wo hH, hall])
          · exact ZW
    · have hs0 := hH.nm' kn
      have hc0 := hH.ky' (by unfold za2 at kn; omega)
      have k2 : ¬ k = 2 ∧ ¬ k = 3 ∧ ¬ k = 4 := by unfold za2 at kn; omega
      obtain ⟨k2, k3, k4⟩ := k2
      subst hs0 hc0
      refine ZX Tryz.func56 Tryz.ntmps56 ?_
      conv => whnf
      repeat' (first | (refine ZC (a1 _) ?_) | (refine ZC v4 ?_) | refine Zh ?_ | refine Zb ?_ | refine Zc ?_ | refine Zd ?_ | refine Ze ?_ | refine Zn ?_ | refine Zp ?_) <;> try (conv => whnf)
      refine LoopN.rule (α := Nat) (fun i => ⟨119, [(1, i64 d), (2, .ptr (.f 2) 0), (4, .sc (.bool false)), (9, i64 i)], [(2, .cells [i64 k, i64 vk, i64 vn, .sc (.string vt), .vec (Val.cvs vl), .sc (.string ⟨#[]⟩), .sc (.string ⟨#[]⟩), .vec (Exp.cvs ps)])]⟩)
        (fun _ => σ) (fun i => ps.length - i) (fun i => i ≤ ps.length ∧ ∀ j v, j < i → ps[j]? = some v → okE (d - 1) v = true) ?_ 0 ⟨by omega, by omega⟩ ?_
      · rintro i K ⟨h1, h2⟩ hK
        dsimp only at h1 h2 ⊢
        by_cases hi : i < ps.length
        · obtain ⟨⟨ek, ⟨evk, evn, evt, evl⟩, es, ec, eps⟩, hm, hg, hg'⟩ := za0 hi
          have hc := ih _ hm (d := d - 1) (by omega) (by omega)
          cases hz : okE (d - 1) (.mk ek (.mk evk evn evt evl) es ec eps) <;> rw [hz] at hc
          · conv => whnf
            repeat' (first | (refine ZC hc ?_) | refine Za ?_ | refine Zm ?_ | refine Zo ?_ | refine Zp ?_ | refine Zr ?_) <;> try (conv => whnf)
            exact z7 (by rw [wo hH, yr]; exact List.all_eq_false.2 ⟨_, hm, by rw [hz]; simp⟩)
          · conv => whnf
            repeat' (first | (refine ZC hc ?_) | refine Za ?_ | refine Zm ?_ | refine Zo ?_ | refine Zp ?_) <;> try (conv => whnf)
            refine hK (i + 1) _ _ ⟨by omega, zdw h2 hg hz⟩ (by omega) ?_
            exact ZW
        · have hall : ztx (d - 1) ps = true := by rw [yr]; exact zbv fun j v hj => h2 j v (by omega)
          conv => whnf
          repeat' (first | refine Zb ?_ | refine Zr ?_) <;> try (conv => whnf)
          exact z7 (by rw [wo hH, hall])
      · exact ZW
theorem znc {σ : Heap} {e : Exp} (he : ETame e) : CRun Tryz.prog 98 [e.cv] σ (· = .ret (.sc (.bool (okE 4 e))) σ) := by
  have c := ztg (σ := σ) he (d := 4) (by omega) (by omega)
  obtain ⟨k, ⟨vk, vn, vt, vl⟩, s, c', ps⟩ := e
  refine ZX Tryz.func98 Tryz.ntmps98 ?_
  conv => whnf
  repeat' (first | (refine ZC c ?_) | refine Zp ?_ | refine Zr ?_) <;> try (conv => whnf)
  all_goals rfl
theorem zld {σ : Heap} {e : Exp} (he : ETame e) : CRun Tryz.prog 19 [e.cv] σ (· = .ret (.sc (.bool (okE 4 e))) σ) := by
  have c := z5b (σ := σ) he (d := 4) (by omega) (by omega)
  obtain ⟨k, ⟨vk, vn, vt, vl⟩, s, c', ps⟩ := e
  refine ZX Tryz.func19 Tryz.ntmps19 ?_
  conv => whnf
  repeat' (first | (refine ZC c ?_) | refine Zp ?_ | refine Zr ?_) <;> try (conv => whnf)
  all_goals rfl
end Go.Proofs.YtlamgfimgadnmaaGreat
