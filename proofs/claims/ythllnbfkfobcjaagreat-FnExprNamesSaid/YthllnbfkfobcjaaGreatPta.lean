/-
  Contracts of the functions that the law reaches.
-/
import Derived.Test.YthllnbfkfobcjaaGreatPt
import Derived.Test.YthllnbfkfobcjaaGreatFwb
set_option linter.unusedVariables false
set_option linter.unusedSimpArgs false
namespace Go.Proofs.YthllnbfkfobcjaaGreat
open Go Go.CL
set_option maxRecDepth 10000
mutual
def sameV : Val → Val → Bool
  | .mk k n t l, .mk k' n' t' l' => decide (k = k' ∧ n = n' ∧ t = t') && sameL l l'
def sameL : List Val → List Val → Bool
  | [], [] => true
  | v :: r, w :: s => sameV v w && sameL r s
  | _, _ => false
end
mutual
theorem sameV_eq : ∀ (a b : Val), sameV a b = true → a = b
  | .mk k n t l, .mk k' n' t' l', h => by
    simp only [sameV, Bool.and_eq_true, decide_eq_true_eq] at h
    obtain ⟨⟨rfl, rfl, rfl⟩, h⟩ := h
    rw [sameL_eq l l' h]
theorem sameL_eq : ∀ (a b : List Val), sameL a b = true → a = b
  | [], [], _ => rfl
  | v :: r, w :: s, h => by
    simp only [sameL, Bool.and_eq_true] at h
    rw [sameV_eq v w h.1, sameL_eq r s h.2]
  | [], _ :: _, h => by simp [sameL] at h
  | _ :: _, [], h => by simp [sameL] at h
end
mutual
theorem sameV_refl : ∀ (a : Val), sameV a a = true
  | .mk k n t l => by simp only [sameV, sameL_refl l]; simp
theorem sameL_refl : ∀ (a : List Val), sameL a a = true
  | [] => rfl
  | v :: r => by simp only [sameL, sameV_refl v, sameL_refl r]; rfl
end
theorem sameL_len : ∀ {a b : List Val}, a.length ≠ b.length → sameL a b = false
  | [], [], h => absurd rfl h
  | v :: r, w :: s, h => by
    simp only [sameL]
    rw [sameL_len (a := r) (b := s) (by simpa using h), Bool.and_false]
  | [], _ :: _, _ => rfl
  | _ :: _, [], _ => rfl
theorem as_c {σ : Heap} {v : Val} (hv : Tame v) : ∀ {v' : Val}, Tame v' → CRun Tryz.prog 14 [v.cv, v'.cv] σ (· = .ret (.sc (.bool (sameV v v'))) σ) := by
  induction hv with
  | @mk k n t l hk hn ht hl h ih =>
    intro v' hv'
    obtain ⟨k', n', t', l'⟩ := v'
    obtain ⟨b1, b2, b3, b4, b5⟩ := hv'.inv
    have e3 := cvs_length l
    have e4 := cvs_length l'
    by_cases hk : k = k' ∧ n = n' ∧ t = t' ∧ l.length = l'.length
    case neg =>
      have o : sameV (.mk k n t l) (.mk k' n' t' l') = false := by
        simp only [sameV]
        by_cases h1 : k = k' ∧ n = n' ∧ t = t'
        · rw [sameL_len (fun e => hk ⟨h1.1, h1.2.1, h1.2.2, e⟩), Bool.and_false]
        · rw [decide_eq_false h1, Bool.false_and]
      refine crun_of (X := X) X_ok X_sat (body := bodyOf Tryz.f14) Tryz.func14 rfl (by kernel_rfl) (by kernel_rfl) ?_
      rw [Tryz.ntmps14]
      by_cases h1 : k = k'
      case neg =>
        conv => whnf
        repeat' (first | refine Fork.ny ?_ | refine finGo ?_) <;> try (conv => whnf)
        exact ansB o
      by_cases h2 : n = n'
      case neg =>
        conv => whnf
        repeat' (first | refine Fork.ny ?_ | refine Fork.nn ?_ | refine finGo ?_) <;> try (conv => whnf)
        exact ansB o
      by_cases h3 : t = t'
      case neg =>
        conv => whnf
        repeat' (first | refine Fork.ny ?_ | refine Fork.nn ?_ | refine finGo ?_) <;> try (conv => whnf)
        exact ansB o
      have h4 : l.length ≠ l'.length := fun e => hk ⟨h1, h2, h3, e⟩
      conv => whnf
      repeat' (first | refine Fork.ny ?_ | refine Fork.nn ?_ | refine finGo ?_) <;> try (conv => whnf)
      exact ansB o
    obtain ⟨h1, h2, h3, h4⟩ := hk
    have o : sameV (.mk k n t l) (.mk k' n' t' l') = sameL l l' := by simp only [sameV]; rw [decide_eq_true ⟨h1, h2, h3⟩, Bool.true_and]
    refine crun_of (X := X) X_ok X_sat (body := bodyOf Tryz.f14) Tryz.func14 rfl (by kernel_rfl) (by kernel_rfl) ?_
    rw [Tryz.ntmps14]
    conv => whnf
    repeat' (first | refine Fork.nn ?_) <;> try (conv => whnf)
    refine LoopN.rule (α := Nat) (fun i => ⟨53, [(2, .ptr (.f 2) 0), (3, .ptr (.f 3) 0), (5, i64 i)], [(2, .cells [i64 k, i64 n, .sc (.string t), .vec (Val.cvs l)]), (3, .cells [i64 k', i64 n', .sc (.string t'), .vec (Val.cvs l')])]⟩)
      (fun _ => σ) (fun i => l.length - i) (fun i => i ≤ l.length ∧ sameL l l' = sameL (l.drop i) (l'.drop i)) ?_ 0 ⟨Nat.zero_le _, rfl⟩ ?_
    · rintro i K ⟨g1, g3⟩ hK
      dsimp only at g1 g3 ⊢
      by_cases hi : i < l.length
      · obtain ⟨w, hm, hw, hg⟩ := cvs_at hi
        obtain ⟨w', hm', hw', hg'⟩ := cvs_at (l := l') (i := i) (by omega)
        have hc := ih w hm (b5 w' hm')
        have hK := hK (i + 1)
        rw [drop_get hw, drop_get hw'] at g3
        simp only [sameL] at g3
        cases hz : sameV w w' with
        | true =>
          rw [hz] at hc
          rw [hz, Bool.true_and] at g3
          obtain ⟨wk, wn, wt, wl⟩ := w
          obtain ⟨wk', wn', wt', wl'⟩ := w'
          conv => whnf
          repeat' (first | (refine CallN.one hc ?_) | refine OrdN.one ?_ | refine Fork.yp ?_ | refine Need.go ?_ | refine Need.draw ?_ | refine ElemN.go ?_ | refine ExtN.ext ?_) <;> try (conv => whnf)
          refine hK _ _ ⟨by omega, g3⟩ (by omega) ?_
          (refine ⟨rfl, ?_, ?_, Sub.refl _⟩ <;> repeat' (first | exact EnvLe.nil | exact LocsLe.nil | refine EnvLe.cons _ _ _ ?_ ?_ | refine LocsLe.cons _ _ _ ?_ ?_ | exact CVle.same _ rfl | exact CVle.vec _ _ | exact CVle.nil | exact CVle.tok _ _ _ rfl rfl | exact ObLe.tok _ _ rfl | exact CVles.nil | refine CVles.cons ?_ ?_ | exact ObLe.same _ rfl rfl | refine ObLe.cells rfl ?_))
        | false =>
          rw [hz] at hc
          rw [hz, Bool.false_and] at g3
          obtain ⟨wk, wn, wt, wl⟩ := w
          obtain ⟨wk', wn', wt', wl'⟩ := w'
          conv => whnf
          repeat' (first | (refine CallN.one hc ?_) | refine OrdN.one ?_ | refine Fork.yp ?_ | refine Need.go ?_ | refine Need.draw ?_ | refine ElemN.go ?_ | refine ExtN.ext ?_ | refine finGo ?_) <;> try (conv => whnf)
          exact ansB (o.trans g3)
      · rw [List.drop_eq_nil_of_le (by omega), List.drop_eq_nil_of_le (by omega)] at g3
        conv => whnf
        repeat' (first | refine Fork.np ?_ | refine finGo ?_) <;> try (conv => whnf)
        exact ansB (o.trans g3)
    · (refine ⟨rfl, ?_, ?_, Sub.refl _⟩ <;> repeat' (first | exact EnvLe.nil | exact LocsLe.nil | refine EnvLe.cons _ _ _ ?_ ?_ | refine LocsLe.cons _ _ _ ?_ ?_ | exact CVle.same _ rfl | exact CVle.vec _ _ | exact CVle.nil | exact CVle.tok _ _ _ rfl rfl | exact ObLe.tok _ _ rfl | exact CVles.nil | refine CVles.cons ?_ ?_ | exact ObLe.same _ rfl rfl | refine ObLe.cells rfl ?_))
theorem as_v {σ : Heap} {v v' : Val} {b : Bool} (hb : sameV v v' = b) (hv : Tame v) (hv' : Tame v') : CRun Tryz.prog 14 [v.cv, v'.cv] σ (· = .ret (.sc (.bool b)) σ) := hb ▸ as_c hv hv'
theorem bl_eq : ∀ (x y : List UInt8), Op.bytesLess x y = decide (x < y)
  | [], [] => by simp [Op.bytesLess]
  | [], _ :: _ => by simp [Op.bytesLess]
  | _ :: _, [] => by simp [Op.bytesLess]
  | a :: r, b :: s => by
    rw [Op.bytesLess, bl_eq r s]
    simp only [List.cons_lt_cons_iff]
    by_cases h1 : a < b <;> by_cases h2 : a = b <;> by_cases h3 : r < s <;> simp [h1, h2, h3]
theorem toList_inj {s t : ByteArray} (h : s.toList = t.toList) : s = t := by
  have e := bytes_toList_eq s t
  rw [h] at e
  simpa using e.symm
theorem texts_lt {s t : ByteArray} : textsF s t = -1 ↔ s.toList < t.toList := by
  unfold textsF
  rw [bl_eq]
  by_cases h : s.toList < t.toList
  · simp [h]
  · rw [if_neg (by simpa using h)]
    constructor
    · intro e; split at e <;> simp at e
    · intro e; exact absurd e h
theorem texts_zero {s t : ByteArray} : textsF s t = 0 ↔ s = t := by
  unfold textsF
  rw [bl_eq]
  by_cases h : s.toList < t.toList
  · rw [if_pos (by simpa using h)]
    constructor
    · intro e; simp at e
    · intro e; subst e; exact absurd h (List.lt_irrefl _)
  · rw [if_neg (by simpa using h)]
    by_cases e : s = t
    · simp [e]
    · simp [h, e]
theorem texts_gt {s t : ByteArray} : textsF s t = 1 ↔ t.toList < s.toList := by
  unfold textsF
  rw [bl_eq]
  by_cases h : s.toList < t.toList
  · rw [if_pos (by simpa using h)]
    constructor
    · intro e; simp at e
    · intro e; exact absurd e (List.lt_asymm h)
  · rw [if_neg (by simpa using h)]
    by_cases e : s = t
    · subst e
      simp [List.lt_irrefl]
    · have : t.toList < s.toList := by
        rcases List.le_total s.toList t.toList with h1 | h1
        · exact absurd (List.le_antisymm h1 (List.not_lt.1 h)) (fun h => e (toList_inj h))
        · refine (Decidable.byContradiction fun h2 => e (toList_inj (List.le_antisymm (List.not_lt.1 h2) h1)))
      simp [h, e, this]
theorem texts_all (s t : ByteArray) : textsF s t = -1 ∨ textsF s t = 0 ∨ textsF s t = 1 := by
  unfold textsF
  split
  · exact .inl rfl
  · split
    · exact .inr (.inr rfl)
    · exact .inr (.inl rfl)
theorem texts_neg (s t : ByteArray) : textsF t s = - textsF s t := by
  rcases texts_all s t with h | h | h
  · rw [h]; exact texts_gt.2 (texts_lt.1 h)
  · rw [h]; exact texts_zero.2 (texts_zero.1 h).symm
  · rw [h]; exact texts_lt.2 (texts_gt.1 h)
theorem texts_trans {s t u : ByteArray} (h : textsF s t = -1) (k : textsF t u = -1) : textsF s u = -1 := texts_lt.2 (List.lt_trans (texts_lt.1 h) (texts_lt.1 k))
theorem ints_all (a b : Int) : (a < b ∧ intsF a b = -1) ∨ (a = b ∧ intsF a b = 0) ∨ (b < a ∧ intsF a b = 1) := by
  unfold intsF
  by_cases h : a < b
  · rw [if_pos h]; omega
  · rw [if_neg h]
    by_cases h2 : b < a
    · rw [if_pos h2]; omega
    · rw [if_neg h2]; omega
theorem ints_neg (a b : Int) : intsF b a = - intsF a b := by
  rcases ints_all a b with h | h | h <;> rcases ints_all b a with k | k | k <;> omega
mutual
theorem ord_all : ∀ (a b : Val), ordV a b = -1 ∨ ordV a b = 0 ∨ ordV a b = 1
  | .mk k n t l, .mk k' n' t' l' => by
    simp only [ordV]
    split
    · rcases ints_all (rankF k) (rankF k') with h | h | h <;> omega
    · split
      · exact texts_all t t'
      · split
        · exact ordL_all l l'
        · rcases ints_all n n' with h | h | h <;> omega
theorem ordL_all : ∀ (l m : List Val), ordL l m = -1 ∨ ordL l m = 0 ∨ ordL l m = 1
  | [], m => by simp only [ordL]; rcases ints_all 0 m.length with h | h | h <;> omega
  | v :: r, [] => by simp only [ordL]; rcases ints_all (r.length + 1) 0 with h | h | h <;> omega
  | v :: r, w :: s => by
    simp only [ordL]
    split
    · exact ord_all v w
    · exact ordL_all r s
end
mutual
theorem ord_neg : ∀ (a b : Val), ordV b a = - ordV a b
  | .mk k n t l, .mk k' n' t' l' => by
    by_cases h : k = k'
    · subst h
      simp only [ordV, ne_eq, not_true_eq_false, if_false]
      by_cases h3 : k = 3
      · rw [if_pos h3, if_pos h3]; exact texts_neg t t'
      · rw [if_neg h3, if_neg h3]
        by_cases h4 : k = 4
        · rw [if_pos h4, if_pos h4]; exact ordL_neg l l'
        · rw [if_neg h4, if_neg h4]; exact ints_neg n n'
    · simp only [ordV]
      rw [if_pos (fun e => h e.symm), if_pos h]
      exact ints_neg _ _
theorem ordL_neg : ∀ (l m : List Val), ordL m l = - ordL l m
  | [], [] => rfl
  | [], w :: s => by simp only [ordL]; rw [ints_neg]; rfl
  | v :: r, [] => by simp only [ordL]; rw [ints_neg]; rfl
  | v :: r, w :: s => by
    simp only [ordL]
    rw [ord_neg v w]
    by_cases h : ordV v w = 0
    · rw [h]; simpa using ordL_neg r s
    · rw [if_pos h, if_pos (by omega)]
end
theorem okL_of {d : Int} {l : List Val} (h : ∀ v ∈ l, okV d v = true) : ∀ {v : Val} {r : List Val}, l = v :: r → okV d v = true ∧ ∀ v ∈ r, okV d v = true := fun e => by
  subst e
  exact ⟨h _ (by simp), fun v hv => h v (by simp [hv])⟩
theorem rankF_eq {k k' : Int} {d d' n n' : Int} {t t' : ByteArray} {l l' : List Val} (ha : okV d (.mk k n t l) = true) (hb : okV d' (.mk k' n' t' l') = true) (h : rankF k = rankF k') : k = k' := by
  have := okV_kind ha
  have := okV_kind hb
  exact rankF_inj (by omega) (by omega) h
theorem okV_num {k : Int} {d n : Int} {t : ByteArray} {l : List Val} (ha : okV d (.mk k n t l) = true) (h3 : k ≠ 3) (h4 : k ≠ 4) : t = ⟨#[]⟩ ∧ l = [] := by
  simp only [okV, Bool.and_eq_true] at ha
  obtain ⟨_, h⟩ := ha
  by_cases h0 : k = 0
  · rw [if_pos h0] at h; simp only [Bool.and_eq_true, decide_eq_true_eq] at h; exact ⟨h.1.2, List.length_eq_zero_iff.1 h.2⟩
  rw [if_neg h0] at h
  by_cases h1 : k = 1
  · rw [if_pos h1] at h; simp only [Bool.and_eq_true, decide_eq_true_eq] at h; exact ⟨h.1.2, List.length_eq_zero_iff.1 h.2⟩
  rw [if_neg h1] at h
  by_cases h2 : k = 2
  · rw [if_pos h2] at h; simp only [Bool.and_eq_true, decide_eq_true_eq] at h; exact ⟨h.1.2, List.length_eq_zero_iff.1 h.2⟩
  rw [if_neg h2, if_neg h3] at h
  by_cases h5 : k = 5 ∨ k = 6
  · rw [if_pos h5] at h; simp only [Bool.and_eq_true, decide_eq_true_eq] at h; exact ⟨h.1.2, List.length_eq_zero_iff.1 h.2⟩
  · rw [if_neg h5, if_neg h4] at h; cases h
theorem okV_text {d n : Int} {t : ByteArray} {l : List Val} (ha : okV d (.mk 3 n t l) = true) : n = 0 ∧ l = [] := by
  have e : okV d (.mk 3 n t l) = (decide (1 ≤ d) && (decide (n = 0) && textOk t && decide (l.length = 0))) := by simp only [okV]; rfl
  rw [e] at ha
  simp only [Bool.and_eq_true, decide_eq_true_eq] at ha
  exact ⟨ha.2.1.1, List.length_eq_zero_iff.1 ha.2.2⟩
theorem okV_list0 {d n : Int} {t : ByteArray} {l : List Val} (ha : okV d (.mk 4 n t l) = true) : n = 0 ∧ t = ⟨#[]⟩ := by
  have e : okV d (.mk 4 n t l) = (decide (1 ≤ d) && (decide (n = 0) && decide (t = ⟨#[]⟩) && decide (l.length ≤ 6) && okL (d - 1) l)) := by simp only [okV]; rfl
  rw [e] at ha
  simp only [Bool.and_eq_true, decide_eq_true_eq] at ha
  exact ⟨ha.2.1.1.1, ha.2.1.1.2⟩
mutual
theorem ord_zero : ∀ (a b : Val) {d d' : Int}, okV d a = true → okV d' b = true → ordV a b = 0 → a = b
  | .mk k n t l, .mk k' n' t' l', d, d', ha, hb, h => by
    simp only [ordV] at h
    by_cases e : k = k'
    · subst e
      rw [if_neg (by simp)] at h
      by_cases h3 : k = 3
      · subst h3
        rw [if_pos rfl] at h
        have := texts_zero.1 h
        obtain ⟨rfl, rfl⟩ := okV_text ha
        obtain ⟨rfl, rfl⟩ := okV_text hb
        rw [this]
      · rw [if_neg h3] at h
        by_cases h4 : k = 4
        · subst h4
          rw [if_pos rfl] at h
          have := ordL_zero l l' (okV_list ha) (okV_list hb) h
          obtain ⟨rfl, rfl⟩ := okV_list0 ha
          obtain ⟨rfl, rfl⟩ := okV_list0 hb
          rw [this]
        · rw [if_neg h4] at h
          obtain ⟨rfl, rfl⟩ := okV_num ha h3 h4
          obtain ⟨rfl, rfl⟩ := okV_num hb h3 h4
          rcases ints_all n n' with h' | h' | h'
          · omega
          · rw [h'.1]
          · omega
    · rw [if_pos e] at h
      refine absurd (rankF_eq ha hb ?_) e
      rcases ints_all (rankF k) (rankF k') with h' | h' | h' <;> omega
theorem ordL_zero : ∀ (l m : List Val) {d d' : Int}, (∀ v ∈ l, okV d v = true) → (∀ v ∈ m, okV d' v = true) → ordL l m = 0 → l = m
  | [], [], _, _, _, _, _ => rfl
  | [], w :: s, d, d', _, _, h => by
    simp only [ordL] at h
    rcases ints_all 0 ((w :: s).length : Int) with h' | h' | h' <;> simp only [List.length_cons] at h h' <;> omega
  | v :: r, [], d, d', _, _, h => by
    simp only [ordL] at h
    rcases ints_all ((r.length : Int) + 1) 0 with h' | h' | h' <;> omega
  | v :: r, w :: s, d, d', ha, hb, h => by
    simp only [ordL] at h
    by_cases e : ordV v w = 0
    · rw [if_neg (by simpa using e)] at h
      rw [ord_zero v w (ha v (by simp)) (hb w (by simp)) e, ordL_zero r s (fun x hx => ha x (by simp [hx])) (fun x hx => hb x (by simp [hx])) h]
    · rw [if_pos e] at h; exact absurd h e
end
mutual
theorem ord_refl : ∀ (a : Val), ordV a a = 0
  | .mk k n t l => by
    simp only [ordV]
    rw [if_neg (by simp)]
    split
    · exact texts_zero.2 rfl
    · split
      · exact ordL_refl l
      · rcases ints_all n n with h | h | h <;> omega
theorem ordL_refl : ∀ (l : List Val), ordL l l = 0
  | [] => rfl
  | v :: r => by simp only [ordL]; rw [if_neg (by simp [ord_refl v])]; exact ordL_refl r
end
mutual
theorem ord_trans : ∀ (a b c : Val) {d d' d'' : Int}, okV d a = true → okV d' b = true → okV d'' c = true → ordV a b ≤ 0 → ordV b c ≤ 0 → ordV a c ≤ 0
  | .mk k n t l, .mk k' n' t' l', .mk k'' n'' t'' l'', d, d', d'', ha, hb, hc, h, g => by
    simp only [ordV] at h g ⊢
    by_cases e : k = k'
    · subst e
      rw [if_neg (by simp)] at h
      by_cases e2 : k = k''
      · subst e2
        rw [if_neg (by simp)] at g ⊢
        by_cases h3 : k = 3
        · rw [if_pos h3] at h g ⊢
          rcases texts_all t t' with h1 | h1 | h1
          · rcases texts_all t' t'' with g1 | g1 | g1
            · rw [texts_trans h1 g1]; omega
            · rw [← texts_zero.1 g1]; omega
            · omega
          · rw [texts_zero.1 h1]; omega
          · omega
        · rw [if_neg h3] at h g ⊢
          by_cases h4 : k = 4
          · subst h4
            rw [if_pos rfl] at h g ⊢
            exact ordL_trans l l' l'' (okV_list ha) (okV_list hb) (okV_list hc) h g
          · rw [if_neg h4] at h g ⊢
            rcases ints_all n n' with a1 | a1 | a1 <;> rcases ints_all n' n'' with a2 | a2 | a2 <;> rcases ints_all n n'' with a3 | a3 | a3 <;> omega
      · rw [if_pos e2] at g ⊢; exact g
    · rw [if_pos e] at h
      by_cases e2 : k' = k''
      · subst e2; rw [if_pos e]; exact h
      · rw [if_pos e2] at g
        by_cases e3 : k = k''
        · subst e3
          have := rankF_eq ha hb
          rcases ints_all (rankF k) (rankF k') with a1 | a1 | a1 <;> rcases ints_all (rankF k') (rankF k) with a2 | a2 | a2 <;> first | omega | exact absurd (this a1.1) e
        · rw [if_pos e3]
          rcases ints_all (rankF k) (rankF k') with a1 | a1 | a1 <;> rcases ints_all (rankF k') (rankF k'') with a2 | a2 | a2 <;> rcases ints_all (rankF k) (rankF k'') with a3 | a3 | a3 <;> omega
theorem ordL_trans : ∀ (l m r : List Val) {d d' d'' : Int}, (∀ v ∈ l, okV d v = true) → (∀ v ∈ m, okV d' v = true) → (∀ v ∈ r, okV d'' v = true) → ordL l m ≤ 0 → ordL m r ≤ 0 → ordL l r ≤ 0
  | [], m, r, _, _, _, _, _, _, _, _ => by simp only [ordL]; rcases ints_all 0 (r.length : Int) with h | h | h <;> omega
  | v :: l, [], r, _, _, _, _, _, _, h, _ => by simp only [ordL] at h; rcases ints_all ((l.length : Int) + 1) 0 with h' | h' | h' <;> omega
  | v :: l, w :: m, [], _, _, _, _, _, _, _, h => by simp only [ordL] at h; rcases ints_all ((m.length : Int) + 1) 0 with h' | h' | h' <;> omega
  | v :: l, w :: m, x :: r, d, d', d'', ha, hb, hc, h, g => by
    simp only [ordL] at h g ⊢
    have oa := ha v (by simp)
    have ob := hb w (by simp)
    have oc := hc x (by simp)
    have ih := ordL_trans l m r (fun y hy => ha y (by simp [hy])) (fun y hy => hb y (by simp [hy])) (fun y hy => hc y (by simp [hy]))
    by_cases e1 : ordV v w = 0
    · rw [if_neg (by simpa using e1)] at h
      have := ord_zero v w oa ob e1
      subst this
      by_cases e2 : ordV v x = 0
      · rw [if_neg (by simpa using e2)] at g ⊢
        exact ih h g
      · rw [if_pos e2] at g ⊢; exact g
    · rw [if_pos e1] at h
      by_cases e2 : ordV w x = 0
      · have := ord_zero w x ob oc e2
        subst this
        rw [if_pos e1]; exact h
      · rw [if_pos e2] at g
        have t := ord_trans v w x oa ob oc h g
        have : ordV v x ≠ 0 := fun e => by
          have := ord_zero v x oa oc e
          subst this
          have := ord_neg v w
          omega
        rw [if_pos this]; exact t
end
def letterOk (b : Int) : Bool := decide (97 ≤ b ∧ b ≤ 122) || decide (65 ≤ b ∧ b ≤ 90)
def figOk (b : Int) : Bool := decide (48 ≤ b ∧ b ≤ 57)
theorem letter_c {σ : Heap} {b : Int} : CRun Tryz.prog 66 [u8 b] σ (· = .ret (.sc (.bool (letterOk b))) σ) := by
  refine crun_of (X := X) X_ok X_sat (body := bodyOf Tryz.f66) Tryz.func66 rfl (by kernel_rfl) (by kernel_rfl) ?_
  rw [Tryz.ntmps66]
  conv => whnf
  repeat' (first | refine Fork.yp ?_ | refine Fork.np ?_ | refine Fork.dp (fun h => ?_) (fun h => ?_) | refine finGo ?_) <;> try (conv => whnf)
  all_goals exact ansB (by simp only [letterOk, Bool.or_eq_true, Bool.or_eq_false_iff, decide_eq_true_eq, decide_eq_false_iff_not]; omega)
theorem fig_c {σ : Heap} {b : Int} : CRun Tryz.prog 67 [u8 b] σ (· = .ret (.sc (.bool (figOk b))) σ) := by
  refine crun_of (X := X) X_ok X_sat (body := bodyOf Tryz.f67) Tryz.func67 rfl (by kernel_rfl) (by kernel_rfl) ?_
  rw [Tryz.ntmps67]
  conv => whnf
  repeat' (first | refine Fork.dp (fun h => ?_) (fun h => ?_) | refine finGo ?_) <;> try (conv => whnf)
  all_goals exact ansB (by simp only [figOk, decide_eq_true_eq, decide_eq_false_iff_not]; omega)
theorem l2Letter_c {σ : Heap} {b : Int} : CRun Tryz.prog 171 [u8 b] σ (· = .ret (.sc (.bool (letterOk b))) σ) := by
  refine crun_of (X := X) X_ok X_sat (body := bodyOf Tryz.f171) Tryz.func171 rfl (by kernel_rfl) (by kernel_rfl) ?_
  rw [Tryz.ntmps171]
  conv => whnf
  repeat' (first | refine Fork.yp ?_ | refine Fork.np ?_ | refine Fork.dp (fun h => ?_) (fun h => ?_) | refine finGo ?_) <;> try (conv => whnf)
  all_goals exact ansB (by simp only [letterOk, Bool.or_eq_true, Bool.or_eq_false_iff, decide_eq_true_eq, decide_eq_false_iff_not]; omega)
def keptL : List ByteArray := [⟨#[77, 65, 84, 67, 72]⟩, ⟨#[79, 80, 84, 73, 79, 78, 65, 76]⟩, ⟨#[87, 72, 69, 82, 69]⟩, ⟨#[85, 78, 87, 73, 78, 68]⟩, ⟨#[87, 73, 84, 72]⟩, ⟨#[82, 69, 84, 85, 82, 78]⟩, ⟨#[67, 82, 69, 65, 84, 69]⟩, ⟨#[83, 69, 84]⟩, ⟨#[68, 69, 76, 69, 84, 69]⟩, ⟨#[68, 69, 84, 65, 67, 72]⟩, ⟨#[65, 83]⟩, ⟨#[65, 78, 68]⟩, ⟨#[79, 82]⟩, ⟨#[78, 79, 84]⟩, ⟨#[73, 83]⟩, ⟨#[78, 85, 76, 76]⟩, ⟨#[73, 78]⟩, ⟨#[68, 73, 83, 84, 73, 78, 67, 84]⟩, ⟨#[79, 82, 68, 69, 82]⟩, ⟨#[66, 89]⟩, ⟨#[68, 69, 83, 67]⟩, ⟨#[83, 75, 73, 80]⟩, ⟨#[76, 73, 77, 73, 84]⟩, ⟨#[110, 117, 108, 108]⟩, ⟨#[116, 114, 117, 101]⟩, ⟨#[102, 97, 108, 115, 101]⟩, ⟨#[99, 111, 117, 110, 116]⟩, ⟨#[115, 117, 109]⟩, ⟨#[115, 105, 122, 101]⟩]
def kept (t : ByteArray) : Bool := keptL.any fun s => decide (t = s)
def bAt (t : ByteArray) (i : Nat) : Int := (t.data.getD i 0).toNat
def nameCh (t : ByteArray) (i : Nat) : Bool := letterOk (bAt t i) || (decide (i ≠ 0) && figOk (bAt t i))
def nameOk (t : ByteArray) : Bool := decide (1 ≤ t.size ∧ t.size ≤ 8) && ((List.range t.size).all (nameCh t) && !kept t)
theorem nameOk_size {t : ByteArray} (h : ¬ (1 ≤ t.size ∧ t.size ≤ 8)) : nameOk t = false := by unfold nameOk; rw [decide_eq_false h]; rfl
theorem nameOk_no {t : ByteArray} {i : Nat} (hi : i < t.size) (h : nameCh t i = false) : nameOk t = false := by
  unfold nameOk
  have : (List.range t.size).all (nameCh t) = false := List.all_eq_false.2 ⟨i, List.mem_range.2 hi, by simp [h]⟩
  rw [this]; simp
theorem nameOk_kept {t : ByteArray} (h : kept t = true) : nameOk t = false := by unfold nameOk; rw [h]; simp
theorem nameOk_yes {t : ByteArray} (hs : 1 ≤ t.size ∧ t.size ≤ 8) (h : ∀ i, i < t.size → nameCh t i = true) (hk : kept t = false) : nameOk t = true := by
  unfold nameOk
  rw [decide_eq_true hs, hk, List.all_eq_true.2 fun i hi => h i (List.mem_range.1 hi)]; rfl
theorem split {P : Program} {f : FuncId} {args : List CV} {σ τ : Heap} {b : Bool} (h : CRun P f args σ (· = .ret (.sc (.bool b)) τ)) :
    CRun P f args σ (fun out => (b = true ∧ out = .ret (.sc (.bool true)) τ) ∨ (b = false ∧ out = .ret (.sc (.bool false)) τ)) :=
  h.mono fun out e => by subst e; cases b; exact .inr ⟨rfl, rfl⟩; exact .inl ⟨rfl, rfl⟩
theorem empty_of {t : ByteArray} (h : t.size = 0) : t = ⟨#[]⟩ := by
  obtain ⟨a⟩ := t
  have : a = #[] := Array.eq_empty_of_size_eq_zero h
  rw [this]
theorem stepAll {p : Nat → Prop} {i : Nat} (h : ∀ j, j < i → p j) (hi : p i) : ∀ j, j < i + 1 → p j := fun j hj => by
  by_cases e : j = i
  · rw [e]; exact hi
  · exact h j (by omega)
theorem nameCh0 {t : ByteArray} (h : letterOk ((t.data.getD (Int.toNat 0) 0).toNat) = true) : nameCh t 0 = true := by
  have h' : letterOk ((t.data.getD 0 0).toNat) = true := h
  show (letterOk ((t.data.getD 0 0).toNat) || _) = true
  rw [h']; rfl
theorem nameOk_c {σ : Heap} {t : ByteArray} (ht : t.size ≤ 1000000000) : CRun Tryz.prog 30 [.sc (.string t)] σ (· = .ret (.sc (.bool (nameOk t))) σ) := by
  have cl := fun b => split (@letter_c σ b)
  have cf := fun b => split (@fig_c σ b)
  by_cases hz : t.size = 0
  · have e := empty_of hz
    have e2 : nameOk t = false := nameOk_size (by omega)
    refine crun_of (X := X) X_ok X_sat (body := bodyOf Tryz.f30) Tryz.func30 rfl (by kernel_rfl) (by kernel_rfl) ?_
    rw [Tryz.ntmps30]
    conv => whnf
    repeat' (first | refine Fork.yp ?_ | refine finGo ?_) <;> try (conv => whnf)
    all_goals first | exact ansB e2 | exact (‹¬ t = _› e).elim
  refine crun_of (X := X) X_ok X_sat (body := bodyOf Tryz.f30) Tryz.func30 rfl (by kernel_rfl) (by kernel_rfl) ?_
  rw [Tryz.ntmps30]
  by_cases hs : 1 ≤ t.size ∧ t.size ≤ 8
  · conv => whnf
    repeat' (first | (refine CallN.many (cl _) ?_; rintro _ (⟨hl, rfl⟩ | ⟨hl, rfl⟩)) | refine Fork.np ?_ | refine Fork.dp (fun h => ?_) (fun h => ?_) | refine Need.go ?_ | refine ExtN.ext ?_ | refine finGo ?_) <;> try (conv => whnf)
    · exact (hz (by rw [h]; rfl)).elim
    · refine LoopN.rule (α := Nat) (fun i => ⟨66, [(0, .sc (.string t)), (2, .sc (.bool false)), (3, i64 i)], []⟩)
        (fun _ => σ) (fun i => t.size - i) (fun i => 1 ≤ i ∧ i ≤ t.size ∧ ∀ j, j < i → nameCh t j = true) ?_ 1 ⟨by omega, by omega, stepAll (fun j hj => by omega) (nameCh0 hl)⟩ ?_
      · rintro i K ⟨h0, h1, h2⟩ hK
        dsimp only at h1 h2 ⊢
        by_cases hi : i < t.size
        · have hb : nameCh t i = (letterOk ((t.data.getD (i : Int).toNat 0).toNat) || (decide (i ≠ 0) && figOk ((t.data.getD (i : Int).toNat 0).toNat))) := rfl
          conv => whnf
          repeat' (first | (refine CallN.many (cl _) ?_; rintro _ (⟨hl, rfl⟩ | ⟨hl, rfl⟩)) | (refine CallN.many (cf _) ?_; rintro _ (⟨hf, rfl⟩ | ⟨hf, rfl⟩)) | refine Fork.yp ?_ | refine Need.go ?_ | refine ExtN.ext ?_ | refine finGo ?_) <;> try (conv => whnf)
          all_goals first
            | (refine hK (i + 1) _ _ ⟨by omega, by omega, stepAll h2 (by rw [hb, hl]; rfl)⟩ (by omega) ?_; (refine ⟨rfl, ?_, ?_, Sub.refl _⟩ <;> repeat' (first | exact EnvLe.nil | exact LocsLe.nil | refine EnvLe.cons _ _ _ ?_ ?_ | refine LocsLe.cons _ _ _ ?_ ?_ | exact CVle.same _ rfl | exact CVle.vec _ _ | exact CVle.nil | exact CVle.tok _ _ _ rfl rfl | exact ObLe.tok _ _ rfl | exact CVles.nil | refine CVles.cons ?_ ?_ | exact ObLe.same _ rfl rfl | refine ObLe.cells rfl ?_)))
            | (refine hK (i + 1) _ _ ⟨by omega, by omega, stepAll h2 (by rw [hb, hf, decide_eq_true (show i ≠ 0 by omega)]; simp)⟩ (by omega) ?_; (refine ⟨rfl, ?_, ?_, Sub.refl _⟩ <;> repeat' (first | exact EnvLe.nil | exact LocsLe.nil | refine EnvLe.cons _ _ _ ?_ ?_ | refine LocsLe.cons _ _ _ ?_ ?_ | exact CVle.same _ rfl | exact CVle.vec _ _ | exact CVle.nil | exact CVle.tok _ _ _ rfl rfl | exact ObLe.tok _ _ rfl | exact CVles.nil | refine CVles.cons ?_ ?_ | exact ObLe.same _ rfl rfl | refine ObLe.cells rfl ?_)))
            | (exact ansB (nameOk_no hi (by rw [hb, hl, hf]; simp)))
        · have hall : ∀ i, i < t.size → nameCh t i = true := fun j hj => h2 j (by omega)
          conv => whnf
          repeat' (first | refine Fork.np ?_ | refine Fork.dp (fun h => ?_) (fun h => ?_) | refine finGo ?_) <;> try (conv => whnf)
          all_goals first
            | exact ansB (nameOk_kept (by rw [‹t = _›]; rfl))
            | exact ansB (nameOk_yes hs hall (by simp only [kept, keptL, List.any_cons, List.any_nil, decide_false, Bool.or_false, *]))
      · (refine ⟨rfl, ?_, ?_, Sub.refl _⟩ <;> repeat' (first | exact EnvLe.nil | exact LocsLe.nil | refine EnvLe.cons _ _ _ ?_ ?_ | refine LocsLe.cons _ _ _ ?_ ?_ | exact CVle.same _ rfl | exact CVle.vec _ _ | exact CVle.nil | exact CVle.tok _ _ _ rfl rfl | exact ObLe.tok _ _ rfl | exact CVles.nil | refine CVles.cons ?_ ?_ | exact ObLe.same _ rfl rfl | refine ObLe.cells rfl ?_))
    · exact ansB (nameOk_no (i := 0) (by omega) (by unfold nameCh bAt; simpa using hl))
  · conv => whnf
    repeat' (first | refine Fork.yp ?_ | refine Fork.dp (fun h => ?_) (fun h => ?_) | refine finGo ?_) <;> try (conv => whnf)
    all_goals exact ansB (nameOk_size hs)
def keptC : List CV := keptL.map fun s => .sc (.string s)
theorem keptC_at {i : Nat} (hi : i < 29) : ∃ s, keptC[i]? = some (.sc (.string s)) ∧ keptL[i]? = some s := by
  refine ⟨keptL[i]'hi, ?_, ?_⟩
  · unfold keptC; rw [List.getElem?_map, List.getElem?_eq_getElem (show i < keptL.length from hi)]; rfl
  · exact List.getElem?_eq_getElem _
theorem kept_c {σ : Heap} {t : ByteArray} : CRun Tryz.prog 172 [.sc (.string t)] σ (· = .ret (.sc (.bool (kept t))) σ) := by
  refine crun_of (X := X) X_ok X_sat (body := bodyOf Tryz.f172) Tryz.func172 rfl (by kernel_rfl) (by kernel_rfl) ?_
  rw [Tryz.ntmps172]
  conv => whnf
  repeat' (first | refine OrdN.one ?_ | refine Fork.yp ?_ | refine Fork.np ?_ | refine Fork.ny ?_ | refine Fork.nn ?_ | refine Fork.yb ?_ | refine Fork.nb ?_ | refine Fork.dp (fun h => ?_) (fun h => ?_) | refine Fork.dn (fun h => ?_) (fun h => ?_) | (refine Fork.mk (fun h => ?_) (fun h => ?_) <;> simp only [decide_eq_true_eq, decide_eq_false_iff_not, Bool.not_eq_true', Bool.not_eq_false', Bool.or_eq_true, Bool.or_eq_false_iff] at h) | refine GetN.go ?_ | refine Need.ap1 ?_ | refine Need.ap0 ?_ | refine Need.go ?_ | refine Need.draw ?_ | refine ElemN.go ?_ | refine ExtN.ext ?_ | refine ExtN.wr ?_ | refine AllocN.go (fun l hl => ?_) | refine finGo ?_) <;> try (conv => whnf)
  refine LoopN.rule (α := Nat) (fun i => ⟨18, [(0, .sc (.string t)), (2, .sc (.bool false)), (3, .vec keptC), (4, i64 i)], []⟩)
    (fun _ => σ) (fun i => 29 - i) (fun i => i ≤ 29 ∧ ∀ j, j < i → ∀ s, keptL[j]? = some s → ¬ s = t) ?_ 0 ⟨by omega, by omega⟩ ?_
  · rintro i K ⟨h1, h2⟩ hK
    dsimp only at h1 h2 ⊢
    have hlen : keptC.length = 29 := rfl
    by_cases hi : i < 29
    · obtain ⟨s, hs, hs'⟩ := keptC_at hi
      conv => whnf
      repeat' (first | refine Fork.yp ?_ | refine Fork.dp (fun h => ?_) (fun h => ?_) | refine Need.go ?_ | refine ElemN.go ?_ | refine finGo ?_) <;> try (conv => whnf)
      all_goals first
        | (refine hK (i + 1) _ _ ⟨by omega, stepAll h2 (fun s' e => by rw [hs'] at e; cases e; assumption)⟩ (by omega) ?_; (refine ⟨rfl, ?_, ?_, Sub.refl _⟩ <;> repeat' (first | exact EnvLe.nil | exact LocsLe.nil | refine EnvLe.cons _ _ _ ?_ ?_ | refine LocsLe.cons _ _ _ ?_ ?_ | exact CVle.same _ rfl | exact CVle.vec _ _ | exact CVle.nil | exact CVle.tok _ _ _ rfl rfl | exact ObLe.tok _ _ rfl | exact CVles.nil | refine CVles.cons ?_ ?_ | exact ObLe.same _ rfl rfl | refine ObLe.cells rfl ?_)))
        | (refine ansB ?_; unfold kept; exact List.any_eq_true.2 ⟨s, List.mem_of_getElem? hs', decide_eq_true (Eq.symm ‹s = t›)⟩)
    · have hno : kept t = false := by
        refine List.any_eq_false.2 fun s hs => ?_
        obtain ⟨j, hj, e⟩ := List.getElem_of_mem hs
        have := h2 j (by have : keptL.length = 29 := rfl; omega) s (by rw [← e]; exact List.getElem?_eq_getElem hj)
        simpa using fun e => this e.symm
      conv => whnf
      repeat' (first | refine Fork.np ?_ | refine finGo ?_) <;> try (conv => whnf)
      exact ansB hno
  · (refine ⟨rfl, ?_, ?_, Sub.refl _⟩ <;> repeat' (first | exact EnvLe.nil | exact LocsLe.nil | refine EnvLe.cons _ _ _ ?_ ?_ | refine LocsLe.cons _ _ _ ?_ ?_ | exact CVle.same _ rfl | exact CVle.vec _ _ | exact CVle.nil | exact CVle.tok _ _ _ rfl rfl | exact ObLe.tok _ _ rfl | exact CVles.nil | refine CVles.cons ?_ ?_ | exact ObLe.same _ rfl rfl | refine ObLe.cells rfl ?_))
theorem l2Name_c {σ : Heap} {t : ByteArray} (ht : t.size ≤ 1000000000) : CRun Tryz.prog 103 [.sc (.string t)] σ (· = .ret (.sc (.bool (nameOk t))) σ) := by
  have cl := fun b => split (@l2Letter_c σ b)
  have ck := split (@kept_c σ t)
  refine crun_of (X := X) X_ok X_sat (body := bodyOf Tryz.f103) Tryz.func103 rfl (by kernel_rfl) (by kernel_rfl) ?_
  rw [Tryz.ntmps103]
  conv => whnf
  repeat' (first | refine OrdN.one ?_ | refine Fork.yp ?_ | refine Fork.np ?_ | refine Fork.ny ?_ | refine Fork.nn ?_ | refine Fork.yb ?_ | refine Fork.nb ?_ | refine Fork.dp (fun h => ?_) (fun h => ?_) | refine Fork.dn (fun h => ?_) (fun h => ?_) | (refine Fork.mk (fun h => ?_) (fun h => ?_) <;> simp only [decide_eq_true_eq, decide_eq_false_iff_not, Bool.not_eq_true', Bool.not_eq_false', Bool.or_eq_true, Bool.or_eq_false_iff] at h) | refine GetN.go ?_ | refine Need.ap1 ?_ | refine Need.ap0 ?_ | refine Need.go ?_ | refine Need.draw ?_ | refine ElemN.go ?_ | refine ExtN.ext ?_ | refine ExtN.wr ?_ | refine AllocN.go (fun l hl => ?_) | refine finGo ?_) <;> try (conv => whnf)
  refine LoopN.rule (α := Nat) (fun i => ⟨39, [(0, .sc (.string t)), (2, .sc (.bool false)), (3, i64 i)], []⟩)
    (fun _ => σ) (fun i => t.size - i) (fun i => i ≤ t.size ∧ ∀ j, j < i → nameCh t j = true) ?_ 0 ⟨by omega, by omega⟩ ?_
  · rintro i K ⟨h1, h2⟩ hK
    dsimp only at h1 h2 ⊢
    by_cases hi : i < t.size
    · have hb : nameCh t i = (letterOk ((t.data.getD (i : Int).toNat 0).toNat) || (decide (i ≠ 0) && decide (48 ≤ ((t.data.getD (i : Int).toNat 0).toNat : Int) ∧ ((t.data.getD (i : Int).toNat 0).toNat : Int) ≤ 57))) := rfl
      conv => whnf
      repeat' (first | (refine CallN.many (cl _) ?_; rintro _ (⟨hl, rfl⟩ | ⟨hl, rfl⟩)) | refine Fork.yp ?_ | refine Fork.dp (fun h => ?_) (fun h => ?_) | refine Need.go ?_ | refine ExtN.ext ?_ | refine finGo ?_) <;> try (conv => whnf)
      all_goals first
        | (refine hK (i + 1) _ _ ⟨by omega, stepAll h2 (by rw [hb, hl]; rfl)⟩ (by omega) ?_; (refine ⟨rfl, ?_, ?_, Sub.refl _⟩ <;> repeat' (first | exact EnvLe.nil | exact LocsLe.nil | refine EnvLe.cons _ _ _ ?_ ?_ | refine LocsLe.cons _ _ _ ?_ ?_ | exact CVle.same _ rfl | exact CVle.vec _ _ | exact CVle.nil | exact CVle.tok _ _ _ rfl rfl | exact ObLe.tok _ _ rfl | exact CVles.nil | refine CVles.cons ?_ ?_ | exact ObLe.same _ rfl rfl | refine ObLe.cells rfl ?_)))
        | (refine hK (i + 1) _ _ ⟨by omega, stepAll h2 (by rw [hb, decide_eq_true (show i ≠ 0 by omega), decide_eq_true ⟨by omega, by omega⟩]; simp)⟩ (by omega) ?_; (refine ⟨rfl, ?_, ?_, Sub.refl _⟩ <;> repeat' (first | exact EnvLe.nil | exact LocsLe.nil | refine EnvLe.cons _ _ _ ?_ ?_ | refine LocsLe.cons _ _ _ ?_ ?_ | exact CVle.same _ rfl | exact CVle.vec _ _ | exact CVle.nil | exact CVle.tok _ _ _ rfl rfl | exact ObLe.tok _ _ rfl | exact CVles.nil | refine CVles.cons ?_ ?_ | exact ObLe.same _ rfl rfl | refine ObLe.cells rfl ?_)))
        | (exact ansB (nameOk_no hi (by
            rw [hb, hl]; simp only [Bool.false_or, Bool.and_eq_false_iff, decide_eq_false_iff_not]
            first
              | exact .inl (by omega)
              | exact .inr (by omega))))
    · have hall : ∀ i, i < t.size → nameCh t i = true := fun j hj => h2 j (by omega)
      conv => whnf
      repeat' (first | (refine CallN.many in_n ?_; rintro _ (⟨hr, rfl⟩ | ⟨hr, rfl⟩)) | (refine CallN.many ck ?_; rintro _ (⟨hk, rfl⟩ | ⟨hk, rfl⟩)) | refine Fork.np ?_ | refine ExtN.ext ?_ | refine finGo ?_) <;> try (conv => whnf)
      all_goals first
        | exact ansB (nameOk_kept hk)
        | exact ansB (nameOk_yes (by omega) hall hk)
        | exact ansB (nameOk_size (by omega))
  · (refine ⟨rfl, ?_, ?_, Sub.refl _⟩ <;> repeat' (first | exact EnvLe.nil | exact LocsLe.nil | refine EnvLe.cons _ _ _ ?_ ?_ | refine LocsLe.cons _ _ _ ?_ ?_ | exact CVle.same _ rfl | exact CVle.vec _ _ | exact CVle.nil | exact CVle.tok _ _ _ rfl rfl | exact ObLe.tok _ _ rfl | exact CVles.nil | refine CVles.cons ?_ ?_ | exact ObLe.same _ rfl rfl | refine ObLe.cells rfl ?_))
mutual
def hasV (c : Int) : Val → Bool
  | .mk k n t l => decide (k = c) || hasL c l
def hasL (c : Int) : List Val → Bool
  | [] => false
  | v :: r => hasV c v || hasL c r
end
mutual
def plainV : Val → Bool
  | .mk k n t l => plainL l && decide (1 ≤ k ∧ k ≤ 4)
def plainL : List Val → Bool
  | [] => true
  | v :: r => plainV v && plainL r
end
theorem hasL_any {c : Int} {l : List Val} : hasL c l = l.any (hasV c) := by
  induction l with
  | nil => rfl
  | cons v r ih => simp [hasL, ih]
theorem plainL_all {l : List Val} : plainL l = l.all plainV := by
  induction l with
  | nil => rfl
  | cons v r ih => simp [plainL, ih]
theorem hasL_no {c : Int} {l : List Val} (h : ∀ j v, j < l.length → l[j]? = some v → hasV c v = false) : hasL c l = false := by
  rw [hasL_any]
  refine List.any_eq_false.2 fun v hv => ?_
  obtain ⟨j, hj, e⟩ := List.getElem_of_mem hv
  simp [h j v hj (by rw [← e]; exact List.getElem?_eq_getElem hj)]
theorem plainL_yes {l : List Val} (h : ∀ j v, j < l.length → l[j]? = some v → plainV v = true) : plainL l = true := by
  rw [plainL_all]
  refine List.all_eq_true.2 fun v hv => ?_
  obtain ⟨j, hj, e⟩ := List.getElem_of_mem hv
  exact h j v hj (by rw [← e]; exact List.getElem?_eq_getElem hj)
theorem stepAt {l : List Val} {p : Val → Prop} {i : Nat} {v : Val} (h : ∀ j v, j < i → l[j]? = some v → p v) (hv : l[i]? = some v) (hp : p v) : ∀ j v, j < i + 1 → l[j]? = some v → p v := fun j w hj hw => by
  by_cases e : j = i
  · subst e; rw [hv] at hw; cases hw; exact hp
  · exact h j w (by omega) hw
theorem has_c {σ : Heap} {c : Int} {v : Val} (hv : Tame v) : CRun Tryz.prog 153 [v.cv, i64 c] σ (· = .ret (.sc (.bool (hasV c v))) σ) := by
  induction hv with
  | @mk k n t l hk hn ht hl h ih =>
    have e3 := cvs_length l
    have ih := fun v hm => split (ih v hm)
    refine crun_of (X := X) X_ok X_sat (body := bodyOf Tryz.f153) Tryz.func153 rfl (by kernel_rfl) (by kernel_rfl) ?_
    rw [Tryz.ntmps153]
    by_cases hc : k = c
    · conv => whnf
      repeat' (first | refine Fork.yp ?_ | refine finGo ?_) <;> try (conv => whnf)
      exact ansB (by unfold hasV; rw [decide_eq_true hc]; rfl)
    · have hh : hasV c (.mk k n t l) = hasL c l := by simp only [hasV]; rw [decide_eq_false hc]; rfl
      conv => whnf
      repeat' (first | refine Fork.np ?_) <;> try (conv => whnf)
      refine LoopN.rule (α := Nat) (fun i => ⟨22, [(1, i64 c), (4, .sc (.bool false)), (12, .vec (Val.cvs l)), (13, i64 (Val.cvs l).length), (14, i64 i)], []⟩)
        (fun _ => σ) (fun i => l.length - i) (fun i => i ≤ l.length ∧ ∀ j v, j < i → l[j]? = some v → hasV c v = false) ?_ 0 ⟨by omega, by omega⟩ ?_
      · rintro i K ⟨h1, h2⟩ hK
        dsimp only at h1 h2 ⊢
        by_cases hi : i < l.length
        · obtain ⟨⟨wk, wn, wt, wl⟩, hm, hg, hg'⟩ := cvs_at hi
          conv => whnf
          repeat' (first | (refine CallN.many (ih _ hm) ?_; rintro _ (⟨hr, rfl⟩ | ⟨hr, rfl⟩)) | refine Fork.yp ?_ | refine Need.go ?_ | refine ElemN.go ?_ | refine ExtN.ext ?_ | refine finGo ?_) <;> try (conv => whnf)
          · exact ansB (by rw [hh, hasL_any]; exact List.any_eq_true.2 ⟨_, hm, hr⟩)
          · refine hK (i + 1) _ _ ⟨by omega, stepAt h2 hg hr⟩ (by omega) ?_
            (refine ⟨rfl, ?_, ?_, Sub.refl _⟩ <;> repeat' (first | exact EnvLe.nil | exact LocsLe.nil | refine EnvLe.cons _ _ _ ?_ ?_ | refine LocsLe.cons _ _ _ ?_ ?_ | exact CVle.same _ rfl | exact CVle.vec _ _ | exact CVle.nil | exact CVle.tok _ _ _ rfl rfl | exact ObLe.tok _ _ rfl | exact CVles.nil | refine CVles.cons ?_ ?_ | exact ObLe.same _ rfl rfl | refine ObLe.cells rfl ?_))
        · conv => whnf
          repeat' (first | refine Fork.np ?_ | refine finGo ?_) <;> try (conv => whnf)
          exact ansB (by rw [hh]; exact hasL_no fun j v hj => h2 j v (by omega))
      · (refine ⟨rfl, ?_, ?_, Sub.refl _⟩ <;> repeat' (first | exact EnvLe.nil | exact LocsLe.nil | refine EnvLe.cons _ _ _ ?_ ?_ | refine LocsLe.cons _ _ _ ?_ ?_ | exact CVle.same _ rfl | exact CVle.vec _ _ | exact CVle.nil | exact CVle.tok _ _ _ rfl rfl | exact ObLe.tok _ _ rfl | exact CVles.nil | refine CVles.cons ?_ ?_ | exact ObLe.same _ rfl rfl | refine ObLe.cells rfl ?_))
theorem plainV_c {σ : Heap} {v : Val} (hv : Tame v) : CRun Tryz.prog 170 [v.cv] σ (· = .ret (.sc (.bool (plainV v))) σ) := by
  induction hv with
  | @mk k n t l hk hn ht hl h ih =>
    have e3 := cvs_length l
    have ih := fun v hm => split (ih v hm)
    have hh : plainV (.mk k n t l) = (plainL l && decide (1 ≤ k ∧ k ≤ 4)) := by simp only [plainV]
    refine crun_of (X := X) X_ok X_sat (body := bodyOf Tryz.f170) Tryz.func170 rfl (by kernel_rfl) (by kernel_rfl) ?_
    rw [Tryz.ntmps170]
    conv => whnf
    repeat' (first | refine OrdN.one ?_ | refine Fork.yp ?_ | refine Fork.np ?_ | refine Fork.ny ?_ | refine Fork.nn ?_ | refine Fork.yb ?_ | refine Fork.nb ?_ | refine Fork.dp (fun h => ?_) (fun h => ?_) | refine Fork.dn (fun h => ?_) (fun h => ?_) | (refine Fork.mk (fun h => ?_) (fun h => ?_) <;> simp only [decide_eq_true_eq, decide_eq_false_iff_not, Bool.not_eq_true', Bool.not_eq_false', Bool.or_eq_true, Bool.or_eq_false_iff] at h) | refine GetN.go ?_ | refine Need.ap1 ?_ | refine Need.ap0 ?_ | refine Need.go ?_ | refine Need.draw ?_ | refine ElemN.go ?_ | refine ExtN.ext ?_ | refine ExtN.wr ?_ | refine AllocN.go (fun l hl => ?_) | refine finGo ?_) <;> try (conv => whnf)
    refine LoopN.rule (α := Nat) (fun i => ⟨21, [(1, .ptr (.f 1) 0), (2, .sc (.bool false)), (3, i64 i)], [(1, .cells [i64 k, i64 n, .sc (.string t), .vec (Val.cvs l)])]⟩)
      (fun _ => σ) (fun i => l.length - i) (fun i => i ≤ l.length ∧ ∀ j v, j < i → l[j]? = some v → plainV v = true) ?_ 0 ⟨by omega, by omega⟩ ?_
    · rintro i K ⟨h1, h2⟩ hK
      dsimp only at h1 h2 ⊢
      by_cases hi : i < l.length
      · obtain ⟨⟨wk, wn, wt, wl⟩, hm, hg, hg'⟩ := cvs_at hi
        conv => whnf
        repeat' (first | (refine CallN.many (ih _ hm) ?_; rintro _ (⟨hr, rfl⟩ | ⟨hr, rfl⟩)) | refine Fork.yp ?_ | refine Need.go ?_ | refine ElemN.go ?_ | refine ExtN.ext ?_ | refine finGo ?_) <;> try (conv => whnf)
        · refine hK (i + 1) _ _ ⟨by omega, stepAt h2 hg hr⟩ (by omega) ?_
          (refine ⟨rfl, ?_, ?_, Sub.refl _⟩ <;> repeat' (first | exact EnvLe.nil | exact LocsLe.nil | refine EnvLe.cons _ _ _ ?_ ?_ | refine LocsLe.cons _ _ _ ?_ ?_ | exact CVle.same _ rfl | exact CVle.vec _ _ | exact CVle.nil | exact CVle.tok _ _ _ rfl rfl | exact ObLe.tok _ _ rfl | exact CVles.nil | refine CVles.cons ?_ ?_ | exact ObLe.same _ rfl rfl | refine ObLe.cells rfl ?_))
        · exact ansB (by
            rw [hh, plainL_all, List.all_eq_false.2 ⟨_, hm, by rw [hr]; simp⟩]; rfl)
      · have hp := plainL_yes (l := l) fun j v hj => h2 j v (by omega)
        conv => whnf
        repeat' (first | (refine CallN.one in_c ?_) | refine Fork.np ?_ | refine ExtN.ext ?_ | refine finGo ?_) <;> try (conv => whnf)
        exact ansB (by rw [hh, hp]; rfl)
    · (refine ⟨rfl, ?_, ?_, Sub.refl _⟩ <;> repeat' (first | exact EnvLe.nil | exact LocsLe.nil | refine EnvLe.cons _ _ _ ?_ ?_ | refine LocsLe.cons _ _ _ ?_ ?_ | exact CVle.same _ rfl | exact CVle.vec _ _ | exact CVle.nil | exact CVle.tok _ _ _ rfl rfl | exact ObLe.tok _ _ rfl | exact CVles.nil | refine CVles.cons ?_ ?_ | exact ObLe.same _ rfl rfl | refine ObLe.cells rfl ?_))
def storeV (v : Val) : Bool := okV 3 v && plainV v
mutual
theorem has_of : ∀ (v : Val) {d : Int}, okV d v = true → plainV v = (!hasV 0 v && !hasV 5 v && !hasV 6 v)
  | .mk k n t l, d, h => by
    have hl : plainL l = (!hasL 0 l && !hasL 5 l && !hasL 6 l) := by
      by_cases h4 : k = 4
      · subst h4
        exact hasL_of l (okV_list h)
      · by_cases h3 : k = 3
        · subst h3
          rw [(okV_text h).2]; rfl
        · rw [(okV_num h h3 h4).2]; rfl
    rcases okV_kind h with ⟨h, _⟩ | h | h | h | h | h | h <;> subst h <;> simp [plainV, hasV, hl]
theorem hasL_of : ∀ (l : List Val) {d : Int}, (∀ v ∈ l, okV d v = true) → plainL l = (!hasL 0 l && !hasL 5 l && !hasL 6 l)
  | [], _, _ => rfl
  | v :: r, d, h => by
    have h1 := has_of v (h v (by simp))
    have h2 := hasL_of r fun v hv => h v (by simp [hv])
    simp only [plainL, hasL, h1, h2]
    cases hasV 0 v <;> cases hasV 5 v <;> cases hasV 6 v <;> simp
end
theorem storable_c {σ : Heap} {v : Val} (hv : Tame v) : CRun Tryz.prog 157 [v.cv] σ (· = .ret (.sc (.bool (storeV v))) σ) := by
  have c1 := implOk_c (σ := σ) hv
  have c2 := fun c => has_c (σ := σ) (c := c) hv
  have e : okV 3 v = true → storeV v = (!hasV 0 v && !hasV 5 v && !hasV 6 v) := fun h => by unfold storeV; rw [h, has_of _ h]; rfl
  have e' : okV 3 v = false → storeV v = false := fun h => by unfold storeV; rw [h]; rfl
  have h0 := c2 0
  have h5 := c2 5
  have h6 := c2 6
  clear c2
  obtain ⟨k, n, t, l⟩ := v
  refine crun_of (X := X) X_ok X_sat (body := bodyOf Tryz.f157) Tryz.func157 rfl (by kernel_rfl) (by kernel_rfl) ?_
  rw [Tryz.ntmps157]
  cases ho : okV 3 (.mk k n t l)
  · rw [ho] at c1
    conv => whnf
    repeat' (first | (refine CallN.one c1 ?_) | refine ExtN.ext ?_ | refine finGo ?_) <;> try (conv => whnf)
    exact ansB (e' ho)
  rw [ho] at c1
  have e := e ho
  cases k0 : hasV 0 (.mk k n t l) <;> rw [k0] at h0 e <;> cases k5 : hasV 5 (.mk k n t l) <;> rw [k5] at h5 e <;> cases k6 : hasV 6 (.mk k n t l) <;> rw [k6] at h6 e
  all_goals
    conv => whnf
    repeat' (first | (refine CallN.one c1 ?_) | (refine CallN.one h0 ?_) | (refine CallN.one h5 ?_) | (refine CallN.one h6 ?_) | refine ExtN.ext ?_ | refine finGo ?_) <;> try (conv => whnf)
    exact ansB e
def strs (l : List ByteArray) : List CV := l.map fun s => .sc (.string s)
theorem strs_len (l : List ByteArray) : (strs l).length = l.length := by simp [strs]
theorem strs_at {l : List ByteArray} {i : Nat} (hi : i < l.length) : ∃ s, s ∈ l ∧ l[i]? = some s ∧ (strs l)[i]? = some (.sc (.string s)) := by
  refine ⟨l[i], List.getElem_mem hi, List.getElem?_eq_getElem hi, ?_⟩
  unfold strs; rw [List.getElem?_map, List.getElem?_eq_getElem hi]; rfl
def lt (s t : ByteArray) : Bool := Op.bytesLess s.toList t.toList
def labelAt (l : List ByteArray) (i : Nat) : Bool := match l[i]? with
  | some s => nameOk s && match i with
    | 0 => true
    | j + 1 => match l[j]? with
      | some q => lt q s
      | none => true
  | none => true
def labelsOk (l : List ByteArray) : Bool := decide (l.length ≤ 3) && (List.range l.length).all (labelAt l)
theorem range_no {p : Nat → Bool} {n i : Nat} (hi : i < n) (h : p i = false) : (List.range n).all p = false := List.all_eq_false.2 ⟨i, List.mem_range.2 hi, by simp [h]⟩
theorem range_yes {p : Nat → Bool} {n : Nat} (h : ∀ i, i < n → p i = true) : (List.range n).all p = true := List.all_eq_true.2 fun i hi => h i (List.mem_range.1 hi)
theorem labelAt_zero {l : List ByteArray} {s : ByteArray} (hg : l[0]? = some s) : labelAt l 0 = nameOk s := by unfold labelAt; rw [hg]; simp
theorem labelAt_succ {l : List ByteArray} {j : Nat} {q s : ByteArray} (hg : l[j + 1]? = some s) (qg : l[j]? = some q) : labelAt l (j + 1) = (nameOk s && lt q s) := by
  unfold labelAt; rw [hg]; simp only [qg]
theorem toNat_pred (j : Nat) : (((j + 1 : Nat) : Int) - 1).toNat = j := by omega
theorem labelsOk_c {σ : Heap} {l : List ByteArray} (hl : l.length ≤ 1000) (ht : ∀ s ∈ l, s.size ≤ 1000) : CRun Tryz.prog 85 [.vec (strs l)] σ (· = .ret (.sc (.bool (labelsOk l))) σ) := by
  have e3 := strs_len l
  refine crun_of (X := X) X_ok X_sat (body := bodyOf Tryz.f85) Tryz.func85 rfl (by kernel_rfl) (by kernel_rfl) ?_
  rw [Tryz.ntmps85]
  by_cases h3 : l.length ≤ 3
  case neg =>
    conv => whnf
    repeat' (first | refine Fork.yp ?_ | refine finGo ?_) <;> try (conv => whnf)
    exact ansB (by unfold labelsOk; rw [decide_eq_false h3]; rfl)
  have hh : labelsOk l = (List.range l.length).all (labelAt l) := by unfold labelsOk; rw [decide_eq_true h3]; rfl
  conv => whnf
  repeat' (first | refine Fork.np ?_) <;> try (conv => whnf)
  refine LoopN.rule (α := Nat) (fun i => ⟨32, [(0, .vec (strs l)), (2, .sc (.bool false)), (8, .vec (strs l)), (9, i64 (strs l).length), (10, i64 i)], []⟩)
    (fun _ => σ) (fun i => l.length - i) (fun i => i ≤ l.length ∧ ∀ j, j < i → labelAt l j = true) ?_ 0 ⟨by omega, by omega⟩ ?_
  · rintro i K ⟨h1, h2⟩ hK
    dsimp only at h1 h2 ⊢
    by_cases hi : i < l.length
    · obtain ⟨s, hm, hg, hg'⟩ := strs_at hi
      have c1 := nameOk_c (σ := σ) (t := s) (by have := ht s hm; omega)
      have no := fun h => ansB (σ := σ) (b := false) (b' := labelsOk l) (by rw [hh, range_no hi h])
      cases i with
      | zero =>
        have e := labelAt_zero hg
        cases hn : nameOk s <;> rw [hn] at c1 e
        · conv => whnf
          repeat' (first | (refine CallN.one c1 ?_) | refine Fork.yp ?_ | refine Need.go ?_ | refine ElemN.go ?_ | refine ExtN.ext ?_ | refine finGo ?_) <;> try (conv => whnf)
          exact no e
        · conv => whnf
          repeat' (first | (refine CallN.one c1 ?_) | refine Fork.yp ?_ | refine Fork.np ?_ | refine Need.go ?_ | refine ElemN.go ?_ | refine ExtN.ext ?_) <;> try (conv => whnf)
          refine hK 1 _ _ ⟨by omega, stepAll h2 e⟩ (by omega) ?_
          (refine ⟨rfl, ?_, ?_, Sub.refl _⟩ <;> repeat' (first | exact EnvLe.nil | exact LocsLe.nil | refine EnvLe.cons _ _ _ ?_ ?_ | refine LocsLe.cons _ _ _ ?_ ?_ | exact CVle.same _ rfl | exact CVle.vec _ _ | exact CVle.nil | exact CVle.tok _ _ _ rfl rfl | exact ObLe.tok _ _ rfl | exact CVles.nil | refine CVles.cons ?_ ?_ | exact ObLe.same _ rfl rfl | refine ObLe.cells rfl ?_))
      | succ j =>
        obtain ⟨q, qm, qg, qg'⟩ := strs_at (l := l) (i := j) (by omega)
        have qg2 : (strs l)[(((j + 1 : Nat) : Int) - 1).toNat]? = some (.sc (.string q)) := by rw [toNat_pred]; exact qg'
        have e := labelAt_succ hg qg
        unfold lt at e
        cases hn : nameOk s <;> rw [hn] at c1 e <;> cases hb : Op.bytesLess q.toList s.toList <;> rw [hb] at e <;> have hb' := congrArg not hb <;> dsimp only [not] at hb'
        · conv => whnf
          repeat' (first | (refine CallN.one c1 ?_) | refine Fork.yp ?_ | refine Need.go ?_ | refine ElemN.go ?_ | refine ExtN.ext ?_ | refine finGo ?_) <;> try (conv => whnf)
          exact no e
        · conv => whnf
          repeat' (first | (refine CallN.one c1 ?_) | refine Fork.yp ?_ | refine Need.go ?_ | refine ElemN.go ?_ | refine ExtN.ext ?_ | refine finGo ?_) <;> try (conv => whnf)
          exact no e
        · conv => whnf
          repeat' (first | (refine CallN.one c1 ?_) | refine Fork.yp ?_ | refine Fork.yb ?_ | refine Need.go ?_ | refine ElemN.go ?_ | refine ExtN.ext ?_ | refine finGo ?_) <;> try (conv => whnf)
          exact no e
        · conv => whnf
          repeat' (first | (refine CallN.one c1 ?_) | refine Fork.yp ?_ | refine Fork.nb ?_ | refine Need.go ?_ | refine ElemN.go ?_ | refine ExtN.ext ?_) <;> try (conv => whnf)
          refine hK (j + 2) _ _ ⟨by omega, stepAll h2 e⟩ (by omega) ?_
          (refine ⟨rfl, ?_, ?_, Sub.refl _⟩ <;> repeat' (first | exact EnvLe.nil | exact LocsLe.nil | refine EnvLe.cons _ _ _ ?_ ?_ | refine LocsLe.cons _ _ _ ?_ ?_ | exact CVle.same _ rfl | exact CVle.vec _ _ | exact CVle.nil | exact CVle.tok _ _ _ rfl rfl | exact ObLe.tok _ _ rfl | exact CVles.nil | refine CVles.cons ?_ ?_ | exact ObLe.same _ rfl rfl | refine ObLe.cells rfl ?_))
    · have hall : ∀ i, i < l.length → labelAt l i = true := fun j hj => h2 j (by omega)
      conv => whnf
      repeat' (first | refine Fork.np ?_ | refine finGo ?_) <;> try (conv => whnf)
      exact ansB (by rw [hh, range_yes hall])
  · (refine ⟨rfl, ?_, ?_, Sub.refl _⟩ <;> repeat' (first | exact EnvLe.nil | exact LocsLe.nil | refine EnvLe.cons _ _ _ ?_ ?_ | refine LocsLe.cons _ _ _ ?_ ?_ | exact CVle.same _ rfl | exact CVle.vec _ _ | exact CVle.nil | exact CVle.tok _ _ _ rfl rfl | exact ObLe.tok _ _ rfl | exact CVles.nil | refine CVles.cons ?_ ?_ | exact ObLe.same _ rfl rfl | refine ObLe.cells rfl ?_))
theorem l2Labels_c {σ : Heap} {l : List ByteArray} (hl : l.length ≤ 1000) (ht : ∀ s ∈ l, s.size ≤ 1000) : CRun Tryz.prog 101 [.vec (strs l)] σ (· = .ret (.sc (.bool (labelsOk l))) σ) := by
  have e3 := strs_len l
  refine crun_of (X := X) X_ok X_sat (body := bodyOf Tryz.f101) Tryz.func101 rfl (by kernel_rfl) (by kernel_rfl) ?_
  rw [Tryz.ntmps101]
  have no : ∀ i, i < l.length → labelAt l i = false → COut.ret (.sc (.bool false)) σ = .ret (.sc (.bool (labelsOk l))) σ := fun i hi h => ansB (by unfold labelsOk; rw [range_no hi h]; simp)
  conv => whnf
  repeat' (first | refine OrdN.one ?_ | refine Fork.yp ?_ | refine Fork.np ?_ | refine Fork.ny ?_ | refine Fork.nn ?_ | refine Fork.yb ?_ | refine Fork.nb ?_ | refine Fork.dp (fun h => ?_) (fun h => ?_) | refine Fork.dn (fun h => ?_) (fun h => ?_) | (refine Fork.mk (fun h => ?_) (fun h => ?_) <;> simp only [decide_eq_true_eq, decide_eq_false_iff_not, Bool.not_eq_true', Bool.not_eq_false', Bool.or_eq_true, Bool.or_eq_false_iff] at h) | refine GetN.go ?_ | refine Need.ap1 ?_ | refine Need.ap0 ?_ | refine Need.go ?_ | refine Need.draw ?_ | refine ElemN.go ?_ | refine ExtN.ext ?_ | refine ExtN.wr ?_ | refine AllocN.go (fun l hl => ?_) | refine finGo ?_) <;> try (conv => whnf)
  refine LoopN.rule (α := Nat) (fun i => ⟨35, [(0, .vec (strs l)), (2, .sc (.bool false)), (3, i64 i)], []⟩)
    (fun _ => σ) (fun i => l.length - i) (fun i => i ≤ l.length ∧ ∀ j, j < i → labelAt l j = true) ?_ 0 ⟨by omega, by omega⟩ ?_
  · rintro i K ⟨h1, h2⟩ hK
    dsimp only at h1 h2 ⊢
    by_cases hi : i < l.length
    · obtain ⟨s, hm, hg, hg'⟩ := strs_at hi
      have c1 := l2Name_c (σ := σ) (t := s) (by have := ht s hm; omega)
      have no := no i hi
      cases i with
      | zero =>
        have e := labelAt_zero hg
        cases hn : nameOk s <;> rw [hn] at c1 e
        · conv => whnf
          repeat' (first | (refine CallN.one c1 ?_) | refine OrdN.go ?_ | refine Fork.yp ?_ | refine Need.go ?_ | refine Need.draw ?_ | refine ElemN.go ?_ | refine ExtN.ext ?_ | refine finGo ?_) <;> try (conv => whnf)
          exact no e
        · conv => whnf
          repeat' (first | (refine CallN.one c1 ?_) | refine OrdN.go ?_ | refine Fork.yp ?_ | refine Fork.np ?_ | refine Need.go ?_ | refine Need.draw ?_ | refine ElemN.go ?_ | refine ExtN.ext ?_) <;> try (conv => whnf)
          refine hK 1 _ _ ⟨by omega, stepAll h2 e⟩ (by omega) ?_
          (refine ⟨rfl, ?_, ?_, Sub.refl _⟩ <;> repeat' (first | exact EnvLe.nil | exact LocsLe.nil | refine EnvLe.cons _ _ _ ?_ ?_ | refine LocsLe.cons _ _ _ ?_ ?_ | exact CVle.same _ rfl | exact CVle.vec _ _ | exact CVle.nil | exact CVle.tok _ _ _ rfl rfl | exact ObLe.tok _ _ rfl | exact CVles.nil | refine CVles.cons ?_ ?_ | exact ObLe.same _ rfl rfl | refine ObLe.cells rfl ?_))
      | succ j =>
        obtain ⟨q, qm, qg, qg'⟩ := strs_at (l := l) (i := j) (by omega)
        have qg2 : (strs l)[(((j + 1 : Nat) : Int) - 1).toNat]? = some (.sc (.string q)) := by rw [toNat_pred]; exact qg'
        have e := labelAt_succ hg qg
        unfold lt at e
        cases hn : nameOk s <;> rw [hn] at c1 e <;> cases hb : Op.bytesLess q.toList s.toList <;> rw [hb] at e <;> have hb' := congrArg not hb <;> dsimp only [not] at hb'
        · conv => whnf
          repeat' (first | (refine CallN.one c1 ?_) | refine OrdN.go ?_ | refine Fork.yp ?_ | refine Need.go ?_ | refine Need.draw ?_ | refine ElemN.go ?_ | refine ExtN.ext ?_ | refine finGo ?_) <;> try (conv => whnf)
          exact no e
        · conv => whnf
          repeat' (first | (refine CallN.one c1 ?_) | refine OrdN.go ?_ | refine Fork.yp ?_ | refine Need.go ?_ | refine Need.draw ?_ | refine ElemN.go ?_ | refine ExtN.ext ?_ | refine finGo ?_) <;> try (conv => whnf)
          exact no e
        · conv => whnf
          repeat' (first | (refine CallN.one c1 ?_) | refine OrdN.go ?_ | refine Fork.yp ?_ | refine Fork.yb ?_ | refine Need.go ?_ | refine Need.draw ?_ | refine ElemN.go ?_ | refine ExtN.ext ?_ | refine finGo ?_) <;> try (conv => whnf)
          exact no e
        · conv => whnf
          repeat' (first | (refine CallN.one c1 ?_) | refine OrdN.go ?_ | refine Fork.yp ?_ | refine Fork.nb ?_ | refine Need.go ?_ | refine Need.draw ?_ | refine ElemN.go ?_ | refine ExtN.ext ?_) <;> try (conv => whnf)
          refine hK (j + 2) _ _ ⟨by omega, stepAll h2 e⟩ (by omega) ?_
          (refine ⟨rfl, ?_, ?_, Sub.refl _⟩ <;> repeat' (first | exact EnvLe.nil | exact LocsLe.nil | refine EnvLe.cons _ _ _ ?_ ?_ | refine LocsLe.cons _ _ _ ?_ ?_ | exact CVle.same _ rfl | exact CVle.vec _ _ | exact CVle.nil | exact CVle.tok _ _ _ rfl rfl | exact ObLe.tok _ _ rfl | exact CVles.nil | refine CVles.cons ?_ ?_ | exact ObLe.same _ rfl rfl | refine ObLe.cells rfl ?_))
    · have hall : ∀ i, i < l.length → labelAt l i = true := fun j hj => h2 j (by omega)
      by_cases h3 : l.length ≤ 3
      · conv => whnf
        repeat' (first | refine Fork.yp ?_ | refine Fork.np ?_ | refine finGo ?_) <;> try (conv => whnf)
        exact ansB (by unfold labelsOk; rw [decide_eq_true h3, range_yes hall]; rfl)
      · conv => whnf
        repeat' (first | refine Fork.np ?_ | refine finGo ?_) <;> try (conv => whnf)
        exact ansB (by unfold labelsOk; rw [decide_eq_false h3]; rfl)
  · (refine ⟨rfl, ?_, ?_, Sub.refl _⟩ <;> repeat' (first | exact EnvLe.nil | exact LocsLe.nil | refine EnvLe.cons _ _ _ ?_ ?_ | refine LocsLe.cons _ _ _ ?_ ?_ | exact CVle.same _ rfl | exact CVle.vec _ _ | exact CVle.nil | exact CVle.tok _ _ _ rfl rfl | exact ObLe.tok _ _ rfl | exact CVles.nil | refine CVles.cons ?_ ?_ | exact ObLe.same _ rfl rfl | refine ObLe.cells rfl ?_))
structure Pr where
  name : ByteArray
  val : Val
def Pr.cv (p : Pr) : CV := match p.val with
  | .mk k n t l => .agg [.sc (.string p.name), i64 k, i64 n, .sc (.string t), .vec (Val.cvs l)]
def prs (l : List Pr) : List CV := l.map Pr.cv
theorem prs_len (l : List Pr) : (prs l).length = l.length := by simp [prs]
theorem prs_at {l : List Pr} {i : Nat} (hi : i < l.length) : ∃ s k n t v, ⟨s, .mk k n t v⟩ ∈ l ∧ l[i]? = some ⟨s, .mk k n t v⟩ ∧ (prs l)[i]? = some (.agg [.sc (.string s), i64 k, i64 n, .sc (.string t), .vec (Val.cvs v)]) := by
  have h := List.getElem_mem hi
  have h2 := List.getElem?_eq_getElem hi
  have h3 : (prs l)[i]? = some (l[i]).cv := by unfold prs; rw [List.getElem?_map, h2]; rfl
  generalize l[i] = p at h h2 h3
  obtain ⟨s, k, n, t, v⟩ := p
  exact ⟨s, k, n, t, v, h, h2, h3⟩
structure PrTame (p : Pr) : Prop where
  name : p.name.size ≤ 1000
  val : Tame p.val
def propOk (p : Pr) : Bool := nameOk p.name && storeV p.val
def propAt (l : List Pr) (i : Nat) : Bool := match l[i]? with
  | some s => propOk s && match i with
    | 0 => true
    | j + 1 => match l[j]? with
      | some q => lt q.name s.name
      | none => true
  | none => true
def propsOk (l : List Pr) : Bool := decide (l.length ≤ 4) && (List.range l.length).all (propAt l)
theorem propAt_zero {l : List Pr} {s : Pr} (hg : l[0]? = some s) : propAt l 0 = propOk s := by unfold propAt; rw [hg]; simp
theorem propAt_succ {l : List Pr} {j : Nat} {q s : Pr} (hg : l[j + 1]? = some s) (qg : l[j]? = some q) : propAt l (j + 1) = (propOk s && lt q.name s.name) := by
  unfold propAt; rw [hg]; simp only [qg]
set_option maxHeartbeats 1000000 in
theorem propsOk_c {σ : Heap} {l : List Pr} (hl : l.length ≤ 1000) (ht : ∀ s ∈ l, PrTame s) : CRun Tryz.prog 86 [.vec (prs l)] σ (· = .ret (.sc (.bool (propsOk l))) σ) := by
  have e3 := prs_len l
  refine crun_of (X := X) X_ok X_sat (body := bodyOf Tryz.f86) Tryz.func86 rfl (by kernel_rfl) (by kernel_rfl) ?_
  rw [Tryz.ntmps86]
  by_cases h3 : l.length ≤ 4
  case neg =>
    conv => whnf
    repeat' (first | refine Fork.yp ?_ | refine finGo ?_) <;> try (conv => whnf)
    exact ansB (by unfold propsOk; rw [decide_eq_false h3]; rfl)
  have no : ∀ i, i < l.length → propAt l i = false → COut.ret (.sc (.bool false)) σ = .ret (.sc (.bool (propsOk l))) σ := fun i hi h => ansB (by unfold propsOk; rw [range_no hi h]; simp)
  conv => whnf
  repeat' (first | refine Fork.np ?_) <;> try (conv => whnf)
  refine LoopN.rule (α := Nat) (fun i => ⟨41, [(0, .vec (prs l)), (2, .sc (.bool false)), (8, .vec (prs l)), (9, i64 (prs l).length), (10, i64 i)], []⟩)
    (fun _ => σ) (fun i => l.length - i) (fun i => i ≤ l.length ∧ ∀ j, j < i → propAt l j = true) ?_ 0 ⟨by omega, by omega⟩ ?_
  · rintro i K ⟨h1, h2⟩ hK
    dsimp only at h1 h2 ⊢
    by_cases hi : i < l.length
    · obtain ⟨s, vk, vn, vt, vl, hm, hg, hg'⟩ := prs_at hi
      have c1 := nameOk_c (σ := σ) (t := s) (by have := (ht _ hm).name; dsimp only at this; omega)
      have c2 := storable_c (σ := σ) (ht _ hm).val
      have no := no i hi
      cases i with
      | zero =>
        have e := propAt_zero hg
        unfold propOk at e
        cases hn : nameOk s <;> rw [hn] at c1 e
        · conv => whnf
          repeat' (first | (refine CallN.one c1 ?_) | refine OrdN.go ?_ | refine Fork.yp ?_ | refine Need.go ?_ | refine Need.draw ?_ | refine ElemN.go ?_ | refine ExtN.ext ?_ | refine finGo ?_) <;> try (conv => whnf)
          exact no e
        cases hv : storeV (.mk vk vn vt vl) <;> rw [hv] at c2 e
        · conv => whnf
          repeat' (first | (refine CallN.one c1 ?_) | (refine CallN.one c2 ?_) | refine OrdN.go ?_ | refine Fork.yp ?_ | refine Need.go ?_ | refine Need.draw ?_ | refine ElemN.go ?_ | refine ExtN.ext ?_ | refine finGo ?_) <;> try (conv => whnf)
          exact no e
        conv => whnf
        repeat' (first | (refine CallN.one c1 ?_) | (refine CallN.one c2 ?_) | refine OrdN.go ?_ | refine Fork.yp ?_ | refine Fork.np ?_ | refine Need.go ?_ | refine Need.draw ?_ | refine ElemN.go ?_ | refine ExtN.ext ?_) <;> try (conv => whnf)
        refine hK 1 _ _ ⟨by omega, stepAll h2 e⟩ (by omega) ?_
        (refine ⟨rfl, ?_, ?_, Sub.refl _⟩ <;> repeat' (first | exact EnvLe.nil | exact LocsLe.nil | refine EnvLe.cons _ _ _ ?_ ?_ | refine LocsLe.cons _ _ _ ?_ ?_ | exact CVle.same _ rfl | exact CVle.vec _ _ | exact CVle.nil | exact CVle.tok _ _ _ rfl rfl | exact ObLe.tok _ _ rfl | exact CVles.nil | refine CVles.cons ?_ ?_ | exact ObLe.same _ rfl rfl | refine ObLe.cells rfl ?_))
      | succ j =>
        obtain ⟨q, qk, qn, qt, ql, qm, qg, qg'⟩ := prs_at (l := l) (i := j) (by omega)
        have qg2 : (prs l)[(((j + 1 : Nat) : Int) - 1).toNat]? = some (.agg [.sc (.string q), i64 qk, i64 qn, .sc (.string qt), .vec (Val.cvs ql)]) := by rw [toNat_pred]; exact qg'
        have e := propAt_succ hg qg
        unfold lt propOk at e
        dsimp only at e
        cases hn : nameOk s <;> rw [hn] at c1 e
        · conv => whnf
          repeat' (first | (refine CallN.one c1 ?_) | refine OrdN.go ?_ | refine Fork.yp ?_ | refine Need.go ?_ | refine Need.draw ?_ | refine ElemN.go ?_ | refine ExtN.ext ?_ | refine finGo ?_) <;> try (conv => whnf)
          exact no e
        cases hv : storeV (.mk vk vn vt vl) <;> rw [hv] at c2 e
        · conv => whnf
          repeat' (first | (refine CallN.one c1 ?_) | (refine CallN.one c2 ?_) | refine OrdN.go ?_ | refine Fork.yp ?_ | refine Need.go ?_ | refine Need.draw ?_ | refine ElemN.go ?_ | refine ExtN.ext ?_ | refine finGo ?_) <;> try (conv => whnf)
          exact no e
        cases hb : Op.bytesLess q.toList s.toList <;> rw [hb] at e <;> have hb' := congrArg not hb <;> dsimp only [not] at hb'
        · conv => whnf
          repeat' (first | (refine CallN.one c1 ?_) | (refine CallN.one c2 ?_) | refine OrdN.go ?_ | refine Fork.yp ?_ | refine Fork.yb ?_ | refine Need.go ?_ | refine Need.draw ?_ | refine ElemN.go ?_ | refine ExtN.ext ?_ | refine finGo ?_) <;> try (conv => whnf)
          exact no e
        conv => whnf
        repeat' (first | (refine CallN.one c1 ?_) | (refine CallN.one c2 ?_) | refine OrdN.go ?_ | refine Fork.yp ?_ | refine Fork.nb ?_ | refine Need.go ?_ | refine Need.draw ?_ | refine ElemN.go ?_ | refine ExtN.ext ?_) <;> try (conv => whnf)
        refine hK (j + 2) _ _ ⟨by omega, stepAll h2 e⟩ (by omega) ?_
        (refine ⟨rfl, ?_, ?_, Sub.refl _⟩ <;> repeat' (first | exact EnvLe.nil | exact LocsLe.nil | refine EnvLe.cons _ _ _ ?_ ?_ | refine LocsLe.cons _ _ _ ?_ ?_ | exact CVle.same _ rfl | exact CVle.vec _ _ | exact CVle.nil | exact CVle.tok _ _ _ rfl rfl | exact ObLe.tok _ _ rfl | exact CVles.nil | refine CVles.cons ?_ ?_ | exact ObLe.same _ rfl rfl | refine ObLe.cells rfl ?_))
    · have hall : ∀ i, i < l.length → propAt l i = true := fun j hj => h2 j (by omega)
      conv => whnf
      repeat' (first | refine Fork.np ?_ | refine finGo ?_) <;> try (conv => whnf)
      exact ansB (by unfold propsOk; rw [decide_eq_true h3, range_yes hall]; rfl)
  · (refine ⟨rfl, ?_, ?_, Sub.refl _⟩ <;> repeat' (first | exact EnvLe.nil | exact LocsLe.nil | refine EnvLe.cons _ _ _ ?_ ?_ | refine LocsLe.cons _ _ _ ?_ ?_ | exact CVle.same _ rfl | exact CVle.vec _ _ | exact CVle.nil | exact CVle.tok _ _ _ rfl rfl | exact ObLe.tok _ _ rfl | exact CVles.nil | refine CVles.cons ?_ ?_ | exact ObLe.same _ rfl rfl | refine ObLe.cells rfl ?_))
set_option maxHeartbeats 1000000 in
theorem l2Props_c {σ : Heap} {l : List Pr} (hl : l.length ≤ 1000) (ht : ∀ s ∈ l, PrTame s) : CRun Tryz.prog 102 [.vec (prs l)] σ (· = .ret (.sc (.bool (propsOk l))) σ) := by
  have e3 := prs_len l
  refine crun_of (X := X) X_ok X_sat (body := bodyOf Tryz.f102) Tryz.func102 rfl (by kernel_rfl) (by kernel_rfl) ?_
  rw [Tryz.ntmps102]
  have no : ∀ i, i < l.length → propAt l i = false → COut.ret (.sc (.bool false)) σ = .ret (.sc (.bool (propsOk l))) σ := fun i hi h => ansB (by unfold propsOk; rw [range_no hi h]; simp)
  conv => whnf
  repeat' (first | refine OrdN.one ?_ | refine Fork.yp ?_ | refine Fork.np ?_ | refine Fork.ny ?_ | refine Fork.nn ?_ | refine Fork.yb ?_ | refine Fork.nb ?_ | refine Fork.dp (fun h => ?_) (fun h => ?_) | refine Fork.dn (fun h => ?_) (fun h => ?_) | (refine Fork.mk (fun h => ?_) (fun h => ?_) <;> simp only [decide_eq_true_eq, decide_eq_false_iff_not, Bool.not_eq_true', Bool.not_eq_false', Bool.or_eq_true, Bool.or_eq_false_iff] at h) | refine GetN.go ?_ | refine Need.ap1 ?_ | refine Need.ap0 ?_ | refine Need.go ?_ | refine Need.draw ?_ | refine ElemN.go ?_ | refine ExtN.ext ?_ | refine ExtN.wr ?_ | refine AllocN.go (fun l hl => ?_) | refine finGo ?_) <;> try (conv => whnf)
  refine LoopN.rule (α := Nat) (fun i => ⟨56, [(0, .vec (prs l)), (2, .sc (.bool false)), (3, i64 i)], []⟩)
    (fun _ => σ) (fun i => l.length - i) (fun i => i ≤ l.length ∧ ∀ j, j < i → propAt l j = true) ?_ 0 ⟨by omega, by omega⟩ ?_
  · rintro i K ⟨h1, h2⟩ hK
    dsimp only at h1 h2 ⊢
    by_cases hi : i < l.length
    · obtain ⟨s, vk, vn, vt, vl, hm, hg, hg'⟩ := prs_at hi
      have c1 := l2Name_c (σ := σ) (t := s) (by have := (ht _ hm).name; dsimp only at this; omega)
      have c2 := specOk_c (σ := σ) (ht _ hm).val
      have c3 := plainV_c (σ := σ) (ht _ hm).val
      have no := no i hi
      cases i with
      | zero =>
        have e := propAt_zero hg
        unfold propOk storeV at e
        cases hn : nameOk s <;> rw [hn] at c1 e
        · conv => whnf
          repeat' (first | (refine CallN.one c1 ?_) | refine OrdN.go ?_ | refine Fork.yp ?_ | refine Need.go ?_ | refine Need.draw ?_ | refine ElemN.go ?_ | refine ExtN.ext ?_ | refine finGo ?_) <;> try (conv => whnf)
          exact no e
        cases hv : okV 3 (.mk vk vn vt vl) <;> rw [hv] at c2 e
        · conv => whnf
          repeat' (first | (refine CallN.one c1 ?_) | (refine CallN.one c2 ?_) | refine OrdN.go ?_ | refine Fork.yp ?_ | refine Need.go ?_ | refine Need.draw ?_ | refine ElemN.go ?_ | refine ExtN.ext ?_ | refine finGo ?_) <;> try (conv => whnf)
          exact no e
        cases hp : plainV (.mk vk vn vt vl) <;> rw [hp] at c3 e
        · conv => whnf
          repeat' (first | (refine CallN.one c1 ?_) | (refine CallN.one c2 ?_) | (refine CallN.one c3 ?_) | refine OrdN.go ?_ | refine Fork.yp ?_ | refine Need.go ?_ | refine Need.draw ?_ | refine ElemN.go ?_ | refine ExtN.ext ?_ | refine finGo ?_) <;> try (conv => whnf)
          exact no e
        conv => whnf
        repeat' (first | (refine CallN.one c1 ?_) | (refine CallN.one c2 ?_) | (refine CallN.one c3 ?_) | refine OrdN.go ?_ | refine Fork.yp ?_ | refine Fork.np ?_ | refine Need.go ?_ | refine Need.draw ?_ | refine ElemN.go ?_ | refine ExtN.ext ?_) <;> try (conv => whnf)
        refine hK 1 _ _ ⟨by omega, stepAll h2 e⟩ (by omega) ?_
        (refine ⟨rfl, ?_, ?_, Sub.refl _⟩ <;> repeat' (first | exact EnvLe.nil | exact LocsLe.nil | refine EnvLe.cons _ _ _ ?_ ?_ | refine LocsLe.cons _ _ _ ?_ ?_ | exact CVle.same _ rfl | exact CVle.vec _ _ | exact CVle.nil | exact CVle.tok _ _ _ rfl rfl | exact ObLe.tok _ _ rfl | exact CVles.nil | refine CVles.cons ?_ ?_ | exact ObLe.same _ rfl rfl | refine ObLe.cells rfl ?_))
      | succ j =>
        obtain ⟨q, qk, qn, qt, ql, qm, qg, qg'⟩ := prs_at (l := l) (i := j) (by omega)
        have qg2 : (prs l)[(((j + 1 : Nat) : Int) - 1).toNat]? = some (.agg [.sc (.string q), i64 qk, i64 qn, .sc (.string qt), .vec (Val.cvs ql)]) := by rw [toNat_pred]; exact qg'
        have e := propAt_succ hg qg
        unfold lt propOk storeV at e
        dsimp only at e
        cases hn : nameOk s <;> rw [hn] at c1 e
        · conv => whnf
          repeat' (first | (refine CallN.one c1 ?_) | refine OrdN.go ?_ | refine Fork.yp ?_ | refine Need.go ?_ | refine Need.draw ?_ | refine ElemN.go ?_ | refine ExtN.ext ?_ | refine finGo ?_) <;> try (conv => whnf)
          exact no e
        cases hv : okV 3 (.mk vk vn vt vl) <;> rw [hv] at c2 e
        · conv => whnf
          repeat' (first | (refine CallN.one c1 ?_) | (refine CallN.one c2 ?_) | refine OrdN.go ?_ | refine Fork.yp ?_ | refine Need.go ?_ | refine Need.draw ?_ | refine ElemN.go ?_ | refine ExtN.ext ?_ | refine finGo ?_) <;> try (conv => whnf)
          exact no e
        cases hp : plainV (.mk vk vn vt vl) <;> rw [hp] at c3 e
        · conv => whnf
          repeat' (first | (refine CallN.one c1 ?_) | (refine CallN.one c2 ?_) | (refine CallN.one c3 ?_) | refine OrdN.go ?_ | refine Fork.yp ?_ | refine Need.go ?_ | refine Need.draw ?_ | refine ElemN.go ?_ | refine ExtN.ext ?_ | refine finGo ?_) <;> try (conv => whnf)
          exact no e
        cases hb : Op.bytesLess q.toList s.toList <;> rw [hb] at e <;> have hb' := congrArg not hb <;> dsimp only [not] at hb'
        · conv => whnf
          repeat' (first | (refine CallN.one c1 ?_) | (refine CallN.one c2 ?_) | (refine CallN.one c3 ?_) | refine OrdN.go ?_ | refine Fork.yp ?_ | refine Fork.yb ?_ | refine Need.go ?_ | refine Need.draw ?_ | refine ElemN.go ?_ | refine ExtN.ext ?_ | refine finGo ?_) <;> try (conv => whnf)
          exact no e
        conv => whnf
        repeat' (first | (refine CallN.one c1 ?_) | (refine CallN.one c2 ?_) | (refine CallN.one c3 ?_) | refine OrdN.go ?_ | refine Fork.yp ?_ | refine Fork.nb ?_ | refine Need.go ?_ | refine Need.draw ?_ | refine ElemN.go ?_ | refine ExtN.ext ?_) <;> try (conv => whnf)
        refine hK (j + 2) _ _ ⟨by omega, stepAll h2 e⟩ (by omega) ?_
        (refine ⟨rfl, ?_, ?_, Sub.refl _⟩ <;> repeat' (first | exact EnvLe.nil | exact LocsLe.nil | refine EnvLe.cons _ _ _ ?_ ?_ | refine LocsLe.cons _ _ _ ?_ ?_ | exact CVle.same _ rfl | exact CVle.vec _ _ | exact CVle.nil | exact CVle.tok _ _ _ rfl rfl | exact ObLe.tok _ _ rfl | exact CVles.nil | refine CVles.cons ?_ ?_ | exact ObLe.same _ rfl rfl | refine ObLe.cells rfl ?_))
    · have hall : ∀ i, i < l.length → propAt l i = true := fun j hj => h2 j (by omega)
      by_cases h3 : l.length ≤ 4
      · conv => whnf
        repeat' (first | refine Fork.yp ?_ | refine Fork.np ?_ | refine finGo ?_) <;> try (conv => whnf)
        exact ansB (by unfold propsOk; rw [decide_eq_true h3, range_yes hall]; rfl)
      · conv => whnf
        repeat' (first | refine Fork.np ?_ | refine finGo ?_) <;> try (conv => whnf)
        exact ansB (by unfold propsOk; rw [decide_eq_false h3]; rfl)
  · (refine ⟨rfl, ?_, ?_, Sub.refl _⟩ <;> repeat' (first | exact EnvLe.nil | exact LocsLe.nil | refine EnvLe.cons _ _ _ ?_ ?_ | refine LocsLe.cons _ _ _ ?_ ?_ | exact CVle.same _ rfl | exact CVle.vec _ _ | exact CVle.nil | exact CVle.tok _ _ _ rfl rfl | exact ObLe.tok _ _ rfl | exact CVles.nil | refine CVles.cons ?_ ?_ | exact ObLe.same _ rfl rfl | refine ObLe.cells rfl ?_))
structure Nd where
  id : Int
  labels : List ByteArray
  props : List Pr
structure Ed where
  id : Int
  kind : ByteArray
  src : Int
  dst : Int
  props : List Pr
structure Gr where
  nodes : List Nd
  edges : List Ed
  nn : Int
  ne : Int
def Nd.cv (n : Nd) : CV := .agg [i64 n.id, .vec (strs n.labels), .vec (prs n.props)]
def Ed.cv (e : Ed) : CV := .agg [i64 e.id, .sc (.string e.kind), i64 e.src, i64 e.dst, .vec (prs e.props)]
def nds (l : List Nd) : List CV := l.map Nd.cv
def eds (l : List Ed) : List CV := l.map Ed.cv
def Gr.cv (g : Gr) : CV := .agg [.vec (nds g.nodes), .vec (eds g.edges), i64 g.nn, i64 g.ne]
structure NdTame (n : Nd) : Prop where
  ll : n.labels.length ≤ 1000
  ls : ∀ s ∈ n.labels, s.size ≤ 1000
  pl : n.props.length ≤ 1000
  ps : ∀ p ∈ n.props, PrTame p
structure EdTame (n : Ed) : Prop where
  kind : n.kind.size ≤ 1000
  pl : n.props.length ≤ 1000
  ps : ∀ p ∈ n.props, PrTame p
structure GrTame (g : Gr) : Prop where
  nl : g.nodes.length ≤ 1000
  el : g.edges.length ≤ 1000
  nn : -2000000000 ≤ g.nn ∧ g.nn ≤ 2000000000
  ne : -2000000000 ≤ g.ne ∧ g.ne ≤ 2000000000
  ns : ∀ n ∈ g.nodes, NdTame n
  es : ∀ e ∈ g.edges, EdTame e
def idAt (ids : List Int) (e : Int) (i : Nat) : Bool := match ids[i]? with
  | some x => decide (0 ≤ x ∧ x ≤ e - 1) && match i with
    | 0 => true
    | j + 1 => match ids[j]? with
      | some y => decide (y < x)
      | none => true
  | none => true
def ascOk (ids : List Int) (e : Int) : Bool := (List.range ids.length).all (idAt ids e)
theorem idAt_zero {ids : List Int} {e x : Int} (h : ids[0]? = some x) : idAt ids e 0 = decide (0 ≤ x ∧ x ≤ e - 1) := by unfold idAt; rw [h]; simp
theorem idAt_succ {ids : List Int} {e x y : Int} {j : Nat} (h : ids[j + 1]? = some x) (k : ids[j]? = some y) : idAt ids e (j + 1) = (decide (0 ≤ x ∧ x ≤ e - 1) && decide (y < x)) := by
  unfold idAt; rw [h]; simp only [k]
def placeF : List Int → Int → Nat → Int
  | [], _, _ => -1
  | x :: r, d, k => if x = d then k else placeF r d (k + 1)
theorem drop_cons {α : Type} {l : List α} {i : Nat} {x : α} (h : l[i]? = some x) : l.drop i = x :: l.drop (i + 1) := by
  obtain ⟨hi, e⟩ := List.getElem?_eq_some_iff.1 h
  rw [← e]; exact List.drop_eq_getElem_cons hi
theorem place_hit {ids : List Int} {d : Int} {i : Nat} (h : ids[i]? = some d) : placeF (ids.drop i) d i = i := by rw [drop_cons h]; simp [placeF]
theorem place_miss {ids : List Int} {d x : Int} {i : Nat} (h : ids[i]? = some x) (hx : ¬ x = d) : placeF (ids.drop i) d i = placeF (ids.drop (i + 1)) d (i + 1) := by rw [drop_cons h]; simp [placeF, hx]
theorem place_end {ids : List Int} {d : Int} {i : Nat} (h : ids.length ≤ i) : placeF (ids.drop i) d i = -1 := by rw [List.drop_eq_nil_of_le h]; rfl
def nids (l : List Nd) : List Int := l.map Nd.id
theorem nids_len (l : List Nd) : (nids l).length = l.length := by simp [nids]
theorem nds_len (l : List Nd) : (nds l).length = l.length := by simp [nds]
theorem nds_at {l : List Nd} {i : Nat} (hi : i < l.length) : ∃ d ls ps, (⟨d, ls, ps⟩ : Nd) ∈ l ∧ l[i]? = some (⟨d, ls, ps⟩ : Nd) ∧ (nds l)[i]? = some (.agg [i64 d, .vec (strs ls), .vec (prs ps)]) ∧ (nids l)[i]? = some d := by
  have h := List.getElem_mem hi
  have h2 := List.getElem?_eq_getElem hi
  have h3 : (nds l)[i]? = some (l[i]).cv := by unfold nds; rw [List.getElem?_map, h2]; rfl
  have h4 : (nids l)[i]? = some (l[i]).id := by unfold nids; rw [List.getElem?_map, h2]; rfl
  generalize l[i] = p at h h2 h3 h4
  obtain ⟨d, ls, ps⟩ := p
  exact ⟨d, ls, ps, h, h2, h3, h4⟩
theorem nid_c {σ : Heap} {d : Int} {ls : List ByteArray} {ps : List Pr} : CRun Tryz.prog 155 [(.agg [i64 d, .vec (strs ls), .vec (prs ps)])] σ (· = .ret (i64 d) σ) := by
  refine crun_of (X := X) X_ok X_sat (body := bodyOf Tryz.f155) Tryz.func155 rfl (by kernel_rfl) (by kernel_rfl) ?_
  rw [Tryz.ntmps155]
  conv => whnf
  repeat' (first | refine finGo ?_) <;> try (conv => whnf)
  all_goals rfl
theorem nidof_c {σ : Heap} {ns es : List CV} {a b : Int} : CRun Tryz.prog 81 [.agg [.vec ns, .vec es, i64 a, i64 b]] σ (· = .ret (.agg [.vec ns, .fn (.func 155) [] []]) σ) := by
  refine crun_of (X := X) X_ok X_sat (body := bodyOf Tryz.f81) Tryz.func81 rfl (by kernel_rfl) (by kernel_rfl) ?_
  rw [Tryz.ntmps81]
  conv => whnf
  repeat' (first | refine finGo ?_) <;> try (conv => whnf)
  all_goals rfl
theorem nasc_c {σ : Heap} {l : List Nd} {e : Int} (hl : l.length ≤ 1000) (he : -2000000000 ≤ e ∧ e ≤ 2000000000) : CRun Tryz.prog 82 [.agg [.vec (nds l), .fn (.func 155) [] []], i64 e] σ (· = .ret (.sc (.bool (ascOk (nids l) e))) σ) := by
  have e3 := nds_len l
  have e4 := nids_len l
  refine crun_of (X := X) X_ok X_sat (body := bodyOf Tryz.f82) Tryz.func82 rfl (by kernel_rfl) (by kernel_rfl) ?_
  rw [Tryz.ntmps82]
  have no : ∀ i, i < l.length → idAt (nids l) e i = false → COut.ret (.sc (.bool false)) σ = .ret (.sc (.bool (ascOk (nids l) e))) σ := fun i hi h => ansB (by unfold ascOk; rw [range_no (i := i) (by omega) h])
  conv => whnf
  repeat' (first | refine OrdN.one ?_ | refine Fork.yp ?_ | refine Fork.np ?_ | refine Fork.ny ?_ | refine Fork.nn ?_ | refine Fork.yb ?_ | refine Fork.nb ?_ | refine Fork.dp (fun h => ?_) (fun h => ?_) | refine Fork.dn (fun h => ?_) (fun h => ?_) | (refine Fork.mk (fun h => ?_) (fun h => ?_) <;> simp only [decide_eq_true_eq, decide_eq_false_iff_not, Bool.not_eq_true', Bool.not_eq_false', Bool.or_eq_true, Bool.or_eq_false_iff] at h) | refine GetN.go ?_ | refine Need.ap1 ?_ | refine Need.ap0 ?_ | refine Need.go ?_ | refine Need.draw ?_ | refine ElemN.go ?_ | refine ExtN.ext ?_ | refine ExtN.wr ?_ | refine AllocN.go (fun l hl => ?_) | refine finGo ?_) <;> try (conv => whnf)
  refine LoopN.rule (α := Nat × Int) (fun s => ⟨30, [(1, i64 e), (2, .ptr (.f 2) 0), (4, .sc (.bool false)), (5, i64 s.2), (10, .vec (nds l)), (11, i64 (nds l).length), (12, i64 s.1)], [(2, .cells [.vec (nds l), .fn (.func 155) [] []])]⟩)
    (fun _ => σ) (fun s => l.length - s.1) (fun s => s.1 ≤ l.length ∧ (∀ j, j < s.1 → idAt (nids l) e j = true) ∧ -1 ≤ s.2 ∧ (s.1 = 0 → s.2 = -1) ∧ ∀ j, s.1 = j + 1 → (nids l)[j]? = some s.2) ?_ (0, -1) ⟨by omega, by omega, by omega, by omega, by omega⟩ ?_
  · rintro ⟨i, last⟩ K ⟨h1, h2, h3, h4, h5⟩ hK
    dsimp only at h1 h2 h3 h4 h5 ⊢
    by_cases hi : i < l.length
    · obtain ⟨d, ls, ps, hm, hg, hg', hd⟩ := nds_at hi
      have no := no i hi
      have c1 := @nid_c σ d ls ps
      have hlast : ∀ j, i + 1 = j + 1 → (nids l)[j]? = some d := fun j hj => by
        have e : j = i := by omega
        rw [e]; exact hd
      have key : idAt (nids l) e i = (decide (last < d ∧ d < e)) := by
        cases i with
        | zero => rw [idAt_zero hd]; have := h4 rfl; exact decide_eq_decide.2 (by omega)
        | succ j => rw [idAt_succ hd (h5 j rfl), ← Bool.decide_and]; exact decide_eq_decide.2 (by omega)
      by_cases hk : last < d ∧ d < e
      · rw [decide_eq_true hk] at key
        conv => whnf
        repeat' (first | (refine CallN.one c1 ?_) | refine Fork.yp ?_ | refine Fork.np ?_ | refine Need.go ?_ | refine ElemN.go ?_ | refine ExtN.ext ?_) <;> try (conv => whnf)
        refine hK (i + 1, d) _ _ ⟨by dsimp only; omega, stepAll h2 key, by dsimp only; omega, by dsimp only; omega, hlast⟩ (by dsimp only; omega) ?_
        (refine ⟨rfl, ?_, ?_, Sub.refl _⟩ <;> repeat' (first | exact EnvLe.nil | exact LocsLe.nil | refine EnvLe.cons _ _ _ ?_ ?_ | refine LocsLe.cons _ _ _ ?_ ?_ | exact CVle.same _ rfl | exact CVle.vec _ _ | exact CVle.nil | exact CVle.tok _ _ _ rfl rfl | exact ObLe.tok _ _ rfl | exact CVles.nil | refine CVles.cons ?_ ?_ | exact ObLe.same _ rfl rfl | refine ObLe.cells rfl ?_))
      · rw [decide_eq_false hk] at key
        conv => whnf
        repeat' (first | (refine CallN.one c1 ?_) | refine Fork.yp ?_ | refine Fork.dp (fun h => ?_) (fun h => ?_) | refine Need.go ?_ | refine ElemN.go ?_ | refine ExtN.ext ?_ | refine finGo ?_) <;> try (conv => whnf)
        all_goals exact no key
    · have hall : ∀ i, i < (nids l).length → idAt (nids l) e i = true := fun j hj => h2 j (by omega)
      conv => whnf
      repeat' (first | refine Fork.np ?_ | refine finGo ?_) <;> try (conv => whnf)
      exact ansB (by unfold ascOk; rw [range_yes hall])
  · (refine ⟨rfl, ?_, ?_, Sub.refl _⟩ <;> repeat' (first | exact EnvLe.nil | exact LocsLe.nil | refine EnvLe.cons _ _ _ ?_ ?_ | refine LocsLe.cons _ _ _ ?_ ?_ | exact CVle.same _ rfl | exact CVle.vec _ _ | exact CVle.nil | exact CVle.tok _ _ _ rfl rfl | exact ObLe.tok _ _ rfl | exact CVles.nil | refine CVles.cons ?_ ?_ | exact ObLe.same _ rfl rfl | refine ObLe.cells rfl ?_))
theorem nplace_c {σ : Heap} {l : List Nd} {d' : Int} (hl : l.length ≤ 1000) : CRun Tryz.prog 87 [.agg [.vec (nds l), .fn (.func 155) [] []], i64 d'] σ (· = .ret (i64 (placeF (nids l) d' 0)) σ) := by
  have e3 := nds_len l
  have e4 := nids_len l
  refine crun_of (X := X) X_ok X_sat (body := bodyOf Tryz.f87) Tryz.func87 rfl (by kernel_rfl) (by kernel_rfl) ?_
  rw [Tryz.ntmps87]
  conv => whnf
  repeat' (first | refine OrdN.one ?_ | refine Fork.yp ?_ | refine Fork.np ?_ | refine Fork.ny ?_ | refine Fork.nn ?_ | refine Fork.yb ?_ | refine Fork.nb ?_ | refine Fork.dp (fun h => ?_) (fun h => ?_) | refine Fork.dn (fun h => ?_) (fun h => ?_) | (refine Fork.mk (fun h => ?_) (fun h => ?_) <;> simp only [decide_eq_true_eq, decide_eq_false_iff_not, Bool.not_eq_true', Bool.not_eq_false', Bool.or_eq_true, Bool.or_eq_false_iff] at h) | refine GetN.go ?_ | refine Need.ap1 ?_ | refine Need.ap0 ?_ | refine Need.go ?_ | refine Need.draw ?_ | refine ElemN.go ?_ | refine ExtN.ext ?_ | refine ExtN.wr ?_ | refine AllocN.go (fun l hl => ?_) | refine finGo ?_) <;> try (conv => whnf)
  refine LoopN.rule (α := Nat) (fun i => ⟨23, [(1, i64 d'), (2, .ptr (.f 2) 0), (8, .vec (nds l)), (9, i64 (nds l).length), (10, i64 i)], [(2, .cells [.vec (nds l), .fn (.func 155) [] []])]⟩)
    (fun _ => σ) (fun i => l.length - i) (fun i => i ≤ l.length ∧ placeF (nids l) d' 0 = placeF ((nids l).drop i) d' i) ?_ 0 ⟨by omega, rfl⟩ ?_
  · rintro i K ⟨h1, h2⟩ hK
    dsimp only at h1 h2 ⊢
    by_cases hi : i < l.length
    · obtain ⟨d, ls, ps, hm, hg, hg', hd⟩ := nds_at hi
      have c1 := @nid_c σ d ls ps
      by_cases hk : d = d'
      · conv => whnf
        repeat' (first | (refine CallN.one c1 ?_) | refine Fork.yp ?_ | refine Need.go ?_ | refine ElemN.go ?_ | refine ExtN.ext ?_ | refine finGo ?_) <;> try (conv => whnf)
        exact ansI (by rw [h2]; subst hk; exact place_hit hd)
      · conv => whnf
        repeat' (first | (refine CallN.one c1 ?_) | refine Fork.yp ?_ | refine Fork.np ?_ | refine Need.go ?_ | refine ElemN.go ?_ | refine ExtN.ext ?_) <;> try (conv => whnf)
        refine hK (i + 1) _ _ ⟨by omega, by rw [h2]; exact place_miss hd hk⟩ (by omega) ?_
        (refine ⟨rfl, ?_, ?_, Sub.refl _⟩ <;> repeat' (first | exact EnvLe.nil | exact LocsLe.nil | refine EnvLe.cons _ _ _ ?_ ?_ | refine LocsLe.cons _ _ _ ?_ ?_ | exact CVle.same _ rfl | exact CVle.vec _ _ | exact CVle.nil | exact CVle.tok _ _ _ rfl rfl | exact ObLe.tok _ _ rfl | exact CVles.nil | refine CVles.cons ?_ ?_ | exact ObLe.same _ rfl rfl | refine ObLe.cells rfl ?_))
    · conv => whnf
      repeat' (first | refine Fork.np ?_ | refine finGo ?_) <;> try (conv => whnf)
      exact ansI (by rw [h2]; exact place_end (by omega))
  · (refine ⟨rfl, ?_, ?_, Sub.refl _⟩ <;> repeat' (first | exact EnvLe.nil | exact LocsLe.nil | refine EnvLe.cons _ _ _ ?_ ?_ | refine LocsLe.cons _ _ _ ?_ ?_ | exact CVle.same _ rfl | exact CVle.vec _ _ | exact CVle.nil | exact CVle.tok _ _ _ rfl rfl | exact ObLe.tok _ _ rfl | exact CVles.nil | refine CVles.cons ?_ ?_ | exact ObLe.same _ rfl rfl | refine ObLe.cells rfl ?_))
theorem nl2_c {σ : Heap} {g : Gr} {d' : Int} (hl : g.nodes.length ≤ 1000) : CRun Tryz.prog 104 [.agg [.vec (nds g.nodes), .vec (eds g.edges), i64 g.nn, i64 g.ne], i64 d'] σ (· = .ret (i64 (placeF (nids g.nodes) d' 0)) σ) := by
  have e3 := nds_len g.nodes
  have e4 := nids_len g.nodes
  refine crun_of (X := X) X_ok X_sat (body := bodyOf Tryz.f104) Tryz.func104 rfl (by kernel_rfl) (by kernel_rfl) ?_
  rw [Tryz.ntmps104]
  conv => whnf
  repeat' (first | refine OrdN.one ?_ | refine Fork.yp ?_ | refine Fork.np ?_ | refine Fork.ny ?_ | refine Fork.nn ?_ | refine Fork.yb ?_ | refine Fork.nb ?_ | refine Fork.dp (fun h => ?_) (fun h => ?_) | refine Fork.dn (fun h => ?_) (fun h => ?_) | (refine Fork.mk (fun h => ?_) (fun h => ?_) <;> simp only [decide_eq_true_eq, decide_eq_false_iff_not, Bool.not_eq_true', Bool.not_eq_false', Bool.or_eq_true, Bool.or_eq_false_iff] at h) | refine GetN.go ?_ | refine Need.ap1 ?_ | refine Need.ap0 ?_ | refine Need.go ?_ | refine Need.draw ?_ | refine ElemN.go ?_ | refine ExtN.ext ?_ | refine ExtN.wr ?_ | refine AllocN.go (fun l hl => ?_) | refine finGo ?_) <;> try (conv => whnf)
  refine LoopN.rule (α := Nat) (fun i => ⟨22, [(1, i64 d'), (2, .ptr (.f 2) 0), (5, i64 i)], [(2, .cells [.vec (nds g.nodes), .vec (eds g.edges), i64 g.nn, i64 g.ne])]⟩)
    (fun _ => σ) (fun i => g.nodes.length - i) (fun i => i ≤ g.nodes.length ∧ placeF (nids g.nodes) d' 0 = placeF ((nids g.nodes).drop i) d' i) ?_ 0 ⟨by omega, rfl⟩ ?_
  · rintro i K ⟨h1, h2⟩ hK
    dsimp only at h1 h2 ⊢
    by_cases hi : i < g.nodes.length
    · obtain ⟨d, ls, ps, hm, hg, hg', hd⟩ := nds_at hi
      by_cases hk : d = d'
      · conv => whnf
        repeat' (first | refine Fork.yp ?_ | refine Need.go ?_ | refine ElemN.go ?_ | refine finGo ?_) <;> try (conv => whnf)
        exact ansI (by rw [h2]; subst hk; exact place_hit hd)
      · conv => whnf
        repeat' (first | refine Fork.yp ?_ | refine Fork.np ?_ | refine Need.go ?_ | refine ElemN.go ?_) <;> try (conv => whnf)
        refine hK (i + 1) _ _ ⟨by omega, by rw [h2]; exact place_miss hd hk⟩ (by omega) ?_
        (refine ⟨rfl, ?_, ?_, Sub.refl _⟩ <;> repeat' (first | exact EnvLe.nil | exact LocsLe.nil | refine EnvLe.cons _ _ _ ?_ ?_ | refine LocsLe.cons _ _ _ ?_ ?_ | exact CVle.same _ rfl | exact CVle.vec _ _ | exact CVle.nil | exact CVle.tok _ _ _ rfl rfl | exact ObLe.tok _ _ rfl | exact CVles.nil | refine CVles.cons ?_ ?_ | exact ObLe.same _ rfl rfl | refine ObLe.cells rfl ?_))
    · conv => whnf
      repeat' (first | refine Fork.np ?_ | refine finGo ?_) <;> try (conv => whnf)
      exact ansI (by rw [h2]; exact place_end (by omega))
  · (refine ⟨rfl, ?_, ?_, Sub.refl _⟩ <;> repeat' (first | exact EnvLe.nil | exact LocsLe.nil | refine EnvLe.cons _ _ _ ?_ ?_ | refine LocsLe.cons _ _ _ ?_ ?_ | exact CVle.same _ rfl | exact CVle.vec _ _ | exact CVle.nil | exact CVle.tok _ _ _ rfl rfl | exact ObLe.tok _ _ rfl | exact CVles.nil | refine CVles.cons ?_ ?_ | exact ObLe.same _ rfl rfl | refine ObLe.cells rfl ?_))
def eids (l : List Ed) : List Int := l.map Ed.id
theorem eids_len (l : List Ed) : (eids l).length = l.length := by simp [eids]
theorem eds_len (l : List Ed) : (eds l).length = l.length := by simp [eds]
theorem eds_at {l : List Ed} {i : Nat} (hi : i < l.length) : ∃ d k a b ps, (⟨d, k, a, b, ps⟩ : Ed) ∈ l ∧ l[i]? = some (⟨d, k, a, b, ps⟩ : Ed) ∧ (eds l)[i]? = some (.agg [i64 d, .sc (.string k), i64 a, i64 b, .vec (prs ps)]) ∧ (eids l)[i]? = some d := by
  have h := List.getElem_mem hi
  have h2 := List.getElem?_eq_getElem hi
  have h3 : (eds l)[i]? = some (l[i]).cv := by unfold eds; rw [List.getElem?_map, h2]; rfl
  have h4 : (eids l)[i]? = some (l[i]).id := by unfold eids; rw [List.getElem?_map, h2]; rfl
  generalize l[i] = p at h h2 h3 h4
  obtain ⟨d, k, a, b, ps⟩ := p
  exact ⟨d, k, a, b, ps, h, h2, h3, h4⟩
theorem eid_c {σ : Heap} {d : Int} {k : ByteArray} {a b : Int} {ps : List Pr} : CRun Tryz.prog 156 [(.agg [i64 d, .sc (.string k), i64 a, i64 b, .vec (prs ps)])] σ (· = .ret (i64 d) σ) := by
  refine crun_of (X := X) X_ok X_sat (body := bodyOf Tryz.f156) Tryz.func156 rfl (by kernel_rfl) (by kernel_rfl) ?_
  rw [Tryz.ntmps156]
  conv => whnf
  repeat' (first | refine finGo ?_) <;> try (conv => whnf)
  all_goals rfl
theorem eidof_c {σ : Heap} {ns es : List CV} {a b : Int} : CRun Tryz.prog 83 [.agg [.vec ns, .vec es, i64 a, i64 b]] σ (· = .ret (.agg [.vec es, .fn (.func 156) [] []]) σ) := by
  refine crun_of (X := X) X_ok X_sat (body := bodyOf Tryz.f83) Tryz.func83 rfl (by kernel_rfl) (by kernel_rfl) ?_
  rw [Tryz.ntmps83]
  conv => whnf
  repeat' (first | refine finGo ?_) <;> try (conv => whnf)
  all_goals rfl
theorem easc_c {σ : Heap} {l : List Ed} {e : Int} (hl : l.length ≤ 1000) (he : -2000000000 ≤ e ∧ e ≤ 2000000000) : CRun Tryz.prog 84 [.agg [.vec (eds l), .fn (.func 156) [] []], i64 e] σ (· = .ret (.sc (.bool (ascOk (eids l) e))) σ) := by
  have e3 := eds_len l
  have e4 := eids_len l
  refine crun_of (X := X) X_ok X_sat (body := bodyOf Tryz.f84) Tryz.func84 rfl (by kernel_rfl) (by kernel_rfl) ?_
  rw [Tryz.ntmps84]
  have no : ∀ i, i < l.length → idAt (eids l) e i = false → COut.ret (.sc (.bool false)) σ = .ret (.sc (.bool (ascOk (eids l) e))) σ := fun i hi h => ansB (by unfold ascOk; rw [range_no (i := i) (by omega) h])
  conv => whnf
  repeat' (first | refine OrdN.one ?_ | refine Fork.yp ?_ | refine Fork.np ?_ | refine Fork.ny ?_ | refine Fork.nn ?_ | refine Fork.yb ?_ | refine Fork.nb ?_ | refine Fork.dp (fun h => ?_) (fun h => ?_) | refine Fork.dn (fun h => ?_) (fun h => ?_) | (refine Fork.mk (fun h => ?_) (fun h => ?_) <;> simp only [decide_eq_true_eq, decide_eq_false_iff_not, Bool.not_eq_true', Bool.not_eq_false', Bool.or_eq_true, Bool.or_eq_false_iff] at h) | refine GetN.go ?_ | refine Need.ap1 ?_ | refine Need.ap0 ?_ | refine Need.go ?_ | refine Need.draw ?_ | refine ElemN.go ?_ | refine ExtN.ext ?_ | refine ExtN.wr ?_ | refine AllocN.go (fun l hl => ?_) | refine finGo ?_) <;> try (conv => whnf)
  refine LoopN.rule (α := Nat × Int) (fun s => ⟨30, [(1, i64 e), (2, .ptr (.f 2) 0), (4, .sc (.bool false)), (5, i64 s.2), (10, .vec (eds l)), (11, i64 (eds l).length), (12, i64 s.1)], [(2, .cells [.vec (eds l), .fn (.func 156) [] []])]⟩)
    (fun _ => σ) (fun s => l.length - s.1) (fun s => s.1 ≤ l.length ∧ (∀ j, j < s.1 → idAt (eids l) e j = true) ∧ -1 ≤ s.2 ∧ (s.1 = 0 → s.2 = -1) ∧ ∀ j, s.1 = j + 1 → (eids l)[j]? = some s.2) ?_ (0, -1) ⟨by omega, by omega, by omega, by omega, by omega⟩ ?_
  · rintro ⟨i, last⟩ K ⟨h1, h2, h3, h4, h5⟩ hK
    dsimp only at h1 h2 h3 h4 h5 ⊢
    by_cases hi : i < l.length
    · obtain ⟨d, k, a, b, ps, hm, hg, hg', hd⟩ := eds_at hi
      have no := no i hi
      have c1 := @eid_c σ d k a b ps
      have hlast : ∀ j, i + 1 = j + 1 → (eids l)[j]? = some d := fun j hj => by
        have e : j = i := by omega
        rw [e]; exact hd
      have key : idAt (eids l) e i = (decide (last < d ∧ d < e)) := by
        cases i with
        | zero => rw [idAt_zero hd]; have := h4 rfl; exact decide_eq_decide.2 (by omega)
        | succ j => rw [idAt_succ hd (h5 j rfl), ← Bool.decide_and]; exact decide_eq_decide.2 (by omega)
      by_cases hk : last < d ∧ d < e
      · rw [decide_eq_true hk] at key
        conv => whnf
        repeat' (first | (refine CallN.one c1 ?_) | refine Fork.yp ?_ | refine Fork.np ?_ | refine Need.go ?_ | refine ElemN.go ?_ | refine ExtN.ext ?_) <;> try (conv => whnf)
        refine hK (i + 1, d) _ _ ⟨by dsimp only; omega, stepAll h2 key, by dsimp only; omega, by dsimp only; omega, hlast⟩ (by dsimp only; omega) ?_
        (refine ⟨rfl, ?_, ?_, Sub.refl _⟩ <;> repeat' (first | exact EnvLe.nil | exact LocsLe.nil | refine EnvLe.cons _ _ _ ?_ ?_ | refine LocsLe.cons _ _ _ ?_ ?_ | exact CVle.same _ rfl | exact CVle.vec _ _ | exact CVle.nil | exact CVle.tok _ _ _ rfl rfl | exact ObLe.tok _ _ rfl | exact CVles.nil | refine CVles.cons ?_ ?_ | exact ObLe.same _ rfl rfl | refine ObLe.cells rfl ?_))
      · rw [decide_eq_false hk] at key
        conv => whnf
        repeat' (first | (refine CallN.one c1 ?_) | refine Fork.yp ?_ | refine Fork.dp (fun h => ?_) (fun h => ?_) | refine Need.go ?_ | refine ElemN.go ?_ | refine ExtN.ext ?_ | refine finGo ?_) <;> try (conv => whnf)
        all_goals exact no key
    · have hall : ∀ i, i < (eids l).length → idAt (eids l) e i = true := fun j hj => h2 j (by omega)
      conv => whnf
      repeat' (first | refine Fork.np ?_ | refine finGo ?_) <;> try (conv => whnf)
      exact ansB (by unfold ascOk; rw [range_yes hall])
  · (refine ⟨rfl, ?_, ?_, Sub.refl _⟩ <;> repeat' (first | exact EnvLe.nil | exact LocsLe.nil | refine EnvLe.cons _ _ _ ?_ ?_ | refine LocsLe.cons _ _ _ ?_ ?_ | exact CVle.same _ rfl | exact CVle.vec _ _ | exact CVle.nil | exact CVle.tok _ _ _ rfl rfl | exact ObLe.tok _ _ rfl | exact CVles.nil | refine CVles.cons ?_ ?_ | exact ObLe.same _ rfl rfl | refine ObLe.cells rfl ?_))
theorem eplace_c {σ : Heap} {l : List Ed} {d' : Int} (hl : l.length ≤ 1000) : CRun Tryz.prog 239 [.agg [.vec (eds l), .fn (.func 156) [] []], i64 d'] σ (· = .ret (i64 (placeF (eids l) d' 0)) σ) := by
  have e3 := eds_len l
  have e4 := eids_len l
  refine crun_of (X := X) X_ok X_sat (body := bodyOf Tryz.f239) Tryz.func239 rfl (by kernel_rfl) (by kernel_rfl) ?_
  rw [Tryz.ntmps239]
  conv => whnf
  repeat' (first | refine OrdN.one ?_ | refine Fork.yp ?_ | refine Fork.np ?_ | refine Fork.ny ?_ | refine Fork.nn ?_ | refine Fork.yb ?_ | refine Fork.nb ?_ | refine Fork.dp (fun h => ?_) (fun h => ?_) | refine Fork.dn (fun h => ?_) (fun h => ?_) | (refine Fork.mk (fun h => ?_) (fun h => ?_) <;> simp only [decide_eq_true_eq, decide_eq_false_iff_not, Bool.not_eq_true', Bool.not_eq_false', Bool.or_eq_true, Bool.or_eq_false_iff] at h) | refine GetN.go ?_ | refine Need.ap1 ?_ | refine Need.ap0 ?_ | refine Need.go ?_ | refine Need.draw ?_ | refine ElemN.go ?_ | refine ExtN.ext ?_ | refine ExtN.wr ?_ | refine AllocN.go (fun l hl => ?_) | refine finGo ?_) <;> try (conv => whnf)
  refine LoopN.rule (α := Nat) (fun i => ⟨23, [(1, i64 d'), (2, .ptr (.f 2) 0), (8, .vec (eds l)), (9, i64 (eds l).length), (10, i64 i)], [(2, .cells [.vec (eds l), .fn (.func 156) [] []])]⟩)
    (fun _ => σ) (fun i => l.length - i) (fun i => i ≤ l.length ∧ placeF (eids l) d' 0 = placeF ((eids l).drop i) d' i) ?_ 0 ⟨by omega, rfl⟩ ?_
  · rintro i K ⟨h1, h2⟩ hK
    dsimp only at h1 h2 ⊢
    by_cases hi : i < l.length
    · obtain ⟨d, k, a, b, ps, hm, hg, hg', hd⟩ := eds_at hi
      have c1 := @eid_c σ d k a b ps
      by_cases hk : d = d'
      · conv => whnf
        repeat' (first | (refine CallN.one c1 ?_) | refine Fork.yp ?_ | refine Need.go ?_ | refine ElemN.go ?_ | refine ExtN.ext ?_ | refine finGo ?_) <;> try (conv => whnf)
        exact ansI (by rw [h2]; subst hk; exact place_hit hd)
      · conv => whnf
        repeat' (first | (refine CallN.one c1 ?_) | refine Fork.yp ?_ | refine Fork.np ?_ | refine Need.go ?_ | refine ElemN.go ?_ | refine ExtN.ext ?_) <;> try (conv => whnf)
        refine hK (i + 1) _ _ ⟨by omega, by rw [h2]; exact place_miss hd hk⟩ (by omega) ?_
        (refine ⟨rfl, ?_, ?_, Sub.refl _⟩ <;> repeat' (first | exact EnvLe.nil | exact LocsLe.nil | refine EnvLe.cons _ _ _ ?_ ?_ | refine LocsLe.cons _ _ _ ?_ ?_ | exact CVle.same _ rfl | exact CVle.vec _ _ | exact CVle.nil | exact CVle.tok _ _ _ rfl rfl | exact ObLe.tok _ _ rfl | exact CVles.nil | refine CVles.cons ?_ ?_ | exact ObLe.same _ rfl rfl | refine ObLe.cells rfl ?_))
    · conv => whnf
      repeat' (first | refine Fork.np ?_ | refine finGo ?_) <;> try (conv => whnf)
      exact ansI (by rw [h2]; exact place_end (by omega))
  · (refine ⟨rfl, ?_, ?_, Sub.refl _⟩ <;> repeat' (first | exact EnvLe.nil | exact LocsLe.nil | refine EnvLe.cons _ _ _ ?_ ?_ | refine LocsLe.cons _ _ _ ?_ ?_ | exact CVle.same _ rfl | exact CVle.vec _ _ | exact CVle.nil | exact CVle.tok _ _ _ rfl rfl | exact ObLe.tok _ _ rfl | exact CVles.nil | refine CVles.cons ?_ ?_ | exact ObLe.same _ rfl rfl | refine ObLe.cells rfl ?_))
theorem el2_c {σ : Heap} {g : Gr} {d' : Int} (hl : g.edges.length ≤ 1000) : CRun Tryz.prog 242 [.agg [.vec (nds g.nodes), .vec (eds g.edges), i64 g.nn, i64 g.ne], i64 d'] σ (· = .ret (i64 (placeF (eids g.edges) d' 0)) σ) := by
  have e3 := eds_len g.edges
  have e4 := eids_len g.edges
  refine crun_of (X := X) X_ok X_sat (body := bodyOf Tryz.f242) Tryz.func242 rfl (by kernel_rfl) (by kernel_rfl) ?_
  rw [Tryz.ntmps242]
  conv => whnf
  repeat' (first | refine OrdN.one ?_ | refine Fork.yp ?_ | refine Fork.np ?_ | refine Fork.ny ?_ | refine Fork.nn ?_ | refine Fork.yb ?_ | refine Fork.nb ?_ | refine Fork.dp (fun h => ?_) (fun h => ?_) | refine Fork.dn (fun h => ?_) (fun h => ?_) | (refine Fork.mk (fun h => ?_) (fun h => ?_) <;> simp only [decide_eq_true_eq, decide_eq_false_iff_not, Bool.not_eq_true', Bool.not_eq_false', Bool.or_eq_true, Bool.or_eq_false_iff] at h) | refine GetN.go ?_ | refine Need.ap1 ?_ | refine Need.ap0 ?_ | refine Need.go ?_ | refine Need.draw ?_ | refine ElemN.go ?_ | refine ExtN.ext ?_ | refine ExtN.wr ?_ | refine AllocN.go (fun l hl => ?_) | refine finGo ?_) <;> try (conv => whnf)
  refine LoopN.rule (α := Nat) (fun i => ⟨22, [(1, i64 d'), (2, .ptr (.f 2) 0), (5, i64 i)], [(2, .cells [.vec (nds g.nodes), .vec (eds g.edges), i64 g.nn, i64 g.ne])]⟩)
    (fun _ => σ) (fun i => g.edges.length - i) (fun i => i ≤ g.edges.length ∧ placeF (eids g.edges) d' 0 = placeF ((eids g.edges).drop i) d' i) ?_ 0 ⟨by omega, rfl⟩ ?_
  · rintro i K ⟨h1, h2⟩ hK
    dsimp only at h1 h2 ⊢
    by_cases hi : i < g.edges.length
    · obtain ⟨d, k, a, b, ps, hm, hg, hg', hd⟩ := eds_at hi
      by_cases hk : d = d'
      · conv => whnf
        repeat' (first | refine Fork.yp ?_ | refine Need.go ?_ | refine ElemN.go ?_ | refine finGo ?_) <;> try (conv => whnf)
        exact ansI (by rw [h2]; subst hk; exact place_hit hd)
      · conv => whnf
        repeat' (first | refine Fork.yp ?_ | refine Fork.np ?_ | refine Need.go ?_ | refine ElemN.go ?_) <;> try (conv => whnf)
        refine hK (i + 1) _ _ ⟨by omega, by rw [h2]; exact place_miss hd hk⟩ (by omega) ?_
        (refine ⟨rfl, ?_, ?_, Sub.refl _⟩ <;> repeat' (first | exact EnvLe.nil | exact LocsLe.nil | refine EnvLe.cons _ _ _ ?_ ?_ | refine LocsLe.cons _ _ _ ?_ ?_ | exact CVle.same _ rfl | exact CVle.vec _ _ | exact CVle.nil | exact CVle.tok _ _ _ rfl rfl | exact ObLe.tok _ _ rfl | exact CVles.nil | refine CVles.cons ?_ ?_ | exact ObLe.same _ rfl rfl | refine ObLe.cells rfl ?_))
    · conv => whnf
      repeat' (first | refine Fork.np ?_ | refine finGo ?_) <;> try (conv => whnf)
      exact ansI (by rw [h2]; exact place_end (by omega))
  · (refine ⟨rfl, ?_, ?_, Sub.refl _⟩ <;> repeat' (first | exact EnvLe.nil | exact LocsLe.nil | refine EnvLe.cons _ _ _ ?_ ?_ | refine LocsLe.cons _ _ _ ?_ ?_ | exact CVle.same _ rfl | exact CVle.vec _ _ | exact CVle.nil | exact CVle.tok _ _ _ rfl rfl | exact ObLe.tok _ _ rfl | exact CVles.nil | refine CVles.cons ?_ ?_ | exact ObLe.same _ rfl rfl | refine ObLe.cells rfl ?_))
def nodeOkB (n : Nd) : Bool := labelsOk n.labels && propsOk n.props
def edgeOkB (ids : List Int) (e : Ed) : Bool := nameOk e.kind && (propsOk e.props && (decide (0 ≤ placeF ids e.src 0) && decide (0 ≤ placeF ids e.dst 0)))
def graphOk (g : Gr) : Bool := decide ((0 ≤ g.nn ∧ g.nn ≤ 1000000000) ∧ (0 ≤ g.ne ∧ g.ne ≤ 1000000000) ∧ g.nodes.length ≤ 12 ∧ g.edges.length ≤ 16) &&
  (ascOk (nids g.nodes) g.nn && (ascOk (eids g.edges) g.ne && (g.nodes.all nodeOkB && g.edges.all (edgeOkB (nids g.nodes)))))
theorem g_bounds {g : Gr} (h : ¬ ((0 ≤ g.nn ∧ g.nn ≤ 1000000000) ∧ (0 ≤ g.ne ∧ g.ne ≤ 1000000000) ∧ g.nodes.length ≤ 12 ∧ g.edges.length ≤ 16)) : graphOk g = false := by unfold graphOk; rw [decide_eq_false h]; rfl
theorem g_nasc {g : Gr} (h : ascOk (nids g.nodes) g.nn = false) : graphOk g = false := by unfold graphOk; rw [h]; simp
theorem g_easc {g : Gr} (h : ascOk (eids g.edges) g.ne = false) : graphOk g = false := by unfold graphOk; rw [h]; simp
theorem g_node {g : Gr} {n : Nd} (hm : n ∈ g.nodes) (h : nodeOkB n = false) : graphOk g = false := by
  unfold graphOk; rw [show g.nodes.all nodeOkB = false from List.all_eq_false.2 ⟨n, hm, by simp [h]⟩]; simp
theorem g_edge {g : Gr} {n : Ed} (hm : n ∈ g.edges) (h : edgeOkB (nids g.nodes) n = false) : graphOk g = false := by
  unfold graphOk; rw [show g.edges.all (edgeOkB (nids g.nodes)) = false from List.all_eq_false.2 ⟨n, hm, by simp [h]⟩]; simp
theorem all_of {α : Type} {l : List α} {p : α → Bool} (h : ∀ j v, j < l.length → l[j]? = some v → p v = true) : l.all p = true := by
  refine List.all_eq_true.2 fun v hv => ?_
  obtain ⟨j, hj, e⟩ := List.getElem_of_mem hv
  exact h j v hj (by rw [← e]; exact List.getElem?_eq_getElem hj)
theorem g_yes {g : Gr} (h : (0 ≤ g.nn ∧ g.nn ≤ 1000000000) ∧ (0 ≤ g.ne ∧ g.ne ≤ 1000000000) ∧ g.nodes.length ≤ 12 ∧ g.edges.length ≤ 16) (h1 : ascOk (nids g.nodes) g.nn = true) (h2 : ascOk (eids g.edges) g.ne = true)
    (h3 : g.nodes.all nodeOkB = true) (h4 : g.edges.all (edgeOkB (nids g.nodes)) = true) : graphOk g = true := by unfold graphOk; rw [decide_eq_true h, h1, h2, h3, h4]; rfl
theorem stepG {α : Type} {l : List α} {p : α → Prop} {i : Nat} {v : α} (h : ∀ j v, j < i → l[j]? = some v → p v) (hv : l[i]? = some v) (hp : p v) : ∀ j v, j < i + 1 → l[j]? = some v → p v := fun j w hj hw => by
  by_cases e : j = i
  · subst e; rw [hv] at hw; cases hw; exact hp
  · exact h j w (by omega) hw
set_option maxHeartbeats 1000000 in
theorem implGraph_c {σ : Heap} {g : Gr} (hg : GrTame g) : CRun Tryz.prog 38 [g.cv] σ (· = .ret (.sc (.bool (graphOk g))) σ) := by
  obtain ⟨hnl, hel, hnn, hne, hns, hes⟩ := hg
  have e1 := nds_len g.nodes
  have e2 := eds_len g.edges
  by_cases hb : (0 ≤ g.nn ∧ g.nn ≤ 1000000000) ∧ (0 ≤ g.ne ∧ g.ne ≤ 1000000000) ∧ g.nodes.length ≤ 12 ∧ g.edges.length ≤ 16
  case neg =>
    have no : COut.ret (.sc (.bool false)) σ = .ret (.sc (.bool (graphOk g))) σ := ansB (g_bounds hb)
    have cases4 : (¬ (0 ≤ g.nn ∧ g.nn ≤ 1000000000 ∧ 0 ≤ g.ne ∧ g.ne ≤ 1000000000)) ∨ ((0 ≤ g.nn ∧ g.nn ≤ 1000000000 ∧ 0 ≤ g.ne ∧ g.ne ≤ 1000000000) ∧ ¬ (g.nodes.length ≤ 12 ∧ g.edges.length ≤ 16)) := by omega
    rcases cases4 with h4 | ⟨h4, h5⟩
    · have : g.nn < 0 ∨ (0 ≤ g.nn ∧ 1000000000 < g.nn) ∨ ((0 ≤ g.nn ∧ g.nn ≤ 1000000000) ∧ g.ne < 0) ∨ ((0 ≤ g.nn ∧ g.nn ≤ 1000000000) ∧ 0 ≤ g.ne ∧ 1000000000 < g.ne) := by omega
      refine crun_of (X := X) X_ok X_sat (body := bodyOf Tryz.f38) Tryz.func38 rfl (by kernel_rfl) (by kernel_rfl) ?_
      rw [Tryz.ntmps38]
      rcases this with h | h | h | h
      all_goals
        conv => whnf
        repeat' (first | refine Fork.yp ?_ | refine Fork.np ?_ | refine finGo ?_) <;> try (conv => whnf)
        exact no
    · have : 12 < g.nodes.length ∨ (g.nodes.length ≤ 12 ∧ 16 < g.edges.length) := by omega
      refine crun_of (X := X) X_ok X_sat (body := bodyOf Tryz.f38) Tryz.func38 rfl (by kernel_rfl) (by kernel_rfl) ?_
      rw [Tryz.ntmps38]
      rcases this with h | h
      all_goals
        conv => whnf
        repeat' (first | refine Fork.yp ?_ | refine Fork.np ?_ | refine finGo ?_) <;> try (conv => whnf)
        exact no
  have a1 := nasc_c (σ := σ) hnl hnn
  have a2 := easc_c (σ := σ) hel hne
  refine crun_of (X := X) X_ok X_sat (body := bodyOf Tryz.f38) Tryz.func38 rfl (by kernel_rfl) (by kernel_rfl) ?_
  rw [Tryz.ntmps38]
  cases k1 : ascOk (nids g.nodes) g.nn <;> rw [k1] at a1
  · conv => whnf
    repeat' (first | (refine CallN.one nidof_c ?_) | (refine CallN.one a1 ?_) | refine OrdN.one ?_ | refine Fork.np ?_ | refine Need.draw ?_ | refine ExtN.ext ?_ | refine finGo ?_) <;> try (conv => whnf)
    exact ansB (g_nasc k1)
  cases k2 : ascOk (eids g.edges) g.ne <;> rw [k2] at a2
  · conv => whnf
    repeat' (first | (refine CallN.one nidof_c ?_) | (refine CallN.one a1 ?_) | (refine CallN.one eidof_c ?_) | (refine CallN.one a2 ?_) | refine OrdN.one ?_ | refine Fork.np ?_ | refine Need.draw ?_ | refine ExtN.ext ?_ | refine finGo ?_) <;> try (conv => whnf)
    exact ansB (g_easc k2)
  conv => whnf
  repeat' (first | (refine CallN.one nidof_c ?_) | (refine CallN.one a1 ?_) | (refine CallN.one eidof_c ?_) | (refine CallN.one a2 ?_) | refine OrdN.one ?_ | refine Fork.np ?_ | refine Need.draw ?_ | refine ExtN.ext ?_) <;> try (conv => whnf)
  refine LoopN.rule (α := Nat) (fun i => ⟨101, [(1, .ptr (.f 1) 0), (2, .sc (.bool false)), (3, .ptr (.f 3) 0), (52, .vec (nds g.nodes)), (53, i64 (nds g.nodes).length), (54, i64 i)],
      [(1, .cells [.vec (nds g.nodes), .vec (eds g.edges), i64 g.nn, i64 g.ne]), (3, .cells [.vec (nds g.nodes), .fn (.func 155) [] []])]⟩)
    (fun _ => σ) (fun i => g.nodes.length - i) (fun i => i ≤ g.nodes.length ∧ ∀ j v, j < i → g.nodes[j]? = some v → nodeOkB v = true) ?_ 0 ⟨by omega, by omega⟩ ?_
  rotate_left
  · (refine ⟨rfl, ?_, ?_, Sub.refl _⟩ <;> repeat' (first | exact EnvLe.nil | exact LocsLe.nil | refine EnvLe.cons _ _ _ ?_ ?_ | refine LocsLe.cons _ _ _ ?_ ?_ | exact CVle.same _ rfl | exact CVle.vec _ _ | exact CVle.nil | exact CVle.tok _ _ _ rfl rfl | exact ObLe.tok _ _ rfl | exact CVles.nil | refine CVles.cons ?_ ?_ | exact ObLe.same _ rfl rfl | refine ObLe.cells rfl ?_))
  rintro i K ⟨h1, h2⟩ hK
  dsimp only at h1 h2 ⊢
  by_cases hi : i < g.nodes.length
  · obtain ⟨d, ls, ps, hm, hgg, hg', hd⟩ := nds_at hi
    obtain ⟨t1, t2, t3, t4⟩ := hns _ hm
    have c1 := labelsOk_c (σ := σ) t1 t2
    have c2 := propsOk_c (σ := σ) t3 t4
    dsimp only at c1 c2
    cases m1 : labelsOk ls <;> rw [m1] at c1
    · conv => whnf
      repeat' (first | (refine CallN.one c1 ?_) | refine Fork.yp ?_ | refine Need.go ?_ | refine ElemN.go ?_ | refine ExtN.ext ?_ | refine finGo ?_) <;> try (conv => whnf)
      exact ansB (g_node hm (by simp only [nodeOkB]; rw [m1]; rfl))
    cases m2 : propsOk ps <;> rw [m2] at c2
    · conv => whnf
      repeat' (first | (refine CallN.one c1 ?_) | (refine CallN.one c2 ?_) | refine Fork.yp ?_ | refine Need.go ?_ | refine ElemN.go ?_ | refine ExtN.ext ?_ | refine finGo ?_) <;> try (conv => whnf)
      exact ansB (g_node hm (by simp only [nodeOkB]; rw [m1, m2]; rfl))
    conv => whnf
    repeat' (first | (refine CallN.one c1 ?_) | (refine CallN.one c2 ?_) | refine Fork.yp ?_ | refine Need.go ?_ | refine ElemN.go ?_ | refine ExtN.ext ?_) <;> try (conv => whnf)
    refine hK (i + 1) _ _ ⟨by omega, stepG h2 hgg (by simp only [nodeOkB]; rw [m1, m2]; rfl)⟩ (by omega) ?_
    (refine ⟨rfl, ?_, ?_, Sub.refl _⟩ <;> repeat' (first | exact EnvLe.nil | exact LocsLe.nil | refine EnvLe.cons _ _ _ ?_ ?_ | refine LocsLe.cons _ _ _ ?_ ?_ | exact CVle.same _ rfl | exact CVle.vec _ _ | exact CVle.nil | exact CVle.tok _ _ _ rfl rfl | exact ObLe.tok _ _ rfl | exact CVles.nil | refine CVles.cons ?_ ?_ | exact ObLe.same _ rfl rfl | refine ObLe.cells rfl ?_))
  have hall : g.nodes.all nodeOkB = true := all_of fun j v hj => h2 j v (by omega)
  conv => whnf
  repeat' (first | refine Fork.np ?_) <;> try (conv => whnf)
  refine LoopN.rule (α := Nat) (fun i => ⟨101, [(1, .ptr (.f 1) 0), (2, .sc (.bool false)), (3, .ptr (.f 3) 0), (70, .vec (eds g.edges)), (71, i64 (eds g.edges).length), (72, i64 i)],
      [(1, .cells [.vec (nds g.nodes), .vec (eds g.edges), i64 g.nn, i64 g.ne]), (3, .cells [.vec (nds g.nodes), .fn (.func 155) [] []])]⟩)
    (fun _ => σ) (fun i => g.edges.length - i) (fun i => i ≤ g.edges.length ∧ ∀ j v, j < i → g.edges[j]? = some v → edgeOkB (nids g.nodes) v = true) ?_ 0 ⟨by omega, by omega⟩ ?_
  rotate_left
  · (refine ⟨rfl, ?_, ?_, Sub.refl _⟩ <;> repeat' (first | exact EnvLe.nil | exact LocsLe.nil | refine EnvLe.cons _ _ _ ?_ ?_ | refine LocsLe.cons _ _ _ ?_ ?_ | exact CVle.same _ rfl | exact CVle.vec _ _ | exact CVle.nil | exact CVle.tok _ _ _ rfl rfl | exact ObLe.tok _ _ rfl | exact CVles.nil | refine CVles.cons ?_ ?_ | exact ObLe.same _ rfl rfl | refine ObLe.cells rfl ?_))
  clear hK h1 h2 hi K
  clear i
  rintro i K ⟨h1, h2⟩ hK
  dsimp only at h1 h2 ⊢
  by_cases hi : i < g.edges.length
  · obtain ⟨d, k, a, b, ps, hm, hgg, hg', hd⟩ := eds_at hi
    obtain ⟨t1, t3, t4⟩ := hes _ hm
    dsimp only at t1 t3 t4
    have c1 := nameOk_c (σ := σ) (t := k) (by omega)
    have c2 := propsOk_c (σ := σ) t3 t4
    have c3 := fun d' => nplace_c (σ := σ) (d' := d') hnl
    cases m1 : nameOk k <;> rw [m1] at c1
    · conv => whnf
      repeat' (first | (refine CallN.one c1 ?_) | refine Fork.yp ?_ | refine Need.go ?_ | refine ElemN.go ?_ | refine ExtN.ext ?_ | refine finGo ?_) <;> try (conv => whnf)
      exact ansB (g_edge hm (by simp only [edgeOkB]; rw [m1]; rfl))
    cases m2 : propsOk ps <;> rw [m2] at c2
    · conv => whnf
      repeat' (first | (refine CallN.one c1 ?_) | (refine CallN.one c2 ?_) | refine Fork.yp ?_ | refine Need.go ?_ | refine ElemN.go ?_ | refine ExtN.ext ?_ | refine finGo ?_) <;> try (conv => whnf)
      exact ansB (g_edge hm (by simp only [edgeOkB]; rw [m1, m2]; rfl))
    by_cases m3 : 0 ≤ placeF (nids g.nodes) a 0
    case neg =>
      conv => whnf
      repeat' (first | (refine CallN.one c1 ?_) | (refine CallN.one c2 ?_) | (refine CallN.one (c3 _) ?_) | refine Fork.yp ?_ | refine Need.go ?_ | refine ElemN.go ?_ | refine ExtN.ext ?_ | refine finGo ?_) <;> try (conv => whnf)
      exact ansB (g_edge hm (by simp only [edgeOkB]; rw [m1, m2, decide_eq_false m3]; rfl))
    by_cases m4 : 0 ≤ placeF (nids g.nodes) b 0
    case neg =>
      conv => whnf
      repeat' (first | (refine CallN.one c1 ?_) | (refine CallN.one c2 ?_) | (refine CallN.one (c3 _) ?_) | refine Fork.yp ?_ | refine Fork.np ?_ | refine Need.go ?_ | refine ElemN.go ?_ | refine ExtN.ext ?_ | refine finGo ?_) <;> try (conv => whnf)
      exact ansB (g_edge hm (by simp only [edgeOkB]; rw [m1, m2, decide_eq_true m3, decide_eq_false m4]; rfl))
    conv => whnf
    repeat' (first | (refine CallN.one c1 ?_) | (refine CallN.one c2 ?_) | (refine CallN.one (c3 _) ?_) | refine Fork.yp ?_ | refine Fork.np ?_ | refine Need.go ?_ | refine ElemN.go ?_ | refine ExtN.ext ?_) <;> try (conv => whnf)
    refine hK (i + 1) _ _ ⟨by omega, stepG h2 hgg (by simp only [edgeOkB]; rw [m1, m2, decide_eq_true m3, decide_eq_true m4]; rfl)⟩ (by omega) ?_
    (refine ⟨rfl, ?_, ?_, Sub.refl _⟩ <;> repeat' (first | exact EnvLe.nil | exact LocsLe.nil | refine EnvLe.cons _ _ _ ?_ ?_ | refine LocsLe.cons _ _ _ ?_ ?_ | exact CVle.same _ rfl | exact CVle.vec _ _ | exact CVle.nil | exact CVle.tok _ _ _ rfl rfl | exact ObLe.tok _ _ rfl | exact CVles.nil | refine CVles.cons ?_ ?_ | exact ObLe.same _ rfl rfl | refine ObLe.cells rfl ?_))
  have halle : g.edges.all (edgeOkB (nids g.nodes)) = true := all_of fun j v hj => h2 j v (by omega)
  conv => whnf
  repeat' (first | refine Fork.np ?_ | refine finGo ?_) <;> try (conv => whnf)
  exact ansB (g_yes hb k1 k2 hall halle)
theorem pred_at {α : Type} {l : List α} {j : Nat} {x : α} (h : l[j]? = some x) : l[(((j + 1 : Nat) : Int) - 1).toNat]? = some x := by rw [toNat_pred]; exact h
theorem l1In_v {σ : Heap} {n lo hi : Int} {b : Bool} (h : decide (lo ≤ n ∧ n ≤ hi) = b) : CRun Tryz.prog 54 [i64 n, i64 lo, i64 hi] σ (· = .ret (.sc (.bool b)) σ) := h ▸ in_c
set_option maxHeartbeats 2000000 in
theorem specGraph_c {σ : Heap} {g : Gr} (hg : GrTame g) : CRun Tryz.prog 44 [g.cv] σ (· = .ret (.sc (.bool (graphOk g))) σ) := by
  obtain ⟨hnl, hel, hnn, hne, hns, hes⟩ := hg
  have e1 := nds_len g.nodes
  have e2 := eds_len g.edges
  have e3 := nids_len g.nodes
  have e4 := eids_len g.edges
  refine crun_of (X := X) X_ok X_sat (body := bodyOf Tryz.f44) Tryz.func44 rfl (by kernel_rfl) (by kernel_rfl) ?_
  rw [Tryz.ntmps44]
  conv => whnf
  repeat' (first | refine OrdN.one ?_ | refine Fork.yp ?_ | refine Fork.np ?_ | refine Fork.ny ?_ | refine Fork.nn ?_ | refine Fork.yb ?_ | refine Fork.nb ?_ | refine Fork.dp (fun h => ?_) (fun h => ?_) | refine Fork.dn (fun h => ?_) (fun h => ?_) | (refine Fork.mk (fun h => ?_) (fun h => ?_) <;> simp only [decide_eq_true_eq, decide_eq_false_iff_not, Bool.not_eq_true', Bool.not_eq_false', Bool.or_eq_true, Bool.or_eq_false_iff] at h) | refine GetN.go ?_ | refine Need.ap1 ?_ | refine Need.ap0 ?_ | refine Need.go ?_ | refine Need.draw ?_ | refine ElemN.go ?_ | refine ExtN.ext ?_ | refine ExtN.wr ?_ | refine AllocN.go (fun l hl => ?_) | refine finGo ?_) <;> try (conv => whnf)
  refine LoopN.rule (α := Nat) (fun i => ⟨135, [(1, .ptr (.f 1) 0), (2, .sc (.bool false)), (3, i64 i)],
      [(1, .cells [.vec (nds g.nodes), .vec (eds g.edges), i64 g.nn, i64 g.ne])]⟩)
    (fun _ => σ) (fun i => g.nodes.length - i) (fun i => i ≤ g.nodes.length ∧ (∀ j, j < i → idAt (nids g.nodes) g.nn j = true) ∧ ∀ j v, j < i → g.nodes[j]? = some v → nodeOkB v = true) ?_ 0 ⟨by omega, by omega, by omega⟩ ?_
  rotate_left
  · (refine ⟨rfl, ?_, ?_, Sub.refl _⟩ <;> repeat' (first | exact EnvLe.nil | exact LocsLe.nil | refine EnvLe.cons _ _ _ ?_ ?_ | refine LocsLe.cons _ _ _ ?_ ?_ | exact CVle.same _ rfl | exact CVle.vec _ _ | exact CVle.nil | exact CVle.tok _ _ _ rfl rfl | exact ObLe.tok _ _ rfl | exact CVles.nil | refine CVles.cons ?_ ?_ | exact ObLe.same _ rfl rfl | refine ObLe.cells rfl ?_))
  rintro i K ⟨h1, h0, h2⟩ hK
  dsimp only at h1 h0 h2 ⊢
  by_cases hi : i < g.nodes.length
  · obtain ⟨d, ls, ps, hm, hgg, hg', hd⟩ := nds_at hi
    obtain ⟨t1, t2, t3, t4⟩ := hns _ hm
    have c1 := l2Labels_c (σ := σ) t1 t2
    have c2 := l2Props_c (σ := σ) t3 t4
    dsimp only at c1 c2
    have noI : idAt (nids g.nodes) g.nn i = false → graphOk g = false := fun h => g_nasc (by unfold ascOk; exact range_no (by omega) h)
    by_cases m0 : 0 ≤ d ∧ d ≤ g.nn - 1
    case neg =>
      have ci := l1In_v (σ := σ) (decide_eq_false m0)
      have hno : idAt (nids g.nodes) g.nn i = false := by
        cases i with
        | zero => rw [idAt_zero hd, decide_eq_false m0]
        | succ j =>
          obtain ⟨d2, ls2, ps2, hm2, hgg2, hg2', hd2⟩ := nds_at (l := g.nodes) (i := j) (by omega)
          rw [idAt_succ hd hd2, decide_eq_false m0]; rfl
      conv => whnf
      repeat' (first | (refine CallN.one ci ?_) | refine OrdN.one ?_ | refine Fork.yp ?_ | refine Need.go ?_ | refine Need.draw ?_ | refine ElemN.go ?_ | refine ExtN.ext ?_ | refine finGo ?_) <;> try (conv => whnf)
      exact ansB (noI hno)
    have ci := l1In_v (σ := σ) (decide_eq_true m0)
    cases m1 : labelsOk ls <;> rw [m1] at c1
    · conv => whnf
      repeat' (first | (refine CallN.one ci ?_) | (refine CallN.one c1 ?_) | refine OrdN.one ?_ | refine Fork.yp ?_ | refine Need.go ?_ | refine Need.draw ?_ | refine ElemN.go ?_ | refine ExtN.ext ?_ | refine finGo ?_) <;> try (conv => whnf)
      exact ansB (g_node hm (by simp only [nodeOkB]; rw [m1]; rfl))
    cases m2 : propsOk ps <;> rw [m2] at c2
    · conv => whnf
      repeat' (first | (refine CallN.one ci ?_) | (refine CallN.one c1 ?_) | (refine CallN.one c2 ?_) | refine OrdN.one ?_ | refine Fork.yp ?_ | refine Need.go ?_ | refine Need.draw ?_ | refine ElemN.go ?_ | refine ExtN.ext ?_ | refine finGo ?_) <;> try (conv => whnf)
      exact ansB (g_node hm (by simp only [nodeOkB]; rw [m1, m2]; rfl))
    have hnode : nodeOkB ⟨d, ls, ps⟩ = true := by simp only [nodeOkB]; rw [m1, m2]; rfl
    cases i with
    | zero =>
      conv => whnf
      repeat' (first | (refine CallN.one ci ?_) | (refine CallN.one c1 ?_) | (refine CallN.one c2 ?_) | refine OrdN.one ?_ | refine Fork.yp ?_ | refine Fork.np ?_ | refine Need.go ?_ | refine Need.draw ?_ | refine ElemN.go ?_ | refine ExtN.ext ?_) <;> try (conv => whnf)
      refine hK 1 _ _ ⟨by omega, stepAll h0 (by rw [idAt_zero hd, decide_eq_true m0]), stepG h2 hgg hnode⟩ (by omega) ?_
      (refine ⟨rfl, ?_, ?_, Sub.refl _⟩ <;> repeat' (first | exact EnvLe.nil | exact LocsLe.nil | refine EnvLe.cons _ _ _ ?_ ?_ | refine LocsLe.cons _ _ _ ?_ ?_ | exact CVle.same _ rfl | exact CVle.vec _ _ | exact CVle.nil | exact CVle.tok _ _ _ rfl rfl | exact ObLe.tok _ _ rfl | exact CVles.nil | refine CVles.cons ?_ ?_ | exact ObLe.same _ rfl rfl | refine ObLe.cells rfl ?_))
    | succ j =>
      obtain ⟨d2, ls2, ps2, hm2, hgg2, hg2', hd2⟩ := nds_at (l := g.nodes) (i := j) (by omega)
      have hg3 := pred_at hg2'
      have key := idAt_succ (e := g.nn) hd hd2
      rw [decide_eq_true m0] at key
      by_cases m3 : d2 < d
      · rw [decide_eq_true m3] at key
        conv => whnf
        repeat' (first | (refine CallN.one ci ?_) | (refine CallN.one c1 ?_) | (refine CallN.one c2 ?_) | refine OrdN.one ?_ | refine Fork.yp ?_ | refine Fork.np ?_ | refine Need.go ?_ | refine Need.draw ?_ | refine ElemN.go ?_ | refine ExtN.ext ?_) <;> try (conv => whnf)
        refine hK (j + 2) _ _ ⟨by omega, stepAll h0 key, stepG h2 hgg hnode⟩ (by omega) ?_
        (refine ⟨rfl, ?_, ?_, Sub.refl _⟩ <;> repeat' (first | exact EnvLe.nil | exact LocsLe.nil | refine EnvLe.cons _ _ _ ?_ ?_ | refine LocsLe.cons _ _ _ ?_ ?_ | exact CVle.same _ rfl | exact CVle.vec _ _ | exact CVle.nil | exact CVle.tok _ _ _ rfl rfl | exact ObLe.tok _ _ rfl | exact CVles.nil | refine CVles.cons ?_ ?_ | exact ObLe.same _ rfl rfl | refine ObLe.cells rfl ?_))
      · rw [decide_eq_false m3] at key
        conv => whnf
        repeat' (first | (refine CallN.one ci ?_) | (refine CallN.one c1 ?_) | (refine CallN.one c2 ?_) | refine OrdN.one ?_ | refine Fork.yp ?_ | refine Need.go ?_ | refine Need.draw ?_ | refine ElemN.go ?_ | refine ExtN.ext ?_ | refine finGo ?_) <;> try (conv => whnf)
        exact ansB (noI key)
  have hasc : ascOk (nids g.nodes) g.nn = true := by unfold ascOk; exact range_yes fun j hj => h0 j (by omega)
  have hall : g.nodes.all nodeOkB = true := all_of fun j v hj => h2 j v (by omega)
  conv => whnf
  repeat' (first | refine Fork.np ?_) <;> try (conv => whnf)
  refine LoopN.rule (α := Nat) (fun i => ⟨135, [(1, .ptr (.f 1) 0), (2, .sc (.bool false)), (5, i64 i)],
      [(1, .cells [.vec (nds g.nodes), .vec (eds g.edges), i64 g.nn, i64 g.ne])]⟩)
    (fun _ => σ) (fun i => g.edges.length - i) (fun i => i ≤ g.edges.length ∧ (∀ j, j < i → idAt (eids g.edges) g.ne j = true) ∧ ∀ j v, j < i → g.edges[j]? = some v → edgeOkB (nids g.nodes) v = true) ?_ 0 ⟨by omega, by omega, by omega⟩ ?_
  rotate_left
  · (refine ⟨rfl, ?_, ?_, Sub.refl _⟩ <;> repeat' (first | exact EnvLe.nil | exact LocsLe.nil | refine EnvLe.cons _ _ _ ?_ ?_ | refine LocsLe.cons _ _ _ ?_ ?_ | exact CVle.same _ rfl | exact CVle.vec _ _ | exact CVle.nil | exact CVle.tok _ _ _ rfl rfl | exact ObLe.tok _ _ rfl | exact CVles.nil | refine CVles.cons ?_ ?_ | exact ObLe.same _ rfl rfl | refine ObLe.cells rfl ?_))
  clear hK h1 h2 hi K h0
  clear i
  rintro i K ⟨h1, h0, h2⟩ hK
  dsimp only at h1 h0 h2 ⊢
  by_cases hi : i < g.edges.length
  · obtain ⟨d, k, a, b, ps, hm, hgg, hg', hd⟩ := eds_at hi
    obtain ⟨t1, t3, t4⟩ := hes _ hm
    dsimp only at t1 t3 t4
    have c1 := l2Name_c (σ := σ) (t := k) (by omega)
    have c2 := l2Props_c (σ := σ) t3 t4
    have c3 := fun d' => nl2_c (σ := σ) (g := g) (d' := d') hnl
    have noI : idAt (eids g.edges) g.ne i = false → graphOk g = false := fun h => g_easc (by unfold ascOk; exact range_no (by omega) h)
    by_cases m0 : 0 ≤ d ∧ d ≤ g.ne - 1
    case neg =>
      have ci := l1In_v (σ := σ) (decide_eq_false m0)
      have hno : idAt (eids g.edges) g.ne i = false := by
        cases i with
        | zero => rw [idAt_zero hd, decide_eq_false m0]
        | succ j =>
          obtain ⟨d2, k2, a2, b2, ps2, hm2, hgg2, hg2', hd2⟩ := eds_at (l := g.edges) (i := j) (by omega)
          rw [idAt_succ hd hd2, decide_eq_false m0]; rfl
      conv => whnf
      repeat' (first | (refine CallN.one ci ?_) | refine OrdN.one ?_ | refine Fork.yp ?_ | refine Need.go ?_ | refine Need.draw ?_ | refine ElemN.go ?_ | refine ExtN.ext ?_ | refine finGo ?_) <;> try (conv => whnf)
      exact ansB (noI hno)
    have ci := l1In_v (σ := σ) (decide_eq_true m0)
    cases m1 : nameOk k <;> rw [m1] at c1
    · conv => whnf
      repeat' (first | (refine CallN.one ci ?_) | (refine CallN.one c1 ?_) | refine OrdN.one ?_ | refine Fork.yp ?_ | refine Need.go ?_ | refine Need.draw ?_ | refine ElemN.go ?_ | refine ExtN.ext ?_ | refine finGo ?_) <;> try (conv => whnf)
      exact ansB (g_edge hm (by simp only [edgeOkB]; rw [m1]; rfl))
    cases m2 : propsOk ps <;> rw [m2] at c2
    · conv => whnf
      repeat' (first | (refine CallN.one ci ?_) | (refine CallN.one c1 ?_) | (refine CallN.one c2 ?_) | refine OrdN.one ?_ | refine Fork.yp ?_ | refine Need.go ?_ | refine Need.draw ?_ | refine ElemN.go ?_ | refine ExtN.ext ?_ | refine finGo ?_) <;> try (conv => whnf)
      exact ansB (g_edge hm (by simp only [edgeOkB]; rw [m1, m2]; rfl))
    by_cases m3 : 0 ≤ placeF (nids g.nodes) a 0
    case neg =>
      conv => whnf
      repeat' (first | (refine CallN.one ci ?_) | (refine CallN.one c1 ?_) | (refine CallN.one c2 ?_) | (refine CallN.one (c3 _) ?_) | refine OrdN.one ?_ | refine Fork.yp ?_ | refine Need.go ?_ | refine Need.draw ?_ | refine ElemN.go ?_ | refine ExtN.ext ?_ | refine finGo ?_) <;> try (conv => whnf)
      exact ansB (g_edge hm (by simp only [edgeOkB]; rw [m1, m2, decide_eq_false m3]; rfl))
    by_cases m4 : 0 ≤ placeF (nids g.nodes) b 0
    case neg =>
      conv => whnf
      repeat' (first | (refine CallN.one ci ?_) | (refine CallN.one c1 ?_) | (refine CallN.one c2 ?_) | (refine CallN.one (c3 _) ?_) | refine OrdN.one ?_ | refine Fork.yp ?_ | refine Fork.np ?_ | refine Need.go ?_ | refine Need.draw ?_ | refine ElemN.go ?_ | refine ExtN.ext ?_ | refine finGo ?_) <;> try (conv => whnf)
      exact ansB (g_edge hm (by simp only [edgeOkB]; rw [m1, m2, decide_eq_true m3, decide_eq_false m4]; rfl))
    have hedge : edgeOkB (nids g.nodes) ⟨d, k, a, b, ps⟩ = true := by simp only [edgeOkB]; rw [m1, m2, decide_eq_true m3, decide_eq_true m4]; rfl
    cases i with
    | zero =>
      conv => whnf
      repeat' (first | (refine CallN.one ci ?_) | (refine CallN.one c1 ?_) | (refine CallN.one c2 ?_) | (refine CallN.one (c3 _) ?_) | refine OrdN.one ?_ | refine Fork.yp ?_ | refine Fork.np ?_ | refine Need.go ?_ | refine Need.draw ?_ | refine ElemN.go ?_ | refine ExtN.ext ?_) <;> try (conv => whnf)
      refine hK 1 _ _ ⟨by omega, stepAll h0 (by rw [idAt_zero hd, decide_eq_true m0]), stepG h2 hgg hedge⟩ (by omega) ?_
      (refine ⟨rfl, ?_, ?_, Sub.refl _⟩ <;> repeat' (first | exact EnvLe.nil | exact LocsLe.nil | refine EnvLe.cons _ _ _ ?_ ?_ | refine LocsLe.cons _ _ _ ?_ ?_ | exact CVle.same _ rfl | exact CVle.vec _ _ | exact CVle.nil | exact CVle.tok _ _ _ rfl rfl | exact ObLe.tok _ _ rfl | exact CVles.nil | refine CVles.cons ?_ ?_ | exact ObLe.same _ rfl rfl | refine ObLe.cells rfl ?_))
    | succ j =>
      obtain ⟨d2, k2, a2, b2, ps2, hm2, hgg2, hg2', hd2⟩ := eds_at (l := g.edges) (i := j) (by omega)
      have hg3 := pred_at hg2'
      have key := idAt_succ (e := g.ne) hd hd2
      rw [decide_eq_true m0] at key
      by_cases m5 : d2 < d
      · rw [decide_eq_true m5] at key
        conv => whnf
        repeat' (first | (refine CallN.one ci ?_) | (refine CallN.one c1 ?_) | (refine CallN.one c2 ?_) | (refine CallN.one (c3 _) ?_) | refine OrdN.one ?_ | refine Fork.yp ?_ | refine Fork.np ?_ | refine Need.go ?_ | refine Need.draw ?_ | refine ElemN.go ?_ | refine ExtN.ext ?_) <;> try (conv => whnf)
        refine hK (j + 2) _ _ ⟨by omega, stepAll h0 key, stepG h2 hgg hedge⟩ (by omega) ?_
        (refine ⟨rfl, ?_, ?_, Sub.refl _⟩ <;> repeat' (first | exact EnvLe.nil | exact LocsLe.nil | refine EnvLe.cons _ _ _ ?_ ?_ | refine LocsLe.cons _ _ _ ?_ ?_ | exact CVle.same _ rfl | exact CVle.vec _ _ | exact CVle.nil | exact CVle.tok _ _ _ rfl rfl | exact ObLe.tok _ _ rfl | exact CVles.nil | refine CVles.cons ?_ ?_ | exact ObLe.same _ rfl rfl | refine ObLe.cells rfl ?_))
      · rw [decide_eq_false m5] at key
        conv => whnf
        repeat' (first | (refine CallN.one ci ?_) | (refine CallN.one c1 ?_) | (refine CallN.one c2 ?_) | (refine CallN.one (c3 _) ?_) | refine OrdN.one ?_ | refine Fork.yp ?_ | refine Fork.np ?_ | refine Need.go ?_ | refine Need.draw ?_ | refine ElemN.go ?_ | refine ExtN.ext ?_ | refine finGo ?_) <;> try (conv => whnf)
        exact ansB (noI key)
  have hasce : ascOk (eids g.edges) g.ne = true := by unfold ascOk; exact range_yes fun j hj => h0 j (by omega)
  have halle : g.edges.all (edgeOkB (nids g.nodes)) = true := all_of fun j v hj => h2 j v (by omega)
  by_cases hb : (0 ≤ g.nn ∧ g.nn ≤ 1000000000) ∧ (0 ≤ g.ne ∧ g.ne ≤ 1000000000) ∧ g.nodes.length ≤ 12 ∧ g.edges.length ≤ 16
  · have b1 := l1In_v (σ := σ) (decide_eq_true hb.1)
    have b2 := l1In_v (σ := σ) (decide_eq_true hb.2.1)
    conv => whnf
    repeat' (first | (refine CallN.one b1 ?_) | (refine CallN.one b2 ?_) | refine Fork.yp ?_ | refine Fork.np ?_ | refine ExtN.ext ?_ | refine finGo ?_) <;> try (conv => whnf)
    exact ansB (g_yes hb hasc hasce hall halle)
  · have no := ansB (σ := σ) (g_bounds hb)
    have b1 := fun n lo hi => in_n (σ := σ) (n := n) (lo := lo) (hi := hi)
    conv => whnf
    repeat' (first | (refine CallN.many (b1 _ _ _) ?_; rintro _ (⟨hr, rfl⟩ | ⟨hr, rfl⟩)) | refine Fork.np ?_ | refine Fork.dp (fun h => ?_) (fun h => ?_) | refine ExtN.ext ?_ | refine finGo ?_) <;> try (conv => whnf)
    all_goals first
      | exact no
      | (exfalso; omega)
def arityF (k : Int) : Int := if (1 ≤ k ∧ k ≤ 4) ∨ k = 14 then 0 else if k = 9 ∨ k = 11 ∨ k = 13 ∨ k = 15 then 1 else if (5 ≤ k ∧ k ≤ 8) ∨ k = 10 ∨ k = 12 then 2 else -1
theorem parts_c {σ : Heap} {k : Int} : CRun Tryz.prog 152 [i64 k] σ (· = .ret (i64 (arityF k)) σ) := by
  refine crun_of (X := X) X_ok X_sat (body := bodyOf Tryz.f152) Tryz.func152 rfl (by kernel_rfl) (by kernel_rfl) ?_
  rw [Tryz.ntmps152]
  conv => whnf
  repeat' (first | refine Fork.dp (fun h => ?_) (fun h => ?_) | refine finGo ?_) <;> try (conv => whnf)
  all_goals first
    | exact ansI (by subst_vars; decide)
    | exact ansI (by unfold arityF; repeat' split <;> omega)
theorem arity_c {σ : Heap} {k : Int} : CRun Tryz.prog 151 [i64 k] σ (· = .ret (i64 (arityF k)) σ) := by
  refine crun_of (X := X) X_ok X_sat (body := bodyOf Tryz.f151) Tryz.func151 rfl (by kernel_rfl) (by kernel_rfl) ?_
  rw [Tryz.ntmps151]
  conv => whnf
  repeat' (first | (refine CallN.many in_n ?_; rintro _ (⟨hr, rfl⟩ | ⟨hr, rfl⟩)) | refine Fork.dp (fun h => ?_) (fun h => ?_) | refine ExtN.ext ?_ | refine finGo ?_) <;> try (conv => whnf)
  all_goals exact ansI (by unfold arityF; repeat' split <;> omega)
def emptyV : Val → Bool
  | .mk k n t l => decide (k = 0 ∧ n = 0 ∧ t = ⟨#[]⟩ ∧ l.length = 0)
theorem empty_c {σ : Heap} {v : Val} (hv : Tame v) : CRun Tryz.prog 154 [v.cv] σ (· = .ret (.sc (.bool (emptyV v))) σ) := by
  obtain ⟨k, n, t, l⟩ := v
  obtain ⟨_, _, _, hl, _⟩ := hv.inv
  have e3 := cvs_length l
  have no : ¬ (k = 0 ∧ n = 0 ∧ t = ⟨#[]⟩ ∧ l.length = 0) → emptyV (.mk k n t l) = false := fun h => decide_eq_false h
  by_cases a1 : k = 0
  case neg =>
    refine crun_of (X := X) X_ok X_sat (body := bodyOf Tryz.f154) Tryz.func154 rfl (by kernel_rfl) (by kernel_rfl) ?_
    rw [Tryz.ntmps154]
    conv => whnf
    repeat' (first | refine Fork.np ?_ | refine finGo ?_) <;> try (conv => whnf)
    exact ansB (no (by omega))
  by_cases a2 : n = 0
  case neg =>
    refine crun_of (X := X) X_ok X_sat (body := bodyOf Tryz.f154) Tryz.func154 rfl (by kernel_rfl) (by kernel_rfl) ?_
    rw [Tryz.ntmps154]
    conv => whnf
    repeat' (first | refine Fork.yp ?_ | refine Fork.np ?_ | refine finGo ?_) <;> try (conv => whnf)
    exact ansB (no (by omega))
  by_cases a3 : t = ⟨#[]⟩
  case neg =>
    refine crun_of (X := X) X_ok X_sat (body := bodyOf Tryz.f154) Tryz.func154 rfl (by kernel_rfl) (by kernel_rfl) ?_
    rw [Tryz.ntmps154]
    conv => whnf
    repeat' (first | refine Fork.yp ?_ | refine Fork.np ?_ | refine finGo ?_) <;> try (conv => whnf)
    exact ansB (no (fun h => a3 h.2.2.1))
  refine crun_of (X := X) X_ok X_sat (body := bodyOf Tryz.f154) Tryz.func154 rfl (by kernel_rfl) (by kernel_rfl) ?_
  rw [Tryz.ntmps154]
  conv => whnf
  repeat' (first | refine Fork.yp ?_ | refine Fork.dp (fun h => ?_) (fun h => ?_) | refine finGo ?_) <;> try (conv => whnf)
  · exact ansB (decide_eq_true ⟨a1, a2, a3, by omega⟩)
  · exact ansB (no (by omega))
mutual
def litV : Val → Bool
  | .mk k n t l => litL l && decide (k ≤ 4)
def litL : List Val → Bool
  | [] => true
  | v :: r => litV v && litL r
end
theorem litL_all {l : List Val} : litL l = l.all litV := by
  induction l with
  | nil => rfl
  | cons v r ih => simp [litL, ih]
theorem litL_yes {l : List Val} (h : ∀ j v, j < l.length → l[j]? = some v → litV v = true) : litL l = true := by
  rw [litL_all]
  refine List.all_eq_true.2 fun v hv => ?_
  obtain ⟨j, hj, e⟩ := List.getElem_of_mem hv
  exact h j v hj (by rw [← e]; exact List.getElem?_eq_getElem hj)
theorem lit_c {σ : Heap} {v : Val} (hv : Tame v) : CRun Tryz.prog 174 [v.cv] σ (· = .ret (.sc (.bool (litV v))) σ) := by
  induction hv with
  | @mk k n t l hk hn ht hl h ih =>
    have e3 := cvs_length l
    have ih := fun v hm => split (ih v hm)
    have hh : litV (.mk k n t l) = (litL l && decide (k ≤ 4)) := by simp only [litV]
    refine crun_of (X := X) X_ok X_sat (body := bodyOf Tryz.f174) Tryz.func174 rfl (by kernel_rfl) (by kernel_rfl) ?_
    rw [Tryz.ntmps174]
    conv => whnf
    repeat' (first | refine OrdN.one ?_ | refine Fork.yp ?_ | refine Fork.np ?_ | refine Fork.ny ?_ | refine Fork.nn ?_ | refine Fork.yb ?_ | refine Fork.nb ?_ | refine Fork.dp (fun h => ?_) (fun h => ?_) | refine Fork.dn (fun h => ?_) (fun h => ?_) | (refine Fork.mk (fun h => ?_) (fun h => ?_) <;> simp only [decide_eq_true_eq, decide_eq_false_iff_not, Bool.not_eq_true', Bool.not_eq_false', Bool.or_eq_true, Bool.or_eq_false_iff] at h) | refine GetN.go ?_ | refine Need.ap1 ?_ | refine Need.ap0 ?_ | refine Need.go ?_ | refine Need.draw ?_ | refine ElemN.go ?_ | refine ExtN.ext ?_ | refine ExtN.wr ?_ | refine AllocN.go (fun l hl => ?_) | refine finGo ?_) <;> try (conv => whnf)
    refine LoopN.rule (α := Nat) (fun i => ⟨21, [(1, .ptr (.f 1) 0), (2, .sc (.bool false)), (3, i64 i)], [(1, .cells [i64 k, i64 n, .sc (.string t), .vec (Val.cvs l)])]⟩)
      (fun _ => σ) (fun i => l.length - i) (fun i => i ≤ l.length ∧ ∀ j v, j < i → l[j]? = some v → litV v = true) ?_ 0 ⟨by omega, by omega⟩ ?_
    · rintro i K ⟨h1, h2⟩ hK
      dsimp only at h1 h2 ⊢
      by_cases hi : i < l.length
      · obtain ⟨⟨wk, wn, wt, wl⟩, hm, hg, hg'⟩ := cvs_at hi
        conv => whnf
        repeat' (first | (refine CallN.many (ih _ hm) ?_; rintro _ (⟨hr, rfl⟩ | ⟨hr, rfl⟩)) | refine Fork.yp ?_ | refine Need.go ?_ | refine ElemN.go ?_ | refine ExtN.ext ?_ | refine finGo ?_) <;> try (conv => whnf)
        · refine hK (i + 1) _ _ ⟨by omega, stepAt h2 hg hr⟩ (by omega) ?_
          (refine ⟨rfl, ?_, ?_, Sub.refl _⟩ <;> repeat' (first | exact EnvLe.nil | exact LocsLe.nil | refine EnvLe.cons _ _ _ ?_ ?_ | refine LocsLe.cons _ _ _ ?_ ?_ | exact CVle.same _ rfl | exact CVle.vec _ _ | exact CVle.nil | exact CVle.tok _ _ _ rfl rfl | exact ObLe.tok _ _ rfl | exact CVles.nil | refine CVles.cons ?_ ?_ | exact ObLe.same _ rfl rfl | refine ObLe.cells rfl ?_))
        · exact ansB (by
            rw [hh, litL_all, List.all_eq_false.2 ⟨_, hm, by rw [hr]; simp⟩]; rfl)
      · have hp := litL_yes (l := l) fun j v hj => h2 j v (by omega)
        by_cases h4 : k ≤ 4
        · conv => whnf
          repeat' (first | refine Fork.yp ?_ | refine Fork.np ?_ | refine finGo ?_) <;> try (conv => whnf)
          exact ansB (by rw [hh, hp, decide_eq_true h4]; rfl)
        · conv => whnf
          repeat' (first | refine Fork.np ?_ | refine finGo ?_) <;> try (conv => whnf)
          exact ansB (by rw [hh, hp, decide_eq_false h4]; rfl)
    · (refine ⟨rfl, ?_, ?_, Sub.refl _⟩ <;> repeat' (first | exact EnvLe.nil | exact LocsLe.nil | refine EnvLe.cons _ _ _ ?_ ?_ | refine LocsLe.cons _ _ _ ?_ ?_ | exact CVle.same _ rfl | exact CVle.vec _ _ | exact CVle.nil | exact CVle.tok _ _ _ rfl rfl | exact ObLe.tok _ _ rfl | exact CVles.nil | refine CVles.cons ?_ ?_ | exact ObLe.same _ rfl rfl | refine ObLe.cells rfl ?_))
mutual
theorem lit_of : ∀ (v : Val) {d : Int}, okV d v = true → litV v = (!hasV 5 v && !hasV 6 v)
  | .mk k n t l, d, h => by
    have hl : litL l = (!hasL 5 l && !hasL 6 l) := by
      by_cases h4 : k = 4
      · subst h4
        exact litL_of l (okV_list h)
      · by_cases h3 : k = 3
        · subst h3
          rw [(okV_text h).2]; rfl
        · rw [(okV_num h h3 h4).2]; rfl
    rcases okV_kind h with ⟨h, _⟩ | h | h | h | h | h | h <;> subst h <;> simp [litV, hasV, hl]
theorem litL_of : ∀ (l : List Val) {d : Int}, (∀ v ∈ l, okV d v = true) → litL l = (!hasL 5 l && !hasL 6 l)
  | [], _, _ => rfl
  | v :: r, d, h => by
    have h1 := lit_of v (h v (by simp))
    have h2 := litL_of r fun v hv => h v (by simp [hv])
    simp only [litL, hasL, h1, h2]
    cases hasV 5 v <;> cases hasV 6 v <;> simp
end
theorem l1Same_c {σ : Heap} {v : Val} (hv : Tame v) : ∀ {v' : Val}, Tame v' → CRun Tryz.prog 175 [v.cv, v'.cv] σ (· = .ret (.sc (.bool (sameV v v'))) σ) := by
  induction hv with
  | @mk k n t l hk hn ht hl h ih =>
    intro v' hv'
    obtain ⟨k', n', t', l'⟩ := v'
    obtain ⟨b1, b2, b3, b4, b5⟩ := hv'.inv
    have e3 := cvs_length l
    have e4 := cvs_length l'
    by_cases hk : k = k' ∧ n = n' ∧ t = t' ∧ l.length = l'.length
    case neg =>
      have o : sameV (.mk k n t l) (.mk k' n' t' l') = false := by
        simp only [sameV]
        by_cases h1 : k = k' ∧ n = n' ∧ t = t'
        · rw [sameL_len (fun e => hk ⟨h1.1, h1.2.1, h1.2.2, e⟩), Bool.and_false]
        · rw [decide_eq_false h1, Bool.false_and]
      refine crun_of (X := X) X_ok X_sat (body := bodyOf Tryz.f175) Tryz.func175 rfl (by kernel_rfl) (by kernel_rfl) ?_
      rw [Tryz.ntmps175]
      by_cases h1 : k = k'
      case neg =>
        conv => whnf
        repeat' (first | refine Fork.ny ?_ | refine finGo ?_) <;> try (conv => whnf)
        exact ansB o
      by_cases h2 : n = n'
      case neg =>
        conv => whnf
        repeat' (first | refine Fork.ny ?_ | refine Fork.nn ?_ | refine finGo ?_) <;> try (conv => whnf)
        exact ansB o
      by_cases h3 : t = t'
      case neg =>
        conv => whnf
        repeat' (first | refine Fork.ny ?_ | refine Fork.nn ?_ | refine finGo ?_) <;> try (conv => whnf)
        exact ansB o
      have h4 : l.length ≠ l'.length := fun e => hk ⟨h1, h2, h3, e⟩
      conv => whnf
      repeat' (first | refine Fork.ny ?_ | refine Fork.nn ?_ | refine finGo ?_) <;> try (conv => whnf)
      exact ansB o
    obtain ⟨h1, h2, h3, h4⟩ := hk
    have o : sameV (.mk k n t l) (.mk k' n' t' l') = sameL l l' := by simp only [sameV]; rw [decide_eq_true ⟨h1, h2, h3⟩, Bool.true_and]
    refine crun_of (X := X) X_ok X_sat (body := bodyOf Tryz.f175) Tryz.func175 rfl (by kernel_rfl) (by kernel_rfl) ?_
    rw [Tryz.ntmps175]
    conv => whnf
    repeat' (first | refine Fork.nn ?_) <;> try (conv => whnf)
    refine LoopN.rule (α := Nat) (fun i => ⟨53, [(2, .ptr (.f 2) 0), (3, .ptr (.f 3) 0), (5, i64 i)], [(2, .cells [i64 k, i64 n, .sc (.string t), .vec (Val.cvs l)]), (3, .cells [i64 k', i64 n', .sc (.string t'), .vec (Val.cvs l')])]⟩)
      (fun _ => σ) (fun i => l.length - i) (fun i => i ≤ l.length ∧ sameL l l' = sameL (l.drop i) (l'.drop i)) ?_ 0 ⟨Nat.zero_le _, rfl⟩ ?_
    · rintro i K ⟨g1, g3⟩ hK
      dsimp only at g1 g3 ⊢
      by_cases hi : i < l.length
      · obtain ⟨w, hm, hw, hg⟩ := cvs_at hi
        obtain ⟨w', hm', hw', hg'⟩ := cvs_at (l := l') (i := i) (by omega)
        have hc := ih w hm (b5 w' hm')
        have hK := hK (i + 1)
        rw [drop_get hw, drop_get hw'] at g3
        simp only [sameL] at g3
        cases hz : sameV w w' with
        | true =>
          rw [hz] at hc
          rw [hz, Bool.true_and] at g3
          obtain ⟨wk, wn, wt, wl⟩ := w
          obtain ⟨wk', wn', wt', wl'⟩ := w'
          conv => whnf
          repeat' (first | (refine CallN.one hc ?_) | refine OrdN.one ?_ | refine Fork.yp ?_ | refine Need.go ?_ | refine Need.draw ?_ | refine ElemN.go ?_ | refine ExtN.ext ?_) <;> try (conv => whnf)
          refine hK _ _ ⟨by omega, g3⟩ (by omega) ?_
          (refine ⟨rfl, ?_, ?_, Sub.refl _⟩ <;> repeat' (first | exact EnvLe.nil | exact LocsLe.nil | refine EnvLe.cons _ _ _ ?_ ?_ | refine LocsLe.cons _ _ _ ?_ ?_ | exact CVle.same _ rfl | exact CVle.vec _ _ | exact CVle.nil | exact CVle.tok _ _ _ rfl rfl | exact ObLe.tok _ _ rfl | exact CVles.nil | refine CVles.cons ?_ ?_ | exact ObLe.same _ rfl rfl | refine ObLe.cells rfl ?_))
        | false =>
          rw [hz] at hc
          rw [hz, Bool.false_and] at g3
          obtain ⟨wk, wn, wt, wl⟩ := w
          obtain ⟨wk', wn', wt', wl'⟩ := w'
          conv => whnf
          repeat' (first | (refine CallN.one hc ?_) | refine OrdN.one ?_ | refine Fork.yp ?_ | refine Need.go ?_ | refine Need.draw ?_ | refine ElemN.go ?_ | refine ExtN.ext ?_ | refine finGo ?_) <;> try (conv => whnf)
          exact ansB (o.trans g3)
      · rw [List.drop_eq_nil_of_le (by omega), List.drop_eq_nil_of_le (by omega)] at g3
        conv => whnf
        repeat' (first | refine Fork.np ?_ | refine finGo ?_) <;> try (conv => whnf)
        exact ansB (o.trans g3)
    · (refine ⟨rfl, ?_, ?_, Sub.refl _⟩ <;> repeat' (first | exact EnvLe.nil | exact LocsLe.nil | refine EnvLe.cons _ _ _ ?_ ?_ | refine LocsLe.cons _ _ _ ?_ ?_ | exact CVle.same _ rfl | exact CVle.vec _ _ | exact CVle.nil | exact CVle.tok _ _ _ rfl rfl | exact ObLe.tok _ _ rfl | exact CVles.nil | refine CVles.cons ?_ ?_ | exact ObLe.same _ rfl rfl | refine ObLe.cells rfl ?_))
theorem sameOf_c {σ : Heap} {v : Val} (hv : Tame v) : ∀ {v' : Val}, Tame v' → CRun Tryz.prog 218 [v.cv, v'.cv] σ (· = .ret (.sc (.bool (sameV v v'))) σ) := by
  induction hv with
  | @mk k n t l hk hn ht hl h ih =>
    intro v' hv'
    obtain ⟨k', n', t', l'⟩ := v'
    obtain ⟨b1, b2, b3, b4, b5⟩ := hv'.inv
    have e3 := cvs_length l
    have e4 := cvs_length l'
    by_cases hk : k = k' ∧ n = n' ∧ t = t' ∧ l.length = l'.length
    case neg =>
      have o : sameV (.mk k n t l) (.mk k' n' t' l') = false := by
        simp only [sameV]
        by_cases h1 : k = k' ∧ n = n' ∧ t = t'
        · rw [sameL_len (fun e => hk ⟨h1.1, h1.2.1, h1.2.2, e⟩), Bool.and_false]
        · rw [decide_eq_false h1, Bool.false_and]
      refine crun_of (X := X) X_ok X_sat (body := bodyOf Tryz.f218) Tryz.func218 rfl (by kernel_rfl) (by kernel_rfl) ?_
      rw [Tryz.ntmps218]
      by_cases h1 : k = k'
      case neg =>
        conv => whnf
        repeat' (first | refine Fork.ny ?_ | refine finGo ?_) <;> try (conv => whnf)
        exact ansB o
      by_cases h2 : n = n'
      case neg =>
        conv => whnf
        repeat' (first | refine Fork.ny ?_ | refine Fork.nn ?_ | refine finGo ?_) <;> try (conv => whnf)
        exact ansB o
      by_cases h3 : t = t'
      case neg =>
        conv => whnf
        repeat' (first | refine Fork.ny ?_ | refine Fork.nn ?_ | refine finGo ?_) <;> try (conv => whnf)
        exact ansB o
      have h4 : l.length ≠ l'.length := fun e => hk ⟨h1, h2, h3, e⟩
      conv => whnf
      repeat' (first | refine Fork.ny ?_ | refine Fork.nn ?_ | refine finGo ?_) <;> try (conv => whnf)
      exact ansB o
    obtain ⟨h1, h2, h3, h4⟩ := hk
    have o : sameV (.mk k n t l) (.mk k' n' t' l') = sameL l l' := by simp only [sameV]; rw [decide_eq_true ⟨h1, h2, h3⟩, Bool.true_and]
    refine crun_of (X := X) X_ok X_sat (body := bodyOf Tryz.f218) Tryz.func218 rfl (by kernel_rfl) (by kernel_rfl) ?_
    rw [Tryz.ntmps218]
    conv => whnf
    repeat' (first | refine Fork.nn ?_) <;> try (conv => whnf)
    refine LoopN.rule (α := Nat) (fun i => ⟨53, [(2, .ptr (.f 2) 0), (3, .ptr (.f 3) 0), (36, i64 (Val.cvs l).length), (37, i64 i)], [(2, .cells [i64 k, i64 n, .sc (.string t), .vec (Val.cvs l)]), (3, .cells [i64 k', i64 n', .sc (.string t'), .vec (Val.cvs l')])]⟩)
      (fun _ => σ) (fun i => l.length - i) (fun i => i ≤ l.length ∧ sameL l l' = sameL (l.drop i) (l'.drop i)) ?_ 0 ⟨Nat.zero_le _, rfl⟩ ?_
    · rintro i K ⟨g1, g3⟩ hK
      dsimp only at g1 g3 ⊢
      by_cases hi : i < l.length
      · obtain ⟨w, hm, hw, hg⟩ := cvs_at hi
        obtain ⟨w', hm', hw', hg'⟩ := cvs_at (l := l') (i := i) (by omega)
        have hc := ih w hm (b5 w' hm')
        have hK := hK (i + 1)
        rw [drop_get hw, drop_get hw'] at g3
        simp only [sameL] at g3
        cases hz : sameV w w' with
        | true =>
          rw [hz] at hc
          rw [hz, Bool.true_and] at g3
          obtain ⟨wk, wn, wt, wl⟩ := w
          obtain ⟨wk', wn', wt', wl'⟩ := w'
          conv => whnf
          repeat' (first | (refine CallN.one hc ?_) | refine OrdN.one ?_ | refine Fork.yp ?_ | refine Need.go ?_ | refine Need.draw ?_ | refine ElemN.go ?_ | refine ExtN.ext ?_) <;> try (conv => whnf)
          refine hK _ _ ⟨by omega, g3⟩ (by omega) ?_
          (refine ⟨rfl, ?_, ?_, Sub.refl _⟩ <;> repeat' (first | exact EnvLe.nil | exact LocsLe.nil | refine EnvLe.cons _ _ _ ?_ ?_ | refine LocsLe.cons _ _ _ ?_ ?_ | exact CVle.same _ rfl | exact CVle.vec _ _ | exact CVle.nil | exact CVle.tok _ _ _ rfl rfl | exact ObLe.tok _ _ rfl | exact CVles.nil | refine CVles.cons ?_ ?_ | exact ObLe.same _ rfl rfl | refine ObLe.cells rfl ?_))
        | false =>
          rw [hz] at hc
          rw [hz, Bool.false_and] at g3
          obtain ⟨wk, wn, wt, wl⟩ := w
          obtain ⟨wk', wn', wt', wl'⟩ := w'
          conv => whnf
          repeat' (first | (refine CallN.one hc ?_) | refine OrdN.one ?_ | refine Fork.yp ?_ | refine Need.go ?_ | refine Need.draw ?_ | refine ElemN.go ?_ | refine ExtN.ext ?_ | refine finGo ?_) <;> try (conv => whnf)
          exact ansB (o.trans g3)
      · rw [List.drop_eq_nil_of_le (by omega), List.drop_eq_nil_of_le (by omega)] at g3
        conv => whnf
        repeat' (first | refine Fork.np ?_ | refine finGo ?_) <;> try (conv => whnf)
        exact ansB (o.trans g3)
    · (refine ⟨rfl, ?_, ?_, Sub.refl _⟩ <;> repeat' (first | exact EnvLe.nil | exact LocsLe.nil | refine EnvLe.cons _ _ _ ?_ ?_ | refine LocsLe.cons _ _ _ ?_ ?_ | exact CVle.same _ rfl | exact CVle.vec _ _ | exact CVle.nil | exact CVle.tok _ _ _ rfl rfl | exact ObLe.tok _ _ rfl | exact CVles.nil | refine CVles.cons ?_ ?_ | exact ObLe.same _ rfl rfl | refine ObLe.cells rfl ?_))
theorem isNo_v {σ : Heap} {k n : Int} {t : ByteArray} {l : List CV} {b : Bool} (hb0 : decide (k = 1 ∧ n = 0) = b) : CRun Tryz.prog 219 [.agg [i64 k, i64 n, .sc (.string t), .vec l]] σ (· = .ret (.sc (.bool b)) σ) := by
  refine crun_of (X := X) X_ok X_sat (body := bodyOf Tryz.f219) Tryz.func219 rfl (by kernel_rfl) (by kernel_rfl) ?_
  rw [Tryz.ntmps219]
  conv => whnf
  repeat' (first | refine Fork.dp (fun h => ?_) (fun h => ?_) | refine finGo ?_) <;> try (conv => whnf)
  all_goals exact ansB (hb0.symm.trans (by first | exact decide_eq_true (by omega) | exact decide_eq_false (by omega)))
theorem isYes_v {σ : Heap} {k n : Int} {t : ByteArray} {l : List CV} {b : Bool} (hb0 : decide (k = 1 ∧ n = 1) = b) : CRun Tryz.prog 221 [.agg [i64 k, i64 n, .sc (.string t), .vec l]] σ (· = .ret (.sc (.bool b)) σ) := by
  refine crun_of (X := X) X_ok X_sat (body := bodyOf Tryz.f221) Tryz.func221 rfl (by kernel_rfl) (by kernel_rfl) ?_
  rw [Tryz.ntmps221]
  conv => whnf
  repeat' (first | refine Fork.dp (fun h => ?_) (fun h => ?_) | refine finGo ?_) <;> try (conv => whnf)
  all_goals exact ansB (hb0.symm.trans (by first | exact decide_eq_true (by omega) | exact decide_eq_false (by omega)))
inductive T3 where
  | no | unk | yes
def T3.of : Bool → T3
  | true => .yes
  | false => .no
def T3.v : T3 → Val
  | .no => .mk 1 0 ⟨#[]⟩ []
  | .unk => .mk 0 0 ⟨#[]⟩ []
  | .yes => .mk 1 1 ⟨#[]⟩ []
def comb : Bool → T3 → T3
  | true, x => x
  | false, .no => .no
  | false, _ => .unk
mutual
def eq3 : Val → Val → T3
  | .mk k n t l, .mk k' n' t' l' => if k = 0 ∨ k' = 0 then .unk else if k ≠ 4 ∨ k' ≠ 4 then T3.of (sameV (.mk k n t l) (.mk k' n' t' l')) else if l.length ≠ l'.length then .no else eqL l l'
def eqL : List Val → List Val → T3
  | v :: r, w :: s => match eq3 v w with
    | .no => .no
    | .unk => comb false (eqL r s)
    | .yes => eqL r s
  | _, _ => .yes
end
theorem comb_no {v w : Val} {r s : List Val} {b : Bool} (h : eq3 v w = .no) : comb b (eqL (v :: r) (w :: s)) = .no := by simp only [eqL]; rw [h]; cases b <;> rfl
theorem comb_unk {v w : Val} {r s : List Val} {b : Bool} (h : eq3 v w = .unk) : comb b (eqL (v :: r) (w :: s)) = comb false (eqL r s) := by
  simp only [eqL]; rw [h]; cases b
  · cases eqL r s <;> rfl
  · rfl
theorem comb_yes {v w : Val} {r s : List Val} {b : Bool} (h : eq3 v w = .yes) : comb b (eqL (v :: r) (w :: s)) = comb b (eqL r s) := by simp only [eqL]; rw [h]
theorem eqL_nil : eqL [] [] = .yes := by simp only [eqL]
theorem ofB (b : Bool) : boolV b = (T3.of b).v := by cases b <;> rfl
theorem ansT {a b : T3} {σ : Heap} (h : b = a) : COut.ret a.v.cv σ = .ret b.v.cv σ := by rw [h]
theorem yes_t {σ : Heap} {b : Bool} : CRun Tryz.prog 163 [.sc (.bool b)] σ (· = .ret (T3.of b).v.cv σ) := ofB b ▸ yes_c
theorem bool_t {σ : Heap} {b : Bool} : CRun Tryz.prog 115 [.sc (.bool b)] σ (· = .ret (T3.of b).v.cv σ) := ofB b ▸ bool_c
def allC : Bool → List CV
  | true => [i64 1, i64 1, .sc (.string ⟨#[]⟩), .vec []]
  | false => [i64 0, i64 0, .sc (.string ⟨#[]⟩), .vec []]
set_option maxHeartbeats 1000000 in
theorem equalOf_c {σ : Heap} {v : Val} (hv : Tame v) : ∀ {v' : Val}, Tame v' → CRun Tryz.prog 164 [v.cv, v'.cv] σ (· = .ret (eq3 v v').v.cv σ) := by
  induction hv with
  | @mk k n t l hk hn ht hl h ih =>
    intro v' hv'
    have hs := sameOf_c (σ := σ) (.mk hk hn ht hl h) hv'
    obtain ⟨k', n', t', l'⟩ := v'
    obtain ⟨b1, b2, b3, b4, b5⟩ := hv'.inv
    have e3 := cvs_length l
    have e4 := cvs_length l'
    have y0 := @yes_t σ
    by_cases z1 : k = 0
    · have o : eq3 (.mk k n t l) (.mk k' n' t' l') = .unk := by simp only [eq3]; rw [if_pos (.inl z1)]
      refine crun_of (X := X) X_ok X_sat (body := bodyOf Tryz.f164) Tryz.func164 rfl (by kernel_rfl) (by kernel_rfl) ?_
      rw [Tryz.ntmps164]
      conv => whnf
      repeat' (first | refine Fork.yp ?_ | refine finGo ?_) <;> try (conv => whnf)
      exact ansT o
    by_cases z2 : k' = 0
    · have o : eq3 (.mk k n t l) (.mk k' n' t' l') = .unk := by simp only [eq3]; rw [if_pos (.inr z2)]
      refine crun_of (X := X) X_ok X_sat (body := bodyOf Tryz.f164) Tryz.func164 rfl (by kernel_rfl) (by kernel_rfl) ?_
      rw [Tryz.ntmps164]
      conv => whnf
      repeat' (first | refine Fork.yp ?_ | refine Fork.np ?_ | refine finGo ?_) <;> try (conv => whnf)
      exact ansT o
    have z3 : ¬ (k = 0 ∨ k' = 0) := by omega
    by_cases f1 : k = 4
    case neg =>
      have o : eq3 (.mk k n t l) (.mk k' n' t' l') = T3.of (sameV (.mk k n t l) (.mk k' n' t' l')) := by simp only [eq3]; rw [if_neg z3, if_pos (.inl f1)]
      cases hsv : sameV (.mk k n t l) (.mk k' n' t' l') <;> rw [hsv] at hs o
      all_goals
        refine crun_of (X := X) X_ok X_sat (body := bodyOf Tryz.f164) Tryz.func164 rfl (by kernel_rfl) (by kernel_rfl) ?_
        rw [Tryz.ntmps164]
        conv => whnf
        repeat' (first | (refine CallN.one hs ?_) | (refine CallN.one y0 ?_) | refine Fork.np ?_ | refine Fork.ny ?_ | refine ExtN.ext ?_ | refine finGo ?_) <;> try (conv => whnf)
        exact ansT o
    by_cases f2 : k' = 4
    case neg =>
      have o : eq3 (.mk k n t l) (.mk k' n' t' l') = T3.of (sameV (.mk k n t l) (.mk k' n' t' l')) := by simp only [eq3]; rw [if_neg z3, if_pos (.inr f2)]
      cases hsv : sameV (.mk k n t l) (.mk k' n' t' l') <;> rw [hsv] at hs o
      all_goals
        refine crun_of (X := X) X_ok X_sat (body := bodyOf Tryz.f164) Tryz.func164 rfl (by kernel_rfl) (by kernel_rfl) ?_
        rw [Tryz.ntmps164]
        conv => whnf
        repeat' (first | (refine CallN.one hs ?_) | (refine CallN.one y0 ?_) | refine Fork.np ?_ | refine Fork.ny ?_ | refine Fork.nn ?_ | refine ExtN.ext ?_ | refine finGo ?_) <;> try (conv => whnf)
        exact ansT o
    have f3 : ¬ (k ≠ 4 ∨ k' ≠ 4) := by omega
    by_cases q : l.length = l'.length
    case neg =>
      have o : eq3 (.mk k n t l) (.mk k' n' t' l') = .no := by simp only [eq3]; rw [if_neg z3, if_neg f3, if_pos q]
      have hs' : sameV (.mk k n t l) (.mk k' n' t' l') = false := by simp only [sameV]; rw [sameL_len q, Bool.and_false]
      rw [hs'] at hs
      refine crun_of (X := X) X_ok X_sat (body := bodyOf Tryz.f164) Tryz.func164 rfl (by kernel_rfl) (by kernel_rfl) ?_
      rw [Tryz.ntmps164]
      conv => whnf
      repeat' (first | (refine CallN.one hs ?_) | (refine CallN.one y0 ?_) | refine Fork.np ?_ | refine Fork.ny ?_ | refine Fork.nn ?_ | refine ExtN.ext ?_ | refine finGo ?_) <;> try (conv => whnf)
      exact ansT o
    have o : eq3 (.mk k n t l) (.mk k' n' t' l') = eqL l l' := by simp only [eq3]; rw [if_neg z3, if_neg f3, if_neg (by omega)]
    refine crun_of (X := X) X_ok X_sat (body := bodyOf Tryz.f164) Tryz.func164 rfl (by kernel_rfl) (by kernel_rfl) ?_
    rw [Tryz.ntmps164]
    conv => whnf
    repeat' (first | (refine CallN.one y0 ?_) | refine Fork.np ?_ | refine Fork.nn ?_ | refine ExtN.ext ?_) <;> try (conv => whnf)
    refine LoopN.rule (α := Nat × Bool) (fun s => ⟨65, [(2, .ptr (.f 2) 0), (3, .ptr (.f 3) 0), (4, .ptr (.f 4) 0), (5, .ptr (.f 5) 0), (41, i64 (Val.cvs l).length), (42, i64 s.1)],
        [(2, .cells [i64 k, i64 n, .sc (.string t), .vec (Val.cvs l)]), (3, .cells [i64 k', i64 n', .sc (.string t'), .vec (Val.cvs l')]), (4, .cells [i64 0, i64 0, .sc (.string ⟨#[]⟩), .nil]), (5, .cells (allC s.2))]⟩)
      (fun _ => σ) (fun s => l.length - s.1) (fun s => s.1 ≤ l.length ∧ eqL l l' = comb s.2 (eqL (l.drop s.1) (l'.drop s.1))) ?_ (0, true) ⟨Nat.zero_le _, rfl⟩ ?_
    rotate_left
    · (refine ⟨rfl, ?_, ?_, Sub.refl _⟩ <;> repeat' (first | exact EnvLe.nil | exact LocsLe.nil | refine EnvLe.cons _ _ _ ?_ ?_ | refine LocsLe.cons _ _ _ ?_ ?_ | exact CVle.same _ rfl | exact CVle.vec _ _ | exact CVle.nil | exact CVle.tok _ _ _ rfl rfl | exact ObLe.tok _ _ rfl | exact CVles.nil | refine CVles.cons ?_ ?_ | exact ObLe.same _ rfl rfl | refine ObLe.cells rfl ?_))
    rintro ⟨i, kn⟩ K ⟨g1, g3⟩ hK
    dsimp only at g1 g3 ⊢
    by_cases hi : i < l.length
    · obtain ⟨w, hm, hw, hg⟩ := cvs_at hi
      obtain ⟨w', hm', hw', hg'⟩ := cvs_at (l := l') (i := i) (by omega)
      have hc := ih w hm (b5 w' hm')
      rw [drop_get hw, drop_get hw'] at g3
      obtain ⟨wk, wn, wt, wl⟩ := w
      obtain ⟨wk', wn', wt', wl'⟩ := w'
      cases hz : eq3 (.mk wk wn wt wl) (.mk wk' wn' wt' wl') with
      | no =>
        rw [hz] at hc
        rw [comb_no hz] at g3
        have isn := isNo_v (σ := σ) (k := 1) (n := 0) (t := ⟨#[]⟩) (l := []) (b := true) rfl
        cases kn
        all_goals
          conv => whnf
          repeat' (first | (refine CallN.one hc ?_) | (refine CallN.one isn ?_) | refine OrdN.one ?_ | refine Fork.yp ?_ | refine Need.go ?_ | refine Need.draw ?_ | refine ElemN.go ?_ | refine ExtN.ext ?_ | refine finGo ?_) <;> try (conv => whnf)
          exact ansT (o.trans g3)
      | unk =>
        rw [hz] at hc
        rw [comb_unk hz] at g3
        have isn := isNo_v (σ := σ) (k := 0) (n := 0) (t := ⟨#[]⟩) (l := []) (b := false) rfl
        cases kn
        all_goals
          conv => whnf
          repeat' (first | (refine CallN.one hc ?_) | (refine CallN.one isn ?_) | refine OrdN.one ?_ | refine Fork.yp ?_ | refine Need.go ?_ | refine Need.draw ?_ | refine ElemN.go ?_ | refine ExtN.ext ?_) <;> try (conv => whnf)
          refine hK (i + 1, false) _ _ ⟨by dsimp only; omega, g3⟩ (by dsimp only; omega) ?_
          (refine ⟨rfl, ?_, ?_, Sub.refl _⟩ <;> repeat' (first | exact EnvLe.nil | exact LocsLe.nil | refine EnvLe.cons _ _ _ ?_ ?_ | refine LocsLe.cons _ _ _ ?_ ?_ | exact CVle.same _ rfl | exact CVle.vec _ _ | exact CVle.nil | exact CVle.tok _ _ _ rfl rfl | exact ObLe.tok _ _ rfl | exact CVles.nil | refine CVles.cons ?_ ?_ | exact ObLe.same _ rfl rfl | refine ObLe.cells rfl ?_))
      | yes =>
        rw [hz] at hc
        rw [comb_yes hz] at g3
        have isn := isNo_v (σ := σ) (k := 1) (n := 1) (t := ⟨#[]⟩) (l := []) (b := false) rfl
        cases kn
        · conv => whnf
          repeat' (first | (refine CallN.one hc ?_) | (refine CallN.one isn ?_) | refine OrdN.one ?_ | refine Fork.yp ?_ | refine Fork.np ?_ | refine Need.go ?_ | refine Need.draw ?_ | refine ElemN.go ?_ | refine ExtN.ext ?_) <;> try (conv => whnf)
          refine hK (i + 1, false) _ _ ⟨by dsimp only; omega, g3⟩ (by dsimp only; omega) ?_
          (refine ⟨rfl, ?_, ?_, Sub.refl _⟩ <;> repeat' (first | exact EnvLe.nil | exact LocsLe.nil | refine EnvLe.cons _ _ _ ?_ ?_ | refine LocsLe.cons _ _ _ ?_ ?_ | exact CVle.same _ rfl | exact CVle.vec _ _ | exact CVle.nil | exact CVle.tok _ _ _ rfl rfl | exact ObLe.tok _ _ rfl | exact CVles.nil | refine CVles.cons ?_ ?_ | exact ObLe.same _ rfl rfl | refine ObLe.cells rfl ?_))
        · conv => whnf
          repeat' (first | (refine CallN.one hc ?_) | (refine CallN.one isn ?_) | refine OrdN.one ?_ | refine Fork.yp ?_ | refine Fork.np ?_ | refine Need.go ?_ | refine Need.draw ?_ | refine ElemN.go ?_ | refine ExtN.ext ?_) <;> try (conv => whnf)
          refine hK (i + 1, true) _ _ ⟨by dsimp only; omega, g3⟩ (by dsimp only; omega) ?_
          (refine ⟨rfl, ?_, ?_, Sub.refl _⟩ <;> repeat' (first | exact EnvLe.nil | exact LocsLe.nil | refine EnvLe.cons _ _ _ ?_ ?_ | refine LocsLe.cons _ _ _ ?_ ?_ | exact CVle.same _ rfl | exact CVle.vec _ _ | exact CVle.nil | exact CVle.tok _ _ _ rfl rfl | exact ObLe.tok _ _ rfl | exact CVles.nil | refine CVles.cons ?_ ?_ | exact ObLe.same _ rfl rfl | refine ObLe.cells rfl ?_))
    · rw [List.drop_eq_nil_of_le (by omega), List.drop_eq_nil_of_le (by omega), eqL_nil] at g3
      cases kn
      · conv => whnf
        repeat' (first | refine Fork.np ?_ | refine finGo ?_) <;> try (conv => whnf)
        exact ansT (o.trans g3)
      · conv => whnf
        repeat' (first | refine Fork.np ?_ | refine finGo ?_) <;> try (conv => whnf)
        exact ansT (o.trans g3)
set_option maxHeartbeats 1000000 in
theorem l1Equal_c {σ : Heap} {v : Val} (hv : Tame v) : ∀ {v' : Val}, Tame v' → CRun Tryz.prog 180 [v.cv, v'.cv] σ (· = .ret (eq3 v v').v.cv σ) := by
  induction hv with
  | @mk k n t l hk hn ht hl h ih =>
    intro v' hv'
    have hs := l1Same_c (σ := σ) (.mk hk hn ht hl h) hv'
    obtain ⟨k', n', t', l'⟩ := v'
    obtain ⟨b1, b2, b3, b4, b5⟩ := hv'.inv
    have e3 := cvs_length l
    have e4 := cvs_length l'
    have y0 := @bool_t σ
    by_cases z1 : k = 0
    · have o : eq3 (.mk k n t l) (.mk k' n' t' l') = .unk := by simp only [eq3]; rw [if_pos (.inl z1)]
      refine crun_of (X := X) X_ok X_sat (body := bodyOf Tryz.f180) Tryz.func180 rfl (by kernel_rfl) (by kernel_rfl) ?_
      rw [Tryz.ntmps180]
      conv => whnf
      repeat' (first | refine Fork.yp ?_ | refine finGo ?_) <;> try (conv => whnf)
      exact ansT o
    by_cases z2 : k' = 0
    · have o : eq3 (.mk k n t l) (.mk k' n' t' l') = .unk := by simp only [eq3]; rw [if_pos (.inr z2)]
      refine crun_of (X := X) X_ok X_sat (body := bodyOf Tryz.f180) Tryz.func180 rfl (by kernel_rfl) (by kernel_rfl) ?_
      rw [Tryz.ntmps180]
      conv => whnf
      repeat' (first | refine Fork.yp ?_ | refine Fork.np ?_ | refine finGo ?_) <;> try (conv => whnf)
      exact ansT o
    have z3 : ¬ (k = 0 ∨ k' = 0) := by omega
    by_cases f1 : k = 4
    case neg =>
      have o : eq3 (.mk k n t l) (.mk k' n' t' l') = T3.of (sameV (.mk k n t l) (.mk k' n' t' l')) := by simp only [eq3]; rw [if_neg z3, if_pos (.inl f1)]
      cases hsv : sameV (.mk k n t l) (.mk k' n' t' l') <;> rw [hsv] at hs o
      all_goals
        refine crun_of (X := X) X_ok X_sat (body := bodyOf Tryz.f180) Tryz.func180 rfl (by kernel_rfl) (by kernel_rfl) ?_
        rw [Tryz.ntmps180]
        conv => whnf
        repeat' (first | (refine CallN.one hs ?_) | (refine CallN.one y0 ?_) | refine Fork.np ?_ | refine Fork.ny ?_ | refine ExtN.ext ?_ | refine finGo ?_) <;> try (conv => whnf)
        exact ansT o
    by_cases f2 : k' = 4
    case neg =>
      have o : eq3 (.mk k n t l) (.mk k' n' t' l') = T3.of (sameV (.mk k n t l) (.mk k' n' t' l')) := by simp only [eq3]; rw [if_neg z3, if_pos (.inr f2)]
      cases hsv : sameV (.mk k n t l) (.mk k' n' t' l') <;> rw [hsv] at hs o
      all_goals
        refine crun_of (X := X) X_ok X_sat (body := bodyOf Tryz.f180) Tryz.func180 rfl (by kernel_rfl) (by kernel_rfl) ?_
        rw [Tryz.ntmps180]
        conv => whnf
        repeat' (first | (refine CallN.one hs ?_) | (refine CallN.one y0 ?_) | refine Fork.np ?_ | refine Fork.ny ?_ | refine Fork.nn ?_ | refine ExtN.ext ?_ | refine finGo ?_) <;> try (conv => whnf)
        exact ansT o
    have f3 : ¬ (k ≠ 4 ∨ k' ≠ 4) := by omega
    by_cases q : l.length = l'.length
    case neg =>
      have o : eq3 (.mk k n t l) (.mk k' n' t' l') = .no := by simp only [eq3]; rw [if_neg z3, if_neg f3, if_pos q]
      refine crun_of (X := X) X_ok X_sat (body := bodyOf Tryz.f180) Tryz.func180 rfl (by kernel_rfl) (by kernel_rfl) ?_
      rw [Tryz.ntmps180]
      conv => whnf
      repeat' (first | (refine CallN.one y0 ?_) | refine Fork.np ?_ | refine Fork.ny ?_ | refine Fork.nn ?_ | refine ExtN.ext ?_ | refine finGo ?_) <;> try (conv => whnf)
      exact ansT o
    have o : eq3 (.mk k n t l) (.mk k' n' t' l') = eqL l l' := by simp only [eq3]; rw [if_neg z3, if_neg f3, if_neg (by omega)]
    refine crun_of (X := X) X_ok X_sat (body := bodyOf Tryz.f180) Tryz.func180 rfl (by kernel_rfl) (by kernel_rfl) ?_
    rw [Tryz.ntmps180]
    conv => whnf
    repeat' (first | refine Fork.np ?_ | refine Fork.nn ?_) <;> try (conv => whnf)
    refine LoopN.rule (α := Nat × Bool) (fun s => ⟨74, [(2, .ptr (.f 2) 0), (3, .ptr (.f 3) 0), (4, .ptr (.f 4) 0), (5, .sc (.bool s.2)), (6, i64 s.1)],
        [(2, .cells [i64 k, i64 n, .sc (.string t), .vec (Val.cvs l)]), (3, .cells [i64 k', i64 n', .sc (.string t'), .vec (Val.cvs l')]), (4, .cells [i64 0, i64 0, .sc (.string ⟨#[]⟩), .nil])]⟩)
      (fun _ => σ) (fun s => l.length - s.1) (fun s => s.1 ≤ l.length ∧ eqL l l' = comb s.2 (eqL (l.drop s.1) (l'.drop s.1))) ?_ (0, true) ⟨Nat.zero_le _, rfl⟩ ?_
    rotate_left
    · (refine ⟨rfl, ?_, ?_, Sub.refl _⟩ <;> repeat' (first | exact EnvLe.nil | exact LocsLe.nil | refine EnvLe.cons _ _ _ ?_ ?_ | refine LocsLe.cons _ _ _ ?_ ?_ | exact CVle.same _ rfl | exact CVle.vec _ _ | exact CVle.nil | exact CVle.tok _ _ _ rfl rfl | exact ObLe.tok _ _ rfl | exact CVles.nil | refine CVles.cons ?_ ?_ | exact ObLe.same _ rfl rfl | refine ObLe.cells rfl ?_))
    rintro ⟨i, kn⟩ K ⟨g1, g3⟩ hK
    dsimp only at g1 g3 ⊢
    by_cases hi : i < l.length
    · obtain ⟨w, hm, hw, hg⟩ := cvs_at hi
      obtain ⟨w', hm', hw', hg'⟩ := cvs_at (l := l') (i := i) (by omega)
      have hc := ih w hm (b5 w' hm')
      rw [drop_get hw, drop_get hw'] at g3
      obtain ⟨wk, wn, wt, wl⟩ := w
      obtain ⟨wk', wn', wt', wl'⟩ := w'
      cases hz : eq3 (.mk wk wn wt wl) (.mk wk' wn' wt' wl') with
      | no =>
        rw [hz] at hc
        rw [comb_no hz] at g3
        have isn := isNo_v (σ := σ) (k := 1) (n := 0) (t := ⟨#[]⟩) (l := []) (b := true) rfl
        cases kn
        all_goals
          conv => whnf
          repeat' (first | (refine CallN.one hc ?_) | refine OrdN.one ?_ | refine Fork.yp ?_ | refine Need.go ?_ | refine Need.draw ?_ | refine ElemN.go ?_ | refine ExtN.ext ?_ | refine finGo ?_) <;> try (conv => whnf)
          exact ansT (o.trans g3)
      | unk =>
        rw [hz] at hc
        rw [comb_unk hz] at g3
        have isn := isNo_v (σ := σ) (k := 0) (n := 0) (t := ⟨#[]⟩) (l := []) (b := false) rfl
        cases kn
        all_goals
          conv => whnf
          repeat' (first | (refine CallN.one hc ?_) | refine OrdN.one ?_ | refine Fork.yp ?_ | refine Fork.np ?_ | refine Need.go ?_ | refine Need.draw ?_ | refine ElemN.go ?_ | refine ExtN.ext ?_) <;> try (conv => whnf)
          refine hK (i + 1, false) _ _ ⟨by dsimp only; omega, g3⟩ (by dsimp only; omega) ?_
          (refine ⟨rfl, ?_, ?_, Sub.refl _⟩ <;> repeat' (first | exact EnvLe.nil | exact LocsLe.nil | refine EnvLe.cons _ _ _ ?_ ?_ | refine LocsLe.cons _ _ _ ?_ ?_ | exact CVle.same _ rfl | exact CVle.vec _ _ | exact CVle.nil | exact CVle.tok _ _ _ rfl rfl | exact ObLe.tok _ _ rfl | exact CVles.nil | refine CVles.cons ?_ ?_ | exact ObLe.same _ rfl rfl | refine ObLe.cells rfl ?_))
      | yes =>
        rw [hz] at hc
        rw [comb_yes hz] at g3
        have isn := isNo_v (σ := σ) (k := 1) (n := 1) (t := ⟨#[]⟩) (l := []) (b := false) rfl
        cases kn
        · conv => whnf
          repeat' (first | (refine CallN.one hc ?_) | refine OrdN.one ?_ | refine Fork.yp ?_ | refine Fork.np ?_ | refine Need.go ?_ | refine Need.draw ?_ | refine ElemN.go ?_ | refine ExtN.ext ?_) <;> try (conv => whnf)
          refine hK (i + 1, false) _ _ ⟨by dsimp only; omega, g3⟩ (by dsimp only; omega) ?_
          (refine ⟨rfl, ?_, ?_, Sub.refl _⟩ <;> repeat' (first | exact EnvLe.nil | exact LocsLe.nil | refine EnvLe.cons _ _ _ ?_ ?_ | refine LocsLe.cons _ _ _ ?_ ?_ | exact CVle.same _ rfl | exact CVle.vec _ _ | exact CVle.nil | exact CVle.tok _ _ _ rfl rfl | exact ObLe.tok _ _ rfl | exact CVles.nil | refine CVles.cons ?_ ?_ | exact ObLe.same _ rfl rfl | refine ObLe.cells rfl ?_))
        · conv => whnf
          repeat' (first | (refine CallN.one hc ?_) | refine OrdN.one ?_ | refine Fork.yp ?_ | refine Fork.np ?_ | refine Need.go ?_ | refine Need.draw ?_ | refine ElemN.go ?_ | refine ExtN.ext ?_) <;> try (conv => whnf)
          refine hK (i + 1, true) _ _ ⟨by dsimp only; omega, g3⟩ (by dsimp only; omega) ?_
          (refine ⟨rfl, ?_, ?_, Sub.refl _⟩ <;> repeat' (first | exact EnvLe.nil | exact LocsLe.nil | refine EnvLe.cons _ _ _ ?_ ?_ | refine LocsLe.cons _ _ _ ?_ ?_ | exact CVle.same _ rfl | exact CVle.vec _ _ | exact CVle.nil | exact CVle.tok _ _ _ rfl rfl | exact ObLe.tok _ _ rfl | exact CVles.nil | refine CVles.cons ?_ ?_ | exact ObLe.same _ rfl rfl | refine ObLe.cells rfl ?_))
    · rw [List.drop_eq_nil_of_le (by omega), List.drop_eq_nil_of_le (by omega), eqL_nil] at g3
      cases kn
      · conv => whnf
        repeat' (first | refine Fork.np ?_ | refine finGo ?_) <;> try (conv => whnf)
        exact ansT (o.trans g3)
      · conv => whnf
        repeat' (first | (refine CallN.one y0 ?_) | refine Fork.np ?_ | refine ExtN.ext ?_ | refine finGo ?_) <;> try (conv => whnf)
        exact ansT (o.trans g3)
inductive Rs where
  | ok (v : Val)
  | err (c : Int)
def outI (σ : Heap) : Rs → COut
  | .ok v => .ret v.cv σ
  | .err c => .pan (.iface 127 (i64 c)) σ
def outS (σ : Heap) : Rs → COut
  | .ok v => .ret (.tup [v.cv, i64 0]) σ
  | .err c => .ret (.tup [nullV.cv, i64 c]) σ
def t3 : Val → Option T3
  | .mk k n _ _ => if k = 0 then some .unk else if k = 1 then some (if n = 0 then .no else .yes) else none
def not3 : T3 → T3
  | .no => .yes
  | .unk => .unk
  | .yes => .no
def and3 : T3 → T3 → T3
  | .no, _ => .no
  | _, .no => .no
  | .unk, _ => .unk
  | _, .unk => .unk
  | .yes, .yes => .yes
def notR (v : Val) : Rs := match t3 v with
  | some t => .ok (not3 t).v
  | none => .err 1
def and2R (v w : Val) : Rs := match t3 v, t3 w with
  | some t, some u => .ok (and3 t u).v
  | _, _ => .err 1
def or2R (v w : Val) : Rs := match t3 v, t3 w with
  | some t, some u => .ok (not3 (and3 (not3 t) (not3 u))).v
  | _, _ => .err 1
def isKind : Val → Int
  | .mk k _ _ _ => k
def nullR (v : Val) : Rs := .ok (T3.of (decide (isKind v = 0))).v
def numV (n : Int) : Val := .mk 2 n ⟨#[]⟩ []
def sizeR : Val → Rs
  | .mk k n t l => if k = 0 then .ok nullV else if k = 4 then .ok (numV l.length) else if k = 3 then .ok (numV t.size) else .err 1
def in3 (a : Val) : List Val → T3
  | [] => .no
  | v :: r => match eq3 a v with
    | .yes => .yes
    | .unk => (match in3 a r with | .yes => .yes | _ => .unk)
    | .no => in3 a r
def memR (a : Val) : Val → Rs
  | .mk k n t l => if k = 0 then .ok nullV else if k = 4 then .ok (in3 a l).v else .err 1
theorem t3_v (t : T3) : t3 t.v = some t := by cases t <;> rfl
theorem t3_mk {k n : Int} {s : ByteArray} {l : List Val} : t3 (.mk k n s l) = if k = 0 then some .unk else if k = 1 then some (if n = 0 then .no else .yes) else none := rfl
theorem t3_of {v : Val} {t : T3} (h : t3 v = some t) {d : Int} (hk : okV d v = true) : v = t.v := by
  obtain ⟨k, n, s, l⟩ := v
  rw [t3_mk] at h
  by_cases h0 : k = 0
  · subst h0
    rw [if_pos rfl] at h
    cases h
    obtain ⟨e1, e2⟩ := okV_num hk (by decide) (by decide)
    rcases okV_kind hk with ⟨_, e3⟩ | h | h | h | h | h | h
    · rw [e1, e2, e3]; rfl
    all_goals omega
  · by_cases h1 : k = 1
    · subst h1
      rw [if_neg (by decide), if_pos rfl] at h
      obtain ⟨e1, e2⟩ := okV_num hk (by decide) (by decide)
      have hn : 0 ≤ n ∧ n ≤ 1 := by
        simp only [okV] at hk
        simp at hk
        omega
      rw [e1, e2]
      by_cases hz : n = 0
      · rw [if_pos hz] at h; cases h; rw [hz]; rfl
      · rw [if_neg hz] at h; cases h; rw [show n = 1 by omega]; rfl
    · rw [if_neg h0, if_neg h1] at h; cases h
theorem t3_none {k n : Int} {s : ByteArray} {l : List Val} (h : t3 (.mk k n s l) = none) : ¬ k = 0 ∧ ¬ k = 1 := by
  rw [t3_mk] at h
  by_cases h0 : k = 0
  · rw [if_pos h0] at h; cases h
  · by_cases h1 : k = 1
    · rw [if_neg h0, if_pos h1] at h; cases h
    · exact ⟨h0, h1⟩
theorem finPGo {v : CV} {σ : Heap} {post : COut → Prop} (h : post (.pan v σ)) : FinP v σ post := .pan σ (Sub.refl _) h
theorem ansP {c : Int} {σ : Heap} : COut.pan (.iface 127 (i64 c)) σ = outI σ (.err c) := rfl
theorem must_ok {σ : Heap} {k n : Int} {t : ByteArray} {l : List CV} (h : k = 0 ∨ k = 1) : CRun Tryz.prog 217 [.agg [i64 k, i64 n, .sc (.string t), .vec l]] σ (· = .ret (.tup []) σ) := by
  refine crun_of (X := X) X_ok X_sat (body := bodyOf Tryz.f217) Tryz.func217 rfl (by kernel_rfl) (by kernel_rfl) ?_
  rw [Tryz.ntmps217]
  rcases h with rfl | rfl
  all_goals
    conv => whnf
    repeat' (first | refine Fork.ny ?_ | refine Fork.nn ?_ | refine finGo ?_) <;> try (conv => whnf)
    all_goals rfl
theorem must_no {σ : Heap} {k n : Int} {t : ByteArray} {l : List CV} (h : ¬ k = 0 ∧ ¬ k = 1) : CRun Tryz.prog 217 [.agg [i64 k, i64 n, .sc (.string t), .vec l]] σ (· = outI σ (.err 1)) := by
  obtain ⟨h0, h1⟩ := h
  refine crun_of (X := X) X_ok X_sat (body := bodyOf Tryz.f217) Tryz.func217 rfl (by kernel_rfl) (by kernel_rfl) ?_
  rw [Tryz.ntmps217]
  conv => whnf
  repeat' (first | (refine finPGo ?_) | refine Fork.ny ?_) <;> try (conv => whnf)
  all_goals rfl
theorem notOf_c {σ : Heap} {v : Val} (hv : okV 3 v = true) : CRun Tryz.prog 160 [v.cv] σ (· = outI σ (notR v)) := by
  have y0 := @yes_t σ
  cases ht : t3 v with
  | none =>
    have o : notR v = .err 1 := by unfold notR; rw [ht]
    rw [o]
    obtain ⟨k, n, t, l⟩ := v
    have m := must_no (σ := σ) (n := n) (t := t) (l := Val.cvs l) (t3_none ht)
    refine crun_of (X := X) X_ok X_sat (body := bodyOf Tryz.f160) Tryz.func160 rfl (by kernel_rfl) (by kernel_rfl) ?_
    rw [Tryz.ntmps160]
    conv => whnf
    repeat' (first | (refine CallN.one m ?_) | (refine finPGo ?_)) <;> try (conv => whnf)
    all_goals rfl
  | some t =>
    have o : notR v = .ok (not3 t).v := by unfold notR; rw [ht]
    rw [o, t3_of ht hv]
    have m := @must_ok σ
    refine crun_of (X := X) X_ok X_sat (body := bodyOf Tryz.f160) Tryz.func160 rfl (by kernel_rfl) (by kernel_rfl) ?_
    rw [Tryz.ntmps160]
    cases t
    all_goals
      conv => whnf
      repeat' (first | (refine CallN.one (m (.inl rfl)) ?_) | (refine CallN.one (m (.inr rfl)) ?_) | (refine CallN.one y0 ?_) | refine Fork.yp ?_ | refine Fork.np ?_ | refine ExtN.ext ?_ | refine finGo ?_) <;> try (conv => whnf)
      all_goals rfl
theorem l4Not_c {σ : Heap} {t : T3} : CRun Tryz.prog 179 [t.v.cv] σ (· = .ret (not3 t).v.cv σ) := by
  have y0 := @bool_t σ
  refine crun_of (X := X) X_ok X_sat (body := bodyOf Tryz.f179) Tryz.func179 rfl (by kernel_rfl) (by kernel_rfl) ?_
  rw [Tryz.ntmps179]
  cases t
  all_goals
    conv => whnf
    repeat' (first | (refine CallN.one y0 ?_) | refine Fork.yp ?_ | refine Fork.np ?_ | refine ExtN.ext ?_ | refine finGo ?_) <;> try (conv => whnf)
    all_goals rfl
theorem l4Yes_v {σ : Heap} {k n : Int} {t : ByteArray} {l : List CV} {b : Bool} (hb0 : decide (k = 1 ∨ k = 0) = b) : CRun Tryz.prog 178 [.agg [i64 k, i64 n, .sc (.string t), .vec l]] σ (· = .ret (.sc (.bool b)) σ) := by
  refine crun_of (X := X) X_ok X_sat (body := bodyOf Tryz.f178) Tryz.func178 rfl (by kernel_rfl) (by kernel_rfl) ?_
  rw [Tryz.ntmps178]
  conv => whnf
  repeat' (first | refine Fork.dp (fun h => ?_) (fun h => ?_) | refine finGo ?_) <;> try (conv => whnf)
  all_goals exact ansB (hb0.symm.trans (by first | exact decide_eq_true (by omega) | exact decide_eq_false (by omega)))
theorem l4And_c {σ : Heap} {t u : T3} : CRun Tryz.prog 184 [t.v.cv, u.v.cv] σ (· = .ret (and3 t u).v.cv σ) := by
  have y0 := @bool_t σ
  refine crun_of (X := X) X_ok X_sat (body := bodyOf Tryz.f184) Tryz.func184 rfl (by kernel_rfl) (by kernel_rfl) ?_
  rw [Tryz.ntmps184]
  cases t <;> cases u
  all_goals
    conv => whnf
    repeat' (first | (refine CallN.one y0 ?_) | refine Fork.yp ?_ | refine Fork.np ?_ | refine ExtN.ext ?_ | refine finGo ?_) <;> try (conv => whnf)
    all_goals rfl
theorem andOf_t {σ : Heap} {t u : T3} : CRun Tryz.prog 166 [t.v.cv, u.v.cv] σ (· = .ret (and3 t u).v.cv σ) := by
  have y0 := @yes_t σ
  have m := @must_ok σ
  have n := @isNo_v σ
  refine crun_of (X := X) X_ok X_sat (body := bodyOf Tryz.f166) Tryz.func166 rfl (by kernel_rfl) (by kernel_rfl) ?_
  rw [Tryz.ntmps166]
  cases t <;> cases u
  all_goals
    conv => whnf
    repeat' (first | (refine CallN.one y0 ?_) | (refine CallN.one (m (.inl rfl)) ?_) | (refine CallN.one (m (.inr rfl)) ?_) | (refine CallN.one (n (b := true) rfl) ?_) | (refine CallN.one (n (b := false) rfl) ?_) | refine Fork.yp ?_ | refine Fork.np ?_ | refine ExtN.ext ?_ | refine finGo ?_) <;> try (conv => whnf)
    all_goals rfl
theorem andOf_c {σ : Heap} {v w : Val} (hv : okV 3 v = true) (hw : okV 3 w = true) : CRun Tryz.prog 166 [v.cv, w.cv] σ (· = outI σ (and2R v w)) := by
  cases ht : t3 v with
  | none =>
    have o : and2R v w = .err 1 := by unfold and2R; rw [ht]
    rw [o]
    obtain ⟨k, n, t, l⟩ := v
    obtain ⟨k', n', t', l'⟩ := w
    have m := must_no (σ := σ) (n := n) (t := t) (l := Val.cvs l) (t3_none ht)
    refine crun_of (X := X) X_ok X_sat (body := bodyOf Tryz.f166) Tryz.func166 rfl (by kernel_rfl) (by kernel_rfl) ?_
    rw [Tryz.ntmps166]
    conv => whnf
    repeat' (first | (refine CallN.one m ?_) | (refine finPGo ?_)) <;> try (conv => whnf)
    all_goals rfl
  | some t =>
    cases hu : t3 w with
    | none =>
      have o : and2R v w = .err 1 := by unfold and2R; rw [ht, hu]
      rw [o]
      have htt := t3_of ht hv
      rw [htt]
      obtain ⟨k', n', t', l'⟩ := w
      have m := must_no (σ := σ) (n := n') (t := t') (l := Val.cvs l') (t3_none hu)
      have m1 := @must_ok σ
      refine crun_of (X := X) X_ok X_sat (body := bodyOf Tryz.f166) Tryz.func166 rfl (by kernel_rfl) (by kernel_rfl) ?_
      rw [Tryz.ntmps166]
      cases t
      all_goals
        conv => whnf
        repeat' (first | (refine CallN.one (m1 (.inl rfl)) ?_) | (refine CallN.one (m1 (.inr rfl)) ?_) | (refine CallN.one m ?_) | (refine finPGo ?_) | refine ExtN.ext ?_) <;> try (conv => whnf)
        all_goals rfl
    | some u =>
      have o : and2R v w = .ok (and3 t u).v := by unfold and2R; rw [ht, hu]
      rw [o, t3_of ht hv, t3_of hu hw]
      exact andOf_t
theorem ansO {σ : Heap} {r q : Rs} (h : q = r) : outI σ r = outI σ q := by rw [h]
theorem ansQ {σ : Heap} {r q : Rs} (h : q = r) : outS σ r = outS σ q := by rw [h]
theorem sizeOf_c {σ : Heap} {v : Val} (hv : Tame v) : CRun Tryz.prog 161 [v.cv] σ (· = outI σ (sizeR v)) := by
  obtain ⟨k, n, t, l⟩ := v
  obtain ⟨_, _, ht, hl, _⟩ := hv.inv
  have e3 := cvs_length l
  have hd : sizeR (.mk k n t l) = if k = 0 then .ok nullV else if k = 4 then .ok (numV l.length) else if k = 3 then .ok (numV t.size) else .err 1 := rfl
  by_cases k0 : k = 0
  · rw [hd, if_pos k0]
    refine crun_of (X := X) X_ok X_sat (body := bodyOf Tryz.f161) Tryz.func161 rfl (by kernel_rfl) (by kernel_rfl) ?_
    rw [Tryz.ntmps161]
    conv => whnf
    repeat' (first | refine Fork.yp ?_ | refine finGo ?_) <;> try (conv => whnf)
    all_goals rfl
  by_cases k4 : k = 4
  · rw [hd, if_neg k0, if_pos k4, ← e3]
    refine crun_of (X := X) X_ok X_sat (body := bodyOf Tryz.f161) Tryz.func161 rfl (by kernel_rfl) (by kernel_rfl) ?_
    rw [Tryz.ntmps161]
    conv => whnf
    repeat' (first | refine Fork.yp ?_ | refine Fork.np ?_ | refine finGo ?_) <;> try (conv => whnf)
    all_goals rfl
  by_cases k3 : k = 3
  · rw [hd, if_neg k0, if_neg k4, if_pos k3]
    refine crun_of (X := X) X_ok X_sat (body := bodyOf Tryz.f161) Tryz.func161 rfl (by kernel_rfl) (by kernel_rfl) ?_
    rw [Tryz.ntmps161]
    conv => whnf
    repeat' (first | refine Fork.yp ?_ | refine Fork.np ?_ | refine finGo ?_) <;> try (conv => whnf)
    all_goals rfl
  · rw [hd, if_neg k0, if_neg k4, if_neg k3]
    refine crun_of (X := X) X_ok X_sat (body := bodyOf Tryz.f161) Tryz.func161 rfl (by kernel_rfl) (by kernel_rfl) ?_
    rw [Tryz.ntmps161]
    conv => whnf
    repeat' (first | (refine finPGo ?_) | refine Fork.np ?_) <;> try (conv => whnf)
    all_goals rfl
def oneR (kind : Int) (v : Val) : Rs := if kind = 11 then nullR v else if kind = 9 then notR v else sizeR v
theorem l4One_c {σ : Heap} {kind : Int} {v : Val} (hv : Tame v) (hk : okV 3 v = true) : CRun Tryz.prog 109 [i64 kind, v.cv] σ (· = outS σ (oneR kind v)) := by
  have y0 := @bool_t σ
  have d1 : oneR kind v = if kind = 11 then nullR v else if kind = 9 then notR v else sizeR v := rfl
  by_cases q1 : kind = 11
  · rw [d1, if_pos q1]
    obtain ⟨k, n, t, l⟩ := v
    by_cases k0 : k = 0
    · have o : nullR (.mk k n t l) = .ok T3.yes.v := by unfold nullR isKind; rw [decide_eq_true k0]; rfl
      rw [o]
      refine crun_of (X := X) X_ok X_sat (body := bodyOf Tryz.f109) Tryz.func109 rfl (by kernel_rfl) (by kernel_rfl) ?_
      rw [Tryz.ntmps109]
      conv => whnf
      repeat' (first | (refine CallN.one y0 ?_) | refine Fork.yp ?_ | refine ExtN.ext ?_ | refine finGo ?_) <;> try (conv => whnf)
      all_goals rfl
    · have o : nullR (.mk k n t l) = .ok T3.no.v := by unfold nullR isKind; rw [decide_eq_false k0]; rfl
      rw [o]
      refine crun_of (X := X) X_ok X_sat (body := bodyOf Tryz.f109) Tryz.func109 rfl (by kernel_rfl) (by kernel_rfl) ?_
      rw [Tryz.ntmps109]
      conv => whnf
      repeat' (first | (refine CallN.one y0 ?_) | refine Fork.yp ?_ | refine Fork.np ?_ | refine ExtN.ext ?_ | refine finGo ?_) <;> try (conv => whnf)
      all_goals rfl
  rw [d1, if_neg q1]
  by_cases q2 : kind = 9
  · rw [if_pos q2]
    cases ht : t3 v with
    | none =>
      have o : notR v = .err 1 := by unfold notR; rw [ht]
      rw [o]
      obtain ⟨k, n, t, l⟩ := v
      have m := l4Yes_v (σ := σ) (k := k) (n := n) (t := t) (l := Val.cvs l) (b := false) (decide_eq_false (by have := t3_none ht; omega))
      refine crun_of (X := X) X_ok X_sat (body := bodyOf Tryz.f109) Tryz.func109 rfl (by kernel_rfl) (by kernel_rfl) ?_
      rw [Tryz.ntmps109]
      conv => whnf
      repeat' (first | (refine CallN.one m ?_) | refine Fork.yp ?_ | refine Fork.np ?_ | refine ExtN.ext ?_ | refine finGo ?_) <;> try (conv => whnf)
      all_goals rfl
    | some t =>
      have o : notR v = .ok (not3 t).v := by unfold notR; rw [ht]
      rw [o, t3_of ht hk]
      have m := @l4Yes_v σ
      have c := @l4Not_c σ t
      refine crun_of (X := X) X_ok X_sat (body := bodyOf Tryz.f109) Tryz.func109 rfl (by kernel_rfl) (by kernel_rfl) ?_
      rw [Tryz.ntmps109]
      cases t
      all_goals
        conv => whnf
        repeat' (first | (refine CallN.one (m (b := true) rfl) ?_) | (refine CallN.one c ?_) | refine Fork.yp ?_ | refine Fork.np ?_ | refine ExtN.ext ?_ | refine finGo ?_) <;> try (conv => whnf)
        all_goals rfl
  rw [if_neg q2]
  obtain ⟨k, n, t, l⟩ := v
  obtain ⟨_, _, ht, hl, _⟩ := hv.inv
  have e3 := cvs_length l
  have hd : sizeR (.mk k n t l) = if k = 0 then .ok nullV else if k = 4 then .ok (numV l.length) else if k = 3 then .ok (numV t.size) else .err 1 := rfl
  by_cases k0 : k = 0
  · rw [hd, if_pos k0]
    subst k0
    have e5 := okV_num hk (by decide) (by decide)
    obtain ⟨rfl, rfl⟩ := e5
    have e6 : n = 0 := by rcases okV_kind hk with ⟨_, e3⟩ | h | h | h | h | h | h <;> omega
    subst e6
    refine crun_of (X := X) X_ok X_sat (body := bodyOf Tryz.f109) Tryz.func109 rfl (by kernel_rfl) (by kernel_rfl) ?_
    rw [Tryz.ntmps109]
    conv => whnf
    repeat' (first | refine Fork.yp ?_ | refine Fork.np ?_ | refine finGo ?_) <;> try (conv => whnf)
    all_goals rfl
  by_cases k4 : k = 4
  · rw [hd, if_neg k0, if_pos k4, ← e3]
    refine crun_of (X := X) X_ok X_sat (body := bodyOf Tryz.f109) Tryz.func109 rfl (by kernel_rfl) (by kernel_rfl) ?_
    rw [Tryz.ntmps109]
    conv => whnf
    repeat' (first | refine Fork.yp ?_ | refine Fork.np ?_ | refine finGo ?_) <;> try (conv => whnf)
    all_goals rfl
  by_cases k3 : k = 3
  · rw [hd, if_neg k0, if_neg k4, if_pos k3]
    refine crun_of (X := X) X_ok X_sat (body := bodyOf Tryz.f109) Tryz.func109 rfl (by kernel_rfl) (by kernel_rfl) ?_
    rw [Tryz.ntmps109]
    conv => whnf
    repeat' (first | refine Fork.yp ?_ | refine Fork.np ?_ | refine finGo ?_) <;> try (conv => whnf)
    all_goals rfl
  · rw [hd, if_neg k0, if_neg k4, if_neg k3]
    refine crun_of (X := X) X_ok X_sat (body := bodyOf Tryz.f109) Tryz.func109 rfl (by kernel_rfl) (by kernel_rfl) ?_
    rw [Tryz.ntmps109]
    conv => whnf
    repeat' (first | refine Fork.np ?_ | refine finGo ?_) <;> try (conv => whnf)
    all_goals rfl
theorem in3_cons {a v : Val} {r : List Val} : in3 a (v :: r) = match eq3 a v with
    | .yes => .yes
    | .unk => (match in3 a r with | .yes => .yes | _ => .unk)
    | .no => in3 a r := rfl
def combI : Bool → T3 → T3
  | true, x => x
  | false, .yes => .yes
  | false, _ => .unk
theorem combI_yes {a v : Val} {r : List Val} {b : Bool} (h : eq3 a v = .yes) : combI b (in3 a (v :: r)) = .yes := by rw [in3_cons, h]; cases b <;> rfl
theorem combI_unk {a v : Val} {r : List Val} {b : Bool} (h : eq3 a v = .unk) : combI b (in3 a (v :: r)) = combI false (in3 a r) := by
  rw [in3_cons, h]; cases in3 a r <;> cases b <;> rfl
theorem combI_no {a v : Val} {r : List Val} {b : Bool} (h : eq3 a v = .no) : combI b (in3 a (v :: r)) = combI b (in3 a r) := by rw [in3_cons, h]
def isC : Bool → List CV
  | true => [i64 1, i64 0, .sc (.string ⟨#[]⟩), .vec []]
  | false => [i64 0, i64 0, .sc (.string ⟨#[]⟩), .vec []]
set_option maxHeartbeats 1000000 in
theorem inOf_c {σ : Heap} {a b : Val} (ha : Tame a) (hb : Tame b) : CRun Tryz.prog 168 [a.cv, b.cv] σ (· = outI σ (memR a b)) := by
  have y0 := @yes_t σ
  obtain ⟨k, n, t, l⟩ := b
  obtain ⟨_, _, ht, hl, hall⟩ := hb.inv
  have e3 := cvs_length l
  have hd : memR a (.mk k n t l) = if k = 0 then .ok nullV else if k = 4 then .ok (in3 a l).v else .err 1 := rfl
  have heq := fun w (hm : w ∈ l) => equalOf_c (σ := σ) ha (hall w hm)
  obtain ⟨ak, an, at', al⟩ := a
  by_cases k0 : k = 0
  · rw [hd, if_pos k0]
    refine crun_of (X := X) X_ok X_sat (body := bodyOf Tryz.f168) Tryz.func168 rfl (by kernel_rfl) (by kernel_rfl) ?_
    rw [Tryz.ntmps168]
    conv => whnf
    repeat' (first | refine Fork.yp ?_ | refine finGo ?_) <;> try (conv => whnf)
    all_goals rfl
  by_cases k4 : k = 4
  case neg =>
    rw [hd, if_neg k0, if_neg k4]
    refine crun_of (X := X) X_ok X_sat (body := bodyOf Tryz.f168) Tryz.func168 rfl (by kernel_rfl) (by kernel_rfl) ?_
    rw [Tryz.ntmps168]
    conv => whnf
    repeat' (first | (refine finPGo ?_) | refine Fork.np ?_ | refine Fork.ny ?_) <;> try (conv => whnf)
    all_goals rfl
  rw [hd, if_neg k0, if_pos k4]
  have o : ∀ q : T3, combI true (in3 (.mk ak an at' al) l) = q → COut.ret q.v.cv σ = outI σ (.ok (in3 (.mk ak an at' al) l).v) := fun q h => by rw [← h]; rfl
  refine crun_of (X := X) X_ok X_sat (body := bodyOf Tryz.f168) Tryz.func168 rfl (by kernel_rfl) (by kernel_rfl) ?_
  rw [Tryz.ntmps168]
  conv => whnf
  repeat' (first | (refine CallN.one y0 ?_) | refine Fork.np ?_ | refine Fork.nn ?_ | refine ExtN.ext ?_) <;> try (conv => whnf)
  refine LoopN.rule (α := Nat × Bool) (fun s => ⟨37, [(2, .ptr (.f 2) 0), (4, .ptr (.f 4) 0), (5, .ptr (.f 5) 0), (19, .vec (Val.cvs l)), (20, i64 (Val.cvs l).length), (21, i64 s.1)],
      [(2, .cells [i64 ak, i64 an, .sc (.string at'), .vec (Val.cvs al)]), (4, .cells [i64 0, i64 0, .sc (.string ⟨#[]⟩), .nil]), (5, .cells (isC s.2))]⟩)
    (fun _ => σ) (fun s => l.length - s.1) (fun s => s.1 ≤ l.length ∧ combI true (in3 (.mk ak an at' al) l) = combI s.2 (in3 (.mk ak an at' al) (l.drop s.1))) ?_ (0, true) ⟨Nat.zero_le _, rfl⟩ ?_
  rotate_left
  · (refine ⟨rfl, ?_, ?_, Sub.refl _⟩ <;> repeat' (first | exact EnvLe.nil | exact LocsLe.nil | refine EnvLe.cons _ _ _ ?_ ?_ | refine LocsLe.cons _ _ _ ?_ ?_ | exact CVle.same _ rfl | exact CVle.vec _ _ | exact CVle.nil | exact CVle.tok _ _ _ rfl rfl | exact ObLe.tok _ _ rfl | exact CVles.nil | refine CVles.cons ?_ ?_ | exact ObLe.same _ rfl rfl | refine ObLe.cells rfl ?_))
  rintro ⟨i, kn⟩ K ⟨g1, g3⟩ hK
  dsimp only at g1 g3 ⊢
  by_cases hi : i < l.length
  · obtain ⟨w, hm, hw, hg⟩ := cvs_at hi
    have hc := heq w hm
    rw [drop_get hw] at g3
    obtain ⟨wk, wn, wt, wl⟩ := w
    cases hz : eq3 (.mk ak an at' al) (.mk wk wn wt wl) with
    | no =>
      rw [hz] at hc
      rw [combI_no hz] at g3
      have isn := isYes_v (σ := σ) (k := 1) (n := 0) (t := ⟨#[]⟩) (l := []) (b := false) rfl
      cases kn
      · conv => whnf
        repeat' (first | (refine CallN.one hc ?_) | (refine CallN.one isn ?_) | refine Fork.yp ?_ | refine Fork.np ?_ | refine Need.go ?_ | refine ElemN.go ?_ | refine ExtN.ext ?_) <;> try (conv => whnf)
        refine hK (i + 1, false) _ _ ⟨by dsimp only; omega, g3⟩ (by dsimp only; omega) ?_
        (refine ⟨rfl, ?_, ?_, Sub.refl _⟩ <;> repeat' (first | exact EnvLe.nil | exact LocsLe.nil | refine EnvLe.cons _ _ _ ?_ ?_ | refine LocsLe.cons _ _ _ ?_ ?_ | exact CVle.same _ rfl | exact CVle.vec _ _ | exact CVle.nil | exact CVle.tok _ _ _ rfl rfl | exact ObLe.tok _ _ rfl | exact CVles.nil | refine CVles.cons ?_ ?_ | exact ObLe.same _ rfl rfl | refine ObLe.cells rfl ?_))
      · conv => whnf
        repeat' (first | (refine CallN.one hc ?_) | (refine CallN.one isn ?_) | refine Fork.yp ?_ | refine Fork.np ?_ | refine Need.go ?_ | refine ElemN.go ?_ | refine ExtN.ext ?_) <;> try (conv => whnf)
        refine hK (i + 1, true) _ _ ⟨by dsimp only; omega, g3⟩ (by dsimp only; omega) ?_
        (refine ⟨rfl, ?_, ?_, Sub.refl _⟩ <;> repeat' (first | exact EnvLe.nil | exact LocsLe.nil | refine EnvLe.cons _ _ _ ?_ ?_ | refine LocsLe.cons _ _ _ ?_ ?_ | exact CVle.same _ rfl | exact CVle.vec _ _ | exact CVle.nil | exact CVle.tok _ _ _ rfl rfl | exact ObLe.tok _ _ rfl | exact CVles.nil | refine CVles.cons ?_ ?_ | exact ObLe.same _ rfl rfl | refine ObLe.cells rfl ?_))
    | unk =>
      rw [hz] at hc
      rw [combI_unk hz] at g3
      have isn := isYes_v (σ := σ) (k := 0) (n := 0) (t := ⟨#[]⟩) (l := []) (b := false) rfl
      cases kn
      all_goals
        conv => whnf
        repeat' (first | (refine CallN.one hc ?_) | (refine CallN.one isn ?_) | refine Fork.yp ?_ | refine Need.go ?_ | refine ElemN.go ?_ | refine ExtN.ext ?_) <;> try (conv => whnf)
        refine hK (i + 1, false) _ _ ⟨by dsimp only; omega, g3⟩ (by dsimp only; omega) ?_
        (refine ⟨rfl, ?_, ?_, Sub.refl _⟩ <;> repeat' (first | exact EnvLe.nil | exact LocsLe.nil | refine EnvLe.cons _ _ _ ?_ ?_ | refine LocsLe.cons _ _ _ ?_ ?_ | exact CVle.same _ rfl | exact CVle.vec _ _ | exact CVle.nil | exact CVle.tok _ _ _ rfl rfl | exact ObLe.tok _ _ rfl | exact CVles.nil | refine CVles.cons ?_ ?_ | exact ObLe.same _ rfl rfl | refine ObLe.cells rfl ?_))
    | yes =>
      rw [hz] at hc
      rw [combI_yes hz] at g3
      have isn := isYes_v (σ := σ) (k := 1) (n := 1) (t := ⟨#[]⟩) (l := []) (b := true) rfl
      cases kn
      all_goals
        conv => whnf
        repeat' (first | (refine CallN.one hc ?_) | (refine CallN.one isn ?_) | refine Fork.yp ?_ | refine Need.go ?_ | refine ElemN.go ?_ | refine ExtN.ext ?_ | refine finGo ?_) <;> try (conv => whnf)
        exact o _ g3
  · rw [List.drop_eq_nil_of_le (by omega)] at g3
    cases kn
    · conv => whnf
      repeat' (first | refine Fork.np ?_ | refine finGo ?_) <;> try (conv => whnf)
      exact o .unk g3
    · conv => whnf
      repeat' (first | refine Fork.np ?_ | refine finGo ?_) <;> try (conv => whnf)
      exact o .no g3
def lookP : List Pr → ByteArray → Option Val
  | [], _ => none
  | p :: r, s => if p.name = s then some p.val else lookP r s
def placeS : List Pr → ByteArray → Nat → Int
  | [], _, _ => -1
  | p :: r, s, k => if p.name = s then k else placeS r s (k + 1)
theorem look_hit {l : List Pr} {p : Pr} {s : ByteArray} {i : Nat} (h : l[i]? = some p) (hx : p.name = s) : lookP (l.drop i) s = some p.val := by rw [drop_cons h]; simp [lookP, hx]
theorem look_miss {l : List Pr} {p : Pr} {s : ByteArray} {i : Nat} (h : l[i]? = some p) (hx : ¬ p.name = s) : lookP (l.drop i) s = lookP (l.drop (i + 1)) s := by rw [drop_cons h]; simp [lookP, hx]
theorem look_end {l : List Pr} {s : ByteArray} {i : Nat} (h : l.length ≤ i) : lookP (l.drop i) s = none := by rw [List.drop_eq_nil_of_le h]; rfl
theorem placeS_hit {l : List Pr} {p : Pr} {s : ByteArray} {i : Nat} (h : l[i]? = some p) (hx : p.name = s) : placeS (l.drop i) s i = i := by rw [drop_cons h]; simp [placeS, hx]
theorem placeS_miss {l : List Pr} {p : Pr} {s : ByteArray} {i : Nat} (h : l[i]? = some p) (hx : ¬ p.name = s) : placeS (l.drop i) s i = placeS (l.drop (i + 1)) s (i + 1) := by rw [drop_cons h]; simp [placeS, hx]
theorem placeS_end {l : List Pr} {s : ByteArray} {i : Nat} (h : l.length ≤ i) : placeS (l.drop i) s i = -1 := by rw [List.drop_eq_nil_of_le h]; rfl
def foundC : Option Val → CV
  | some v => .tup [v.cv, .sc (.bool true)]
  | none => .tup [nullV.cv, .sc (.bool false)]
theorem ansC' {a b : CV} {σ : Heap} (h : b = a) : COut.ret a σ = .ret b σ := by rw [h]
theorem lookUp_c {σ : Heap} {l : List Pr} {s : ByteArray} (hl : l.length ≤ 1000) : CRun Tryz.prog 158 [.vec (prs l), .sc (.string s)] σ (· = .ret (foundC (lookP l s)) σ) := by
  have e3 := prs_len l
  refine crun_of (X := X) X_ok X_sat (body := bodyOf Tryz.f158) Tryz.func158 rfl (by kernel_rfl) (by kernel_rfl) ?_
  rw [Tryz.ntmps158]
  conv => whnf
  repeat' (first | refine OrdN.one ?_ | refine Fork.yp ?_ | refine Fork.np ?_ | refine Fork.ny ?_ | refine Fork.nn ?_ | refine Fork.yb ?_ | refine Fork.nb ?_ | refine Fork.dp (fun h => ?_) (fun h => ?_) | refine Fork.dn (fun h => ?_) (fun h => ?_) | (refine Fork.mk (fun h => ?_) (fun h => ?_) <;> simp only [decide_eq_true_eq, decide_eq_false_iff_not, Bool.not_eq_true', Bool.not_eq_false', Bool.or_eq_true, Bool.or_eq_false_iff] at h) | refine GetN.go ?_ | refine Need.ap1 ?_ | refine Need.ap0 ?_ | refine Need.go ?_ | refine Need.draw ?_ | refine ElemN.go ?_ | refine ExtN.ext ?_ | refine ExtN.wr ?_ | refine AllocN.go (fun l hl => ?_) | refine finGo ?_) <;> try (conv => whnf)
  refine LoopN.rule (α := Nat) (fun i => ⟨22, [(1, .sc (.string s)), (4, .ptr (.f 4) 0), (8, .vec (prs l)), (9, i64 (prs l).length), (10, i64 i)], [(4, .cells [i64 0, i64 0, .sc (.string ⟨#[]⟩), .nil])]⟩)
    (fun _ => σ) (fun i => l.length - i) (fun i => i ≤ l.length ∧ lookP l s = lookP (l.drop i) s) ?_ 0 ⟨by omega, rfl⟩ ?_
  · rintro i K ⟨h1, h2⟩ hK
    dsimp only at h1 h2 ⊢
    by_cases hi : i < l.length
    · obtain ⟨d, vk, vn, vt, vl, hm, hg, hg'⟩ := prs_at hi
      by_cases hk : d = s
      · rw [look_hit hg hk] at h2
        conv => whnf
        repeat' (first | refine Fork.yp ?_ | refine Need.go ?_ | refine ElemN.go ?_ | refine finGo ?_) <;> try (conv => whnf)
        exact ansC' (by rw [h2]; rfl)
      · rw [look_miss hg hk] at h2
        conv => whnf
        repeat' (first | refine Fork.yp ?_ | refine Fork.np ?_ | refine Need.go ?_ | refine ElemN.go ?_) <;> try (conv => whnf)
        refine hK (i + 1) _ _ ⟨by omega, h2⟩ (by omega) ?_
        (refine ⟨rfl, ?_, ?_, Sub.refl _⟩ <;> repeat' (first | exact EnvLe.nil | exact LocsLe.nil | refine EnvLe.cons _ _ _ ?_ ?_ | refine LocsLe.cons _ _ _ ?_ ?_ | exact CVle.same _ rfl | exact CVle.vec _ _ | exact CVle.nil | exact CVle.tok _ _ _ rfl rfl | exact ObLe.tok _ _ rfl | exact CVles.nil | refine CVles.cons ?_ ?_ | exact ObLe.same _ rfl rfl | refine ObLe.cells rfl ?_))
    · rw [look_end (by omega)] at h2
      conv => whnf
      repeat' (first | refine Fork.np ?_ | refine finGo ?_) <;> try (conv => whnf)
      exact ansC' (by rw [h2]; rfl)
  · (refine ⟨rfl, ?_, ?_, Sub.refl _⟩ <;> repeat' (first | exact EnvLe.nil | exact LocsLe.nil | refine EnvLe.cons _ _ _ ?_ ?_ | refine LocsLe.cons _ _ _ ?_ ?_ | exact CVle.same _ rfl | exact CVle.vec _ _ | exact CVle.nil | exact CVle.tok _ _ _ rfl rfl | exact ObLe.tok _ _ rfl | exact CVles.nil | refine CVles.cons ?_ ?_ | exact ObLe.same _ rfl rfl | refine ObLe.cells rfl ?_))
theorem propOf_c {σ : Heap} {l : List Pr} {s : ByteArray} (hl : l.length ≤ 1000) : CRun Tryz.prog 216 [.vec (prs l), .sc (.string s)] σ (· = .ret ((lookP l s).getD nullV).cv σ) := by
  have e3 := prs_len l
  refine crun_of (X := X) X_ok X_sat (body := bodyOf Tryz.f216) Tryz.func216 rfl (by kernel_rfl) (by kernel_rfl) ?_
  rw [Tryz.ntmps216]
  conv => whnf
  repeat' (first | refine OrdN.one ?_ | refine Fork.yp ?_ | refine Fork.np ?_ | refine Fork.ny ?_ | refine Fork.nn ?_ | refine Fork.yb ?_ | refine Fork.nb ?_ | refine Fork.dp (fun h => ?_) (fun h => ?_) | refine Fork.dn (fun h => ?_) (fun h => ?_) | (refine Fork.mk (fun h => ?_) (fun h => ?_) <;> simp only [decide_eq_true_eq, decide_eq_false_iff_not, Bool.not_eq_true', Bool.not_eq_false', Bool.or_eq_true, Bool.or_eq_false_iff] at h) | refine GetN.go ?_ | refine Need.ap1 ?_ | refine Need.ap0 ?_ | refine Need.go ?_ | refine Need.draw ?_ | refine ElemN.go ?_ | refine ExtN.ext ?_ | refine ExtN.wr ?_ | refine AllocN.go (fun l hl => ?_) | refine finGo ?_) <;> try (conv => whnf)
  refine LoopN.rule (α := Nat) (fun i => ⟨21, [(1, .sc (.string s)), (4, .ptr (.f 4) 0), (7, .vec (prs l)), (8, i64 (prs l).length), (9, i64 i)], [(4, .cells [i64 0, i64 0, .sc (.string ⟨#[]⟩), .nil])]⟩)
    (fun _ => σ) (fun i => l.length - i) (fun i => i ≤ l.length ∧ lookP l s = lookP (l.drop i) s) ?_ 0 ⟨by omega, rfl⟩ ?_
  · rintro i K ⟨h1, h2⟩ hK
    dsimp only at h1 h2 ⊢
    by_cases hi : i < l.length
    · obtain ⟨d, vk, vn, vt, vl, hm, hg, hg'⟩ := prs_at hi
      by_cases hk : d = s
      · rw [look_hit hg hk] at h2
        conv => whnf
        repeat' (first | refine Fork.yp ?_ | refine Need.go ?_ | refine ElemN.go ?_ | refine finGo ?_) <;> try (conv => whnf)
        exact ansC' (by rw [h2]; rfl)
      · rw [look_miss hg hk] at h2
        conv => whnf
        repeat' (first | refine Fork.yp ?_ | refine Fork.np ?_ | refine Need.go ?_ | refine ElemN.go ?_) <;> try (conv => whnf)
        refine hK (i + 1) _ _ ⟨by omega, h2⟩ (by omega) ?_
        (refine ⟨rfl, ?_, ?_, Sub.refl _⟩ <;> repeat' (first | exact EnvLe.nil | exact LocsLe.nil | refine EnvLe.cons _ _ _ ?_ ?_ | refine LocsLe.cons _ _ _ ?_ ?_ | exact CVle.same _ rfl | exact CVle.vec _ _ | exact CVle.nil | exact CVle.tok _ _ _ rfl rfl | exact ObLe.tok _ _ rfl | exact CVles.nil | refine CVles.cons ?_ ?_ | exact ObLe.same _ rfl rfl | refine ObLe.cells rfl ?_))
    · rw [look_end (by omega)] at h2
      conv => whnf
      repeat' (first | refine Fork.np ?_ | refine finGo ?_) <;> try (conv => whnf)
      exact ansC' (by rw [h2]; rfl)
  · (refine ⟨rfl, ?_, ?_, Sub.refl _⟩ <;> repeat' (first | exact EnvLe.nil | exact LocsLe.nil | refine EnvLe.cons _ _ _ ?_ ?_ | refine LocsLe.cons _ _ _ ?_ ?_ | exact CVle.same _ rfl | exact CVle.vec _ _ | exact CVle.nil | exact CVle.tok _ _ _ rfl rfl | exact ObLe.tok _ _ rfl | exact CVles.nil | refine CVles.cons ?_ ?_ | exact ObLe.same _ rfl rfl | refine ObLe.cells rfl ?_))
def mustR (l : List Pr) (s : ByteArray) : Rs := match lookP l s with
  | some v => .ok v
  | none => .err 3
theorem mustBe_c {σ : Heap} {l : List Pr} {s : ByteArray} (hl : l.length ≤ 1000) : CRun Tryz.prog 92 [.vec (prs l), .sc (.string s)] σ (· = outI σ (mustR l s)) := by
  have c := lookUp_c (σ := σ) (s := s) hl
  cases h : lookP l s with
  | none =>
    rw [h] at c
    have o : mustR l s = .err 3 := by unfold mustR; rw [h]
    rw [o]
    refine crun_of (X := X) X_ok X_sat (body := bodyOf Tryz.f92) Tryz.func92 rfl (by kernel_rfl) (by kernel_rfl) ?_
    rw [Tryz.ntmps92]
    conv => whnf
    repeat' (first | (refine CallN.one c ?_) | (refine finPGo ?_) | refine ExtN.ext ?_) <;> try (conv => whnf)
    all_goals rfl
  | some v =>
    rw [h] at c
    have o : mustR l s = .ok v := by unfold mustR; rw [h]
    rw [o]
    obtain ⟨k, n, t, vl⟩ := v
    refine crun_of (X := X) X_ok X_sat (body := bodyOf Tryz.f92) Tryz.func92 rfl (by kernel_rfl) (by kernel_rfl) ?_
    rw [Tryz.ntmps92]
    conv => whnf
    repeat' (first | (refine CallN.one c ?_) | refine ExtN.ext ?_ | refine finGo ?_) <;> try (conv => whnf)
    all_goals rfl
theorem l4Cell_c {σ : Heap} {l : List Pr} {s : ByteArray} (hl : l.length ≤ 1000) : CRun Tryz.prog 106 [.vec (prs l), .sc (.string s)] σ (· = .ret (i64 (placeS l s 0)) σ) := by
  have e3 := prs_len l
  refine crun_of (X := X) X_ok X_sat (body := bodyOf Tryz.f106) Tryz.func106 rfl (by kernel_rfl) (by kernel_rfl) ?_
  rw [Tryz.ntmps106]
  conv => whnf
  repeat' (first | refine OrdN.one ?_ | refine Fork.yp ?_ | refine Fork.np ?_ | refine Fork.ny ?_ | refine Fork.nn ?_ | refine Fork.yb ?_ | refine Fork.nb ?_ | refine Fork.dp (fun h => ?_) (fun h => ?_) | refine Fork.dn (fun h => ?_) (fun h => ?_) | (refine Fork.mk (fun h => ?_) (fun h => ?_) <;> simp only [decide_eq_true_eq, decide_eq_false_iff_not, Bool.not_eq_true', Bool.not_eq_false', Bool.or_eq_true, Bool.or_eq_false_iff] at h) | refine GetN.go ?_ | refine Need.ap1 ?_ | refine Need.ap0 ?_ | refine Need.go ?_ | refine Need.draw ?_ | refine ElemN.go ?_ | refine ExtN.ext ?_ | refine ExtN.wr ?_ | refine AllocN.go (fun l hl => ?_) | refine finGo ?_) <;> try (conv => whnf)
  refine LoopN.rule (α := Nat) (fun i => ⟨20, [(0, .vec (prs l)), (1, .sc (.string s)), (5, i64 i)], []⟩)
    (fun _ => σ) (fun i => l.length - i) (fun i => i ≤ l.length ∧ placeS l s 0 = placeS (l.drop i) s i) ?_ 0 ⟨by omega, rfl⟩ ?_
  · rintro i K ⟨h1, h2⟩ hK
    dsimp only at h1 h2 ⊢
    by_cases hi : i < l.length
    · obtain ⟨d, vk, vn, vt, vl, hm, hg, hg'⟩ := prs_at hi
      by_cases hk : d = s
      · rw [placeS_hit hg hk] at h2
        conv => whnf
        repeat' (first | refine Fork.yp ?_ | refine Need.go ?_ | refine ElemN.go ?_ | refine finGo ?_) <;> try (conv => whnf)
        exact ansI h2
      · rw [placeS_miss hg hk] at h2
        conv => whnf
        repeat' (first | refine Fork.yp ?_ | refine Fork.np ?_ | refine Need.go ?_ | refine ElemN.go ?_) <;> try (conv => whnf)
        refine hK (i + 1) _ _ ⟨by omega, h2⟩ (by omega) ?_
        (refine ⟨rfl, ?_, ?_, Sub.refl _⟩ <;> repeat' (first | exact EnvLe.nil | exact LocsLe.nil | refine EnvLe.cons _ _ _ ?_ ?_ | refine LocsLe.cons _ _ _ ?_ ?_ | exact CVle.same _ rfl | exact CVle.vec _ _ | exact CVle.nil | exact CVle.tok _ _ _ rfl rfl | exact ObLe.tok _ _ rfl | exact CVles.nil | refine CVles.cons ?_ ?_ | exact ObLe.same _ rfl rfl | refine ObLe.cells rfl ?_))
    · rw [placeS_end (by omega)] at h2
      conv => whnf
      repeat' (first | refine Fork.np ?_ | refine finGo ?_) <;> try (conv => whnf)
      exact ansI h2
  · (refine ⟨rfl, ?_, ?_, Sub.refl _⟩ <;> repeat' (first | exact EnvLe.nil | exact LocsLe.nil | refine EnvLe.cons _ _ _ ?_ ?_ | refine LocsLe.cons _ _ _ ?_ ?_ | exact CVle.same _ rfl | exact CVle.vec _ _ | exact CVle.nil | exact CVle.tok _ _ _ rfl rfl | exact ObLe.tok _ _ rfl | exact CVles.nil | refine CVles.cons ?_ ?_ | exact ObLe.same _ rfl rfl | refine ObLe.cells rfl ?_))
def cellAt (l : List Pr) (i : Nat) : Bool := match l[i]? with
  | some p => nameOk p.name && (okV 3 p.val && decide (placeS l p.name 0 = i))
  | none => true
def cellsOk (l : List Pr) : Bool := (List.range l.length).all (cellAt l)
theorem cellAt_of {l : List Pr} {i : Nat} {p : Pr} (h : l[i]? = some p) : cellAt l i = (nameOk p.name && (okV 3 p.val && decide (placeS l p.name 0 = i))) := by unfold cellAt; rw [h]
theorem l4Cells_c {σ : Heap} {l : List Pr} (hl : l.length ≤ 1000) (ht : ∀ s ∈ l, PrTame s) : CRun Tryz.prog 45 [.vec (prs l)] σ (· = .ret (.sc (.bool (cellsOk l))) σ) := by
  have e3 := prs_len l
  refine crun_of (X := X) X_ok X_sat (body := bodyOf Tryz.f45) Tryz.func45 rfl (by kernel_rfl) (by kernel_rfl) ?_
  rw [Tryz.ntmps45]
  have no : ∀ i, i < l.length → cellAt l i = false → COut.ret (.sc (.bool false)) σ = .ret (.sc (.bool (cellsOk l))) σ := fun i hi h => ansB (by unfold cellsOk; rw [range_no hi h])
  conv => whnf
  repeat' (first | refine OrdN.one ?_ | refine Fork.yp ?_ | refine Fork.np ?_ | refine Fork.ny ?_ | refine Fork.nn ?_ | refine Fork.yb ?_ | refine Fork.nb ?_ | refine Fork.dp (fun h => ?_) (fun h => ?_) | refine Fork.dn (fun h => ?_) (fun h => ?_) | (refine Fork.mk (fun h => ?_) (fun h => ?_) <;> simp only [decide_eq_true_eq, decide_eq_false_iff_not, Bool.not_eq_true', Bool.not_eq_false', Bool.or_eq_true, Bool.or_eq_false_iff] at h) | refine GetN.go ?_ | refine Need.ap1 ?_ | refine Need.ap0 ?_ | refine Need.go ?_ | refine Need.draw ?_ | refine ElemN.go ?_ | refine ExtN.ext ?_ | refine ExtN.wr ?_ | refine AllocN.go (fun l hl => ?_) | refine finGo ?_) <;> try (conv => whnf)
  refine LoopN.rule (α := Nat) (fun i => ⟨37, [(0, .vec (prs l)), (2, .sc (.bool false)), (3, i64 i)], []⟩)
    (fun _ => σ) (fun i => l.length - i) (fun i => i ≤ l.length ∧ ∀ j, j < i → cellAt l j = true) ?_ 0 ⟨by omega, by omega⟩ ?_
  · rintro i K ⟨h1, h2⟩ hK
    dsimp only at h1 h2 ⊢
    by_cases hi : i < l.length
    · obtain ⟨s, vk, vn, vt, vl, hm, hg, hg'⟩ := prs_at hi
      have c1 := l2Name_c (σ := σ) (t := s) (by have := (ht _ hm).name; dsimp only at this; omega)
      have c2 := specOk_c (σ := σ) (ht _ hm).val
      have c3 := l4Cell_c (σ := σ) (s := s) hl
      have no := no i hi
      have e := cellAt_of hg
      dsimp only at e
      cases hn : nameOk s <;> rw [hn] at c1 e
      · conv => whnf
        repeat' (first | (refine CallN.one c1 ?_) | refine Fork.yp ?_ | refine Need.go ?_ | refine ElemN.go ?_ | refine ExtN.ext ?_ | refine finGo ?_) <;> try (conv => whnf)
        exact no e
      cases hv : okV 3 (.mk vk vn vt vl) <;> rw [hv] at c2 e
      · conv => whnf
        repeat' (first | (refine CallN.one c1 ?_) | (refine CallN.one c2 ?_) | refine Fork.yp ?_ | refine Need.go ?_ | refine ElemN.go ?_ | refine ExtN.ext ?_ | refine finGo ?_) <;> try (conv => whnf)
        exact no e
      by_cases hp : placeS l s 0 = i
      · rw [decide_eq_true hp] at e
        conv => whnf
        repeat' (first | (refine CallN.one c1 ?_) | (refine CallN.one c2 ?_) | (refine CallN.one c3 ?_) | refine Fork.yp ?_ | refine Fork.nn ?_ | refine Need.go ?_ | refine ElemN.go ?_ | refine ExtN.ext ?_) <;> try (conv => whnf)
        refine hK (i + 1) _ _ ⟨by omega, stepAll h2 e⟩ (by omega) ?_
        (refine ⟨rfl, ?_, ?_, Sub.refl _⟩ <;> repeat' (first | exact EnvLe.nil | exact LocsLe.nil | refine EnvLe.cons _ _ _ ?_ ?_ | refine LocsLe.cons _ _ _ ?_ ?_ | exact CVle.same _ rfl | exact CVle.vec _ _ | exact CVle.nil | exact CVle.tok _ _ _ rfl rfl | exact ObLe.tok _ _ rfl | exact CVles.nil | refine CVles.cons ?_ ?_ | exact ObLe.same _ rfl rfl | refine ObLe.cells rfl ?_))
      · rw [decide_eq_false hp] at e
        conv => whnf
        repeat' (first | (refine CallN.one c1 ?_) | (refine CallN.one c2 ?_) | (refine CallN.one c3 ?_) | refine Fork.yp ?_ | refine Fork.ny ?_ | refine Need.go ?_ | refine ElemN.go ?_ | refine ExtN.ext ?_ | refine finGo ?_) <;> try (conv => whnf)
        exact no e
    · have hall : ∀ i, i < l.length → cellAt l i = true := fun j hj => h2 j (by omega)
      conv => whnf
      repeat' (first | refine Fork.np ?_ | refine finGo ?_) <;> try (conv => whnf)
      exact ansB (by unfold cellsOk; rw [range_yes hall])
  · (refine ⟨rfl, ?_, ?_, Sub.refl _⟩ <;> repeat' (first | exact EnvLe.nil | exact LocsLe.nil | refine EnvLe.cons _ _ _ ?_ ?_ | refine LocsLe.cons _ _ _ ?_ ?_ | exact CVle.same _ rfl | exact CVle.vec _ _ | exact CVle.nil | exact CVle.tok _ _ _ rfl rfl | exact ObLe.tok _ _ rfl | exact CVles.nil | refine CVles.cons ?_ ?_ | exact ObLe.same _ rfl rfl | refine ObLe.cells rfl ?_))
theorem placeF_range : ∀ (ids : List Int) (d : Int) (k : Nat), placeF ids d k = -1 ∨ ∃ i : Nat, i < ids.length ∧ placeF ids d k = ((k + i : Nat) : Int)
  | [], _, _ => .inl rfl
  | x :: r, d, k => by
    simp only [placeF]
    by_cases h : x = d
    · rw [if_pos h]; exact .inr ⟨0, by simp, by simp⟩
    · rw [if_neg h]
      rcases placeF_range r d (k + 1) with h2 | ⟨i, h2, h3⟩
      · exact .inl h2
      · exact .inr ⟨i + 1, by simp; omega, by rw [h3]; congr 1; omega⟩
theorem placeF_lt {ids : List Int} {d : Int} (h : 0 ≤ placeF ids d 0) : ∃ i : Nat, i < ids.length ∧ placeF ids d 0 = i := by
  rcases placeF_range ids d 0 with h2 | ⟨i, h2, h3⟩
  · omega
  · exact ⟨i, h2, by rw [h3]; simp⟩
def propsG (g : Gr) : Val → Option (List Pr)
  | .mk k n _ _ => if k = 5 then (if 0 ≤ placeF (nids g.nodes) n 0 then (g.nodes[(placeF (nids g.nodes) n 0).toNat]?).map Nd.props else none)
    else if k = 6 then (if 0 ≤ placeF (eids g.edges) n 0 then (g.edges[(placeF (eids g.edges) n 0).toNat]?).map Ed.props else none) else none
def getG (g : Gr) (v : Val) (s : ByteArray) : Val := match propsG g v with
  | some l => (lookP l s).getD nullV
  | none => nullV
theorem propsG_mk {g : Gr} {k n : Int} {t : ByteArray} {l : List Val} : propsG g (.mk k n t l) = if k = 5 then (if 0 ≤ placeF (nids g.nodes) n 0 then (g.nodes[(placeF (nids g.nodes) n 0).toNat]?).map Nd.props else none)
    else if k = 6 then (if 0 ≤ placeF (eids g.edges) n 0 then (g.edges[(placeF (eids g.edges) n 0).toNat]?).map Ed.props else none) else none := rfl
theorem propsG_cases (g : Gr) (k n : Int) (t : ByteArray) (l : List Val) :
    (k = 5 ∧ ∃ (i : Nat) (d : Int) (ls : List ByteArray) (ps : List Pr), i < g.nodes.length ∧ placeF (nids g.nodes) n 0 = i ∧ (⟨d, ls, ps⟩ : Nd) ∈ g.nodes ∧ (nds g.nodes)[i]? = some (.agg [i64 d, .vec (strs ls), .vec (prs ps)]) ∧ propsG g (.mk k n t l) = some ps) ∨
    (k = 6 ∧ ∃ (i : Nat) (d : Int) (s : ByteArray) (a b : Int) (ps : List Pr), i < g.edges.length ∧ placeF (eids g.edges) n 0 = i ∧ (⟨d, s, a, b, ps⟩ : Ed) ∈ g.edges ∧ (eds g.edges)[i]? = some (.agg [i64 d, .sc (.string s), i64 a, i64 b, .vec (prs ps)]) ∧ propsG g (.mk k n t l) = some ps) ∨
    (propsG g (.mk k n t l) = none ∧ (k = 5 → placeF (nids g.nodes) n 0 < 0) ∧ (k = 6 → placeF (eids g.edges) n 0 < 0)) := by
  rw [propsG_mk]
  by_cases k5 : k = 5
  · by_cases hp : 0 ≤ placeF (nids g.nodes) n 0
    · obtain ⟨i, hi, he⟩ := placeF_lt hp
      rw [nids_len] at hi
      obtain ⟨d, ls, ps, hm, hg, hg', hd⟩ := nds_at hi
      refine .inl ⟨k5, i, d, ls, ps, hi, he, hm, hg', ?_⟩
      rw [if_pos k5, if_pos hp, he]
      simp [hg]
    · refine .inr (.inr ⟨by rw [if_pos k5, if_neg hp], fun _ => by omega, fun h => by omega⟩)
  · by_cases k6 : k = 6
    · by_cases hp : 0 ≤ placeF (eids g.edges) n 0
      · obtain ⟨i, hi, he⟩ := placeF_lt hp
        rw [eids_len] at hi
        obtain ⟨d, s, a, b, ps, hm, hg, hg', hd⟩ := eds_at hi
        refine .inr (.inl ⟨k6, i, d, s, a, b, ps, hi, he, hm, hg', ?_⟩)
        rw [if_neg k5, if_pos k6, if_pos hp, he]
        simp [hg]
      · refine .inr (.inr ⟨by rw [if_neg k5, if_pos k6, if_neg hp], fun h => by omega, fun h => by omega⟩)
    · exact .inr (.inr ⟨by rw [if_neg k5, if_neg k6], fun h => by omega, fun h => by omega⟩)
theorem propIn_c {σ : Heap} {g : Gr} {v : Val} {s : ByteArray} (hg : GrTame g) : CRun Tryz.prog 159 [g.cv, v.cv, .sc (.string s)] σ (· = .ret (getG g v s).cv σ) := by
  obtain ⟨hnl, hel, hnn, hne, hns, hes⟩ := hg
  have e1 := nds_len g.nodes
  have e2 := eds_len g.edges
  obtain ⟨k, n, t, l⟩ := v
  have c3 := nplace_c (σ := σ) (d' := n) hnl
  have c4 := eplace_c (σ := σ) (d' := n) hel
  have d0 : getG g (.mk k n t l) s = match propsG g (.mk k n t l) with | some l => (lookP l s).getD nullV | none => nullV := rfl
  rcases propsG_cases g k n t l with ⟨k5, i, d, ls, ps, hi, hp, hm, hg', hps⟩ | ⟨k6, i, d, q, a, b, ps, hi, hp, hm, hg', hps⟩ | ⟨hps, h5, h6⟩
  · rw [hps] at d0
    dsimp only at d0
    rw [d0]
    rw [hp] at c3
    have cc := propOf_c (σ := σ) (l := ps) (s := s) (hns _ hm).pl
    have c1 : CRun Tryz.prog 215 [g.cv, (Val.mk k n t l).cv] σ (· = .ret (.ref (.agg [i64 d, .vec (strs ls), .vec (prs ps)]) 2) σ) := by
      clear cc
      refine crun_of (X := X) X_ok X_sat (body := bodyOf Tryz.f215) Tryz.func215 rfl (by kernel_rfl) (by kernel_rfl) ?_
      rw [Tryz.ntmps215]
      conv => whnf
      repeat' (first | (refine CallN.one nidof_c ?_) | (refine CallN.one c3 ?_) | refine OrdN.one ?_ | refine Fork.yp ?_ | refine Need.go ?_ | refine Need.draw ?_ | refine ElemN.go ?_ | refine ExtN.ext ?_ | refine finGo ?_) <;> try (conv => whnf)
      all_goals rfl
    clear c3 c4
    generalize (lookP ps s).getD nullV = r at cc ⊢
    obtain ⟨rk, rn, rt, rl⟩ := r
    refine crun_of (X := X) X_ok X_sat (body := bodyOf Tryz.f159) Tryz.func159 rfl (by kernel_rfl) (by kernel_rfl) ?_
    rw [Tryz.ntmps159]
    conv => whnf
    repeat' (first | (refine CallN.one c1 ?_) | (refine CallN.one cc ?_) | refine ExtN.ext ?_ | refine finGo ?_) <;> try (conv => whnf)
    all_goals rfl
  · rw [hps] at d0
    dsimp only at d0
    rw [d0]
    rw [hp] at c4
    have cc := propOf_c (σ := σ) (l := ps) (s := s) (hes _ hm).pl
    have c1 : CRun Tryz.prog 215 [g.cv, (Val.mk k n t l).cv] σ (· = .ret (.ref (.agg [i64 d, .sc (.string q), i64 a, i64 b, .vec (prs ps)]) 4) σ) := by
      clear cc
      refine crun_of (X := X) X_ok X_sat (body := bodyOf Tryz.f215) Tryz.func215 rfl (by kernel_rfl) (by kernel_rfl) ?_
      rw [Tryz.ntmps215]
      conv => whnf
      repeat' (first | (refine CallN.one eidof_c ?_) | (refine CallN.one c4 ?_) | refine OrdN.one ?_ | refine Fork.yp ?_ | refine Fork.np ?_ | refine Need.go ?_ | refine Need.draw ?_ | refine ElemN.go ?_ | refine ExtN.ext ?_ | refine finGo ?_) <;> try (conv => whnf)
      all_goals rfl
    clear c3 c4
    generalize (lookP ps s).getD nullV = r at cc ⊢
    obtain ⟨rk, rn, rt, rl⟩ := r
    refine crun_of (X := X) X_ok X_sat (body := bodyOf Tryz.f159) Tryz.func159 rfl (by kernel_rfl) (by kernel_rfl) ?_
    rw [Tryz.ntmps159]
    conv => whnf
    repeat' (first | (refine CallN.one c1 ?_) | (refine CallN.one cc ?_) | refine ExtN.ext ?_ | refine finGo ?_) <;> try (conv => whnf)
    all_goals rfl
  · rw [hps] at d0
    dsimp only at d0
    rw [d0]
    have c1 : CRun Tryz.prog 215 [g.cv, (Val.mk k n t l).cv] σ (· = .ret (.sc (.pointer none)) σ) := by
      by_cases k5 : k = 5
      · have h5 := h5 k5
        refine crun_of (X := X) X_ok X_sat (body := bodyOf Tryz.f215) Tryz.func215 rfl (by kernel_rfl) (by kernel_rfl) ?_
        rw [Tryz.ntmps215]
        conv => whnf
        repeat' (first | (refine CallN.one nidof_c ?_) | (refine CallN.one c3 ?_) | refine OrdN.one ?_ | refine Fork.yp ?_ | refine Fork.np ?_ | refine Need.draw ?_ | refine ExtN.ext ?_ | refine finGo ?_) <;> try (conv => whnf)
        all_goals rfl
      · by_cases k6 : k = 6
        · have h6 := h6 k6
          refine crun_of (X := X) X_ok X_sat (body := bodyOf Tryz.f215) Tryz.func215 rfl (by kernel_rfl) (by kernel_rfl) ?_
          rw [Tryz.ntmps215]
          conv => whnf
          repeat' (first | (refine CallN.one eidof_c ?_) | (refine CallN.one c4 ?_) | refine OrdN.one ?_ | refine Fork.yp ?_ | refine Fork.np ?_ | refine Need.draw ?_ | refine ExtN.ext ?_ | refine finGo ?_) <;> try (conv => whnf)
          all_goals rfl
        · skip
          refine crun_of (X := X) X_ok X_sat (body := bodyOf Tryz.f215) Tryz.func215 rfl (by kernel_rfl) (by kernel_rfl) ?_
          rw [Tryz.ntmps215]
          conv => whnf
          repeat' (first | refine Fork.np ?_ | refine finGo ?_) <;> try (conv => whnf)
          all_goals rfl
    clear c3 c4
    refine crun_of (X := X) X_ok X_sat (body := bodyOf Tryz.f159) Tryz.func159 rfl (by kernel_rfl) (by kernel_rfl) ?_
    rw [Tryz.ntmps159]
    conv => whnf
    repeat' (first | (refine CallN.one c1 ?_) | refine ExtN.ext ?_ | refine finGo ?_) <;> try (conv => whnf)
    all_goals rfl
def askR (g : Gr) (v : Val) (s : ByteArray) : Rs := if isKind v = 5 ∨ isKind v = 6 ∨ isKind v = 0 then .ok (getG g v s) else .err 1
theorem propAsked_c {σ : Heap} {g : Gr} {v : Val} {s : ByteArray} (hg : GrTame g) : CRun Tryz.prog 95 [g.cv, v.cv, .sc (.string s)] σ (· = outI σ (askR g v s)) := by
  have c := propIn_c (σ := σ) (v := v) (s := s) hg
  obtain ⟨k, n, t, l⟩ := v
  have d0 : askR g (.mk k n t l) s = if k = 5 ∨ k = 6 ∨ k = 0 then .ok (getG g (.mk k n t l) s) else .err 1 := rfl
  by_cases h : k = 5 ∨ k = 6 ∨ k = 0
  · rw [d0, if_pos h]
    generalize getG g (.mk k n t l) s = r at c ⊢
    obtain ⟨rk, rn, rt, rl⟩ := r
    refine crun_of (X := X) X_ok X_sat (body := bodyOf Tryz.f95) Tryz.func95 rfl (by kernel_rfl) (by kernel_rfl) ?_
    rw [Tryz.ntmps95]
    rcases h with h | h | h
    all_goals
      conv => whnf
      repeat' (first | (refine CallN.one c ?_) | refine Fork.ny ?_ | refine Fork.nn ?_ | refine ExtN.ext ?_ | refine finGo ?_) <;> try (conv => whnf)
      all_goals rfl
  · rw [d0, if_neg h]
    have h1 : ¬ k = 5 := by omega
    have h2 : ¬ k = 6 := by omega
    have h3 : ¬ k = 0 := by omega
    refine crun_of (X := X) X_ok X_sat (body := bodyOf Tryz.f95) Tryz.func95 rfl (by kernel_rfl) (by kernel_rfl) ?_
    rw [Tryz.ntmps95]
    conv => whnf
    repeat' (first | (refine finPGo ?_) | refine Fork.ny ?_) <;> try (conv => whnf)
    all_goals rfl
def ofC : Option (List Pr) → CV
  | some l => .tup [.vec (prs l), .sc (.bool true)]
  | none => .tup [.vec [], .sc (.bool false)]
theorem l2Of_c {σ : Heap} {g : Gr} {v : Val} (hg : GrTame g) : CRun Tryz.prog 224 [g.cv, v.cv] σ (· = .ret (ofC (propsG g v)) σ) := by
  obtain ⟨hnl, hel, hnn, hne, hns, hes⟩ := hg
  have e1 := nds_len g.nodes
  have e2 := eds_len g.edges
  obtain ⟨k, n, t, l⟩ := v
  have c3 := nl2_c (σ := σ) (g := g) (d' := n) hnl
  have c4 := el2_c (σ := σ) (g := g) (d' := n) hel
  rcases propsG_cases g k n t l with ⟨k5, i, d, ls, ps, hi, hp, hm, hg', hps⟩ | ⟨k6, i, d, q, a, b, ps, hi, hp, hm, hg', hps⟩ | ⟨hps, h5, h6⟩
  · rw [hps]
    rw [hp] at c3
    refine crun_of (X := X) X_ok X_sat (body := bodyOf Tryz.f224) Tryz.func224 rfl (by kernel_rfl) (by kernel_rfl) ?_
    rw [Tryz.ntmps224]
    conv => whnf
    repeat' (first | (refine CallN.one c3 ?_) | (refine CallN.one c4 ?_) | refine Fork.yp ?_ | refine Need.go ?_ | refine ElemN.go ?_ | refine ExtN.ext ?_ | refine finGo ?_) <;> try (conv => whnf)
    all_goals rfl
  · rw [hps]
    rw [hp] at c4
    refine crun_of (X := X) X_ok X_sat (body := bodyOf Tryz.f224) Tryz.func224 rfl (by kernel_rfl) (by kernel_rfl) ?_
    rw [Tryz.ntmps224]
    conv => whnf
    repeat' (first | (refine CallN.one c3 ?_) | (refine CallN.one c4 ?_) | refine Fork.yp ?_ | refine Fork.np ?_ | refine Need.go ?_ | refine ElemN.go ?_ | refine ExtN.ext ?_ | refine finGo ?_) <;> try (conv => whnf)
    all_goals rfl
  · rw [hps]
    by_cases k5 : k = 5
    · have h5 := h5 k5
      refine crun_of (X := X) X_ok X_sat (body := bodyOf Tryz.f224) Tryz.func224 rfl (by kernel_rfl) (by kernel_rfl) ?_
      rw [Tryz.ntmps224]
      conv => whnf
      repeat' (first | (refine CallN.one c3 ?_) | (refine CallN.one c4 ?_) | refine Fork.yp ?_ | refine Fork.np ?_ | refine ExtN.ext ?_ | refine finGo ?_) <;> try (conv => whnf)
      all_goals rfl
    · by_cases k6 : k = 6
      · have h6 := h6 k6
        refine crun_of (X := X) X_ok X_sat (body := bodyOf Tryz.f224) Tryz.func224 rfl (by kernel_rfl) (by kernel_rfl) ?_
        rw [Tryz.ntmps224]
        conv => whnf
        repeat' (first | (refine CallN.one c3 ?_) | (refine CallN.one c4 ?_) | refine Fork.yp ?_ | refine Fork.np ?_ | refine ExtN.ext ?_ | refine finGo ?_) <;> try (conv => whnf)
        all_goals rfl
      · skip
        refine crun_of (X := X) X_ok X_sat (body := bodyOf Tryz.f224) Tryz.func224 rfl (by kernel_rfl) (by kernel_rfl) ?_
        rw [Tryz.ntmps224]
        conv => whnf
        repeat' (first | (refine CallN.one c3 ?_) | (refine CallN.one c4 ?_) | refine Fork.np ?_ | refine ExtN.ext ?_ | refine finGo ?_) <;> try (conv => whnf)
        all_goals rfl
theorem l2Get_c {σ : Heap} {g : Gr} {v : Val} {s : ByteArray} (hg : GrTame g) : CRun Tryz.prog 177 [g.cv, v.cv, .sc (.string s)] σ (· = .ret (getG g v s).cv σ) := by
  have c := l2Of_c (σ := σ) (v := v) hg
  have hall : ∀ ps, propsG g v = some ps → ps.length ≤ 1000 ∧ ∀ p ∈ ps, PrTame p := by
    obtain ⟨k, n, t, l⟩ := v
    intro ps' h
    rcases propsG_cases g k n t l with ⟨k5, i, d, ls, ps, hi, hp, hm, hg', hps⟩ | ⟨k6, i, d, q, a, b, ps, hi, hp, hm, hg', hps⟩ | ⟨hps, h5, h6⟩
    · rw [hps] at h; cases h; exact ⟨(hg.ns _ hm).pl, (hg.ns _ hm).ps⟩
    · rw [hps] at h; cases h; exact ⟨(hg.es _ hm).pl, (hg.es _ hm).ps⟩
    · rw [hps] at h; cases h
  have d0 : getG g v s = match propsG g v with | some l => (lookP l s).getD nullV | none => nullV := rfl
  have nothing : ∀ (l : List Pr) , l.length ≤ 1000 → (∀ p ∈ l, PrTame p) → CRun Tryz.prog 224 [g.cv, v.cv] σ (· = .ret (.tup [.vec (prs l), .sc (.bool true)]) σ) ∨ CRun Tryz.prog 224 [g.cv, v.cv] σ (· = .ret (.tup [.vec (prs l), .sc (.bool false)]) σ) →
      CRun Tryz.prog 177 [g.cv, v.cv, .sc (.string s)] σ (· = .ret ((lookP l s).getD nullV).cv σ) := by
    intro l hl ht c
    obtain ⟨k, n, t, vl⟩ := v
    have e3 := prs_len l
    clear hall d0
    obtain ⟨b, c⟩ : ∃ b, CRun Tryz.prog 224 [g.cv, (Val.mk k n t vl).cv] σ (· = .ret (.tup [.vec (prs l), .sc (.bool b)]) σ) := by
      rcases c with c | c
      · exact ⟨_, c⟩
      · exact ⟨_, c⟩
    refine crun_of (X := X) X_ok X_sat (body := bodyOf Tryz.f177) Tryz.func177 rfl (by kernel_rfl) (by kernel_rfl) ?_
    rw [Tryz.ntmps177]
    conv => whnf
    repeat' (first | (refine CallN.one c ?_) | refine ExtN.ext ?_) <;> try (conv => whnf)
    refine LoopN.rule (α := Nat) (fun i => ⟨36, [(2, .sc (.string s)), (6, .ptr (.f 6) 0), (7, .vec (prs l)), (9, i64 i)], [(6, .cells [i64 0, i64 0, .sc (.string ⟨#[]⟩), .nil])]⟩)
      (fun _ => σ) (fun i => l.length - i) (fun i => i ≤ l.length ∧ lookP l s = lookP (l.drop i) s) ?_ 0 ⟨by omega, rfl⟩ ?_
    · rintro i K ⟨h1, h2⟩ hK
      dsimp only at h1 h2 ⊢
      by_cases hi : i < l.length
      · obtain ⟨d, vk, vn, vt, vl, hm, hg, hg'⟩ := prs_at hi
        have cv := copy_c (σ := σ) (ht _ hm).val
        by_cases hk : d = s
        · rw [look_hit hg hk] at h2
          conv => whnf
          repeat' (first | (refine CallN.one cv ?_) | refine Fork.yp ?_ | refine Need.go ?_ | refine ElemN.go ?_ | refine ExtN.ext ?_ | refine finGo ?_) <;> try (conv => whnf)
          exact ansC' (by rw [h2]; rfl)
        · rw [look_miss hg hk] at h2
          conv => whnf
          repeat' (first | refine Fork.yp ?_ | refine Fork.np ?_ | refine Need.go ?_ | refine ElemN.go ?_) <;> try (conv => whnf)
          refine hK (i + 1) _ _ ⟨by omega, h2⟩ (by omega) ?_
          (refine ⟨rfl, ?_, ?_, Sub.refl _⟩ <;> repeat' (first | exact EnvLe.nil | exact LocsLe.nil | refine EnvLe.cons _ _ _ ?_ ?_ | refine LocsLe.cons _ _ _ ?_ ?_ | exact CVle.same _ rfl | exact CVle.vec _ _ | exact CVle.nil | exact CVle.tok _ _ _ rfl rfl | exact ObLe.tok _ _ rfl | exact CVles.nil | refine CVles.cons ?_ ?_ | exact ObLe.same _ rfl rfl | refine ObLe.cells rfl ?_))
      · rw [look_end (by omega)] at h2
        conv => whnf
        repeat' (first | refine Fork.np ?_ | refine finGo ?_) <;> try (conv => whnf)
        exact ansC' (by rw [h2]; rfl)
    · (refine ⟨rfl, ?_, ?_, Sub.refl _⟩ <;> repeat' (first | exact EnvLe.nil | exact LocsLe.nil | refine EnvLe.cons _ _ _ ?_ ?_ | refine LocsLe.cons _ _ _ ?_ ?_ | exact CVle.same _ rfl | exact CVle.vec _ _ | exact CVle.nil | exact CVle.tok _ _ _ rfl rfl | exact ObLe.tok _ _ rfl | exact CVles.nil | refine CVles.cons ?_ ?_ | exact ObLe.same _ rfl rfl | refine ObLe.cells rfl ?_))
  rw [d0]
  cases hp : propsG g v with
  | some ps =>
    rw [hp] at c
    exact nothing ps (hall ps hp).1 (hall ps hp).2 (.inl c)
  | none =>
    rw [hp] at c
    exact nothing [] (by simp) (by simp) (.inr c)
inductive Exp where
  | mk (k : Int) (v : Val) (name key : ByteArray) (parts : List Exp)
mutual
def Exp.cv : Exp → CV
  | .mk k (.mk vk vn vt vl) s c ps => .agg [i64 k, i64 vk, i64 vn, .sc (.string vt), .vec (Val.cvs vl), .sc (.string s), .sc (.string c), .vec (Exp.cvs ps)]
def Exp.cvs : List Exp → List CV
  | [] => []
  | e :: r => e.cv :: Exp.cvs r
end
inductive ETame : Exp → Prop
  | mk {k : Int} {v : Val} {s c : ByteArray} {ps : List Exp} (hv : Tame v) (hs : s.size ≤ 1000) (hc : c.size ≤ 1000) (hl : ps.length ≤ 100) (h : ∀ e ∈ ps, ETame e) : ETame (.mk k v s c ps)
theorem ETame.inv {k : Int} {v : Val} {s c : ByteArray} {ps : List Exp} (h : ETame (.mk k v s c ps)) : Tame v ∧ s.size ≤ 1000 ∧ c.size ≤ 1000 ∧ ps.length ≤ 100 ∧ ∀ e ∈ ps, ETame e := by
  cases h with
  | mk h1 h2 h3 h4 h5 => exact ⟨h1, h2, h3, h4, h5⟩
theorem ecvs_map (l : List Exp) : Exp.cvs l = l.map Exp.cv := by
  induction l with
  | nil => rfl
  | cons v r ih => simp [Exp.cvs, ih]
theorem ecvs_length (l : List Exp) : (Exp.cvs l).length = l.length := by simp [ecvs_map]
theorem ecvs_at {l : List Exp} {i : Nat} (hi : i < l.length) : ∃ e, e ∈ l ∧ l[i]? = some e ∧ (Exp.cvs l)[i]? = some (Exp.cv e) := by
  refine ⟨l[i], List.getElem_mem hi, List.getElem?_eq_getElem hi, ?_⟩
  rw [ecvs_map, List.getElem?_map, List.getElem?_eq_getElem hi]; rfl
def Named (k : Int) : Prop := k = 2 ∨ k = 3 ∨ k = 4
instance (k : Int) : Decidable (Named k) := by unfold Named; infer_instance
structure OkH (d k : Int) (v : Val) (s c : ByteArray) (n : Nat) : Prop where
  deep : 1 ≤ d
  ar : (n : Int) = arityF k
  nm : Named k → nameOk s = true
  nm' : ¬ Named k → s = ⟨#[]⟩
  ky : k = 3 → nameOk c = true
  ky' : ¬ k = 3 → c = ⟨#[]⟩
  vl : k = 1 → okV 3 v = true
  vt : k = 1 → litV v = true
  vl' : ¬ k = 1 → emptyV v = true
def okH (d k : Int) (v : Val) (s c : ByteArray) (n : Nat) : Bool := decide (1 ≤ d) && (decide ((n : Int) = arityF k) && ((if Named k then nameOk s else decide (s = ⟨#[]⟩)) && ((if k = 3 then nameOk c else decide (c = ⟨#[]⟩)) && (if k = 1 then okV 3 v && litV v else emptyV v))))
theorem okH_iff {d k : Int} {v : Val} {s c : ByteArray} {n : Nat} : okH d k v s c n = true ↔ OkH d k v s c n := by
  unfold okH
  constructor
  · intro h
    simp only [Bool.and_eq_true, decide_eq_true_eq] at h
    obtain ⟨h1, h2, h3, h4, h5⟩ := h
    refine ⟨h1, h2, fun h => by rw [if_pos h] at h3; exact h3, fun h => by rw [if_neg h] at h3; simpa using h3, fun h => by rw [if_pos h] at h4; exact h4, fun h => by rw [if_neg h] at h4; simpa using h4, fun h => ?_, fun h => ?_, fun h => by rw [if_neg h] at h5; exact h5⟩
    · rw [if_pos h, Bool.and_eq_true] at h5; exact h5.1
    · rw [if_pos h, Bool.and_eq_true] at h5; exact h5.2
  · intro ⟨h1, h2, h3, h3', h4, h4', h5, h6, h7⟩
    simp only [Bool.and_eq_true, decide_eq_true_eq]
    refine ⟨h1, h2, ?_, ?_, ?_⟩
    · split
      · exact h3 ‹_›
      · exact decide_eq_true (h3' ‹_›)
    · split
      · exact h4 ‹_›
      · exact decide_eq_true (h4' ‹_›)
    · split
      · rw [h5 ‹_›, h6 ‹_›]; rfl
      · exact h7 ‹_›
mutual
def okE : Int → Exp → Bool
  | d, .mk k v s c ps => okH d k v s c ps.length && okEL (d - 1) ps
def okEL : Int → List Exp → Bool
  | _, [] => true
  | d, e :: r => okE d e && okEL d r
end
theorem okEL_all {d : Int} {l : List Exp} : okEL d l = l.all (okE d) := by
  induction l with
  | nil => rfl
  | cons v r ih => simp [okEL, ih]
theorem okE_no {d k : Int} {v : Val} {s c : ByteArray} {ps : List Exp} (h : ¬ OkH d k v s c ps.length) : okE d (.mk k v s c ps) = false := by
  simp only [okE]
  rw [show okH d k v s c ps.length = false from by rw [← Bool.not_eq_true]; exact fun e => h (okH_iff.1 e)]; rfl
theorem okE_yes {d k : Int} {v : Val} {s c : ByteArray} {ps : List Exp} (h : OkH d k v s c ps.length) : okE d (.mk k v s c ps) = okEL (d - 1) ps := by
  simp only [okE]; rw [okH_iff.2 h]; rfl
theorem nameOk_empty : nameOk ⟨#[]⟩ = false := nameOk_size (by decide)
theorem empty_same {v : Val} : emptyV v = sameV v nullV := by
  obtain ⟨k, n, t, l⟩ := v
  have e : sameV (.mk k n t l) nullV = (decide (k = 0 ∧ n = 0 ∧ t = ⟨#[]⟩) && sameL l []) := by unfold nullV; simp only [sameV]
  rw [e]
  unfold emptyV
  cases l with
  | nil => simp [sameL]
  | cons v r => simp [sameL]
set_option maxHeartbeats 2000000 in
theorem exprFits_c {σ : Heap} {e : Exp} (he : ETame e) : ∀ {d : Int}, -10 ≤ d → d ≤ 1000 → CRun Tryz.prog 80 [e.cv, i64 d] σ (· = .ret (.sc (.bool (okE d e))) σ) := by
  induction he with
  | @mk k v s c ps hv hs hc hl hps ih =>
    intro d hd hd'
    have e3 := ecvs_length ps
    have a1 := fun k => parts_c (σ := σ) (k := k)
    have n1 := nameOk_c (σ := σ) (t := s) (by omega)
    have n2 := nameOk_c (σ := σ) (t := c) (by omega)
    have v1 := implOk_c (σ := σ) hv
    have v2 := has_c (σ := σ) (c := 5) hv
    have v3 := has_c (σ := σ) (c := 6) hv
    have v4 := empty_c (σ := σ) hv
    by_cases hH : OkH d k v s c ps.length
    case neg =>
      have no : COut.ret (.sc (.bool false)) σ = .ret (.sc (.bool (okE d (.mk k v s c ps)))) σ := ansB (okE_no hH)
      have n1 := split n1
      have n2 := split n2
      have v1 := split v1
      have v2 := split v2
      have v3 := split v3
      have v4 := split v4
      have hlit := @lit_of v 3
      obtain ⟨vk, vn, vt, vl⟩ := v
      refine crun_of (X := X) X_ok X_sat (body := bodyOf Tryz.f80) Tryz.func80 rfl (by kernel_rfl) (by kernel_rfl) ?_
      rw [Tryz.ntmps80]
      conv => whnf
      repeat' (first | (refine CallN.one (a1 _) ?_) | (refine CallN.many n1 ?_; rintro _ (⟨w1, rfl⟩ | ⟨w1, rfl⟩)) | (refine CallN.many n2 ?_; rintro _ (⟨w2, rfl⟩ | ⟨w2, rfl⟩)) | (refine CallN.many v1 ?_; rintro _ (⟨w3, rfl⟩ | ⟨w3, rfl⟩)) | (refine CallN.many v2 ?_; rintro _ (⟨w4, rfl⟩ | ⟨w4, rfl⟩)) | (refine CallN.many v3 ?_; rintro _ (⟨w5, rfl⟩ | ⟨w5, rfl⟩)) | (refine CallN.many v4 ?_; rintro _ (⟨w6, rfl⟩ | ⟨w6, rfl⟩)) | refine OrdN.one ?_ | refine Fork.yp ?_ | refine Fork.np ?_ | refine Fork.dp (fun h => ?_) (fun h => ?_) | refine Fork.dn (fun h => ?_) (fun h => ?_) | refine Need.draw ?_ | refine ExtN.ext ?_ | refine finGo ?_) <;> try (conv => whnf)
      all_goals first
        | exact no
        | exact absurd ⟨by omega, by omega, fun h => by first | assumption | (unfold Named at h; omega), fun h => by first | assumption | exact absurd (by unfold Named; omega) h,
            fun h => by first | assumption | omega, fun h => by first | assumption | omega, fun h => by first | assumption | omega,
            fun h => by first | omega | (rw [hlit ‹_›, ‹hasV 5 _ = _›, ‹hasV 6 _ = _›]; rfl), fun h => by first | assumption | omega⟩ hH
    have one0 := hH.deep
    have har := hH.ar
    by_cases k1 : k = 1
    · have hp : ps = [] := by
        rw [k1] at har
        have : arityF 1 = 0 := by decide
        exact List.eq_nil_of_length_eq_zero (by omega)
      have hr := okE_yes hH
      have hs0 := hH.nm' (by unfold Named; omega)
      have hc0 := hH.ky' (by omega)
      rw [hs0, nameOk_empty] at n1
      rw [hc0, nameOk_empty] at n2
      have hv1 := hH.vl k1
      have hlit := lit_of _ hv1
      rw [hH.vt k1] at hlit
      rw [hv1] at v1
      have w4 : hasV 5 v = false := by
        cases h : hasV 5 v with
        | false => rfl
        | true => rw [h] at hlit; simp at hlit
      have w5 : hasV 6 v = false := by
        cases h : hasV 6 v with
        | false => rfl
        | true => rw [h] at hlit; simp at hlit
      rw [w4] at v2
      rw [w5] at v3
      obtain ⟨vk, vn, vt, vl⟩ := v
      subst hs0 hc0
      refine crun_of (X := X) X_ok X_sat (body := bodyOf Tryz.f80) Tryz.func80 rfl (by kernel_rfl) (by kernel_rfl) ?_
      rw [Tryz.ntmps80]
      conv => whnf
      repeat' (first | (refine CallN.one (a1 _) ?_) | (refine CallN.one n1 ?_) | (refine CallN.one v1 ?_) | (refine CallN.one v2 ?_) | (refine CallN.one v3 ?_) | refine OrdN.one ?_ | refine Fork.yp ?_ | refine Fork.np ?_ | refine Fork.nn ?_ | refine Fork.nb ?_ | refine Need.draw ?_ | refine ExtN.ext ?_ | refine finGo ?_) <;> try (conv => whnf)
      all_goals exact ansB (by rw [hr, hp]; rfl)
    have hv1 := hH.vl' k1
    rw [hv1] at v4
    obtain ⟨vk, vn, vt, vl⟩ := v
    by_cases kn : Named k
    · have hs0 := hH.nm kn
      rw [hs0] at n1
      unfold Named at kn
      by_cases k3 : k = 3
      · have hc0 := hH.ky k3
        rw [hc0] at n2
        refine crun_of (X := X) X_ok X_sat (body := bodyOf Tryz.f80) Tryz.func80 rfl (by kernel_rfl) (by kernel_rfl) ?_
        rw [Tryz.ntmps80]
        conv => whnf
        repeat' (first | (refine CallN.one (a1 _) ?_) | (refine CallN.one n1 ?_) | (refine CallN.one n2 ?_) | (refine CallN.one v4 ?_) | refine OrdN.one ?_ | refine Fork.yp ?_ | refine Fork.np ?_ | refine Fork.nn ?_ | refine Need.draw ?_ | refine ExtN.ext ?_) <;> try (conv => whnf)
        refine LoopN.rule (α := Nat) (fun i => ⟨101, [(1, i64 d), (4, .sc (.bool false)), (89, .vec (Exp.cvs ps)), (90, i64 (Exp.cvs ps).length), (91, i64 i)], []⟩)
          (fun _ => σ) (fun i => ps.length - i) (fun i => i ≤ ps.length ∧ ∀ j v, j < i → ps[j]? = some v → okE (d - 1) v = true) ?_ 0 ⟨by omega, by omega⟩ ?_
        · rintro i K ⟨h1, h2⟩ hK
          dsimp only at h1 h2 ⊢
          by_cases hi : i < ps.length
          · obtain ⟨⟨ek, ⟨evk, evn, evt, evl⟩, es, ec, eps⟩, hm, hg, hg'⟩ := ecvs_at hi
            have hc := ih _ hm (d := d - 1) (by omega) (by omega)
            cases hz : okE (d - 1) (.mk ek (.mk evk evn evt evl) es ec eps) <;> rw [hz] at hc
            · conv => whnf
              repeat' (first | (refine CallN.one hc ?_) | refine Fork.yp ?_ | refine Need.go ?_ | refine ElemN.go ?_ | refine ExtN.ext ?_ | refine finGo ?_) <;> try (conv => whnf)
              exact ansB (by rw [okE_yes hH, okEL_all]; exact List.all_eq_false.2 ⟨_, hm, by rw [hz]; simp⟩)
            · conv => whnf
              repeat' (first | (refine CallN.one hc ?_) | refine Fork.yp ?_ | refine Need.go ?_ | refine ElemN.go ?_ | refine ExtN.ext ?_) <;> try (conv => whnf)
              refine hK (i + 1) _ _ ⟨by omega, stepG h2 hg hz⟩ (by omega) ?_
              (refine ⟨rfl, ?_, ?_, Sub.refl _⟩ <;> repeat' (first | exact EnvLe.nil | exact LocsLe.nil | refine EnvLe.cons _ _ _ ?_ ?_ | refine LocsLe.cons _ _ _ ?_ ?_ | exact CVle.same _ rfl | exact CVle.vec _ _ | exact CVle.nil | exact CVle.tok _ _ _ rfl rfl | exact ObLe.tok _ _ rfl | exact CVles.nil | refine CVles.cons ?_ ?_ | exact ObLe.same _ rfl rfl | refine ObLe.cells rfl ?_))
          · have hall : okEL (d - 1) ps = true := by rw [okEL_all]; exact all_of fun j v hj => h2 j v (by omega)
            conv => whnf
            repeat' (first | refine Fork.np ?_ | refine finGo ?_) <;> try (conv => whnf)
            exact ansB (by rw [okE_yes hH, hall])
        · (refine ⟨rfl, ?_, ?_, Sub.refl _⟩ <;> repeat' (first | exact EnvLe.nil | exact LocsLe.nil | refine EnvLe.cons _ _ _ ?_ ?_ | refine LocsLe.cons _ _ _ ?_ ?_ | exact CVle.same _ rfl | exact CVle.vec _ _ | exact CVle.nil | exact CVle.tok _ _ _ rfl rfl | exact ObLe.tok _ _ rfl | exact CVles.nil | refine CVles.cons ?_ ?_ | exact ObLe.same _ rfl rfl | refine ObLe.cells rfl ?_))
      · have hc0 := hH.ky' k3
        rw [hc0, nameOk_empty] at n2
        have hr := okE_yes hH
        subst hc0
        refine crun_of (X := X) X_ok X_sat (body := bodyOf Tryz.f80) Tryz.func80 rfl (by kernel_rfl) (by kernel_rfl) ?_
        rw [Tryz.ntmps80]
        conv => whnf
        repeat' (first | (refine CallN.one (a1 _) ?_) | (refine CallN.one n1 ?_) | (refine CallN.one n2 ?_) | (refine CallN.one v4 ?_) | refine OrdN.one ?_ | refine Fork.yp ?_ | refine Fork.np ?_ | refine Fork.nn ?_ | refine Fork.nb ?_ | refine Fork.dp (fun h => ?_) (fun h => ?_) | refine Need.draw ?_ | refine ExtN.ext ?_) <;> try (conv => whnf)
        all_goals
          refine LoopN.rule (α := Nat) (fun i => ⟨101, [(1, i64 d), (4, .sc (.bool false)), (89, .vec (Exp.cvs ps)), (90, i64 (Exp.cvs ps).length), (91, i64 i)], []⟩)
            (fun _ => σ) (fun i => ps.length - i) (fun i => i ≤ ps.length ∧ ∀ j v, j < i → ps[j]? = some v → okE (d - 1) v = true) ?_ 0 ⟨by omega, by omega⟩ ?_
          · rintro i K ⟨h1, h2⟩ hK
            dsimp only at h1 h2 ⊢
            by_cases hi : i < ps.length
            · obtain ⟨⟨ek, ⟨evk, evn, evt, evl⟩, es, ec, eps⟩, hm, hg, hg'⟩ := ecvs_at hi
              have hc := ih _ hm (d := d - 1) (by omega) (by omega)
              cases hz : okE (d - 1) (.mk ek (.mk evk evn evt evl) es ec eps) <;> rw [hz] at hc
              · conv => whnf
                repeat' (first | (refine CallN.one hc ?_) | refine Fork.yp ?_ | refine Need.go ?_ | refine ElemN.go ?_ | refine ExtN.ext ?_ | refine finGo ?_) <;> try (conv => whnf)
                exact ansB (by rw [okE_yes hH, okEL_all]; exact List.all_eq_false.2 ⟨_, hm, by rw [hz]; simp⟩)
              · conv => whnf
                repeat' (first | (refine CallN.one hc ?_) | refine Fork.yp ?_ | refine Need.go ?_ | refine ElemN.go ?_ | refine ExtN.ext ?_) <;> try (conv => whnf)
                refine hK (i + 1) _ _ ⟨by omega, stepG h2 hg hz⟩ (by omega) ?_
                (refine ⟨rfl, ?_, ?_, Sub.refl _⟩ <;> repeat' (first | exact EnvLe.nil | exact LocsLe.nil | refine EnvLe.cons _ _ _ ?_ ?_ | refine LocsLe.cons _ _ _ ?_ ?_ | exact CVle.same _ rfl | exact CVle.vec _ _ | exact CVle.nil | exact CVle.tok _ _ _ rfl rfl | exact ObLe.tok _ _ rfl | exact CVles.nil | refine CVles.cons ?_ ?_ | exact ObLe.same _ rfl rfl | refine ObLe.cells rfl ?_))
            · have hall : okEL (d - 1) ps = true := by rw [okEL_all]; exact all_of fun j v hj => h2 j v (by omega)
              conv => whnf
              repeat' (first | refine Fork.np ?_ | refine finGo ?_) <;> try (conv => whnf)
              exact ansB (by rw [okE_yes hH, hall])
          · (refine ⟨rfl, ?_, ?_, Sub.refl _⟩ <;> repeat' (first | exact EnvLe.nil | exact LocsLe.nil | refine EnvLe.cons _ _ _ ?_ ?_ | refine LocsLe.cons _ _ _ ?_ ?_ | exact CVle.same _ rfl | exact CVle.vec _ _ | exact CVle.nil | exact CVle.tok _ _ _ rfl rfl | exact ObLe.tok _ _ rfl | exact CVles.nil | refine CVles.cons ?_ ?_ | exact ObLe.same _ rfl rfl | refine ObLe.cells rfl ?_))
    · have hs0 := hH.nm' kn
      have hc0 := hH.ky' (by unfold Named at kn; omega)
      have k2 : ¬ k = 2 ∧ ¬ k = 3 ∧ ¬ k = 4 := by unfold Named at kn; omega
      obtain ⟨k2, k3, k4⟩ := k2
      rw [hs0, nameOk_empty] at n1
      rw [hc0, nameOk_empty] at n2
      subst hs0 hc0
      refine crun_of (X := X) X_ok X_sat (body := bodyOf Tryz.f80) Tryz.func80 rfl (by kernel_rfl) (by kernel_rfl) ?_
      rw [Tryz.ntmps80]
      conv => whnf
      repeat' (first | (refine CallN.one (a1 _) ?_) | (refine CallN.one n1 ?_) | (refine CallN.one v4 ?_) | refine OrdN.one ?_ | refine Fork.np ?_ | refine Fork.nn ?_ | refine Fork.nb ?_ | refine Need.draw ?_ | refine ExtN.ext ?_) <;> try (conv => whnf)
      refine LoopN.rule (α := Nat) (fun i => ⟨101, [(1, i64 d), (4, .sc (.bool false)), (89, .vec (Exp.cvs ps)), (90, i64 (Exp.cvs ps).length), (91, i64 i)], []⟩)
        (fun _ => σ) (fun i => ps.length - i) (fun i => i ≤ ps.length ∧ ∀ j v, j < i → ps[j]? = some v → okE (d - 1) v = true) ?_ 0 ⟨by omega, by omega⟩ ?_
      · rintro i K ⟨h1, h2⟩ hK
        dsimp only at h1 h2 ⊢
        by_cases hi : i < ps.length
        · obtain ⟨⟨ek, ⟨evk, evn, evt, evl⟩, es, ec, eps⟩, hm, hg, hg'⟩ := ecvs_at hi
          have hc := ih _ hm (d := d - 1) (by omega) (by omega)
          cases hz : okE (d - 1) (.mk ek (.mk evk evn evt evl) es ec eps) <;> rw [hz] at hc
          · conv => whnf
            repeat' (first | (refine CallN.one hc ?_) | refine Fork.yp ?_ | refine Need.go ?_ | refine ElemN.go ?_ | refine ExtN.ext ?_ | refine finGo ?_) <;> try (conv => whnf)
            exact ansB (by rw [okE_yes hH, okEL_all]; exact List.all_eq_false.2 ⟨_, hm, by rw [hz]; simp⟩)
          · conv => whnf
            repeat' (first | (refine CallN.one hc ?_) | refine Fork.yp ?_ | refine Need.go ?_ | refine ElemN.go ?_ | refine ExtN.ext ?_) <;> try (conv => whnf)
            refine hK (i + 1) _ _ ⟨by omega, stepG h2 hg hz⟩ (by omega) ?_
            (refine ⟨rfl, ?_, ?_, Sub.refl _⟩ <;> repeat' (first | exact EnvLe.nil | exact LocsLe.nil | refine EnvLe.cons _ _ _ ?_ ?_ | refine LocsLe.cons _ _ _ ?_ ?_ | exact CVle.same _ rfl | exact CVle.vec _ _ | exact CVle.nil | exact CVle.tok _ _ _ rfl rfl | exact ObLe.tok _ _ rfl | exact CVles.nil | refine CVles.cons ?_ ?_ | exact ObLe.same _ rfl rfl | refine ObLe.cells rfl ?_))
        · have hall : okEL (d - 1) ps = true := by rw [okEL_all]; exact all_of fun j v hj => h2 j v (by omega)
          conv => whnf
          repeat' (first | refine Fork.np ?_ | refine finGo ?_) <;> try (conv => whnf)
          exact ansB (by rw [okE_yes hH, hall])
      · (refine ⟨rfl, ?_, ?_, Sub.refl _⟩ <;> repeat' (first | exact EnvLe.nil | exact LocsLe.nil | refine EnvLe.cons _ _ _ ?_ ?_ | refine LocsLe.cons _ _ _ ?_ ?_ | exact CVle.same _ rfl | exact CVle.vec _ _ | exact CVle.nil | exact CVle.tok _ _ _ rfl rfl | exact ObLe.tok _ _ rfl | exact CVles.nil | refine CVles.cons ?_ ?_ | exact ObLe.same _ rfl rfl | refine ObLe.cells rfl ?_))
end Go.Proofs.YthllnbfkfobcjaaGreat
namespace Go.Proofs.YthllnbfkfobcjaaGreat
open Go Go.CL Go.Proofs
set_option maxRecDepth 10000
abbrev BL := List UInt8
def bl (s : ByteArray) : BL := s.data.toList
theorem bl_inj {s t : ByteArray} (h : bl s = bl t) : s = t := by
  obtain ⟨⟨a⟩⟩ := s; obtain ⟨⟨b⟩⟩ := t
  simp [bl] at h; rw [h]
theorem strV_bl (s : ByteArray) : strV (bl s) = .sc (.string s) := by
  obtain ⟨⟨a⟩⟩ := s; rfl
theorem lt_bl (s t : ByteArray) : lt s t = decide (bl s < bl t) := by
  unfold lt; rw [bytesLess_eq, Lib.toList_data, Lib.toList_data]; rfl
theorem blt_irrefl (a : BL) : ¬ a < a := List.lt_irrefl a
theorem blt_trans {a b c : BL} (h : a < b) (k : b < c) : a < c := List.lt_trans h k
theorem blt_or {a b : BL} (h : ¬ a < b) (k : ¬ a = b) : b < a := by
  rcases List.le_total a b with e | e
  · exact absurd (List.le_antisymm e (List.not_lt.1 h)) k
  · rcases Decidable.em (b < a) with e' | e'
    · exact e'
    · exact absurd (List.le_antisymm (List.not_lt.1 e') e) k
def ins : List ByteArray → ByteArray → List ByteArray
  | [], s => [s]
  | x :: r, s => if lt x s then x :: ins r s else if x = s then x :: r else s :: x :: r
theorem ins_mem : ∀ {l : List ByteArray} {s x : ByteArray}, x ∈ ins l s ↔ x ∈ l ∨ x = s
  | [], s, x => by simp [ins]
  | y :: r, s, x => by
    unfold ins
    split
    · rw [List.mem_cons, ins_mem, List.mem_cons, or_assoc]
    · split
      · rename_i e; subst e; simp; intro h; exact .inl h
      · simp only [List.mem_cons]; exact or_comm
def Inc (l : List ByteArray) : Prop := l.Pairwise fun a b => bl a < bl b
theorem ins_inc : ∀ {l : List ByteArray} {s : ByteArray}, Inc l → Inc (ins l s)
  | [], s, _ => by simp [ins, Inc]
  | y :: r, s, h => by
    obtain ⟨h1, h2⟩ := List.pairwise_cons.1 h
    unfold ins
    split
    · rename_i e
      rw [lt_bl] at e
      refine List.pairwise_cons.2 ⟨fun x hx => ?_, ins_inc h2⟩
      rcases ins_mem.1 hx with hx | rfl
      · exact h1 x hx
      · simpa using e
    · split
      · exact h
      · rename_i e1 e2
        rw [lt_bl] at e1
        have := blt_or (by simpa using e1) (fun e => e2 (bl_inj e))
        refine List.pairwise_cons.2 ⟨fun x hx => ?_, h⟩
        rcases List.mem_cons.1 hx with rfl | hx
        · exact this
        · exact blt_trans this (h1 x hx)
theorem fold_inc : ∀ (l out : List ByteArray), Inc out → Inc (l.foldl ins out) ∧ ∀ x, x ∈ l.foldl ins out ↔ x ∈ out ∨ x ∈ l
  | [], out, h => ⟨h, by simp⟩
  | s :: l, out, h => by
    obtain ⟨h1, h2⟩ := fold_inc l (ins out s) (ins_inc h)
    refine ⟨h1, fun x => ?_⟩
    rw [List.foldl_cons, h2, ins_mem, List.mem_cons, or_assoc]
theorem inc_uniq : ∀ (a b : List BL), a.Pairwise (· < ·) → b.Pairwise (· < ·) → (∀ x, x ∈ a ↔ x ∈ b) → a = b
  | [], [], _, _, _ => rfl
  | [], y :: b, _, _, h => absurd ((h y).2 (List.mem_cons_self ..)) (by simp)
  | x :: a, [], _, _, h => absurd ((h x).1 (List.mem_cons_self ..)) (by simp)
  | x :: a, y :: b, ha, hb, h => by
    obtain ⟨a1, a2⟩ := List.pairwise_cons.1 ha
    obtain ⟨b1, b2⟩ := List.pairwise_cons.1 hb
    have hxy : x = y := by
      rcases List.mem_cons.1 ((h x).1 (List.mem_cons_self ..)) with e | e
      · exact e
      · rcases List.mem_cons.1 ((h y).2 (List.mem_cons_self ..)) with e' | e'
        · exact e'.symm
        · exact absurd (blt_trans (b1 x e) (a1 y e')) (blt_irrefl _)
    subst hxy
    rw [inc_uniq a b a2 b2 fun z => ?_]
    have := h z
    simp only [List.mem_cons] at this
    constructor
    · intro hz
      rcases this.1 (.inr hz) with rfl | e
      · exact absurd (a1 z hz) (blt_irrefl _)
      · exact e
    · intro hz
      rcases this.2 (.inr hz) with rfl | e
      · exact absurd (b1 z hz) (blt_irrefl _)
      · exact e
theorem compact_inc {z : List BL} (h : z.Pairwise (· ≤ ·)) : (Lib.compact z).Pairwise (· < ·) ∧ ∀ x, x ∈ Lib.compact z ↔ x ∈ z := by
  have hle : ∀ i j, i ≤ j → j < z.length → z.toArray[i]! ≤ z.toArray[j]! := fun i j hij hj => by
    have hi : i < z.length := by omega
    simp only [List.getElem!_toArray, getElem!_pos, hi, hj]
    rcases Nat.lt_or_eq_of_le hij with e | e
    · exact List.pairwise_iff_getElem.1 h i j hi hj e
    · subst e; exact List.le_refl _
  unfold Lib.compact Lib.compactUpTo
  constructor
  · rw [List.pairwise_map]
    have := (List.pairwise_lt_range (n := z.length)).filter (Lib.keeps z.toArray)
    refine this.imp_of_mem ?_
    intro i j hi hj hij
    have hj' := (List.mem_filter.1 hj)
    have hjl : j < z.length := by simpa using hj'.1
    have hk : j = 0 ∨ z.toArray[j]! ≠ z.toArray[j - 1]! := by simpa [Lib.keeps] using hj'.2
    have h1 := hle i (j - 1) (by omega) (by omega)
    have h2 := hle (j - 1) j (by omega) hjl
    have h3 : ¬ z.toArray[j - 1]! = z.toArray[j]! := fun e => by
      rcases hk with e' | e'
      · omega
      · exact e' e.symm
    rcases Decidable.em (z.toArray[i]! < z.toArray[j]!) with e | e
    · exact e
    · have h4 := List.not_lt.1 e
      exact absurd (List.le_antisymm h2 (List.le_trans h4 h1)) h3
  · intro x
    simp only [List.mem_map, List.mem_filter, List.mem_range]
    constructor
    · rintro ⟨i, ⟨hi, _⟩, rfl⟩
      simp [getElem!_pos, hi]
    · intro hx
      have : ∀ n i, i < z.length → i ≤ n → z.toArray[i]! = x → ∃ a, (a < z.length ∧ Lib.keeps z.toArray a = true) ∧ z.toArray[a]! = x := by
        intro n
        induction n with
        | zero => intro i hi hn hz; exact ⟨i, ⟨hi, by simp [Lib.keeps]; left; omega⟩, hz⟩
        | succ n ih =>
          intro i hi hn hz
          by_cases hk : Lib.keeps z.toArray i = true
          · exact ⟨i, ⟨hi, hk⟩, hz⟩
          · have hk : ¬ (i = 0 ∨ z.toArray[i]! ≠ z.toArray[i - 1]!) := by simpa [Lib.keeps] using hk
            have h0 : i ≠ 0 := fun e => hk (.inl e)
            have h1 : z.toArray[i]! = z.toArray[i - 1]! := Decidable.byContradiction fun e => hk (.inr e)
            exact ih (i - 1) (by omega) (by omega) (h1.symm.trans hz)
      obtain ⟨i, hi, rfl⟩ := List.mem_iff_getElem.1 hx
      exact this i i hi (Nat.le_refl _) (by simp [getElem!_pos, hi])
theorem sort_once (l : List ByteArray) : Lib.compact ((l.map bl).mergeSort fun x y => decide (x ≤ y)) = (l.foldl ins []).map bl := by
  have hs : ((l.map bl).mergeSort fun x y => decide (x ≤ y)).Pairwise (· ≤ ·) := by
    have := List.pairwise_mergeSort (le := fun x y : BL => decide (x ≤ y)) (fun a b c h k => by simp at h k ⊢; exact List.le_trans h k) (fun a b => by simp; exact List.le_total a b) (l.map bl)
    simpa using this
  obtain ⟨c1, c2⟩ := compact_inc hs
  obtain ⟨f1, f2⟩ := fold_inc l [] (by simp [Inc])
  refine inc_uniq _ _ c1 (by rw [List.pairwise_map]; exact f1) fun x => ?_
  rw [c2, (List.mergeSort_perm _ _).mem_iff]
  simp [f2]
theorem compact_len (z : List BL) : (Lib.compact z).length ≤ z.length := by
  unfold Lib.compact Lib.compactUpTo
  rw [List.length_map]
  exact Nat.le_trans (List.length_filter_le _ _) (by simp)
end Go.Proofs.YthllnbfkfobcjaaGreat
