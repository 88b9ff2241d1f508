/-
  Contracts of the functions that the law reaches.
-/
import Derived.Test.YthllnbfkfobcjaaGreatGA
set_option linter.unusedVariables false
set_option linter.unusedSimpArgs false
namespace Go.Proofs.YthllnbfkfobcjaaGreat
open Go Go.CL
set_option maxRecDepth 10000
def letterOk (b : Int) : Bool := decide (97 ≤ b ∧ b ≤ 122) || decide (65 ≤ b ∧ b ≤ 90)
def figOk (b : Int) : Bool := decide (48 ≤ b ∧ b ≤ 57)
theorem letter_c {σ : Heap} {b : Int} : CRun Tryz.prog 66 [u8 b] σ (· = .ret (.sc (.bool (letterOk b))) σ) := by
  refine crun_of (X := X) X_ok X_sat (body := bodyOf Tryz.f66) Tryz.func66 rfl (by kernel_rfl) (by kernel_rfl) ?_
  rw [Tryz.ntmps66]
  conv => whnf
  repeat' (first | refine Fork.yp ?_ | refine Fork.np ?_ | refine Fork.dp (fun h => ?_) (fun h => ?_) | refine finGo ?_) <;> try (conv => whnf)
  all_goals exact ansB (by simp only [letterOk, Bool.or_eq_true, Bool.or_eq_false_iff, decide_eq_true_eq, decide_eq_false_iff_not]; omega)
theorem fig_c {σ : Heap} {b : Int} : CRun Tryz.prog 67 [u8 b] σ (· = .ret (.sc (.bool (figOk b))) σ) := by
  refine crun_of (X := X) X_ok X_sat (body := bodyOf Tryz.f67) Tryz.func67 rfl (by kernel_rfl) (by kernel_rfl) ?_
  rw [Tryz.ntmps67]
  conv => whnf
  repeat' (first | refine Fork.dp (fun h => ?_) (fun h => ?_) | refine finGo ?_) <;> try (conv => whnf)
  all_goals exact ansB (by simp only [figOk, decide_eq_true_eq, decide_eq_false_iff_not]; omega)
theorem l2Letter_c {σ : Heap} {b : Int} : CRun Tryz.prog 171 [u8 b] σ (· = .ret (.sc (.bool (letterOk b))) σ) := by
  refine crun_of (X := X) X_ok X_sat (body := bodyOf Tryz.f171) Tryz.func171 rfl (by kernel_rfl) (by kernel_rfl) ?_
  rw [Tryz.ntmps171]
  conv => whnf
  repeat' (first | refine Fork.yp ?_ | refine Fork.np ?_ | refine Fork.dp (fun h => ?_) (fun h => ?_) | refine finGo ?_) <;> try (conv => whnf)
  all_goals exact ansB (by simp only [letterOk, Bool.or_eq_true, Bool.or_eq_false_iff, decide_eq_true_eq, decide_eq_false_iff_not]; omega)
def keptL : List ByteArray := [⟨#[77, 65, 84, 67, 72]⟩, ⟨#[79, 80, 84, 73, 79, 78, 65, 76]⟩, ⟨#[87, 72, 69, 82, 69]⟩, ⟨#[85, 78, 87, 73, 78, 68]⟩, ⟨#[87, 73, 84, 72]⟩, ⟨#[82, 69, 84, 85, 82, 78]⟩, ⟨#[67, 82, 69, 65, 84, 69]⟩, ⟨#[83, 69, 84]⟩, ⟨#[68, 69, 76, 69, 84, 69]⟩, ⟨#[68, 69, 84, 65, 67, 72]⟩, ⟨#[65, 83]⟩, ⟨#[65, 78, 68]⟩, ⟨#[79, 82]⟩, ⟨#[78, 79, 84]⟩, ⟨#[73, 83]⟩, ⟨#[78, 85, 76, 76]⟩, ⟨#[73, 78]⟩, ⟨#[68, 73, 83, 84, 73, 78, 67, 84]⟩, ⟨#[79, 82, 68, 69, 82]⟩, ⟨#[66, 89]⟩, ⟨#[68, 69, 83, 67]⟩, ⟨#[83, 75, 73, 80]⟩, ⟨#[76, 73, 77, 73, 84]⟩, ⟨#[110, 117, 108, 108]⟩, ⟨#[116, 114, 117, 101]⟩, ⟨#[102, 97, 108, 115, 101]⟩, ⟨#[99, 111, 117, 110, 116]⟩, ⟨#[115, 117, 109]⟩, ⟨#[115, 105, 122, 101]⟩]
def kept (t : ByteArray) : Bool := keptL.any fun s => decide (t = s)
def bAt (t : ByteArray) (i : Nat) : Int := (t.data.getD i 0).toNat
def nameCh (t : ByteArray) (i : Nat) : Bool := letterOk (bAt t i) || (decide (i ≠ 0) && figOk (bAt t i))
def nameOk (t : ByteArray) : Bool := decide (1 ≤ t.size ∧ t.size ≤ 8) && ((List.range t.size).all (nameCh t) && !kept t)
theorem nameOk_size {t : ByteArray} (h : ¬ (1 ≤ t.size ∧ t.size ≤ 8)) : nameOk t = false := by unfold nameOk; rw [decide_eq_false h]; rfl
theorem nameOk_no {t : ByteArray} {i : Nat} (hi : i < t.size) (h : nameCh t i = false) : nameOk t = false := by
  unfold nameOk
  have : (List.range t.size).all (nameCh t) = false := List.all_eq_false.2 ⟨i, List.mem_range.2 hi, by simp [h]⟩
  rw [this]; simp
theorem nameOk_kept {t : ByteArray} (h : kept t = true) : nameOk t = false := by unfold nameOk; rw [h]; simp
theorem nameOk_yes {t : ByteArray} (hs : 1 ≤ t.size ∧ t.size ≤ 8) (h : ∀ i, i < t.size → nameCh t i = true) (hk : kept t = false) : nameOk t = true := by
  unfold nameOk
  rw [decide_eq_true hs, hk, List.all_eq_true.2 fun i hi => h i (List.mem_range.1 hi)]; rfl
theorem split {P : Program} {f : FuncId} {args : List CV} {σ τ : Heap} {b : Bool} (h : CRun P f args σ (· = .ret (.sc (.bool b)) τ)) :
    CRun P f args σ (fun out => (b = true ∧ out = .ret (.sc (.bool true)) τ) ∨ (b = false ∧ out = .ret (.sc (.bool false)) τ)) :=
  h.mono fun out e => by subst e; cases b; exact .inr ⟨rfl, rfl⟩; exact .inl ⟨rfl, rfl⟩
theorem empty_of {t : ByteArray} (h : t.size = 0) : t = ⟨#[]⟩ := by
  obtain ⟨a⟩ := t
  have : a = #[] := Array.eq_empty_of_size_eq_zero h
  rw [this]
theorem stepAll {p : Nat → Prop} {i : Nat} (h : ∀ j, j < i → p j) (hi : p i) : ∀ j, j < i + 1 → p j := fun j hj => by
  by_cases e : j = i
  · rw [e]; exact hi
  · exact h j (by omega)
theorem nameCh0 {t : ByteArray} (h : letterOk ((t.data.getD (Int.toNat 0) 0).toNat) = true) : nameCh t 0 = true := by
  have h' : letterOk ((t.data.getD 0 0).toNat) = true := h
  show (letterOk ((t.data.getD 0 0).toNat) || _) = true
  rw [h']; rfl
theorem nameOk_c {σ : Heap} {t : ByteArray} (ht : t.size ≤ 1000000000) : CRun Tryz.prog 30 [.sc (.string t)] σ (· = .ret (.sc (.bool (nameOk t))) σ) := by
  have cl := fun b => split (@letter_c σ b)
  have cf := fun b => split (@fig_c σ b)
  by_cases hz : t.size = 0
  · have e := empty_of hz
    have e2 : nameOk t = false := nameOk_size (by omega)
    refine crun_of (X := X) X_ok X_sat (body := bodyOf Tryz.f30) Tryz.func30 rfl (by kernel_rfl) (by kernel_rfl) ?_
    rw [Tryz.ntmps30]
    conv => whnf
    repeat' (first | refine Fork.yp ?_ | refine finGo ?_) <;> try (conv => whnf)
    all_goals first | exact ansB e2 | exact (‹¬ t = _› e).elim
  refine crun_of (X := X) X_ok X_sat (body := bodyOf Tryz.f30) Tryz.func30 rfl (by kernel_rfl) (by kernel_rfl) ?_
  rw [Tryz.ntmps30]
  by_cases hs : 1 ≤ t.size ∧ t.size ≤ 8
  · conv => whnf
    repeat' (first | (refine CallN.many (cl _) ?_; rintro _ (⟨hl, rfl⟩ | ⟨hl, rfl⟩)) | refine Fork.np ?_ | refine Fork.dp (fun h => ?_) (fun h => ?_) | refine Need.go ?_ | refine ExtN.ext ?_ | refine finGo ?_) <;> try (conv => whnf)
    · exact (hz (by rw [h]; rfl)).elim
    · refine LoopN.rule (α := Nat) (fun i => ⟨66, [(0, .sc (.string t)), (2, .sc (.bool false)), (3, i64 i)], []⟩)
        (fun _ => σ) (fun i => t.size - i) (fun i => 1 ≤ i ∧ i ≤ t.size ∧ ∀ j, j < i → nameCh t j = true) ?_ 1 ⟨by omega, by omega, stepAll (fun j hj => by omega) (nameCh0 hl)⟩ ?_
      · rintro i K ⟨h0, h1, h2⟩ hK
        dsimp only at h1 h2 ⊢
        by_cases hi : i < t.size
        · have hb : nameCh t i = (letterOk ((t.data.getD (i : Int).toNat 0).toNat) || (decide (i ≠ 0) && figOk ((t.data.getD (i : Int).toNat 0).toNat))) := rfl
          conv => whnf
          repeat' (first | (refine CallN.many (cl _) ?_; rintro _ (⟨hl, rfl⟩ | ⟨hl, rfl⟩)) | (refine CallN.many (cf _) ?_; rintro _ (⟨hf, rfl⟩ | ⟨hf, rfl⟩)) | refine Fork.yp ?_ | refine Need.go ?_ | refine ExtN.ext ?_ | refine finGo ?_) <;> try (conv => whnf)
          all_goals first
            | (refine hK (i + 1) _ _ ⟨by omega, by omega, stepAll h2 (by rw [hb, hl]; rfl)⟩ (by omega) ?_; (refine ⟨rfl, ?_, ?_, Sub.refl _⟩ <;> repeat' (first | exact EnvLe.nil | exact LocsLe.nil | refine EnvLe.cons _ _ _ ?_ ?_ | refine LocsLe.cons _ _ _ ?_ ?_ | exact CVle.same _ rfl | exact CVle.vec _ _ | exact CVle.nil | exact CVle.tok _ _ _ rfl rfl | exact ObLe.tok _ _ rfl | exact CVles.nil | refine CVles.cons ?_ ?_ | exact ObLe.same _ rfl rfl | refine ObLe.cells rfl ?_)))
            | (refine hK (i + 1) _ _ ⟨by omega, by omega, stepAll h2 (by rw [hb, hf, decide_eq_true (show i ≠ 0 by omega)]; simp)⟩ (by omega) ?_; (refine ⟨rfl, ?_, ?_, Sub.refl _⟩ <;> repeat' (first | exact EnvLe.nil | exact LocsLe.nil | refine EnvLe.cons _ _ _ ?_ ?_ | refine LocsLe.cons _ _ _ ?_ ?_ | exact CVle.same _ rfl | exact CVle.vec _ _ | exact CVle.nil | exact CVle.tok _ _ _ rfl rfl | exact ObLe.tok _ _ rfl | exact CVles.nil | refine CVles.cons ?_ ?_ | exact ObLe.same _ rfl rfl | refine ObLe.cells rfl ?_)))
            | (exact ansB (nameOk_no hi (by rw [hb, hl, hf]; simp)))
        · have hall : ∀ i, i < t.size → nameCh t i = true := fun j hj => h2 j (by omega)
          conv => whnf
          repeat' (first | refine Fork.np ?_ | refine Fork.dp (fun h => ?_) (fun h => ?_) | refine finGo ?_) <;> try (conv => whnf)
          all_goals first
            | exact ansB (nameOk_kept (by rw [‹t = _›]; rfl))
            | exact ansB (nameOk_yes hs hall (by simp only [kept, keptL, List.any_cons, List.any_nil, decide_false, Bool.or_false, *]))
      · (refine ⟨rfl, ?_, ?_, Sub.refl _⟩ <;> repeat' (first | exact EnvLe.nil | exact LocsLe.nil | refine EnvLe.cons _ _ _ ?_ ?_ | refine LocsLe.cons _ _ _ ?_ ?_ | exact CVle.same _ rfl | exact CVle.vec _ _ | exact CVle.nil | exact CVle.tok _ _ _ rfl rfl | exact ObLe.tok _ _ rfl | exact CVles.nil | refine CVles.cons ?_ ?_ | exact ObLe.same _ rfl rfl | refine ObLe.cells rfl ?_))
    · exact ansB (nameOk_no (i := 0) (by omega) (by unfold nameCh bAt; simpa using hl))
  · conv => whnf
    repeat' (first | refine Fork.yp ?_ | refine Fork.dp (fun h => ?_) (fun h => ?_) | refine finGo ?_) <;> try (conv => whnf)
    all_goals exact ansB (nameOk_size hs)
def keptC : List CV := keptL.map fun s => .sc (.string s)
theorem keptC_at {i : Nat} (hi : i < 29) : ∃ s, keptC[i]? = some (.sc (.string s)) ∧ keptL[i]? = some s := by
  refine ⟨keptL[i]'hi, ?_, ?_⟩
  · unfold keptC; rw [List.getElem?_map, List.getElem?_eq_getElem (show i < keptL.length from hi)]; rfl
  · exact List.getElem?_eq_getElem _
theorem kept_c {σ : Heap} {t : ByteArray} : CRun Tryz.prog 172 [.sc (.string t)] σ (· = .ret (.sc (.bool (kept t))) σ) := by
  refine crun_of (X := X) X_ok X_sat (body := bodyOf Tryz.f172) Tryz.func172 rfl (by kernel_rfl) (by kernel_rfl) ?_
  rw [Tryz.ntmps172]
  conv => whnf
  repeat' (first | refine OrdN.one ?_ | refine Fork.yp ?_ | refine Fork.np ?_ | refine Fork.ny ?_ | refine Fork.nn ?_ | refine Fork.yb ?_ | refine Fork.nb ?_ | refine Fork.dp (fun h => ?_) (fun h => ?_) | refine Fork.dn (fun h => ?_) (fun h => ?_) | (refine Fork.mk (fun h => ?_) (fun h => ?_) <;> simp only [decide_eq_true_eq, decide_eq_false_iff_not, Bool.not_eq_true', Bool.not_eq_false', Bool.or_eq_true, Bool.or_eq_false_iff] at h) | refine GetN.go ?_ | refine Need.ap1 ?_ | refine Need.ap0 ?_ | refine Need.go ?_ | refine Need.draw ?_ | refine ElemN.go ?_ | refine ExtN.ext ?_ | refine ExtN.wr ?_ | refine AllocN.go (fun l hl => ?_) | refine finGo ?_) <;> try (conv => whnf)
  refine LoopN.rule (α := Nat) (fun i => ⟨18, [(0, .sc (.string t)), (2, .sc (.bool false)), (3, .vec keptC), (4, i64 i)], []⟩)
    (fun _ => σ) (fun i => 29 - i) (fun i => i ≤ 29 ∧ ∀ j, j < i → ∀ s, keptL[j]? = some s → ¬ s = t) ?_ 0 ⟨by omega, by omega⟩ ?_
  · rintro i K ⟨h1, h2⟩ hK
    dsimp only at h1 h2 ⊢
    have hlen : keptC.length = 29 := rfl
    by_cases hi : i < 29
    · obtain ⟨s, hs, hs'⟩ := keptC_at hi
      conv => whnf
      repeat' (first | refine Fork.yp ?_ | refine Fork.dp (fun h => ?_) (fun h => ?_) | refine Need.go ?_ | refine ElemN.go ?_ | refine finGo ?_) <;> try (conv => whnf)
      all_goals first
        | (refine hK (i + 1) _ _ ⟨by omega, stepAll h2 (fun s' e => by rw [hs'] at e; cases e; assumption)⟩ (by omega) ?_; (refine ⟨rfl, ?_, ?_, Sub.refl _⟩ <;> repeat' (first | exact EnvLe.nil | exact LocsLe.nil | refine EnvLe.cons _ _ _ ?_ ?_ | refine LocsLe.cons _ _ _ ?_ ?_ | exact CVle.same _ rfl | exact CVle.vec _ _ | exact CVle.nil | exact CVle.tok _ _ _ rfl rfl | exact ObLe.tok _ _ rfl | exact CVles.nil | refine CVles.cons ?_ ?_ | exact ObLe.same _ rfl rfl | refine ObLe.cells rfl ?_)))
        | (refine ansB ?_; unfold kept; exact List.any_eq_true.2 ⟨s, List.mem_of_getElem? hs', decide_eq_true (Eq.symm ‹s = t›)⟩)
    · have hno : kept t = false := by
        refine List.any_eq_false.2 fun s hs => ?_
        obtain ⟨j, hj, e⟩ := List.getElem_of_mem hs
        have := h2 j (by have : keptL.length = 29 := rfl; omega) s (by rw [← e]; exact List.getElem?_eq_getElem hj)
        simpa using fun e => this e.symm
      conv => whnf
      repeat' (first | refine Fork.np ?_ | refine finGo ?_) <;> try (conv => whnf)
      exact ansB hno
  · (refine ⟨rfl, ?_, ?_, Sub.refl _⟩ <;> repeat' (first | exact EnvLe.nil | exact LocsLe.nil | refine EnvLe.cons _ _ _ ?_ ?_ | refine LocsLe.cons _ _ _ ?_ ?_ | exact CVle.same _ rfl | exact CVle.vec _ _ | exact CVle.nil | exact CVle.tok _ _ _ rfl rfl | exact ObLe.tok _ _ rfl | exact CVles.nil | refine CVles.cons ?_ ?_ | exact ObLe.same _ rfl rfl | refine ObLe.cells rfl ?_))
theorem l2Name_c {σ : Heap} {t : ByteArray} (ht : t.size ≤ 1000000000) : CRun Tryz.prog 103 [.sc (.string t)] σ (· = .ret (.sc (.bool (nameOk t))) σ) := by
  have cl := fun b => split (@l2Letter_c σ b)
  have ck := split (@kept_c σ t)
  refine crun_of (X := X) X_ok X_sat (body := bodyOf Tryz.f103) Tryz.func103 rfl (by kernel_rfl) (by kernel_rfl) ?_
  rw [Tryz.ntmps103]
  conv => whnf
  repeat' (first | refine OrdN.one ?_ | refine Fork.yp ?_ | refine Fork.np ?_ | refine Fork.ny ?_ | refine Fork.nn ?_ | refine Fork.yb ?_ | refine Fork.nb ?_ | refine Fork.dp (fun h => ?_) (fun h => ?_) | refine Fork.dn (fun h => ?_) (fun h => ?_) | (refine Fork.mk (fun h => ?_) (fun h => ?_) <;> simp only [decide_eq_true_eq, decide_eq_false_iff_not, Bool.not_eq_true', Bool.not_eq_false', Bool.or_eq_true, Bool.or_eq_false_iff] at h) | refine GetN.go ?_ | refine Need.ap1 ?_ | refine Need.ap0 ?_ | refine Need.go ?_ | refine Need.draw ?_ | refine ElemN.go ?_ | refine ExtN.ext ?_ | refine ExtN.wr ?_ | refine AllocN.go (fun l hl => ?_) | refine finGo ?_) <;> try (conv => whnf)
  refine LoopN.rule (α := Nat) (fun i => ⟨39, [(0, .sc (.string t)), (2, .sc (.bool false)), (3, i64 i)], []⟩)
    (fun _ => σ) (fun i => t.size - i) (fun i => i ≤ t.size ∧ ∀ j, j < i → nameCh t j = true) ?_ 0 ⟨by omega, by omega⟩ ?_
  · rintro i K ⟨h1, h2⟩ hK
    dsimp only at h1 h2 ⊢
    by_cases hi : i < t.size
    · have hb : nameCh t i = (letterOk ((t.data.getD (i : Int).toNat 0).toNat) || (decide (i ≠ 0) && decide (48 ≤ ((t.data.getD (i : Int).toNat 0).toNat : Int) ∧ ((t.data.getD (i : Int).toNat 0).toNat : Int) ≤ 57))) := rfl
      conv => whnf
      repeat' (first | (refine CallN.many (cl _) ?_; rintro _ (⟨hl, rfl⟩ | ⟨hl, rfl⟩)) | refine Fork.yp ?_ | refine Fork.dp (fun h => ?_) (fun h => ?_) | refine Need.go ?_ | refine ExtN.ext ?_ | refine finGo ?_) <;> try (conv => whnf)
      all_goals first
        | (refine hK (i + 1) _ _ ⟨by omega, stepAll h2 (by rw [hb, hl]; rfl)⟩ (by omega) ?_; (refine ⟨rfl, ?_, ?_, Sub.refl _⟩ <;> repeat' (first | exact EnvLe.nil | exact LocsLe.nil | refine EnvLe.cons _ _ _ ?_ ?_ | refine LocsLe.cons _ _ _ ?_ ?_ | exact CVle.same _ rfl | exact CVle.vec _ _ | exact CVle.nil | exact CVle.tok _ _ _ rfl rfl | exact ObLe.tok _ _ rfl | exact CVles.nil | refine CVles.cons ?_ ?_ | exact ObLe.same _ rfl rfl | refine ObLe.cells rfl ?_)))
        | (refine hK (i + 1) _ _ ⟨by omega, stepAll h2 (by rw [hb, decide_eq_true (show i ≠ 0 by omega), decide_eq_true ⟨by omega, by omega⟩]; simp)⟩ (by omega) ?_; (refine ⟨rfl, ?_, ?_, Sub.refl _⟩ <;> repeat' (first | exact EnvLe.nil | exact LocsLe.nil | refine EnvLe.cons _ _ _ ?_ ?_ | refine LocsLe.cons _ _ _ ?_ ?_ | exact CVle.same _ rfl | exact CVle.vec _ _ | exact CVle.nil | exact CVle.tok _ _ _ rfl rfl | exact ObLe.tok _ _ rfl | exact CVles.nil | refine CVles.cons ?_ ?_ | exact ObLe.same _ rfl rfl | refine ObLe.cells rfl ?_)))
        | (exact ansB (nameOk_no hi (by
            rw [hb, hl]; simp only [Bool.false_or, Bool.and_eq_false_iff, decide_eq_false_iff_not]
            first
              | exact .inl (by omega)
              | exact .inr (by omega))))
    · have hall : ∀ i, i < t.size → nameCh t i = true := fun j hj => h2 j (by omega)
      conv => whnf
      repeat' (first | (refine CallN.many in_n ?_; rintro _ (⟨hr, rfl⟩ | ⟨hr, rfl⟩)) | (refine CallN.many ck ?_; rintro _ (⟨hk, rfl⟩ | ⟨hk, rfl⟩)) | refine Fork.np ?_ | refine ExtN.ext ?_ | refine finGo ?_) <;> try (conv => whnf)
      all_goals first
        | exact ansB (nameOk_kept hk)
        | exact ansB (nameOk_yes (by omega) hall hk)
        | exact ansB (nameOk_size (by omega))
  · (refine ⟨rfl, ?_, ?_, Sub.refl _⟩ <;> repeat' (first | exact EnvLe.nil | exact LocsLe.nil | refine EnvLe.cons _ _ _ ?_ ?_ | refine LocsLe.cons _ _ _ ?_ ?_ | exact CVle.same _ rfl | exact CVle.vec _ _ | exact CVle.nil | exact CVle.tok _ _ _ rfl rfl | exact ObLe.tok _ _ rfl | exact CVles.nil | refine CVles.cons ?_ ?_ | exact ObLe.same _ rfl rfl | refine ObLe.cells rfl ?_))
mutual
def hasV (c : Int) : Val → Bool
  | .mk k n t l => decide (k = c) || hasL c l
def hasL (c : Int) : List Val → Bool
  | [] => false
  | v :: r => hasV c v || hasL c r
end
theorem hasL_any {c : Int} {l : List Val} : hasL c l = l.any (hasV c) := by
  induction l with
  | nil => rfl
  | cons v r ih => simp [hasL, ih]
theorem hasL_no {c : Int} {l : List Val} (h : ∀ j v, j < l.length → l[j]? = some v → hasV c v = false) : hasL c l = false := by
  rw [hasL_any]
  refine List.any_eq_false.2 fun v hv => ?_
  obtain ⟨j, hj, e⟩ := List.getElem_of_mem hv
  simp [h j v hj (by rw [← e]; exact List.getElem?_eq_getElem hj)]
theorem stepAt {l : List Val} {p : Val → Prop} {i : Nat} {v : Val} (h : ∀ j v, j < i → l[j]? = some v → p v) (hv : l[i]? = some v) (hp : p v) : ∀ j v, j < i + 1 → l[j]? = some v → p v := fun j w hj hw => by
  by_cases e : j = i
  · subst e; rw [hv] at hw; cases hw; exact hp
  · exact h j w (by omega) hw
theorem has_c {σ : Heap} {c : Int} {v : Val} (hv : Tame v) : CRun Tryz.prog 153 [v.cv, i64 c] σ (· = .ret (.sc (.bool (hasV c v))) σ) := by
  induction hv with
  | @mk k n t l hk hn ht hl h ih =>
    have e3 := cvs_length l
    have ih := fun v hm => split (ih v hm)
    refine crun_of (X := X) X_ok X_sat (body := bodyOf Tryz.f153) Tryz.func153 rfl (by kernel_rfl) (by kernel_rfl) ?_
    rw [Tryz.ntmps153]
    by_cases hc : k = c
    · conv => whnf
      repeat' (first | refine Fork.yp ?_ | refine finGo ?_) <;> try (conv => whnf)
      exact ansB (by unfold hasV; rw [decide_eq_true hc]; rfl)
    · have hh : hasV c (.mk k n t l) = hasL c l := by simp only [hasV]; rw [decide_eq_false hc]; rfl
      conv => whnf
      repeat' (first | refine Fork.np ?_) <;> try (conv => whnf)
      refine LoopN.rule (α := Nat) (fun i => ⟨22, [(1, i64 c), (4, .sc (.bool false)), (12, .vec (Val.cvs l)), (13, i64 (Val.cvs l).length), (14, i64 i)], []⟩)
        (fun _ => σ) (fun i => l.length - i) (fun i => i ≤ l.length ∧ ∀ j v, j < i → l[j]? = some v → hasV c v = false) ?_ 0 ⟨by omega, by omega⟩ ?_
      · rintro i K ⟨h1, h2⟩ hK
        dsimp only at h1 h2 ⊢
        by_cases hi : i < l.length
        · obtain ⟨⟨wk, wn, wt, wl⟩, hm, hg, hg'⟩ := cvs_at hi
          conv => whnf
          repeat' (first | (refine CallN.many (ih _ hm) ?_; rintro _ (⟨hr, rfl⟩ | ⟨hr, rfl⟩)) | refine Fork.yp ?_ | refine Need.go ?_ | refine ElemN.go ?_ | refine ExtN.ext ?_ | refine finGo ?_) <;> try (conv => whnf)
          · exact ansB (by rw [hh, hasL_any]; exact List.any_eq_true.2 ⟨_, hm, hr⟩)
          · refine hK (i + 1) _ _ ⟨by omega, stepAt h2 hg hr⟩ (by omega) ?_
            (refine ⟨rfl, ?_, ?_, Sub.refl _⟩ <;> repeat' (first | exact EnvLe.nil | exact LocsLe.nil | refine EnvLe.cons _ _ _ ?_ ?_ | refine LocsLe.cons _ _ _ ?_ ?_ | exact CVle.same _ rfl | exact CVle.vec _ _ | exact CVle.nil | exact CVle.tok _ _ _ rfl rfl | exact ObLe.tok _ _ rfl | exact CVles.nil | refine CVles.cons ?_ ?_ | exact ObLe.same _ rfl rfl | refine ObLe.cells rfl ?_))
        · conv => whnf
          repeat' (first | refine Fork.np ?_ | refine finGo ?_) <;> try (conv => whnf)
          exact ansB (by rw [hh]; exact hasL_no fun j v hj => h2 j v (by omega))
      · (refine ⟨rfl, ?_, ?_, Sub.refl _⟩ <;> repeat' (first | exact EnvLe.nil | exact LocsLe.nil | refine EnvLe.cons _ _ _ ?_ ?_ | refine LocsLe.cons _ _ _ ?_ ?_ | exact CVle.same _ rfl | exact CVle.vec _ _ | exact CVle.nil | exact CVle.tok _ _ _ rfl rfl | exact ObLe.tok _ _ rfl | exact CVles.nil | refine CVles.cons ?_ ?_ | exact ObLe.same _ rfl rfl | refine ObLe.cells rfl ?_))
def strs (l : List ByteArray) : List CV := l.map fun s => .sc (.string s)
theorem strs_len (l : List ByteArray) : (strs l).length = l.length := by simp [strs]
theorem strs_at {l : List ByteArray} {i : Nat} (hi : i < l.length) : ∃ s, s ∈ l ∧ l[i]? = some s ∧ (strs l)[i]? = some (.sc (.string s)) := by
  refine ⟨l[i], List.getElem_mem hi, List.getElem?_eq_getElem hi, ?_⟩
  unfold strs; rw [List.getElem?_map, List.getElem?_eq_getElem hi]; rfl
def lt (s t : ByteArray) : Bool := Op.bytesLess s.toList t.toList
theorem range_no {p : Nat → Bool} {n i : Nat} (hi : i < n) (h : p i = false) : (List.range n).all p = false := List.all_eq_false.2 ⟨i, List.mem_range.2 hi, by simp [h]⟩
theorem range_yes {p : Nat → Bool} {n : Nat} (h : ∀ i, i < n → p i = true) : (List.range n).all p = true := List.all_eq_true.2 fun i hi => h i (List.mem_range.1 hi)
structure Pr where
  name : ByteArray
  val : Val
def Pr.cv (p : Pr) : CV := match p.val with
  | .mk k n t l => .agg [.sc (.string p.name), i64 k, i64 n, .sc (.string t), .vec (Val.cvs l)]
def prs (l : List Pr) : List CV := l.map Pr.cv
def arityF (k : Int) : Int := if (1 ≤ k ∧ k ≤ 4) ∨ k = 14 then 0 else if k = 9 ∨ k = 11 ∨ k = 13 ∨ k = 15 then 1 else if (5 ≤ k ∧ k ≤ 8) ∨ k = 10 ∨ k = 12 then 2 else -1
theorem parts_c {σ : Heap} {k : Int} : CRun Tryz.prog 152 [i64 k] σ (· = .ret (i64 (arityF k)) σ) := by
  refine crun_of (X := X) X_ok X_sat (body := bodyOf Tryz.f152) Tryz.func152 rfl (by kernel_rfl) (by kernel_rfl) ?_
  rw [Tryz.ntmps152]
  conv => whnf
  repeat' (first | refine Fork.dp (fun h => ?_) (fun h => ?_) | refine finGo ?_) <;> try (conv => whnf)
  all_goals first
    | exact ansI (by subst_vars; decide)
    | exact ansI (by unfold arityF; repeat' split <;> omega)
theorem arity_c {σ : Heap} {k : Int} : CRun Tryz.prog 151 [i64 k] σ (· = .ret (i64 (arityF k)) σ) := by
  refine crun_of (X := X) X_ok X_sat (body := bodyOf Tryz.f151) Tryz.func151 rfl (by kernel_rfl) (by kernel_rfl) ?_
  rw [Tryz.ntmps151]
  conv => whnf
  repeat' (first | (refine CallN.many in_n ?_; rintro _ (⟨hr, rfl⟩ | ⟨hr, rfl⟩)) | refine Fork.dp (fun h => ?_) (fun h => ?_) | refine ExtN.ext ?_ | refine finGo ?_) <;> try (conv => whnf)
  all_goals exact ansI (by unfold arityF; repeat' split <;> omega)
def emptyV : Val → Bool
  | .mk k n t l => decide (k = 0 ∧ n = 0 ∧ t = ⟨#[]⟩ ∧ l.length = 0)
theorem empty_c {σ : Heap} {v : Val} (hv : Tame v) : CRun Tryz.prog 154 [v.cv] σ (· = .ret (.sc (.bool (emptyV v))) σ) := by
  obtain ⟨k, n, t, l⟩ := v
  obtain ⟨_, _, _, hl, _⟩ := hv.inv
  have e3 := cvs_length l
  have no : ¬ (k = 0 ∧ n = 0 ∧ t = ⟨#[]⟩ ∧ l.length = 0) → emptyV (.mk k n t l) = false := fun h => decide_eq_false h
  by_cases a1 : k = 0
  case neg =>
    refine crun_of (X := X) X_ok X_sat (body := bodyOf Tryz.f154) Tryz.func154 rfl (by kernel_rfl) (by kernel_rfl) ?_
    rw [Tryz.ntmps154]
    conv => whnf
    repeat' (first | refine Fork.np ?_ | refine finGo ?_) <;> try (conv => whnf)
    exact ansB (no (by omega))
  by_cases a2 : n = 0
  case neg =>
    refine crun_of (X := X) X_ok X_sat (body := bodyOf Tryz.f154) Tryz.func154 rfl (by kernel_rfl) (by kernel_rfl) ?_
    rw [Tryz.ntmps154]
    conv => whnf
    repeat' (first | refine Fork.yp ?_ | refine Fork.np ?_ | refine finGo ?_) <;> try (conv => whnf)
    exact ansB (no (by omega))
  by_cases a3 : t = ⟨#[]⟩
  case neg =>
    refine crun_of (X := X) X_ok X_sat (body := bodyOf Tryz.f154) Tryz.func154 rfl (by kernel_rfl) (by kernel_rfl) ?_
    rw [Tryz.ntmps154]
    conv => whnf
    repeat' (first | refine Fork.yp ?_ | refine Fork.np ?_ | refine finGo ?_) <;> try (conv => whnf)
    exact ansB (no (fun h => a3 h.2.2.1))
  refine crun_of (X := X) X_ok X_sat (body := bodyOf Tryz.f154) Tryz.func154 rfl (by kernel_rfl) (by kernel_rfl) ?_
  rw [Tryz.ntmps154]
  conv => whnf
  repeat' (first | refine Fork.yp ?_ | refine Fork.dp (fun h => ?_) (fun h => ?_) | refine finGo ?_) <;> try (conv => whnf)
  · exact ansB (decide_eq_true ⟨a1, a2, a3, by omega⟩)
  · exact ansB (no (by omega))
mutual
def litV : Val → Bool
  | .mk k n t l => litL l && decide (k ≤ 4)
def litL : List Val → Bool
  | [] => true
  | v :: r => litV v && litL r
end
theorem litL_all {l : List Val} : litL l = l.all litV := by
  induction l with
  | nil => rfl
  | cons v r ih => simp [litL, ih]
theorem litL_yes {l : List Val} (h : ∀ j v, j < l.length → l[j]? = some v → litV v = true) : litL l = true := by
  rw [litL_all]
  refine List.all_eq_true.2 fun v hv => ?_
  obtain ⟨j, hj, e⟩ := List.getElem_of_mem hv
  exact h j v hj (by rw [← e]; exact List.getElem?_eq_getElem hj)
theorem lit_c {σ : Heap} {v : Val} (hv : Tame v) : CRun Tryz.prog 174 [v.cv] σ (· = .ret (.sc (.bool (litV v))) σ) := by
  induction hv with
  | @mk k n t l hk hn ht hl h ih =>
    have e3 := cvs_length l
    have ih := fun v hm => split (ih v hm)
    have hh : litV (.mk k n t l) = (litL l && decide (k ≤ 4)) := by simp only [litV]
    refine crun_of (X := X) X_ok X_sat (body := bodyOf Tryz.f174) Tryz.func174 rfl (by kernel_rfl) (by kernel_rfl) ?_
    rw [Tryz.ntmps174]
    conv => whnf
    repeat' (first | refine OrdN.one ?_ | refine Fork.yp ?_ | refine Fork.np ?_ | refine Fork.ny ?_ | refine Fork.nn ?_ | refine Fork.yb ?_ | refine Fork.nb ?_ | refine Fork.dp (fun h => ?_) (fun h => ?_) | refine Fork.dn (fun h => ?_) (fun h => ?_) | (refine Fork.mk (fun h => ?_) (fun h => ?_) <;> simp only [decide_eq_true_eq, decide_eq_false_iff_not, Bool.not_eq_true', Bool.not_eq_false', Bool.or_eq_true, Bool.or_eq_false_iff] at h) | refine GetN.go ?_ | refine Need.ap1 ?_ | refine Need.ap0 ?_ | refine Need.go ?_ | refine Need.draw ?_ | refine ElemN.go ?_ | refine ExtN.ext ?_ | refine ExtN.wr ?_ | refine AllocN.go (fun l hl => ?_) | refine finGo ?_) <;> try (conv => whnf)
    refine LoopN.rule (α := Nat) (fun i => ⟨21, [(1, .ptr (.f 1) 0), (2, .sc (.bool false)), (3, i64 i)], [(1, .cells [i64 k, i64 n, .sc (.string t), .vec (Val.cvs l)])]⟩)
      (fun _ => σ) (fun i => l.length - i) (fun i => i ≤ l.length ∧ ∀ j v, j < i → l[j]? = some v → litV v = true) ?_ 0 ⟨by omega, by omega⟩ ?_
    · rintro i K ⟨h1, h2⟩ hK
      dsimp only at h1 h2 ⊢
      by_cases hi : i < l.length
      · obtain ⟨⟨wk, wn, wt, wl⟩, hm, hg, hg'⟩ := cvs_at hi
        conv => whnf
        repeat' (first | (refine CallN.many (ih _ hm) ?_; rintro _ (⟨hr, rfl⟩ | ⟨hr, rfl⟩)) | refine Fork.yp ?_ | refine Need.go ?_ | refine ElemN.go ?_ | refine ExtN.ext ?_ | refine finGo ?_) <;> try (conv => whnf)
        · refine hK (i + 1) _ _ ⟨by omega, stepAt h2 hg hr⟩ (by omega) ?_
          (refine ⟨rfl, ?_, ?_, Sub.refl _⟩ <;> repeat' (first | exact EnvLe.nil | exact LocsLe.nil | refine EnvLe.cons _ _ _ ?_ ?_ | refine LocsLe.cons _ _ _ ?_ ?_ | exact CVle.same _ rfl | exact CVle.vec _ _ | exact CVle.nil | exact CVle.tok _ _ _ rfl rfl | exact ObLe.tok _ _ rfl | exact CVles.nil | refine CVles.cons ?_ ?_ | exact ObLe.same _ rfl rfl | refine ObLe.cells rfl ?_))
        · exact ansB (by
            rw [hh, litL_all, List.all_eq_false.2 ⟨_, hm, by rw [hr]; simp⟩]; rfl)
      · have hp := litL_yes (l := l) fun j v hj => h2 j v (by omega)
        by_cases h4 : k ≤ 4
        · conv => whnf
          repeat' (first | refine Fork.yp ?_ | refine Fork.np ?_ | refine finGo ?_) <;> try (conv => whnf)
          exact ansB (by rw [hh, hp, decide_eq_true h4]; rfl)
        · conv => whnf
          repeat' (first | refine Fork.np ?_ | refine finGo ?_) <;> try (conv => whnf)
          exact ansB (by rw [hh, hp, decide_eq_false h4]; rfl)
    · (refine ⟨rfl, ?_, ?_, Sub.refl _⟩ <;> repeat' (first | exact EnvLe.nil | exact LocsLe.nil | refine EnvLe.cons _ _ _ ?_ ?_ | refine LocsLe.cons _ _ _ ?_ ?_ | exact CVle.same _ rfl | exact CVle.vec _ _ | exact CVle.nil | exact CVle.tok _ _ _ rfl rfl | exact ObLe.tok _ _ rfl | exact CVles.nil | refine CVles.cons ?_ ?_ | exact ObLe.same _ rfl rfl | refine ObLe.cells rfl ?_))
mutual
theorem lit_of : ∀ (v : Val) {d : Int}, okV d v = true → litV v = (!hasV 5 v && !hasV 6 v)
  | .mk k n t l, d, h => by
    have hl : litL l = (!hasL 5 l && !hasL 6 l) := by
      by_cases h4 : k = 4
      · subst h4
        exact litL_of l (okV_list h)
      · by_cases h3 : k = 3
        · subst h3
          rw [(okV_text h).2]; rfl
        · rw [(okV_num h h3 h4).2]; rfl
    rcases okV_kind h with ⟨h, _⟩ | h | h | h | h | h | h <;> subst h <;> simp [litV, hasV, hl]
theorem litL_of : ∀ (l : List Val) {d : Int}, (∀ v ∈ l, okV d v = true) → litL l = (!hasL 5 l && !hasL 6 l)
  | [], _, _ => rfl
  | v :: r, d, h => by
    have h1 := lit_of v (h v (by simp))
    have h2 := litL_of r fun v hv => h v (by simp [hv])
    simp only [litL, hasL, h1, h2]
    cases hasV 5 v <;> cases hasV 6 v <;> simp
end
theorem l1Same_c {σ : Heap} {v : Val} (hv : Tame v) : ∀ {v' : Val}, Tame v' → CRun Tryz.prog 175 [v.cv, v'.cv] σ (· = .ret (.sc (.bool (sameV v v'))) σ) := by
  induction hv with
  | @mk k n t l hk hn ht hl h ih =>
    intro v' hv'
    obtain ⟨k', n', t', l'⟩ := v'
    obtain ⟨b1, b2, b3, b4, b5⟩ := hv'.inv
    have e3 := cvs_length l
    have e4 := cvs_length l'
    by_cases hk : k = k' ∧ n = n' ∧ t = t' ∧ l.length = l'.length
    case neg =>
      have o : sameV (.mk k n t l) (.mk k' n' t' l') = false := by
        simp only [sameV]
        by_cases h1 : k = k' ∧ n = n' ∧ t = t'
        · rw [sameL_len (fun e => hk ⟨h1.1, h1.2.1, h1.2.2, e⟩), Bool.and_false]
        · rw [decide_eq_false h1, Bool.false_and]
      refine crun_of (X := X) X_ok X_sat (body := bodyOf Tryz.f175) Tryz.func175 rfl (by kernel_rfl) (by kernel_rfl) ?_
      rw [Tryz.ntmps175]
      by_cases h1 : k = k'
      case neg =>
        conv => whnf
        repeat' (first | refine Fork.ny ?_ | refine finGo ?_) <;> try (conv => whnf)
        exact ansB o
      by_cases h2 : n = n'
      case neg =>
        conv => whnf
        repeat' (first | refine Fork.ny ?_ | refine Fork.nn ?_ | refine finGo ?_) <;> try (conv => whnf)
        exact ansB o
      by_cases h3 : t = t'
      case neg =>
        conv => whnf
        repeat' (first | refine Fork.ny ?_ | refine Fork.nn ?_ | refine finGo ?_) <;> try (conv => whnf)
        exact ansB o
      have h4 : l.length ≠ l'.length := fun e => hk ⟨h1, h2, h3, e⟩
      conv => whnf
      repeat' (first | refine Fork.ny ?_ | refine Fork.nn ?_ | refine finGo ?_) <;> try (conv => whnf)
      exact ansB o
    obtain ⟨h1, h2, h3, h4⟩ := hk
    have o : sameV (.mk k n t l) (.mk k' n' t' l') = sameL l l' := by simp only [sameV]; rw [decide_eq_true ⟨h1, h2, h3⟩, Bool.true_and]
    refine crun_of (X := X) X_ok X_sat (body := bodyOf Tryz.f175) Tryz.func175 rfl (by kernel_rfl) (by kernel_rfl) ?_
    rw [Tryz.ntmps175]
    conv => whnf
    repeat' (first | refine Fork.nn ?_) <;> try (conv => whnf)
    refine LoopN.rule (α := Nat) (fun i => ⟨53, [(2, .ptr (.f 2) 0), (3, .ptr (.f 3) 0), (5, i64 i)], [(2, .cells [i64 k, i64 n, .sc (.string t), .vec (Val.cvs l)]), (3, .cells [i64 k', i64 n', .sc (.string t'), .vec (Val.cvs l')])]⟩)
      (fun _ => σ) (fun i => l.length - i) (fun i => i ≤ l.length ∧ sameL l l' = sameL (l.drop i) (l'.drop i)) ?_ 0 ⟨Nat.zero_le _, rfl⟩ ?_
    · rintro i K ⟨g1, g3⟩ hK
      dsimp only at g1 g3 ⊢
      by_cases hi : i < l.length
      · obtain ⟨w, hm, hw, hg⟩ := cvs_at hi
        obtain ⟨w', hm', hw', hg'⟩ := cvs_at (l := l') (i := i) (by omega)
        have hc := ih w hm (b5 w' hm')
        have hK := hK (i + 1)
        rw [drop_get hw, drop_get hw'] at g3
        simp only [sameL] at g3
        cases hz : sameV w w' with
        | true =>
          rw [hz] at hc
          rw [hz, Bool.true_and] at g3
          obtain ⟨wk, wn, wt, wl⟩ := w
          obtain ⟨wk', wn', wt', wl'⟩ := w'
          conv => whnf
          repeat' (first | (refine CallN.one hc ?_) | refine OrdN.one ?_ | refine Fork.yp ?_ | refine Need.go ?_ | refine Need.draw ?_ | refine ElemN.go ?_ | refine ExtN.ext ?_) <;> try (conv => whnf)
          refine hK _ _ ⟨by omega, g3⟩ (by omega) ?_
          (refine ⟨rfl, ?_, ?_, Sub.refl _⟩ <;> repeat' (first | exact EnvLe.nil | exact LocsLe.nil | refine EnvLe.cons _ _ _ ?_ ?_ | refine LocsLe.cons _ _ _ ?_ ?_ | exact CVle.same _ rfl | exact CVle.vec _ _ | exact CVle.nil | exact CVle.tok _ _ _ rfl rfl | exact ObLe.tok _ _ rfl | exact CVles.nil | refine CVles.cons ?_ ?_ | exact ObLe.same _ rfl rfl | refine ObLe.cells rfl ?_))
        | false =>
          rw [hz] at hc
          rw [hz, Bool.false_and] at g3
          obtain ⟨wk, wn, wt, wl⟩ := w
          obtain ⟨wk', wn', wt', wl'⟩ := w'
          conv => whnf
          repeat' (first | (refine CallN.one hc ?_) | refine OrdN.one ?_ | refine Fork.yp ?_ | refine Need.go ?_ | refine Need.draw ?_ | refine ElemN.go ?_ | refine ExtN.ext ?_ | refine finGo ?_) <;> try (conv => whnf)
          exact ansB (o.trans g3)
      · rw [List.drop_eq_nil_of_le (by omega), List.drop_eq_nil_of_le (by omega)] at g3
        conv => whnf
        repeat' (first | refine Fork.np ?_ | refine finGo ?_) <;> try (conv => whnf)
        exact ansB (o.trans g3)
    · (refine ⟨rfl, ?_, ?_, Sub.refl _⟩ <;> repeat' (first | exact EnvLe.nil | exact LocsLe.nil | refine EnvLe.cons _ _ _ ?_ ?_ | refine LocsLe.cons _ _ _ ?_ ?_ | exact CVle.same _ rfl | exact CVle.vec _ _ | exact CVle.nil | exact CVle.tok _ _ _ rfl rfl | exact ObLe.tok _ _ rfl | exact CVles.nil | refine CVles.cons ?_ ?_ | exact ObLe.same _ rfl rfl | refine ObLe.cells rfl ?_))
inductive T3 where
  | no | unk | yes
def T3.of : Bool → T3
  | true => .yes
  | false => .no
def T3.v : T3 → Val
  | .no => .mk 1 0 ⟨#[]⟩ []
  | .unk => .mk 0 0 ⟨#[]⟩ []
  | .yes => .mk 1 1 ⟨#[]⟩ []
def t3 : Val → Option T3
  | .mk k n _ _ => if k = 0 then some .unk else if k = 1 then some (if n = 0 then .no else .yes) else none
structure Nd where
  id : Int
  labels : List ByteArray
  props : List Pr
structure Ed where
  id : Int
  kind : ByteArray
  src : Int
  dst : Int
  props : List Pr
structure Gr where
  nodes : List Nd
  edges : List Ed
  nn : Int
  ne : Int
def Nd.cv (n : Nd) : CV := .agg [i64 n.id, .vec (strs n.labels), .vec (prs n.props)]
def Ed.cv (e : Ed) : CV := .agg [i64 e.id, .sc (.string e.kind), i64 e.src, i64 e.dst, .vec (prs e.props)]
def nds (l : List Nd) : List CV := l.map Nd.cv
def eds (l : List Ed) : List CV := l.map Ed.cv
def Gr.cv (g : Gr) : CV := .agg [.vec (nds g.nodes), .vec (eds g.edges), i64 g.nn, i64 g.ne]
theorem all_of {α : Type} {l : List α} {p : α → Bool} (h : ∀ j v, j < l.length → l[j]? = some v → p v = true) : l.all p = true := by
  refine List.all_eq_true.2 fun v hv => ?_
  obtain ⟨j, hj, e⟩ := List.getElem_of_mem hv
  exact h j v hj (by rw [← e]; exact List.getElem?_eq_getElem hj)
theorem stepG {α : Type} {l : List α} {p : α → Prop} {i : Nat} {v : α} (h : ∀ j v, j < i → l[j]? = some v → p v) (hv : l[i]? = some v) (hp : p v) : ∀ j v, j < i + 1 → l[j]? = some v → p v := fun j w hj hw => by
  by_cases e : j = i
  · subst e; rw [hv] at hw; cases hw; exact hp
  · exact h j w (by omega) hw
inductive Exp where
  | mk (k : Int) (v : Val) (name key : ByteArray) (parts : List Exp)
mutual
def Exp.cv : Exp → CV
  | .mk k (.mk vk vn vt vl) s c ps => .agg [i64 k, i64 vk, i64 vn, .sc (.string vt), .vec (Val.cvs vl), .sc (.string s), .sc (.string c), .vec (Exp.cvs ps)]
def Exp.cvs : List Exp → List CV
  | [] => []
  | e :: r => e.cv :: Exp.cvs r
end
inductive ETame : Exp → Prop
  | mk {k : Int} {v : Val} {s c : ByteArray} {ps : List Exp} (hv : Tame v) (hs : s.size ≤ 1000) (hc : c.size ≤ 1000) (hl : ps.length ≤ 100) (h : ∀ e ∈ ps, ETame e) : ETame (.mk k v s c ps)
theorem ETame.inv {k : Int} {v : Val} {s c : ByteArray} {ps : List Exp} (h : ETame (.mk k v s c ps)) : Tame v ∧ s.size ≤ 1000 ∧ c.size ≤ 1000 ∧ ps.length ≤ 100 ∧ ∀ e ∈ ps, ETame e := by
  cases h with
  | mk h1 h2 h3 h4 h5 => exact ⟨h1, h2, h3, h4, h5⟩
theorem ecvs_map (l : List Exp) : Exp.cvs l = l.map Exp.cv := by
  induction l with
  | nil => rfl
  | cons v r ih => simp [Exp.cvs, ih]
theorem ecvs_length (l : List Exp) : (Exp.cvs l).length = l.length := by simp [ecvs_map]
theorem ecvs_at {l : List Exp} {i : Nat} (hi : i < l.length) : ∃ e, e ∈ l ∧ l[i]? = some e ∧ (Exp.cvs l)[i]? = some (Exp.cv e) := by
  refine ⟨l[i], List.getElem_mem hi, List.getElem?_eq_getElem hi, ?_⟩
  rw [ecvs_map, List.getElem?_map, List.getElem?_eq_getElem hi]; rfl
def Named (k : Int) : Prop := k = 2 ∨ k = 3 ∨ k = 4
instance (k : Int) : Decidable (Named k) := by unfold Named; infer_instance
structure OkH (d k : Int) (v : Val) (s c : ByteArray) (n : Nat) : Prop where
  deep : 1 ≤ d
  ar : (n : Int) = arityF k
  nm : Named k → nameOk s = true
  nm' : ¬ Named k → s = ⟨#[]⟩
  ky : k = 3 → nameOk c = true
  ky' : ¬ k = 3 → c = ⟨#[]⟩
  vl : k = 1 → okV 3 v = true
  vt : k = 1 → litV v = true
  vl' : ¬ k = 1 → emptyV v = true
def okH (d k : Int) (v : Val) (s c : ByteArray) (n : Nat) : Bool := decide (1 ≤ d) && (decide ((n : Int) = arityF k) && ((if Named k then nameOk s else decide (s = ⟨#[]⟩)) && ((if k = 3 then nameOk c else decide (c = ⟨#[]⟩)) && (if k = 1 then okV 3 v && litV v else emptyV v))))
theorem okH_iff {d k : Int} {v : Val} {s c : ByteArray} {n : Nat} : okH d k v s c n = true ↔ OkH d k v s c n := by
  unfold okH
  constructor
  · intro h
    simp only [Bool.and_eq_true, decide_eq_true_eq] at h
    obtain ⟨h1, h2, h3, h4, h5⟩ := h
    refine ⟨h1, h2, fun h => by rw [if_pos h] at h3; exact h3, fun h => by rw [if_neg h] at h3; simpa using h3, fun h => by rw [if_pos h] at h4; exact h4, fun h => by rw [if_neg h] at h4; simpa using h4, fun h => ?_, fun h => ?_, fun h => by rw [if_neg h] at h5; exact h5⟩
    · rw [if_pos h, Bool.and_eq_true] at h5; exact h5.1
    · rw [if_pos h, Bool.and_eq_true] at h5; exact h5.2
  · intro ⟨h1, h2, h3, h3', h4, h4', h5, h6, h7⟩
    simp only [Bool.and_eq_true, decide_eq_true_eq]
    refine ⟨h1, h2, ?_, ?_, ?_⟩
    · split
      · exact h3 ‹_›
      · exact decide_eq_true (h3' ‹_›)
    · split
      · exact h4 ‹_›
      · exact decide_eq_true (h4' ‹_›)
    · split
      · rw [h5 ‹_›, h6 ‹_›]; rfl
      · exact h7 ‹_›
mutual
def okE : Int → Exp → Bool
  | d, .mk k v s c ps => okH d k v s c ps.length && okEL (d - 1) ps
def okEL : Int → List Exp → Bool
  | _, [] => true
  | d, e :: r => okE d e && okEL d r
end
theorem okEL_all {d : Int} {l : List Exp} : okEL d l = l.all (okE d) := by
  induction l with
  | nil => rfl
  | cons v r ih => simp [okEL, ih]
theorem okE_no {d k : Int} {v : Val} {s c : ByteArray} {ps : List Exp} (h : ¬ OkH d k v s c ps.length) : okE d (.mk k v s c ps) = false := by
  simp only [okE]
  rw [show okH d k v s c ps.length = false from by rw [← Bool.not_eq_true]; exact fun e => h (okH_iff.1 e)]; rfl
theorem okE_yes {d k : Int} {v : Val} {s c : ByteArray} {ps : List Exp} (h : OkH d k v s c ps.length) : okE d (.mk k v s c ps) = okEL (d - 1) ps := by
  simp only [okE]; rw [okH_iff.2 h]; rfl
theorem nameOk_empty : nameOk ⟨#[]⟩ = false := nameOk_size (by decide)
theorem empty_same {v : Val} : emptyV v = sameV v nullV := by
  obtain ⟨k, n, t, l⟩ := v
  have e : sameV (.mk k n t l) nullV = (decide (k = 0 ∧ n = 0 ∧ t = ⟨#[]⟩) && sameL l []) := by unfold nullV; simp only [sameV]
  rw [e]
  unfold emptyV
  cases l with
  | nil => simp [sameL]
  | cons v r => simp [sameL]
set_option maxHeartbeats 2000000 in
theorem exprFits_c {σ : Heap} {e : Exp} (he : ETame e) : ∀ {d : Int}, -10 ≤ d → d ≤ 1000 → CRun Tryz.prog 80 [e.cv, i64 d] σ (· = .ret (.sc (.bool (okE d e))) σ) := by
  induction he with
  | @mk k v s c ps hv hs hc hl hps ih =>
    intro d hd hd'
    have e3 := ecvs_length ps
    have a1 := fun k => parts_c (σ := σ) (k := k)
    have n1 := nameOk_c (σ := σ) (t := s) (by omega)
    have n2 := nameOk_c (σ := σ) (t := c) (by omega)
    have v1 := implOk_c (σ := σ) hv
    have v2 := has_c (σ := σ) (c := 5) hv
    have v3 := has_c (σ := σ) (c := 6) hv
    have v4 := empty_c (σ := σ) hv
    by_cases hH : OkH d k v s c ps.length
    case neg =>
      have no : COut.ret (.sc (.bool false)) σ = .ret (.sc (.bool (okE d (.mk k v s c ps)))) σ := ansB (okE_no hH)
      have n1 := split n1
      have n2 := split n2
      have v1 := split v1
      have v2 := split v2
      have v3 := split v3
      have v4 := split v4
      have hlit := @lit_of v 3
      obtain ⟨vk, vn, vt, vl⟩ := v
      refine crun_of (X := X) X_ok X_sat (body := bodyOf Tryz.f80) Tryz.func80 rfl (by kernel_rfl) (by kernel_rfl) ?_
      rw [Tryz.ntmps80]
      conv => whnf
      repeat' (first | (refine CallN.one (a1 _) ?_) | (refine CallN.many n1 ?_; rintro _ (⟨w1, rfl⟩ | ⟨w1, rfl⟩)) | (refine CallN.many n2 ?_; rintro _ (⟨w2, rfl⟩ | ⟨w2, rfl⟩)) | (refine CallN.many v1 ?_; rintro _ (⟨w3, rfl⟩ | ⟨w3, rfl⟩)) | (refine CallN.many v2 ?_; rintro _ (⟨w4, rfl⟩ | ⟨w4, rfl⟩)) | (refine CallN.many v3 ?_; rintro _ (⟨w5, rfl⟩ | ⟨w5, rfl⟩)) | (refine CallN.many v4 ?_; rintro _ (⟨w6, rfl⟩ | ⟨w6, rfl⟩)) | refine OrdN.one ?_ | refine Fork.yp ?_ | refine Fork.np ?_ | refine Fork.dp (fun h => ?_) (fun h => ?_) | refine Fork.dn (fun h => ?_) (fun h => ?_) | refine Need.draw ?_ | refine ExtN.ext ?_ | refine finGo ?_) <;> try (conv => whnf)
      all_goals first
        | exact no
        | exact absurd ⟨by omega, by omega, fun h => by first | assumption | (unfold Named at h; omega), fun h => by first | assumption | exact absurd (by unfold Named; omega) h,
            fun h => by first | assumption | omega, fun h => by first | assumption | omega, fun h => by first | assumption | omega,
            fun h => by first | omega | (rw [hlit ‹_›, ‹hasV 5 _ = _›, ‹hasV 6 _ = _›]; rfl), fun h => by first | assumption | omega⟩ hH
    have one0 := hH.deep
    have har := hH.ar
    by_cases k1 : k = 1
    · have hp : ps = [] := by
        rw [k1] at har
        have : arityF 1 = 0 := by decide
        exact List.eq_nil_of_length_eq_zero (by omega)
      have hr := okE_yes hH
      have hs0 := hH.nm' (by unfold Named; omega)
      have hc0 := hH.ky' (by omega)
      rw [hs0, nameOk_empty] at n1
      rw [hc0, nameOk_empty] at n2
      have hv1 := hH.vl k1
      have hlit := lit_of _ hv1
      rw [hH.vt k1] at hlit
      rw [hv1] at v1
      have w4 : hasV 5 v = false := by
        cases h : hasV 5 v with
        | false => rfl
        | true => rw [h] at hlit; simp at hlit
      have w5 : hasV 6 v = false := by
        cases h : hasV 6 v with
        | false => rfl
        | true => rw [h] at hlit; simp at hlit
      rw [w4] at v2
      rw [w5] at v3
      obtain ⟨vk, vn, vt, vl⟩ := v
      subst hs0 hc0
      refine crun_of (X := X) X_ok X_sat (body := bodyOf Tryz.f80) Tryz.func80 rfl (by kernel_rfl) (by kernel_rfl) ?_
      rw [Tryz.ntmps80]
      conv => whnf
      repeat' (first | (refine CallN.one (a1 _) ?_) | (refine CallN.one n1 ?_) | (refine CallN.one v1 ?_) | (refine CallN.one v2 ?_) | (refine CallN.one v3 ?_) | refine OrdN.one ?_ | refine Fork.yp ?_ | refine Fork.np ?_ | refine Fork.nn ?_ | refine Fork.nb ?_ | refine Need.draw ?_ | refine ExtN.ext ?_ | refine finGo ?_) <;> try (conv => whnf)
      all_goals exact ansB (by rw [hr, hp]; rfl)
    have hv1 := hH.vl' k1
    rw [hv1] at v4
    obtain ⟨vk, vn, vt, vl⟩ := v
    by_cases kn : Named k
    · have hs0 := hH.nm kn
      rw [hs0] at n1
      unfold Named at kn
      by_cases k3 : k = 3
      · have hc0 := hH.ky k3
        rw [hc0] at n2
        refine crun_of (X := X) X_ok X_sat (body := bodyOf Tryz.f80) Tryz.func80 rfl (by kernel_rfl) (by kernel_rfl) ?_
        rw [Tryz.ntmps80]
        conv => whnf
        repeat' (first | (refine CallN.one (a1 _) ?_) | (refine CallN.one n1 ?_) | (refine CallN.one n2 ?_) | (refine CallN.one v4 ?_) | refine OrdN.one ?_ | refine Fork.yp ?_ | refine Fork.np ?_ | refine Fork.nn ?_ | refine Need.draw ?_ | refine ExtN.ext ?_) <;> try (conv => whnf)
        refine LoopN.rule (α := Nat) (fun i => ⟨101, [(1, i64 d), (4, .sc (.bool false)), (89, .vec (Exp.cvs ps)), (90, i64 (Exp.cvs ps).length), (91, i64 i)], []⟩)
          (fun _ => σ) (fun i => ps.length - i) (fun i => i ≤ ps.length ∧ ∀ j v, j < i → ps[j]? = some v → okE (d - 1) v = true) ?_ 0 ⟨by omega, by omega⟩ ?_
        · rintro i K ⟨h1, h2⟩ hK
          dsimp only at h1 h2 ⊢
          by_cases hi : i < ps.length
          · obtain ⟨⟨ek, ⟨evk, evn, evt, evl⟩, es, ec, eps⟩, hm, hg, hg'⟩ := ecvs_at hi
            have hc := ih _ hm (d := d - 1) (by omega) (by omega)
            cases hz : okE (d - 1) (.mk ek (.mk evk evn evt evl) es ec eps) <;> rw [hz] at hc
            · conv => whnf
              repeat' (first | (refine CallN.one hc ?_) | refine Fork.yp ?_ | refine Need.go ?_ | refine ElemN.go ?_ | refine ExtN.ext ?_ | refine finGo ?_) <;> try (conv => whnf)
              exact ansB (by rw [okE_yes hH, okEL_all]; exact List.all_eq_false.2 ⟨_, hm, by rw [hz]; simp⟩)
            · conv => whnf
              repeat' (first | (refine CallN.one hc ?_) | refine Fork.yp ?_ | refine Need.go ?_ | refine ElemN.go ?_ | refine ExtN.ext ?_) <;> try (conv => whnf)
              refine hK (i + 1) _ _ ⟨by omega, stepG h2 hg hz⟩ (by omega) ?_
              (refine ⟨rfl, ?_, ?_, Sub.refl _⟩ <;> repeat' (first | exact EnvLe.nil | exact LocsLe.nil | refine EnvLe.cons _ _ _ ?_ ?_ | refine LocsLe.cons _ _ _ ?_ ?_ | exact CVle.same _ rfl | exact CVle.vec _ _ | exact CVle.nil | exact CVle.tok _ _ _ rfl rfl | exact ObLe.tok _ _ rfl | exact CVles.nil | refine CVles.cons ?_ ?_ | exact ObLe.same _ rfl rfl | refine ObLe.cells rfl ?_))
          · have hall : okEL (d - 1) ps = true := by rw [okEL_all]; exact all_of fun j v hj => h2 j v (by omega)
            conv => whnf
            repeat' (first | refine Fork.np ?_ | refine finGo ?_) <;> try (conv => whnf)
            exact ansB (by rw [okE_yes hH, hall])
        · (refine ⟨rfl, ?_, ?_, Sub.refl _⟩ <;> repeat' (first | exact EnvLe.nil | exact LocsLe.nil | refine EnvLe.cons _ _ _ ?_ ?_ | refine LocsLe.cons _ _ _ ?_ ?_ | exact CVle.same _ rfl | exact CVle.vec _ _ | exact CVle.nil | exact CVle.tok _ _ _ rfl rfl | exact ObLe.tok _ _ rfl | exact CVles.nil | refine CVles.cons ?_ ?_ | exact ObLe.same _ rfl rfl | refine ObLe.cells rfl ?_))
      · have hc0 := hH.ky' k3
        rw [hc0, nameOk_empty] at n2
        have hr := okE_yes hH
        subst hc0
        refine crun_of (X := X) X_ok X_sat (body := bodyOf Tryz.f80) Tryz.func80 rfl (by kernel_rfl) (by kernel_rfl) ?_
        rw [Tryz.ntmps80]
        conv => whnf
        repeat' (first | (refine CallN.one (a1 _) ?_) | (refine CallN.one n1 ?_) | (refine CallN.one n2 ?_) | (refine CallN.one v4 ?_) | refine OrdN.one ?_ | refine Fork.yp ?_ | refine Fork.np ?_ | refine Fork.nn ?_ | refine Fork.nb ?_ | refine Fork.dp (fun h => ?_) (fun h => ?_) | refine Need.draw ?_ | refine ExtN.ext ?_) <;> try (conv => whnf)
        all_goals
          refine LoopN.rule (α := Nat) (fun i => ⟨101, [(1, i64 d), (4, .sc (.bool false)), (89, .vec (Exp.cvs ps)), (90, i64 (Exp.cvs ps).length), (91, i64 i)], []⟩)
            (fun _ => σ) (fun i => ps.length - i) (fun i => i ≤ ps.length ∧ ∀ j v, j < i → ps[j]? = some v → okE (d - 1) v = true) ?_ 0 ⟨by omega, by omega⟩ ?_
          · rintro i K ⟨h1, h2⟩ hK
            dsimp only at h1 h2 ⊢
            by_cases hi : i < ps.length
            · obtain ⟨⟨ek, ⟨evk, evn, evt, evl⟩, es, ec, eps⟩, hm, hg, hg'⟩ := ecvs_at hi
              have hc := ih _ hm (d := d - 1) (by omega) (by omega)
              cases hz : okE (d - 1) (.mk ek (.mk evk evn evt evl) es ec eps) <;> rw [hz] at hc
              · conv => whnf
                repeat' (first | (refine CallN.one hc ?_) | refine Fork.yp ?_ | refine Need.go ?_ | refine ElemN.go ?_ | refine ExtN.ext ?_ | refine finGo ?_) <;> try (conv => whnf)
                exact ansB (by rw [okE_yes hH, okEL_all]; exact List.all_eq_false.2 ⟨_, hm, by rw [hz]; simp⟩)
              · conv => whnf
                repeat' (first | (refine CallN.one hc ?_) | refine Fork.yp ?_ | refine Need.go ?_ | refine ElemN.go ?_ | refine ExtN.ext ?_) <;> try (conv => whnf)
                refine hK (i + 1) _ _ ⟨by omega, stepG h2 hg hz⟩ (by omega) ?_
                (refine ⟨rfl, ?_, ?_, Sub.refl _⟩ <;> repeat' (first | exact EnvLe.nil | exact LocsLe.nil | refine EnvLe.cons _ _ _ ?_ ?_ | refine LocsLe.cons _ _ _ ?_ ?_ | exact CVle.same _ rfl | exact CVle.vec _ _ | exact CVle.nil | exact CVle.tok _ _ _ rfl rfl | exact ObLe.tok _ _ rfl | exact CVles.nil | refine CVles.cons ?_ ?_ | exact ObLe.same _ rfl rfl | refine ObLe.cells rfl ?_))
            · have hall : okEL (d - 1) ps = true := by rw [okEL_all]; exact all_of fun j v hj => h2 j v (by omega)
              conv => whnf
              repeat' (first | refine Fork.np ?_ | refine finGo ?_) <;> try (conv => whnf)
              exact ansB (by rw [okE_yes hH, hall])
          · (refine ⟨rfl, ?_, ?_, Sub.refl _⟩ <;> repeat' (first | exact EnvLe.nil | exact LocsLe.nil | refine EnvLe.cons _ _ _ ?_ ?_ | refine LocsLe.cons _ _ _ ?_ ?_ | exact CVle.same _ rfl | exact CVle.vec _ _ | exact CVle.nil | exact CVle.tok _ _ _ rfl rfl | exact ObLe.tok _ _ rfl | exact CVles.nil | refine CVles.cons ?_ ?_ | exact ObLe.same _ rfl rfl | refine ObLe.cells rfl ?_))
    · have hs0 := hH.nm' kn
      have hc0 := hH.ky' (by unfold Named at kn; omega)
      have k2 : ¬ k = 2 ∧ ¬ k = 3 ∧ ¬ k = 4 := by unfold Named at kn; omega
      obtain ⟨k2, k3, k4⟩ := k2
      rw [hs0, nameOk_empty] at n1
      rw [hc0, nameOk_empty] at n2
      subst hs0 hc0
      refine crun_of (X := X) X_ok X_sat (body := bodyOf Tryz.f80) Tryz.func80 rfl (by kernel_rfl) (by kernel_rfl) ?_
      rw [Tryz.ntmps80]
      conv => whnf
      repeat' (first | (refine CallN.one (a1 _) ?_) | (refine CallN.one n1 ?_) | (refine CallN.one v4 ?_) | refine OrdN.one ?_ | refine Fork.np ?_ | refine Fork.nn ?_ | refine Fork.nb ?_ | refine Need.draw ?_ | refine ExtN.ext ?_) <;> try (conv => whnf)
      refine LoopN.rule (α := Nat) (fun i => ⟨101, [(1, i64 d), (4, .sc (.bool false)), (89, .vec (Exp.cvs ps)), (90, i64 (Exp.cvs ps).length), (91, i64 i)], []⟩)
        (fun _ => σ) (fun i => ps.length - i) (fun i => i ≤ ps.length ∧ ∀ j v, j < i → ps[j]? = some v → okE (d - 1) v = true) ?_ 0 ⟨by omega, by omega⟩ ?_
      · rintro i K ⟨h1, h2⟩ hK
        dsimp only at h1 h2 ⊢
        by_cases hi : i < ps.length
        · obtain ⟨⟨ek, ⟨evk, evn, evt, evl⟩, es, ec, eps⟩, hm, hg, hg'⟩ := ecvs_at hi
          have hc := ih _ hm (d := d - 1) (by omega) (by omega)
          cases hz : okE (d - 1) (.mk ek (.mk evk evn evt evl) es ec eps) <;> rw [hz] at hc
          · conv => whnf
            repeat' (first | (refine CallN.one hc ?_) | refine Fork.yp ?_ | refine Need.go ?_ | refine ElemN.go ?_ | refine ExtN.ext ?_ | refine finGo ?_) <;> try (conv => whnf)
            exact ansB (by rw [okE_yes hH, okEL_all]; exact List.all_eq_false.2 ⟨_, hm, by rw [hz]; simp⟩)
          · conv => whnf
            repeat' (first | (refine CallN.one hc ?_) | refine Fork.yp ?_ | refine Need.go ?_ | refine ElemN.go ?_ | refine ExtN.ext ?_) <;> try (conv => whnf)
            refine hK (i + 1) _ _ ⟨by omega, stepG h2 hg hz⟩ (by omega) ?_
            (refine ⟨rfl, ?_, ?_, Sub.refl _⟩ <;> repeat' (first | exact EnvLe.nil | exact LocsLe.nil | refine EnvLe.cons _ _ _ ?_ ?_ | refine LocsLe.cons _ _ _ ?_ ?_ | exact CVle.same _ rfl | exact CVle.vec _ _ | exact CVle.nil | exact CVle.tok _ _ _ rfl rfl | exact ObLe.tok _ _ rfl | exact CVles.nil | refine CVles.cons ?_ ?_ | exact ObLe.same _ rfl rfl | refine ObLe.cells rfl ?_))
        · have hall : okEL (d - 1) ps = true := by rw [okEL_all]; exact all_of fun j v hj => h2 j v (by omega)
          conv => whnf
          repeat' (first | refine Fork.np ?_ | refine finGo ?_) <;> try (conv => whnf)
          exact ansB (by rw [okE_yes hH, hall])
      · (refine ⟨rfl, ?_, ?_, Sub.refl _⟩ <;> repeat' (first | exact EnvLe.nil | exact LocsLe.nil | refine EnvLe.cons _ _ _ ?_ ?_ | refine LocsLe.cons _ _ _ ?_ ?_ | exact CVle.same _ rfl | exact CVle.vec _ _ | exact CVle.nil | exact CVle.tok _ _ _ rfl rfl | exact ObLe.tok _ _ rfl | exact CVles.nil | refine CVles.cons ?_ ?_ | exact ObLe.same _ rfl rfl | refine ObLe.cells rfl ?_))
end Go.Proofs.YthllnbfkfobcjaaGreat
