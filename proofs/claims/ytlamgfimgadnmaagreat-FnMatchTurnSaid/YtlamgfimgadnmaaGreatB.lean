/-
  Contracts of the functions that the law reaches.
-/
import Derived.Test.YtlamgfimgadnmaaGreatA
set_option linter.unusedVariables false
set_option linter.unusedSimpArgs false
namespace Go.Proofs.YtlamgfimgadnmaaGreat
open Go Go.CL
set_option maxRecDepth 10000
def letterOk (b : Int) : Bool := decide (97 ≤ b ∧ b ≤ 122) || decide (65 ≤ b ∧ b ≤ 90)
def figOk (b : Int) : Bool := decide (48 ≤ b ∧ b ≤ 57)
theorem letter_c {σ : Heap} {b : Int} : CRun Tryz.prog 65 [u8 b] σ (· = .ret (.sc (.bool (letterOk b))) σ) := by
  refine crun_of (X := X) X_ok X_sat (body := bodyOf Tryz.f65) Tryz.func65 rfl (by kernel_rfl) (by kernel_rfl) ?_
  rw [Tryz.ntmps65]
  conv => whnf
  repeat' (first | refine Fork.yp ?_ | refine Fork.np ?_ | refine Fork.dp (fun h => ?_) (fun h => ?_) | refine finGo ?_) <;> try (conv => whnf)
  all_goals exact ansB (by simp only [letterOk, Bool.or_eq_true, Bool.or_eq_false_iff, decide_eq_true_eq, decide_eq_false_iff_not]; omega)
theorem fig_c {σ : Heap} {b : Int} : CRun Tryz.prog 66 [u8 b] σ (· = .ret (.sc (.bool (figOk b))) σ) := by
  refine crun_of (X := X) X_ok X_sat (body := bodyOf Tryz.f66) Tryz.func66 rfl (by kernel_rfl) (by kernel_rfl) ?_
  rw [Tryz.ntmps66]
  conv => whnf
  repeat' (first | refine Fork.dp (fun h => ?_) (fun h => ?_) | refine finGo ?_) <;> try (conv => whnf)
  all_goals exact ansB (by simp only [figOk, decide_eq_true_eq, decide_eq_false_iff_not]; omega)
theorem l2Letter_c {σ : Heap} {b : Int} : CRun Tryz.prog 68 [u8 b] σ (· = .ret (.sc (.bool (letterOk b))) σ) := by
  refine crun_of (X := X) X_ok X_sat (body := bodyOf Tryz.f68) Tryz.func68 rfl (by kernel_rfl) (by kernel_rfl) ?_
  rw [Tryz.ntmps68]
  conv => whnf
  repeat' (first | refine Fork.yp ?_ | refine Fork.np ?_ | refine Fork.dp (fun h => ?_) (fun h => ?_) | refine finGo ?_) <;> try (conv => whnf)
  all_goals exact ansB (by simp only [letterOk, Bool.or_eq_true, Bool.or_eq_false_iff, decide_eq_true_eq, decide_eq_false_iff_not]; omega)
def keptL : List ByteArray := [⟨#[77, 65, 84, 67, 72]⟩, ⟨#[79, 80, 84, 73, 79, 78, 65, 76]⟩, ⟨#[87, 72, 69, 82, 69]⟩, ⟨#[85, 78, 87, 73, 78, 68]⟩, ⟨#[87, 73, 84, 72]⟩, ⟨#[82, 69, 84, 85, 82, 78]⟩, ⟨#[67, 82, 69, 65, 84, 69]⟩, ⟨#[83, 69, 84]⟩, ⟨#[68, 69, 76, 69, 84, 69]⟩, ⟨#[68, 69, 84, 65, 67, 72]⟩, ⟨#[65, 83]⟩, ⟨#[65, 78, 68]⟩, ⟨#[79, 82]⟩, ⟨#[78, 79, 84]⟩, ⟨#[73, 83]⟩, ⟨#[78, 85, 76, 76]⟩, ⟨#[73, 78]⟩, ⟨#[68, 73, 83, 84, 73, 78, 67, 84]⟩, ⟨#[79, 82, 68, 69, 82]⟩, ⟨#[66, 89]⟩, ⟨#[68, 69, 83, 67]⟩, ⟨#[83, 75, 73, 80]⟩, ⟨#[76, 73, 77, 73, 84]⟩, ⟨#[110, 117, 108, 108]⟩, ⟨#[116, 114, 117, 101]⟩, ⟨#[102, 97, 108, 115, 101]⟩, ⟨#[99, 111, 117, 110, 116]⟩, ⟨#[115, 117, 109]⟩, ⟨#[115, 105, 122, 101]⟩]
def kept (t : ByteArray) : Bool := keptL.any fun s => decide (t = s)
def bAt (t : ByteArray) (i : Nat) : Int := (t.data.getD i 0).toNat
def nameCh (t : ByteArray) (i : Nat) : Bool := letterOk (bAt t i) || (decide (i ≠ 0) && figOk (bAt t i))
def nameOk (t : ByteArray) : Bool := decide (1 ≤ t.size ∧ t.size ≤ 8) && ((List.range t.size).all (nameCh t) && !kept t)
theorem nameOk_size {t : ByteArray} (h : ¬ (1 ≤ t.size ∧ t.size ≤ 8)) : nameOk t = false := by unfold nameOk; rw [decide_eq_false h]; rfl
theorem nameOk_no {t : ByteArray} {i : Nat} (hi : i < t.size) (h : nameCh t i = false) : nameOk t = false := by
  unfold nameOk
  have : (List.range t.size).all (nameCh t) = false := List.all_eq_false.2 ⟨i, List.mem_range.2 hi, by simp [h]⟩
  rw [this]; simp
theorem nameOk_kept {t : ByteArray} (h : kept t = true) : nameOk t = false := by unfold nameOk; rw [h]; simp
theorem nameOk_yes {t : ByteArray} (hs : 1 ≤ t.size ∧ t.size ≤ 8) (h : ∀ i, i < t.size → nameCh t i = true) (hk : kept t = false) : nameOk t = true := by
  unfold nameOk
  rw [decide_eq_true hs, hk, List.all_eq_true.2 fun i hi => h i (List.mem_range.1 hi)]; rfl
theorem split {P : Program} {f : FuncId} {args : List CV} {σ τ : Heap} {b : Bool} (h : CRun P f args σ (· = .ret (.sc (.bool b)) τ)) :
    CRun P f args σ (fun out => (b = true ∧ out = .ret (.sc (.bool true)) τ) ∨ (b = false ∧ out = .ret (.sc (.bool false)) τ)) :=
  h.mono fun out e => by subst e; cases b; exact .inr ⟨rfl, rfl⟩; exact .inl ⟨rfl, rfl⟩
theorem empty_of {t : ByteArray} (h : t.size = 0) : t = ⟨#[]⟩ := by
  obtain ⟨a⟩ := t
  have : a = #[] := Array.eq_empty_of_size_eq_zero h
  rw [this]
theorem stepAll {p : Nat → Prop} {i : Nat} (h : ∀ j, j < i → p j) (hi : p i) : ∀ j, j < i + 1 → p j := fun j hj => by
  by_cases e : j = i
  · rw [e]; exact hi
  · exact h j (by omega)
theorem nameCh0 {t : ByteArray} (h : letterOk ((t.data.getD (Int.toNat 0) 0).toNat) = true) : nameCh t 0 = true := by
  have h' : letterOk ((t.data.getD 0 0).toNat) = true := h
  show (letterOk ((t.data.getD 0 0).toNat) || _) = true
  rw [h']; rfl
theorem nameOk_c {σ : Heap} {t : ByteArray} (ht : t.size ≤ 1000000000) : CRun Tryz.prog 30 [.sc (.string t)] σ (· = .ret (.sc (.bool (nameOk t))) σ) := by
  have cl := fun b => split (@letter_c σ b)
  have cf := fun b => split (@fig_c σ b)
  by_cases hz : t.size = 0
  · have e := empty_of hz
    have e2 : nameOk t = false := nameOk_size (by omega)
    refine crun_of (X := X) X_ok X_sat (body := bodyOf Tryz.f30) Tryz.func30 rfl (by kernel_rfl) (by kernel_rfl) ?_
    rw [Tryz.ntmps30]
    conv => whnf
    repeat' (first | refine Fork.yp ?_ | refine finGo ?_) <;> try (conv => whnf)
    all_goals first | exact ansB e2 | exact (‹¬ t = _› e).elim
  refine crun_of (X := X) X_ok X_sat (body := bodyOf Tryz.f30) Tryz.func30 rfl (by kernel_rfl) (by kernel_rfl) ?_
  rw [Tryz.ntmps30]
  by_cases hs : 1 ≤ t.size ∧ t.size ≤ 8
  · conv => whnf
    repeat' (first | (refine CallN.many (cl _) ?_; rintro _ (⟨hl, rfl⟩ | ⟨hl, rfl⟩)) | refine Fork.np ?_ | refine Fork.dp (fun h => ?_) (fun h => ?_) | refine Need.go ?_ | refine ExtN.ext ?_ | refine finGo ?_) <;> try (conv => whnf)
    · exact (hz (by rw [h]; rfl)).elim
    · refine LoopN.rule (α := Nat) (fun i => ⟨66, [(0, .sc (.string t)), (2, .sc (.bool false)), (3, i64 i)], []⟩)
        (fun _ => σ) (fun i => t.size - i) (fun i => 1 ≤ i ∧ i ≤ t.size ∧ ∀ j, j < i → nameCh t j = true) ?_ 1 ⟨by omega, by omega, stepAll (fun j hj => by omega) (nameCh0 hl)⟩ ?_
      · rintro i K ⟨h0, h1, h2⟩ hK
        dsimp only at h1 h2 ⊢
        by_cases hi : i < t.size
        · have hb : nameCh t i = (letterOk ((t.data.getD (i : Int).toNat 0).toNat) || (decide (i ≠ 0) && figOk ((t.data.getD (i : Int).toNat 0).toNat))) := rfl
          conv => whnf
          repeat' (first | (refine CallN.many (cl _) ?_; rintro _ (⟨hl, rfl⟩ | ⟨hl, rfl⟩)) | (refine CallN.many (cf _) ?_; rintro _ (⟨hf, rfl⟩ | ⟨hf, rfl⟩)) | refine Fork.yp ?_ | refine Need.go ?_ | refine ExtN.ext ?_ | refine finGo ?_) <;> try (conv => whnf)
          all_goals first
            | (refine hK (i + 1) _ _ ⟨by omega, by omega, stepAll h2 (by rw [hb, hl]; rfl)⟩ (by omega) ?_; (refine ⟨rfl, ?_, ?_, Sub.refl _⟩ <;> repeat' (first | exact EnvLe.nil | exact LocsLe.nil | refine EnvLe.cons _ _ _ ?_ ?_ | refine LocsLe.cons _ _ _ ?_ ?_ | exact CVle.same _ rfl | exact CVle.vec _ _ | exact CVle.nil | exact CVle.tok _ _ _ rfl rfl | exact ObLe.tok _ _ rfl | exact CVles.nil | refine CVles.cons ?_ ?_ | exact ObLe.same _ rfl rfl | refine ObLe.cells rfl ?_)))
            | (refine hK (i + 1) _ _ ⟨by omega, by omega, stepAll h2 (by rw [hb, hf, decide_eq_true (show i ≠ 0 by omega)]; simp)⟩ (by omega) ?_; (refine ⟨rfl, ?_, ?_, Sub.refl _⟩ <;> repeat' (first | exact EnvLe.nil | exact LocsLe.nil | refine EnvLe.cons _ _ _ ?_ ?_ | refine LocsLe.cons _ _ _ ?_ ?_ | exact CVle.same _ rfl | exact CVle.vec _ _ | exact CVle.nil | exact CVle.tok _ _ _ rfl rfl | exact ObLe.tok _ _ rfl | exact CVles.nil | refine CVles.cons ?_ ?_ | exact ObLe.same _ rfl rfl | refine ObLe.cells rfl ?_)))
            | (exact ansB (nameOk_no hi (by rw [hb, hl, hf]; simp)))
        · have hall : ∀ i, i < t.size → nameCh t i = true := fun j hj => h2 j (by omega)
          conv => whnf
          repeat' (first | refine Fork.np ?_ | refine Fork.dp (fun h => ?_) (fun h => ?_) | refine finGo ?_) <;> try (conv => whnf)
          all_goals first
            | exact ansB (nameOk_kept (by rw [‹t = _›]; rfl))
            | exact ansB (nameOk_yes hs hall (by simp only [kept, keptL, List.any_cons, List.any_nil, decide_false, Bool.or_false, *]))
      · (refine ⟨rfl, ?_, ?_, Sub.refl _⟩ <;> repeat' (first | exact EnvLe.nil | exact LocsLe.nil | refine EnvLe.cons _ _ _ ?_ ?_ | refine LocsLe.cons _ _ _ ?_ ?_ | exact CVle.same _ rfl | exact CVle.vec _ _ | exact CVle.nil | exact CVle.tok _ _ _ rfl rfl | exact ObLe.tok _ _ rfl | exact CVles.nil | refine CVles.cons ?_ ?_ | exact ObLe.same _ rfl rfl | refine ObLe.cells rfl ?_))
    · exact ansB (nameOk_no (i := 0) (by omega) (by unfold nameCh bAt; simpa using hl))
  · conv => whnf
    repeat' (first | refine Fork.yp ?_ | refine Fork.dp (fun h => ?_) (fun h => ?_) | refine finGo ?_) <;> try (conv => whnf)
    all_goals exact ansB (nameOk_size hs)
def keptC : List CV := keptL.map fun s => .sc (.string s)
theorem keptC_at {i : Nat} (hi : i < 29) : ∃ s, keptC[i]? = some (.sc (.string s)) ∧ keptL[i]? = some s := by
  refine ⟨keptL[i]'hi, ?_, ?_⟩
  · unfold keptC; rw [List.getElem?_map, List.getElem?_eq_getElem (show i < keptL.length from hi)]; rfl
  · exact List.getElem?_eq_getElem _
theorem kept_c {σ : Heap} {t : ByteArray} : CRun Tryz.prog 69 [.sc (.string t)] σ (· = .ret (.sc (.bool (kept t))) σ) := by
  refine crun_of (X := X) X_ok X_sat (body := bodyOf Tryz.f69) Tryz.func69 rfl (by kernel_rfl) (by kernel_rfl) ?_
  rw [Tryz.ntmps69]
  conv => whnf
  repeat' (first | refine OrdN.one ?_ | refine Fork.yp ?_ | refine Fork.np ?_ | refine Fork.ny ?_ | refine Fork.nn ?_ | refine Fork.yb ?_ | refine Fork.nb ?_ | refine Fork.dp (fun h => ?_) (fun h => ?_) | refine Fork.dn (fun h => ?_) (fun h => ?_) | (refine Fork.mk (fun h => ?_) (fun h => ?_) <;> simp only [decide_eq_true_eq, decide_eq_false_iff_not, Bool.not_eq_true', Bool.not_eq_false', Bool.or_eq_true, Bool.or_eq_false_iff] at h) | refine GetN.go ?_ | refine Need.ap1 ?_ | refine Need.ap0 ?_ | refine Need.go ?_ | refine Need.draw ?_ | refine ElemN.go ?_ | refine ExtN.ext ?_ | refine ExtN.wr ?_ | refine AllocN.go (fun l hl => ?_) | refine finGo ?_) <;> try (conv => whnf)
  refine LoopN.rule (α := Nat) (fun i => ⟨18, [(0, .sc (.string t)), (2, .sc (.bool false)), (3, .vec keptC), (4, i64 i)], []⟩)
    (fun _ => σ) (fun i => 29 - i) (fun i => i ≤ 29 ∧ ∀ j, j < i → ∀ s, keptL[j]? = some s → ¬ s = t) ?_ 0 ⟨by omega, by omega⟩ ?_
  · rintro i K ⟨h1, h2⟩ hK
    dsimp only at h1 h2 ⊢
    have hlen : keptC.length = 29 := rfl
    by_cases hi : i < 29
    · obtain ⟨s, hs, hs'⟩ := keptC_at hi
      conv => whnf
      repeat' (first | refine Fork.yp ?_ | refine Fork.dp (fun h => ?_) (fun h => ?_) | refine Need.go ?_ | refine ElemN.go ?_ | refine finGo ?_) <;> try (conv => whnf)
      all_goals first
        | (refine hK (i + 1) _ _ ⟨by omega, stepAll h2 (fun s' e => by rw [hs'] at e; cases e; assumption)⟩ (by omega) ?_; (refine ⟨rfl, ?_, ?_, Sub.refl _⟩ <;> repeat' (first | exact EnvLe.nil | exact LocsLe.nil | refine EnvLe.cons _ _ _ ?_ ?_ | refine LocsLe.cons _ _ _ ?_ ?_ | exact CVle.same _ rfl | exact CVle.vec _ _ | exact CVle.nil | exact CVle.tok _ _ _ rfl rfl | exact ObLe.tok _ _ rfl | exact CVles.nil | refine CVles.cons ?_ ?_ | exact ObLe.same _ rfl rfl | refine ObLe.cells rfl ?_)))
        | (refine ansB ?_; unfold kept; exact List.any_eq_true.2 ⟨s, List.mem_of_getElem? hs', decide_eq_true (Eq.symm ‹s = t›)⟩)
    · have hno : kept t = false := by
        refine List.any_eq_false.2 fun s hs => ?_
        obtain ⟨j, hj, e⟩ := List.getElem_of_mem hs
        have := h2 j (by have : keptL.length = 29 := rfl; omega) s (by rw [← e]; exact List.getElem?_eq_getElem hj)
        simpa using fun e => this e.symm
      conv => whnf
      repeat' (first | refine Fork.np ?_ | refine finGo ?_) <;> try (conv => whnf)
      exact ansB hno
  · (refine ⟨rfl, ?_, ?_, Sub.refl _⟩ <;> repeat' (first | exact EnvLe.nil | exact LocsLe.nil | refine EnvLe.cons _ _ _ ?_ ?_ | refine LocsLe.cons _ _ _ ?_ ?_ | exact CVle.same _ rfl | exact CVle.vec _ _ | exact CVle.nil | exact CVle.tok _ _ _ rfl rfl | exact ObLe.tok _ _ rfl | exact CVles.nil | refine CVles.cons ?_ ?_ | exact ObLe.same _ rfl rfl | refine ObLe.cells rfl ?_))
theorem l2Name_c {σ : Heap} {t : ByteArray} (ht : t.size ≤ 1000000000) : CRun Tryz.prog 35 [.sc (.string t)] σ (· = .ret (.sc (.bool (nameOk t))) σ) := by
  have cl := fun b => split (@l2Letter_c σ b)
  have ck := split (@kept_c σ t)
  refine crun_of (X := X) X_ok X_sat (body := bodyOf Tryz.f35) Tryz.func35 rfl (by kernel_rfl) (by kernel_rfl) ?_
  rw [Tryz.ntmps35]
  conv => whnf
  repeat' (first | refine OrdN.one ?_ | refine Fork.yp ?_ | refine Fork.np ?_ | refine Fork.ny ?_ | refine Fork.nn ?_ | refine Fork.yb ?_ | refine Fork.nb ?_ | refine Fork.dp (fun h => ?_) (fun h => ?_) | refine Fork.dn (fun h => ?_) (fun h => ?_) | (refine Fork.mk (fun h => ?_) (fun h => ?_) <;> simp only [decide_eq_true_eq, decide_eq_false_iff_not, Bool.not_eq_true', Bool.not_eq_false', Bool.or_eq_true, Bool.or_eq_false_iff] at h) | refine GetN.go ?_ | refine Need.ap1 ?_ | refine Need.ap0 ?_ | refine Need.go ?_ | refine Need.draw ?_ | refine ElemN.go ?_ | refine ExtN.ext ?_ | refine ExtN.wr ?_ | refine AllocN.go (fun l hl => ?_) | refine finGo ?_) <;> try (conv => whnf)
  refine LoopN.rule (α := Nat) (fun i => ⟨39, [(0, .sc (.string t)), (2, .sc (.bool false)), (3, i64 i)], []⟩)
    (fun _ => σ) (fun i => t.size - i) (fun i => i ≤ t.size ∧ ∀ j, j < i → nameCh t j = true) ?_ 0 ⟨by omega, by omega⟩ ?_
  · rintro i K ⟨h1, h2⟩ hK
    dsimp only at h1 h2 ⊢
    by_cases hi : i < t.size
    · have hb : nameCh t i = (letterOk ((t.data.getD (i : Int).toNat 0).toNat) || (decide (i ≠ 0) && decide (48 ≤ ((t.data.getD (i : Int).toNat 0).toNat : Int) ∧ ((t.data.getD (i : Int).toNat 0).toNat : Int) ≤ 57))) := rfl
      conv => whnf
      repeat' (first | (refine CallN.many (cl _) ?_; rintro _ (⟨hl, rfl⟩ | ⟨hl, rfl⟩)) | refine Fork.yp ?_ | refine Fork.dp (fun h => ?_) (fun h => ?_) | refine Need.go ?_ | refine ExtN.ext ?_ | refine finGo ?_) <;> try (conv => whnf)
      all_goals first
        | (refine hK (i + 1) _ _ ⟨by omega, stepAll h2 (by rw [hb, hl]; rfl)⟩ (by omega) ?_; (refine ⟨rfl, ?_, ?_, Sub.refl _⟩ <;> repeat' (first | exact EnvLe.nil | exact LocsLe.nil | refine EnvLe.cons _ _ _ ?_ ?_ | refine LocsLe.cons _ _ _ ?_ ?_ | exact CVle.same _ rfl | exact CVle.vec _ _ | exact CVle.nil | exact CVle.tok _ _ _ rfl rfl | exact ObLe.tok _ _ rfl | exact CVles.nil | refine CVles.cons ?_ ?_ | exact ObLe.same _ rfl rfl | refine ObLe.cells rfl ?_)))
        | (refine hK (i + 1) _ _ ⟨by omega, stepAll h2 (by rw [hb, decide_eq_true (show i ≠ 0 by omega), decide_eq_true ⟨by omega, by omega⟩]; simp)⟩ (by omega) ?_; (refine ⟨rfl, ?_, ?_, Sub.refl _⟩ <;> repeat' (first | exact EnvLe.nil | exact LocsLe.nil | refine EnvLe.cons _ _ _ ?_ ?_ | refine LocsLe.cons _ _ _ ?_ ?_ | exact CVle.same _ rfl | exact CVle.vec _ _ | exact CVle.nil | exact CVle.tok _ _ _ rfl rfl | exact ObLe.tok _ _ rfl | exact CVles.nil | refine CVles.cons ?_ ?_ | exact ObLe.same _ rfl rfl | refine ObLe.cells rfl ?_)))
        | (exact ansB (nameOk_no hi (by
            rw [hb, hl]; simp only [Bool.false_or, Bool.and_eq_false_iff, decide_eq_false_iff_not]
            first
              | exact .inl (by omega)
              | exact .inr (by omega))))
    · have hall : ∀ i, i < t.size → nameCh t i = true := fun j hj => h2 j (by omega)
      conv => whnf
      repeat' (first | (refine CallN.many in_n ?_; rintro _ (⟨hr, rfl⟩ | ⟨hr, rfl⟩)) | (refine CallN.many ck ?_; rintro _ (⟨hk, rfl⟩ | ⟨hk, rfl⟩)) | refine Fork.np ?_ | refine ExtN.ext ?_ | refine finGo ?_) <;> try (conv => whnf)
      all_goals first
        | exact ansB (nameOk_kept hk)
        | exact ansB (nameOk_yes (by omega) hall hk)
        | exact ansB (nameOk_size (by omega))
  · (refine ⟨rfl, ?_, ?_, Sub.refl _⟩ <;> repeat' (first | exact EnvLe.nil | exact LocsLe.nil | refine EnvLe.cons _ _ _ ?_ ?_ | refine LocsLe.cons _ _ _ ?_ ?_ | exact CVle.same _ rfl | exact CVle.vec _ _ | exact CVle.nil | exact CVle.tok _ _ _ rfl rfl | exact ObLe.tok _ _ rfl | exact CVles.nil | refine CVles.cons ?_ ?_ | exact ObLe.same _ rfl rfl | refine ObLe.cells rfl ?_))
mutual
def hasV (c : Int) : Val → Bool
  | .mk k n t l => decide (k = c) || hasL c l
def hasL (c : Int) : List Val → Bool
  | [] => false
  | v :: r => hasV c v || hasL c r
end
mutual
def plainV : Val → Bool
  | .mk k n t l => plainL l && decide (1 ≤ k ∧ k ≤ 4)
def plainL : List Val → Bool
  | [] => true
  | v :: r => plainV v && plainL r
end
theorem hasL_any {c : Int} {l : List Val} : hasL c l = l.any (hasV c) := by
  induction l with
  | nil => rfl
  | cons v r ih => simp [hasL, ih]
theorem plainL_all {l : List Val} : plainL l = l.all plainV := by
  induction l with
  | nil => rfl
  | cons v r ih => simp [plainL, ih]
theorem hasL_no {c : Int} {l : List Val} (h : ∀ j v, j < l.length → l[j]? = some v → hasV c v = false) : hasL c l = false := by
  rw [hasL_any]
  refine List.any_eq_false.2 fun v hv => ?_
  obtain ⟨j, hj, e⟩ := List.getElem_of_mem hv
  simp [h j v hj (by rw [← e]; exact List.getElem?_eq_getElem hj)]
theorem plainL_yes {l : List Val} (h : ∀ j v, j < l.length → l[j]? = some v → plainV v = true) : plainL l = true := by
  rw [plainL_all]
  refine List.all_eq_true.2 fun v hv => ?_
  obtain ⟨j, hj, e⟩ := List.getElem_of_mem hv
  exact h j v hj (by rw [← e]; exact List.getElem?_eq_getElem hj)
theorem stepAt {l : List Val} {p : Val → Prop} {i : Nat} {v : Val} (h : ∀ j v, j < i → l[j]? = some v → p v) (hv : l[i]? = some v) (hp : p v) : ∀ j v, j < i + 1 → l[j]? = some v → p v := fun j w hj hw => by
  by_cases e : j = i
  · subst e; rw [hv] at hw; cases hw; exact hp
  · exact h j w (by omega) hw
theorem has_c {σ : Heap} {c : Int} {v : Val} (hv : Tame v) : CRun Tryz.prog 97 [v.cv, i64 c] σ (· = .ret (.sc (.bool (hasV c v))) σ) := by
  induction hv with
  | @mk k n t l hk hn ht hl h ih =>
    have e3 := cvs_length l
    have ih := fun v hm => split (ih v hm)
    refine crun_of (X := X) X_ok X_sat (body := bodyOf Tryz.f97) Tryz.func97 rfl (by kernel_rfl) (by kernel_rfl) ?_
    rw [Tryz.ntmps97]
    by_cases hc : k = c
    · conv => whnf
      repeat' (first | refine Fork.yp ?_ | refine finGo ?_) <;> try (conv => whnf)
      exact ansB (by unfold hasV; rw [decide_eq_true hc]; rfl)
    · have hh : hasV c (.mk k n t l) = hasL c l := by simp only [hasV]; rw [decide_eq_false hc]; rfl
      conv => whnf
      repeat' (first | refine Fork.np ?_) <;> try (conv => whnf)
      refine LoopN.rule (α := Nat) (fun i => ⟨22, [(1, i64 c), (4, .sc (.bool false)), (12, .vec (Val.cvs l)), (13, i64 (Val.cvs l).length), (14, i64 i)], []⟩)
        (fun _ => σ) (fun i => l.length - i) (fun i => i ≤ l.length ∧ ∀ j v, j < i → l[j]? = some v → hasV c v = false) ?_ 0 ⟨by omega, by omega⟩ ?_
      · rintro i K ⟨h1, h2⟩ hK
        dsimp only at h1 h2 ⊢
        by_cases hi : i < l.length
        · obtain ⟨⟨wk, wn, wt, wl⟩, hm, hg, hg'⟩ := cvs_at hi
          conv => whnf
          repeat' (first | (refine CallN.many (ih _ hm) ?_; rintro _ (⟨hr, rfl⟩ | ⟨hr, rfl⟩)) | refine Fork.yp ?_ | refine Need.go ?_ | refine ElemN.go ?_ | refine ExtN.ext ?_ | refine finGo ?_) <;> try (conv => whnf)
          · exact ansB (by rw [hh, hasL_any]; exact List.any_eq_true.2 ⟨_, hm, hr⟩)
          · refine hK (i + 1) _ _ ⟨by omega, stepAt h2 hg hr⟩ (by omega) ?_
            (refine ⟨rfl, ?_, ?_, Sub.refl _⟩ <;> repeat' (first | exact EnvLe.nil | exact LocsLe.nil | refine EnvLe.cons _ _ _ ?_ ?_ | refine LocsLe.cons _ _ _ ?_ ?_ | exact CVle.same _ rfl | exact CVle.vec _ _ | exact CVle.nil | exact CVle.tok _ _ _ rfl rfl | exact ObLe.tok _ _ rfl | exact CVles.nil | refine CVles.cons ?_ ?_ | exact ObLe.same _ rfl rfl | refine ObLe.cells rfl ?_))
        · conv => whnf
          repeat' (first | refine Fork.np ?_ | refine finGo ?_) <;> try (conv => whnf)
          exact ansB (by rw [hh]; exact hasL_no fun j v hj => h2 j v (by omega))
      · (refine ⟨rfl, ?_, ?_, Sub.refl _⟩ <;> repeat' (first | exact EnvLe.nil | exact LocsLe.nil | refine EnvLe.cons _ _ _ ?_ ?_ | refine LocsLe.cons _ _ _ ?_ ?_ | exact CVle.same _ rfl | exact CVle.vec _ _ | exact CVle.nil | exact CVle.tok _ _ _ rfl rfl | exact ObLe.tok _ _ rfl | exact CVles.nil | refine CVles.cons ?_ ?_ | exact ObLe.same _ rfl rfl | refine ObLe.cells rfl ?_))
theorem plainV_c {σ : Heap} {v : Val} (hv : Tame v) : CRun Tryz.prog 67 [v.cv] σ (· = .ret (.sc (.bool (plainV v))) σ) := by
  induction hv with
  | @mk k n t l hk hn ht hl h ih =>
    have e3 := cvs_length l
    have ih := fun v hm => split (ih v hm)
    have hh : plainV (.mk k n t l) = (plainL l && decide (1 ≤ k ∧ k ≤ 4)) := by simp only [plainV]
    refine crun_of (X := X) X_ok X_sat (body := bodyOf Tryz.f67) Tryz.func67 rfl (by kernel_rfl) (by kernel_rfl) ?_
    rw [Tryz.ntmps67]
    conv => whnf
    repeat' (first | refine OrdN.one ?_ | refine Fork.yp ?_ | refine Fork.np ?_ | refine Fork.ny ?_ | refine Fork.nn ?_ | refine Fork.yb ?_ | refine Fork.nb ?_ | refine Fork.dp (fun h => ?_) (fun h => ?_) | refine Fork.dn (fun h => ?_) (fun h => ?_) | (refine Fork.mk (fun h => ?_) (fun h => ?_) <;> simp only [decide_eq_true_eq, decide_eq_false_iff_not, Bool.not_eq_true', Bool.not_eq_false', Bool.or_eq_true, Bool.or_eq_false_iff] at h) | refine GetN.go ?_ | refine Need.ap1 ?_ | refine Need.ap0 ?_ | refine Need.go ?_ | refine Need.draw ?_ | refine ElemN.go ?_ | refine ExtN.ext ?_ | refine ExtN.wr ?_ | refine AllocN.go (fun l hl => ?_) | refine finGo ?_) <;> try (conv => whnf)
    refine LoopN.rule (α := Nat) (fun i => ⟨21, [(1, .ptr (.f 1) 0), (2, .sc (.bool false)), (3, i64 i)], [(1, .cells [i64 k, i64 n, .sc (.string t), .vec (Val.cvs l)])]⟩)
      (fun _ => σ) (fun i => l.length - i) (fun i => i ≤ l.length ∧ ∀ j v, j < i → l[j]? = some v → plainV v = true) ?_ 0 ⟨by omega, by omega⟩ ?_
    · rintro i K ⟨h1, h2⟩ hK
      dsimp only at h1 h2 ⊢
      by_cases hi : i < l.length
      · obtain ⟨⟨wk, wn, wt, wl⟩, hm, hg, hg'⟩ := cvs_at hi
        conv => whnf
        repeat' (first | (refine CallN.many (ih _ hm) ?_; rintro _ (⟨hr, rfl⟩ | ⟨hr, rfl⟩)) | refine Fork.yp ?_ | refine Need.go ?_ | refine ElemN.go ?_ | refine ExtN.ext ?_ | refine finGo ?_) <;> try (conv => whnf)
        · refine hK (i + 1) _ _ ⟨by omega, stepAt h2 hg hr⟩ (by omega) ?_
          (refine ⟨rfl, ?_, ?_, Sub.refl _⟩ <;> repeat' (first | exact EnvLe.nil | exact LocsLe.nil | refine EnvLe.cons _ _ _ ?_ ?_ | refine LocsLe.cons _ _ _ ?_ ?_ | exact CVle.same _ rfl | exact CVle.vec _ _ | exact CVle.nil | exact CVle.tok _ _ _ rfl rfl | exact ObLe.tok _ _ rfl | exact CVles.nil | refine CVles.cons ?_ ?_ | exact ObLe.same _ rfl rfl | refine ObLe.cells rfl ?_))
        · exact ansB (by
            rw [hh, plainL_all, List.all_eq_false.2 ⟨_, hm, by rw [hr]; simp⟩]; rfl)
      · have hp := plainL_yes (l := l) fun j v hj => h2 j v (by omega)
        conv => whnf
        repeat' (first | (refine CallN.one in_c ?_) | refine Fork.np ?_ | refine ExtN.ext ?_ | refine finGo ?_) <;> try (conv => whnf)
        exact ansB (by rw [hh, hp]; rfl)
    · (refine ⟨rfl, ?_, ?_, Sub.refl _⟩ <;> repeat' (first | exact EnvLe.nil | exact LocsLe.nil | refine EnvLe.cons _ _ _ ?_ ?_ | refine LocsLe.cons _ _ _ ?_ ?_ | exact CVle.same _ rfl | exact CVle.vec _ _ | exact CVle.nil | exact CVle.tok _ _ _ rfl rfl | exact ObLe.tok _ _ rfl | exact CVles.nil | refine CVles.cons ?_ ?_ | exact ObLe.same _ rfl rfl | refine ObLe.cells rfl ?_))
def storeV (v : Val) : Bool := okV 3 v && plainV v
mutual
theorem has_of : ∀ (v : Val) {d : Int}, okV d v = true → plainV v = (!hasV 0 v && !hasV 5 v && !hasV 6 v)
  | .mk k n t l, d, h => by
    have hl : plainL l = (!hasL 0 l && !hasL 5 l && !hasL 6 l) := by
      by_cases h4 : k = 4
      · subst h4
        exact hasL_of l (okV_list h)
      · by_cases h3 : k = 3
        · subst h3
          rw [(okV_text h).2]; rfl
        · rw [(okV_num h h3 h4).2]; rfl
    rcases okV_kind h with ⟨h, _⟩ | h | h | h | h | h | h <;> subst h <;> simp [plainV, hasV, hl]
theorem hasL_of : ∀ (l : List Val) {d : Int}, (∀ v ∈ l, okV d v = true) → plainL l = (!hasL 0 l && !hasL 5 l && !hasL 6 l)
  | [], _, _ => rfl
  | v :: r, d, h => by
    have h1 := has_of v (h v (by simp))
    have h2 := hasL_of r fun v hv => h v (by simp [hv])
    simp only [plainL, hasL, h1, h2]
    cases hasV 0 v <;> cases hasV 5 v <;> cases hasV 6 v <;> simp
end
theorem storable_c {σ : Heap} {v : Val} (hv : Tame v) : CRun Tryz.prog 64 [v.cv] σ (· = .ret (.sc (.bool (storeV v))) σ) := by
  have c1 := implOk_c (σ := σ) hv
  have c2 := fun c => has_c (σ := σ) (c := c) hv
  have e : okV 3 v = true → storeV v = (!hasV 0 v && !hasV 5 v && !hasV 6 v) := fun h => by unfold storeV; rw [h, has_of _ h]; rfl
  have e' : okV 3 v = false → storeV v = false := fun h => by unfold storeV; rw [h]; rfl
  have h0 := c2 0
  have h5 := c2 5
  have h6 := c2 6
  clear c2
  obtain ⟨k, n, t, l⟩ := v
  refine crun_of (X := X) X_ok X_sat (body := bodyOf Tryz.f64) Tryz.func64 rfl (by kernel_rfl) (by kernel_rfl) ?_
  rw [Tryz.ntmps64]
  cases ho : okV 3 (.mk k n t l)
  · rw [ho] at c1
    conv => whnf
    repeat' (first | (refine CallN.one c1 ?_) | refine ExtN.ext ?_ | refine finGo ?_) <;> try (conv => whnf)
    exact ansB (e' ho)
  rw [ho] at c1
  have e := e ho
  cases k0 : hasV 0 (.mk k n t l) <;> rw [k0] at h0 e <;> cases k5 : hasV 5 (.mk k n t l) <;> rw [k5] at h5 e <;> cases k6 : hasV 6 (.mk k n t l) <;> rw [k6] at h6 e
  all_goals
    conv => whnf
    repeat' (first | (refine CallN.one c1 ?_) | (refine CallN.one h0 ?_) | (refine CallN.one h5 ?_) | (refine CallN.one h6 ?_) | refine ExtN.ext ?_ | refine finGo ?_) <;> try (conv => whnf)
    exact ansB e
def strs (l : List ByteArray) : List CV := l.map fun s => .sc (.string s)
theorem strs_len (l : List ByteArray) : (strs l).length = l.length := by simp [strs]
theorem strs_at {l : List ByteArray} {i : Nat} (hi : i < l.length) : ∃ s, s ∈ l ∧ l[i]? = some s ∧ (strs l)[i]? = some (.sc (.string s)) := by
  refine ⟨l[i], List.getElem_mem hi, List.getElem?_eq_getElem hi, ?_⟩
  unfold strs; rw [List.getElem?_map, List.getElem?_eq_getElem hi]; rfl
def lt (s t : ByteArray) : Bool := Op.bytesLess s.toList t.toList
def labelAt (l : List ByteArray) (i : Nat) : Bool := match l[i]? with
  | some s => nameOk s && match i with
    | 0 => true
    | j + 1 => match l[j]? with
      | some q => lt q s
      | none => true
  | none => true
def labelsOk (l : List ByteArray) : Bool := decide (l.length ≤ 3) && (List.range l.length).all (labelAt l)
theorem range_no {p : Nat → Bool} {n i : Nat} (hi : i < n) (h : p i = false) : (List.range n).all p = false := List.all_eq_false.2 ⟨i, List.mem_range.2 hi, by simp [h]⟩
theorem range_yes {p : Nat → Bool} {n : Nat} (h : ∀ i, i < n → p i = true) : (List.range n).all p = true := List.all_eq_true.2 fun i hi => h i (List.mem_range.1 hi)
theorem labelAt_zero {l : List ByteArray} {s : ByteArray} (hg : l[0]? = some s) : labelAt l 0 = nameOk s := by unfold labelAt; rw [hg]; simp
theorem labelAt_succ {l : List ByteArray} {j : Nat} {q s : ByteArray} (hg : l[j + 1]? = some s) (qg : l[j]? = some q) : labelAt l (j + 1) = (nameOk s && lt q s) := by
  unfold labelAt; rw [hg]; simp only [qg]
theorem toNat_pred (j : Nat) : (((j + 1 : Nat) : Int) - 1).toNat = j := by omega
theorem labelsOk_c {σ : Heap} {l : List ByteArray} (hl : l.length ≤ 1000) (ht : ∀ s ∈ l, s.size ≤ 1000) : CRun Tryz.prog 28 [.vec (strs l)] σ (· = .ret (.sc (.bool (labelsOk l))) σ) := by
  have e3 := strs_len l
  refine crun_of (X := X) X_ok X_sat (body := bodyOf Tryz.f28) Tryz.func28 rfl (by kernel_rfl) (by kernel_rfl) ?_
  rw [Tryz.ntmps28]
  by_cases h3 : l.length ≤ 3
  case neg =>
    conv => whnf
    repeat' (first | refine Fork.yp ?_ | refine finGo ?_) <;> try (conv => whnf)
    exact ansB (by unfold labelsOk; rw [decide_eq_false h3]; rfl)
  have hh : labelsOk l = (List.range l.length).all (labelAt l) := by unfold labelsOk; rw [decide_eq_true h3]; rfl
  conv => whnf
  repeat' (first | refine Fork.np ?_) <;> try (conv => whnf)
  refine LoopN.rule (α := Nat) (fun i => ⟨32, [(0, .vec (strs l)), (2, .sc (.bool false)), (8, .vec (strs l)), (9, i64 (strs l).length), (10, i64 i)], []⟩)
    (fun _ => σ) (fun i => l.length - i) (fun i => i ≤ l.length ∧ ∀ j, j < i → labelAt l j = true) ?_ 0 ⟨by omega, by omega⟩ ?_
  · rintro i K ⟨h1, h2⟩ hK
    dsimp only at h1 h2 ⊢
    by_cases hi : i < l.length
    · obtain ⟨s, hm, hg, hg'⟩ := strs_at hi
      have c1 := nameOk_c (σ := σ) (t := s) (by have := ht s hm; omega)
      have no := fun h => ansB (σ := σ) (b := false) (b' := labelsOk l) (by rw [hh, range_no hi h])
      cases i with
      | zero =>
        have e := labelAt_zero hg
        cases hn : nameOk s <;> rw [hn] at c1 e
        · conv => whnf
          repeat' (first | (refine CallN.one c1 ?_) | refine Fork.yp ?_ | refine Need.go ?_ | refine ElemN.go ?_ | refine ExtN.ext ?_ | refine finGo ?_) <;> try (conv => whnf)
          exact no e
        · conv => whnf
          repeat' (first | (refine CallN.one c1 ?_) | refine Fork.yp ?_ | refine Fork.np ?_ | refine Need.go ?_ | refine ElemN.go ?_ | refine ExtN.ext ?_) <;> try (conv => whnf)
          refine hK 1 _ _ ⟨by omega, stepAll h2 e⟩ (by omega) ?_
          (refine ⟨rfl, ?_, ?_, Sub.refl _⟩ <;> repeat' (first | exact EnvLe.nil | exact LocsLe.nil | refine EnvLe.cons _ _ _ ?_ ?_ | refine LocsLe.cons _ _ _ ?_ ?_ | exact CVle.same _ rfl | exact CVle.vec _ _ | exact CVle.nil | exact CVle.tok _ _ _ rfl rfl | exact ObLe.tok _ _ rfl | exact CVles.nil | refine CVles.cons ?_ ?_ | exact ObLe.same _ rfl rfl | refine ObLe.cells rfl ?_))
      | succ j =>
        obtain ⟨q, qm, qg, qg'⟩ := strs_at (l := l) (i := j) (by omega)
        have qg2 : (strs l)[(((j + 1 : Nat) : Int) - 1).toNat]? = some (.sc (.string q)) := by rw [toNat_pred]; exact qg'
        have e := labelAt_succ hg qg
        unfold lt at e
        cases hn : nameOk s <;> rw [hn] at c1 e <;> cases hb : Op.bytesLess q.toList s.toList <;> rw [hb] at e <;> have hb' := congrArg not hb <;> dsimp only [not] at hb'
        · conv => whnf
          repeat' (first | (refine CallN.one c1 ?_) | refine Fork.yp ?_ | refine Need.go ?_ | refine ElemN.go ?_ | refine ExtN.ext ?_ | refine finGo ?_) <;> try (conv => whnf)
          exact no e
        · conv => whnf
          repeat' (first | (refine CallN.one c1 ?_) | refine Fork.yp ?_ | refine Need.go ?_ | refine ElemN.go ?_ | refine ExtN.ext ?_ | refine finGo ?_) <;> try (conv => whnf)
          exact no e
        · conv => whnf
          repeat' (first | (refine CallN.one c1 ?_) | refine Fork.yp ?_ | refine Fork.yb ?_ | refine Need.go ?_ | refine ElemN.go ?_ | refine ExtN.ext ?_ | refine finGo ?_) <;> try (conv => whnf)
          exact no e
        · conv => whnf
          repeat' (first | (refine CallN.one c1 ?_) | refine Fork.yp ?_ | refine Fork.nb ?_ | refine Need.go ?_ | refine ElemN.go ?_ | refine ExtN.ext ?_) <;> try (conv => whnf)
          refine hK (j + 2) _ _ ⟨by omega, stepAll h2 e⟩ (by omega) ?_
          (refine ⟨rfl, ?_, ?_, Sub.refl _⟩ <;> repeat' (first | exact EnvLe.nil | exact LocsLe.nil | refine EnvLe.cons _ _ _ ?_ ?_ | refine LocsLe.cons _ _ _ ?_ ?_ | exact CVle.same _ rfl | exact CVle.vec _ _ | exact CVle.nil | exact CVle.tok _ _ _ rfl rfl | exact ObLe.tok _ _ rfl | exact CVles.nil | refine CVles.cons ?_ ?_ | exact ObLe.same _ rfl rfl | refine ObLe.cells rfl ?_))
    · have hall : ∀ i, i < l.length → labelAt l i = true := fun j hj => h2 j (by omega)
      conv => whnf
      repeat' (first | refine Fork.np ?_ | refine finGo ?_) <;> try (conv => whnf)
      exact ansB (by rw [hh, range_yes hall])
  · (refine ⟨rfl, ?_, ?_, Sub.refl _⟩ <;> repeat' (first | exact EnvLe.nil | exact LocsLe.nil | refine EnvLe.cons _ _ _ ?_ ?_ | refine LocsLe.cons _ _ _ ?_ ?_ | exact CVle.same _ rfl | exact CVle.vec _ _ | exact CVle.nil | exact CVle.tok _ _ _ rfl rfl | exact ObLe.tok _ _ rfl | exact CVles.nil | refine CVles.cons ?_ ?_ | exact ObLe.same _ rfl rfl | refine ObLe.cells rfl ?_))
theorem l2Labels_c {σ : Heap} {l : List ByteArray} (hl : l.length ≤ 1000) (ht : ∀ s ∈ l, s.size ≤ 1000) : CRun Tryz.prog 33 [.vec (strs l)] σ (· = .ret (.sc (.bool (labelsOk l))) σ) := by
  have e3 := strs_len l
  refine crun_of (X := X) X_ok X_sat (body := bodyOf Tryz.f33) Tryz.func33 rfl (by kernel_rfl) (by kernel_rfl) ?_
  rw [Tryz.ntmps33]
  have no : ∀ i, i < l.length → labelAt l i = false → COut.ret (.sc (.bool false)) σ = .ret (.sc (.bool (labelsOk l))) σ := fun i hi h => ansB (by unfold labelsOk; rw [range_no hi h]; simp)
  conv => whnf
  repeat' (first | refine OrdN.one ?_ | refine Fork.yp ?_ | refine Fork.np ?_ | refine Fork.ny ?_ | refine Fork.nn ?_ | refine Fork.yb ?_ | refine Fork.nb ?_ | refine Fork.dp (fun h => ?_) (fun h => ?_) | refine Fork.dn (fun h => ?_) (fun h => ?_) | (refine Fork.mk (fun h => ?_) (fun h => ?_) <;> simp only [decide_eq_true_eq, decide_eq_false_iff_not, Bool.not_eq_true', Bool.not_eq_false', Bool.or_eq_true, Bool.or_eq_false_iff] at h) | refine GetN.go ?_ | refine Need.ap1 ?_ | refine Need.ap0 ?_ | refine Need.go ?_ | refine Need.draw ?_ | refine ElemN.go ?_ | refine ExtN.ext ?_ | refine ExtN.wr ?_ | refine AllocN.go (fun l hl => ?_) | refine finGo ?_) <;> try (conv => whnf)
  refine LoopN.rule (α := Nat) (fun i => ⟨35, [(0, .vec (strs l)), (2, .sc (.bool false)), (3, i64 i)], []⟩)
    (fun _ => σ) (fun i => l.length - i) (fun i => i ≤ l.length ∧ ∀ j, j < i → labelAt l j = true) ?_ 0 ⟨by omega, by omega⟩ ?_
  · rintro i K ⟨h1, h2⟩ hK
    dsimp only at h1 h2 ⊢
    by_cases hi : i < l.length
    · obtain ⟨s, hm, hg, hg'⟩ := strs_at hi
      have c1 := l2Name_c (σ := σ) (t := s) (by have := ht s hm; omega)
      have no := no i hi
      cases i with
      | zero =>
        have e := labelAt_zero hg
        cases hn : nameOk s <;> rw [hn] at c1 e
        · conv => whnf
          repeat' (first | (refine CallN.one c1 ?_) | refine OrdN.go ?_ | refine Fork.yp ?_ | refine Need.go ?_ | refine Need.draw ?_ | refine ElemN.go ?_ | refine ExtN.ext ?_ | refine finGo ?_) <;> try (conv => whnf)
          exact no e
        · conv => whnf
          repeat' (first | (refine CallN.one c1 ?_) | refine OrdN.go ?_ | refine Fork.yp ?_ | refine Fork.np ?_ | refine Need.go ?_ | refine Need.draw ?_ | refine ElemN.go ?_ | refine ExtN.ext ?_) <;> try (conv => whnf)
          refine hK 1 _ _ ⟨by omega, stepAll h2 e⟩ (by omega) ?_
          (refine ⟨rfl, ?_, ?_, Sub.refl _⟩ <;> repeat' (first | exact EnvLe.nil | exact LocsLe.nil | refine EnvLe.cons _ _ _ ?_ ?_ | refine LocsLe.cons _ _ _ ?_ ?_ | exact CVle.same _ rfl | exact CVle.vec _ _ | exact CVle.nil | exact CVle.tok _ _ _ rfl rfl | exact ObLe.tok _ _ rfl | exact CVles.nil | refine CVles.cons ?_ ?_ | exact ObLe.same _ rfl rfl | refine ObLe.cells rfl ?_))
      | succ j =>
        obtain ⟨q, qm, qg, qg'⟩ := strs_at (l := l) (i := j) (by omega)
        have qg2 : (strs l)[(((j + 1 : Nat) : Int) - 1).toNat]? = some (.sc (.string q)) := by rw [toNat_pred]; exact qg'
        have e := labelAt_succ hg qg
        unfold lt at e
        cases hn : nameOk s <;> rw [hn] at c1 e <;> cases hb : Op.bytesLess q.toList s.toList <;> rw [hb] at e <;> have hb' := congrArg not hb <;> dsimp only [not] at hb'
        · conv => whnf
          repeat' (first | (refine CallN.one c1 ?_) | refine OrdN.go ?_ | refine Fork.yp ?_ | refine Need.go ?_ | refine Need.draw ?_ | refine ElemN.go ?_ | refine ExtN.ext ?_ | refine finGo ?_) <;> try (conv => whnf)
          exact no e
        · conv => whnf
          repeat' (first | (refine CallN.one c1 ?_) | refine OrdN.go ?_ | refine Fork.yp ?_ | refine Need.go ?_ | refine Need.draw ?_ | refine ElemN.go ?_ | refine ExtN.ext ?_ | refine finGo ?_) <;> try (conv => whnf)
          exact no e
        · conv => whnf
          repeat' (first | (refine CallN.one c1 ?_) | refine OrdN.go ?_ | refine Fork.yp ?_ | refine Fork.yb ?_ | refine Need.go ?_ | refine Need.draw ?_ | refine ElemN.go ?_ | refine ExtN.ext ?_ | refine finGo ?_) <;> try (conv => whnf)
          exact no e
        · conv => whnf
          repeat' (first | (refine CallN.one c1 ?_) | refine OrdN.go ?_ | refine Fork.yp ?_ | refine Fork.nb ?_ | refine Need.go ?_ | refine Need.draw ?_ | refine ElemN.go ?_ | refine ExtN.ext ?_) <;> try (conv => whnf)
          refine hK (j + 2) _ _ ⟨by omega, stepAll h2 e⟩ (by omega) ?_
          (refine ⟨rfl, ?_, ?_, Sub.refl _⟩ <;> repeat' (first | exact EnvLe.nil | exact LocsLe.nil | refine EnvLe.cons _ _ _ ?_ ?_ | refine LocsLe.cons _ _ _ ?_ ?_ | exact CVle.same _ rfl | exact CVle.vec _ _ | exact CVle.nil | exact CVle.tok _ _ _ rfl rfl | exact ObLe.tok _ _ rfl | exact CVles.nil | refine CVles.cons ?_ ?_ | exact ObLe.same _ rfl rfl | refine ObLe.cells rfl ?_))
    · have hall : ∀ i, i < l.length → labelAt l i = true := fun j hj => h2 j (by omega)
      by_cases h3 : l.length ≤ 3
      · conv => whnf
        repeat' (first | refine Fork.yp ?_ | refine Fork.np ?_ | refine finGo ?_) <;> try (conv => whnf)
        exact ansB (by unfold labelsOk; rw [decide_eq_true h3, range_yes hall]; rfl)
      · conv => whnf
        repeat' (first | refine Fork.np ?_ | refine finGo ?_) <;> try (conv => whnf)
        exact ansB (by unfold labelsOk; rw [decide_eq_false h3]; rfl)
  · (refine ⟨rfl, ?_, ?_, Sub.refl _⟩ <;> repeat' (first | exact EnvLe.nil | exact LocsLe.nil | refine EnvLe.cons _ _ _ ?_ ?_ | refine LocsLe.cons _ _ _ ?_ ?_ | exact CVle.same _ rfl | exact CVle.vec _ _ | exact CVle.nil | exact CVle.tok _ _ _ rfl rfl | exact ObLe.tok _ _ rfl | exact CVles.nil | refine CVles.cons ?_ ?_ | exact ObLe.same _ rfl rfl | refine ObLe.cells rfl ?_))
structure Pr where
  name : ByteArray
  val : Val
def Pr.cv (p : Pr) : CV := match p.val with
  | .mk k n t l => .agg [.sc (.string p.name), i64 k, i64 n, .sc (.string t), .vec (Val.cvs l)]
def prs (l : List Pr) : List CV := l.map Pr.cv
theorem prs_len (l : List Pr) : (prs l).length = l.length := by simp [prs]
theorem prs_at {l : List Pr} {i : Nat} (hi : i < l.length) : ∃ s k n t v, ⟨s, .mk k n t v⟩ ∈ l ∧ l[i]? = some ⟨s, .mk k n t v⟩ ∧ (prs l)[i]? = some (.agg [.sc (.string s), i64 k, i64 n, .sc (.string t), .vec (Val.cvs v)]) := by
  have h := List.getElem_mem hi
  have h2 := List.getElem?_eq_getElem hi
  have h3 : (prs l)[i]? = some (l[i]).cv := by unfold prs; rw [List.getElem?_map, h2]; rfl
  generalize l[i] = p at h h2 h3
  obtain ⟨s, k, n, t, v⟩ := p
  exact ⟨s, k, n, t, v, h, h2, h3⟩
structure PrTame (p : Pr) : Prop where
  name : p.name.size ≤ 1000
  val : Tame p.val
def propOk (p : Pr) : Bool := nameOk p.name && storeV p.val
def propAt (l : List Pr) (i : Nat) : Bool := match l[i]? with
  | some s => propOk s && match i with
    | 0 => true
    | j + 1 => match l[j]? with
      | some q => lt q.name s.name
      | none => true
  | none => true
def propsOk (l : List Pr) : Bool := decide (l.length ≤ 4) && (List.range l.length).all (propAt l)
theorem propAt_zero {l : List Pr} {s : Pr} (hg : l[0]? = some s) : propAt l 0 = propOk s := by unfold propAt; rw [hg]; simp
theorem propAt_succ {l : List Pr} {j : Nat} {q s : Pr} (hg : l[j + 1]? = some s) (qg : l[j]? = some q) : propAt l (j + 1) = (propOk s && lt q.name s.name) := by
  unfold propAt; rw [hg]; simp only [qg]
set_option maxHeartbeats 1000000 in
theorem propsOk_c {σ : Heap} {l : List Pr} (hl : l.length ≤ 1000) (ht : ∀ s ∈ l, PrTame s) : CRun Tryz.prog 29 [.vec (prs l)] σ (· = .ret (.sc (.bool (propsOk l))) σ) := by
  have e3 := prs_len l
  refine crun_of (X := X) X_ok X_sat (body := bodyOf Tryz.f29) Tryz.func29 rfl (by kernel_rfl) (by kernel_rfl) ?_
  rw [Tryz.ntmps29]
  by_cases h3 : l.length ≤ 4
  case neg =>
    conv => whnf
    repeat' (first | refine Fork.yp ?_ | refine finGo ?_) <;> try (conv => whnf)
    exact ansB (by unfold propsOk; rw [decide_eq_false h3]; rfl)
  have no : ∀ i, i < l.length → propAt l i = false → COut.ret (.sc (.bool false)) σ = .ret (.sc (.bool (propsOk l))) σ := fun i hi h => ansB (by unfold propsOk; rw [range_no hi h]; simp)
  conv => whnf
  repeat' (first | refine Fork.np ?_) <;> try (conv => whnf)
  refine LoopN.rule (α := Nat) (fun i => ⟨41, [(0, .vec (prs l)), (2, .sc (.bool false)), (8, .vec (prs l)), (9, i64 (prs l).length), (10, i64 i)], []⟩)
    (fun _ => σ) (fun i => l.length - i) (fun i => i ≤ l.length ∧ ∀ j, j < i → propAt l j = true) ?_ 0 ⟨by omega, by omega⟩ ?_
  · rintro i K ⟨h1, h2⟩ hK
    dsimp only at h1 h2 ⊢
    by_cases hi : i < l.length
    · obtain ⟨s, vk, vn, vt, vl, hm, hg, hg'⟩ := prs_at hi
      have c1 := nameOk_c (σ := σ) (t := s) (by have := (ht _ hm).name; dsimp only at this; omega)
      have c2 := storable_c (σ := σ) (ht _ hm).val
      have no := no i hi
      cases i with
      | zero =>
        have e := propAt_zero hg
        unfold propOk at e
        cases hn : nameOk s <;> rw [hn] at c1 e
        · conv => whnf
          repeat' (first | (refine CallN.one c1 ?_) | refine OrdN.go ?_ | refine Fork.yp ?_ | refine Need.go ?_ | refine Need.draw ?_ | refine ElemN.go ?_ | refine ExtN.ext ?_ | refine finGo ?_) <;> try (conv => whnf)
          exact no e
        cases hv : storeV (.mk vk vn vt vl) <;> rw [hv] at c2 e
        · conv => whnf
          repeat' (first | (refine CallN.one c1 ?_) | (refine CallN.one c2 ?_) | refine OrdN.go ?_ | refine Fork.yp ?_ | refine Need.go ?_ | refine Need.draw ?_ | refine ElemN.go ?_ | refine ExtN.ext ?_ | refine finGo ?_) <;> try (conv => whnf)
          exact no e
        conv => whnf
        repeat' (first | (refine CallN.one c1 ?_) | (refine CallN.one c2 ?_) | refine OrdN.go ?_ | refine Fork.yp ?_ | refine Fork.np ?_ | refine Need.go ?_ | refine Need.draw ?_ | refine ElemN.go ?_ | refine ExtN.ext ?_) <;> try (conv => whnf)
        refine hK 1 _ _ ⟨by omega, stepAll h2 e⟩ (by omega) ?_
        (refine ⟨rfl, ?_, ?_, Sub.refl _⟩ <;> repeat' (first | exact EnvLe.nil | exact LocsLe.nil | refine EnvLe.cons _ _ _ ?_ ?_ | refine LocsLe.cons _ _ _ ?_ ?_ | exact CVle.same _ rfl | exact CVle.vec _ _ | exact CVle.nil | exact CVle.tok _ _ _ rfl rfl | exact ObLe.tok _ _ rfl | exact CVles.nil | refine CVles.cons ?_ ?_ | exact ObLe.same _ rfl rfl | refine ObLe.cells rfl ?_))
      | succ j =>
        obtain ⟨q, qk, qn, qt, ql, qm, qg, qg'⟩ := prs_at (l := l) (i := j) (by omega)
        have qg2 : (prs l)[(((j + 1 : Nat) : Int) - 1).toNat]? = some (.agg [.sc (.string q), i64 qk, i64 qn, .sc (.string qt), .vec (Val.cvs ql)]) := by rw [toNat_pred]; exact qg'
        have e := propAt_succ hg qg
        unfold lt propOk at e
        dsimp only at e
        cases hn : nameOk s <;> rw [hn] at c1 e
        · conv => whnf
          repeat' (first | (refine CallN.one c1 ?_) | refine OrdN.go ?_ | refine Fork.yp ?_ | refine Need.go ?_ | refine Need.draw ?_ | refine ElemN.go ?_ | refine ExtN.ext ?_ | refine finGo ?_) <;> try (conv => whnf)
          exact no e
        cases hv : storeV (.mk vk vn vt vl) <;> rw [hv] at c2 e
        · conv => whnf
          repeat' (first | (refine CallN.one c1 ?_) | (refine CallN.one c2 ?_) | refine OrdN.go ?_ | refine Fork.yp ?_ | refine Need.go ?_ | refine Need.draw ?_ | refine ElemN.go ?_ | refine ExtN.ext ?_ | refine finGo ?_) <;> try (conv => whnf)
          exact no e
        cases hb : Op.bytesLess q.toList s.toList <;> rw [hb] at e <;> have hb' := congrArg not hb <;> dsimp only [not] at hb'
        · conv => whnf
          repeat' (first | (refine CallN.one c1 ?_) | (refine CallN.one c2 ?_) | refine OrdN.go ?_ | refine Fork.yp ?_ | refine Fork.yb ?_ | refine Need.go ?_ | refine Need.draw ?_ | refine ElemN.go ?_ | refine ExtN.ext ?_ | refine finGo ?_) <;> try (conv => whnf)
          exact no e
        conv => whnf
        repeat' (first | (refine CallN.one c1 ?_) | (refine CallN.one c2 ?_) | refine OrdN.go ?_ | refine Fork.yp ?_ | refine Fork.nb ?_ | refine Need.go ?_ | refine Need.draw ?_ | refine ElemN.go ?_ | refine ExtN.ext ?_) <;> try (conv => whnf)
        refine hK (j + 2) _ _ ⟨by omega, stepAll h2 e⟩ (by omega) ?_
        (refine ⟨rfl, ?_, ?_, Sub.refl _⟩ <;> repeat' (first | exact EnvLe.nil | exact LocsLe.nil | refine EnvLe.cons _ _ _ ?_ ?_ | refine LocsLe.cons _ _ _ ?_ ?_ | exact CVle.same _ rfl | exact CVle.vec _ _ | exact CVle.nil | exact CVle.tok _ _ _ rfl rfl | exact ObLe.tok _ _ rfl | exact CVles.nil | refine CVles.cons ?_ ?_ | exact ObLe.same _ rfl rfl | refine ObLe.cells rfl ?_))
    · have hall : ∀ i, i < l.length → propAt l i = true := fun j hj => h2 j (by omega)
      conv => whnf
      repeat' (first | refine Fork.np ?_ | refine finGo ?_) <;> try (conv => whnf)
      exact ansB (by unfold propsOk; rw [decide_eq_true h3, range_yes hall]; rfl)
  · (refine ⟨rfl, ?_, ?_, Sub.refl _⟩ <;> repeat' (first | exact EnvLe.nil | exact LocsLe.nil | refine EnvLe.cons _ _ _ ?_ ?_ | refine LocsLe.cons _ _ _ ?_ ?_ | exact CVle.same _ rfl | exact CVle.vec _ _ | exact CVle.nil | exact CVle.tok _ _ _ rfl rfl | exact ObLe.tok _ _ rfl | exact CVles.nil | refine CVles.cons ?_ ?_ | exact ObLe.same _ rfl rfl | refine ObLe.cells rfl ?_))
set_option maxHeartbeats 1000000 in
theorem l2Props_c {σ : Heap} {l : List Pr} (hl : l.length ≤ 1000) (ht : ∀ s ∈ l, PrTame s) : CRun Tryz.prog 34 [.vec (prs l)] σ (· = .ret (.sc (.bool (propsOk l))) σ) := by
  have e3 := prs_len l
  refine crun_of (X := X) X_ok X_sat (body := bodyOf Tryz.f34) Tryz.func34 rfl (by kernel_rfl) (by kernel_rfl) ?_
  rw [Tryz.ntmps34]
  have no : ∀ i, i < l.length → propAt l i = false → COut.ret (.sc (.bool false)) σ = .ret (.sc (.bool (propsOk l))) σ := fun i hi h => ansB (by unfold propsOk; rw [range_no hi h]; simp)
  conv => whnf
  repeat' (first | refine OrdN.one ?_ | refine Fork.yp ?_ | refine Fork.np ?_ | refine Fork.ny ?_ | refine Fork.nn ?_ | refine Fork.yb ?_ | refine Fork.nb ?_ | refine Fork.dp (fun h => ?_) (fun h => ?_) | refine Fork.dn (fun h => ?_) (fun h => ?_) | (refine Fork.mk (fun h => ?_) (fun h => ?_) <;> simp only [decide_eq_true_eq, decide_eq_false_iff_not, Bool.not_eq_true', Bool.not_eq_false', Bool.or_eq_true, Bool.or_eq_false_iff] at h) | refine GetN.go ?_ | refine Need.ap1 ?_ | refine Need.ap0 ?_ | refine Need.go ?_ | refine Need.draw ?_ | refine ElemN.go ?_ | refine ExtN.ext ?_ | refine ExtN.wr ?_ | refine AllocN.go (fun l hl => ?_) | refine finGo ?_) <;> try (conv => whnf)
  refine LoopN.rule (α := Nat) (fun i => ⟨56, [(0, .vec (prs l)), (2, .sc (.bool false)), (3, i64 i)], []⟩)
    (fun _ => σ) (fun i => l.length - i) (fun i => i ≤ l.length ∧ ∀ j, j < i → propAt l j = true) ?_ 0 ⟨by omega, by omega⟩ ?_
  · rintro i K ⟨h1, h2⟩ hK
    dsimp only at h1 h2 ⊢
    by_cases hi : i < l.length
    · obtain ⟨s, vk, vn, vt, vl, hm, hg, hg'⟩ := prs_at hi
      have c1 := l2Name_c (σ := σ) (t := s) (by have := (ht _ hm).name; dsimp only at this; omega)
      have c2 := specOk_c (σ := σ) (ht _ hm).val
      have c3 := plainV_c (σ := σ) (ht _ hm).val
      have no := no i hi
      cases i with
      | zero =>
        have e := propAt_zero hg
        unfold propOk storeV at e
        cases hn : nameOk s <;> rw [hn] at c1 e
        · conv => whnf
          repeat' (first | (refine CallN.one c1 ?_) | refine OrdN.go ?_ | refine Fork.yp ?_ | refine Need.go ?_ | refine Need.draw ?_ | refine ElemN.go ?_ | refine ExtN.ext ?_ | refine finGo ?_) <;> try (conv => whnf)
          exact no e
        cases hv : okV 3 (.mk vk vn vt vl) <;> rw [hv] at c2 e
        · conv => whnf
          repeat' (first | (refine CallN.one c1 ?_) | (refine CallN.one c2 ?_) | refine OrdN.go ?_ | refine Fork.yp ?_ | refine Need.go ?_ | refine Need.draw ?_ | refine ElemN.go ?_ | refine ExtN.ext ?_ | refine finGo ?_) <;> try (conv => whnf)
          exact no e
        cases hp : plainV (.mk vk vn vt vl) <;> rw [hp] at c3 e
        · conv => whnf
          repeat' (first | (refine CallN.one c1 ?_) | (refine CallN.one c2 ?_) | (refine CallN.one c3 ?_) | refine OrdN.go ?_ | refine Fork.yp ?_ | refine Need.go ?_ | refine Need.draw ?_ | refine ElemN.go ?_ | refine ExtN.ext ?_ | refine finGo ?_) <;> try (conv => whnf)
          exact no e
        conv => whnf
        repeat' (first | (refine CallN.one c1 ?_) | (refine CallN.one c2 ?_) | (refine CallN.one c3 ?_) | refine OrdN.go ?_ | refine Fork.yp ?_ | refine Fork.np ?_ | refine Need.go ?_ | refine Need.draw ?_ | refine ElemN.go ?_ | refine ExtN.ext ?_) <;> try (conv => whnf)
        refine hK 1 _ _ ⟨by omega, stepAll h2 e⟩ (by omega) ?_
        (refine ⟨rfl, ?_, ?_, Sub.refl _⟩ <;> repeat' (first | exact EnvLe.nil | exact LocsLe.nil | refine EnvLe.cons _ _ _ ?_ ?_ | refine LocsLe.cons _ _ _ ?_ ?_ | exact CVle.same _ rfl | exact CVle.vec _ _ | exact CVle.nil | exact CVle.tok _ _ _ rfl rfl | exact ObLe.tok _ _ rfl | exact CVles.nil | refine CVles.cons ?_ ?_ | exact ObLe.same _ rfl rfl | refine ObLe.cells rfl ?_))
      | succ j =>
        obtain ⟨q, qk, qn, qt, ql, qm, qg, qg'⟩ := prs_at (l := l) (i := j) (by omega)
        have qg2 : (prs l)[(((j + 1 : Nat) : Int) - 1).toNat]? = some (.agg [.sc (.string q), i64 qk, i64 qn, .sc (.string qt), .vec (Val.cvs ql)]) := by rw [toNat_pred]; exact qg'
        have e := propAt_succ hg qg
        unfold lt propOk storeV at e
        dsimp only at e
        cases hn : nameOk s <;> rw [hn] at c1 e
        · conv => whnf
          repeat' (first | (refine CallN.one c1 ?_) | refine OrdN.go ?_ | refine Fork.yp ?_ | refine Need.go ?_ | refine Need.draw ?_ | refine ElemN.go ?_ | refine ExtN.ext ?_ | refine finGo ?_) <;> try (conv => whnf)
          exact no e
        cases hv : okV 3 (.mk vk vn vt vl) <;> rw [hv] at c2 e
        · conv => whnf
          repeat' (first | (refine CallN.one c1 ?_) | (refine CallN.one c2 ?_) | refine OrdN.go ?_ | refine Fork.yp ?_ | refine Need.go ?_ | refine Need.draw ?_ | refine ElemN.go ?_ | refine ExtN.ext ?_ | refine finGo ?_) <;> try (conv => whnf)
          exact no e
        cases hp : plainV (.mk vk vn vt vl) <;> rw [hp] at c3 e
        · conv => whnf
          repeat' (first | (refine CallN.one c1 ?_) | (refine CallN.one c2 ?_) | (refine CallN.one c3 ?_) | refine OrdN.go ?_ | refine Fork.yp ?_ | refine Need.go ?_ | refine Need.draw ?_ | refine ElemN.go ?_ | refine ExtN.ext ?_ | refine finGo ?_) <;> try (conv => whnf)
          exact no e
        cases hb : Op.bytesLess q.toList s.toList <;> rw [hb] at e <;> have hb' := congrArg not hb <;> dsimp only [not] at hb'
        · conv => whnf
          repeat' (first | (refine CallN.one c1 ?_) | (refine CallN.one c2 ?_) | (refine CallN.one c3 ?_) | refine OrdN.go ?_ | refine Fork.yp ?_ | refine Fork.yb ?_ | refine Need.go ?_ | refine Need.draw ?_ | refine ElemN.go ?_ | refine ExtN.ext ?_ | refine finGo ?_) <;> try (conv => whnf)
          exact no e
        conv => whnf
        repeat' (first | (refine CallN.one c1 ?_) | (refine CallN.one c2 ?_) | (refine CallN.one c3 ?_) | refine OrdN.go ?_ | refine Fork.yp ?_ | refine Fork.nb ?_ | refine Need.go ?_ | refine Need.draw ?_ | refine ElemN.go ?_ | refine ExtN.ext ?_) <;> try (conv => whnf)
        refine hK (j + 2) _ _ ⟨by omega, stepAll h2 e⟩ (by omega) ?_
        (refine ⟨rfl, ?_, ?_, Sub.refl _⟩ <;> repeat' (first | exact EnvLe.nil | exact LocsLe.nil | refine EnvLe.cons _ _ _ ?_ ?_ | refine LocsLe.cons _ _ _ ?_ ?_ | exact CVle.same _ rfl | exact CVle.vec _ _ | exact CVle.nil | exact CVle.tok _ _ _ rfl rfl | exact ObLe.tok _ _ rfl | exact CVles.nil | refine CVles.cons ?_ ?_ | exact ObLe.same _ rfl rfl | refine ObLe.cells rfl ?_))
    · have hall : ∀ i, i < l.length → propAt l i = true := fun j hj => h2 j (by omega)
      by_cases h3 : l.length ≤ 4
      · conv => whnf
        repeat' (first | refine Fork.yp ?_ | refine Fork.np ?_ | refine finGo ?_) <;> try (conv => whnf)
        exact ansB (by unfold propsOk; rw [decide_eq_true h3, range_yes hall]; rfl)
      · conv => whnf
        repeat' (first | refine Fork.np ?_ | refine finGo ?_) <;> try (conv => whnf)
        exact ansB (by unfold propsOk; rw [decide_eq_false h3]; rfl)
  · (refine ⟨rfl, ?_, ?_, Sub.refl _⟩ <;> repeat' (first | exact EnvLe.nil | exact LocsLe.nil | refine EnvLe.cons _ _ _ ?_ ?_ | refine LocsLe.cons _ _ _ ?_ ?_ | exact CVle.same _ rfl | exact CVle.vec _ _ | exact CVle.nil | exact CVle.tok _ _ _ rfl rfl | exact ObLe.tok _ _ rfl | exact CVles.nil | refine CVles.cons ?_ ?_ | exact ObLe.same _ rfl rfl | refine ObLe.cells rfl ?_))
def arityF (k : Int) : Int := if (1 ≤ k ∧ k ≤ 4) ∨ k = 14 then 0 else if k = 9 ∨ k = 11 ∨ k = 13 ∨ k = 15 then 1 else if (5 ≤ k ∧ k ≤ 8) ∨ k = 10 ∨ k = 12 then 2 else -1
theorem parts_c {σ : Heap} {k : Int} : CRun Tryz.prog 123 [i64 k] σ (· = .ret (i64 (arityF k)) σ) := by
  refine crun_of (X := X) X_ok X_sat (body := bodyOf Tryz.f123) Tryz.func123 rfl (by kernel_rfl) (by kernel_rfl) ?_
  rw [Tryz.ntmps123]
  conv => whnf
  repeat' (first | refine Fork.dp (fun h => ?_) (fun h => ?_) | refine finGo ?_) <;> try (conv => whnf)
  all_goals first
    | exact ansI (by subst_vars; decide)
    | exact ansI (by unfold arityF; repeat' split <;> omega)
def emptyV : Val → Bool
  | .mk k n t l => decide (k = 0 ∧ n = 0 ∧ t = ⟨#[]⟩ ∧ l.length = 0)
theorem empty_c {σ : Heap} {v : Val} (hv : Tame v) : CRun Tryz.prog 124 [v.cv] σ (· = .ret (.sc (.bool (emptyV v))) σ) := by
  obtain ⟨k, n, t, l⟩ := v
  obtain ⟨_, _, _, hl, _⟩ := hv.inv
  have e3 := cvs_length l
  have no : ¬ (k = 0 ∧ n = 0 ∧ t = ⟨#[]⟩ ∧ l.length = 0) → emptyV (.mk k n t l) = false := fun h => decide_eq_false h
  by_cases a1 : k = 0
  case neg =>
    refine crun_of (X := X) X_ok X_sat (body := bodyOf Tryz.f124) Tryz.func124 rfl (by kernel_rfl) (by kernel_rfl) ?_
    rw [Tryz.ntmps124]
    conv => whnf
    repeat' (first | refine Fork.np ?_ | refine finGo ?_) <;> try (conv => whnf)
    exact ansB (no (by omega))
  by_cases a2 : n = 0
  case neg =>
    refine crun_of (X := X) X_ok X_sat (body := bodyOf Tryz.f124) Tryz.func124 rfl (by kernel_rfl) (by kernel_rfl) ?_
    rw [Tryz.ntmps124]
    conv => whnf
    repeat' (first | refine Fork.yp ?_ | refine Fork.np ?_ | refine finGo ?_) <;> try (conv => whnf)
    exact ansB (no (by omega))
  by_cases a3 : t = ⟨#[]⟩
  case neg =>
    refine crun_of (X := X) X_ok X_sat (body := bodyOf Tryz.f124) Tryz.func124 rfl (by kernel_rfl) (by kernel_rfl) ?_
    rw [Tryz.ntmps124]
    conv => whnf
    repeat' (first | refine Fork.yp ?_ | refine Fork.np ?_ | refine finGo ?_) <;> try (conv => whnf)
    exact ansB (no (fun h => a3 h.2.2.1))
  refine crun_of (X := X) X_ok X_sat (body := bodyOf Tryz.f124) Tryz.func124 rfl (by kernel_rfl) (by kernel_rfl) ?_
  rw [Tryz.ntmps124]
  conv => whnf
  repeat' (first | refine Fork.yp ?_ | refine Fork.dp (fun h => ?_) (fun h => ?_) | refine finGo ?_) <;> try (conv => whnf)
  · exact ansB (decide_eq_true ⟨a1, a2, a3, by omega⟩)
  · exact ansB (no (by omega))
mutual
def litV : Val → Bool
  | .mk k n t l => litL l && decide (k ≤ 4)
def litL : List Val → Bool
  | [] => true
  | v :: r => litV v && litL r
end
mutual
theorem lit_of : ∀ (v : Val) {d : Int}, okV d v = true → litV v = (!hasV 5 v && !hasV 6 v)
  | .mk k n t l, d, h => by
    have hl : litL l = (!hasL 5 l && !hasL 6 l) := by
      by_cases h4 : k = 4
      · subst h4
        exact litL_of l (okV_list h)
      · by_cases h3 : k = 3
        · subst h3
          rw [(okV_text h).2]; rfl
        · rw [(okV_num h h3 h4).2]; rfl
    rcases okV_kind h with ⟨h, _⟩ | h | h | h | h | h | h <;> subst h <;> simp [litV, hasV, hl]
theorem litL_of : ∀ (l : List Val) {d : Int}, (∀ v ∈ l, okV d v = true) → litL l = (!hasL 5 l && !hasL 6 l)
  | [], _, _ => rfl
  | v :: r, d, h => by
    have h1 := lit_of v (h v (by simp))
    have h2 := litL_of r fun v hv => h v (by simp [hv])
    simp only [litL, hasL, h1, h2]
    cases hasV 5 v <;> cases hasV 6 v <;> simp
end
inductive T3 where
  | no | unk | yes
def T3.of : Bool → T3
  | true => .yes
  | false => .no
def T3.v : T3 → Val
  | .no => .mk 1 0 ⟨#[]⟩ []
  | .unk => .mk 0 0 ⟨#[]⟩ []
  | .yes => .mk 1 1 ⟨#[]⟩ []
def comb : Bool → T3 → T3
  | true, x => x
  | false, .no => .no
  | false, _ => .unk
mutual
def eq3 : Val → Val → T3
  | .mk k n t l, .mk k' n' t' l' => if k = 0 ∨ k' = 0 then .unk else if k ≠ 4 ∨ k' ≠ 4 then T3.of (sameV (.mk k n t l) (.mk k' n' t' l')) else if l.length ≠ l'.length then .no else eqL l l'
def eqL : List Val → List Val → T3
  | v :: r, w :: s => match eq3 v w with
    | .no => .no
    | .unk => comb false (eqL r s)
    | .yes => eqL r s
  | _, _ => .yes
end
inductive Rs where
  | ok (v : Val)
  | err (c : Int)
def outI (σ : Heap) : Rs → COut
  | .ok v => .ret v.cv σ
  | .err c => .pan (.iface 120 (i64 c)) σ
def t3 : Val → Option T3
  | .mk k n _ _ => if k = 0 then some .unk else if k = 1 then some (if n = 0 then .no else .yes) else none
def not3 : T3 → T3
  | .no => .yes
  | .unk => .unk
  | .yes => .no
def and3 : T3 → T3 → T3
  | .no, _ => .no
  | _, .no => .no
  | .unk, _ => .unk
  | _, .unk => .unk
  | .yes, .yes => .yes
def notR (v : Val) : Rs := match t3 v with
  | some t => .ok (not3 t).v
  | none => .err 1
def and2R (v w : Val) : Rs := match t3 v, t3 w with
  | some t, some u => .ok (and3 t u).v
  | _, _ => .err 1
def or2R (v w : Val) : Rs := match t3 v, t3 w with
  | some t, some u => .ok (not3 (and3 (not3 t) (not3 u))).v
  | _, _ => .err 1
def isKind : Val → Int
  | .mk k _ _ _ => k
def nullR (v : Val) : Rs := .ok (T3.of (decide (isKind v = 0))).v
def numV (n : Int) : Val := .mk 2 n ⟨#[]⟩ []
def sizeR : Val → Rs
  | .mk k n t l => if k = 0 then .ok nullV else if k = 4 then .ok (numV l.length) else if k = 3 then .ok (numV t.size) else .err 1
def in3 (a : Val) : List Val → T3
  | [] => .no
  | v :: r => match eq3 a v with
    | .yes => .yes
    | .unk => (match in3 a r with | .yes => .yes | _ => .unk)
    | .no => in3 a r
def memR (a : Val) : Val → Rs
  | .mk k n t l => if k = 0 then .ok nullV else if k = 4 then .ok (in3 a l).v else .err 1
def oneR (kind : Int) (v : Val) : Rs := if kind = 11 then nullR v else if kind = 9 then notR v else sizeR v
structure Nd where
  id : Int
  labels : List ByteArray
  props : List Pr
structure Ed where
  id : Int
  kind : ByteArray
  src : Int
  dst : Int
  props : List Pr
structure Gr where
  nodes : List Nd
  edges : List Ed
  nn : Int
  ne : Int
def Nd.cv (n : Nd) : CV := .agg [i64 n.id, .vec (strs n.labels), .vec (prs n.props)]
def Ed.cv (e : Ed) : CV := .agg [i64 e.id, .sc (.string e.kind), i64 e.src, i64 e.dst, .vec (prs e.props)]
def nds (l : List Nd) : List CV := l.map Nd.cv
def eds (l : List Ed) : List CV := l.map Ed.cv
def Gr.cv (g : Gr) : CV := .agg [.vec (nds g.nodes), .vec (eds g.edges), i64 g.nn, i64 g.ne]
structure NdTame (n : Nd) : Prop where
  ll : n.labels.length ≤ 1000
  ls : ∀ s ∈ n.labels, s.size ≤ 1000
  pl : n.props.length ≤ 1000
  ps : ∀ p ∈ n.props, PrTame p
structure EdTame (n : Ed) : Prop where
  kind : n.kind.size ≤ 1000
  pl : n.props.length ≤ 1000
  ps : ∀ p ∈ n.props, PrTame p
structure GrTame (g : Gr) : Prop where
  nl : g.nodes.length ≤ 1000
  el : g.edges.length ≤ 1000
  nn : -2000000000 ≤ g.nn ∧ g.nn ≤ 2000000000
  ne : -2000000000 ≤ g.ne ∧ g.ne ≤ 2000000000
  ns : ∀ n ∈ g.nodes, NdTame n
  es : ∀ e ∈ g.edges, EdTame e
def idAt (ids : List Int) (e : Int) (i : Nat) : Bool := match ids[i]? with
  | some x => decide (0 ≤ x ∧ x ≤ e - 1) && match i with
    | 0 => true
    | j + 1 => match ids[j]? with
      | some y => decide (y < x)
      | none => true
  | none => true
def ascOk (ids : List Int) (e : Int) : Bool := (List.range ids.length).all (idAt ids e)
theorem idAt_zero {ids : List Int} {e x : Int} (h : ids[0]? = some x) : idAt ids e 0 = decide (0 ≤ x ∧ x ≤ e - 1) := by unfold idAt; rw [h]; simp
theorem idAt_succ {ids : List Int} {e x y : Int} {j : Nat} (h : ids[j + 1]? = some x) (k : ids[j]? = some y) : idAt ids e (j + 1) = (decide (0 ≤ x ∧ x ≤ e - 1) && decide (y < x)) := by
  unfold idAt; rw [h]; simp only [k]
def placeF : List Int → Int → Nat → Int
  | [], _, _ => -1
  | x :: r, d, k => if x = d then k else placeF r d (k + 1)
theorem drop_cons {α : Type} {l : List α} {i : Nat} {x : α} (h : l[i]? = some x) : l.drop i = x :: l.drop (i + 1) := by
  obtain ⟨hi, e⟩ := List.getElem?_eq_some_iff.1 h
  rw [← e]; exact List.drop_eq_getElem_cons hi
theorem place_hit {ids : List Int} {d : Int} {i : Nat} (h : ids[i]? = some d) : placeF (ids.drop i) d i = i := by rw [drop_cons h]; simp [placeF]
theorem place_miss {ids : List Int} {d x : Int} {i : Nat} (h : ids[i]? = some x) (hx : ¬ x = d) : placeF (ids.drop i) d i = placeF (ids.drop (i + 1)) d (i + 1) := by rw [drop_cons h]; simp [placeF, hx]
theorem place_end {ids : List Int} {d : Int} {i : Nat} (h : ids.length ≤ i) : placeF (ids.drop i) d i = -1 := by rw [List.drop_eq_nil_of_le h]; rfl
def nids (l : List Nd) : List Int := l.map Nd.id
theorem nids_len (l : List Nd) : (nids l).length = l.length := by simp [nids]
theorem nds_len (l : List Nd) : (nds l).length = l.length := by simp [nds]
theorem nds_at {l : List Nd} {i : Nat} (hi : i < l.length) : ∃ d ls ps, (⟨d, ls, ps⟩ : Nd) ∈ l ∧ l[i]? = some (⟨d, ls, ps⟩ : Nd) ∧ (nds l)[i]? = some (.agg [i64 d, .vec (strs ls), .vec (prs ps)]) ∧ (nids l)[i]? = some d := by
  have h := List.getElem_mem hi
  have h2 := List.getElem?_eq_getElem hi
  have h3 : (nds l)[i]? = some (l[i]).cv := by unfold nds; rw [List.getElem?_map, h2]; rfl
  have h4 : (nids l)[i]? = some (l[i]).id := by unfold nids; rw [List.getElem?_map, h2]; rfl
  generalize l[i] = p at h h2 h3 h4
  obtain ⟨d, ls, ps⟩ := p
  exact ⟨d, ls, ps, h, h2, h3, h4⟩
theorem nid_c {σ : Heap} {d : Int} {ls : List ByteArray} {ps : List Pr} : CRun Tryz.prog 62 [(.agg [i64 d, .vec (strs ls), .vec (prs ps)])] σ (· = .ret (i64 d) σ) := by
  refine crun_of (X := X) X_ok X_sat (body := bodyOf Tryz.f62) Tryz.func62 rfl (by kernel_rfl) (by kernel_rfl) ?_
  rw [Tryz.ntmps62]
  conv => whnf
  repeat' (first | refine finGo ?_) <;> try (conv => whnf)
  all_goals rfl
theorem nidof_c {σ : Heap} {ns es : List CV} {a b : Int} : CRun Tryz.prog 24 [.agg [.vec ns, .vec es, i64 a, i64 b]] σ (· = .ret (.agg [.vec ns, .fn (.func 62) [] []]) σ) := by
  refine crun_of (X := X) X_ok X_sat (body := bodyOf Tryz.f24) Tryz.func24 rfl (by kernel_rfl) (by kernel_rfl) ?_
  rw [Tryz.ntmps24]
  conv => whnf
  repeat' (first | refine finGo ?_) <;> try (conv => whnf)
  all_goals rfl
theorem nasc_c {σ : Heap} {l : List Nd} {e : Int} (hl : l.length ≤ 1000) (he : -2000000000 ≤ e ∧ e ≤ 2000000000) : CRun Tryz.prog 25 [.agg [.vec (nds l), .fn (.func 62) [] []], i64 e] σ (· = .ret (.sc (.bool (ascOk (nids l) e))) σ) := by
  have e3 := nds_len l
  have e4 := nids_len l
  refine crun_of (X := X) X_ok X_sat (body := bodyOf Tryz.f25) Tryz.func25 rfl (by kernel_rfl) (by kernel_rfl) ?_
  rw [Tryz.ntmps25]
  have no : ∀ i, i < l.length → idAt (nids l) e i = false → COut.ret (.sc (.bool false)) σ = .ret (.sc (.bool (ascOk (nids l) e))) σ := fun i hi h => ansB (by unfold ascOk; rw [range_no (i := i) (by omega) h])
  conv => whnf
  repeat' (first | refine OrdN.one ?_ | refine Fork.yp ?_ | refine Fork.np ?_ | refine Fork.ny ?_ | refine Fork.nn ?_ | refine Fork.yb ?_ | refine Fork.nb ?_ | refine Fork.dp (fun h => ?_) (fun h => ?_) | refine Fork.dn (fun h => ?_) (fun h => ?_) | (refine Fork.mk (fun h => ?_) (fun h => ?_) <;> simp only [decide_eq_true_eq, decide_eq_false_iff_not, Bool.not_eq_true', Bool.not_eq_false', Bool.or_eq_true, Bool.or_eq_false_iff] at h) | refine GetN.go ?_ | refine Need.ap1 ?_ | refine Need.ap0 ?_ | refine Need.go ?_ | refine Need.draw ?_ | refine ElemN.go ?_ | refine ExtN.ext ?_ | refine ExtN.wr ?_ | refine AllocN.go (fun l hl => ?_) | refine finGo ?_) <;> try (conv => whnf)
  refine LoopN.rule (α := Nat × Int) (fun s => ⟨30, [(1, i64 e), (2, .ptr (.f 2) 0), (4, .sc (.bool false)), (5, i64 s.2), (10, .vec (nds l)), (11, i64 (nds l).length), (12, i64 s.1)], [(2, .cells [.vec (nds l), .fn (.func 62) [] []])]⟩)
    (fun _ => σ) (fun s => l.length - s.1) (fun s => s.1 ≤ l.length ∧ (∀ j, j < s.1 → idAt (nids l) e j = true) ∧ -1 ≤ s.2 ∧ (s.1 = 0 → s.2 = -1) ∧ ∀ j, s.1 = j + 1 → (nids l)[j]? = some s.2) ?_ (0, -1) ⟨by omega, by omega, by omega, by omega, by omega⟩ ?_
  · rintro ⟨i, last⟩ K ⟨h1, h2, h3, h4, h5⟩ hK
    dsimp only at h1 h2 h3 h4 h5 ⊢
    by_cases hi : i < l.length
    · obtain ⟨d, ls, ps, hm, hg, hg', hd⟩ := nds_at hi
      have no := no i hi
      have c1 := @nid_c σ d ls ps
      have hlast : ∀ j, i + 1 = j + 1 → (nids l)[j]? = some d := fun j hj => by
        have e : j = i := by omega
        rw [e]; exact hd
      have key : idAt (nids l) e i = (decide (last < d ∧ d < e)) := by
        cases i with
        | zero => rw [idAt_zero hd]; have := h4 rfl; exact decide_eq_decide.2 (by omega)
        | succ j => rw [idAt_succ hd (h5 j rfl), ← Bool.decide_and]; exact decide_eq_decide.2 (by omega)
      by_cases hk : last < d ∧ d < e
      · rw [decide_eq_true hk] at key
        conv => whnf
        repeat' (first | (refine CallN.one c1 ?_) | refine Fork.yp ?_ | refine Fork.np ?_ | refine Need.go ?_ | refine ElemN.go ?_ | refine ExtN.ext ?_) <;> try (conv => whnf)
        refine hK (i + 1, d) _ _ ⟨by dsimp only; omega, stepAll h2 key, by dsimp only; omega, by dsimp only; omega, hlast⟩ (by dsimp only; omega) ?_
        (refine ⟨rfl, ?_, ?_, Sub.refl _⟩ <;> repeat' (first | exact EnvLe.nil | exact LocsLe.nil | refine EnvLe.cons _ _ _ ?_ ?_ | refine LocsLe.cons _ _ _ ?_ ?_ | exact CVle.same _ rfl | exact CVle.vec _ _ | exact CVle.nil | exact CVle.tok _ _ _ rfl rfl | exact ObLe.tok _ _ rfl | exact CVles.nil | refine CVles.cons ?_ ?_ | exact ObLe.same _ rfl rfl | refine ObLe.cells rfl ?_))
      · rw [decide_eq_false hk] at key
        conv => whnf
        repeat' (first | (refine CallN.one c1 ?_) | refine Fork.yp ?_ | refine Fork.dp (fun h => ?_) (fun h => ?_) | refine Need.go ?_ | refine ElemN.go ?_ | refine ExtN.ext ?_ | refine finGo ?_) <;> try (conv => whnf)
        all_goals exact no key
    · have hall : ∀ i, i < (nids l).length → idAt (nids l) e i = true := fun j hj => h2 j (by omega)
      conv => whnf
      repeat' (first | refine Fork.np ?_ | refine finGo ?_) <;> try (conv => whnf)
      exact ansB (by unfold ascOk; rw [range_yes hall])
  · (refine ⟨rfl, ?_, ?_, Sub.refl _⟩ <;> repeat' (first | exact EnvLe.nil | exact LocsLe.nil | refine EnvLe.cons _ _ _ ?_ ?_ | refine LocsLe.cons _ _ _ ?_ ?_ | exact CVle.same _ rfl | exact CVle.vec _ _ | exact CVle.nil | exact CVle.tok _ _ _ rfl rfl | exact ObLe.tok _ _ rfl | exact CVles.nil | refine CVles.cons ?_ ?_ | exact ObLe.same _ rfl rfl | refine ObLe.cells rfl ?_))
theorem nplace_c {σ : Heap} {l : List Nd} {d' : Int} (hl : l.length ≤ 1000) : CRun Tryz.prog 31 [.agg [.vec (nds l), .fn (.func 62) [] []], i64 d'] σ (· = .ret (i64 (placeF (nids l) d' 0)) σ) := by
  have e3 := nds_len l
  have e4 := nids_len l
  refine crun_of (X := X) X_ok X_sat (body := bodyOf Tryz.f31) Tryz.func31 rfl (by kernel_rfl) (by kernel_rfl) ?_
  rw [Tryz.ntmps31]
  conv => whnf
  repeat' (first | refine OrdN.one ?_ | refine Fork.yp ?_ | refine Fork.np ?_ | refine Fork.ny ?_ | refine Fork.nn ?_ | refine Fork.yb ?_ | refine Fork.nb ?_ | refine Fork.dp (fun h => ?_) (fun h => ?_) | refine Fork.dn (fun h => ?_) (fun h => ?_) | (refine Fork.mk (fun h => ?_) (fun h => ?_) <;> simp only [decide_eq_true_eq, decide_eq_false_iff_not, Bool.not_eq_true', Bool.not_eq_false', Bool.or_eq_true, Bool.or_eq_false_iff] at h) | refine GetN.go ?_ | refine Need.ap1 ?_ | refine Need.ap0 ?_ | refine Need.go ?_ | refine Need.draw ?_ | refine ElemN.go ?_ | refine ExtN.ext ?_ | refine ExtN.wr ?_ | refine AllocN.go (fun l hl => ?_) | refine finGo ?_) <;> try (conv => whnf)
  refine LoopN.rule (α := Nat) (fun i => ⟨23, [(1, i64 d'), (2, .ptr (.f 2) 0), (8, .vec (nds l)), (9, i64 (nds l).length), (10, i64 i)], [(2, .cells [.vec (nds l), .fn (.func 62) [] []])]⟩)
    (fun _ => σ) (fun i => l.length - i) (fun i => i ≤ l.length ∧ placeF (nids l) d' 0 = placeF ((nids l).drop i) d' i) ?_ 0 ⟨by omega, rfl⟩ ?_
  · rintro i K ⟨h1, h2⟩ hK
    dsimp only at h1 h2 ⊢
    by_cases hi : i < l.length
    · obtain ⟨d, ls, ps, hm, hg, hg', hd⟩ := nds_at hi
      have c1 := @nid_c σ d ls ps
      by_cases hk : d = d'
      · conv => whnf
        repeat' (first | (refine CallN.one c1 ?_) | refine Fork.yp ?_ | refine Need.go ?_ | refine ElemN.go ?_ | refine ExtN.ext ?_ | refine finGo ?_) <;> try (conv => whnf)
        exact ansI (by rw [h2]; subst hk; exact place_hit hd)
      · conv => whnf
        repeat' (first | (refine CallN.one c1 ?_) | refine Fork.yp ?_ | refine Fork.np ?_ | refine Need.go ?_ | refine ElemN.go ?_ | refine ExtN.ext ?_) <;> try (conv => whnf)
        refine hK (i + 1) _ _ ⟨by omega, by rw [h2]; exact place_miss hd hk⟩ (by omega) ?_
        (refine ⟨rfl, ?_, ?_, Sub.refl _⟩ <;> repeat' (first | exact EnvLe.nil | exact LocsLe.nil | refine EnvLe.cons _ _ _ ?_ ?_ | refine LocsLe.cons _ _ _ ?_ ?_ | exact CVle.same _ rfl | exact CVle.vec _ _ | exact CVle.nil | exact CVle.tok _ _ _ rfl rfl | exact ObLe.tok _ _ rfl | exact CVles.nil | refine CVles.cons ?_ ?_ | exact ObLe.same _ rfl rfl | refine ObLe.cells rfl ?_))
    · conv => whnf
      repeat' (first | refine Fork.np ?_ | refine finGo ?_) <;> try (conv => whnf)
      exact ansI (by rw [h2]; exact place_end (by omega))
  · (refine ⟨rfl, ?_, ?_, Sub.refl _⟩ <;> repeat' (first | exact EnvLe.nil | exact LocsLe.nil | refine EnvLe.cons _ _ _ ?_ ?_ | refine LocsLe.cons _ _ _ ?_ ?_ | exact CVle.same _ rfl | exact CVle.vec _ _ | exact CVle.nil | exact CVle.tok _ _ _ rfl rfl | exact ObLe.tok _ _ rfl | exact CVles.nil | refine CVles.cons ?_ ?_ | exact ObLe.same _ rfl rfl | refine ObLe.cells rfl ?_))
theorem nl2_c {σ : Heap} {g : Gr} {d' : Int} (hl : g.nodes.length ≤ 1000) : CRun Tryz.prog 36 [.agg [.vec (nds g.nodes), .vec (eds g.edges), i64 g.nn, i64 g.ne], i64 d'] σ (· = .ret (i64 (placeF (nids g.nodes) d' 0)) σ) := by
  have e3 := nds_len g.nodes
  have e4 := nids_len g.nodes
  refine crun_of (X := X) X_ok X_sat (body := bodyOf Tryz.f36) Tryz.func36 rfl (by kernel_rfl) (by kernel_rfl) ?_
  rw [Tryz.ntmps36]
  conv => whnf
  repeat' (first | refine OrdN.one ?_ | refine Fork.yp ?_ | refine Fork.np ?_ | refine Fork.ny ?_ | refine Fork.nn ?_ | refine Fork.yb ?_ | refine Fork.nb ?_ | refine Fork.dp (fun h => ?_) (fun h => ?_) | refine Fork.dn (fun h => ?_) (fun h => ?_) | (refine Fork.mk (fun h => ?_) (fun h => ?_) <;> simp only [decide_eq_true_eq, decide_eq_false_iff_not, Bool.not_eq_true', Bool.not_eq_false', Bool.or_eq_true, Bool.or_eq_false_iff] at h) | refine GetN.go ?_ | refine Need.ap1 ?_ | refine Need.ap0 ?_ | refine Need.go ?_ | refine Need.draw ?_ | refine ElemN.go ?_ | refine ExtN.ext ?_ | refine ExtN.wr ?_ | refine AllocN.go (fun l hl => ?_) | refine finGo ?_) <;> try (conv => whnf)
  refine LoopN.rule (α := Nat) (fun i => ⟨22, [(1, i64 d'), (2, .ptr (.f 2) 0), (5, i64 i)], [(2, .cells [.vec (nds g.nodes), .vec (eds g.edges), i64 g.nn, i64 g.ne])]⟩)
    (fun _ => σ) (fun i => g.nodes.length - i) (fun i => i ≤ g.nodes.length ∧ placeF (nids g.nodes) d' 0 = placeF ((nids g.nodes).drop i) d' i) ?_ 0 ⟨by omega, rfl⟩ ?_
  · rintro i K ⟨h1, h2⟩ hK
    dsimp only at h1 h2 ⊢
    by_cases hi : i < g.nodes.length
    · obtain ⟨d, ls, ps, hm, hg, hg', hd⟩ := nds_at hi
      by_cases hk : d = d'
      · conv => whnf
        repeat' (first | refine Fork.yp ?_ | refine Need.go ?_ | refine ElemN.go ?_ | refine finGo ?_) <;> try (conv => whnf)
        exact ansI (by rw [h2]; subst hk; exact place_hit hd)
      · conv => whnf
        repeat' (first | refine Fork.yp ?_ | refine Fork.np ?_ | refine Need.go ?_ | refine ElemN.go ?_) <;> try (conv => whnf)
        refine hK (i + 1) _ _ ⟨by omega, by rw [h2]; exact place_miss hd hk⟩ (by omega) ?_
        (refine ⟨rfl, ?_, ?_, Sub.refl _⟩ <;> repeat' (first | exact EnvLe.nil | exact LocsLe.nil | refine EnvLe.cons _ _ _ ?_ ?_ | refine LocsLe.cons _ _ _ ?_ ?_ | exact CVle.same _ rfl | exact CVle.vec _ _ | exact CVle.nil | exact CVle.tok _ _ _ rfl rfl | exact ObLe.tok _ _ rfl | exact CVles.nil | refine CVles.cons ?_ ?_ | exact ObLe.same _ rfl rfl | refine ObLe.cells rfl ?_))
    · conv => whnf
      repeat' (first | refine Fork.np ?_ | refine finGo ?_) <;> try (conv => whnf)
      exact ansI (by rw [h2]; exact place_end (by omega))
  · (refine ⟨rfl, ?_, ?_, Sub.refl _⟩ <;> repeat' (first | exact EnvLe.nil | exact LocsLe.nil | refine EnvLe.cons _ _ _ ?_ ?_ | refine LocsLe.cons _ _ _ ?_ ?_ | exact CVle.same _ rfl | exact CVle.vec _ _ | exact CVle.nil | exact CVle.tok _ _ _ rfl rfl | exact ObLe.tok _ _ rfl | exact CVles.nil | refine CVles.cons ?_ ?_ | exact ObLe.same _ rfl rfl | refine ObLe.cells rfl ?_))
def eids (l : List Ed) : List Int := l.map Ed.id
theorem eids_len (l : List Ed) : (eids l).length = l.length := by simp [eids]
theorem eds_len (l : List Ed) : (eds l).length = l.length := by simp [eds]
theorem eds_at {l : List Ed} {i : Nat} (hi : i < l.length) : ∃ d k a b ps, (⟨d, k, a, b, ps⟩ : Ed) ∈ l ∧ l[i]? = some (⟨d, k, a, b, ps⟩ : Ed) ∧ (eds l)[i]? = some (.agg [i64 d, .sc (.string k), i64 a, i64 b, .vec (prs ps)]) ∧ (eids l)[i]? = some d := by
  have h := List.getElem_mem hi
  have h2 := List.getElem?_eq_getElem hi
  have h3 : (eds l)[i]? = some (l[i]).cv := by unfold eds; rw [List.getElem?_map, h2]; rfl
  have h4 : (eids l)[i]? = some (l[i]).id := by unfold eids; rw [List.getElem?_map, h2]; rfl
  generalize l[i] = p at h h2 h3 h4
  obtain ⟨d, k, a, b, ps⟩ := p
  exact ⟨d, k, a, b, ps, h, h2, h3, h4⟩
theorem eid_c {σ : Heap} {d : Int} {k : ByteArray} {a b : Int} {ps : List Pr} : CRun Tryz.prog 63 [(.agg [i64 d, .sc (.string k), i64 a, i64 b, .vec (prs ps)])] σ (· = .ret (i64 d) σ) := by
  refine crun_of (X := X) X_ok X_sat (body := bodyOf Tryz.f63) Tryz.func63 rfl (by kernel_rfl) (by kernel_rfl) ?_
  rw [Tryz.ntmps63]
  conv => whnf
  repeat' (first | refine finGo ?_) <;> try (conv => whnf)
  all_goals rfl
theorem eidof_c {σ : Heap} {ns es : List CV} {a b : Int} : CRun Tryz.prog 26 [.agg [.vec ns, .vec es, i64 a, i64 b]] σ (· = .ret (.agg [.vec es, .fn (.func 63) [] []]) σ) := by
  refine crun_of (X := X) X_ok X_sat (body := bodyOf Tryz.f26) Tryz.func26 rfl (by kernel_rfl) (by kernel_rfl) ?_
  rw [Tryz.ntmps26]
  conv => whnf
  repeat' (first | refine finGo ?_) <;> try (conv => whnf)
  all_goals rfl
theorem easc_c {σ : Heap} {l : List Ed} {e : Int} (hl : l.length ≤ 1000) (he : -2000000000 ≤ e ∧ e ≤ 2000000000) : CRun Tryz.prog 27 [.agg [.vec (eds l), .fn (.func 63) [] []], i64 e] σ (· = .ret (.sc (.bool (ascOk (eids l) e))) σ) := by
  have e3 := eds_len l
  have e4 := eids_len l
  refine crun_of (X := X) X_ok X_sat (body := bodyOf Tryz.f27) Tryz.func27 rfl (by kernel_rfl) (by kernel_rfl) ?_
  rw [Tryz.ntmps27]
  have no : ∀ i, i < l.length → idAt (eids l) e i = false → COut.ret (.sc (.bool false)) σ = .ret (.sc (.bool (ascOk (eids l) e))) σ := fun i hi h => ansB (by unfold ascOk; rw [range_no (i := i) (by omega) h])
  conv => whnf
  repeat' (first | refine OrdN.one ?_ | refine Fork.yp ?_ | refine Fork.np ?_ | refine Fork.ny ?_ | refine Fork.nn ?_ | refine Fork.yb ?_ | refine Fork.nb ?_ | refine Fork.dp (fun h => ?_) (fun h => ?_) | refine Fork.dn (fun h => ?_) (fun h => ?_) | (refine Fork.mk (fun h => ?_) (fun h => ?_) <;> simp only [decide_eq_true_eq, decide_eq_false_iff_not, Bool.not_eq_true', Bool.not_eq_false', Bool.or_eq_true, Bool.or_eq_false_iff] at h) | refine GetN.go ?_ | refine Need.ap1 ?_ | refine Need.ap0 ?_ | refine Need.go ?_ | refine Need.draw ?_ | refine ElemN.go ?_ | refine ExtN.ext ?_ | refine ExtN.wr ?_ | refine AllocN.go (fun l hl => ?_) | refine finGo ?_) <;> try (conv => whnf)
  refine LoopN.rule (α := Nat × Int) (fun s => ⟨30, [(1, i64 e), (2, .ptr (.f 2) 0), (4, .sc (.bool false)), (5, i64 s.2), (10, .vec (eds l)), (11, i64 (eds l).length), (12, i64 s.1)], [(2, .cells [.vec (eds l), .fn (.func 63) [] []])]⟩)
    (fun _ => σ) (fun s => l.length - s.1) (fun s => s.1 ≤ l.length ∧ (∀ j, j < s.1 → idAt (eids l) e j = true) ∧ -1 ≤ s.2 ∧ (s.1 = 0 → s.2 = -1) ∧ ∀ j, s.1 = j + 1 → (eids l)[j]? = some s.2) ?_ (0, -1) ⟨by omega, by omega, by omega, by omega, by omega⟩ ?_
  · rintro ⟨i, last⟩ K ⟨h1, h2, h3, h4, h5⟩ hK
    dsimp only at h1 h2 h3 h4 h5 ⊢
    by_cases hi : i < l.length
    · obtain ⟨d, k, a, b, ps, hm, hg, hg', hd⟩ := eds_at hi
      have no := no i hi
      have c1 := @eid_c σ d k a b ps
      have hlast : ∀ j, i + 1 = j + 1 → (eids l)[j]? = some d := fun j hj => by
        have e : j = i := by omega
        rw [e]; exact hd
      have key : idAt (eids l) e i = (decide (last < d ∧ d < e)) := by
        cases i with
        | zero => rw [idAt_zero hd]; have := h4 rfl; exact decide_eq_decide.2 (by omega)
        | succ j => rw [idAt_succ hd (h5 j rfl), ← Bool.decide_and]; exact decide_eq_decide.2 (by omega)
      by_cases hk : last < d ∧ d < e
      · rw [decide_eq_true hk] at key
        conv => whnf
        repeat' (first | (refine CallN.one c1 ?_) | refine Fork.yp ?_ | refine Fork.np ?_ | refine Need.go ?_ | refine ElemN.go ?_ | refine ExtN.ext ?_) <;> try (conv => whnf)
        refine hK (i + 1, d) _ _ ⟨by dsimp only; omega, stepAll h2 key, by dsimp only; omega, by dsimp only; omega, hlast⟩ (by dsimp only; omega) ?_
        (refine ⟨rfl, ?_, ?_, Sub.refl _⟩ <;> repeat' (first | exact EnvLe.nil | exact LocsLe.nil | refine EnvLe.cons _ _ _ ?_ ?_ | refine LocsLe.cons _ _ _ ?_ ?_ | exact CVle.same _ rfl | exact CVle.vec _ _ | exact CVle.nil | exact CVle.tok _ _ _ rfl rfl | exact ObLe.tok _ _ rfl | exact CVles.nil | refine CVles.cons ?_ ?_ | exact ObLe.same _ rfl rfl | refine ObLe.cells rfl ?_))
      · rw [decide_eq_false hk] at key
        conv => whnf
        repeat' (first | (refine CallN.one c1 ?_) | refine Fork.yp ?_ | refine Fork.dp (fun h => ?_) (fun h => ?_) | refine Need.go ?_ | refine ElemN.go ?_ | refine ExtN.ext ?_ | refine finGo ?_) <;> try (conv => whnf)
        all_goals exact no key
    · have hall : ∀ i, i < (eids l).length → idAt (eids l) e i = true := fun j hj => h2 j (by omega)
      conv => whnf
      repeat' (first | refine Fork.np ?_ | refine finGo ?_) <;> try (conv => whnf)
      exact ansB (by unfold ascOk; rw [range_yes hall])
  · (refine ⟨rfl, ?_, ?_, Sub.refl _⟩ <;> repeat' (first | exact EnvLe.nil | exact LocsLe.nil | refine EnvLe.cons _ _ _ ?_ ?_ | refine LocsLe.cons _ _ _ ?_ ?_ | exact CVle.same _ rfl | exact CVle.vec _ _ | exact CVle.nil | exact CVle.tok _ _ _ rfl rfl | exact ObLe.tok _ _ rfl | exact CVles.nil | refine CVles.cons ?_ ?_ | exact ObLe.same _ rfl rfl | refine ObLe.cells rfl ?_))
def lookP : List Pr → ByteArray → Option Val
  | [], _ => none
  | p :: r, s => if p.name = s then some p.val else lookP r s
def placeS : List Pr → ByteArray → Nat → Int
  | [], _, _ => -1
  | p :: r, s, k => if p.name = s then k else placeS r s (k + 1)
theorem look_hit {l : List Pr} {p : Pr} {s : ByteArray} {i : Nat} (h : l[i]? = some p) (hx : p.name = s) : lookP (l.drop i) s = some p.val := by rw [drop_cons h]; simp [lookP, hx]
theorem look_miss {l : List Pr} {p : Pr} {s : ByteArray} {i : Nat} (h : l[i]? = some p) (hx : ¬ p.name = s) : lookP (l.drop i) s = lookP (l.drop (i + 1)) s := by rw [drop_cons h]; simp [lookP, hx]
theorem look_end {l : List Pr} {s : ByteArray} {i : Nat} (h : l.length ≤ i) : lookP (l.drop i) s = none := by rw [List.drop_eq_nil_of_le h]; rfl
def foundC : Option Val → CV
  | some v => .tup [v.cv, .sc (.bool true)]
  | none => .tup [nullV.cv, .sc (.bool false)]
theorem ansC' {a b : CV} {σ : Heap} (h : b = a) : COut.ret a σ = .ret b σ := by rw [h]
theorem lookUp_c {σ : Heap} {l : List Pr} {s : ByteArray} (hl : l.length ≤ 1000) : CRun Tryz.prog 120 [.vec (prs l), .sc (.string s)] σ (· = .ret (foundC (lookP l s)) σ) := by
  have e3 := prs_len l
  refine crun_of (X := X) X_ok X_sat (body := bodyOf Tryz.f120) Tryz.func120 rfl (by kernel_rfl) (by kernel_rfl) ?_
  rw [Tryz.ntmps120]
  conv => whnf
  repeat' (first | refine OrdN.one ?_ | refine Fork.yp ?_ | refine Fork.np ?_ | refine Fork.ny ?_ | refine Fork.nn ?_ | refine Fork.yb ?_ | refine Fork.nb ?_ | refine Fork.dp (fun h => ?_) (fun h => ?_) | refine Fork.dn (fun h => ?_) (fun h => ?_) | (refine Fork.mk (fun h => ?_) (fun h => ?_) <;> simp only [decide_eq_true_eq, decide_eq_false_iff_not, Bool.not_eq_true', Bool.not_eq_false', Bool.or_eq_true, Bool.or_eq_false_iff] at h) | refine GetN.go ?_ | refine Need.ap1 ?_ | refine Need.ap0 ?_ | refine Need.go ?_ | refine Need.draw ?_ | refine ElemN.go ?_ | refine ExtN.ext ?_ | refine ExtN.wr ?_ | refine AllocN.go (fun l hl => ?_) | refine finGo ?_) <;> try (conv => whnf)
  refine LoopN.rule (α := Nat) (fun i => ⟨22, [(1, .sc (.string s)), (4, .ptr (.f 4) 0), (8, .vec (prs l)), (9, i64 (prs l).length), (10, i64 i)], [(4, .cells [i64 0, i64 0, .sc (.string ⟨#[]⟩), .nil])]⟩)
    (fun _ => σ) (fun i => l.length - i) (fun i => i ≤ l.length ∧ lookP l s = lookP (l.drop i) s) ?_ 0 ⟨by omega, rfl⟩ ?_
  · rintro i K ⟨h1, h2⟩ hK
    dsimp only at h1 h2 ⊢
    by_cases hi : i < l.length
    · obtain ⟨d, vk, vn, vt, vl, hm, hg, hg'⟩ := prs_at hi
      by_cases hk : d = s
      · rw [look_hit hg hk] at h2
        conv => whnf
        repeat' (first | refine OrdN.one ?_ | refine Fork.yp ?_ | refine Fork.np ?_ | refine Fork.ny ?_ | refine Fork.nn ?_ | refine Fork.yb ?_ | refine Fork.nb ?_ | refine Fork.dp (fun h => ?_) (fun h => ?_) | refine Fork.dn (fun h => ?_) (fun h => ?_) | (refine Fork.mk (fun h => ?_) (fun h => ?_) <;> simp only [decide_eq_true_eq, decide_eq_false_iff_not, Bool.not_eq_true', Bool.not_eq_false', Bool.or_eq_true, Bool.or_eq_false_iff] at h) | refine GetN.go ?_ | refine Need.ap1 ?_ | refine Need.ap0 ?_ | refine Need.go ?_ | refine Need.draw ?_ | refine ElemN.go ?_ | refine ExtN.ext ?_ | refine ExtN.wr ?_ | refine AllocN.go (fun l hl => ?_) | refine finGo ?_) <;> try (conv => whnf)
        exact ansC' (by rw [h2]; rfl)
      · rw [look_miss hg hk] at h2
        conv => whnf
        repeat' (first | refine OrdN.one ?_ | refine Fork.yp ?_ | refine Fork.np ?_ | refine Fork.ny ?_ | refine Fork.nn ?_ | refine Fork.yb ?_ | refine Fork.nb ?_ | refine Fork.dp (fun h => ?_) (fun h => ?_) | refine Fork.dn (fun h => ?_) (fun h => ?_) | (refine Fork.mk (fun h => ?_) (fun h => ?_) <;> simp only [decide_eq_true_eq, decide_eq_false_iff_not, Bool.not_eq_true', Bool.not_eq_false', Bool.or_eq_true, Bool.or_eq_false_iff] at h) | refine GetN.go ?_ | refine Need.ap1 ?_ | refine Need.ap0 ?_ | refine Need.go ?_ | refine Need.draw ?_ | refine ElemN.go ?_ | refine ExtN.ext ?_ | refine ExtN.wr ?_ | refine AllocN.go (fun l hl => ?_) | refine finGo ?_) <;> try (conv => whnf)
        refine hK (i + 1) _ _ ⟨by omega, h2⟩ (by omega) ?_
        (refine ⟨rfl, ?_, ?_, Sub.refl _⟩ <;> repeat' (first | exact EnvLe.nil | exact LocsLe.nil | refine EnvLe.cons _ _ _ ?_ ?_ | refine LocsLe.cons _ _ _ ?_ ?_ | exact CVle.same _ rfl | exact CVle.vec _ _ | exact CVle.nil | exact CVle.tok _ _ _ rfl rfl | exact ObLe.tok _ _ rfl | exact CVles.nil | refine CVles.cons ?_ ?_ | exact ObLe.same _ rfl rfl | refine ObLe.cells rfl ?_))
    · rw [look_end (by omega)] at h2
      conv => whnf
      repeat' (first | refine OrdN.one ?_ | refine Fork.yp ?_ | refine Fork.np ?_ | refine Fork.ny ?_ | refine Fork.nn ?_ | refine Fork.yb ?_ | refine Fork.nb ?_ | refine Fork.dp (fun h => ?_) (fun h => ?_) | refine Fork.dn (fun h => ?_) (fun h => ?_) | (refine Fork.mk (fun h => ?_) (fun h => ?_) <;> simp only [decide_eq_true_eq, decide_eq_false_iff_not, Bool.not_eq_true', Bool.not_eq_false', Bool.or_eq_true, Bool.or_eq_false_iff] at h) | refine GetN.go ?_ | refine Need.ap1 ?_ | refine Need.ap0 ?_ | refine Need.go ?_ | refine Need.draw ?_ | refine ElemN.go ?_ | refine ExtN.ext ?_ | refine ExtN.wr ?_ | refine AllocN.go (fun l hl => ?_) | refine finGo ?_) <;> try (conv => whnf)
      exact ansC' (by rw [h2]; rfl)
  · (refine ⟨rfl, ?_, ?_, Sub.refl _⟩ <;> repeat' (first | exact EnvLe.nil | exact LocsLe.nil | refine EnvLe.cons _ _ _ ?_ ?_ | refine LocsLe.cons _ _ _ ?_ ?_ | exact CVle.same _ rfl | exact CVle.vec _ _ | exact CVle.nil | exact CVle.tok _ _ _ rfl rfl | exact ObLe.tok _ _ rfl | exact CVles.nil | refine CVles.cons ?_ ?_ | exact ObLe.same _ rfl rfl | refine ObLe.cells rfl ?_))
def cellAt (l : List Pr) (i : Nat) : Bool := match l[i]? with
  | some p => nameOk p.name && (okV 3 p.val && decide (placeS l p.name 0 = i))
  | none => true
def cellsOk (l : List Pr) : Bool := (List.range l.length).all (cellAt l)
theorem cellAt_of {l : List Pr} {i : Nat} {p : Pr} (h : l[i]? = some p) : cellAt l i = (nameOk p.name && (okV 3 p.val && decide (placeS l p.name 0 = i))) := by unfold cellAt; rw [h]
def propsG (g : Gr) : Val → Option (List Pr)
  | .mk k n _ _ => if k = 5 then (if 0 ≤ placeF (nids g.nodes) n 0 then (g.nodes[(placeF (nids g.nodes) n 0).toNat]?).map Nd.props else none)
    else if k = 6 then (if 0 ≤ placeF (eids g.edges) n 0 then (g.edges[(placeF (eids g.edges) n 0).toNat]?).map Ed.props else none) else none
def getG (g : Gr) (v : Val) (s : ByteArray) : Val := match propsG g v with
  | some l => (lookP l s).getD nullV
  | none => nullV
def askR (g : Gr) (v : Val) (s : ByteArray) : Rs := if isKind v = 5 ∨ isKind v = 6 ∨ isKind v = 0 then .ok (getG g v s) else .err 1
def nodeOkB (n : Nd) : Bool := labelsOk n.labels && propsOk n.props
def edgeOkB (ids : List Int) (e : Ed) : Bool := nameOk e.kind && (propsOk e.props && (decide (0 ≤ placeF ids e.src 0) && decide (0 ≤ placeF ids e.dst 0)))
def graphOk (g : Gr) : Bool := decide ((0 ≤ g.nn ∧ g.nn ≤ 1000000000) ∧ (0 ≤ g.ne ∧ g.ne ≤ 1000000000) ∧ g.nodes.length ≤ 12 ∧ g.edges.length ≤ 16) &&
  (ascOk (nids g.nodes) g.nn && (ascOk (eids g.edges) g.ne && (g.nodes.all nodeOkB && g.edges.all (edgeOkB (nids g.nodes)))))
theorem g_bounds {g : Gr} (h : ¬ ((0 ≤ g.nn ∧ g.nn ≤ 1000000000) ∧ (0 ≤ g.ne ∧ g.ne ≤ 1000000000) ∧ g.nodes.length ≤ 12 ∧ g.edges.length ≤ 16)) : graphOk g = false := by unfold graphOk; rw [decide_eq_false h]; rfl
theorem g_nasc {g : Gr} (h : ascOk (nids g.nodes) g.nn = false) : graphOk g = false := by unfold graphOk; rw [h]; simp
theorem g_easc {g : Gr} (h : ascOk (eids g.edges) g.ne = false) : graphOk g = false := by unfold graphOk; rw [h]; simp
theorem g_node {g : Gr} {n : Nd} (hm : n ∈ g.nodes) (h : nodeOkB n = false) : graphOk g = false := by
  unfold graphOk; rw [show g.nodes.all nodeOkB = false from List.all_eq_false.2 ⟨n, hm, by simp [h]⟩]; simp
theorem g_edge {g : Gr} {n : Ed} (hm : n ∈ g.edges) (h : edgeOkB (nids g.nodes) n = false) : graphOk g = false := by
  unfold graphOk; rw [show g.edges.all (edgeOkB (nids g.nodes)) = false from List.all_eq_false.2 ⟨n, hm, by simp [h]⟩]; simp
theorem all_of {α : Type} {l : List α} {p : α → Bool} (h : ∀ j v, j < l.length → l[j]? = some v → p v = true) : l.all p = true := by
  refine List.all_eq_true.2 fun v hv => ?_
  obtain ⟨j, hj, e⟩ := List.getElem_of_mem hv
  exact h j v hj (by rw [← e]; exact List.getElem?_eq_getElem hj)
theorem g_yes {g : Gr} (h : (0 ≤ g.nn ∧ g.nn ≤ 1000000000) ∧ (0 ≤ g.ne ∧ g.ne ≤ 1000000000) ∧ g.nodes.length ≤ 12 ∧ g.edges.length ≤ 16) (h1 : ascOk (nids g.nodes) g.nn = true) (h2 : ascOk (eids g.edges) g.ne = true)
    (h3 : g.nodes.all nodeOkB = true) (h4 : g.edges.all (edgeOkB (nids g.nodes)) = true) : graphOk g = true := by unfold graphOk; rw [decide_eq_true h, h1, h2, h3, h4]; rfl
theorem stepG {α : Type} {l : List α} {p : α → Prop} {i : Nat} {v : α} (h : ∀ j v, j < i → l[j]? = some v → p v) (hv : l[i]? = some v) (hp : p v) : ∀ j v, j < i + 1 → l[j]? = some v → p v := fun j w hj hw => by
  by_cases e : j = i
  · subst e; rw [hv] at hw; cases hw; exact hp
  · exact h j w (by omega) hw
set_option maxHeartbeats 1000000 in
theorem implGraph_c {σ : Heap} {g : Gr} (hg : GrTame g) : CRun Tryz.prog 8 [g.cv] σ (· = .ret (.sc (.bool (graphOk g))) σ) := by
  obtain ⟨hnl, hel, hnn, hne, hns, hes⟩ := hg
  have e1 := nds_len g.nodes
  have e2 := eds_len g.edges
  by_cases hb : (0 ≤ g.nn ∧ g.nn ≤ 1000000000) ∧ (0 ≤ g.ne ∧ g.ne ≤ 1000000000) ∧ g.nodes.length ≤ 12 ∧ g.edges.length ≤ 16
  case neg =>
    have no : COut.ret (.sc (.bool false)) σ = .ret (.sc (.bool (graphOk g))) σ := ansB (g_bounds hb)
    have cases4 : (¬ (0 ≤ g.nn ∧ g.nn ≤ 1000000000 ∧ 0 ≤ g.ne ∧ g.ne ≤ 1000000000)) ∨ ((0 ≤ g.nn ∧ g.nn ≤ 1000000000 ∧ 0 ≤ g.ne ∧ g.ne ≤ 1000000000) ∧ ¬ (g.nodes.length ≤ 12 ∧ g.edges.length ≤ 16)) := by omega
    rcases cases4 with h4 | ⟨h4, h5⟩
    · have : g.nn < 0 ∨ (0 ≤ g.nn ∧ 1000000000 < g.nn) ∨ ((0 ≤ g.nn ∧ g.nn ≤ 1000000000) ∧ g.ne < 0) ∨ ((0 ≤ g.nn ∧ g.nn ≤ 1000000000) ∧ 0 ≤ g.ne ∧ 1000000000 < g.ne) := by omega
      refine crun_of (X := X) X_ok X_sat (body := bodyOf Tryz.f8) Tryz.func8 rfl (by kernel_rfl) (by kernel_rfl) ?_
      rw [Tryz.ntmps8]
      rcases this with h | h | h | h
      all_goals
        conv => whnf
        repeat' (first | refine Fork.yp ?_ | refine Fork.np ?_ | refine finGo ?_) <;> try (conv => whnf)
        exact no
    · have : 12 < g.nodes.length ∨ (g.nodes.length ≤ 12 ∧ 16 < g.edges.length) := by omega
      refine crun_of (X := X) X_ok X_sat (body := bodyOf Tryz.f8) Tryz.func8 rfl (by kernel_rfl) (by kernel_rfl) ?_
      rw [Tryz.ntmps8]
      rcases this with h | h
      all_goals
        conv => whnf
        repeat' (first | refine Fork.yp ?_ | refine Fork.np ?_ | refine finGo ?_) <;> try (conv => whnf)
        exact no
  have a1 := nasc_c (σ := σ) hnl hnn
  have a2 := easc_c (σ := σ) hel hne
  refine crun_of (X := X) X_ok X_sat (body := bodyOf Tryz.f8) Tryz.func8 rfl (by kernel_rfl) (by kernel_rfl) ?_
  rw [Tryz.ntmps8]
  cases k1 : ascOk (nids g.nodes) g.nn <;> rw [k1] at a1
  · conv => whnf
    repeat' (first | (refine CallN.one nidof_c ?_) | (refine CallN.one a1 ?_) | refine OrdN.one ?_ | refine Fork.np ?_ | refine Need.draw ?_ | refine ExtN.ext ?_ | refine finGo ?_) <;> try (conv => whnf)
    exact ansB (g_nasc k1)
  cases k2 : ascOk (eids g.edges) g.ne <;> rw [k2] at a2
  · conv => whnf
    repeat' (first | (refine CallN.one nidof_c ?_) | (refine CallN.one a1 ?_) | (refine CallN.one eidof_c ?_) | (refine CallN.one a2 ?_) | refine OrdN.one ?_ | refine Fork.np ?_ | refine Need.draw ?_ | refine ExtN.ext ?_ | refine finGo ?_) <;> try (conv => whnf)
    exact ansB (g_easc k2)
  conv => whnf
  repeat' (first | (refine CallN.one nidof_c ?_) | (refine CallN.one a1 ?_) | (refine CallN.one eidof_c ?_) | (refine CallN.one a2 ?_) | refine OrdN.one ?_ | refine Fork.np ?_ | refine Need.draw ?_ | refine ExtN.ext ?_) <;> try (conv => whnf)
  refine LoopN.rule (α := Nat) (fun i => ⟨101, [(1, .ptr (.f 1) 0), (2, .sc (.bool false)), (3, .ptr (.f 3) 0), (52, .vec (nds g.nodes)), (53, i64 (nds g.nodes).length), (54, i64 i)],
      [(1, .cells [.vec (nds g.nodes), .vec (eds g.edges), i64 g.nn, i64 g.ne]), (3, .cells [.vec (nds g.nodes), .fn (.func 62) [] []])]⟩)
    (fun _ => σ) (fun i => g.nodes.length - i) (fun i => i ≤ g.nodes.length ∧ ∀ j v, j < i → g.nodes[j]? = some v → nodeOkB v = true) ?_ 0 ⟨by omega, by omega⟩ ?_
  rotate_left
  · (refine ⟨rfl, ?_, ?_, Sub.refl _⟩ <;> repeat' (first | exact EnvLe.nil | exact LocsLe.nil | refine EnvLe.cons _ _ _ ?_ ?_ | refine LocsLe.cons _ _ _ ?_ ?_ | exact CVle.same _ rfl | exact CVle.vec _ _ | exact CVle.nil | exact CVle.tok _ _ _ rfl rfl | exact ObLe.tok _ _ rfl | exact CVles.nil | refine CVles.cons ?_ ?_ | exact ObLe.same _ rfl rfl | refine ObLe.cells rfl ?_))
  rintro i K ⟨h1, h2⟩ hK
  dsimp only at h1 h2 ⊢
  by_cases hi : i < g.nodes.length
  · obtain ⟨d, ls, ps, hm, hgg, hg', hd⟩ := nds_at hi
    obtain ⟨t1, t2, t3, t4⟩ := hns _ hm
    have c1 := labelsOk_c (σ := σ) t1 t2
    have c2 := propsOk_c (σ := σ) t3 t4
    dsimp only at c1 c2
    cases m1 : labelsOk ls <;> rw [m1] at c1
    · conv => whnf
      repeat' (first | (refine CallN.one c1 ?_) | refine Fork.yp ?_ | refine Need.go ?_ | refine ElemN.go ?_ | refine ExtN.ext ?_ | refine finGo ?_) <;> try (conv => whnf)
      exact ansB (g_node hm (by simp only [nodeOkB]; rw [m1]; rfl))
    cases m2 : propsOk ps <;> rw [m2] at c2
    · conv => whnf
      repeat' (first | (refine CallN.one c1 ?_) | (refine CallN.one c2 ?_) | refine Fork.yp ?_ | refine Need.go ?_ | refine ElemN.go ?_ | refine ExtN.ext ?_ | refine finGo ?_) <;> try (conv => whnf)
      exact ansB (g_node hm (by simp only [nodeOkB]; rw [m1, m2]; rfl))
    conv => whnf
    repeat' (first | (refine CallN.one c1 ?_) | (refine CallN.one c2 ?_) | refine Fork.yp ?_ | refine Need.go ?_ | refine ElemN.go ?_ | refine ExtN.ext ?_) <;> try (conv => whnf)
    refine hK (i + 1) _ _ ⟨by omega, stepG h2 hgg (by simp only [nodeOkB]; rw [m1, m2]; rfl)⟩ (by omega) ?_
    (refine ⟨rfl, ?_, ?_, Sub.refl _⟩ <;> repeat' (first | exact EnvLe.nil | exact LocsLe.nil | refine EnvLe.cons _ _ _ ?_ ?_ | refine LocsLe.cons _ _ _ ?_ ?_ | exact CVle.same _ rfl | exact CVle.vec _ _ | exact CVle.nil | exact CVle.tok _ _ _ rfl rfl | exact ObLe.tok _ _ rfl | exact CVles.nil | refine CVles.cons ?_ ?_ | exact ObLe.same _ rfl rfl | refine ObLe.cells rfl ?_))
  have hall : g.nodes.all nodeOkB = true := all_of fun j v hj => h2 j v (by omega)
  conv => whnf
  repeat' (first | refine Fork.np ?_) <;> try (conv => whnf)
  refine LoopN.rule (α := Nat) (fun i => ⟨101, [(1, .ptr (.f 1) 0), (2, .sc (.bool false)), (3, .ptr (.f 3) 0), (70, .vec (eds g.edges)), (71, i64 (eds g.edges).length), (72, i64 i)],
      [(1, .cells [.vec (nds g.nodes), .vec (eds g.edges), i64 g.nn, i64 g.ne]), (3, .cells [.vec (nds g.nodes), .fn (.func 62) [] []])]⟩)
    (fun _ => σ) (fun i => g.edges.length - i) (fun i => i ≤ g.edges.length ∧ ∀ j v, j < i → g.edges[j]? = some v → edgeOkB (nids g.nodes) v = true) ?_ 0 ⟨by omega, by omega⟩ ?_
  rotate_left
  · (refine ⟨rfl, ?_, ?_, Sub.refl _⟩ <;> repeat' (first | exact EnvLe.nil | exact LocsLe.nil | refine EnvLe.cons _ _ _ ?_ ?_ | refine LocsLe.cons _ _ _ ?_ ?_ | exact CVle.same _ rfl | exact CVle.vec _ _ | exact CVle.nil | exact CVle.tok _ _ _ rfl rfl | exact ObLe.tok _ _ rfl | exact CVles.nil | refine CVles.cons ?_ ?_ | exact ObLe.same _ rfl rfl | refine ObLe.cells rfl ?_))
  clear hK h1 h2 hi K
  clear i
  rintro i K ⟨h1, h2⟩ hK
  dsimp only at h1 h2 ⊢
  by_cases hi : i < g.edges.length
  · obtain ⟨d, k, a, b, ps, hm, hgg, hg', hd⟩ := eds_at hi
    obtain ⟨t1, t3, t4⟩ := hes _ hm
    dsimp only at t1 t3 t4
    have c1 := nameOk_c (σ := σ) (t := k) (by omega)
    have c2 := propsOk_c (σ := σ) t3 t4
    have c3 := fun d' => nplace_c (σ := σ) (d' := d') hnl
    cases m1 : nameOk k <;> rw [m1] at c1
    · conv => whnf
      repeat' (first | (refine CallN.one c1 ?_) | refine Fork.yp ?_ | refine Need.go ?_ | refine ElemN.go ?_ | refine ExtN.ext ?_ | refine finGo ?_) <;> try (conv => whnf)
      exact ansB (g_edge hm (by simp only [edgeOkB]; rw [m1]; rfl))
    cases m2 : propsOk ps <;> rw [m2] at c2
    · conv => whnf
      repeat' (first | (refine CallN.one c1 ?_) | (refine CallN.one c2 ?_) | refine Fork.yp ?_ | refine Need.go ?_ | refine ElemN.go ?_ | refine ExtN.ext ?_ | refine finGo ?_) <;> try (conv => whnf)
      exact ansB (g_edge hm (by simp only [edgeOkB]; rw [m1, m2]; rfl))
    by_cases m3 : 0 ≤ placeF (nids g.nodes) a 0
    case neg =>
      conv => whnf
      repeat' (first | (refine CallN.one c1 ?_) | (refine CallN.one c2 ?_) | (refine CallN.one (c3 _) ?_) | refine Fork.yp ?_ | refine Need.go ?_ | refine ElemN.go ?_ | refine ExtN.ext ?_ | refine finGo ?_) <;> try (conv => whnf)
      exact ansB (g_edge hm (by simp only [edgeOkB]; rw [m1, m2, decide_eq_false m3]; rfl))
    by_cases m4 : 0 ≤ placeF (nids g.nodes) b 0
    case neg =>
      conv => whnf
      repeat' (first | (refine CallN.one c1 ?_) | (refine CallN.one c2 ?_) | (refine CallN.one (c3 _) ?_) | refine Fork.yp ?_ | refine Fork.np ?_ | refine Need.go ?_ | refine ElemN.go ?_ | refine ExtN.ext ?_ | refine finGo ?_) <;> try (conv => whnf)
      exact ansB (g_edge hm (by simp only [edgeOkB]; rw [m1, m2, decide_eq_true m3, decide_eq_false m4]; rfl))
    conv => whnf
    repeat' (first | (refine CallN.one c1 ?_) | (refine CallN.one c2 ?_) | (refine CallN.one (c3 _) ?_) | refine Fork.yp ?_ | refine Fork.np ?_ | refine Need.go ?_ | refine ElemN.go ?_ | refine ExtN.ext ?_) <;> try (conv => whnf)
    refine hK (i + 1) _ _ ⟨by omega, stepG h2 hgg (by simp only [edgeOkB]; rw [m1, m2, decide_eq_true m3, decide_eq_true m4]; rfl)⟩ (by omega) ?_
    (refine ⟨rfl, ?_, ?_, Sub.refl _⟩ <;> repeat' (first | exact EnvLe.nil | exact LocsLe.nil | refine EnvLe.cons _ _ _ ?_ ?_ | refine LocsLe.cons _ _ _ ?_ ?_ | exact CVle.same _ rfl | exact CVle.vec _ _ | exact CVle.nil | exact CVle.tok _ _ _ rfl rfl | exact ObLe.tok _ _ rfl | exact CVles.nil | refine CVles.cons ?_ ?_ | exact ObLe.same _ rfl rfl | refine ObLe.cells rfl ?_))
  have halle : g.edges.all (edgeOkB (nids g.nodes)) = true := all_of fun j v hj => h2 j v (by omega)
  conv => whnf
  repeat' (first | refine Fork.np ?_ | refine finGo ?_) <;> try (conv => whnf)
  exact ansB (g_yes hb k1 k2 hall halle)
end Go.Proofs.YtlamgfimgadnmaaGreat
