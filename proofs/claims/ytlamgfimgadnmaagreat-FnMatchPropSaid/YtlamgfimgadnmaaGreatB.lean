/-
  Contracts of the functions that the law reaches.
-/
import Derived.Test.YtlamgfimgadnmaaGreatA
set_option linter.unusedVariables false
set_option linter.unusedSimpArgs false
namespace Go.Proofs.YtlamgfimgadnmaaGreat
open Go Go.CL
set_option maxRecDepth 10000
def jp (b : Int) : Bool := decide (97 ≤ b ∧ b ≤ 122) || decide (65 ≤ b ∧ b ≤ 90)
def zzk (b : Int) : Bool := decide (48 ≤ b ∧ b ≤ 57)
theorem zy0 {σ : Heap} {b : Int} : CRun Tryz.prog 65 [u8 b] σ (· = .ret (.sc (.bool (jp b))) σ) := by
  refine ZX Tryz.func65 Tryz.ntmps65 ?_
  conv => whnf
  repeat' (first | refine Za ?_ | refine Zb ?_ | refine Zv (fun h => ?_) (fun h => ?_) | refine Zr ?_) <;> try (conv => whnf)
  all_goals exact z7 (by simp only [jp, Bool.or_eq_true, Bool.or_eq_false_iff, decide_eq_true_eq, decide_eq_false_iff_not]; omega)
theorem z7e {σ : Heap} {b : Int} : CRun Tryz.prog 66 [u8 b] σ (· = .ret (.sc (.bool (zzk b))) σ) := by
  refine ZX Tryz.func66 Tryz.ntmps66 ?_
  conv => whnf
  repeat' (first | refine Zv (fun h => ?_) (fun h => ?_) | refine Zr ?_) <;> try (conv => whnf)
  all_goals exact z7 (by simp only [zzk, decide_eq_true_eq, decide_eq_false_iff_not]; omega)
theorem zs4 {σ : Heap} {b : Int} : CRun Tryz.prog 68 [u8 b] σ (· = .ret (.sc (.bool (jp b))) σ) := by
  refine ZX Tryz.func68 Tryz.ntmps68 ?_
  conv => whnf
  repeat' (first | refine Za ?_ | refine Zb ?_ | refine Zv (fun h => ?_) (fun h => ?_) | refine Zr ?_) <;> try (conv => whnf)
  all_goals exact z7 (by simp only [jp, Bool.or_eq_true, Bool.or_eq_false_iff, decide_eq_true_eq, decide_eq_false_iff_not]; omega)
def keptL : List ByteArray := [⟨#[77, 65, 84, 67, 72]⟩, ⟨#[79, 80, 84, 73, 79, 78, 65, 76]⟩, ⟨#[87, 72, 69, 82, 69]⟩, ⟨#[85, 78, 87, 73, 78, 68]⟩, ⟨#[87, 73, 84, 72]⟩, ⟨#[82, 69, 84, 85, 82, 78]⟩, ⟨#[67, 82, 69, 65, 84, 69]⟩, ⟨#[83, 69, 84]⟩, ⟨#[68, 69, 76, 69, 84, 69]⟩, ⟨#[68, 69, 84, 65, 67, 72]⟩, ⟨#[65, 83]⟩, ⟨#[65, 78, 68]⟩, ⟨#[79, 82]⟩, ⟨#[78, 79, 84]⟩, ⟨#[73, 83]⟩, ⟨#[78, 85, 76, 76]⟩, ⟨#[73, 78]⟩, ⟨#[68, 73, 83, 84, 73, 78, 67, 84]⟩, ⟨#[79, 82, 68, 69, 82]⟩, ⟨#[66, 89]⟩, ⟨#[68, 69, 83, 67]⟩, ⟨#[83, 75, 73, 80]⟩, ⟨#[76, 73, 77, 73, 84]⟩, ⟨#[110, 117, 108, 108]⟩, ⟨#[116, 114, 117, 101]⟩, ⟨#[102, 97, 108, 115, 101]⟩, ⟨#[99, 111, 117, 110, 116]⟩, ⟨#[115, 117, 109]⟩, ⟨#[115, 105, 122, 101]⟩]
def kept (t : ByteArray) : Bool := keptL.any fun s => decide (t = s)
def bAt (t : ByteArray) (i : Nat) : Int := (t.data.getD i 0).toNat
def za4 (t : ByteArray) (i : Nat) : Bool := jp (bAt t i) || (decide (i ≠ 0) && zzk (bAt t i))
def ya (t : ByteArray) : Bool := decide (1 ≤ t.size ∧ t.size ≤ 8) && ((List.range t.size).all (za4 t) && !kept t)
theorem zat {t : ByteArray} (h : ¬ (1 ≤ t.size ∧ t.size ≤ 8)) : ya t = false := by unfold ya; rw [decide_eq_false h]; rfl
theorem zf5 {t : ByteArray} {i : Nat} (hi : i < t.size) (h : za4 t i = false) : ya t = false := by
  unfold ya
  have : (List.range t.size).all (za4 t) = false := List.all_eq_false.2 ⟨i, List.mem_range.2 hi, by simp [h]⟩
  rw [this]; simp
theorem zf6 {t : ByteArray} (h : kept t = true) : ya t = false := by unfold ya; rw [h]; simp
theorem zhu {t : ByteArray} (hs : 1 ≤ t.size ∧ t.size ≤ 8) (h : ∀ i, i < t.size → za4 t i = true) (hk : kept t = false) : ya t = true := by
  unfold ya
  rw [decide_eq_true hs, hk, List.all_eq_true.2 fun i hi => h i (List.mem_range.1 hi)]; rfl
theorem split {P : Program} {f : FuncId} {args : List CV} {σ τ : Heap} {b : Bool} (h : CRun P f args σ (· = .ret (.sc (.bool b)) τ)) :
    CRun P f args σ (fun out => (b = true ∧ out = .ret (.sc (.bool true)) τ) ∨ (b = false ∧ out = .ret (.sc (.bool false)) τ)) :=
  h.mono fun out e => by subst e; cases b; exact .inr ⟨rfl, rfl⟩; exact .inl ⟨rfl, rfl⟩
theorem zzp {t : ByteArray} (h : t.size = 0) : t = ⟨#[]⟩ := by
  obtain ⟨a⟩ := t
  have : a = #[] := Array.eq_empty_of_size_eq_zero h
  rw [this]
theorem yl {p : Nat → Prop} {i : Nat} (h : ∀ j, j < i → p j) (hi : p i) : ∀ j, j < i + 1 → p j := fun j hj => by
  by_cases e : j = i
  · rw [e]; exact hi
  · exact h j (by omega)
theorem z2j {t : ByteArray} (h : jp ((t.data.getD (Int.toNat 0) 0).toNat) = true) : za4 t 0 = true := by
  have h' : jp ((t.data.getD 0 0).toNat) = true := h
  show (jp ((t.data.getD 0 0).toNat) || _) = true
  rw [h']; rfl
theorem qh {σ : Heap} {t : ByteArray} (ht : t.size ≤ 1000000000) : CRun Tryz.prog 30 [.sc (.string t)] σ (· = .ret (.sc (.bool (ya t))) σ) := by
  have cl := fun b => split (@zy0 σ b)
  have cf := fun b => split (@z7e σ b)
  by_cases hz : t.size = 0
  · have e := zzp hz
    have e2 : ya t = false := zat (by omega)
    refine ZX Tryz.func30 Tryz.ntmps30 ?_
    conv => whnf
    repeat' (first | refine Za ?_ | refine Zr ?_) <;> try (conv => whnf)
    all_goals first | exact z7 e2 | exact (‹¬ t = _› e).elim
  refine ZX Tryz.func30 Tryz.ntmps30 ?_
  by_cases hs : 1 ≤ t.size ∧ t.size ≤ 8
  · conv => whnf
    repeat' (first | (refine CallN.many (cl _) ?_; rintro _ (⟨hl, rfl⟩ | ⟨hl, rfl⟩)) | refine Zb ?_ | refine Zv (fun h => ?_) (fun h => ?_) | refine Zm ?_ | refine Zp ?_ | refine Zr ?_) <;> try (conv => whnf)
    · exact (hz (by rw [h]; rfl)).elim
    · refine LoopN.rule (α := Nat) (fun i => ⟨66, [(0, .sc (.string t)), (2, .sc (.bool false)), (3, i64 i)], []⟩)
        (fun _ => σ) (fun i => t.size - i) (fun i => 1 ≤ i ∧ i ≤ t.size ∧ ∀ j, j < i → za4 t j = true) ?_ 1 ⟨by omega, by omega, yl (fun j hj => by omega) (z2j hl)⟩ ?_
      · rintro i K ⟨h0, h1, h2⟩ hK
        dsimp only at h1 h2 ⊢
        by_cases hi : i < t.size
        · have hb : za4 t i = (jp ((t.data.getD (i : Int).toNat 0).toNat) || (decide (i ≠ 0) && zzk ((t.data.getD (i : Int).toNat 0).toNat))) := rfl
          conv => whnf
          repeat' (first | (refine CallN.many (cl _) ?_; rintro _ (⟨hl, rfl⟩ | ⟨hl, rfl⟩)) | (refine CallN.many (cf _) ?_; rintro _ (⟨hf, rfl⟩ | ⟨hf, rfl⟩)) | refine Za ?_ | refine Zm ?_ | refine Zp ?_ | refine Zr ?_) <;> try (conv => whnf)
          all_goals first
            | (refine hK (i + 1) _ _ ⟨by omega, by omega, yl h2 (by rw [hb, hl]; rfl)⟩ (by omega) ?_; exact ZW)
            | (refine hK (i + 1) _ _ ⟨by omega, by omega, yl h2 (by rw [hb, hf, decide_eq_true (show i ≠ 0 by omega)]; simp)⟩ (by omega) ?_; exact ZW)
            | (exact z7 (zf5 hi (by rw [hb, hl, hf]; simp)))
        · have hall : ∀ i, i < t.size → za4 t i = true := fun j hj => h2 j (by omega)
          conv => whnf
          repeat' (first | refine Zb ?_ | refine Zv (fun h => ?_) (fun h => ?_) | refine Zr ?_) <;> try (conv => whnf)
          all_goals first
            | exact z7 (zf6 (by rw [‹t = _›]; rfl))
            | exact z7 (zhu hs hall (by simp only [kept, keptL, List.any_cons, List.any_nil, decide_false, Bool.or_false, *]))
      · exact ZW
    · exact z7 (zf5 (i := 0) (by omega) (by unfold za4 bAt; simpa using hl))
  · conv => whnf
    repeat' (first | refine Za ?_ | refine Zv (fun h => ?_) (fun h => ?_) | refine Zr ?_) <;> try (conv => whnf)
    all_goals exact z7 (zat hs)
def keptC : List CV := keptL.map fun s => .sc (.string s)
theorem zy6 {i : Nat} (hi : i < 29) : ∃ s, keptC[i]? = some (.sc (.string s)) ∧ keptL[i]? = some s := by
  refine ⟨keptL[i]'hi, ?_, ?_⟩
  · unfold keptC; rw [List.getElem?_map, List.getElem?_eq_getElem (show i < keptL.length from hi)]; rfl
  · exact List.getElem?_eq_getElem _
theorem z5f {σ : Heap} {t : ByteArray} : CRun Tryz.prog 69 [.sc (.string t)] σ (· = .ret (.sc (.bool (kept t))) σ) := by
  refine ZX Tryz.func69 Tryz.ntmps69 ?_
  conv => whnf
  repeat' (first | refine Zh ?_ | refine Za ?_ | refine Zb ?_ | refine Zc ?_ | refine Zd ?_ | refine Ze ?_ | refine Zg ?_ | refine Zv (fun h => ?_) (fun h => ?_) | refine Zj ?_ | refine Zk ?_ | refine Zl ?_ | refine Zm ?_ | refine Zn ?_ | refine Zo ?_ | refine Zp ?_ | refine Zq ?_ | refine Zu (fun l hl => ?_) | refine Zr ?_) <;> try (conv => whnf)
  refine LoopN.rule (α := Nat) (fun i => ⟨18, [(0, .sc (.string t)), (2, .sc (.bool false)), (3, .vec keptC), (4, i64 i)], []⟩)
    (fun _ => σ) (fun i => 29 - i) (fun i => i ≤ 29 ∧ ∀ j, j < i → ∀ s, keptL[j]? = some s → ¬ s = t) ?_ 0 ⟨by omega, by omega⟩ ?_
  · rintro i K ⟨h1, h2⟩ hK
    dsimp only at h1 h2 ⊢
    have hlen : keptC.length = 29 := rfl
    by_cases hi : i < 29
    · obtain ⟨s, hs, hs'⟩ := zy6 hi
      conv => whnf
      repeat' (first | refine Za ?_ | refine Zv (fun h => ?_) (fun h => ?_) | refine Zm ?_ | refine Zo ?_ | refine Zr ?_) <;> try (conv => whnf)
      all_goals first
        | (refine hK (i + 1) _ _ ⟨by omega, yl h2 (fun s' e => by rw [hs'] at e; cases e; assumption)⟩ (by omega) ?_; exact ZW)
        | (refine z7 ?_; unfold kept; exact List.any_eq_true.2 ⟨s, List.mem_of_getElem? hs', decide_eq_true (Eq.symm ‹s = t›)⟩)
    · have hno : kept t = false := by
        refine List.any_eq_false.2 fun s hs => ?_
        obtain ⟨j, hj, e⟩ := List.getElem_of_mem hs
        have := h2 j (by have : keptL.length = 29 := rfl; omega) s (by rw [← e]; exact List.getElem?_eq_getElem hj)
        simpa using fun e => this e.symm
      conv => whnf
      repeat' (first | refine Zb ?_ | refine Zr ?_) <;> try (conv => whnf)
      exact z7 hno
  · exact ZW
theorem zb6 {σ : Heap} {t : ByteArray} (ht : t.size ≤ 1000000000) : CRun Tryz.prog 35 [.sc (.string t)] σ (· = .ret (.sc (.bool (ya t))) σ) := by
  have cl := fun b => split (@zs4 σ b)
  have ck := split (@z5f σ t)
  refine ZX Tryz.func35 Tryz.ntmps35 ?_
  conv => whnf
  repeat' (first | refine Zh ?_ | refine Za ?_ | refine Zb ?_ | refine Zc ?_ | refine Zd ?_ | refine Ze ?_ | refine Zg ?_ | refine Zv (fun h => ?_) (fun h => ?_) | refine Zj ?_ | refine Zk ?_ | refine Zl ?_ | refine Zm ?_ | refine Zn ?_ | refine Zo ?_ | refine Zp ?_ | refine Zq ?_ | refine Zu (fun l hl => ?_) | refine Zr ?_) <;> try (conv => whnf)
  refine LoopN.rule (α := Nat) (fun i => ⟨39, [(0, .sc (.string t)), (2, .sc (.bool false)), (3, i64 i)], []⟩)
    (fun _ => σ) (fun i => t.size - i) (fun i => i ≤ t.size ∧ ∀ j, j < i → za4 t j = true) ?_ 0 ⟨by omega, by omega⟩ ?_
  · rintro i K ⟨h1, h2⟩ hK
    dsimp only at h1 h2 ⊢
    by_cases hi : i < t.size
    · have hb : za4 t i = (jp ((t.data.getD (i : Int).toNat 0).toNat) || (decide (i ≠ 0) && decide (48 ≤ ((t.data.getD (i : Int).toNat 0).toNat : Int) ∧ ((t.data.getD (i : Int).toNat 0).toNat : Int) ≤ 57))) := rfl
      conv => whnf
      repeat' (first | (refine CallN.many (cl _) ?_; rintro _ (⟨hl, rfl⟩ | ⟨hl, rfl⟩)) | refine Za ?_ | refine Zv (fun h => ?_) (fun h => ?_) | refine Zm ?_ | refine Zp ?_ | refine Zr ?_) <;> try (conv => whnf)
      all_goals first
        | (refine hK (i + 1) _ _ ⟨by omega, yl h2 (by rw [hb, hl]; rfl)⟩ (by omega) ?_; exact ZW)
        | (refine hK (i + 1) _ _ ⟨by omega, yl h2 (by rw [hb, decide_eq_true (show i ≠ 0 by omega), decide_eq_true ⟨by omega, by omega⟩]; simp)⟩ (by omega) ?_; exact ZW)
        | (exact z7 (zf5 hi (by
            rw [hb, hl]; simp only [Bool.false_or, Bool.and_eq_false_iff, decide_eq_false_iff_not]
            first
              | exact .inl (by omega)
              | exact .inr (by omega))))
    · have hall : ∀ i, i < t.size → za4 t i = true := fun j hj => h2 j (by omega)
      conv => whnf
      repeat' (first | (refine CallN.many z2r ?_; rintro _ (⟨hr, rfl⟩ | ⟨hr, rfl⟩)) | (refine CallN.many ck ?_; rintro _ (⟨hk, rfl⟩ | ⟨hk, rfl⟩)) | refine Zb ?_ | refine Zp ?_ | refine Zr ?_) <;> try (conv => whnf)
      all_goals first
        | exact z7 (zf6 hk)
        | exact z7 (zhu (by omega) hall hk)
        | exact z7 (zat (by omega))
  · exact ZW
mutual
def zcf (c : Int) : Val → Bool
  | .mk k n t l => decide (k = c) || zk4 c l
def zk4 (c : Int) : List Val → Bool
  | [] => false
  | v :: r => zcf c v || zk4 c r
end
mutual
def plainV : Val → Bool
  | .mk k n t l => zc8 l && decide (1 ≤ k ∧ k ≤ 4)
def zc8 : List Val → Bool
  | [] => true
  | v :: r => plainV v && zc8 r
end
theorem zrd {c : Int} {l : List Val} : zk4 c l = l.any (zcf c) := by
  induction l with
  | nil => rfl
  | cons v r ih => simp [zk4, ih]
theorem zd2 {l : List Val} : zc8 l = l.all plainV := by
  induction l with
  | nil => rfl
  | cons v r ih => simp [zc8, ih]
theorem z2w {c : Int} {l : List Val} (h : ∀ j v, j < l.length → l[j]? = some v → zcf c v = false) : zk4 c l = false := by
  rw [zrd]
  refine List.any_eq_false.2 fun v hv => ?_
  obtain ⟨j, hj, e⟩ := List.getElem_of_mem hv
  simp [h j v hj (by rw [← e]; exact List.getElem?_eq_getElem hj)]
theorem zsh {l : List Val} (h : ∀ j v, j < l.length → l[j]? = some v → plainV v = true) : zc8 l = true := by
  rw [zd2]
  refine List.all_eq_true.2 fun v hv => ?_
  obtain ⟨j, hj, e⟩ := List.getElem_of_mem hv
  exact h j v hj (by rw [← e]; exact List.getElem?_eq_getElem hj)
theorem zt6 {l : List Val} {p : Val → Prop} {i : Nat} {v : Val} (h : ∀ j v, j < i → l[j]? = some v → p v) (hv : l[i]? = some v) (hp : p v) : ∀ j v, j < i + 1 → l[j]? = some v → p v := fun j w hj hw => by
  by_cases e : j = i
  · subst e; rw [hv] at hw; cases hw; exact hp
  · exact h j w (by omega) hw
theorem z2u {σ : Heap} {c : Int} {v : Val} (hv : Tame v) : CRun Tryz.prog 97 [v.cv, i64 c] σ (· = .ret (.sc (.bool (zcf c v))) σ) := by
  induction hv with
  | @mk k n t l hk hn ht hl h ih =>
    have e3 := zj l
    have ih := fun v hm => split (ih v hm)
    refine ZX Tryz.func97 Tryz.ntmps97 ?_
    by_cases hc : k = c
    · conv => whnf
      repeat' (first | refine Za ?_ | refine Zr ?_) <;> try (conv => whnf)
      exact z7 (by unfold zcf; rw [decide_eq_true hc]; rfl)
    · have hh : zcf c (.mk k n t l) = zk4 c l := by simp only [zcf]; rw [decide_eq_false hc]; rfl
      conv => whnf
      repeat' (first | refine Zb ?_) <;> try (conv => whnf)
      refine LoopN.rule (α := Nat) (fun i => ⟨22, [(1, i64 c), (4, .sc (.bool false)), (12, .vec (Val.cvs l)), (13, i64 (Val.cvs l).length), (14, i64 i)], []⟩)
        (fun _ => σ) (fun i => l.length - i) (fun i => i ≤ l.length ∧ ∀ j v, j < i → l[j]? = some v → zcf c v = false) ?_ 0 ⟨by omega, by omega⟩ ?_
      · rintro i K ⟨h1, h2⟩ hK
        dsimp only at h1 h2 ⊢
        by_cases hi : i < l.length
        · obtain ⟨⟨wk, wn, wt, wl⟩, hm, hg, hg'⟩ := za6 hi
          conv => whnf
          repeat' (first | (refine CallN.many (ih _ hm) ?_; rintro _ (⟨hr, rfl⟩ | ⟨hr, rfl⟩)) | refine Za ?_ | refine Zm ?_ | refine Zo ?_ | refine Zp ?_ | refine Zr ?_) <;> try (conv => whnf)
          · exact z7 (by rw [hh, zrd]; exact List.any_eq_true.2 ⟨_, hm, hr⟩)
          · refine hK (i + 1) _ _ ⟨by omega, zt6 h2 hg hr⟩ (by omega) ?_
            exact ZW
        · conv => whnf
          repeat' (first | refine Zb ?_ | refine Zr ?_) <;> try (conv => whnf)
          exact z7 (by rw [hh]; exact z2w fun j v hj => h2 j v (by omega))
      · exact ZW
theorem zyj {σ : Heap} {v : Val} (hv : Tame v) : CRun Tryz.prog 67 [v.cv] σ (· = .ret (.sc (.bool (plainV v))) σ) := by
  induction hv with
  | @mk k n t l hk hn ht hl h ih =>
    have e3 := zj l
    have ih := fun v hm => split (ih v hm)
    have hh : plainV (.mk k n t l) = (zc8 l && decide (1 ≤ k ∧ k ≤ 4)) := by simp only [plainV]
    refine ZX Tryz.func67 Tryz.ntmps67 ?_
    conv => whnf
    repeat' (first | refine Zh ?_ | refine Za ?_ | refine Zb ?_ | refine Zc ?_ | refine Zd ?_ | refine Ze ?_ | refine Zg ?_ | refine Zv (fun h => ?_) (fun h => ?_) | refine Zj ?_ | refine Zk ?_ | refine Zl ?_ | refine Zm ?_ | refine Zn ?_ | refine Zo ?_ | refine Zp ?_ | refine Zq ?_ | refine Zu (fun l hl => ?_) | refine Zr ?_) <;> try (conv => whnf)
    refine LoopN.rule (α := Nat) (fun i => ⟨21, [(1, .ptr (.f 1) 0), (2, .sc (.bool false)), (3, i64 i)], [(1, .cells [i64 k, i64 n, .sc (.string t), .vec (Val.cvs l)])]⟩)
      (fun _ => σ) (fun i => l.length - i) (fun i => i ≤ l.length ∧ ∀ j v, j < i → l[j]? = some v → plainV v = true) ?_ 0 ⟨by omega, by omega⟩ ?_
    · rintro i K ⟨h1, h2⟩ hK
      dsimp only at h1 h2 ⊢
      by_cases hi : i < l.length
      · obtain ⟨⟨wk, wn, wt, wl⟩, hm, hg, hg'⟩ := za6 hi
        conv => whnf
        repeat' (first | (refine CallN.many (ih _ hm) ?_; rintro _ (⟨hr, rfl⟩ | ⟨hr, rfl⟩)) | refine Za ?_ | refine Zm ?_ | refine Zo ?_ | refine Zp ?_ | refine Zr ?_) <;> try (conv => whnf)
        · refine hK (i + 1) _ _ ⟨by omega, zt6 h2 hg hr⟩ (by omega) ?_
          exact ZW
        · exact z7 (by
            rw [hh, zd2, List.all_eq_false.2 ⟨_, hm, by rw [hr]; simp⟩]; rfl)
      · have hp := zsh (l := l) fun j v hj => h2 j v (by omega)
        conv => whnf
        repeat' (first | (refine ZC in_c ?_) | refine Zb ?_ | refine Zp ?_ | refine Zr ?_) <;> try (conv => whnf)
        exact z7 (by rw [hh, hp]; rfl)
    · exact ZW
def zad (v : Val) : Bool := okV 3 v && plainV v
mutual
theorem z0y : ∀ (v : Val) {d : Int}, okV d v = true → plainV v = (!zcf 0 v && !zcf 5 v && !zcf 6 v)
  | .mk k n t l, d, h => by
    have hl : zc8 l = (!zk4 0 l && !zk4 5 l && !zk4 6 l) := by
      by_cases h4 : k = 4
      · subst h4
        exact zv3 l (kh h)
      · by_cases h3 : k = 3
        · subst h3
          rw [(zb0 h).2]; rfl
        · rw [(j9 h h3 h4).2]; rfl
    rcases zar h with ⟨h, _⟩ | h | h | h | h | h | h <;> subst h <;> simp [plainV, zcf, hl]
theorem zv3 : ∀ (l : List Val) {d : Int}, (∀ v ∈ l, okV d v = true) → zc8 l = (!zk4 0 l && !zk4 5 l && !zk4 6 l)
  | [], _, _ => rfl
  | v :: r, d, h => by
    have h1 := z0y v (h v (by simp))
    have h2 := zv3 r fun v hv => h v (by simp [hv])
    simp only [zc8, zk4, h1, h2]
    cases zcf 0 v <;> cases zcf 5 v <;> cases zcf 6 v <;> simp
end
theorem zse {σ : Heap} {v : Val} (hv : Tame v) : CRun Tryz.prog 64 [v.cv] σ (· = .ret (.sc (.bool (zad v))) σ) := by
  have c1 := qj (σ := σ) hv
  have c2 := fun c => z2u (σ := σ) (c := c) hv
  have e : okV 3 v = true → zad v = (!zcf 0 v && !zcf 5 v && !zcf 6 v) := fun h => by unfold zad; rw [h, z0y _ h]; rfl
  have e' : okV 3 v = false → zad v = false := fun h => by unfold zad; rw [h]; rfl
  have h0 := c2 0
  have h5 := c2 5
  have h6 := c2 6
  clear c2
  obtain ⟨k, n, t, l⟩ := v
  refine ZX Tryz.func64 Tryz.ntmps64 ?_
  cases ho : okV 3 (.mk k n t l)
  · rw [ho] at c1
    conv => whnf
    repeat' (first | (refine ZC c1 ?_) | refine Zp ?_ | refine Zr ?_) <;> try (conv => whnf)
    exact z7 (e' ho)
  rw [ho] at c1
  have e := e ho
  cases k0 : zcf 0 (.mk k n t l) <;> rw [k0] at h0 e <;> cases k5 : zcf 5 (.mk k n t l) <;> rw [k5] at h5 e <;> cases k6 : zcf 6 (.mk k n t l) <;> rw [k6] at h6 e
  all_goals
    conv => whnf
    repeat' (first | (refine ZC c1 ?_) | (refine ZC h0 ?_) | (refine ZC h5 ?_) | (refine ZC h6 ?_) | refine Zp ?_ | refine Zr ?_) <;> try (conv => whnf)
    exact z7 e
def wq (l : List ByteArray) : List CV := l.map fun s => .sc (.string s)
theorem jk (l : List ByteArray) : (wq l).length = l.length := by simp [wq]
theorem zfq {l : List ByteArray} {i : Nat} (hi : i < l.length) : ∃ s, s ∈ l ∧ l[i]? = some s ∧ (wq l)[i]? = some (.sc (.string s)) := by
  refine ⟨l[i], List.getElem_mem hi, List.getElem?_eq_getElem hi, ?_⟩
  unfold wq; rw [List.getElem?_map, List.getElem?_eq_getElem hi]; rfl
def lt (s t : ByteArray) : Bool := Op.bytesLess s.toList t.toList
def kw (l : List ByteArray) (i : Nat) : Bool := match l[i]? with
  | some s => ya s && match i with
    | 0 => true
    | j + 1 => match l[j]? with
      | some q => lt q s
      | none => true
  | none => true
def y3 (l : List ByteArray) : Bool := decide (l.length ≤ 3) && (List.range l.length).all (kw l)
theorem jm {p : Nat → Bool} {n i : Nat} (hi : i < n) (h : p i = false) : (List.range n).all p = false := List.all_eq_false.2 ⟨i, List.mem_range.2 hi, by simp [h]⟩
theorem wu {p : Nat → Bool} {n : Nat} (h : ∀ i, i < n → p i = true) : (List.range n).all p = true := List.all_eq_true.2 fun i hi => h i (List.mem_range.1 hi)
theorem zeq {l : List ByteArray} {s : ByteArray} (hg : l[0]? = some s) : kw l 0 = ya s := by unfold kw; rw [hg]; simp
theorem zer {l : List ByteArray} {j : Nat} {q s : ByteArray} (hg : l[j + 1]? = some s) (qg : l[j]? = some q) : kw l (j + 1) = (ya s && lt q s) := by
  unfold kw; rw [hg]; simp only [qg]
theorem zab (j : Nat) : (((j + 1 : Nat) : Int) - 1).toNat = j := by omega
theorem zs3 {σ : Heap} {l : List ByteArray} (hl : l.length ≤ 1000) (ht : ∀ s ∈ l, s.size ≤ 1000) : CRun Tryz.prog 28 [.vec (wq l)] σ (· = .ret (.sc (.bool (y3 l))) σ) := by
  have e3 := jk l
  refine ZX Tryz.func28 Tryz.ntmps28 ?_
  by_cases h3 : l.length ≤ 3
  case neg =>
    conv => whnf
    repeat' (first | refine Za ?_ | refine Zr ?_) <;> try (conv => whnf)
    exact z7 (by unfold y3; rw [decide_eq_false h3]; rfl)
  have hh : y3 l = (List.range l.length).all (kw l) := by unfold y3; rw [decide_eq_true h3]; rfl
  conv => whnf
  repeat' (first | refine Zb ?_) <;> try (conv => whnf)
  refine LoopN.rule (α := Nat) (fun i => ⟨32, [(0, .vec (wq l)), (2, .sc (.bool false)), (8, .vec (wq l)), (9, i64 (wq l).length), (10, i64 i)], []⟩)
    (fun _ => σ) (fun i => l.length - i) (fun i => i ≤ l.length ∧ ∀ j, j < i → kw l j = true) ?_ 0 ⟨by omega, by omega⟩ ?_
  · rintro i K ⟨h1, h2⟩ hK
    dsimp only at h1 h2 ⊢
    by_cases hi : i < l.length
    · obtain ⟨s, hm, hg, hg'⟩ := zfq hi
      have c1 := qh (σ := σ) (t := s) (by have := ht s hm; omega)
      have no := fun h => z7 (σ := σ) (b := false) (b' := y3 l) (by rw [hh, jm hi h])
      cases i with
      | zero =>
        have e := zeq hg
        cases hn : ya s <;> rw [hn] at c1 e
        · conv => whnf
          repeat' (first | (refine ZC c1 ?_) | refine Za ?_ | refine Zm ?_ | refine Zo ?_ | refine Zp ?_ | refine Zr ?_) <;> try (conv => whnf)
          exact no e
        · conv => whnf
          repeat' (first | (refine ZC c1 ?_) | refine Za ?_ | refine Zb ?_ | refine Zm ?_ | refine Zo ?_ | refine Zp ?_) <;> try (conv => whnf)
          refine hK 1 _ _ ⟨by omega, yl h2 e⟩ (by omega) ?_
          exact ZW
      | succ j =>
        obtain ⟨q, qm, qg, qg'⟩ := zfq (l := l) (i := j) (by omega)
        have qg2 : (wq l)[(((j + 1 : Nat) : Int) - 1).toNat]? = some (.sc (.string q)) := by rw [zab]; exact qg'
        have e := zer hg qg
        unfold lt at e
        cases hn : ya s <;> rw [hn] at c1 e <;> cases hb : Op.bytesLess q.toList s.toList <;> rw [hb] at e <;> have hb' := congrArg not hb <;> dsimp only [not] at hb'
        · conv => whnf
          repeat' (first | (refine ZC c1 ?_) | refine Za ?_ | refine Zm ?_ | refine Zo ?_ | refine Zp ?_ | refine Zr ?_) <;> try (conv => whnf)
          exact no e
        · conv => whnf
          repeat' (first | (refine ZC c1 ?_) | refine Za ?_ | refine Zm ?_ | refine Zo ?_ | refine Zp ?_ | refine Zr ?_) <;> try (conv => whnf)
          exact no e
        · conv => whnf
          repeat' (first | (refine ZC c1 ?_) | refine Za ?_ | refine Ze ?_ | refine Zm ?_ | refine Zo ?_ | refine Zp ?_ | refine Zr ?_) <;> try (conv => whnf)
          exact no e
        · conv => whnf
          repeat' (first | (refine ZC c1 ?_) | refine Za ?_ | refine Zg ?_ | refine Zm ?_ | refine Zo ?_ | refine Zp ?_) <;> try (conv => whnf)
          refine hK (j + 2) _ _ ⟨by omega, yl h2 e⟩ (by omega) ?_
          exact ZW
    · have hall : ∀ i, i < l.length → kw l i = true := fun j hj => h2 j (by omega)
      conv => whnf
      repeat' (first | refine Zb ?_ | refine Zr ?_) <;> try (conv => whnf)
      exact z7 (by rw [hh, wu hall])
  · exact ZW
theorem zhw {σ : Heap} {l : List ByteArray} (hl : l.length ≤ 1000) (ht : ∀ s ∈ l, s.size ≤ 1000) : CRun Tryz.prog 33 [.vec (wq l)] σ (· = .ret (.sc (.bool (y3 l))) σ) := by
  have e3 := jk l
  refine ZX Tryz.func33 Tryz.ntmps33 ?_
  have no : ∀ i, i < l.length → kw l i = false → COut.ret (.sc (.bool false)) σ = .ret (.sc (.bool (y3 l))) σ := fun i hi h => z7 (by unfold y3; rw [jm hi h]; simp)
  conv => whnf
  repeat' (first | refine Zh ?_ | refine Za ?_ | refine Zb ?_ | refine Zc ?_ | refine Zd ?_ | refine Ze ?_ | refine Zg ?_ | refine Zv (fun h => ?_) (fun h => ?_) | refine Zj ?_ | refine Zk ?_ | refine Zl ?_ | refine Zm ?_ | refine Zn ?_ | refine Zo ?_ | refine Zp ?_ | refine Zq ?_ | refine Zu (fun l hl => ?_) | refine Zr ?_) <;> try (conv => whnf)
  refine LoopN.rule (α := Nat) (fun i => ⟨35, [(0, .vec (wq l)), (2, .sc (.bool false)), (3, i64 i)], []⟩)
    (fun _ => σ) (fun i => l.length - i) (fun i => i ≤ l.length ∧ ∀ j, j < i → kw l j = true) ?_ 0 ⟨by omega, by omega⟩ ?_
  · rintro i K ⟨h1, h2⟩ hK
    dsimp only at h1 h2 ⊢
    by_cases hi : i < l.length
    · obtain ⟨s, hm, hg, hg'⟩ := zfq hi
      have c1 := zb6 (σ := σ) (t := s) (by have := ht s hm; omega)
      have no := no i hi
      cases i with
      | zero =>
        have e := zeq hg
        cases hn : ya s <;> rw [hn] at c1 e
        · conv => whnf
          repeat' (first | (refine ZC c1 ?_) | refine Zi ?_ | refine Za ?_ | refine Zm ?_ | refine Zn ?_ | refine Zo ?_ | refine Zp ?_ | refine Zr ?_) <;> try (conv => whnf)
          exact no e
        · conv => whnf
          repeat' (first | (refine ZC c1 ?_) | refine Zi ?_ | refine Za ?_ | refine Zb ?_ | refine Zm ?_ | refine Zn ?_ | refine Zo ?_ | refine Zp ?_) <;> try (conv => whnf)
          refine hK 1 _ _ ⟨by omega, yl h2 e⟩ (by omega) ?_
          exact ZW
      | succ j =>
        obtain ⟨q, qm, qg, qg'⟩ := zfq (l := l) (i := j) (by omega)
        have qg2 : (wq l)[(((j + 1 : Nat) : Int) - 1).toNat]? = some (.sc (.string q)) := by rw [zab]; exact qg'
        have e := zer hg qg
        unfold lt at e
        cases hn : ya s <;> rw [hn] at c1 e <;> cases hb : Op.bytesLess q.toList s.toList <;> rw [hb] at e <;> have hb' := congrArg not hb <;> dsimp only [not] at hb'
        · conv => whnf
          repeat' (first | (refine ZC c1 ?_) | refine Zi ?_ | refine Za ?_ | refine Zm ?_ | refine Zn ?_ | refine Zo ?_ | refine Zp ?_ | refine Zr ?_) <;> try (conv => whnf)
          exact no e
        · conv => whnf
          repeat' (first | (refine ZC c1 ?_) | refine Zi ?_ | refine Za ?_ | refine Zm ?_ | refine Zn ?_ | refine Zo ?_ | refine Zp ?_ | refine Zr ?_) <;> try (conv => whnf)
          exact no e
        · conv => whnf
          repeat' (first | (refine ZC c1 ?_) | refine Zi ?_ | refine Za ?_ | refine Ze ?_ | refine Zm ?_ | refine Zn ?_ | refine Zo ?_ | refine Zp ?_ | refine Zr ?_) <;> try (conv => whnf)
          exact no e
        · conv => whnf
          repeat' (first | (refine ZC c1 ?_) | refine Zi ?_ | refine Za ?_ | refine Zg ?_ | refine Zm ?_ | refine Zn ?_ | refine Zo ?_ | refine Zp ?_) <;> try (conv => whnf)
          refine hK (j + 2) _ _ ⟨by omega, yl h2 e⟩ (by omega) ?_
          exact ZW
    · have hall : ∀ i, i < l.length → kw l i = true := fun j hj => h2 j (by omega)
      by_cases h3 : l.length ≤ 3
      · conv => whnf
        repeat' (first | refine Za ?_ | refine Zb ?_ | refine Zr ?_) <;> try (conv => whnf)
        exact z7 (by unfold y3; rw [decide_eq_true h3, wu hall]; rfl)
      · conv => whnf
        repeat' (first | refine Zb ?_ | refine Zr ?_) <;> try (conv => whnf)
        exact z7 (by unfold y3; rw [decide_eq_false h3]; rfl)
  · exact ZW
structure Pr where
  name : ByteArray
  val : Val
def Pr.cv (p : Pr) : CV := match p.val with
  | .mk k n t l => .agg [.sc (.string p.name), i64 k, i64 n, .sc (.string t), .vec (Val.cvs l)]
def prs (l : List Pr) : List CV := l.map Pr.cv
theorem vw (l : List Pr) : (prs l).length = l.length := by simp [prs]
theorem zcd {l : List Pr} {i : Nat} (hi : i < l.length) : ∃ s k n t v, ⟨s, .mk k n t v⟩ ∈ l ∧ l[i]? = some ⟨s, .mk k n t v⟩ ∧ (prs l)[i]? = some (.agg [.sc (.string s), i64 k, i64 n, .sc (.string t), .vec (Val.cvs v)]) := by
  have h := List.getElem_mem hi
  have h2 := List.getElem?_eq_getElem hi
  have h3 : (prs l)[i]? = some (l[i]).cv := by unfold prs; rw [List.getElem?_map, h2]; rfl
  generalize l[i] = p at h h2 h3
  obtain ⟨s, k, n, t, v⟩ := p
  exact ⟨s, k, n, t, v, h, h2, h3⟩
structure PrTame (p : Pr) : Prop where
  name : p.name.size ≤ 1000
  val : Tame p.val
def zc7 (p : Pr) : Bool := ya p.name && zad p.val
def zai (l : List Pr) (i : Nat) : Bool := match l[i]? with
  | some s => zc7 s && match i with
    | 0 => true
    | j + 1 => match l[j]? with
      | some q => lt q.name s.name
      | none => true
  | none => true
def yi (l : List Pr) : Bool := decide (l.length ≤ 4) && (List.range l.length).all (zai l)
theorem zfz {l : List Pr} {s : Pr} (hg : l[0]? = some s) : zai l 0 = zc7 s := by unfold zai; rw [hg]; simp
theorem zf0 {l : List Pr} {j : Nat} {q s : Pr} (hg : l[j + 1]? = some s) (qg : l[j]? = some q) : zai l (j + 1) = (zc7 s && lt q.name s.name) := by
  unfold zai; rw [hg]; simp only [qg]
set_option maxHeartbeats 1000000 in
theorem zlo {σ : Heap} {l : List Pr} (hl : l.length ≤ 1000) (ht : ∀ s ∈ l, PrTame s) : CRun Tryz.prog 29 [.vec (prs l)] σ (· = .ret (.sc (.bool (yi l))) σ) := by
  have e3 := vw l
  refine ZX Tryz.func29 Tryz.ntmps29 ?_
  by_cases h3 : l.length ≤ 4
  case neg =>
    conv => whnf
    repeat' (first | refine Za ?_ | refine Zr ?_) <;> try (conv => whnf)
    exact z7 (by unfold yi; rw [decide_eq_false h3]; rfl)
  have no : ∀ i, i < l.length → zai l i = false → COut.ret (.sc (.bool false)) σ = .ret (.sc (.bool (yi l))) σ := fun i hi h => z7 (by unfold yi; rw [jm hi h]; simp)
  conv => whnf
  repeat' (first | refine Zb ?_) <;> try (conv => whnf)
  refine LoopN.rule (α := Nat) (fun i => ⟨41, [(0, .vec (prs l)), (2, .sc (.bool false)), (8, .vec (prs l)), (9, i64 (prs l).length), (10, i64 i)], []⟩)
    (fun _ => σ) (fun i => l.length - i) (fun i => i ≤ l.length ∧ ∀ j, j < i → zai l j = true) ?_ 0 ⟨by omega, by omega⟩ ?_
  · rintro i K ⟨h1, h2⟩ hK
    dsimp only at h1 h2 ⊢
    by_cases hi : i < l.length
    · obtain ⟨s, vk, vn, vt, vl, hm, hg, hg'⟩ := zcd hi
      have c1 := qh (σ := σ) (t := s) (by have := (ht _ hm).name; dsimp only at this; omega)
      have c2 := zse (σ := σ) (ht _ hm).val
      have no := no i hi
      cases i with
      | zero =>
        have e := zfz hg
        unfold zc7 at e
        cases hn : ya s <;> rw [hn] at c1 e
        · conv => whnf
          repeat' (first | (refine ZC c1 ?_) | refine Zi ?_ | refine Za ?_ | refine Zm ?_ | refine Zn ?_ | refine Zo ?_ | refine Zp ?_ | refine Zr ?_) <;> try (conv => whnf)
          exact no e
        cases hv : zad (.mk vk vn vt vl) <;> rw [hv] at c2 e
        · conv => whnf
          repeat' (first | (refine ZC c1 ?_) | (refine ZC c2 ?_) | refine Zi ?_ | refine Za ?_ | refine Zm ?_ | refine Zn ?_ | refine Zo ?_ | refine Zp ?_ | refine Zr ?_) <;> try (conv => whnf)
          exact no e
        conv => whnf
        repeat' (first | (refine ZC c1 ?_) | (refine ZC c2 ?_) | refine Zi ?_ | refine Za ?_ | refine Zb ?_ | refine Zm ?_ | refine Zn ?_ | refine Zo ?_ | refine Zp ?_) <;> try (conv => whnf)
        refine hK 1 _ _ ⟨by omega, yl h2 e⟩ (by omega) ?_
        exact ZW
      | succ j =>
        obtain ⟨q, qk, qn, qt, ql, qm, qg, qg'⟩ := zcd (l := l) (i := j) (by omega)
        have qg2 : (prs l)[(((j + 1 : Nat) : Int) - 1).toNat]? = some (.agg [.sc (.string q), i64 qk, i64 qn, .sc (.string qt), .vec (Val.cvs ql)]) := by rw [zab]; exact qg'
        have e := zf0 hg qg
        unfold lt zc7 at e
        dsimp only at e
        cases hn : ya s <;> rw [hn] at c1 e
        · conv => whnf
          repeat' (first | (refine ZC c1 ?_) | refine Zi ?_ | refine Za ?_ | refine Zm ?_ | refine Zn ?_ | refine Zo ?_ | refine Zp ?_ | refine Zr ?_) <;> try (conv => whnf)
          exact no e
        cases hv : zad (.mk vk vn vt vl) <;> rw [hv] at c2 e
        · conv => whnf
          repeat' (first | (refine ZC c1 ?_) | (refine ZC c2 ?_) | refine Zi ?_ | refine Za ?_ | refine Zm ?_ | refine Zn ?_ | refine Zo ?_ | refine Zp ?_ | refine Zr ?_) <;> try (conv => whnf)
          exact no e
        cases hb : Op.bytesLess q.toList s.toList <;> rw [hb] at e <;> have hb' := congrArg not hb <;> dsimp only [not] at hb'
        · conv => whnf
          repeat' (first | (refine ZC c1 ?_) | (refine ZC c2 ?_) | refine Zi ?_ | refine Za ?_ | refine Ze ?_ | refine Zm ?_ | refine Zn ?_ | refine Zo ?_ | refine Zp ?_ | refine Zr ?_) <;> try (conv => whnf)
          exact no e
        conv => whnf
        repeat' (first | (refine ZC c1 ?_) | (refine ZC c2 ?_) | refine Zi ?_ | refine Za ?_ | refine Zg ?_ | refine Zm ?_ | refine Zn ?_ | refine Zo ?_ | refine Zp ?_) <;> try (conv => whnf)
        refine hK (j + 2) _ _ ⟨by omega, yl h2 e⟩ (by omega) ?_
        exact ZW
    · have hall : ∀ i, i < l.length → zai l i = true := fun j hj => h2 j (by omega)
      conv => whnf
      repeat' (first | refine Zb ?_ | refine Zr ?_) <;> try (conv => whnf)
      exact z7 (by unfold yi; rw [decide_eq_true h3, wu hall]; rfl)
  · exact ZW
set_option maxHeartbeats 1000000 in
theorem zde {σ : Heap} {l : List Pr} (hl : l.length ≤ 1000) (ht : ∀ s ∈ l, PrTame s) : CRun Tryz.prog 34 [.vec (prs l)] σ (· = .ret (.sc (.bool (yi l))) σ) := by
  have e3 := vw l
  refine ZX Tryz.func34 Tryz.ntmps34 ?_
  have no : ∀ i, i < l.length → zai l i = false → COut.ret (.sc (.bool false)) σ = .ret (.sc (.bool (yi l))) σ := fun i hi h => z7 (by unfold yi; rw [jm hi h]; simp)
  conv => whnf
  repeat' (first | refine Zh ?_ | refine Za ?_ | refine Zb ?_ | refine Zc ?_ | refine Zd ?_ | refine Ze ?_ | refine Zg ?_ | refine Zv (fun h => ?_) (fun h => ?_) | refine Zj ?_ | refine Zk ?_ | refine Zl ?_ | refine Zm ?_ | refine Zn ?_ | refine Zo ?_ | refine Zp ?_ | refine Zq ?_ | refine Zu (fun l hl => ?_) | refine Zr ?_) <;> try (conv => whnf)
  refine LoopN.rule (α := Nat) (fun i => ⟨56, [(0, .vec (prs l)), (2, .sc (.bool false)), (3, i64 i)], []⟩)
    (fun _ => σ) (fun i => l.length - i) (fun i => i ≤ l.length ∧ ∀ j, j < i → zai l j = true) ?_ 0 ⟨by omega, by omega⟩ ?_
  · rintro i K ⟨h1, h2⟩ hK
    dsimp only at h1 h2 ⊢
    by_cases hi : i < l.length
    · obtain ⟨s, vk, vn, vt, vl, hm, hg, hg'⟩ := zcd hi
      have c1 := zb6 (σ := σ) (t := s) (by have := (ht _ hm).name; dsimp only at this; omega)
      have c2 := zij (σ := σ) (ht _ hm).val
      have c3 := zyj (σ := σ) (ht _ hm).val
      have no := no i hi
      cases i with
      | zero =>
        have e := zfz hg
        unfold zc7 zad at e
        cases hn : ya s <;> rw [hn] at c1 e
        · conv => whnf
          repeat' (first | (refine ZC c1 ?_) | refine Zi ?_ | refine Za ?_ | refine Zm ?_ | refine Zn ?_ | refine Zo ?_ | refine Zp ?_ | refine Zr ?_) <;> try (conv => whnf)
          exact no e
        cases hv : okV 3 (.mk vk vn vt vl) <;> rw [hv] at c2 e
        · conv => whnf
          repeat' (first | (refine ZC c1 ?_) | (refine ZC c2 ?_) | refine Zi ?_ | refine Za ?_ | refine Zm ?_ | refine Zn ?_ | refine Zo ?_ | refine Zp ?_ | refine Zr ?_) <;> try (conv => whnf)
          exact no e
        cases hp : plainV (.mk vk vn vt vl) <;> rw [hp] at c3 e
        · conv => whnf
          repeat' (first | (refine ZC c1 ?_) | (refine ZC c2 ?_) | (refine ZC c3 ?_) | refine Zi ?_ | refine Za ?_ | refine Zm ?_ | refine Zn ?_ | refine Zo ?_ | refine Zp ?_ | refine Zr ?_) <;> try (conv => whnf)
          exact no e
        conv => whnf
        repeat' (first | (refine ZC c1 ?_) | (refine ZC c2 ?_) | (refine ZC c3 ?_) | refine Zi ?_ | refine Za ?_ | refine Zb ?_ | refine Zm ?_ | refine Zn ?_ | refine Zo ?_ | refine Zp ?_) <;> try (conv => whnf)
        refine hK 1 _ _ ⟨by omega, yl h2 e⟩ (by omega) ?_
        exact ZW
      | succ j =>
        obtain ⟨q, qk, qn, qt, ql, qm, qg, qg'⟩ := zcd (l := l) (i := j) (by omega)
        have qg2 : (prs l)[(((j + 1 : Nat) : Int) - 1).toNat]? = some (.agg [.sc (.string q), i64 qk, i64 qn, .sc (.string qt), .vec (Val.cvs ql)]) := by rw [zab]; exact qg'
        have e := zf0 hg qg
        unfold lt zc7 zad at e
        dsimp only at e
        cases hn : ya s <;> rw [hn] at c1 e
        · conv => whnf
          repeat' (first | (refine ZC c1 ?_) | refine Zi ?_ | refine Za ?_ | refine Zm ?_ | refine Zn ?_ | refine Zo ?_ | refine Zp ?_ | refine Zr ?_) <;> try (conv => whnf)
          exact no e
        cases hv : okV 3 (.mk vk vn vt vl) <;> rw [hv] at c2 e
        · conv => whnf
          repeat' (first | (refine ZC c1 ?_) | (refine ZC c2 ?_) | refine Zi ?_ | refine Za ?_ | refine Zm ?_ | refine Zn ?_ | refine Zo ?_ | refine Zp ?_ | refine Zr ?_) <;> try (conv => whnf)
          exact no e
        cases hp : plainV (.mk vk vn vt vl) <;> rw [hp] at c3 e
        · conv => whnf
          repeat' (first | (refine ZC c1 ?_) | (refine ZC c2 ?_) | (refine ZC c3 ?_) | refine Zi ?_ | refine Za ?_ | refine Zm ?_ | refine Zn ?_ | refine Zo ?_ | refine Zp ?_ | refine Zr ?_) <;> try (conv => whnf)
          exact no e
        cases hb : Op.bytesLess q.toList s.toList <;> rw [hb] at e <;> have hb' := congrArg not hb <;> dsimp only [not] at hb'
        · conv => whnf
          repeat' (first | (refine ZC c1 ?_) | (refine ZC c2 ?_) | (refine ZC c3 ?_) | refine Zi ?_ | refine Za ?_ | refine Ze ?_ | refine Zm ?_ | refine Zn ?_ | refine Zo ?_ | refine Zp ?_ | refine Zr ?_) <;> try (conv => whnf)
          exact no e
        conv => whnf
        repeat' (first | (refine ZC c1 ?_) | (refine ZC c2 ?_) | (refine ZC c3 ?_) | refine Zi ?_ | refine Za ?_ | refine Zg ?_ | refine Zm ?_ | refine Zn ?_ | refine Zo ?_ | refine Zp ?_) <;> try (conv => whnf)
        refine hK (j + 2) _ _ ⟨by omega, yl h2 e⟩ (by omega) ?_
        exact ZW
    · have hall : ∀ i, i < l.length → zai l i = true := fun j hj => h2 j (by omega)
      by_cases h3 : l.length ≤ 4
      · conv => whnf
        repeat' (first | refine Za ?_ | refine Zb ?_ | refine Zr ?_) <;> try (conv => whnf)
        exact z7 (by unfold yi; rw [decide_eq_true h3, wu hall]; rfl)
      · conv => whnf
        repeat' (first | refine Zb ?_ | refine Zr ?_) <;> try (conv => whnf)
        exact z7 (by unfold yi; rw [decide_eq_false h3]; rfl)
  · exact ZW
def qr (k : Int) : Int := if (1 ≤ k ∧ k ≤ 4) ∨ k = 14 then 0 else if k = 9 ∨ k = 11 ∨ k = 13 ∨ k = 15 then 1 else if (5 ≤ k ∧ k ≤ 8) ∨ k = 10 ∨ k = 12 then 2 else -1
theorem z16 {σ : Heap} {k : Int} : CRun Tryz.prog 123 [i64 k] σ (· = .ret (i64 (qr k)) σ) := by
  refine ZX Tryz.func123 Tryz.ntmps123 ?_
  conv => whnf
  repeat' (first | refine Zv (fun h => ?_) (fun h => ?_) | refine Zr ?_) <;> try (conv => whnf)
  all_goals first
    | exact zcs (by subst_vars; decide)
    | exact zcs (by unfold qr; repeat' split <;> omega)
theorem z3l {σ : Heap} {k : Int} : CRun Tryz.prog 90 [i64 k] σ (· = .ret (i64 (qr k)) σ) := by
  refine ZX Tryz.func90 Tryz.ntmps90 ?_
  conv => whnf
  repeat' (first | (refine CallN.many z2r ?_; rintro _ (⟨hr, rfl⟩ | ⟨hr, rfl⟩)) | refine Zv (fun h => ?_) (fun h => ?_) | refine Zp ?_ | refine Zr ?_) <;> try (conv => whnf)
  all_goals exact zcs (by unfold qr; repeat' split <;> omega)
def zgl : Val → Bool
  | .mk k n t l => decide (k = 0 ∧ n = 0 ∧ t = ⟨#[]⟩ ∧ l.length = 0)
theorem z29 {σ : Heap} {v : Val} (hv : Tame v) : CRun Tryz.prog 124 [v.cv] σ (· = .ret (.sc (.bool (zgl v))) σ) := by
  obtain ⟨k, n, t, l⟩ := v
  obtain ⟨_, _, _, hl, _⟩ := hv.inv
  have e3 := zj l
  have no : ¬ (k = 0 ∧ n = 0 ∧ t = ⟨#[]⟩ ∧ l.length = 0) → zgl (.mk k n t l) = false := fun h => decide_eq_false h
  by_cases a1 : k = 0
  case neg =>
    refine ZX Tryz.func124 Tryz.ntmps124 ?_
    conv => whnf
    repeat' (first | refine Zb ?_ | refine Zr ?_) <;> try (conv => whnf)
    exact z7 (no (by omega))
  by_cases a2 : n = 0
  case neg =>
    refine ZX Tryz.func124 Tryz.ntmps124 ?_
    conv => whnf
    repeat' (first | refine Za ?_ | refine Zb ?_ | refine Zr ?_) <;> try (conv => whnf)
    exact z7 (no (by omega))
  by_cases a3 : t = ⟨#[]⟩
  case neg =>
    refine ZX Tryz.func124 Tryz.ntmps124 ?_
    conv => whnf
    repeat' (first | refine Za ?_ | refine Zb ?_ | refine Zr ?_) <;> try (conv => whnf)
    exact z7 (no (fun h => a3 h.2.2.1))
  refine ZX Tryz.func124 Tryz.ntmps124 ?_
  conv => whnf
  repeat' (first | refine Za ?_ | refine Zv (fun h => ?_) (fun h => ?_) | refine Zr ?_) <;> try (conv => whnf)
  · exact z7 (decide_eq_true ⟨a1, a2, a3, by omega⟩)
  · exact z7 (no (by omega))
mutual
def litV : Val → Bool
  | .mk k n t l => zyz l && decide (k ≤ 4)
def zyz : List Val → Bool
  | [] => true
  | v :: r => litV v && zyz r
end
theorem zq5 {l : List Val} : zyz l = l.all litV := by
  induction l with
  | nil => rfl
  | cons v r ih => simp [zyz, ih]
theorem zyy {l : List Val} (h : ∀ j v, j < l.length → l[j]? = some v → litV v = true) : zyz l = true := by
  rw [zq5]
  refine List.all_eq_true.2 fun v hv => ?_
  obtain ⟨j, hj, e⟩ := List.getElem_of_mem hv
  exact h j v hj (by rw [← e]; exact List.getElem?_eq_getElem hj)
theorem z66 {σ : Heap} {v : Val} (hv : Tame v) : CRun Tryz.prog 89 [v.cv] σ (· = .ret (.sc (.bool (litV v))) σ) := by
  induction hv with
  | @mk k n t l hk hn ht hl h ih =>
    have e3 := zj l
    have ih := fun v hm => split (ih v hm)
    have hh : litV (.mk k n t l) = (zyz l && decide (k ≤ 4)) := by simp only [litV]
    refine ZX Tryz.func89 Tryz.ntmps89 ?_
    conv => whnf
    repeat' (first | refine Zh ?_ | refine Za ?_ | refine Zb ?_ | refine Zc ?_ | refine Zd ?_ | refine Ze ?_ | refine Zg ?_ | refine Zv (fun h => ?_) (fun h => ?_) | refine Zj ?_ | refine Zk ?_ | refine Zl ?_ | refine Zm ?_ | refine Zn ?_ | refine Zo ?_ | refine Zp ?_ | refine Zq ?_ | refine Zu (fun l hl => ?_) | refine Zr ?_) <;> try (conv => whnf)
    refine LoopN.rule (α := Nat) (fun i => ⟨21, [(1, .ptr (.f 1) 0), (2, .sc (.bool false)), (3, i64 i)], [(1, .cells [i64 k, i64 n, .sc (.string t), .vec (Val.cvs l)])]⟩)
      (fun _ => σ) (fun i => l.length - i) (fun i => i ≤ l.length ∧ ∀ j v, j < i → l[j]? = some v → litV v = true) ?_ 0 ⟨by omega, by omega⟩ ?_
    · rintro i K ⟨h1, h2⟩ hK
      dsimp only at h1 h2 ⊢
      by_cases hi : i < l.length
      · obtain ⟨⟨wk, wn, wt, wl⟩, hm, hg, hg'⟩ := za6 hi
        conv => whnf
        repeat' (first | (refine CallN.many (ih _ hm) ?_; rintro _ (⟨hr, rfl⟩ | ⟨hr, rfl⟩)) | refine Za ?_ | refine Zm ?_ | refine Zo ?_ | refine Zp ?_ | refine Zr ?_) <;> try (conv => whnf)
        · refine hK (i + 1) _ _ ⟨by omega, zt6 h2 hg hr⟩ (by omega) ?_
          exact ZW
        · exact z7 (by
            rw [hh, zq5, List.all_eq_false.2 ⟨_, hm, by rw [hr]; simp⟩]; rfl)
      · have hp := zyy (l := l) fun j v hj => h2 j v (by omega)
        by_cases h4 : k ≤ 4
        · conv => whnf
          repeat' (first | refine Za ?_ | refine Zb ?_ | refine Zr ?_) <;> try (conv => whnf)
          exact z7 (by rw [hh, hp, decide_eq_true h4]; rfl)
        · conv => whnf
          repeat' (first | refine Zb ?_ | refine Zr ?_) <;> try (conv => whnf)
          exact z7 (by rw [hh, hp, decide_eq_false h4]; rfl)
    · exact ZW
mutual
theorem zvl : ∀ (v : Val) {d : Int}, okV d v = true → litV v = (!zcf 5 v && !zcf 6 v)
  | .mk k n t l, d, h => by
    have hl : zyz l = (!zk4 5 l && !zk4 6 l) := by
      by_cases h4 : k = 4
      · subst h4
        exact zvm l (kh h)
      · by_cases h3 : k = 3
        · subst h3
          rw [(zb0 h).2]; rfl
        · rw [(j9 h h3 h4).2]; rfl
    rcases zar h with ⟨h, _⟩ | h | h | h | h | h | h <;> subst h <;> simp [litV, zcf, hl]
theorem zvm : ∀ (l : List Val) {d : Int}, (∀ v ∈ l, okV d v = true) → zyz l = (!zk4 5 l && !zk4 6 l)
  | [], _, _ => rfl
  | v :: r, d, h => by
    have h1 := zvl v (h v (by simp))
    have h2 := zvm r fun v hv => h v (by simp [hv])
    simp only [zyz, zk4, h1, h2]
    cases zcf 5 v <;> cases zcf 6 v <;> simp
end
theorem zq8 {σ : Heap} {v : Val} (hv : Tame v) : ∀ {v' : Val}, Tame v' → CRun Tryz.prog 88 [v.cv, v'.cv] σ (· = .ret (.sc (.bool (xf v v'))) σ) := by
  induction hv with
  | @mk k n t l hk hn ht hl h ih =>
    intro v' hv'
    obtain ⟨k', n', t', l'⟩ := v'
    obtain ⟨b1, b2, b3, b4, b5⟩ := hv'.inv
    have e3 := zj l
    have e4 := zj l'
    by_cases hk : k = k' ∧ n = n' ∧ t = t' ∧ l.length = l'.length
    case neg =>
      have o : xf (.mk k n t l) (.mk k' n' t' l') = false := by
        simp only [xf]
        by_cases h1 : k = k' ∧ n = n' ∧ t = t'
        · rw [zc0 (fun e => hk ⟨h1.1, h1.2.1, h1.2.2, e⟩), Bool.and_false]
        · rw [decide_eq_false h1, Bool.false_and]
      refine ZX Tryz.func88 Tryz.ntmps88 ?_
      by_cases h1 : k = k'
      case neg =>
        conv => whnf
        repeat' (first | refine Zh ?_ | refine Za ?_ | refine Zb ?_ | refine Zc ?_ | refine Zd ?_ | refine Ze ?_ | refine Zg ?_ | refine Zv (fun h => ?_) (fun h => ?_) | refine Zj ?_ | refine Zk ?_ | refine Zl ?_ | refine Zm ?_ | refine Zn ?_ | refine Zo ?_ | refine Zp ?_ | refine Zq ?_ | refine Zu (fun l hl => ?_) | refine Zr ?_) <;> try (conv => whnf)
        exact z7 o
      by_cases h2 : n = n'
      case neg =>
        conv => whnf
        repeat' (first | refine Zh ?_ | refine Za ?_ | refine Zb ?_ | refine Zc ?_ | refine Zd ?_ | refine Ze ?_ | refine Zg ?_ | refine Zv (fun h => ?_) (fun h => ?_) | refine Zj ?_ | refine Zk ?_ | refine Zl ?_ | refine Zm ?_ | refine Zn ?_ | refine Zo ?_ | refine Zp ?_ | refine Zq ?_ | refine Zu (fun l hl => ?_) | refine Zr ?_) <;> try (conv => whnf)
        exact z7 o
      by_cases h3 : t = t'
      case neg =>
        conv => whnf
        repeat' (first | refine Zh ?_ | refine Za ?_ | refine Zb ?_ | refine Zc ?_ | refine Zd ?_ | refine Ze ?_ | refine Zg ?_ | refine Zv (fun h => ?_) (fun h => ?_) | refine Zj ?_ | refine Zk ?_ | refine Zl ?_ | refine Zm ?_ | refine Zn ?_ | refine Zo ?_ | refine Zp ?_ | refine Zq ?_ | refine Zu (fun l hl => ?_) | refine Zr ?_) <;> try (conv => whnf)
        exact z7 o
      have h4 : l.length ≠ l'.length := fun e => hk ⟨h1, h2, h3, e⟩
      conv => whnf
      repeat' (first | refine Zh ?_ | refine Za ?_ | refine Zb ?_ | refine Zc ?_ | refine Zd ?_ | refine Ze ?_ | refine Zg ?_ | refine Zv (fun h => ?_) (fun h => ?_) | refine Zj ?_ | refine Zk ?_ | refine Zl ?_ | refine Zm ?_ | refine Zn ?_ | refine Zo ?_ | refine Zp ?_ | refine Zq ?_ | refine Zu (fun l hl => ?_) | refine Zr ?_) <;> try (conv => whnf)
      exact z7 o
    obtain ⟨h1, h2, h3, h4⟩ := hk
    have o : xf (.mk k n t l) (.mk k' n' t' l') = qv l l' := by simp only [xf]; rw [decide_eq_true ⟨h1, h2, h3⟩, Bool.true_and]
    refine ZX Tryz.func88 Tryz.ntmps88 ?_
    conv => whnf
    repeat' (first | refine Zh ?_ | refine Za ?_ | refine Zb ?_ | refine Zc ?_ | refine Zd ?_ | refine Ze ?_ | refine Zg ?_ | refine Zv (fun h => ?_) (fun h => ?_) | refine Zj ?_ | refine Zk ?_ | refine Zl ?_ | refine Zm ?_ | refine Zn ?_ | refine Zo ?_ | refine Zp ?_ | refine Zq ?_ | refine Zu (fun l hl => ?_) | refine Zr ?_) <;> try (conv => whnf)
    refine LoopN.rule (α := Nat) (fun i => ⟨53, [(2, .ptr (.f 2) 0), (3, .ptr (.f 3) 0), (5, i64 i)], [(2, .cells [i64 k, i64 n, .sc (.string t), .vec (Val.cvs l)]), (3, .cells [i64 k', i64 n', .sc (.string t'), .vec (Val.cvs l')])]⟩)
      (fun _ => σ) (fun i => l.length - i) (fun i => i ≤ l.length ∧ qv l l' = qv (l.drop i) (l'.drop i)) ?_ 0 ⟨Nat.zero_le _, rfl⟩ ?_
    · rintro i K ⟨g1, g3⟩ hK
      dsimp only at g1 g3 ⊢
      by_cases hi : i < l.length
      · obtain ⟨w, hm, hw, hg⟩ := za6 hi
        obtain ⟨w', hm', hw', hg'⟩ := za6 (l := l') (i := i) (by omega)
        have hc := ih w hm (b5 w' hm')
        have hK := hK (i + 1)
        rw [ki hw, ki hw'] at g3
        simp only [qv] at g3
        cases hz : xf w w' with
        | true =>
          rw [hz] at hc
          rw [hz, Bool.true_and] at g3
          obtain ⟨wk, wn, wt, wl⟩ := w
          obtain ⟨wk', wn', wt', wl'⟩ := w'
          conv => whnf
          repeat' (first | (refine ZC hc ?_) | refine Zh ?_ | refine Za ?_ | refine Zb ?_ | refine Zc ?_ | refine Zd ?_ | refine Ze ?_ | refine Zg ?_ | refine Zv (fun h => ?_) (fun h => ?_) | refine Zj ?_ | refine Zk ?_ | refine Zl ?_ | refine Zm ?_ | refine Zn ?_ | refine Zo ?_ | refine Zp ?_ | refine Zq ?_ | refine Zu (fun l hl => ?_) | refine Zr ?_) <;> try (conv => whnf)
          refine hK _ _ ⟨by omega, g3⟩ (by omega) ?_
          exact ZW
        | false =>
          rw [hz] at hc
          rw [hz, Bool.false_and] at g3
          obtain ⟨wk, wn, wt, wl⟩ := w
          obtain ⟨wk', wn', wt', wl'⟩ := w'
          conv => whnf
          repeat' (first | (refine ZC hc ?_) | refine Zh ?_ | refine Za ?_ | refine Zb ?_ | refine Zc ?_ | refine Zd ?_ | refine Ze ?_ | refine Zg ?_ | refine Zv (fun h => ?_) (fun h => ?_) | refine Zj ?_ | refine Zk ?_ | refine Zl ?_ | refine Zm ?_ | refine Zn ?_ | refine Zo ?_ | refine Zp ?_ | refine Zq ?_ | refine Zu (fun l hl => ?_) | refine Zr ?_) <;> try (conv => whnf)
          exact z7 (o.trans g3)
      · rw [List.drop_eq_nil_of_le (by omega), List.drop_eq_nil_of_le (by omega)] at g3
        conv => whnf
        repeat' (first | refine Zh ?_ | refine Za ?_ | refine Zb ?_ | refine Zc ?_ | refine Zd ?_ | refine Ze ?_ | refine Zg ?_ | refine Zv (fun h => ?_) (fun h => ?_) | refine Zj ?_ | refine Zk ?_ | refine Zl ?_ | refine Zm ?_ | refine Zn ?_ | refine Zo ?_ | refine Zp ?_ | refine Zq ?_ | refine Zu (fun l hl => ?_) | refine Zr ?_) <;> try (conv => whnf)
        exact z7 (o.trans g3)
    · exact ZW
theorem zql {σ : Heap} {v : Val} (hv : Tame v) : ∀ {v' : Val}, Tame v' → CRun Tryz.prog 52 [v.cv, v'.cv] σ (· = .ret (.sc (.bool (xf v v'))) σ) := by
  induction hv with
  | @mk k n t l hk hn ht hl h ih =>
    intro v' hv'
    obtain ⟨k', n', t', l'⟩ := v'
    obtain ⟨b1, b2, b3, b4, b5⟩ := hv'.inv
    have e3 := zj l
    have e4 := zj l'
    by_cases hk : k = k' ∧ n = n' ∧ t = t' ∧ l.length = l'.length
    case neg =>
      have o : xf (.mk k n t l) (.mk k' n' t' l') = false := by
        simp only [xf]
        by_cases h1 : k = k' ∧ n = n' ∧ t = t'
        · rw [zc0 (fun e => hk ⟨h1.1, h1.2.1, h1.2.2, e⟩), Bool.and_false]
        · rw [decide_eq_false h1, Bool.false_and]
      refine ZX Tryz.func52 Tryz.ntmps52 ?_
      by_cases h1 : k = k'
      case neg =>
        conv => whnf
        repeat' (first | refine Zh ?_ | refine Za ?_ | refine Zb ?_ | refine Zc ?_ | refine Zd ?_ | refine Ze ?_ | refine Zg ?_ | refine Zv (fun h => ?_) (fun h => ?_) | refine Zj ?_ | refine Zk ?_ | refine Zl ?_ | refine Zm ?_ | refine Zn ?_ | refine Zo ?_ | refine Zp ?_ | refine Zq ?_ | refine Zu (fun l hl => ?_) | refine Zr ?_) <;> try (conv => whnf)
        exact z7 o
      by_cases h2 : n = n'
      case neg =>
        conv => whnf
        repeat' (first | refine Zh ?_ | refine Za ?_ | refine Zb ?_ | refine Zc ?_ | refine Zd ?_ | refine Ze ?_ | refine Zg ?_ | refine Zv (fun h => ?_) (fun h => ?_) | refine Zj ?_ | refine Zk ?_ | refine Zl ?_ | refine Zm ?_ | refine Zn ?_ | refine Zo ?_ | refine Zp ?_ | refine Zq ?_ | refine Zu (fun l hl => ?_) | refine Zr ?_) <;> try (conv => whnf)
        exact z7 o
      by_cases h3 : t = t'
      case neg =>
        conv => whnf
        repeat' (first | refine Zh ?_ | refine Za ?_ | refine Zb ?_ | refine Zc ?_ | refine Zd ?_ | refine Ze ?_ | refine Zg ?_ | refine Zv (fun h => ?_) (fun h => ?_) | refine Zj ?_ | refine Zk ?_ | refine Zl ?_ | refine Zm ?_ | refine Zn ?_ | refine Zo ?_ | refine Zp ?_ | refine Zq ?_ | refine Zu (fun l hl => ?_) | refine Zr ?_) <;> try (conv => whnf)
        exact z7 o
      have h4 : l.length ≠ l'.length := fun e => hk ⟨h1, h2, h3, e⟩
      conv => whnf
      repeat' (first | refine Zh ?_ | refine Za ?_ | refine Zb ?_ | refine Zc ?_ | refine Zd ?_ | refine Ze ?_ | refine Zg ?_ | refine Zv (fun h => ?_) (fun h => ?_) | refine Zj ?_ | refine Zk ?_ | refine Zl ?_ | refine Zm ?_ | refine Zn ?_ | refine Zo ?_ | refine Zp ?_ | refine Zq ?_ | refine Zu (fun l hl => ?_) | refine Zr ?_) <;> try (conv => whnf)
      exact z7 o
    obtain ⟨h1, h2, h3, h4⟩ := hk
    have o : xf (.mk k n t l) (.mk k' n' t' l') = qv l l' := by simp only [xf]; rw [decide_eq_true ⟨h1, h2, h3⟩, Bool.true_and]
    refine ZX Tryz.func52 Tryz.ntmps52 ?_
    conv => whnf
    repeat' (first | refine Zh ?_ | refine Za ?_ | refine Zb ?_ | refine Zc ?_ | refine Zd ?_ | refine Ze ?_ | refine Zg ?_ | refine Zv (fun h => ?_) (fun h => ?_) | refine Zj ?_ | refine Zk ?_ | refine Zl ?_ | refine Zm ?_ | refine Zn ?_ | refine Zo ?_ | refine Zp ?_ | refine Zq ?_ | refine Zu (fun l hl => ?_) | refine Zr ?_) <;> try (conv => whnf)
    refine LoopN.rule (α := Nat) (fun i => ⟨53, [(2, .ptr (.f 2) 0), (3, .ptr (.f 3) 0), (36, i64 (Val.cvs l).length), (37, i64 i)], [(2, .cells [i64 k, i64 n, .sc (.string t), .vec (Val.cvs l)]), (3, .cells [i64 k', i64 n', .sc (.string t'), .vec (Val.cvs l')])]⟩)
      (fun _ => σ) (fun i => l.length - i) (fun i => i ≤ l.length ∧ qv l l' = qv (l.drop i) (l'.drop i)) ?_ 0 ⟨Nat.zero_le _, rfl⟩ ?_
    · rintro i K ⟨g1, g3⟩ hK
      dsimp only at g1 g3 ⊢
      by_cases hi : i < l.length
      · obtain ⟨w, hm, hw, hg⟩ := za6 hi
        obtain ⟨w', hm', hw', hg'⟩ := za6 (l := l') (i := i) (by omega)
        have hc := ih w hm (b5 w' hm')
        have hK := hK (i + 1)
        rw [ki hw, ki hw'] at g3
        simp only [qv] at g3
        cases hz : xf w w' with
        | true =>
          rw [hz] at hc
          rw [hz, Bool.true_and] at g3
          obtain ⟨wk, wn, wt, wl⟩ := w
          obtain ⟨wk', wn', wt', wl'⟩ := w'
          conv => whnf
          repeat' (first | (refine ZC hc ?_) | refine Zh ?_ | refine Za ?_ | refine Zb ?_ | refine Zc ?_ | refine Zd ?_ | refine Ze ?_ | refine Zg ?_ | refine Zv (fun h => ?_) (fun h => ?_) | refine Zj ?_ | refine Zk ?_ | refine Zl ?_ | refine Zm ?_ | refine Zn ?_ | refine Zo ?_ | refine Zp ?_ | refine Zq ?_ | refine Zu (fun l hl => ?_) | refine Zr ?_) <;> try (conv => whnf)
          refine hK _ _ ⟨by omega, g3⟩ (by omega) ?_
          exact ZW
        | false =>
          rw [hz] at hc
          rw [hz, Bool.false_and] at g3
          obtain ⟨wk, wn, wt, wl⟩ := w
          obtain ⟨wk', wn', wt', wl'⟩ := w'
          conv => whnf
          repeat' (first | (refine ZC hc ?_) | refine Zh ?_ | refine Za ?_ | refine Zb ?_ | refine Zc ?_ | refine Zd ?_ | refine Ze ?_ | refine Zg ?_ | refine Zv (fun h => ?_) (fun h => ?_) | refine Zj ?_ | refine Zk ?_ | refine Zl ?_ | refine Zm ?_ | refine Zn ?_ | refine Zo ?_ | refine Zp ?_ | refine Zq ?_ | refine Zu (fun l hl => ?_) | refine Zr ?_) <;> try (conv => whnf)
          exact z7 (o.trans g3)
      · rw [List.drop_eq_nil_of_le (by omega), List.drop_eq_nil_of_le (by omega)] at g3
        conv => whnf
        repeat' (first | refine Zh ?_ | refine Za ?_ | refine Zb ?_ | refine Zc ?_ | refine Zd ?_ | refine Ze ?_ | refine Zg ?_ | refine Zv (fun h => ?_) (fun h => ?_) | refine Zj ?_ | refine Zk ?_ | refine Zl ?_ | refine Zm ?_ | refine Zn ?_ | refine Zo ?_ | refine Zp ?_ | refine Zq ?_ | refine Zu (fun l hl => ?_) | refine Zr ?_) <;> try (conv => whnf)
        exact z7 (o.trans g3)
    · exact ZW
theorem zra {σ : Heap} {k n : Int} {t : ByteArray} {l : List CV} {b : Bool} (hb0 : decide (k = 1 ∧ n = 0) = b) : CRun Tryz.prog 140 [.agg [i64 k, i64 n, .sc (.string t), .vec l]] σ (· = .ret (.sc (.bool b)) σ) := by
  refine ZX Tryz.func140 Tryz.ntmps140 ?_
  conv => whnf
  repeat' (first | refine Zh ?_ | refine Za ?_ | refine Zb ?_ | refine Zc ?_ | refine Zd ?_ | refine Ze ?_ | refine Zg ?_ | refine Zv (fun h => ?_) (fun h => ?_) | refine Zj ?_ | refine Zk ?_ | refine Zl ?_ | refine Zm ?_ | refine Zn ?_ | refine Zo ?_ | refine Zp ?_ | refine Zq ?_ | refine Zu (fun l hl => ?_) | refine Zr ?_) <;> try (conv => whnf)
  all_goals exact z7 (hb0.symm.trans (by first | exact decide_eq_true (by omega) | exact decide_eq_false (by omega)))
theorem zka {σ : Heap} {k n : Int} {t : ByteArray} {l : List CV} {b : Bool} (hb0 : decide (k = 1 ∧ n = 1) = b) : CRun Tryz.prog 121 [.agg [i64 k, i64 n, .sc (.string t), .vec l]] σ (· = .ret (.sc (.bool b)) σ) := by
  refine ZX Tryz.func121 Tryz.ntmps121 ?_
  conv => whnf
  repeat' (first | refine Zh ?_ | refine Za ?_ | refine Zb ?_ | refine Zc ?_ | refine Zd ?_ | refine Ze ?_ | refine Zg ?_ | refine Zv (fun h => ?_) (fun h => ?_) | refine Zj ?_ | refine Zk ?_ | refine Zl ?_ | refine Zm ?_ | refine Zn ?_ | refine Zo ?_ | refine Zp ?_ | refine Zq ?_ | refine Zu (fun l hl => ?_) | refine Zr ?_) <;> try (conv => whnf)
  all_goals exact z7 (hb0.symm.trans (by first | exact decide_eq_true (by omega) | exact decide_eq_false (by omega)))
inductive T3 where
  | no | unk | yes
def T3.of : Bool → T3
  | true => .yes
  | false => .no
def T3.v : T3 → Val
  | .no => .mk 1 0 ⟨#[]⟩ []
  | .unk => .mk 0 0 ⟨#[]⟩ []
  | .yes => .mk 1 1 ⟨#[]⟩ []
def z08 : Bool → T3 → T3
  | true, x => x
  | false, .no => .no
  | false, _ => .unk
mutual
def eq3 : Val → Val → T3
  | .mk k n t l, .mk k' n' t' l' => if k = 0 ∨ k' = 0 then .unk else if k ≠ 4 ∨ k' ≠ 4 then T3.of (xf (.mk k n t l) (.mk k' n' t' l')) else if l.length ≠ l'.length then .no else eqL l l'
def eqL : List Val → List Val → T3
  | v :: r, w :: s => match eq3 v w with
    | .no => .no
    | .unk => z08 false (eqL r s)
    | .yes => eqL r s
  | _, _ => .yes
end
theorem z3c {v w : Val} {r s : List Val} {b : Bool} (h : eq3 v w = .no) : z08 b (eqL (v :: r) (w :: s)) = .no := by simp only [eqL]; rw [h]; cases b <;> rfl
theorem zzv {v w : Val} {r s : List Val} {b : Bool} (h : eq3 v w = .unk) : z08 b (eqL (v :: r) (w :: s)) = z08 false (eqL r s) := by
  simp only [eqL]; rw [h]; cases b
  · cases eqL r s <;> rfl
  · rfl
theorem zzu {v w : Val} {r s : List Val} {b : Bool} (h : eq3 v w = .yes) : z08 b (eqL (v :: r) (w :: s)) = z08 b (eqL r s) := by simp only [eqL]; rw [h]
theorem z27 : eqL [] [] = .yes := by simp only [eqL]
theorem ofB (b : Bool) : zxd b = (T3.of b).v := by cases b <;> rfl
theorem z1c {a b : T3} {σ : Heap} (h : b = a) : COut.ret a.v.cv σ = .ret b.v.cv σ := by rw [h]
theorem zt0 {σ : Heap} {b : Bool} : CRun Tryz.prog 139 [.sc (.bool b)] σ (· = .ret (T3.of b).v.cv σ) := ofB b ▸ z1k
def z78 : Bool → List CV
  | true => [i64 1, i64 1, .sc (.string ⟨#[]⟩), .vec []]
  | false => [i64 0, i64 0, .sc (.string ⟨#[]⟩), .vec []]
set_option maxHeartbeats 1000000 in
theorem zgj {σ : Heap} {v : Val} (hv : Tame v) : ∀ {v' : Val}, Tame v' → CRun Tryz.prog 122 [v.cv, v'.cv] σ (· = .ret (eq3 v v').v.cv σ) := by
  induction hv with
  | @mk k n t l hk hn ht hl h ih =>
    intro v' hv'
    have hs := zql (σ := σ) (.mk hk hn ht hl h) hv'
    obtain ⟨k', n', t', l'⟩ := v'
    obtain ⟨b1, b2, b3, b4, b5⟩ := hv'.inv
    have e3 := zj l
    have e4 := zj l'
    have y0 := @zt0 σ
    by_cases z1 : k = 0
    · have o : eq3 (.mk k n t l) (.mk k' n' t' l') = .unk := by simp only [eq3]; rw [if_pos (.inl z1)]
      refine ZX Tryz.func122 Tryz.ntmps122 ?_
      conv => whnf
      repeat' (first | refine Zh ?_ | refine Za ?_ | refine Zb ?_ | refine Zc ?_ | refine Zd ?_ | refine Ze ?_ | refine Zg ?_ | refine Zv (fun h => ?_) (fun h => ?_) | refine Zj ?_ | refine Zk ?_ | refine Zl ?_ | refine Zm ?_ | refine Zn ?_ | refine Zo ?_ | refine Zp ?_ | refine Zq ?_ | refine Zu (fun l hl => ?_) | refine Zr ?_) <;> try (conv => whnf)
      exact z1c o
    by_cases z2 : k' = 0
    · have o : eq3 (.mk k n t l) (.mk k' n' t' l') = .unk := by simp only [eq3]; rw [if_pos (.inr z2)]
      refine ZX Tryz.func122 Tryz.ntmps122 ?_
      conv => whnf
      repeat' (first | refine Zh ?_ | refine Za ?_ | refine Zb ?_ | refine Zc ?_ | refine Zd ?_ | refine Ze ?_ | refine Zg ?_ | refine Zv (fun h => ?_) (fun h => ?_) | refine Zj ?_ | refine Zk ?_ | refine Zl ?_ | refine Zm ?_ | refine Zn ?_ | refine Zo ?_ | refine Zp ?_ | refine Zq ?_ | refine Zu (fun l hl => ?_) | refine Zr ?_) <;> try (conv => whnf)
      exact z1c o
    have z3 : ¬ (k = 0 ∨ k' = 0) := by omega
    by_cases f1 : k = 4
    case neg =>
      have o : eq3 (.mk k n t l) (.mk k' n' t' l') = T3.of (xf (.mk k n t l) (.mk k' n' t' l')) := by simp only [eq3]; rw [if_neg z3, if_pos (.inl f1)]
      cases hsv : xf (.mk k n t l) (.mk k' n' t' l') <;> rw [hsv] at hs o
      all_goals
        refine ZX Tryz.func122 Tryz.ntmps122 ?_
        conv => whnf
        repeat' (first | (refine ZC hs ?_) | (refine ZC y0 ?_) | refine Zh ?_ | refine Za ?_ | refine Zb ?_ | refine Zc ?_ | refine Zd ?_ | refine Ze ?_ | refine Zg ?_ | refine Zv (fun h => ?_) (fun h => ?_) | refine Zj ?_ | refine Zk ?_ | refine Zl ?_ | refine Zm ?_ | refine Zn ?_ | refine Zo ?_ | refine Zp ?_ | refine Zq ?_ | refine Zu (fun l hl => ?_) | refine Zr ?_) <;> try (conv => whnf)
        exact z1c o
    by_cases f2 : k' = 4
    case neg =>
      have o : eq3 (.mk k n t l) (.mk k' n' t' l') = T3.of (xf (.mk k n t l) (.mk k' n' t' l')) := by simp only [eq3]; rw [if_neg z3, if_pos (.inr f2)]
      cases hsv : xf (.mk k n t l) (.mk k' n' t' l') <;> rw [hsv] at hs o
      all_goals
        refine ZX Tryz.func122 Tryz.ntmps122 ?_
        conv => whnf
        repeat' (first | (refine ZC hs ?_) | (refine ZC y0 ?_) | refine Zh ?_ | refine Za ?_ | refine Zb ?_ | refine Zc ?_ | refine Zd ?_ | refine Ze ?_ | refine Zg ?_ | refine Zv (fun h => ?_) (fun h => ?_) | refine Zj ?_ | refine Zk ?_ | refine Zl ?_ | refine Zm ?_ | refine Zn ?_ | refine Zo ?_ | refine Zp ?_ | refine Zq ?_ | refine Zu (fun l hl => ?_) | refine Zr ?_) <;> try (conv => whnf)
        exact z1c o
    have f3 : ¬ (k ≠ 4 ∨ k' ≠ 4) := by omega
    by_cases q : l.length = l'.length
    case neg =>
      have o : eq3 (.mk k n t l) (.mk k' n' t' l') = .no := by simp only [eq3]; rw [if_neg z3, if_neg f3, if_pos q]
      have hs' : xf (.mk k n t l) (.mk k' n' t' l') = false := by simp only [xf]; rw [zc0 q, Bool.and_false]
      rw [hs'] at hs
      refine ZX Tryz.func122 Tryz.ntmps122 ?_
      conv => whnf
      repeat' (first | (refine ZC hs ?_) | (refine ZC y0 ?_) | refine Zh ?_ | refine Za ?_ | refine Zb ?_ | refine Zc ?_ | refine Zd ?_ | refine Ze ?_ | refine Zg ?_ | refine Zv (fun h => ?_) (fun h => ?_) | refine Zj ?_ | refine Zk ?_ | refine Zl ?_ | refine Zm ?_ | refine Zn ?_ | refine Zo ?_ | refine Zp ?_ | refine Zq ?_ | refine Zu (fun l hl => ?_) | refine Zr ?_) <;> try (conv => whnf)
      exact z1c o
    have o : eq3 (.mk k n t l) (.mk k' n' t' l') = eqL l l' := by simp only [eq3]; rw [if_neg z3, if_neg f3, if_neg (by omega)]
    refine ZX Tryz.func122 Tryz.ntmps122 ?_
    conv => whnf
    repeat' (first | (refine ZC hs ?_) | (refine ZC y0 ?_) | refine Zh ?_ | refine Za ?_ | refine Zb ?_ | refine Zc ?_ | refine Zd ?_ | refine Ze ?_ | refine Zg ?_ | refine Zv (fun h => ?_) (fun h => ?_) | refine Zj ?_ | refine Zk ?_ | refine Zl ?_ | refine Zm ?_ | refine Zn ?_ | refine Zo ?_ | refine Zp ?_ | refine Zq ?_ | refine Zu (fun l hl => ?_) | refine Zr ?_) <;> try (conv => whnf)
    refine LoopN.rule (α := Nat × Bool) (fun s => ⟨65, [(2, .ptr (.f 2) 0), (3, .ptr (.f 3) 0), (4, .ptr (.f 4) 0), (5, .ptr (.f 5) 0), (41, i64 (Val.cvs l).length), (42, i64 s.1)],
        [(2, .cells [i64 k, i64 n, .sc (.string t), .vec (Val.cvs l)]), (3, .cells [i64 k', i64 n', .sc (.string t'), .vec (Val.cvs l')]), (4, .cells [i64 0, i64 0, .sc (.string ⟨#[]⟩), .nil]), (5, .cells (z78 s.2))]⟩)
      (fun _ => σ) (fun s => l.length - s.1) (fun s => s.1 ≤ l.length ∧ eqL l l' = z08 s.2 (eqL (l.drop s.1) (l'.drop s.1))) ?_ (0, true) ⟨Nat.zero_le _, rfl⟩ ?_
    rotate_left
    · exact ZW
    rintro ⟨i, kn⟩ K ⟨g1, g3⟩ hK
    dsimp only at g1 g3 ⊢
    by_cases hi : i < l.length
    · obtain ⟨w, hm, hw, hg⟩ := za6 hi
      obtain ⟨w', hm', hw', hg'⟩ := za6 (l := l') (i := i) (by omega)
      have hc := ih w hm (b5 w' hm')
      rw [ki hw, ki hw'] at g3
      obtain ⟨wk, wn, wt, wl⟩ := w
      obtain ⟨wk', wn', wt', wl'⟩ := w'
      cases hz : eq3 (.mk wk wn wt wl) (.mk wk' wn' wt' wl') with
      | no =>
        rw [hz] at hc
        rw [z3c hz] at g3
        have isn := zra (σ := σ) (k := 1) (n := 0) (t := ⟨#[]⟩) (l := []) (b := true) rfl
        cases kn
        all_goals
          conv => whnf
          repeat' (first | (refine ZC hc ?_) | (refine ZC isn ?_) | refine Zh ?_ | refine Za ?_ | refine Zb ?_ | refine Zc ?_ | refine Zd ?_ | refine Ze ?_ | refine Zg ?_ | refine Zv (fun h => ?_) (fun h => ?_) | refine Zj ?_ | refine Zk ?_ | refine Zl ?_ | refine Zm ?_ | refine Zn ?_ | refine Zo ?_ | refine Zp ?_ | refine Zq ?_ | refine Zu (fun l hl => ?_) | refine Zr ?_) <;> try (conv => whnf)
          exact z1c (o.trans g3)
      | unk =>
        rw [hz] at hc
        rw [zzv hz] at g3
        have isn := zra (σ := σ) (k := 0) (n := 0) (t := ⟨#[]⟩) (l := []) (b := false) rfl
        cases kn
        all_goals
          conv => whnf
          repeat' (first | (refine ZC hc ?_) | (refine ZC isn ?_) | refine Zh ?_ | refine Za ?_ | refine Zb ?_ | refine Zc ?_ | refine Zd ?_ | refine Ze ?_ | refine Zg ?_ | refine Zv (fun h => ?_) (fun h => ?_) | refine Zj ?_ | refine Zk ?_ | refine Zl ?_ | refine Zm ?_ | refine Zn ?_ | refine Zo ?_ | refine Zp ?_ | refine Zq ?_ | refine Zu (fun l hl => ?_) | refine Zr ?_) <;> try (conv => whnf)
          refine hK (i + 1, false) _ _ ⟨by dsimp only; omega, g3⟩ (by dsimp only; omega) ?_
          exact ZW
      | yes =>
        rw [hz] at hc
        rw [zzu hz] at g3
        have isn := zra (σ := σ) (k := 1) (n := 1) (t := ⟨#[]⟩) (l := []) (b := false) rfl
        cases kn
        · conv => whnf
          repeat' (first | (refine ZC hc ?_) | (refine ZC isn ?_) | refine Zh ?_ | refine Za ?_ | refine Zb ?_ | refine Zc ?_ | refine Zd ?_ | refine Ze ?_ | refine Zg ?_ | refine Zv (fun h => ?_) (fun h => ?_) | refine Zj ?_ | refine Zk ?_ | refine Zl ?_ | refine Zm ?_ | refine Zn ?_ | refine Zo ?_ | refine Zp ?_ | refine Zq ?_ | refine Zu (fun l hl => ?_) | refine Zr ?_) <;> try (conv => whnf)
          refine hK (i + 1, false) _ _ ⟨by dsimp only; omega, g3⟩ (by dsimp only; omega) ?_
          exact ZW
        · conv => whnf
          repeat' (first | (refine ZC hc ?_) | (refine ZC isn ?_) | refine Zh ?_ | refine Za ?_ | refine Zb ?_ | refine Zc ?_ | refine Zd ?_ | refine Ze ?_ | refine Zg ?_ | refine Zv (fun h => ?_) (fun h => ?_) | refine Zj ?_ | refine Zk ?_ | refine Zl ?_ | refine Zm ?_ | refine Zn ?_ | refine Zo ?_ | refine Zp ?_ | refine Zq ?_ | refine Zu (fun l hl => ?_) | refine Zr ?_) <;> try (conv => whnf)
          refine hK (i + 1, true) _ _ ⟨by dsimp only; omega, g3⟩ (by dsimp only; omega) ?_
          exact ZW
    · rw [List.drop_eq_nil_of_le (by omega), List.drop_eq_nil_of_le (by omega), z27] at g3
      cases kn
      · conv => whnf
        repeat' (first | (refine ZC y0 ?_) | refine Zh ?_ | refine Za ?_ | refine Zb ?_ | refine Zc ?_ | refine Zd ?_ | refine Ze ?_ | refine Zg ?_ | refine Zv (fun h => ?_) (fun h => ?_) | refine Zj ?_ | refine Zk ?_ | refine Zl ?_ | refine Zm ?_ | refine Zn ?_ | refine Zo ?_ | refine Zp ?_ | refine Zq ?_ | refine Zu (fun l hl => ?_) | refine Zr ?_) <;> try (conv => whnf)
        exact z1c (o.trans g3)
      · conv => whnf
        repeat' (first | (refine ZC y0 ?_) | refine Zh ?_ | refine Za ?_ | refine Zb ?_ | refine Zc ?_ | refine Zd ?_ | refine Ze ?_ | refine Zg ?_ | refine Zv (fun h => ?_) (fun h => ?_) | refine Zj ?_ | refine Zk ?_ | refine Zl ?_ | refine Zm ?_ | refine Zn ?_ | refine Zo ?_ | refine Zp ?_ | refine Zq ?_ | refine Zu (fun l hl => ?_) | refine Zr ?_) <;> try (conv => whnf)
        exact z1c (o.trans g3)
inductive Rs where
  | ok (v : Val)
  | err (c : Int)
def zep (σ : Heap) : Rs → COut
  | .ok v => .ret v.cv σ
  | .err c => .pan (.iface 120 (i64 c)) σ
def t3 : Val → Option T3
  | .mk k n _ _ => if k = 0 then some .unk else if k = 1 then some (if n = 0 then .no else .yes) else none
def zsu : T3 → T3
  | .no => .yes
  | .unk => .unk
  | .yes => .no
def z34 : T3 → T3 → T3
  | .no, _ => .no
  | _, .no => .no
  | .unk, _ => .unk
  | _, .unk => .unk
  | .yes, .yes => .yes
def zxy (v : Val) : Rs := match t3 v with
  | some t => .ok (zsu t).v
  | none => .err 1
def zk1 (v w : Val) : Rs := match t3 v, t3 w with
  | some t, some u => .ok (z34 t u).v
  | _, _ => .err 1
def zyq (v w : Val) : Rs := match t3 v, t3 w with
  | some t, some u => .ok (zsu (z34 (zsu t) (zsu u))).v
  | _, _ => .err 1
def zhy : Val → Int
  | .mk k _ _ _ => k
def zst (v : Val) : Rs := .ok (T3.of (decide (zhy v = 0))).v
def z30 (n : Int) : Val := .mk 2 n ⟨#[]⟩ []
def zyc : Val → Rs
  | .mk k n t l => if k = 0 then .ok nullV else if k = 4 then .ok (z30 l.length) else if k = 3 then .ok (z30 t.size) else .err 1
def in3 (a : Val) : List Val → T3
  | [] => .no
  | v :: r => match eq3 a v with
    | .yes => .yes
    | .unk => (match in3 a r with | .yes => .yes | _ => .unk)
    | .no => in3 a r
def z6n (a : Val) : Val → Rs
  | .mk k n t l => if k = 0 then .ok nullV else if k = 4 then .ok (in3 a l).v else .err 1
theorem z71 (t : T3) : t3 t.v = some t := by cases t <;> rfl
theorem z4g {k n : Int} {s : ByteArray} {l : List Val} : t3 (.mk k n s l) = if k = 0 then some .unk else if k = 1 then some (if n = 0 then .no else .yes) else none := rfl
theorem zsb {v : Val} {t : T3} (h : t3 v = some t) {d : Int} (hk : okV d v = true) : v = t.v := by
  obtain ⟨k, n, s, l⟩ := v
  rw [z4g] at h
  by_cases h0 : k = 0
  · subst h0
    rw [if_pos rfl] at h
    cases h
    obtain ⟨e1, e2⟩ := j9 hk (by decide) (by decide)
    rcases zar hk with ⟨_, e3⟩ | h | h | h | h | h | h
    · rw [e1, e2, e3]; rfl
    all_goals omega
  · by_cases h1 : k = 1
    · subst h1
      rw [if_neg (by decide), if_pos rfl] at h
      obtain ⟨e1, e2⟩ := j9 hk (by decide) (by decide)
      have hn : 0 ≤ n ∧ n ≤ 1 := by
        simp only [okV] at hk
        simp at hk
        omega
      rw [e1, e2]
      by_cases hz : n = 0
      · rw [if_pos hz] at h; cases h; rw [hz]; rfl
      · rw [if_neg hz] at h; cases h; rw [show n = 1 by omega]; rfl
    · rw [if_neg h0, if_neg h1] at h; cases h
theorem zoi {k n : Int} {s : ByteArray} {l : List Val} (h : t3 (.mk k n s l) = none) : ¬ k = 0 ∧ ¬ k = 1 := by
  rw [z4g] at h
  by_cases h0 : k = 0
  · rw [if_pos h0] at h; cases h
  · by_cases h1 : k = 1
    · rw [if_neg h0, if_pos h1] at h; cases h
    · exact ⟨h0, h1⟩
theorem yx {v : CV} {σ : Heap} {post : COut → Prop} (h : post (.pan v σ)) : FinP v σ post := .pan σ (Sub.refl _) h
theorem zpe {σ : Heap} {k n : Int} {t : ByteArray} {l : List CV} (h : k = 0 ∨ k = 1) : CRun Tryz.prog 166 [.agg [i64 k, i64 n, .sc (.string t), .vec l]] σ (· = .ret (.tup []) σ) := by
  refine ZX Tryz.func166 Tryz.ntmps166 ?_
  rcases h with rfl | rfl
  all_goals
    conv => whnf
    repeat' (first | refine Zh ?_ | refine Za ?_ | refine Zb ?_ | refine Zc ?_ | refine Zd ?_ | refine Ze ?_ | refine Zg ?_ | refine Zv (fun h => ?_) (fun h => ?_) | refine Zj ?_ | refine Zk ?_ | refine Zl ?_ | refine Zm ?_ | refine Zn ?_ | refine Zo ?_ | refine Zp ?_ | refine Zq ?_ | refine Zu (fun l hl => ?_) | refine Zr ?_) <;> try (conv => whnf)
    all_goals rfl
theorem zpf {σ : Heap} {k n : Int} {t : ByteArray} {l : List CV} (h : ¬ k = 0 ∧ ¬ k = 1) : CRun Tryz.prog 166 [.agg [i64 k, i64 n, .sc (.string t), .vec l]] σ (· = zep σ (.err 1)) := by
  obtain ⟨h0, h1⟩ := h
  refine ZX Tryz.func166 Tryz.ntmps166 ?_
  conv => whnf
  repeat' (first | (refine yx ?_) | refine Zh ?_ | refine Za ?_ | refine Zb ?_ | refine Zc ?_ | refine Zd ?_ | refine Ze ?_ | refine Zg ?_ | refine Zv (fun h => ?_) (fun h => ?_) | refine Zj ?_ | refine Zk ?_ | refine Zl ?_ | refine Zm ?_ | refine Zn ?_ | refine Zo ?_ | refine Zp ?_ | refine Zq ?_ | refine Zu (fun l hl => ?_) | refine Zr ?_) <;> try (conv => whnf)
  all_goals rfl
theorem zjz {σ : Heap} {v : Val} (hv : okV 3 v = true) : CRun Tryz.prog 146 [v.cv] σ (· = zep σ (zxy v)) := by
  have y0 := @zt0 σ
  cases ht : t3 v with
  | none =>
    have o : zxy v = .err 1 := by unfold zxy; rw [ht]
    rw [o]
    obtain ⟨k, n, t, l⟩ := v
    have m := zpf (σ := σ) (n := n) (t := t) (l := Val.cvs l) (zoi ht)
    refine ZX Tryz.func146 Tryz.ntmps146 ?_
    conv => whnf
    repeat' (first | (refine ZC m ?_) | (refine yx ?_) | refine Zh ?_ | refine Za ?_ | refine Zb ?_ | refine Zc ?_ | refine Zd ?_ | refine Ze ?_ | refine Zg ?_ | refine Zv (fun h => ?_) (fun h => ?_) | refine Zj ?_ | refine Zk ?_ | refine Zl ?_ | refine Zm ?_ | refine Zn ?_ | refine Zo ?_ | refine Zp ?_ | refine Zq ?_ | refine Zu (fun l hl => ?_) | refine Zr ?_) <;> try (conv => whnf)
    all_goals rfl
  | some t =>
    have o : zxy v = .ok (zsu t).v := by unfold zxy; rw [ht]
    rw [o, zsb ht hv]
    have m := @zpe σ
    refine ZX Tryz.func146 Tryz.ntmps146 ?_
    cases t
    all_goals
      conv => whnf
      repeat' (first | (refine ZC (m (.inl rfl)) ?_) | (refine ZC (m (.inr rfl)) ?_) | (refine ZC y0 ?_) | refine Zh ?_ | refine Za ?_ | refine Zb ?_ | refine Zc ?_ | refine Zd ?_ | refine Ze ?_ | refine Zg ?_ | refine Zv (fun h => ?_) (fun h => ?_) | refine Zj ?_ | refine Zk ?_ | refine Zl ?_ | refine Zm ?_ | refine Zn ?_ | refine Zo ?_ | refine Zp ?_ | refine Zq ?_ | refine Zu (fun l hl => ?_) | refine Zr ?_) <;> try (conv => whnf)
      all_goals rfl
theorem zxn {σ : Heap} {t u : T3} : CRun Tryz.prog 150 [t.v.cv, u.v.cv] σ (· = .ret (z34 t u).v.cv σ) := by
  have y0 := @zt0 σ
  have m := @zpe σ
  have n := @zra σ
  refine ZX Tryz.func150 Tryz.ntmps150 ?_
  cases t <;> cases u
  all_goals
    conv => whnf
    repeat' (first | (refine ZC y0 ?_) | (refine ZC (m (.inl rfl)) ?_) | (refine ZC (m (.inr rfl)) ?_) | (refine ZC (n (b := true) rfl) ?_) | (refine ZC (n (b := false) rfl) ?_) | refine Zh ?_ | refine Za ?_ | refine Zb ?_ | refine Zc ?_ | refine Zd ?_ | refine Ze ?_ | refine Zg ?_ | refine Zv (fun h => ?_) (fun h => ?_) | refine Zj ?_ | refine Zk ?_ | refine Zl ?_ | refine Zm ?_ | refine Zn ?_ | refine Zo ?_ | refine Zp ?_ | refine Zq ?_ | refine Zu (fun l hl => ?_) | refine Zr ?_) <;> try (conv => whnf)
    all_goals rfl
theorem z3n {σ : Heap} {v w : Val} (hv : okV 3 v = true) (hw : okV 3 w = true) : CRun Tryz.prog 150 [v.cv, w.cv] σ (· = zep σ (zk1 v w)) := by
  cases ht : t3 v with
  | none =>
    have o : zk1 v w = .err 1 := by unfold zk1; rw [ht]
    rw [o]
    obtain ⟨k, n, t, l⟩ := v
    obtain ⟨k', n', t', l'⟩ := w
    have m := zpf (σ := σ) (n := n) (t := t) (l := Val.cvs l) (zoi ht)
    refine ZX Tryz.func150 Tryz.ntmps150 ?_
    conv => whnf
    repeat' (first | (refine ZC m ?_) | (refine yx ?_) | refine Zh ?_ | refine Za ?_ | refine Zb ?_ | refine Zc ?_ | refine Zd ?_ | refine Ze ?_ | refine Zg ?_ | refine Zv (fun h => ?_) (fun h => ?_) | refine Zj ?_ | refine Zk ?_ | refine Zl ?_ | refine Zm ?_ | refine Zn ?_ | refine Zo ?_ | refine Zp ?_ | refine Zq ?_ | refine Zu (fun l hl => ?_) | refine Zr ?_) <;> try (conv => whnf)
    all_goals rfl
  | some t =>
    cases hu : t3 w with
    | none =>
      have o : zk1 v w = .err 1 := by unfold zk1; rw [ht, hu]
      rw [o]
      have htt := zsb ht hv
      rw [htt]
      obtain ⟨k', n', t', l'⟩ := w
      have m := zpf (σ := σ) (n := n') (t := t') (l := Val.cvs l') (zoi hu)
      have m1 := @zpe σ
      refine ZX Tryz.func150 Tryz.ntmps150 ?_
      cases t
      all_goals
        conv => whnf
        repeat' (first | (refine ZC (m1 (.inl rfl)) ?_) | (refine ZC (m1 (.inr rfl)) ?_) | (refine ZC m ?_) | (refine yx ?_) | refine Zh ?_ | refine Za ?_ | refine Zb ?_ | refine Zc ?_ | refine Zd ?_ | refine Ze ?_ | refine Zg ?_ | refine Zv (fun h => ?_) (fun h => ?_) | refine Zj ?_ | refine Zk ?_ | refine Zl ?_ | refine Zm ?_ | refine Zn ?_ | refine Zo ?_ | refine Zp ?_ | refine Zq ?_ | refine Zu (fun l hl => ?_) | refine Zr ?_) <;> try (conv => whnf)
        all_goals rfl
    | some u =>
      have o : zk1 v w = .ok (z34 t u).v := by unfold zk1; rw [ht, hu]
      rw [o, zsb ht hv, zsb hu hw]
      exact zxn
theorem zyd {σ : Heap} {v : Val} (hv : Tame v) : CRun Tryz.prog 147 [v.cv] σ (· = zep σ (zyc v)) := by
  obtain ⟨k, n, t, l⟩ := v
  obtain ⟨_, _, ht, hl, _⟩ := hv.inv
  have e3 := zj l
  have hd : zyc (.mk k n t l) = if k = 0 then .ok nullV else if k = 4 then .ok (z30 l.length) else if k = 3 then .ok (z30 t.size) else .err 1 := rfl
  by_cases k0 : k = 0
  · rw [hd, if_pos k0]
    refine ZX Tryz.func147 Tryz.ntmps147 ?_
    conv => whnf
    repeat' (first | refine Zh ?_ | refine Za ?_ | refine Zb ?_ | refine Zc ?_ | refine Zd ?_ | refine Ze ?_ | refine Zg ?_ | refine Zv (fun h => ?_) (fun h => ?_) | refine Zj ?_ | refine Zk ?_ | refine Zl ?_ | refine Zm ?_ | refine Zn ?_ | refine Zo ?_ | refine Zp ?_ | refine Zq ?_ | refine Zu (fun l hl => ?_) | refine Zr ?_) <;> try (conv => whnf)
    all_goals rfl
  by_cases k4 : k = 4
  · rw [hd, if_neg k0, if_pos k4, ← e3]
    refine ZX Tryz.func147 Tryz.ntmps147 ?_
    conv => whnf
    repeat' (first | refine Zh ?_ | refine Za ?_ | refine Zb ?_ | refine Zc ?_ | refine Zd ?_ | refine Ze ?_ | refine Zg ?_ | refine Zv (fun h => ?_) (fun h => ?_) | refine Zj ?_ | refine Zk ?_ | refine Zl ?_ | refine Zm ?_ | refine Zn ?_ | refine Zo ?_ | refine Zp ?_ | refine Zq ?_ | refine Zu (fun l hl => ?_) | refine Zr ?_) <;> try (conv => whnf)
    all_goals rfl
  by_cases k3 : k = 3
  · rw [hd, if_neg k0, if_neg k4, if_pos k3]
    refine ZX Tryz.func147 Tryz.ntmps147 ?_
    conv => whnf
    repeat' (first | refine Zh ?_ | refine Za ?_ | refine Zb ?_ | refine Zc ?_ | refine Zd ?_ | refine Ze ?_ | refine Zg ?_ | refine Zv (fun h => ?_) (fun h => ?_) | refine Zj ?_ | refine Zk ?_ | refine Zl ?_ | refine Zm ?_ | refine Zn ?_ | refine Zo ?_ | refine Zp ?_ | refine Zq ?_ | refine Zu (fun l hl => ?_) | refine Zr ?_) <;> try (conv => whnf)
    all_goals rfl
  · rw [hd, if_neg k0, if_neg k4, if_neg k3]
    refine ZX Tryz.func147 Tryz.ntmps147 ?_
    conv => whnf
    repeat' (first | (refine yx ?_) | refine Zh ?_ | refine Za ?_ | refine Zb ?_ | refine Zc ?_ | refine Zd ?_ | refine Ze ?_ | refine Zg ?_ | refine Zv (fun h => ?_) (fun h => ?_) | refine Zj ?_ | refine Zk ?_ | refine Zl ?_ | refine Zm ?_ | refine Zn ?_ | refine Zo ?_ | refine Zp ?_ | refine Zq ?_ | refine Zu (fun l hl => ?_) | refine Zr ?_) <;> try (conv => whnf)
    all_goals rfl
def z17 (kind : Int) (v : Val) : Rs := if kind = 11 then zst v else if kind = 9 then zxy v else zyc v
theorem zkb {a v : Val} {r : List Val} : in3 a (v :: r) = match eq3 a v with
    | .yes => .yes
    | .unk => (match in3 a r with | .yes => .yes | _ => .unk)
    | .no => in3 a r := rfl
def znt : Bool → T3 → T3
  | true, x => x
  | false, .yes => .yes
  | false, _ => .unk
theorem zw5 {a v : Val} {r : List Val} {b : Bool} (h : eq3 a v = .yes) : znt b (in3 a (v :: r)) = .yes := by rw [zkb, h]; cases b <;> rfl
theorem zw6 {a v : Val} {r : List Val} {b : Bool} (h : eq3 a v = .unk) : znt b (in3 a (v :: r)) = znt false (in3 a r) := by
  rw [zkb, h]; cases in3 a r <;> cases b <;> rfl
theorem zzw {a v : Val} {r : List Val} {b : Bool} (h : eq3 a v = .no) : znt b (in3 a (v :: r)) = znt b (in3 a r) := by rw [zkb, h]
def isC : Bool → List CV
  | true => [i64 1, i64 0, .sc (.string ⟨#[]⟩), .vec []]
  | false => [i64 0, i64 0, .sc (.string ⟨#[]⟩), .vec []]
set_option maxHeartbeats 1000000 in
theorem z5h {σ : Heap} {a b : Val} (ha : Tame a) (hb : Tame b) : CRun Tryz.prog 152 [a.cv, b.cv] σ (· = zep σ (z6n a b)) := by
  have y0 := @zt0 σ
  obtain ⟨k, n, t, l⟩ := b
  obtain ⟨_, _, ht, hl, hall⟩ := hb.inv
  have e3 := zj l
  have hd : z6n a (.mk k n t l) = if k = 0 then .ok nullV else if k = 4 then .ok (in3 a l).v else .err 1 := rfl
  have heq := fun w (hm : w ∈ l) => zgj (σ := σ) ha (hall w hm)
  obtain ⟨ak, an, at', al⟩ := a
  by_cases k0 : k = 0
  · rw [hd, if_pos k0]
    refine ZX Tryz.func152 Tryz.ntmps152 ?_
    conv => whnf
    repeat' (first | refine Zh ?_ | refine Za ?_ | refine Zb ?_ | refine Zc ?_ | refine Zd ?_ | refine Ze ?_ | refine Zg ?_ | refine Zv (fun h => ?_) (fun h => ?_) | refine Zj ?_ | refine Zk ?_ | refine Zl ?_ | refine Zm ?_ | refine Zn ?_ | refine Zo ?_ | refine Zp ?_ | refine Zq ?_ | refine Zu (fun l hl => ?_) | refine Zr ?_) <;> try (conv => whnf)
    all_goals rfl
  by_cases k4 : k = 4
  case neg =>
    rw [hd, if_neg k0, if_neg k4]
    refine ZX Tryz.func152 Tryz.ntmps152 ?_
    conv => whnf
    repeat' (first | (refine yx ?_) | refine Zh ?_ | refine Za ?_ | refine Zb ?_ | refine Zc ?_ | refine Zd ?_ | refine Ze ?_ | refine Zg ?_ | refine Zv (fun h => ?_) (fun h => ?_) | refine Zj ?_ | refine Zk ?_ | refine Zl ?_ | refine Zm ?_ | refine Zn ?_ | refine Zo ?_ | refine Zp ?_ | refine Zq ?_ | refine Zu (fun l hl => ?_) | refine Zr ?_) <;> try (conv => whnf)
    all_goals rfl
  rw [hd, if_neg k0, if_pos k4]
  have o : ∀ q : T3, znt true (in3 (.mk ak an at' al) l) = q → COut.ret q.v.cv σ = zep σ (.ok (in3 (.mk ak an at' al) l).v) := fun q h => by rw [← h]; rfl
  refine ZX Tryz.func152 Tryz.ntmps152 ?_
  conv => whnf
  repeat' (first | (refine ZC y0 ?_) | refine Zh ?_ | refine Za ?_ | refine Zb ?_ | refine Zc ?_ | refine Zd ?_ | refine Ze ?_ | refine Zg ?_ | refine Zv (fun h => ?_) (fun h => ?_) | refine Zj ?_ | refine Zk ?_ | refine Zl ?_ | refine Zm ?_ | refine Zn ?_ | refine Zo ?_ | refine Zp ?_ | refine Zq ?_ | refine Zu (fun l hl => ?_) | refine Zr ?_) <;> try (conv => whnf)
  refine LoopN.rule (α := Nat × Bool) (fun s => ⟨37, [(2, .ptr (.f 2) 0), (4, .ptr (.f 4) 0), (5, .ptr (.f 5) 0), (19, .vec (Val.cvs l)), (20, i64 (Val.cvs l).length), (21, i64 s.1)],
      [(2, .cells [i64 ak, i64 an, .sc (.string at'), .vec (Val.cvs al)]), (4, .cells [i64 0, i64 0, .sc (.string ⟨#[]⟩), .nil]), (5, .cells (isC s.2))]⟩)
    (fun _ => σ) (fun s => l.length - s.1) (fun s => s.1 ≤ l.length ∧ znt true (in3 (.mk ak an at' al) l) = znt s.2 (in3 (.mk ak an at' al) (l.drop s.1))) ?_ (0, true) ⟨Nat.zero_le _, rfl⟩ ?_
  rotate_left
  · exact ZW
  rintro ⟨i, kn⟩ K ⟨g1, g3⟩ hK
  dsimp only at g1 g3 ⊢
  by_cases hi : i < l.length
  · obtain ⟨w, hm, hw, hg⟩ := za6 hi
    have hc := heq w hm
    rw [ki hw] at g3
    obtain ⟨wk, wn, wt, wl⟩ := w
    cases hz : eq3 (.mk ak an at' al) (.mk wk wn wt wl) with
    | no =>
      rw [hz] at hc
      rw [zzw hz] at g3
      have isn := zka (σ := σ) (k := 1) (n := 0) (t := ⟨#[]⟩) (l := []) (b := false) rfl
      cases kn
      · conv => whnf
        repeat' (first | (refine ZC hc ?_) | (refine ZC isn ?_) | refine Zh ?_ | refine Za ?_ | refine Zb ?_ | refine Zc ?_ | refine Zd ?_ | refine Ze ?_ | refine Zg ?_ | refine Zv (fun h => ?_) (fun h => ?_) | refine Zj ?_ | refine Zk ?_ | refine Zl ?_ | refine Zm ?_ | refine Zn ?_ | refine Zo ?_ | refine Zp ?_ | refine Zq ?_ | refine Zu (fun l hl => ?_) | refine Zr ?_) <;> try (conv => whnf)
        refine hK (i + 1, false) _ _ ⟨by dsimp only; omega, g3⟩ (by dsimp only; omega) ?_
        exact ZW
      · conv => whnf
        repeat' (first | (refine ZC hc ?_) | (refine ZC isn ?_) | refine Zh ?_ | refine Za ?_ | refine Zb ?_ | refine Zc ?_ | refine Zd ?_ | refine Ze ?_ | refine Zg ?_ | refine Zv (fun h => ?_) (fun h => ?_) | refine Zj ?_ | refine Zk ?_ | refine Zl ?_ | refine Zm ?_ | refine Zn ?_ | refine Zo ?_ | refine Zp ?_ | refine Zq ?_ | refine Zu (fun l hl => ?_) | refine Zr ?_) <;> try (conv => whnf)
        refine hK (i + 1, true) _ _ ⟨by dsimp only; omega, g3⟩ (by dsimp only; omega) ?_
        exact ZW
    | unk =>
      rw [hz] at hc
      rw [zw6 hz] at g3
      have isn := zka (σ := σ) (k := 0) (n := 0) (t := ⟨#[]⟩) (l := []) (b := false) rfl
      cases kn
      all_goals
        conv => whnf
        repeat' (first | (refine ZC hc ?_) | (refine ZC isn ?_) | refine Zh ?_ | refine Za ?_ | refine Zb ?_ | refine Zc ?_ | refine Zd ?_ | refine Ze ?_ | refine Zg ?_ | refine Zv (fun h => ?_) (fun h => ?_) | refine Zj ?_ | refine Zk ?_ | refine Zl ?_ | refine Zm ?_ | refine Zn ?_ | refine Zo ?_ | refine Zp ?_ | refine Zq ?_ | refine Zu (fun l hl => ?_) | refine Zr ?_) <;> try (conv => whnf)
        refine hK (i + 1, false) _ _ ⟨by dsimp only; omega, g3⟩ (by dsimp only; omega) ?_
        exact ZW
    | yes =>
      rw [hz] at hc
      rw [zw5 hz] at g3
      have isn := zka (σ := σ) (k := 1) (n := 1) (t := ⟨#[]⟩) (l := []) (b := true) rfl
      cases kn
      all_goals
        conv => whnf
        repeat' (first | (refine ZC hc ?_) | (refine ZC isn ?_) | refine Zh ?_ | refine Za ?_ | refine Zb ?_ | refine Zc ?_ | refine Zd ?_ | refine Ze ?_ | refine Zg ?_ | refine Zv (fun h => ?_) (fun h => ?_) | refine Zj ?_ | refine Zk ?_ | refine Zl ?_ | refine Zm ?_ | refine Zn ?_ | refine Zo ?_ | refine Zp ?_ | refine Zq ?_ | refine Zu (fun l hl => ?_) | refine Zr ?_) <;> try (conv => whnf)
        exact o _ g3
  · rw [List.drop_eq_nil_of_le (by omega)] at g3
    cases kn
    · conv => whnf
      repeat' (first | refine Zh ?_ | refine Za ?_ | refine Zb ?_ | refine Zc ?_ | refine Zd ?_ | refine Ze ?_ | refine Zg ?_ | refine Zv (fun h => ?_) (fun h => ?_) | refine Zj ?_ | refine Zk ?_ | refine Zl ?_ | refine Zm ?_ | refine Zn ?_ | refine Zo ?_ | refine Zp ?_ | refine Zq ?_ | refine Zu (fun l hl => ?_) | refine Zr ?_) <;> try (conv => whnf)
      exact o .unk g3
    · conv => whnf
      repeat' (first | refine Zh ?_ | refine Za ?_ | refine Zb ?_ | refine Zc ?_ | refine Zd ?_ | refine Ze ?_ | refine Zg ?_ | refine Zv (fun h => ?_) (fun h => ?_) | refine Zj ?_ | refine Zk ?_ | refine Zl ?_ | refine Zm ?_ | refine Zn ?_ | refine Zo ?_ | refine Zp ?_ | refine Zq ?_ | refine Zu (fun l hl => ?_) | refine Zr ?_) <;> try (conv => whnf)
      exact o .no g3
structure Nd where
  id : Int
  labels : List ByteArray
  props : List Pr
structure Ed where
  id : Int
  kind : ByteArray
  src : Int
  dst : Int
  props : List Pr
structure Gr where
  nodes : List Nd
  edges : List Ed
  nn : Int
  ne : Int
def Nd.cv (n : Nd) : CV := .agg [i64 n.id, .vec (wq n.labels), .vec (prs n.props)]
def Ed.cv (e : Ed) : CV := .agg [i64 e.id, .sc (.string e.kind), i64 e.src, i64 e.dst, .vec (prs e.props)]
def nds (l : List Nd) : List CV := l.map Nd.cv
def eds (l : List Ed) : List CV := l.map Ed.cv
def Gr.cv (g : Gr) : CV := .agg [.vec (nds g.nodes), .vec (eds g.edges), i64 g.nn, i64 g.ne]
structure NdTame (n : Nd) : Prop where
  ll : n.labels.length ≤ 1000
  ls : ∀ s ∈ n.labels, s.size ≤ 1000
  pl : n.props.length ≤ 1000
  ps : ∀ p ∈ n.props, PrTame p
structure EdTame (n : Ed) : Prop where
  kind : n.kind.size ≤ 1000
  pl : n.props.length ≤ 1000
  ps : ∀ p ∈ n.props, PrTame p
structure GrTame (g : Gr) : Prop where
  nl : g.nodes.length ≤ 1000
  el : g.edges.length ≤ 1000
  nn : -2000000000 ≤ g.nn ∧ g.nn ≤ 2000000000
  ne : -2000000000 ≤ g.ne ∧ g.ne ≤ 2000000000
  ns : ∀ n ∈ g.nodes, NdTame n
  es : ∀ e ∈ g.edges, EdTame e
def zg4 (ids : List Int) (e : Int) (i : Nat) : Bool := match ids[i]? with
  | some x => decide (0 ≤ x ∧ x ≤ e - 1) && match i with
    | 0 => true
    | j + 1 => match ids[j]? with
      | some y => decide (y < x)
      | none => true
  | none => true
def kc (ids : List Int) (e : Int) : Bool := (List.range ids.length).all (zg4 ids e)
theorem zal {ids : List Int} {e x : Int} (h : ids[0]? = some x) : zg4 ids e 0 = decide (0 ≤ x ∧ x ≤ e - 1) := by unfold zg4; rw [h]; simp
theorem kx {ids : List Int} {e x y : Int} {j : Nat} (h : ids[j + 1]? = some x) (k : ids[j]? = some y) : zg4 ids e (j + 1) = (decide (0 ≤ x ∧ x ≤ e - 1) && decide (y < x)) := by
  unfold zg4; rw [h]; simp only [k]
def zq : List Int → Int → Nat → Int
  | [], _, _ => -1
  | x :: r, d, k => if x = d then k else zq r d (k + 1)
theorem zan {α : Type} {l : List α} {i : Nat} {x : α} (h : l[i]? = some x) : l.drop i = x :: l.drop (i + 1) := by
  obtain ⟨hi, e⟩ := List.getElem?_eq_some_iff.1 h
  rw [← e]; exact List.drop_eq_getElem_cons hi
theorem zc9 {ids : List Int} {d : Int} {i : Nat} (h : ids[i]? = some d) : zq (ids.drop i) d i = i := by rw [zan h]; simp [zq]
theorem zbz {ids : List Int} {d x : Int} {i : Nat} (h : ids[i]? = some x) (hx : ¬ x = d) : zq (ids.drop i) d i = zq (ids.drop (i + 1)) d (i + 1) := by rw [zan h]; simp [zq, hx]
theorem zda {ids : List Int} {d : Int} {i : Nat} (h : ids.length ≤ i) : zq (ids.drop i) d i = -1 := by rw [List.drop_eq_nil_of_le h]; rfl
def ve (l : List Nd) : List Int := l.map Nd.id
theorem zdc (l : List Nd) : (ve l).length = l.length := by simp [ve]
theorem ym (l : List Nd) : (nds l).length = l.length := by simp [nds]
theorem kf {l : List Nd} {i : Nat} (hi : i < l.length) : ∃ d ls ps, (⟨d, ls, ps⟩ : Nd) ∈ l ∧ l[i]? = some (⟨d, ls, ps⟩ : Nd) ∧ (nds l)[i]? = some (.agg [i64 d, .vec (wq ls), .vec (prs ps)]) ∧ (ve l)[i]? = some d := by
  have h := List.getElem_mem hi
  have h2 := List.getElem?_eq_getElem hi
  have h3 : (nds l)[i]? = some (l[i]).cv := by unfold nds; rw [List.getElem?_map, h2]; rfl
  have h4 : (ve l)[i]? = some (l[i]).id := by unfold ve; rw [List.getElem?_map, h2]; rfl
  generalize l[i] = p at h h2 h3 h4
  obtain ⟨d, ls, ps⟩ := p
  exact ⟨d, ls, ps, h, h2, h3, h4⟩
theorem z41 {σ : Heap} {d : Int} {ls : List ByteArray} {ps : List Pr} : CRun Tryz.prog 62 [(.agg [i64 d, .vec (wq ls), .vec (prs ps)])] σ (· = .ret (i64 d) σ) := by
  refine ZX Tryz.func62 Tryz.ntmps62 ?_
  conv => whnf
  repeat' (first | refine Zr ?_) <;> try (conv => whnf)
  all_goals rfl
theorem ku {σ : Heap} {ns es : List CV} {a b : Int} : CRun Tryz.prog 24 [.agg [.vec ns, .vec es, i64 a, i64 b]] σ (· = .ret (.agg [.vec ns, .fn (.func 62) [] []]) σ) := by
  refine ZX Tryz.func24 Tryz.ntmps24 ?_
  conv => whnf
  repeat' (first | refine Zr ?_) <;> try (conv => whnf)
  all_goals rfl
theorem z43 {σ : Heap} {l : List Nd} {e : Int} (hl : l.length ≤ 1000) (he : -2000000000 ≤ e ∧ e ≤ 2000000000) : CRun Tryz.prog 25 [.agg [.vec (nds l), .fn (.func 62) [] []], i64 e] σ (· = .ret (.sc (.bool (kc (ve l) e))) σ) := by
  have e3 := ym l
  have e4 := zdc l
  refine ZX Tryz.func25 Tryz.ntmps25 ?_
  have no : ∀ i, i < l.length → zg4 (ve l) e i = false → COut.ret (.sc (.bool false)) σ = .ret (.sc (.bool (kc (ve l) e))) σ := fun i hi h => z7 (by unfold kc; rw [jm (i := i) (by omega) h])
  conv => whnf
  repeat' (first | refine Zh ?_ | refine Za ?_ | refine Zb ?_ | refine Zc ?_ | refine Zd ?_ | refine Ze ?_ | refine Zg ?_ | refine Zv (fun h => ?_) (fun h => ?_) | refine Zj ?_ | refine Zk ?_ | refine Zl ?_ | refine Zm ?_ | refine Zn ?_ | refine Zo ?_ | refine Zp ?_ | refine Zq ?_ | refine Zu (fun l hl => ?_) | refine Zr ?_) <;> try (conv => whnf)
  refine LoopN.rule (α := Nat × Int) (fun s => ⟨30, [(1, i64 e), (2, .ptr (.f 2) 0), (4, .sc (.bool false)), (5, i64 s.2), (10, .vec (nds l)), (11, i64 (nds l).length), (12, i64 s.1)], [(2, .cells [.vec (nds l), .fn (.func 62) [] []])]⟩)
    (fun _ => σ) (fun s => l.length - s.1) (fun s => s.1 ≤ l.length ∧ (∀ j, j < s.1 → zg4 (ve l) e j = true) ∧ -1 ≤ s.2 ∧ (s.1 = 0 → s.2 = -1) ∧ ∀ j, s.1 = j + 1 → (ve l)[j]? = some s.2) ?_ (0, -1) ⟨by omega, by omega, by omega, by omega, by omega⟩ ?_
  · rintro ⟨i, last⟩ K ⟨h1, h2, h3, h4, h5⟩ hK
    dsimp only at h1 h2 h3 h4 h5 ⊢
    by_cases hi : i < l.length
    · obtain ⟨d, ls, ps, hm, hg, hg', hd⟩ := kf hi
      have no := no i hi
      have c1 := @z41 σ d ls ps
      have hlast : ∀ j, i + 1 = j + 1 → (ve l)[j]? = some d := fun j hj => by
        have e : j = i := by omega
        rw [e]; exact hd
      have key : zg4 (ve l) e i = (decide (last < d ∧ d < e)) := by
        cases i with
        | zero => rw [zal hd]; have := h4 rfl; exact decide_eq_decide.2 (by omega)
        | succ j => rw [kx hd (h5 j rfl), ← Bool.decide_and]; exact decide_eq_decide.2 (by omega)
      by_cases hk : last < d ∧ d < e
      · rw [decide_eq_true hk] at key
        conv => whnf
        repeat' (first | (refine ZC c1 ?_) | refine Za ?_ | refine Zb ?_ | refine Zm ?_ | refine Zo ?_ | refine Zp ?_) <;> try (conv => whnf)
        refine hK (i + 1, d) _ _ ⟨by dsimp only; omega, yl h2 key, by dsimp only; omega, by dsimp only; omega, hlast⟩ (by dsimp only; omega) ?_
        exact ZW
      · rw [decide_eq_false hk] at key
        conv => whnf
        repeat' (first | (refine ZC c1 ?_) | refine Za ?_ | refine Zv (fun h => ?_) (fun h => ?_) | refine Zm ?_ | refine Zo ?_ | refine Zp ?_ | refine Zr ?_) <;> try (conv => whnf)
        all_goals exact no key
    · have hall : ∀ i, i < (ve l).length → zg4 (ve l) e i = true := fun j hj => h2 j (by omega)
      conv => whnf
      repeat' (first | refine Zb ?_ | refine Zr ?_) <;> try (conv => whnf)
      exact z7 (by unfold kc; rw [wu hall])
  · exact ZW
theorem zff {σ : Heap} {l : List Nd} {d' : Int} (hl : l.length ≤ 1000) : CRun Tryz.prog 31 [.agg [.vec (nds l), .fn (.func 62) [] []], i64 d'] σ (· = .ret (i64 (zq (ve l) d' 0)) σ) := by
  have e3 := ym l
  have e4 := zdc l
  refine ZX Tryz.func31 Tryz.ntmps31 ?_
  conv => whnf
  repeat' (first | refine Zh ?_ | refine Za ?_ | refine Zb ?_ | refine Zc ?_ | refine Zd ?_ | refine Ze ?_ | refine Zg ?_ | refine Zv (fun h => ?_) (fun h => ?_) | refine Zj ?_ | refine Zk ?_ | refine Zl ?_ | refine Zm ?_ | refine Zn ?_ | refine Zo ?_ | refine Zp ?_ | refine Zq ?_ | refine Zu (fun l hl => ?_) | refine Zr ?_) <;> try (conv => whnf)
  refine LoopN.rule (α := Nat) (fun i => ⟨23, [(1, i64 d'), (2, .ptr (.f 2) 0), (8, .vec (nds l)), (9, i64 (nds l).length), (10, i64 i)], [(2, .cells [.vec (nds l), .fn (.func 62) [] []])]⟩)
    (fun _ => σ) (fun i => l.length - i) (fun i => i ≤ l.length ∧ zq (ve l) d' 0 = zq ((ve l).drop i) d' i) ?_ 0 ⟨by omega, rfl⟩ ?_
  · rintro i K ⟨h1, h2⟩ hK
    dsimp only at h1 h2 ⊢
    by_cases hi : i < l.length
    · obtain ⟨d, ls, ps, hm, hg, hg', hd⟩ := kf hi
      have c1 := @z41 σ d ls ps
      by_cases hk : d = d'
      · conv => whnf
        repeat' (first | (refine ZC c1 ?_) | refine Za ?_ | refine Zm ?_ | refine Zo ?_ | refine Zp ?_ | refine Zr ?_) <;> try (conv => whnf)
        exact zcs (by rw [h2]; subst hk; exact zc9 hd)
      · conv => whnf
        repeat' (first | (refine ZC c1 ?_) | refine Za ?_ | refine Zb ?_ | refine Zm ?_ | refine Zo ?_ | refine Zp ?_) <;> try (conv => whnf)
        refine hK (i + 1) _ _ ⟨by omega, by rw [h2]; exact zbz hd hk⟩ (by omega) ?_
        exact ZW
    · conv => whnf
      repeat' (first | refine Zb ?_ | refine Zr ?_) <;> try (conv => whnf)
      exact zcs (by rw [h2]; exact zda (by omega))
  · exact ZW
theorem z40 {σ : Heap} {g : Gr} {d' : Int} (hl : g.nodes.length ≤ 1000) : CRun Tryz.prog 36 [.agg [.vec (nds g.nodes), .vec (eds g.edges), i64 g.nn, i64 g.ne], i64 d'] σ (· = .ret (i64 (zq (ve g.nodes) d' 0)) σ) := by
  have e3 := ym g.nodes
  have e4 := zdc g.nodes
  refine ZX Tryz.func36 Tryz.ntmps36 ?_
  conv => whnf
  repeat' (first | refine Zh ?_ | refine Za ?_ | refine Zb ?_ | refine Zc ?_ | refine Zd ?_ | refine Ze ?_ | refine Zg ?_ | refine Zv (fun h => ?_) (fun h => ?_) | refine Zj ?_ | refine Zk ?_ | refine Zl ?_ | refine Zm ?_ | refine Zn ?_ | refine Zo ?_ | refine Zp ?_ | refine Zq ?_ | refine Zu (fun l hl => ?_) | refine Zr ?_) <;> try (conv => whnf)
  refine LoopN.rule (α := Nat) (fun i => ⟨22, [(1, i64 d'), (2, .ptr (.f 2) 0), (5, i64 i)], [(2, .cells [.vec (nds g.nodes), .vec (eds g.edges), i64 g.nn, i64 g.ne])]⟩)
    (fun _ => σ) (fun i => g.nodes.length - i) (fun i => i ≤ g.nodes.length ∧ zq (ve g.nodes) d' 0 = zq ((ve g.nodes).drop i) d' i) ?_ 0 ⟨by omega, rfl⟩ ?_
  · rintro i K ⟨h1, h2⟩ hK
    dsimp only at h1 h2 ⊢
    by_cases hi : i < g.nodes.length
    · obtain ⟨d, ls, ps, hm, hg, hg', hd⟩ := kf hi
      by_cases hk : d = d'
      · conv => whnf
        repeat' (first | refine Za ?_ | refine Zm ?_ | refine Zo ?_ | refine Zr ?_) <;> try (conv => whnf)
        exact zcs (by rw [h2]; subst hk; exact zc9 hd)
      · conv => whnf
        repeat' (first | refine Za ?_ | refine Zb ?_ | refine Zm ?_ | refine Zo ?_) <;> try (conv => whnf)
        refine hK (i + 1) _ _ ⟨by omega, by rw [h2]; exact zbz hd hk⟩ (by omega) ?_
        exact ZW
    · conv => whnf
      repeat' (first | refine Zb ?_ | refine Zr ?_) <;> try (conv => whnf)
      exact zcs (by rw [h2]; exact zda (by omega))
  · exact ZW
def zbq (l : List Ed) : List Int := l.map Ed.id
theorem zdo (l : List Ed) : (zbq l).length = l.length := by simp [zbq]
theorem ye (l : List Ed) : (eds l).length = l.length := by simp [eds]
theorem qp {l : List Ed} {i : Nat} (hi : i < l.length) : ∃ d k a b ps, (⟨d, k, a, b, ps⟩ : Ed) ∈ l ∧ l[i]? = some (⟨d, k, a, b, ps⟩ : Ed) ∧ (eds l)[i]? = some (.agg [i64 d, .sc (.string k), i64 a, i64 b, .vec (prs ps)]) ∧ (zbq l)[i]? = some d := by
  have h := List.getElem_mem hi
  have h2 := List.getElem?_eq_getElem hi
  have h3 : (eds l)[i]? = some (l[i]).cv := by unfold eds; rw [List.getElem?_map, h2]; rfl
  have h4 : (zbq l)[i]? = some (l[i]).id := by unfold zbq; rw [List.getElem?_map, h2]; rfl
  generalize l[i] = p at h h2 h3 h4
  obtain ⟨d, k, a, b, ps⟩ := p
  exact ⟨d, k, a, b, ps, h, h2, h3, h4⟩
theorem z5x {σ : Heap} {d : Int} {k : ByteArray} {a b : Int} {ps : List Pr} : CRun Tryz.prog 63 [(.agg [i64 d, .sc (.string k), i64 a, i64 b, .vec (prs ps)])] σ (· = .ret (i64 d) σ) := by
  refine ZX Tryz.func63 Tryz.ntmps63 ?_
  conv => whnf
  repeat' (first | refine Zr ?_) <;> try (conv => whnf)
  all_goals rfl
theorem zkr {σ : Heap} {ns es : List CV} {a b : Int} : CRun Tryz.prog 26 [.agg [.vec ns, .vec es, i64 a, i64 b]] σ (· = .ret (.agg [.vec es, .fn (.func 63) [] []]) σ) := by
  refine ZX Tryz.func26 Tryz.ntmps26 ?_
  conv => whnf
  repeat' (first | refine Zr ?_) <;> try (conv => whnf)
  all_goals rfl
theorem z5y {σ : Heap} {l : List Ed} {e : Int} (hl : l.length ≤ 1000) (he : -2000000000 ≤ e ∧ e ≤ 2000000000) : CRun Tryz.prog 27 [.agg [.vec (eds l), .fn (.func 63) [] []], i64 e] σ (· = .ret (.sc (.bool (kc (zbq l) e))) σ) := by
  have e3 := ye l
  have e4 := zdo l
  refine ZX Tryz.func27 Tryz.ntmps27 ?_
  have no : ∀ i, i < l.length → zg4 (zbq l) e i = false → COut.ret (.sc (.bool false)) σ = .ret (.sc (.bool (kc (zbq l) e))) σ := fun i hi h => z7 (by unfold kc; rw [jm (i := i) (by omega) h])
  conv => whnf
  repeat' (first | refine Zh ?_ | refine Za ?_ | refine Zb ?_ | refine Zc ?_ | refine Zd ?_ | refine Ze ?_ | refine Zg ?_ | refine Zv (fun h => ?_) (fun h => ?_) | refine Zj ?_ | refine Zk ?_ | refine Zl ?_ | refine Zm ?_ | refine Zn ?_ | refine Zo ?_ | refine Zp ?_ | refine Zq ?_ | refine Zu (fun l hl => ?_) | refine Zr ?_) <;> try (conv => whnf)
  refine LoopN.rule (α := Nat × Int) (fun s => ⟨30, [(1, i64 e), (2, .ptr (.f 2) 0), (4, .sc (.bool false)), (5, i64 s.2), (10, .vec (eds l)), (11, i64 (eds l).length), (12, i64 s.1)], [(2, .cells [.vec (eds l), .fn (.func 63) [] []])]⟩)
    (fun _ => σ) (fun s => l.length - s.1) (fun s => s.1 ≤ l.length ∧ (∀ j, j < s.1 → zg4 (zbq l) e j = true) ∧ -1 ≤ s.2 ∧ (s.1 = 0 → s.2 = -1) ∧ ∀ j, s.1 = j + 1 → (zbq l)[j]? = some s.2) ?_ (0, -1) ⟨by omega, by omega, by omega, by omega, by omega⟩ ?_
  · rintro ⟨i, last⟩ K ⟨h1, h2, h3, h4, h5⟩ hK
    dsimp only at h1 h2 h3 h4 h5 ⊢
    by_cases hi : i < l.length
    · obtain ⟨d, k, a, b, ps, hm, hg, hg', hd⟩ := qp hi
      have no := no i hi
      have c1 := @z5x σ d k a b ps
      have hlast : ∀ j, i + 1 = j + 1 → (zbq l)[j]? = some d := fun j hj => by
        have e : j = i := by omega
        rw [e]; exact hd
      have key : zg4 (zbq l) e i = (decide (last < d ∧ d < e)) := by
        cases i with
        | zero => rw [zal hd]; have := h4 rfl; exact decide_eq_decide.2 (by omega)
        | succ j => rw [kx hd (h5 j rfl), ← Bool.decide_and]; exact decide_eq_decide.2 (by omega)
      by_cases hk : last < d ∧ d < e
      · rw [decide_eq_true hk] at key
        conv => whnf
        repeat' (first | (refine ZC c1 ?_) | refine Za ?_ | refine Zb ?_ | refine Zm ?_ | refine Zo ?_ | refine Zp ?_) <;> try (conv => whnf)
        refine hK (i + 1, d) _ _ ⟨by dsimp only; omega, yl h2 key, by dsimp only; omega, by dsimp only; omega, hlast⟩ (by dsimp only; omega) ?_
        exact ZW
      · rw [decide_eq_false hk] at key
        conv => whnf
        repeat' (first | (refine ZC c1 ?_) | refine Za ?_ | refine Zv (fun h => ?_) (fun h => ?_) | refine Zm ?_ | refine Zo ?_ | refine Zp ?_ | refine Zr ?_) <;> try (conv => whnf)
        all_goals exact no key
    · have hall : ∀ i, i < (zbq l).length → zg4 (zbq l) e i = true := fun j hj => h2 j (by omega)
      conv => whnf
      repeat' (first | refine Zb ?_ | refine Zr ?_) <;> try (conv => whnf)
      exact z7 (by unfold kc; rw [wu hall])
  · exact ZW
theorem zzo {σ : Heap} {l : List Ed} {d' : Int} (hl : l.length ≤ 1000) : CRun Tryz.prog 175 [.agg [.vec (eds l), .fn (.func 63) [] []], i64 d'] σ (· = .ret (i64 (zq (zbq l) d' 0)) σ) := by
  have e3 := ye l
  have e4 := zdo l
  refine ZX Tryz.func175 Tryz.ntmps175 ?_
  conv => whnf
  repeat' (first | refine Zh ?_ | refine Za ?_ | refine Zb ?_ | refine Zc ?_ | refine Zd ?_ | refine Ze ?_ | refine Zg ?_ | refine Zv (fun h => ?_) (fun h => ?_) | refine Zj ?_ | refine Zk ?_ | refine Zl ?_ | refine Zm ?_ | refine Zn ?_ | refine Zo ?_ | refine Zp ?_ | refine Zq ?_ | refine Zu (fun l hl => ?_) | refine Zr ?_) <;> try (conv => whnf)
  refine LoopN.rule (α := Nat) (fun i => ⟨23, [(1, i64 d'), (2, .ptr (.f 2) 0), (8, .vec (eds l)), (9, i64 (eds l).length), (10, i64 i)], [(2, .cells [.vec (eds l), .fn (.func 63) [] []])]⟩)
    (fun _ => σ) (fun i => l.length - i) (fun i => i ≤ l.length ∧ zq (zbq l) d' 0 = zq ((zbq l).drop i) d' i) ?_ 0 ⟨by omega, rfl⟩ ?_
  · rintro i K ⟨h1, h2⟩ hK
    dsimp only at h1 h2 ⊢
    by_cases hi : i < l.length
    · obtain ⟨d, k, a, b, ps, hm, hg, hg', hd⟩ := qp hi
      have c1 := @z5x σ d k a b ps
      by_cases hk : d = d'
      · conv => whnf
        repeat' (first | (refine ZC c1 ?_) | refine Za ?_ | refine Zm ?_ | refine Zo ?_ | refine Zp ?_ | refine Zr ?_) <;> try (conv => whnf)
        exact zcs (by rw [h2]; subst hk; exact zc9 hd)
      · conv => whnf
        repeat' (first | (refine ZC c1 ?_) | refine Za ?_ | refine Zb ?_ | refine Zm ?_ | refine Zo ?_ | refine Zp ?_) <;> try (conv => whnf)
        refine hK (i + 1) _ _ ⟨by omega, by rw [h2]; exact zbz hd hk⟩ (by omega) ?_
        exact ZW
    · conv => whnf
      repeat' (first | refine Zb ?_ | refine Zr ?_) <;> try (conv => whnf)
      exact zcs (by rw [h2]; exact zda (by omega))
  · exact ZW
theorem z7g {σ : Heap} {g : Gr} {d' : Int} (hl : g.edges.length ≤ 1000) : CRun Tryz.prog 111 [.agg [.vec (nds g.nodes), .vec (eds g.edges), i64 g.nn, i64 g.ne], i64 d'] σ (· = .ret (i64 (zq (zbq g.edges) d' 0)) σ) := by
  have e3 := ye g.edges
  have e4 := zdo g.edges
  refine ZX Tryz.func111 Tryz.ntmps111 ?_
  conv => whnf
  repeat' (first | refine Zh ?_ | refine Za ?_ | refine Zb ?_ | refine Zc ?_ | refine Zd ?_ | refine Ze ?_ | refine Zg ?_ | refine Zv (fun h => ?_) (fun h => ?_) | refine Zj ?_ | refine Zk ?_ | refine Zl ?_ | refine Zm ?_ | refine Zn ?_ | refine Zo ?_ | refine Zp ?_ | refine Zq ?_ | refine Zu (fun l hl => ?_) | refine Zr ?_) <;> try (conv => whnf)
  refine LoopN.rule (α := Nat) (fun i => ⟨22, [(1, i64 d'), (2, .ptr (.f 2) 0), (5, i64 i)], [(2, .cells [.vec (nds g.nodes), .vec (eds g.edges), i64 g.nn, i64 g.ne])]⟩)
    (fun _ => σ) (fun i => g.edges.length - i) (fun i => i ≤ g.edges.length ∧ zq (zbq g.edges) d' 0 = zq ((zbq g.edges).drop i) d' i) ?_ 0 ⟨by omega, rfl⟩ ?_
  · rintro i K ⟨h1, h2⟩ hK
    dsimp only at h1 h2 ⊢
    by_cases hi : i < g.edges.length
    · obtain ⟨d, k, a, b, ps, hm, hg, hg', hd⟩ := qp hi
      by_cases hk : d = d'
      · conv => whnf
        repeat' (first | refine Za ?_ | refine Zm ?_ | refine Zo ?_ | refine Zr ?_) <;> try (conv => whnf)
        exact zcs (by rw [h2]; subst hk; exact zc9 hd)
      · conv => whnf
        repeat' (first | refine Za ?_ | refine Zb ?_ | refine Zm ?_ | refine Zo ?_) <;> try (conv => whnf)
        refine hK (i + 1) _ _ ⟨by omega, by rw [h2]; exact zbz hd hk⟩ (by omega) ?_
        exact ZW
    · conv => whnf
      repeat' (first | refine Zb ?_ | refine Zr ?_) <;> try (conv => whnf)
      exact zcs (by rw [h2]; exact zda (by omega))
  · exact ZW
def zx : List Pr → ByteArray → Option Val
  | [], _ => none
  | p :: r, s => if p.name = s then some p.val else zx r s
def zhs : List Pr → ByteArray → Nat → Int
  | [], _, _ => -1
  | p :: r, s, k => if p.name = s then k else zhs r s (k + 1)
theorem zj4 {l : List Pr} {p : Pr} {s : ByteArray} {i : Nat} (h : l[i]? = some p) (hx : p.name = s) : zx (l.drop i) s = some p.val := by rw [zan h]; simp [zx, hx]
theorem zga {l : List Pr} {p : Pr} {s : ByteArray} {i : Nat} (h : l[i]? = some p) (hx : ¬ p.name = s) : zx (l.drop i) s = zx (l.drop (i + 1)) s := by rw [zan h]; simp [zx, hx]
theorem zj5 {l : List Pr} {s : ByteArray} {i : Nat} (h : l.length ≤ i) : zx (l.drop i) s = none := by rw [List.drop_eq_nil_of_le h]; rfl
def z02 : Option Val → CV
  | some v => .tup [v.cv, .sc (.bool true)]
  | none => .tup [nullV.cv, .sc (.bool false)]
theorem ztv {a b : CV} {σ : Heap} (h : b = a) : COut.ret a σ = .ret b σ := by rw [h]
theorem zj6 {σ : Heap} {l : List Pr} {s : ByteArray} (hl : l.length ≤ 1000) : CRun Tryz.prog 120 [.vec (prs l), .sc (.string s)] σ (· = .ret (z02 (zx l s)) σ) := by
  have e3 := vw l
  refine ZX Tryz.func120 Tryz.ntmps120 ?_
  conv => whnf
  repeat' (first | refine Zh ?_ | refine Za ?_ | refine Zb ?_ | refine Zc ?_ | refine Zd ?_ | refine Ze ?_ | refine Zg ?_ | refine Zv (fun h => ?_) (fun h => ?_) | refine Zj ?_ | refine Zk ?_ | refine Zl ?_ | refine Zm ?_ | refine Zn ?_ | refine Zo ?_ | refine Zp ?_ | refine Zq ?_ | refine Zu (fun l hl => ?_) | refine Zr ?_) <;> try (conv => whnf)
  refine LoopN.rule (α := Nat) (fun i => ⟨22, [(1, .sc (.string s)), (4, .ptr (.f 4) 0), (8, .vec (prs l)), (9, i64 (prs l).length), (10, i64 i)], [(4, .cells [i64 0, i64 0, .sc (.string ⟨#[]⟩), .nil])]⟩)
    (fun _ => σ) (fun i => l.length - i) (fun i => i ≤ l.length ∧ zx l s = zx (l.drop i) s) ?_ 0 ⟨by omega, rfl⟩ ?_
  · rintro i K ⟨h1, h2⟩ hK
    dsimp only at h1 h2 ⊢
    by_cases hi : i < l.length
    · obtain ⟨d, vk, vn, vt, vl, hm, hg, hg'⟩ := zcd hi
      by_cases hk : d = s
      · rw [zj4 hg hk] at h2
        conv => whnf
        repeat' (first | refine Zh ?_ | refine Za ?_ | refine Zb ?_ | refine Zc ?_ | refine Zd ?_ | refine Ze ?_ | refine Zg ?_ | refine Zv (fun h => ?_) (fun h => ?_) | refine Zj ?_ | refine Zk ?_ | refine Zl ?_ | refine Zm ?_ | refine Zn ?_ | refine Zo ?_ | refine Zp ?_ | refine Zq ?_ | refine Zu (fun l hl => ?_) | refine Zr ?_) <;> try (conv => whnf)
        exact ztv (by rw [h2]; rfl)
      · rw [zga hg hk] at h2
        conv => whnf
        repeat' (first | refine Zh ?_ | refine Za ?_ | refine Zb ?_ | refine Zc ?_ | refine Zd ?_ | refine Ze ?_ | refine Zg ?_ | refine Zv (fun h => ?_) (fun h => ?_) | refine Zj ?_ | refine Zk ?_ | refine Zl ?_ | refine Zm ?_ | refine Zn ?_ | refine Zo ?_ | refine Zp ?_ | refine Zq ?_ | refine Zu (fun l hl => ?_) | refine Zr ?_) <;> try (conv => whnf)
        refine hK (i + 1) _ _ ⟨by omega, h2⟩ (by omega) ?_
        exact ZW
    · rw [zj5 (by omega)] at h2
      conv => whnf
      repeat' (first | refine Zh ?_ | refine Za ?_ | refine Zb ?_ | refine Zc ?_ | refine Zd ?_ | refine Ze ?_ | refine Zg ?_ | refine Zv (fun h => ?_) (fun h => ?_) | refine Zj ?_ | refine Zk ?_ | refine Zl ?_ | refine Zm ?_ | refine Zn ?_ | refine Zo ?_ | refine Zp ?_ | refine Zq ?_ | refine Zu (fun l hl => ?_) | refine Zr ?_) <;> try (conv => whnf)
      exact ztv (by rw [h2]; rfl)
  · exact ZW
theorem ze8 {σ : Heap} {l : List Pr} {s : ByteArray} (hl : l.length ≤ 1000) : CRun Tryz.prog 53 [.vec (prs l), .sc (.string s)] σ (· = .ret ((zx l s).getD nullV).cv σ) := by
  have e3 := vw l
  refine ZX Tryz.func53 Tryz.ntmps53 ?_
  conv => whnf
  repeat' (first | refine Zh ?_ | refine Za ?_ | refine Zb ?_ | refine Zc ?_ | refine Zd ?_ | refine Ze ?_ | refine Zg ?_ | refine Zv (fun h => ?_) (fun h => ?_) | refine Zj ?_ | refine Zk ?_ | refine Zl ?_ | refine Zm ?_ | refine Zn ?_ | refine Zo ?_ | refine Zp ?_ | refine Zq ?_ | refine Zu (fun l hl => ?_) | refine Zr ?_) <;> try (conv => whnf)
  refine LoopN.rule (α := Nat) (fun i => ⟨21, [(1, .sc (.string s)), (4, .ptr (.f 4) 0), (7, .vec (prs l)), (8, i64 (prs l).length), (9, i64 i)], [(4, .cells [i64 0, i64 0, .sc (.string ⟨#[]⟩), .nil])]⟩)
    (fun _ => σ) (fun i => l.length - i) (fun i => i ≤ l.length ∧ zx l s = zx (l.drop i) s) ?_ 0 ⟨by omega, rfl⟩ ?_
  · rintro i K ⟨h1, h2⟩ hK
    dsimp only at h1 h2 ⊢
    by_cases hi : i < l.length
    · obtain ⟨d, vk, vn, vt, vl, hm, hg, hg'⟩ := zcd hi
      by_cases hk : d = s
      · rw [zj4 hg hk] at h2
        conv => whnf
        repeat' (first | refine Zh ?_ | refine Za ?_ | refine Zb ?_ | refine Zc ?_ | refine Zd ?_ | refine Ze ?_ | refine Zg ?_ | refine Zv (fun h => ?_) (fun h => ?_) | refine Zj ?_ | refine Zk ?_ | refine Zl ?_ | refine Zm ?_ | refine Zn ?_ | refine Zo ?_ | refine Zp ?_ | refine Zq ?_ | refine Zu (fun l hl => ?_) | refine Zr ?_) <;> try (conv => whnf)
        exact ztv (by rw [h2]; rfl)
      · rw [zga hg hk] at h2
        conv => whnf
        repeat' (first | refine Zh ?_ | refine Za ?_ | refine Zb ?_ | refine Zc ?_ | refine Zd ?_ | refine Ze ?_ | refine Zg ?_ | refine Zv (fun h => ?_) (fun h => ?_) | refine Zj ?_ | refine Zk ?_ | refine Zl ?_ | refine Zm ?_ | refine Zn ?_ | refine Zo ?_ | refine Zp ?_ | refine Zq ?_ | refine Zu (fun l hl => ?_) | refine Zr ?_) <;> try (conv => whnf)
        refine hK (i + 1) _ _ ⟨by omega, h2⟩ (by omega) ?_
        exact ZW
    · rw [zj5 (by omega)] at h2
      conv => whnf
      repeat' (first | refine Zh ?_ | refine Za ?_ | refine Zb ?_ | refine Zc ?_ | refine Zd ?_ | refine Ze ?_ | refine Zg ?_ | refine Zv (fun h => ?_) (fun h => ?_) | refine Zj ?_ | refine Zk ?_ | refine Zl ?_ | refine Zm ?_ | refine Zn ?_ | refine Zo ?_ | refine Zp ?_ | refine Zq ?_ | refine Zu (fun l hl => ?_) | refine Zr ?_) <;> try (conv => whnf)
      exact ztv (by rw [h2]; rfl)
  · exact ZW
def zcl (l : List Pr) (s : ByteArray) : Rs := match zx l s with
  | some v => .ok v
  | none => .err 3
theorem zj2 {σ : Heap} {l : List Pr} {s : ByteArray} (hl : l.length ≤ 1000) : CRun Tryz.prog 130 [.vec (prs l), .sc (.string s)] σ (· = zep σ (zcl l s)) := by
  have c := zj6 (σ := σ) (s := s) hl
  cases h : zx l s with
  | none =>
    rw [h] at c
    have o : zcl l s = .err 3 := by unfold zcl; rw [h]
    rw [o]
    refine ZX Tryz.func130 Tryz.ntmps130 ?_
    conv => whnf
    repeat' (first | (refine ZC c ?_) | (refine yx ?_) | refine Zh ?_ | refine Za ?_ | refine Zb ?_ | refine Zc ?_ | refine Zd ?_ | refine Ze ?_ | refine Zg ?_ | refine Zv (fun h => ?_) (fun h => ?_) | refine Zj ?_ | refine Zk ?_ | refine Zl ?_ | refine Zm ?_ | refine Zn ?_ | refine Zo ?_ | refine Zp ?_ | refine Zq ?_ | refine Zu (fun l hl => ?_) | refine Zr ?_) <;> try (conv => whnf)
    all_goals rfl
  | some v =>
    rw [h] at c
    have o : zcl l s = .ok v := by unfold zcl; rw [h]
    rw [o]
    obtain ⟨k, n, t, vl⟩ := v
    refine ZX Tryz.func130 Tryz.ntmps130 ?_
    conv => whnf
    repeat' (first | (refine ZC c ?_) | (refine yx ?_) | refine Zh ?_ | refine Za ?_ | refine Zb ?_ | refine Zc ?_ | refine Zd ?_ | refine Ze ?_ | refine Zg ?_ | refine Zv (fun h => ?_) (fun h => ?_) | refine Zj ?_ | refine Zk ?_ | refine Zl ?_ | refine Zm ?_ | refine Zn ?_ | refine Zo ?_ | refine Zp ?_ | refine Zq ?_ | refine Zu (fun l hl => ?_) | refine Zr ?_) <;> try (conv => whnf)
    all_goals rfl
def zh9 (l : List Pr) (i : Nat) : Bool := match l[i]? with
  | some p => ya p.name && (okV 3 p.val && decide (zhs l p.name 0 = i))
  | none => true
def zbs (l : List Pr) : Bool := (List.range l.length).all (zh9 l)
theorem znx {l : List Pr} {i : Nat} {p : Pr} (h : l[i]? = some p) : zh9 l i = (ya p.name && (okV 3 p.val && decide (zhs l p.name 0 = i))) := by unfold zh9; rw [h]
theorem zeo : ∀ (ids : List Int) (d : Int) (k : Nat), zq ids d k = -1 ∨ ∃ i : Nat, i < ids.length ∧ zq ids d k = ((k + i : Nat) : Int)
  | [], _, _ => .inl rfl
  | x :: r, d, k => by
    simp only [zq]
    by_cases h : x = d
    · rw [if_pos h]; exact .inr ⟨0, by simp, by simp⟩
    · rw [if_neg h]
      rcases zeo r d (k + 1) with h2 | ⟨i, h2, h3⟩
      · exact .inl h2
      · exact .inr ⟨i + 1, by simp; omega, by rw [h3]; congr 1; omega⟩
theorem zlp {ids : List Int} {d : Int} (h : 0 ≤ zq ids d 0) : ∃ i : Nat, i < ids.length ∧ zq ids d 0 = i := by
  rcases zeo ids d 0 with h2 | ⟨i, h2, h3⟩
  · omega
  · exact ⟨i, h2, by rw [h3]; simp⟩
def qf (g : Gr) : Val → Option (List Pr)
  | .mk k n _ _ => if k = 5 then (if 0 ≤ zq (ve g.nodes) n 0 then (g.nodes[(zq (ve g.nodes) n 0).toNat]?).map Nd.props else none)
    else if k = 6 then (if 0 ≤ zq (zbq g.edges) n 0 then (g.edges[(zq (zbq g.edges) n 0).toNat]?).map Ed.props else none) else none
def zkl (g : Gr) (v : Val) (s : ByteArray) : Val := match qf g v with
  | some l => (zx l s).getD nullV
  | none => nullV
theorem zfy {g : Gr} {k n : Int} {t : ByteArray} {l : List Val} : qf g (.mk k n t l) = if k = 5 then (if 0 ≤ zq (ve g.nodes) n 0 then (g.nodes[(zq (ve g.nodes) n 0).toNat]?).map Nd.props else none)
    else if k = 6 then (if 0 ≤ zq (zbq g.edges) n 0 then (g.edges[(zq (zbq g.edges) n 0).toNat]?).map Ed.props else none) else none := rfl
theorem qe (g : Gr) (k n : Int) (t : ByteArray) (l : List Val) :
    (k = 5 ∧ ∃ (i : Nat) (d : Int) (ls : List ByteArray) (ps : List Pr), i < g.nodes.length ∧ zq (ve g.nodes) n 0 = i ∧ (⟨d, ls, ps⟩ : Nd) ∈ g.nodes ∧ (nds g.nodes)[i]? = some (.agg [i64 d, .vec (wq ls), .vec (prs ps)]) ∧ qf g (.mk k n t l) = some ps) ∨
    (k = 6 ∧ ∃ (i : Nat) (d : Int) (s : ByteArray) (a b : Int) (ps : List Pr), i < g.edges.length ∧ zq (zbq g.edges) n 0 = i ∧ (⟨d, s, a, b, ps⟩ : Ed) ∈ g.edges ∧ (eds g.edges)[i]? = some (.agg [i64 d, .sc (.string s), i64 a, i64 b, .vec (prs ps)]) ∧ qf g (.mk k n t l) = some ps) ∨
    (qf g (.mk k n t l) = none ∧ (k = 5 → zq (ve g.nodes) n 0 < 0) ∧ (k = 6 → zq (zbq g.edges) n 0 < 0)) := by
  rw [zfy]
  by_cases k5 : k = 5
  · by_cases hp : 0 ≤ zq (ve g.nodes) n 0
    · obtain ⟨i, hi, he⟩ := zlp hp
      rw [zdc] at hi
      obtain ⟨d, ls, ps, hm, hg, hg', hd⟩ := kf hi
      refine .inl ⟨k5, i, d, ls, ps, hi, he, hm, hg', ?_⟩
      rw [if_pos k5, if_pos hp, he]
      simp [hg]
    · refine .inr (.inr ⟨by rw [if_pos k5, if_neg hp], fun _ => by omega, fun h => by omega⟩)
  · by_cases k6 : k = 6
    · by_cases hp : 0 ≤ zq (zbq g.edges) n 0
      · obtain ⟨i, hi, he⟩ := zlp hp
        rw [zdo] at hi
        obtain ⟨d, s, a, b, ps, hm, hg, hg', hd⟩ := qp hi
        refine .inr (.inl ⟨k6, i, d, s, a, b, ps, hi, he, hm, hg', ?_⟩)
        rw [if_neg k5, if_pos k6, if_pos hp, he]
        simp [hg]
      · refine .inr (.inr ⟨by rw [if_neg k5, if_pos k6, if_neg hp], fun h => by omega, fun h => by omega⟩)
    · exact .inr (.inr ⟨by rw [if_neg k5, if_neg k6], fun h => by omega, fun h => by omega⟩)
theorem zyi {σ : Heap} {g : Gr} {v : Val} {s : ByteArray} (hg : GrTame g) : CRun Tryz.prog 145 [g.cv, v.cv, .sc (.string s)] σ (· = .ret (zkl g v s).cv σ) := by
  obtain ⟨hnl, hel, hnn, hne, hns, hes⟩ := hg
  have e1 := ym g.nodes
  have e2 := ye g.edges
  obtain ⟨k, n, t, l⟩ := v
  have c3 := zff (σ := σ) (d' := n) hnl
  have c4 := zzo (σ := σ) (d' := n) hel
  have d0 : zkl g (.mk k n t l) s = match qf g (.mk k n t l) with | some l => (zx l s).getD nullV | none => nullV := rfl
  rcases qe g k n t l with ⟨k5, i, d, ls, ps, hi, hp, hm, hg', hps⟩ | ⟨k6, i, d, q, a, b, ps, hi, hp, hm, hg', hps⟩ | ⟨hps, h5, h6⟩
  · rw [hps] at d0
    dsimp only at d0
    rw [d0]
    rw [hp] at c3
    have cc := ze8 (σ := σ) (l := ps) (s := s) (hns _ hm).pl
    have c1 : CRun Tryz.prog 165 [g.cv, (Val.mk k n t l).cv] σ (· = .ret (.ref (.agg [i64 d, .vec (wq ls), .vec (prs ps)]) 2) σ) := by
      clear cc
      refine ZX Tryz.func165 Tryz.ntmps165 ?_
      conv => whnf
      repeat' (first | (refine ZC ku ?_) | (refine ZC c3 ?_) | refine Zh ?_ | refine Za ?_ | refine Zm ?_ | refine Zn ?_ | refine Zo ?_ | refine Zp ?_ | refine Zr ?_) <;> try (conv => whnf)
      all_goals rfl
    clear c3 c4
    generalize (zx ps s).getD nullV = r at cc ⊢
    obtain ⟨rk, rn, rt, rl⟩ := r
    refine ZX Tryz.func145 Tryz.ntmps145 ?_
    conv => whnf
    repeat' (first | (refine ZC c1 ?_) | (refine ZC cc ?_) | refine Zp ?_ | refine Zr ?_) <;> try (conv => whnf)
    all_goals rfl
  · rw [hps] at d0
    dsimp only at d0
    rw [d0]
    rw [hp] at c4
    have cc := ze8 (σ := σ) (l := ps) (s := s) (hes _ hm).pl
    have c1 : CRun Tryz.prog 165 [g.cv, (Val.mk k n t l).cv] σ (· = .ret (.ref (.agg [i64 d, .sc (.string q), i64 a, i64 b, .vec (prs ps)]) 4) σ) := by
      clear cc
      refine ZX Tryz.func165 Tryz.ntmps165 ?_
      conv => whnf
      repeat' (first | (refine ZC zkr ?_) | (refine ZC c4 ?_) | refine Zh ?_ | refine Za ?_ | refine Zb ?_ | refine Zm ?_ | refine Zn ?_ | refine Zo ?_ | refine Zp ?_ | refine Zr ?_) <;> try (conv => whnf)
      all_goals rfl
    clear c3 c4
    generalize (zx ps s).getD nullV = r at cc ⊢
    obtain ⟨rk, rn, rt, rl⟩ := r
    refine ZX Tryz.func145 Tryz.ntmps145 ?_
    conv => whnf
    repeat' (first | (refine ZC c1 ?_) | (refine ZC cc ?_) | refine Zp ?_ | refine Zr ?_) <;> try (conv => whnf)
    all_goals rfl
  · rw [hps] at d0
    dsimp only at d0
    rw [d0]
    have c1 : CRun Tryz.prog 165 [g.cv, (Val.mk k n t l).cv] σ (· = .ret (.sc (.pointer none)) σ) := by
      by_cases k5 : k = 5
      · have h5 := h5 k5
        refine ZX Tryz.func165 Tryz.ntmps165 ?_
        conv => whnf
        repeat' (first | (refine ZC ku ?_) | (refine ZC c3 ?_) | refine Zh ?_ | refine Za ?_ | refine Zb ?_ | refine Zn ?_ | refine Zp ?_ | refine Zr ?_) <;> try (conv => whnf)
        all_goals rfl
      · by_cases k6 : k = 6
        · have h6 := h6 k6
          refine ZX Tryz.func165 Tryz.ntmps165 ?_
          conv => whnf
          repeat' (first | (refine ZC zkr ?_) | (refine ZC c4 ?_) | refine Zh ?_ | refine Za ?_ | refine Zb ?_ | refine Zn ?_ | refine Zp ?_ | refine Zr ?_) <;> try (conv => whnf)
          all_goals rfl
        · skip
          refine ZX Tryz.func165 Tryz.ntmps165 ?_
          conv => whnf
          repeat' (first | refine Zb ?_ | refine Zr ?_) <;> try (conv => whnf)
          all_goals rfl
    clear c3 c4
    refine ZX Tryz.func145 Tryz.ntmps145 ?_
    conv => whnf
    repeat' (first | (refine ZC c1 ?_) | refine Zp ?_ | refine Zr ?_) <;> try (conv => whnf)
    all_goals rfl
def z3i (g : Gr) (v : Val) (s : ByteArray) : Rs := if zhy v = 5 ∨ zhy v = 6 ∨ zhy v = 0 then .ok (zkl g v s) else .err 1
theorem zot {σ : Heap} {g : Gr} {v : Val} {s : ByteArray} (hg : GrTame g) : CRun Tryz.prog 133 [g.cv, v.cv, .sc (.string s)] σ (· = zep σ (z3i g v s)) := by
  have c := zyi (σ := σ) (v := v) (s := s) hg
  obtain ⟨k, n, t, l⟩ := v
  have d0 : z3i g (.mk k n t l) s = if k = 5 ∨ k = 6 ∨ k = 0 then .ok (zkl g (.mk k n t l) s) else .err 1 := rfl
  by_cases h : k = 5 ∨ k = 6 ∨ k = 0
  · rw [d0, if_pos h]
    generalize zkl g (.mk k n t l) s = r at c ⊢
    obtain ⟨rk, rn, rt, rl⟩ := r
    refine ZX Tryz.func133 Tryz.ntmps133 ?_
    rcases h with h | h | h
    all_goals
      conv => whnf
      repeat' (first | (refine ZC c ?_) | refine Zc ?_ | refine Zd ?_ | refine Zp ?_ | refine Zr ?_) <;> try (conv => whnf)
      all_goals rfl
  · rw [d0, if_neg h]
    have h1 : ¬ k = 5 := by omega
    have h2 : ¬ k = 6 := by omega
    have h3 : ¬ k = 0 := by omega
    refine ZX Tryz.func133 Tryz.ntmps133 ?_
    conv => whnf
    repeat' (first | (refine yx ?_) | refine Zc ?_) <;> try (conv => whnf)
    all_goals rfl
def ofC : Option (List Pr) → CV
  | some l => .tup [.vec (prs l), .sc (.bool true)]
  | none => .tup [.vec [], .sc (.bool false)]
theorem z5d {σ : Heap} {g : Gr} {v : Val} (hg : GrTame g) : CRun Tryz.prog 84 [g.cv, v.cv] σ (· = .ret (ofC (qf g v)) σ) := by
  obtain ⟨hnl, hel, hnn, hne, hns, hes⟩ := hg
  have e1 := ym g.nodes
  have e2 := ye g.edges
  obtain ⟨k, n, t, l⟩ := v
  have c3 := z40 (σ := σ) (g := g) (d' := n) hnl
  have c4 := z7g (σ := σ) (g := g) (d' := n) hel
  rcases qe g k n t l with ⟨k5, i, d, ls, ps, hi, hp, hm, hg', hps⟩ | ⟨k6, i, d, q, a, b, ps, hi, hp, hm, hg', hps⟩ | ⟨hps, h5, h6⟩
  · rw [hps]
    rw [hp] at c3
    refine ZX Tryz.func84 Tryz.ntmps84 ?_
    conv => whnf
    repeat' (first | (refine ZC c3 ?_) | (refine ZC c4 ?_) | refine Za ?_ | refine Zm ?_ | refine Zo ?_ | refine Zp ?_ | refine Zr ?_) <;> try (conv => whnf)
    all_goals rfl
  · rw [hps]
    rw [hp] at c4
    refine ZX Tryz.func84 Tryz.ntmps84 ?_
    conv => whnf
    repeat' (first | (refine ZC c3 ?_) | (refine ZC c4 ?_) | refine Za ?_ | refine Zb ?_ | refine Zm ?_ | refine Zo ?_ | refine Zp ?_ | refine Zr ?_) <;> try (conv => whnf)
    all_goals rfl
  · rw [hps]
    by_cases k5 : k = 5
    · have h5 := h5 k5
      refine ZX Tryz.func84 Tryz.ntmps84 ?_
      conv => whnf
      repeat' (first | (refine ZC c3 ?_) | (refine ZC c4 ?_) | refine Za ?_ | refine Zb ?_ | refine Zp ?_ | refine Zr ?_) <;> try (conv => whnf)
      all_goals rfl
    · by_cases k6 : k = 6
      · have h6 := h6 k6
        refine ZX Tryz.func84 Tryz.ntmps84 ?_
        conv => whnf
        repeat' (first | (refine ZC c3 ?_) | (refine ZC c4 ?_) | refine Za ?_ | refine Zb ?_ | refine Zp ?_ | refine Zr ?_) <;> try (conv => whnf)
        all_goals rfl
      · skip
        refine ZX Tryz.func84 Tryz.ntmps84 ?_
        conv => whnf
        repeat' (first | (refine ZC c3 ?_) | (refine ZC c4 ?_) | refine Zb ?_ | refine Zp ?_ | refine Zr ?_) <;> try (conv => whnf)
        all_goals rfl
theorem zvt {σ : Heap} {g : Gr} {v : Val} {s : ByteArray} (hg : GrTame g) : CRun Tryz.prog 50 [g.cv, v.cv, .sc (.string s)] σ (· = .ret (zkl g v s).cv σ) := by
  have c := z5d (σ := σ) (v := v) hg
  have hall : ∀ ps, qf g v = some ps → ps.length ≤ 1000 ∧ ∀ p ∈ ps, PrTame p := by
    obtain ⟨k, n, t, l⟩ := v
    intro ps' h
    rcases qe g k n t l with ⟨k5, i, d, ls, ps, hi, hp, hm, hg', hps⟩ | ⟨k6, i, d, q, a, b, ps, hi, hp, hm, hg', hps⟩ | ⟨hps, h5, h6⟩
    · rw [hps] at h; cases h; exact ⟨(hg.ns _ hm).pl, (hg.ns _ hm).ps⟩
    · rw [hps] at h; cases h; exact ⟨(hg.es _ hm).pl, (hg.es _ hm).ps⟩
    · rw [hps] at h; cases h
  have d0 : zkl g v s = match qf g v with | some l => (zx l s).getD nullV | none => nullV := rfl
  have nothing : ∀ (l : List Pr) , l.length ≤ 1000 → (∀ p ∈ l, PrTame p) → CRun Tryz.prog 84 [g.cv, v.cv] σ (· = .ret (.tup [.vec (prs l), .sc (.bool true)]) σ) ∨ CRun Tryz.prog 84 [g.cv, v.cv] σ (· = .ret (.tup [.vec (prs l), .sc (.bool false)]) σ) →
      CRun Tryz.prog 50 [g.cv, v.cv, .sc (.string s)] σ (· = .ret ((zx l s).getD nullV).cv σ) := by
    intro l hl ht c
    obtain ⟨k, n, t, vl⟩ := v
    have e3 := vw l
    clear hall d0
    obtain ⟨b, c⟩ : ∃ b, CRun Tryz.prog 84 [g.cv, (Val.mk k n t vl).cv] σ (· = .ret (.tup [.vec (prs l), .sc (.bool b)]) σ) := by
      rcases c with c | c
      · exact ⟨_, c⟩
      · exact ⟨_, c⟩
    refine ZX Tryz.func50 Tryz.ntmps50 ?_
    conv => whnf
    repeat' (first | (refine ZC c ?_) | refine Zp ?_) <;> try (conv => whnf)
    refine LoopN.rule (α := Nat) (fun i => ⟨36, [(2, .sc (.string s)), (6, .ptr (.f 6) 0), (7, .vec (prs l)), (9, i64 i)], [(6, .cells [i64 0, i64 0, .sc (.string ⟨#[]⟩), .nil])]⟩)
      (fun _ => σ) (fun i => l.length - i) (fun i => i ≤ l.length ∧ zx l s = zx (l.drop i) s) ?_ 0 ⟨by omega, rfl⟩ ?_
    · rintro i K ⟨h1, h2⟩ hK
      dsimp only at h1 h2 ⊢
      by_cases hi : i < l.length
      · obtain ⟨d, vk, vn, vt, vl, hm, hg, hg'⟩ := zcd hi
        have cv := z07 (σ := σ) (ht _ hm).val
        by_cases hk : d = s
        · rw [zj4 hg hk] at h2
          conv => whnf
          repeat' (first | (refine ZC cv ?_) | refine Za ?_ | refine Zm ?_ | refine Zo ?_ | refine Zp ?_ | refine Zr ?_) <;> try (conv => whnf)
          exact ztv (by rw [h2]; rfl)
        · rw [zga hg hk] at h2
          conv => whnf
          repeat' (first | refine Za ?_ | refine Zb ?_ | refine Zm ?_ | refine Zo ?_) <;> try (conv => whnf)
          refine hK (i + 1) _ _ ⟨by omega, h2⟩ (by omega) ?_
          exact ZW
      · rw [zj5 (by omega)] at h2
        conv => whnf
        repeat' (first | refine Zb ?_ | refine Zr ?_) <;> try (conv => whnf)
        exact ztv (by rw [h2]; rfl)
    · exact ZW
  rw [d0]
  cases hp : qf g v with
  | some ps =>
    rw [hp] at c
    exact nothing ps (hall ps hp).1 (hall ps hp).2 (.inl c)
  | none =>
    rw [hp] at c
    exact nothing [] (by simp) (by simp) (.inr c)
def xj (n : Nd) : Bool := y3 n.labels && yi n.props
def yo (ids : List Int) (e : Ed) : Bool := ya e.kind && (yi e.props && (decide (0 ≤ zq ids e.src 0) && decide (0 ≤ zq ids e.dst 0)))
def zn (g : Gr) : Bool := decide ((0 ≤ g.nn ∧ g.nn ≤ 1000000000) ∧ (0 ≤ g.ne ∧ g.ne ≤ 1000000000) ∧ g.nodes.length ≤ 12 ∧ g.edges.length ≤ 16) &&
  (kc (ve g.nodes) g.nn && (kc (zbq g.edges) g.ne && (g.nodes.all xj && g.edges.all (yo (ve g.nodes)))))
theorem zrh {g : Gr} (h : ¬ ((0 ≤ g.nn ∧ g.nn ≤ 1000000000) ∧ (0 ≤ g.ne ∧ g.ne ≤ 1000000000) ∧ g.nodes.length ≤ 12 ∧ g.edges.length ≤ 16)) : zn g = false := by unfold zn; rw [decide_eq_false h]; rfl
theorem z00 {g : Gr} (h : kc (ve g.nodes) g.nn = false) : zn g = false := by unfold zn; rw [h]; simp
theorem z01 {g : Gr} (h : kc (zbq g.edges) g.ne = false) : zn g = false := by unfold zn; rw [h]; simp
theorem zrg {g : Gr} {n : Nd} (hm : n ∈ g.nodes) (h : xj n = false) : zn g = false := by
  unfold zn; rw [show g.nodes.all xj = false from List.all_eq_false.2 ⟨n, hm, by simp [h]⟩]; simp
theorem zet {g : Gr} {n : Ed} (hm : n ∈ g.edges) (h : yo (ve g.nodes) n = false) : zn g = false := by
  unfold zn; rw [show g.edges.all (yo (ve g.nodes)) = false from List.all_eq_false.2 ⟨n, hm, by simp [h]⟩]; simp
theorem zbv {α : Type} {l : List α} {p : α → Bool} (h : ∀ j v, j < l.length → l[j]? = some v → p v = true) : l.all p = true := by
  refine List.all_eq_true.2 fun v hv => ?_
  obtain ⟨j, hj, e⟩ := List.getElem_of_mem hv
  exact h j v hj (by rw [← e]; exact List.getElem?_eq_getElem hj)
theorem z5p {g : Gr} (h : (0 ≤ g.nn ∧ g.nn ≤ 1000000000) ∧ (0 ≤ g.ne ∧ g.ne ≤ 1000000000) ∧ g.nodes.length ≤ 12 ∧ g.edges.length ≤ 16) (h1 : kc (ve g.nodes) g.nn = true) (h2 : kc (zbq g.edges) g.ne = true)
    (h3 : g.nodes.all xj = true) (h4 : g.edges.all (yo (ve g.nodes)) = true) : zn g = true := by unfold zn; rw [decide_eq_true h, h1, h2, h3, h4]; rfl
theorem zdw {α : Type} {l : List α} {p : α → Prop} {i : Nat} {v : α} (h : ∀ j v, j < i → l[j]? = some v → p v) (hv : l[i]? = some v) (hp : p v) : ∀ j v, j < i + 1 → l[j]? = some v → p v := fun j w hj hw => by
  by_cases e : j = i
  · subst e; rw [hv] at hw; cases hw; exact hp
  · exact h j w (by omega) hw
set_option maxHeartbeats 1000000 in
theorem zgc {σ : Heap} {g : Gr} (hg : GrTame g) : CRun Tryz.prog 8 [g.cv] σ (· = .ret (.sc (.bool (zn g))) σ) := by
  obtain ⟨hnl, hel, hnn, hne, hns, hes⟩ := hg
  have e1 := ym g.nodes
  have e2 := ye g.edges
  by_cases hb : (0 ≤ g.nn ∧ g.nn ≤ 1000000000) ∧ (0 ≤ g.ne ∧ g.ne ≤ 1000000000) ∧ g.nodes.length ≤ 12 ∧ g.edges.length ≤ 16
  case neg =>
    have no : COut.ret (.sc (.bool false)) σ = .ret (.sc (.bool (zn g))) σ := z7 (zrh hb)
    have cases4 : (¬ (0 ≤ g.nn ∧ g.nn ≤ 1000000000 ∧ 0 ≤ g.ne ∧ g.ne ≤ 1000000000)) ∨ ((0 ≤ g.nn ∧ g.nn ≤ 1000000000 ∧ 0 ≤ g.ne ∧ g.ne ≤ 1000000000) ∧ ¬ (g.nodes.length ≤ 12 ∧ g.edges.length ≤ 16)) := by omega
    rcases cases4 with h4 | ⟨h4, h5⟩
    · have : g.nn < 0 ∨ (0 ≤ g.nn ∧ 1000000000 < g.nn) ∨ ((0 ≤ g.nn ∧ g.nn ≤ 1000000000) ∧ g.ne < 0) ∨ ((0 ≤ g.nn ∧ g.nn ≤ 1000000000) ∧ 0 ≤ g.ne ∧ 1000000000 < g.ne) := by omega
      refine ZX Tryz.func8 Tryz.ntmps8 ?_
      rcases this with h | h | h | h
      all_goals
        conv => whnf
        repeat' (first | refine Za ?_ | refine Zb ?_ | refine Zr ?_) <;> try (conv => whnf)
        exact no
    · have : 12 < g.nodes.length ∨ (g.nodes.length ≤ 12 ∧ 16 < g.edges.length) := by omega
      refine ZX Tryz.func8 Tryz.ntmps8 ?_
      rcases this with h | h
      all_goals
        conv => whnf
        repeat' (first | refine Za ?_ | refine Zb ?_ | refine Zr ?_) <;> try (conv => whnf)
        exact no
  have a1 := z43 (σ := σ) hnl hnn
  have a2 := z5y (σ := σ) hel hne
  refine ZX Tryz.func8 Tryz.ntmps8 ?_
  cases k1 : kc (ve g.nodes) g.nn <;> rw [k1] at a1
  · conv => whnf
    repeat' (first | (refine ZC ku ?_) | (refine ZC a1 ?_) | refine Zh ?_ | refine Zb ?_ | refine Zn ?_ | refine Zp ?_ | refine Zr ?_) <;> try (conv => whnf)
    exact z7 (z00 k1)
  cases k2 : kc (zbq g.edges) g.ne <;> rw [k2] at a2
  · conv => whnf
    repeat' (first | (refine ZC ku ?_) | (refine ZC a1 ?_) | (refine ZC zkr ?_) | (refine ZC a2 ?_) | refine Zh ?_ | refine Zb ?_ | refine Zn ?_ | refine Zp ?_ | refine Zr ?_) <;> try (conv => whnf)
    exact z7 (z01 k2)
  conv => whnf
  repeat' (first | (refine ZC ku ?_) | (refine ZC a1 ?_) | (refine ZC zkr ?_) | (refine ZC a2 ?_) | refine Zh ?_ | refine Zb ?_ | refine Zn ?_ | refine Zp ?_) <;> try (conv => whnf)
  refine LoopN.rule (α := Nat) (fun i => ⟨101, [(1, .ptr (.f 1) 0), (2, .sc (.bool false)), (3, .ptr (.f 3) 0), (52, .vec (nds g.nodes)), (53, i64 (nds g.nodes).length), (54, i64 i)],
      [(1, .cells [.vec (nds g.nodes), .vec (eds g.edges), i64 g.nn, i64 g.ne]), (3, .cells [.vec (nds g.nodes), .fn (.func 62) [] []])]⟩)
    (fun _ => σ) (fun i => g.nodes.length - i) (fun i => i ≤ g.nodes.length ∧ ∀ j v, j < i → g.nodes[j]? = some v → xj v = true) ?_ 0 ⟨by omega, by omega⟩ ?_
  rotate_left
  · exact ZW
  rintro i K ⟨h1, h2⟩ hK
  dsimp only at h1 h2 ⊢
  by_cases hi : i < g.nodes.length
  · obtain ⟨d, ls, ps, hm, hgg, hg', hd⟩ := kf hi
    obtain ⟨t1, t2, t3, t4⟩ := hns _ hm
    have c1 := zs3 (σ := σ) t1 t2
    have c2 := zlo (σ := σ) t3 t4
    dsimp only at c1 c2
    cases m1 : y3 ls <;> rw [m1] at c1
    · conv => whnf
      repeat' (first | (refine ZC c1 ?_) | refine Za ?_ | refine Zm ?_ | refine Zo ?_ | refine Zp ?_ | refine Zr ?_) <;> try (conv => whnf)
      exact z7 (zrg hm (by simp only [xj]; rw [m1]; rfl))
    cases m2 : yi ps <;> rw [m2] at c2
    · conv => whnf
      repeat' (first | (refine ZC c1 ?_) | (refine ZC c2 ?_) | refine Za ?_ | refine Zm ?_ | refine Zo ?_ | refine Zp ?_ | refine Zr ?_) <;> try (conv => whnf)
      exact z7 (zrg hm (by simp only [xj]; rw [m1, m2]; rfl))
    conv => whnf
    repeat' (first | (refine ZC c1 ?_) | (refine ZC c2 ?_) | refine Za ?_ | refine Zm ?_ | refine Zo ?_ | refine Zp ?_) <;> try (conv => whnf)
    refine hK (i + 1) _ _ ⟨by omega, zdw h2 hgg (by simp only [xj]; rw [m1, m2]; rfl)⟩ (by omega) ?_
    exact ZW
  have hall : g.nodes.all xj = true := zbv fun j v hj => h2 j v (by omega)
  conv => whnf
  repeat' (first | refine Zb ?_) <;> try (conv => whnf)
  refine LoopN.rule (α := Nat) (fun i => ⟨101, [(1, .ptr (.f 1) 0), (2, .sc (.bool false)), (3, .ptr (.f 3) 0), (70, .vec (eds g.edges)), (71, i64 (eds g.edges).length), (72, i64 i)],
      [(1, .cells [.vec (nds g.nodes), .vec (eds g.edges), i64 g.nn, i64 g.ne]), (3, .cells [.vec (nds g.nodes), .fn (.func 62) [] []])]⟩)
    (fun _ => σ) (fun i => g.edges.length - i) (fun i => i ≤ g.edges.length ∧ ∀ j v, j < i → g.edges[j]? = some v → yo (ve g.nodes) v = true) ?_ 0 ⟨by omega, by omega⟩ ?_
  rotate_left
  · exact ZW
  clear hK h1 h2 hi K
  clear i
  rintro i K ⟨h1, h2⟩ hK
  dsimp only at h1 h2 ⊢
  by_cases hi : i < g.edges.length
  · obtain ⟨d, k, a, b, ps, hm, hgg, hg', hd⟩ := qp hi
    obtain ⟨t1, t3, t4⟩ := hes _ hm
    dsimp only at t1 t3 t4
    have c1 := qh (σ := σ) (t := k) (by omega)
    have c2 := zlo (σ := σ) t3 t4
    have c3 := fun d' => zff (σ := σ) (d' := d') hnl
    cases m1 : ya k <;> rw [m1] at c1
    · conv => whnf
      repeat' (first | (refine ZC c1 ?_) | refine Za ?_ | refine Zm ?_ | refine Zo ?_ | refine Zp ?_ | refine Zr ?_) <;> try (conv => whnf)
      exact z7 (zet hm (by simp only [yo]; rw [m1]; rfl))
    cases m2 : yi ps <;> rw [m2] at c2
    · conv => whnf
      repeat' (first | (refine ZC c1 ?_) | (refine ZC c2 ?_) | refine Za ?_ | refine Zm ?_ | refine Zo ?_ | refine Zp ?_ | refine Zr ?_) <;> try (conv => whnf)
      exact z7 (zet hm (by simp only [yo]; rw [m1, m2]; rfl))
    by_cases m3 : 0 ≤ zq (ve g.nodes) a 0
    case neg =>
      conv => whnf
      repeat' (first | (refine ZC c1 ?_) | (refine ZC c2 ?_) | (refine ZC (c3 _) ?_) | refine Za ?_ | refine Zm ?_ | refine Zo ?_ | refine Zp ?_ | refine Zr ?_) <;> try (conv => whnf)
      exact z7 (zet hm (by simp only [yo]; rw [m1, m2, decide_eq_false m3]; rfl))
    by_cases m4 : 0 ≤ zq (ve g.nodes) b 0
    case neg =>
      conv => whnf
      repeat' (first | (refine ZC c1 ?_) | (refine ZC c2 ?_) | (refine ZC (c3 _) ?_) | refine Za ?_ | refine Zb ?_ | refine Zm ?_ | refine Zo ?_ | refine Zp ?_ | refine Zr ?_) <;> try (conv => whnf)
      exact z7 (zet hm (by simp only [yo]; rw [m1, m2, decide_eq_true m3, decide_eq_false m4]; rfl))
    conv => whnf
    repeat' (first | (refine ZC c1 ?_) | (refine ZC c2 ?_) | (refine ZC (c3 _) ?_) | refine Za ?_ | refine Zb ?_ | refine Zm ?_ | refine Zo ?_ | refine Zp ?_) <;> try (conv => whnf)
    refine hK (i + 1) _ _ ⟨by omega, zdw h2 hgg (by simp only [yo]; rw [m1, m2, decide_eq_true m3, decide_eq_true m4]; rfl)⟩ (by omega) ?_
    exact ZW
  have halle : g.edges.all (yo (ve g.nodes)) = true := zbv fun j v hj => h2 j v (by omega)
  conv => whnf
  repeat' (first | refine Zb ?_ | refine Zr ?_) <;> try (conv => whnf)
  exact z7 (z5p hb k1 k2 hall halle)
end Go.Proofs.YtlamgfimgadnmaaGreat
