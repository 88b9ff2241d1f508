/-
  Contracts of the functions that the law reaches.
-/
import Derived.Test.YthllnbfkfobcjaaGreatGJe
import Derived.Test.YthllnbfkfobcjaaGreatGM
set_option linter.unusedVariables false
set_option linter.unusedSimpArgs false
namespace Go.Proofs.YthllnbfkfobcjaaGreat
open Go Go.CL
set_option maxRecDepth 10000
theorem anyQuery_d {σ : Heap} {l : Nat} {bs : List CV} (hb : BytesOk bs) (hl : bs.length ≤ 2000) {p : Int} (hp : 0 ≤ p) (hp' : p ≤ 300000) :
    CRun Tryz.prog 50 [.ptr (.g l) 0] (rd σ l bs p) (AnyQ σ l bs p) := by
  refine (anyQuery_i hb hl hp hp').freeze fun out ho => ?_
  rcases ho with ho | ⟨cs, l1, cap, σ', p', g, h1, h4, q1, q2, hs, n1, n2, n3, e⟩
  · exact ⟨out, FrzOut.refl _, ho⟩
  · subst e
    refine ⟨.ret (.vec (cls cs)) (rd σ l bs p'), ⟨rd_sub hs, [l1], .inl (.one ?_), fun x hx => by rw [List.mem_singleton.1 hx, rd_ne n2]; exact n1⟩, cs, p', g, h1, h4, q1, q2, rfl⟩
    have hg : rd σ' l bs p' l1 = some (.arr 55 19 cap (cls cs)) := by rw [rd_ne n2]; exact n3
    have := Frz.grow (σ := rd σ' l bs p') l1 cs.length cap _ _ _ hg (by rw [cls_len]; exact Nat.le_refl _)
    rwa [List.take_of_length_le (by rw [cls_len]; exact Nat.le_refl _)] at this
def DrawQ (out : COut) : Prop := ∃ cs σ1, (∀ x ∈ cs, ClG x) ∧ 1 ≤ cs.length ∧ cs.length ≤ 9 ∧ out = .ret (.vec (cls cs)) σ1
theorem drawG_c {σ : Heap} {bs : List CV} (hb : BytesOk bs) (h2 : bs.length ≤ 1048576) : CRun Tryz.prog 27 [.vec bs] σ DrawQ := by
  refine crun_of (X := X) X_ok X_sat (body := bodyOf Tryz.f27) Tryz.func27 rfl (by kernel_rfl) (by kernel_rfl) ?_
  rw [Tryz.ntmps27]
  conv => whnf
  repeat' (first | ((refine CallN.many (open_c hb h2) ?_; rintro _ ⟨l, bs', hb', hl', rfl⟩)) | ((refine CallN.many (anyQuery_d hb' hl' (by omega) (by omega)) ?_; rintro _ ⟨cs, p', g, h1, h9, q1, q2, rfl⟩)) | refine ExtN.wr ?_ | refine finGo ?_) <;> try (conv => whnf)
  exact ⟨cs, _, g, h1, h9, rfl⟩
def Yes (out : COut) : Prop := ∃ σ, out = .ret (.sc (.bool true)) σ
theorem okE_parts2 {d k : Int} {v : Val} {s c : ByteArray} {ps : List Exp} (h : okE d (.mk k v s c ps) = true) : OkH d k v s c ps.length ∧ ∀ e ∈ ps, okE (d - 1) e = true := by
  simp only [okE, Bool.and_eq_true] at h
  refine ⟨okH_iff.1 h.1, ?_⟩
  rw [okEL_all] at h
  exact List.all_eq_true.1 h.2
theorem arity_le2 (k : Int) : arityF k ≤ 2 := by
  unfold arityF; split
  · omega
  · split
    · omega
    · split <;> omega
mutual
theorem subs_lenQ : ∀ (e : Exp) {d : Int}, okE d e = true → (subsE e).length + 1 ≤ 2 ^ d.toNat
  | .mk k v s c ps, d, h => by
    obtain ⟨h1, h2⟩ := okE_parts2 h
    have hd := h1.deep
    have ha := h1.ar
    have h3 := arity_le2 k
    have h4 := subsL_lenQ ps (d := d - 1) h2
    have e0 : (subsE (.mk k v s c ps)).length = (subsL ps).length + 1 := by simp only [subsE, List.length_cons]
    have e1 : d.toNat = (d - 1).toNat + 1 := by omega
    have h6 : ps.length ≤ 2 := by omega
    have h7 : ps.length * (2 ^ (d - 1).toNat - 1) ≤ 2 * (2 ^ (d - 1).toNat - 1) := Nat.mul_le_mul_right _ h6
    have h8 : 1 ≤ 2 ^ (d - 1).toNat := Nat.one_le_two_pow
    rw [e0, e1, Nat.pow_succ]
    omega
theorem subsL_lenQ : ∀ (l : List Exp) {d : Int}, (∀ e ∈ l, okE d e = true) → (subsL l).length ≤ l.length * (2 ^ d.toNat - 1)
  | [], d, _ => by simp [subsL]
  | e :: r, d, h => by
    have h1 := subs_lenQ e (h e (by simp))
    have h2 := subsL_lenQ r fun e he => h e (by simp [he])
    have h8 : 1 ≤ 2 ^ d.toNat := Nat.one_le_two_pow
    simp only [subsL, List.length_append, List.length_cons, Nat.add_mul, Nat.one_mul]
    omega
end
theorem ok_sh {e : Exp} (h : okE 4 e = true) : Sh e := by
  have := subs_lenQ e h
  have e1 : 2 ^ (4 : Int).toNat = 16 := rfl
  unfold Sh; omega
theorem mt_sh {e : Exp} (h : mtE e = true) : Sh e := by
  obtain ⟨k, v, s, c, ps⟩ := e
  simp only [mtE, Bool.and_eq_true, decide_eq_true_eq] at h
  have : ps = [] := List.eq_nil_of_length_eq_zero h.2.2.2.2
  subst this
  unfold Sh; simp [subsE, subsL]
theorem ok_ar {e : Exp} (h : okE 4 e = true) : AR e := by
  rintro k v s c ps rfl
  have ha := (okE_parts2 h).1.ar
  constructor
  · rintro rfl
    have : arityF 15 = 1 := rfl
    omega
  · rintro rfl
    have : arityF 14 = 0 := rfl
    omega
theorem paths_sh {l : List Pth} (h : pthsOk l = true) : ∀ x ∈ l, PthSh x := by
  have hp : ∀ {ps : List Pt}, ptsOk ps = true → ∀ p ∈ ps, Sh p.e := fun {ps} h p hp => by
    simp only [ptsOk, Bool.and_eq_true] at h
    obtain ⟨i, hi, rfl⟩ := List.mem_iff_getElem.1 hp
    have := List.all_eq_true.1 h.2 i (List.mem_range.2 hi)
    rw [ptAt_of (List.getElem?_eq_getElem hi)] at this
    simp only [Bool.and_eq_true] at this
    exact ok_sh this.2.1
  have hs : ∀ {s : Sp}, spOk s = true → SpSh s := fun {s} h => by
    simp only [spOk, Bool.and_eq_true] at h
    exact hp h.2.2
  intro x hx
  simp only [pthsOk, Bool.and_eq_true] at h
  have h1 := List.all_eq_true.1 h.2 x hx
  simp only [pthOk, Bool.and_eq_true] at h1
  refine ⟨hs h1.1, fun y hy => ?_⟩
  have h2 := List.all_eq_true.1 h1.2.2 y hy
  simp only [hpOk, Bool.and_eq_true] at h2
  exact hs h2.2.2.2
theorem items_ok {is : List It} {os : List Od} {sk li : Int} (h : rowsOk is os sk li = true) : ∀ x ∈ is, okE 4 x.e = true := by
  intro x hx
  simp only [rowsOk, Bool.and_eq_true] at h
  obtain ⟨i, hi, rfl⟩ := List.mem_iff_getElem.1 hx
  have := List.all_eq_true.1 h.2.2.2.2.1 i (List.mem_range.2 hi)
  rw [itAt_of (List.getElem?_eq_getElem hi)] at this
  simp only [Bool.and_eq_true] at this
  exact this.2.1
theorem tos_sh {l : List Tg} (h : tgsOk l = true) : ∀ x ∈ l, Sh x.e := by
  intro x hx
  simp only [tgsOk, Bool.and_eq_true] at h
  have h1 := List.all_eq_true.1 h.2 x hx
  simp only [tgOk, Bool.and_eq_true] at h1
  exact ok_sh h1.2.2
theorem clSh_of {c : Cl} (he : Sh c.e) (hp : ∀ x ∈ c.paths, PthSh x) (hi : ∀ x ∈ c.items, okE 4 x.e = true) (ht : ∀ x ∈ c.tos, Sh x.e) : ClSh c ∧ ClArs c :=
  ⟨⟨he, hp, fun x hx => ok_sh (hi x hx), fun x hx k v s d ps e h15 hn => by
    have := (ok_ar (hi x hx) k v s d ps e).1 h15
    subst hn; simp at this, ht⟩, fun x hx => ok_ar (hi x hx)⟩
theorem nil_all {α : Type} {l : List α} {P : α → Prop} (h : l.length = 0) : ∀ x ∈ l, P x := by
  rw [List.eq_nil_of_length_eq_zero h]; simp
theorem clOk_sh {c : Cl} (h : clOk c = true) : ClSh c ∧ ClArs c := by
  unfold clOk at h
  split at h
  · simp only [Bool.and_eq_true, rB, tB, nB, eB, mB, decide_eq_true_eq] at h
    exact clSh_of (mt_sh h.2.2.2.2.1) (paths_sh h.1) (nil_all h.2.1.1) (nil_all h.2.2.1)
  · split at h
    · simp only [Bool.and_eq_true, pB, rB, tB, nB, eB, mB, decide_eq_true_eq] at h
      exact clSh_of (ok_sh h.1) (nil_all h.2.1) (nil_all h.2.2.1.1) (nil_all h.2.2.2.1)
    · split at h
      · simp only [Bool.and_eq_true, pB, rB, tB, nB, eB, mB, decide_eq_true_eq] at h
        exact clSh_of (ok_sh h.1) (nil_all h.2.2.1) (nil_all h.2.2.2.1.1) (nil_all h.2.2.2.2.1)
      · split at h
        · simp only [Bool.and_eq_true, pB, rB, tB, nB, eB, mB, decide_eq_true_eq] at h
          exact clSh_of (mt_sh h.2.2.2.2.1) (nil_all h.2.1) (items_ok h.1) (nil_all h.2.2.1)
        · split at h
          · simp only [Bool.and_eq_true, pB, rB, tB, nB, eB, mB, decide_eq_true_eq] at h
            exact clSh_of (mt_sh h.2.2.2.2.1) (nil_all h.2.1) (nil_all h.2.2.1.1) (tos_sh h.1)
          · split at h
            · simp only [Bool.and_eq_true, pB, rB, tB, nB, eB, mB, decide_eq_true_eq] at h
              exact clSh_of (mt_sh h.2.2.2.2.1) (nil_all h.2.1) (nil_all h.2.2.1.1) (nil_all h.2.2.2.1)
            · cases h
theorem check_parts {q : List Cl} (h : checkN q = 0) : clsOk q = true ∧ endsOk q = true ∧ (runN clN q []).1 = 0 := by
  unfold checkN at h
  split at h
  · rename_i h1
    split at h
    · rename_i h2; exact ⟨h1, h2, h⟩
    · cases h
  · cases h
end Go.Proofs.YthllnbfkfobcjaaGreat
